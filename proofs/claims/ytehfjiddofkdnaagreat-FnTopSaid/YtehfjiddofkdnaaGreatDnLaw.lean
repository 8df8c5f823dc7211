import Derived.Test.YtehfjiddofkdnaaGreatDnOpen
import Derived.ProofKit
import Derived.WideKeyArgs
import Derived.Carry
/- From what the abstract semantics says of a law to the law's statement. -/
open Bool renaming false->G,true->O
namespace Go.Dn
open Go.RowKit Go.ChangeShapes Go.WideShapes Go.ChangeAt
section
variable {H:Type} {enc:TypeId×Value->H} {P:Program} {w:World} {base:Nat} {held:Bool}
def atg (P:Program)(t:TypeId):Bool:=
 match P.underlying t with
 |some (.struct _)=>O
 |_=>G
theorem aqi {n t e g v d l r m}(b:abY P n t e=O)(f:atg P t=g)(a:Value.okWide P w r m t v)(h:DataW.Trod enc P w base (λ_=>O) held t v d l):∃x:e.D,iY (gZ (λ_=>Old w) (λ_=>0) w) v (.val g (cellsOf e (.arg G) x)) []/\InR e x:=by
 obtain⟨fuel,h⟩:=h;obtain⟨x,p,i⟩:=Th n t e fuel _ d l b h;refine⟨x,⟨v.cells.toList,?_,NU (c:=gZ (λ_=>Old w) (λ_=>0) w) (k:=false) p⟩,i⟩;unfold atg at f;cases n with
 |zero=>cases b
 |succ n=>
  unfold abY at b;unfold Value.okWide at a;cases j:P.underlying t with
  |none=>rw[j]at b;cases b
  |some o=>
   rw[j]at b f a;cases o<;>simp only at b f a<;>try (cases b)
   all_goals first
    |(subst f
      unfold Cell.okWide Cell.ok at a
      rw[j]at a
      cases v<;>simp_all[Cut,Value.cells])
    |(subst f
      obtain⟨q,rfl,_⟩:=a
      simp[Cut,Value.cells])
theorem Pk (k:laidOutB P=O){W i:World}(j:Below W.heap.size W i){sp:Nat->Bool}:∀{e:Z TypeId}{g:oz}{f:Z (DataW H)}{b:Z MemPlace},e.all (λt=>P.readableRec t&&decide (t<P.types.size))=O->
 DataW.TrodAll enc P W 0 (λ_=>O) O e g f b->(∀p∈b,sp p.block=O)->(∀p∈b,p.block<W.heap.size)->DataW.TrodAll enc P i 0 sp O e g f b
 |[],[],[],_,_,h,_,_=>h
 |t::e,v::g,d::f,b,c,h,m,l=>by obtain⟨p,q,n,o,rfl⟩:=h;simp only[cC,af,bO]at c;refine⟨p,q,WideElems.Trod_stays k c.1.1 c.1.2 n (λx a=>j.same (l x (bh _ a))) (λx a=>m x (bh _ a)),?_,rfl⟩;exact Pk k j (by simpa using c.2) o (λx a=>m x (bC _ a)) (λx a=>l x (bC _ a))
 |[],_::_,_,_,_,h,_,_=>h.elim
 |[],[],_::_,_,_,h,_,_=>h.elim
 |_::_,[],_,_,_,h,_,_=>h.elim
 |_::_,_::_,[],_,_,h,_,_=>h.elim
theorem Yv {W:World}{sp:Nat->Bool}:∀{e:Z TypeId}{f:oz}{c:Z (DataW H)}{b:Z MemPlace},DataW.TrodAll enc P W base sp held e f c b->∀p∈b,p.block<W.heap.size
 |[],[],[],b,h=>by cases h;simp
 |t::e,v::f,d::c,b,h=>by obtain⟨p,q,⟨n,g⟩,i,rfl⟩:=h;intro x a;rcases aB.1 a with a|a;exact DataW.trod_lt n t _ _ g x a;exact Yv i x a
 |[],_::_,_,_,h=>h.elim
 |[],[],_::_,_,h=>h.elim
 |_::_,[],_,_,h=>h.elim
 |_::_,_::_,[],_,h=>h.elim
theorem apY {f}{s:ChangeSpec}{W h args b before m}(o:laidOutB P=O)(c:f.params.toList.all (λt=>P.readableRec t&&decide (t<P.types.size))=O)(d:f.resultTypes=#[m])(e:P.underlying m=some .bool)(g:s.vars=[])(a:s.fn H (b++[])={results:=[.lit (.bool O)],args:=b})(j:DataW.Whole enc P f.params.toList s.vars G W args.toList b [] before)(k:Below W.heap.size W h): s.post enc P f G O G G W args (.bool O) h:=by obtain⟨p,q,i,v,rfl,n,r⟩:=id j;have l:=Yv i;refine⟨b,[],p++q,[],p,[],j,?_,?_,?_,k.frame _,aD⟩;rw[d,a];exact trodAll_mk1 (shut_bool e O);rw[a];exact Pk o k c i (λx u=>by simpa using l x u) l;rw[a,g];exact rfl
theorem amI {K F}(hF:rC P K F)(g:F.io=G)(d:F.bx=G){W vs xs}(a:uh (λ_=>Old W) W vs xs){y}(k:F.fn xs=some y)(c:F.res y=.one (.bool O)): Calls P K vs.toArray W λe j=>e=.returned (.bool O)/\Below W.heap.size W j:=by refine((hF xs _ k).2.1 g d (λ_=>Old W) W vs (λ_ b o h=>h) a).mono ?_;rintro e n ⟨v,m,l,rfl,i,_,_,f⟩;rw[c]at i;have:=Di i;subst this;exact⟨rfl,f.below⟩
end
def IY.add (a:IY)(f:Nat)(F:JD):IY:=λg=>bif Nat.beq g f then F else a g
def IY.nil:IY:=λ_=>{R:=Unit,fn:=λ_=>none,av:=λ_=> .bot}
theorem Sound.nil {P E}(ty:mL P E.ty)(eqs:adx P E.eqs)(a:ajW P E.fts)(mixed:P.follows .mixedOrders=O):Sound P E IY.nil:=⟨ty,eqs,a,(λf b y h=>by cases h),mixed⟩
theorem Sound.add {P E b}(a:Sound P E b){f F}(h:rC P f F):Sound P E (b.add f F):=by refine⟨a.ty,a.eqs,a.fts,λg=>?_,a.mixed⟩;unfold IY.add;cases c:Nat.beq g f with|true=>have:g=f:=Nat.eq_of_beq_eq_true c;subst this;exact h|false=>exact a.fns g
end Go.Dn
