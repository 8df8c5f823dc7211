import Derived.Test.YtinkcmefgciifaaGreatDnOpen
import Derived.ProofKit
import Derived.WideKeyArgs
import Derived.Carry
/- From what the abstract semantics says of a law to the law's statement. -/
namespace Go.Dn
open Go.RowKit Go.ChangeShapes Go.WideShapes Go.ChangeAt
section
variable {H:Type} {enc:TypeId×Value->H} {P:Program} {w:World} {base:Nat} {held:Bool}
def ahg (P:Program)(t:TypeId):Bool:=
 match P.underlying t with
 |some (.struct _)=>true
 |_=>false
theorem adD {n:Nat}{t:TypeId}{e:CT}{g:Bool}{v:Value}{d:DataW H}{ps:ax MemPlace}{r:Reach}{b0:Nat}(hc:OU P n t e=true)(hg:ahg P t=g)(EV:Value.okWide P w r b0 t v)(hd:DataW.Trod enc P w base (λ_=>true) held t v d ps):∃x:e.D,fX (fK (λ_=>Old w) (λ_=>0) w) v (.val g (cellsOf e (.arg false) x)) []/\InR e x:=by
 obtain⟨fuel,hd⟩:=hd;obtain⟨x,hr,ta⟩:=HS n t e fuel _ d ps hc hd;refine⟨x,⟨v.cells.toList,?_,Dm (c:=fK (λ_=>Old w) (λ_=>0) w) (k:=false) hr⟩,ta⟩;unfold ahg at hg;cases n with
 |zero=>cases hc
 |succ n=>
  unfold OU at hc;unfold Value.okWide at EV;cases hu:P.underlying t with
  |none=>rw[hu]at hc;cases hc
  |some dd=>
   rw[hu]at hc hg EV;cases dd<;>simp only at hc hg EV<;>try (cases hc)
   all_goals first
    |(subst hg
      unfold Cell.okWide Cell.ok at EV
      rw[hu]at EV
      cases v<;>simp_all[Cut,Value.cells])
    |(subst hg
      obtain⟨cs,rfl,_⟩:=EV
      simp[Cut,Value.cells])
theorem Ez (hl:laidOutB P=true){W W':World}(hb:Below W.heap.size W W'){sp:Nat->Bool}:∀{ts:ax TypeId}{vs:iG}{ds:ax (DataW H)}{ps:ax MemPlace},ts.all (λt=>P.readableRec t&&decide (t<P.types.size))=true->
 DataW.TrodAll enc P W 0 (λ_=>true) true ts vs ds ps->(∀p∈ps,sp p.block=true)->(∀p∈ps,p.block<W.heap.size)->DataW.TrodAll enc P W' 0 sp true ts vs ds ps
 |[],[],[],_,_,h,_,_=>h
 |t::ts,v::vs,d::ds,ps,ht,h,hs,gY=>by obtain⟨p,q,h1,h2,rfl⟩:=h;simp only[cc,ae,aD]at ht;refine⟨p,q,WideElems.Trod_stays hl ht.1.1 ht.1.2 h1 (λx hx=>hb.same (gY x (bt _ hx))) (λx hx=>hs x (bt _ hx)),?_,rfl⟩;exact Ez hl hb (by simpa using ht.2) h2 (λx hx=>hs x (bj _ hx)) (λx hx=>gY x (bj _ hx))
 |[],_::_,_,_,_,h,_,_=>h.elim
 |[],[],_::_,_,_,h,_,_=>h.elim
 |_::_,[],_,_,_,h,_,_=>h.elim
 |_::_,_::_,[],_,_,h,_,_=>h.elim
theorem L9 {W:World}{sp:Nat->Bool}:∀{ts:ax TypeId}{vs:iG}{ds:ax (DataW H)}{ps:ax MemPlace},DataW.TrodAll enc P W base sp held ts vs ds ps->∀p∈ps,p.block<W.heap.size
 |[],[],[],ps,h=>by cases h;simp
 |t::ts,v::vs,d::ds,ps,h=>by obtain⟨p,q,⟨n,h1⟩,h2,rfl⟩:=h;intro x hx;rcases az.1 hx with hx|hx;exact DataW.trod_lt n t _ _ h1 x hx;exact L9 h2 x hx
 |[],_::_,_,_,h=>h.elim
 |[],[],_::_,_,h=>h.elim
 |_::_,[],_,_,h=>h.elim
 |_::_,_::_,[],_,h=>h.elim
theorem ado {f:Func}{s:ChangeSpec}{W W':World}{args:Array Value}{ds:ax (DataW H)}{before:ax MemPlace}{tb:TypeId}(hl:laidOutB P=true)(KT:f.params.toList.all (λt=>P.readableRec t&&decide (t<P.types.size))=true)(gJ:f.resultTypes=#[tb])(htb:P.underlying tb=some .bool)(aj5:s.vars=[])(RQ:s.fn H (ds++[])={results:=[.lit (.bool true)],args:=ds})(hW:DataW.Whole enc P f.params.toList s.vars false W args.toList ds [] before)(hb:Below W.heap.size W W'): s.post enc P f false true false false W args (.bool true) W':=by obtain⟨p,q,hA,hV,rfl,hfz,DA⟩:=id hW;have gY:=L9 hA;refine⟨ds,[],p++q,[],p,[],hW,?_,?_,?_,hb.frame _,by simp⟩;rw[gJ,RQ];exact trodAll_mk1 (shut_bool htb true);rw[RQ];exact Ez hl hb KT hA (λx hx=>by simpa using gY x hx) gY;rw[RQ,aj5];exact rfl
theorem ZW {K:Nat}{F:jj}(hF:gM P K F)(MB:F.io=false)(jH:F.bx=false){W:World}{vs:iG}{xs:ax AV}(fT:pA (λ_=>Old W) W vs xs){y:F.R}(hy:F.fn xs=some y)(hav:F.res y=.one (.bool true)): Calls P K vs.toArray W λe W'=>e=.returned (.bool true)/\Below W.heap.size W W':=by refine((hF xs _ hy).2.1 MB jH (λ_=>Old W) W vs (λ_ b o h=>h) fT).mono ?_;rintro e w' ⟨v,hw,fp,rfl,hr,_,_,jq⟩;rw[hav]at hr;have:=uv hr;subst this;exact⟨rfl,jq.below⟩
end
def yk.add (Γ:yk)(f:Nat)(F:jj):yk:=λg=>bif Nat.beq g f then F else Γ g
def yk.nil:yk:=λ_=>{R:=Unit,fn:=λ_=>none,av:=λ_=> .bot}
theorem Sound.nil {P:Program}{E:Env}(ty:jk P E.ty)(eqs:QQ P E.eqs)(fts:Xh P E.fts)(mixed:P.follows .mixedOrders=true):Sound P E yk.nil:=⟨ty,eqs,fts,(λf xs y h=>by cases h),mixed⟩
theorem Sound.add {P:Program}{E:Env}{Γ:yk}(hS:Sound P E Γ){f:Nat}{F:jj}(h:gM P f F):Sound P E (Γ.add f F):=by refine⟨hS.ty,hS.eqs,hS.fts,λg=>?_,hS.mixed⟩;unfold yk.add;cases hg:Nat.beq g f with|true=>have:g=f:=Nat.eq_of_beq_eq_true hg;subst this;exact h|false=>exact hS.fns g
end Go.Dn
