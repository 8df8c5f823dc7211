import Derived.Test.YtfbhfnniblfpbaaGreatDnOpen
import Derived.ProofKit
import Derived.WideKeyArgs
import Derived.Carry
/- From what the abstract semantics says of a law to the law's statement. -/
namespace Go.Dn
open Go.RowKit Go.ChangeShapes Go.WideShapes Go.ChangeAt
section
variable {H:Type} {enc:TypeId×Value->H} {P:Program} {w:World} {base:Nat} {held:Bool}
def agd (P:Program)(t:TypeId):Bool:=
 match P.underlying t with
 |some (.struct _)=>true
 |_=>false
theorem Wo {n:Nat}{t:TypeId}{e:CT}{g:Bool}{v:Value}{d:DataW H}{ps:aq MemPlace}{r:Reach}{b0:Nat}(hc:QB P n t e=true)(hg:agd P t=g)(IC:Value.okWide P w r b0 t v)(hd:DataW.Trod enc P w base (λ_=>true) held t v d ps):∃x:e.D,fL (eQ (λ_=>Old w) (λ_=>0) w) v (.val g (cellsOf e (.arg false) x)) []/\InR e x:=by
 obtain⟨fuel,hd⟩:=hd;obtain⟨x,hr,uw⟩:=L1 n t e fuel _ d ps hc hd;refine⟨x,⟨v.cells.toList,?_,HQ (c:=eQ (λ_=>Old w) (λ_=>0) w) (k:=false) hr⟩,uw⟩;unfold agd at hg;cases n with
 |zero=>cases hc
 |succ n=>
  unfold QB at hc;unfold Value.okWide at IC;cases hu:P.underlying t with
  |none=>rw[hu]at hc;cases hc
  |some dd=>
   rw[hu]at hc hg IC;cases dd<;>simp only at hc hg IC<;>try (cases hc)
   all_goals first
    |(subst hg
      unfold Cell.okWide Cell.ok at IC
      rw[hu]at IC
      cases v<;>simp_all[Cut,Value.cells])
    |(subst hg
      obtain⟨cs,rfl,_⟩:=IC
      simp[Cut,Value.cells])
theorem I9 (hl:laidOutB P=true){W W':World}(hb:Below W.heap.size W W'){sp:Nat->Bool}:∀{ts:aq TypeId}{vs:ie}{ds:aq (DataW H)}{ps:aq MemPlace},ts.all (λt=>P.readableRec t&&decide (t<P.types.size))=true->
 DataW.TrodAll enc P W 0 (λ_=>true) true ts vs ds ps->(∀p∈ps,sp p.block=true)->(∀p∈ps,p.block<W.heap.size)->DataW.TrodAll enc P W' 0 sp true ts vs ds ps
 |[],[],[],_,_,h,_,_=>h
 |t::ts,v::vs,d::ds,ps,ht,h,hs,gV=>by obtain⟨p,q,h1,h2,rfl⟩:=h;simp only[bQ,ah,bE]at ht;refine⟨p,q,WideElems.Trod_stays hl ht.1.1 ht.1.2 h1 (λx hx=>hb.same (gV x (bk _ hx))) (λx hx=>hs x (bk _ hx)),?_,rfl⟩;exact I9 hl hb (by simpa using ht.2) h2 (λx hx=>hs x (ba _ hx)) (λx hx=>gV x (ba _ hx))
 |[],_::_,_,_,_,h,_,_=>h.elim
 |[],[],_::_,_,_,h,_,_=>h.elim
 |_::_,[],_,_,_,h,_,_=>h.elim
 |_::_,_::_,[],_,_,h,_,_=>h.elim
theorem Qg {W:World}{sp:Nat->Bool}:∀{ts:aq TypeId}{vs:ie}{ds:aq (DataW H)}{ps:aq MemPlace},DataW.TrodAll enc P W base sp held ts vs ds ps->∀p∈ps,p.block<W.heap.size
 |[],[],[],ps,h=>by cases h;simp
 |t::ts,v::vs,d::ds,ps,h=>by obtain⟨p,q,⟨n,h1⟩,h2,rfl⟩:=h;intro x hx;rcases az.1 hx with hx|hx;exact DataW.trod_lt n t _ _ h1 x hx;exact Qg h2 x hx
 |[],_::_,_,_,h=>h.elim
 |[],[],_::_,_,h=>h.elim
 |_::_,[],_,_,h=>h.elim
 |_::_,_::_,[],_,h=>h.elim
theorem ae1 {f:Func}{s:ChangeSpec}{W W':World}{args:Array Value}{ds:aq (DataW H)}{before:aq MemPlace}{tb:TypeId}(hl:laidOutB P=true)(Kd:f.params.toList.all (λt=>P.readableRec t&&decide (t<P.types.size))=true)(ft:f.resultTypes=#[tb])(htb:P.underlying tb=some .bool)(ajC:s.vars=[])(NI:s.fn H (ds++[])={results:=[.lit (.bool true)],args:=ds})(hW:DataW.Whole enc P f.params.toList s.vars false W args.toList ds [] before)(hb:Below W.heap.size W W'): s.post enc P f false true false false W args (.bool true) W':=by obtain⟨p,q,hA,hV,rfl,hfz,E3⟩:=id hW;have gV:=Qg hA;refine⟨ds,[],p++q,[],p,[],hW,?_,?_,?_,hb.frame _,by simp⟩;rw[ft,NI];exact trodAll_mk1 (shut_bool htb true);rw[NI];exact I9 hl hb Kd hA (λx hx=>by simpa using gV x hx) gV;rw[NI,ajC];exact rfl
theorem ab9 {K:Nat}{F:Aq}(hF:kX P K F)(Kb:F.io=false)(jE:F.bx=false){W:World}{vs:ie}{xs:aq AV}(fb:nf (λ_=>Old W) W vs xs){y:F.R}(hy:F.fn xs=some y)(hav:F.res y=.one (.bool true)): Calls P K vs.toArray W λe W'=>e=.returned (.bool true)/\Below W.heap.size W W':=by refine((hF xs _ hy).2.1 Kb jE (λ_=>Old W) W vs (λ_ b o h=>h) fb).mono ?_;rintro e w' ⟨v,hw,fp,rfl,hr,_,_,gP⟩;rw[hav]at hr;have:=xl hr;subst this;exact⟨rfl,gP.below⟩
end
def xV.add (Γ:xV)(f:Nat)(F:Aq):xV:=λg=>bif Nat.beq g f then F else Γ g
def xV.nil:xV:=λ_=>{R:=Unit,fn:=λ_=>none,av:=λ_=> .bot}
theorem Sound.nil {P:Program}{E:Env}(ty:js P E.ty)(eqs:UQ P E.eqs)(fts:Z6 P E.fts)(mixed:P.follows .mixedOrders=true):Sound P E xV.nil:=⟨ty,eqs,fts,(λf xs y h=>by cases h),mixed⟩
theorem Sound.add {P:Program}{E:Env}{Γ:xV}(hS:Sound P E Γ){f:Nat}{F:Aq}(h:kX P f F):Sound P E (Γ.add f F):=by refine⟨hS.ty,hS.eqs,hS.fts,λg=>?_,hS.mixed⟩;unfold xV.add;cases hg:Nat.beq g f with|true=>have:g=f:=Nat.eq_of_beq_eq_true hg;subst this;exact h|false=>exact hS.fns g
end Go.Dn
