import Derived.Test.YtnmppgnbjfdffaaGreatDnOpen
import Derived.ProofKit
import Derived.WideKeyArgs
import Derived.Carry
/- From what the abstract semantics says of a law to the law's statement. -/
namespace Go.Dn
open Go.RowKit Go.ChangeShapes Go.WideShapes Go.ChangeAt
section
variable {H:Type} {enc:TypeId×Value->H} {P:Program} {w:World} {base:Nat} {held:Bool}
def agC (P:Program)(t:TypeId):Bool:=
 match P.underlying t with
 |some (.struct _)=>true
 |_=>false
theorem ac1 {n:Nat}{t:TypeId}{e:CT}{g:Bool}{v:Value}{d:DataW H}{ps:aw MemPlace}{r:Reach}{b0:Nat}(hc:OC P n t e=true)(hg:agC P t=g)(EJ:Value.okWide P w r b0 t v)(hd:DataW.Trod enc P w base (λ_=>true) held t v d ps):∃x:e.D,fR (fH (λ_=>Old w) (λ_=>0) w) v (.val g (cellsOf e (.arg false) x)) []/\InR e x:=by
 obtain⟨fuel,hd⟩:=hd;obtain⟨x,hr,sJ⟩:=HC n t e fuel _ d ps hc hd;refine⟨x,⟨v.cells.toList,?_,Dc (c:=fH (λ_=>Old w) (λ_=>0) w) (k:=false) hr⟩,sJ⟩;unfold agC at hg;cases n with
 |zero=>cases hc
 |succ n=>
  unfold OC at hc;unfold Value.okWide at EJ;cases hu:P.underlying t with
  |none=>rw[hu]at hc;cases hc
  |some dd=>
   rw[hu]at hc hg EJ;cases dd<;>simp only at hc hg EJ<;>try (cases hc)
   all_goals first
    |(subst hg
      unfold Cell.okWide Cell.ok at EJ
      rw[hu]at EJ
      cases v<;>simp_all[Cut,Value.cells])
    |(subst hg
      obtain⟨cs,rfl,_⟩:=EJ
      simp[Cut,Value.cells])
theorem Em (hl:laidOutB P=true){W W':World}(hb:Below W.heap.size W W'){sp:Nat->Bool}:∀{ts:aw TypeId}{vs:iq}{ds:aw (DataW H)}{ps:aw MemPlace},ts.all (λt=>P.readableRec t&&decide (t<P.types.size))=true->
 DataW.TrodAll enc P W 0 (λ_=>true) true ts vs ds ps->(∀p∈ps,sp p.block=true)->(∀p∈ps,p.block<W.heap.size)->DataW.TrodAll enc P W' 0 sp true ts vs ds ps
 |[],[],[],_,_,h,_,_=>h
 |t::ts,v::vs,d::ds,ps,ht,h,hs,gQ=>by obtain⟨p,q,h1,h2,rfl⟩:=h;simp only[cb,ae,aB]at ht;refine⟨p,q,WideElems.Trod_stays hl ht.1.1 ht.1.2 h1 (λx hx=>hb.same (gQ x (bt _ hx))) (λx hx=>hs x (bt _ hx)),?_,rfl⟩;exact Em hl hb (by simpa using ht.2) h2 (λx hx=>hs x (bj _ hx)) (λx hx=>gQ x (bj _ hx))
 |[],_::_,_,_,_,h,_,_=>h.elim
 |[],[],_::_,_,_,h,_,_=>h.elim
 |_::_,[],_,_,_,h,_,_=>h.elim
 |_::_,_::_,[],_,_,h,_,_=>h.elim
theorem LV {W:World}{sp:Nat->Bool}:∀{ts:aw TypeId}{vs:iq}{ds:aw (DataW H)}{ps:aw MemPlace},DataW.TrodAll enc P W base sp held ts vs ds ps->∀p∈ps,p.block<W.heap.size
 |[],[],[],ps,h=>by cases h;simp
 |t::ts,v::vs,d::ds,ps,h=>by obtain⟨p,q,⟨n,h1⟩,h2,rfl⟩:=h;intro x hx;rcases ay.1 hx with hx|hx;exact DataW.trod_lt n t _ _ h1 x hx;exact LV h2 x hx
 |[],_::_,_,_,h=>h.elim
 |[],[],_::_,_,h=>h.elim
 |_::_,[],_,_,h=>h.elim
 |_::_,_::_,[],_,h=>h.elim
theorem acK {f:Func}{s:ChangeSpec}{W W':World}{args:Array Value}{ds:aw (DataW H)}{before:aw MemPlace}{tb:TypeId}(hl:laidOutB P=true)(Ky:f.params.toList.all (λt=>P.readableRec t&&decide (t<P.types.size))=true)(gy:f.resultTypes=#[tb])(htb:P.underlying tb=some .bool)(ajl:s.vars=[])(RA:s.fn H (ds++[])={results:=[.lit (.bool true)],args:=ds})(hW:DataW.Whole enc P f.params.toList s.vars false W args.toList ds [] before)(hb:Below W.heap.size W W'): s.post enc P f false true false false W args (.bool true) W':=by obtain⟨p,q,hA,hV,rfl,hfz,Dq⟩:=id hW;have gQ:=LV hA;refine⟨ds,[],p++q,[],p,[],hW,?_,?_,?_,hb.frame _,by simp⟩;rw[gy,RA];exact trodAll_mk1 (shut_bool htb true);rw[RA];exact Em hl hb Ky hA (λx hx=>by simpa using gQ x hx) gQ;rw[RA,ajl];exact rfl
theorem Zi {K:Nat}{F:iZ}(hF:gC P K F)(Mm:F.io=false)(ju:F.bx=false){W:World}{vs:iq}{xs:aw AV}(fN:oT (λ_=>Old W) W vs xs){y:F.R}(hy:F.fn xs=some y)(hav:F.res y=.one (.bool true)): Calls P K vs.toArray W λe W'=>e=.returned (.bool true)/\Below W.heap.size W W':=by refine((hF xs _ hy).2.1 Mm ju (λ_=>Old W) W vs (λ_ b o h=>h) fN).mono ?_;rintro e w' ⟨v,hw,fp,rfl,hr,_,_,jf⟩;rw[hav]at hr;have:=tY hr;subst this;exact⟨rfl,jf.below⟩
end
def xT.add (Γ:xT)(f:Nat)(F:iZ):xT:=λg=>bif Nat.beq g f then F else Γ g
def xT.nil:xT:=λ_=>{R:=Unit,fn:=λ_=>none,av:=λ_=> .bot}
theorem Sound.nil {P:Program}{E:Env}(ty:ja P E.ty)(eqs:QC P E.eqs)(fts:WD P E.fts)(mixed:P.follows .mixedOrders=true):Sound P E xT.nil:=⟨ty,eqs,fts,(λf xs y h=>by cases h),mixed⟩
theorem Sound.add {P:Program}{E:Env}{Γ:xT}(hS:Sound P E Γ){f:Nat}{F:iZ}(h:gC P f F):Sound P E (Γ.add f F):=by refine⟨hS.ty,hS.eqs,hS.fts,λg=>?_,hS.mixed⟩;unfold xT.add;cases hg:Nat.beq g f with|true=>have:g=f:=Nat.eq_of_beq_eq_true hg;subst this;exact h|false=>exact hS.fns g
end Go.Dn
