import Derived.Test.YtfbhfnniblfpbaaGreatDnOpen
import Derived.ProofKit
import Derived.WideKeyArgs
import Derived.Carry
/- From what the abstract semantics says of a law to the law's statement. -/
namespace Go.Dn
open Go.RowKit Go.ChangeShapes Go.WideShapes Go.ChangeAt
section
variable {H:Type} {enc:TypeId×Value->H} {P:Program} {w:World} {base:Nat} {held:Bool}
def alb (P:Program)(t:TypeId):Bool:=
 match P.underlying t with
 |some (.struct _)=>true
 |_=>false
theorem ail {n:Nat}{t:TypeId}{e:CT}{g:Bool}{v:Value}{d:DataW H}{ps:ax MemPlace}{r:Reach}{b0:Nat}(hc:VF P n t e=true)(hg:alb P t=g)(Kg:Value.okWide P w r b0 t v)(hd:DataW.Trod enc P w base (λ_=>true) held t v d ps):∃x:e.D,gV (gh (λ_=>Old w) (λ_=>0) w) v (.val g (cellsOf e (.arg false) x)) []/\InR e x:=by
 obtain⟨fuel,hd⟩:=hd;obtain⟨x,hr,zw⟩:=Nr n t e fuel _ d ps hc hd;refine⟨x,⟨v.cells.toList,?_,IA (c:=gh (λ_=>Old w) (λ_=>0) w) (k:=false) hr⟩,zw⟩;unfold alb at hg;cases n with
 |zero=>cases hc
 |succ n=>
  unfold VF at hc;unfold Value.okWide at Kg;cases hu:P.underlying t with
  |none=>rw[hu]at hc;cases hc
  |some dd=>
   rw[hu]at hc hg Kg;cases dd<;>simp only at hc hg Kg<;>try (cases hc)
   all_goals first
    |(subst hg
      unfold Cell.okWide Cell.ok at Kg
      rw[hu]at Kg
      cases v<;>simp_all[Cut,Value.cells])
    |(subst hg
      obtain⟨cs,rfl,_⟩:=Kg
      simp[Cut,Value.cells])
theorem JS (hl:laidOutB P=true){W W':World}(hb:Below W.heap.size W W'){sp:Nat->Bool}:∀{ts:ax TypeId}{vs:jI}{ds:ax (DataW H)}{ps:ax MemPlace},ts.all (λt=>P.readableRec t&&decide (t<P.types.size))=true->
 DataW.TrodAll enc P W 0 (λ_=>true) true ts vs ds ps->(∀p∈ps,sp p.block=true)->(∀p∈ps,p.block<W.heap.size)->DataW.TrodAll enc P W' 0 sp true ts vs ds ps
 |[],[],[],_,_,h,_,_=>h
 |t::ts,v::vs,d::ds,ps,ht,h,hs,iA=>by obtain⟨p,q,h1,h2,rfl⟩:=h;simp only[cx,ah,bE]at ht;refine⟨p,q,WideElems.Trod_stays hl ht.1.1 ht.1.2 h1 (λx hx=>hb.same (iA x (aU _ hx))) (λx hx=>hs x (aU _ hx)),?_,rfl⟩;exact JS hl hb (by simpa using ht.2) h2 (λx hx=>hs x (bj _ hx)) (λx hx=>iA x (bj _ hx))
 |[],_::_,_,_,_,h,_,_=>h.elim
 |[],[],_::_,_,_,h,_,_=>h.elim
 |_::_,[],_,_,_,h,_,_=>h.elim
 |_::_,_::_,[],_,_,h,_,_=>h.elim
theorem Sm {W:World}{sp:Nat->Bool}:∀{ts:ax TypeId}{vs:jI}{ds:ax (DataW H)}{ps:ax MemPlace},DataW.TrodAll enc P W base sp held ts vs ds ps->∀p∈ps,p.block<W.heap.size
 |[],[],[],ps,h=>by cases h;simp
 |t::ts,v::vs,d::ds,ps,h=>by obtain⟨p,q,⟨n,h1⟩,h2,rfl⟩:=h;intro x hx;rcases aB.1 hx with hx|hx;exact DataW.trod_lt n t _ _ h1 x hx;exact Sm h2 x hx
 |[],_::_,_,_,h=>h.elim
 |[],[],_::_,_,h=>h.elim
 |_::_,[],_,_,h=>h.elim
 |_::_,_::_,[],_,h=>h.elim
theorem ah0 {f:Func}{s:ChangeSpec}{W W':World}{args:Array Value}{ds:ax (DataW H)}{before:ax MemPlace}{tb:TypeId}(hl:laidOutB P=true)(QW:f.params.toList.all (λt=>P.readableRec t&&decide (t<P.types.size))=true)(gW:f.resultTypes=#[tb])(htb:P.underlying tb=some .bool)(am6:s.vars=[])(X3:s.fn H (ds++[])={results:=[.lit (.bool true)],args:=ds})(hW:DataW.Whole enc P f.params.toList s.vars false W args.toList ds [] before)(hb:Below W.heap.size W W'): s.post enc P f false true false false W args (.bool true) W':=by obtain⟨p,q,hA,hV,rfl,hfz,HN⟩:=id hW;have iA:=Sm hA;refine⟨ds,[],p++q,[],p,[],hW,?_,?_,?_,hb.frame _,by simp⟩;rw[gW,X3];exact trodAll_mk1 (shut_bool htb true);rw[X3];exact JS hl hb QW hA (λx hx=>by simpa using iA x hx) iA;rw[X3,am6];exact rfl
theorem aeV {K:Nat}{F:BC}(hF:nn P K F)(QP:F.io=false)(lB:F.bx=false){W:World}{vs:jI}{xs:ax AV}(gN:qx (λ_=>Old W) W vs xs){y:F.R}(hy:F.fn xs=some y)(hav:F.res y=.one (.bool true)): Calls P K vs.toArray W λe W'=>e=.returned (.bool true)/\Below W.heap.size W W':=by refine((hF xs _ hy).2.1 QP lB (λ_=>Old W) W vs (λ_ b o h=>h) gN).mono ?_;rintro e w' ⟨v,hw,fp,rfl,hr,_,_,km⟩;rw[hav]at hr;have:=yp hr;subst this;exact⟨rfl,km.below⟩
end
def zu.add (Γ:zu)(f:Nat)(F:BC):zu:=λg=>bif Nat.beq g f then F else Γ g
def zu.nil:zu:=λ_=>{R:=Unit,fn:=λ_=>none,av:=λ_=> .bot}
theorem Sound.nil {P:Program}{E:Env}(ty:kQ P E.ty)(eqs:Xf P E.eqs)(fts:acE P E.fts)(mixed:P.follows .mixedOrders=true):Sound P E zu.nil:=⟨ty,eqs,fts,(λf xs y h=>by cases h),mixed⟩
theorem Sound.add {P:Program}{E:Env}{Γ:zu}(hS:Sound P E Γ){f:Nat}{F:BC}(h:nn P f F):Sound P E (Γ.add f F):=by refine⟨hS.ty,hS.eqs,hS.fts,λg=>?_,hS.mixed⟩;unfold zu.add;cases hg:Nat.beq g f with|true=>have:g=f:=Nat.eq_of_beq_eq_true hg;subst this;exact h|false=>exact hS.fns g
end Go.Dn
