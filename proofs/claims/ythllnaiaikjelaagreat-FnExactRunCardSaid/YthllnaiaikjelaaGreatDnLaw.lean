import Derived.Test.YthllnaiaikjelaaGreatDnOpen
import Derived.ProofKit
import Derived.WideKeyArgs
import Derived.Carry
/- From what the abstract semantics says of a law to the law's statement. -/
namespace Go.Dn
open Go.RowKit Go.ChangeShapes Go.WideShapes Go.ChangeAt
section
variable {H:Type} {enc:TypeId×Value->H} {P:Program} {w:World} {base:Nat} {held:Bool}
def aon (P:Program)(t:TypeId):Bool:=
 match P.underlying t with
 |some (.struct _)=>true
 |_=>false
theorem adp {n:Nat}{t:TypeId}{e:CT}{g:Bool}{v:Value}{d:DataW H}{ps:ar MemPlace}{r:Reach}{b0:Nat}(hc:W8 P n t e=true)(hg:aon P t=g)(NW:Value.okWide P w r b0 t v)(hd:DataW.Trod enc P w base (λ_=>true) held t v d ps):∃x:e.D,gj (fA (λ_=>Old w) (λ_=>0) w) v (.val g (cellsOf e (.arg false) x)) []/\InR e x:=by
 obtain⟨fuel,hd⟩:=hd;obtain⟨x,hr,vG⟩:=Sa n t e fuel _ d ps hc hd;refine⟨x,⟨v.cells.toList,?_,M9 (c:=fA (λ_=>Old w) (λ_=>0) w) (k:=false) hr⟩,vG⟩;unfold aon at hg;cases n with
 |zero=>cases hc
 |succ n=>
  unfold W8 at hc;unfold Value.okWide at NW;cases hu:P.underlying t with
  |none=>rw[hu]at hc;cases hc
  |some dd=>
   rw[hu]at hc hg NW;cases dd<;>simp only at hc hg NW<;>try (cases hc)
   all_goals first
    |(subst hg
      unfold Cell.okWide Cell.ok at NW
      rw[hu]at NW
      cases v<;>simp_all[Cut,Value.cells])
    |(subst hg
      obtain⟨cs,rfl,_⟩:=NW
      simp[Cut,Value.cells])
theorem OF (hl:laidOutB P=true){W W':World}(hb:Below W.heap.size W W'){sp:Nat->Bool}:∀{ts:ar TypeId}{vs:iW}{ds:ar (DataW H)}{ps:ar MemPlace},ts.all (λt=>P.readableRec t&&decide (t<P.types.size))=true->
 DataW.TrodAll enc P W 0 (λ_=>true) true ts vs ds ps->(∀p∈ps,sp p.block=true)->(∀p∈ps,p.block<W.heap.size)->DataW.TrodAll enc P W' 0 sp true ts vs ds ps
 |[],[],[],_,_,h,_,_=>h
 |t::ts,v::vs,d::ds,ps,ht,h,hs,iJ=>by obtain⟨p,q,h1,h2,rfl⟩:=h;simp only[bV,ah,bK]at ht;refine⟨p,q,WideElems.Trod_stays hl ht.1.1 ht.1.2 h1 (λx hx=>hb.same (iJ x (br _ hx))) (λx hx=>hs x (br _ hx)),?_,rfl⟩;exact OF hl hb (by simpa using ht.2) h2 (λx hx=>hs x (bh _ hx)) (λx hx=>iJ x (bh _ hx))
 |[],_::_,_,_,_,h,_,_=>h.elim
 |[],[],_::_,_,_,h,_,_=>h.elim
 |_::_,[],_,_,_,h,_,_=>h.elim
 |_::_,_::_,[],_,_,h,_,_=>h.elim
theorem WQ {W:World}{sp:Nat->Bool}:∀{ts:ar TypeId}{vs:iW}{ds:ar (DataW H)}{ps:ar MemPlace},DataW.TrodAll enc P W base sp held ts vs ds ps->∀p∈ps,p.block<W.heap.size
 |[],[],[],ps,h=>by cases h;simp
 |t::ts,v::vs,d::ds,ps,h=>by obtain⟨p,q,⟨n,h1⟩,h2,rfl⟩:=h;intro x hx;rcases aA.1 hx with hx|hx;exact DataW.trod_lt n t _ _ h1 x hx;exact WQ h2 x hx
 |[],_::_,_,_,h=>h.elim
 |[],[],_::_,_,h=>h.elim
 |_::_,[],_,_,h=>h.elim
 |_::_,_::_,[],_,h=>h.elim
theorem amS {f:Func}{s:ChangeSpec}{W W':World}{args:Array Value}{ds:ar (DataW H)}{before:ar MemPlace}{tb:TypeId}(hl:laidOutB P=true)(P7:f.params.toList.all (λt=>P.readableRec t&&decide (t<P.types.size))=true)(fM:f.resultTypes=#[tb])(htb:P.underlying tb=some .bool)(arW:s.vars=[])(Ua:s.fn H (ds++[])={results:=[.lit (.bool true)],args:=ds})(hW:DataW.Whole enc P f.params.toList s.vars false W args.toList ds [] before)(hb:Below W.heap.size W W'): s.post enc P f false true false false W args (.bool true) W':=by obtain⟨p,q,hA,hV,rfl,hfz,J0⟩:=id hW;have iJ:=WQ hA;refine⟨ds,[],p++q,[],p,[],hW,?_,?_,?_,hb.frame _,by simp⟩;rw[fM,Ua];exact trodAll_mk1 (shut_bool htb true);rw[Ua];exact OF hl hb P7 hA (λx hx=>by simpa using iJ x hx) iJ;rw[Ua,arW];exact rfl
theorem ajL {K:Nat}{F:EI}(hF:mD P K F)(P5:F.io=false)(kW:F.bx=false){W:World}{vs:iW}{xs:ar AV}(fK:pc (λ_=>Old W) W vs xs){y:F.R}(hy:F.fn xs=some y)(hav:F.res y=.one (.bool true)): Calls P K vs.toArray W λe W'=>e=.returned (.bool true)/\Below W.heap.size W W':=by refine((hF xs _ hy).2.1 P5 kW (λ_=>Old W) W vs (λ_ b o h=>h) fK).mono ?_;rintro e w' ⟨v,hw,fp,rfl,hr,_,_,iA⟩;rw[hav]at hr;have:=BM hr;subst this;exact⟨rfl,iA.below⟩
end
def Cr.add (Γ:Cr)(f:Nat)(F:EI):Cr:=λg=>bif Nat.beq g f then F else Γ g
def Cr.nil:Cr:=λ_=>{R:=Unit,fn:=λ_=>none,av:=λ_=> .bot}
theorem Sound.nil {P:Program}{E:Env}(ty:kG P E.ty)(eqs:abq P E.eqs)(fts:ahp P E.fts)(mixed:P.follows .mixedOrders=true):Sound P E Cr.nil:=⟨ty,eqs,fts,(λf xs y h=>by cases h),mixed⟩
theorem Sound.add {P:Program}{E:Env}{Γ:Cr}(hS:Sound P E Γ){f:Nat}{F:EI}(h:mD P f F):Sound P E (Γ.add f F):=by refine⟨hS.ty,hS.eqs,hS.fts,λg=>?_,hS.mixed⟩;unfold Cr.add;cases hg:Nat.beq g f with|true=>have:g=f:=Nat.eq_of_beq_eq_true hg;subst this;exact h|false=>exact hS.fns g
end Go.Dn
