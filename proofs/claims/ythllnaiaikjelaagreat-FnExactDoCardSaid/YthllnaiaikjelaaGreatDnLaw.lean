import Derived.Test.YthllnaiaikjelaaGreatDnOpen
import Derived.ProofKit
import Derived.WideKeyArgs
import Derived.Carry
/- From what the abstract semantics says of a law to the law's statement. -/
namespace Go.Dn
open Go.RowKit Go.ChangeShapes Go.WideShapes Go.ChangeAt
section
variable {H:Type} {enc:TypeId×Value->H} {P:Program} {w:World} {base:Nat} {held:Bool}
def anY (P:Program)(t:TypeId):Bool:=
 match P.underlying t with
 |some (.struct _)=>true
 |_=>false
theorem ac2 {n:Nat}{t:TypeId}{e:CT}{g:Bool}{v:Value}{d:DataW H}{ps:ar MemPlace}{r:Reach}{b0:Nat}(hc:WO P n t e=true)(hg:anY P t=g)(NG:Value.okWide P w r b0 t v)(hd:DataW.Trod enc P w base (λ_=>true) held t v d ps):∃x:e.D,gi (fy (λ_=>Old w) (λ_=>0) w) v (.val g (cellsOf e (.arg false) x)) []/\InR e x:=by
 obtain⟨fuel,hd⟩:=hd;obtain⟨x,hr,vC⟩:=RP n t e fuel _ d ps hc hd;refine⟨x,⟨v.cells.toList,?_,MP (c:=fy (λ_=>Old w) (λ_=>0) w) (k:=false) hr⟩,vC⟩;unfold anY at hg;cases n with
 |zero=>cases hc
 |succ n=>
  unfold WO at hc;unfold Value.okWide at NG;cases hu:P.underlying t with
  |none=>rw[hu]at hc;cases hc
  |some dd=>
   rw[hu]at hc hg NG;cases dd<;>simp only at hc hg NG<;>try (cases hc)
   all_goals first
    |(subst hg
      unfold Cell.okWide Cell.ok at NG
      rw[hu]at NG
      cases v<;>simp_all[Cut,Value.cells])
    |(subst hg
      obtain⟨cs,rfl,_⟩:=NG
      simp[Cut,Value.cells])
theorem Ol (hl:laidOutB P=true){W W':World}(hb:Below W.heap.size W W'){sp:Nat->Bool}:∀{ts:ar TypeId}{vs:iU}{ds:ar (DataW H)}{ps:ar MemPlace},ts.all (λt=>P.readableRec t&&decide (t<P.types.size))=true->
 DataW.TrodAll enc P W 0 (λ_=>true) true ts vs ds ps->(∀p∈ps,sp p.block=true)->(∀p∈ps,p.block<W.heap.size)->DataW.TrodAll enc P W' 0 sp true ts vs ds ps
 |[],[],[],_,_,h,_,_=>h
 |t::ts,v::vs,d::ds,ps,ht,h,hs,iG=>by obtain⟨p,q,h1,h2,rfl⟩:=h;simp only[bV,ah,bI]at ht;refine⟨p,q,WideElems.Trod_stays hl ht.1.1 ht.1.2 h1 (λx hx=>hb.same (iG x (br _ hx))) (λx hx=>hs x (br _ hx)),?_,rfl⟩;exact Ol hl hb (by simpa using ht.2) h2 (λx hx=>hs x (bh _ hx)) (λx hx=>iG x (bh _ hx))
 |[],_::_,_,_,_,h,_,_=>h.elim
 |[],[],_::_,_,_,h,_,_=>h.elim
 |_::_,[],_,_,_,h,_,_=>h.elim
 |_::_,_::_,[],_,_,h,_,_=>h.elim
theorem Wv {W:World}{sp:Nat->Bool}:∀{ts:ar TypeId}{vs:iU}{ds:ar (DataW H)}{ps:ar MemPlace},DataW.TrodAll enc P W base sp held ts vs ds ps->∀p∈ps,p.block<W.heap.size
 |[],[],[],ps,h=>by cases h;simp
 |t::ts,v::vs,d::ds,ps,h=>by obtain⟨p,q,⟨n,h1⟩,h2,rfl⟩:=h;intro x hx;rcases aA.1 hx with hx|hx;exact DataW.trod_lt n t _ _ h1 x hx;exact Wv h2 x hx
 |[],_::_,_,_,h=>h.elim
 |[],[],_::_,_,h=>h.elim
 |_::_,[],_,_,h=>h.elim
 |_::_,_::_,[],_,h=>h.elim
theorem amt {f:Func}{s:ChangeSpec}{W W':World}{args:Array Value}{ds:ar (DataW H)}{before:ar MemPlace}{tb:TypeId}(hl:laidOutB P=true)(PM:f.params.toList.all (λt=>P.readableRec t&&decide (t<P.types.size))=true)(fL:f.resultTypes=#[tb])(htb:P.underlying tb=some .bool)(arw:s.vars=[])(TN:s.fn H (ds++[])={results:=[.lit (.bool true)],args:=ds})(hW:DataW.Whole enc P f.params.toList s.vars false W args.toList ds [] before)(hb:Below W.heap.size W W'): s.post enc P f false true false false W args (.bool true) W':=by obtain⟨p,q,hA,hV,rfl,hfz,JK⟩:=id hW;have iG:=Wv hA;refine⟨ds,[],p++q,[],p,[],hW,?_,?_,?_,hb.frame _,by simp⟩;rw[fL,TN];exact trodAll_mk1 (shut_bool htb true);rw[TN];exact Ol hl hb PM hA (λx hx=>by simpa using iG x hx) iG;rw[TN,arw];exact rfl
theorem ajn {K:Nat}{F:Ez}(hF:mz P K F)(PJ:F.io=false)(kR:F.bx=false){W:World}{vs:iU}{xs:ar AV}(fJ:oZ (λ_=>Old W) W vs xs){y:F.R}(hy:F.fn xs=some y)(hav:F.res y=.one (.bool true)): Calls P K vs.toArray W λe W'=>e=.returned (.bool true)/\Below W.heap.size W W':=by refine((hF xs _ hy).2.1 PJ kR (λ_=>Old W) W vs (λ_ b o h=>h) fJ).mono ?_;rintro e w' ⟨v,hw,fp,rfl,hr,_,_,iw⟩;rw[hav]at hr;have:=BB hr;subst this;exact⟨rfl,iw.below⟩
end
def Ci.add (Γ:Ci)(f:Nat)(F:Ez):Ci:=λg=>bif Nat.beq g f then F else Γ g
def Ci.nil:Ci:=λ_=>{R:=Unit,fn:=λ_=>none,av:=λ_=> .bot}
theorem Sound.nil {P:Program}{E:Env}(ty:kA P E.ty)(eqs:aa5 P E.eqs)(fts:agW P E.fts)(mixed:P.follows .mixedOrders=true):Sound P E Ci.nil:=⟨ty,eqs,fts,(λf xs y h=>by cases h),mixed⟩
theorem Sound.add {P:Program}{E:Env}{Γ:Ci}(hS:Sound P E Γ){f:Nat}{F:Ez}(h:mz P f F):Sound P E (Γ.add f F):=by refine⟨hS.ty,hS.eqs,hS.fts,λg=>?_,hS.mixed⟩;unfold Ci.add;cases hg:Nat.beq g f with|true=>have:g=f:=Nat.eq_of_beq_eq_true hg;subst this;exact h|false=>exact hS.fns g
end Go.Dn
