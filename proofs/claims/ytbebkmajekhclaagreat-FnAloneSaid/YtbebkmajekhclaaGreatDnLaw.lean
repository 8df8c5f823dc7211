import Derived.Test.YtbebkmajekhclaaGreatDnOpen
import Derived.ProofKit
import Derived.WideKeyArgs
import Derived.Carry
/- From what the abstract semantics says of a law to the law's statement. -/
namespace Go.Dn
open Go.RowKit Go.ChangeShapes Go.WideShapes Go.ChangeAt
section
variable {H:Type} {enc:TypeId×Value->H} {P:Program} {w:World} {base:Nat} {held:Bool}
def anE (P:Program)(t:TypeId):Bool:=
 match P.underlying t with
 |some (.struct _)=>true
 |_=>false
theorem ajp {n:Nat}{t:TypeId}{e:CT}{g:Bool}{v:Value}{d:DataW H}{ps:aw MemPlace}{r:Reach}{b0:Nat}(hc:TN P n t e=true)(hg:anE P t=g)(Im:Value.okWide P w r b0 t v)(hd:DataW.Trod enc P w base (λ_=>true) held t v d ps):∃x:e.D,gK (gr (λ_=>Old w) (λ_=>0) w) v (.val g (cellsOf e (.arg false) x)) []/\InR e x:=by
 obtain⟨fuel,hd⟩:=hd;obtain⟨x,hr,tV⟩:=Lx n t e fuel _ d ps hc hd;refine⟨x,⟨v.cells.toList,?_,GI (c:=gr (λ_=>Old w) (λ_=>0) w) (k:=false) hr⟩,tV⟩;unfold anE at hg;cases n with
 |zero=>cases hc
 |succ n=>
  unfold TN at hc;unfold Value.okWide at Im;cases hu:P.underlying t with
  |none=>rw[hu]at hc;cases hc
  |some dd=>
   rw[hu]at hc hg Im;cases dd<;>simp only at hc hg Im<;>try (cases hc)
   all_goals first
    |(subst hg
      unfold Cell.okWide Cell.ok at Im
      rw[hu]at Im
      cases v<;>simp_all[Cut,Value.cells])
    |(subst hg
      obtain⟨cs,rfl,_⟩:=Im
      simp[Cut,Value.cells])
theorem HZ (hl:laidOutB P=true){W W':World}(hb:Below W.heap.size W W'){sp:Nat->Bool}:∀{ts:aw TypeId}{vs:jd}{ds:aw (DataW H)}{ps:aw MemPlace},ts.all (λt=>P.readableRec t&&decide (t<P.types.size))=true->
 DataW.TrodAll enc P W 0 (λ_=>true) true ts vs ds ps->(∀p∈ps,sp p.block=true)->(∀p∈ps,p.block<W.heap.size)->DataW.TrodAll enc P W' 0 sp true ts vs ds ps
 |[],[],[],_,_,h,_,_=>h
 |t::ts,v::vs,d::ds,ps,ht,h,hs,gF=>by obtain⟨p,q,h1,h2,rfl⟩:=h;simp only[bX,ae,aF]at ht;refine⟨p,q,WideElems.Trod_stays hl ht.1.1 ht.1.2 h1 (λx hx=>hb.same (gF x (bH _ hx))) (λx hx=>hs x (bH _ hx)),?_,rfl⟩;exact HZ hl hb (by simpa using ht.2) h2 (λx hx=>hs x (bu _ hx)) (λx hx=>gF x (bu _ hx))
 |[],_::_,_,_,_,h,_,_=>h.elim
 |[],[],_::_,_,_,h,_,_=>h.elim
 |_::_,[],_,_,_,h,_,_=>h.elim
 |_::_,_::_,[],_,_,h,_,_=>h.elim
theorem Qy {W:World}{sp:Nat->Bool}:∀{ts:aw TypeId}{vs:jd}{ds:aw (DataW H)}{ps:aw MemPlace},DataW.TrodAll enc P W base sp held ts vs ds ps->∀p∈ps,p.block<W.heap.size
 |[],[],[],ps,h=>by cases h;simp
 |t::ts,v::vs,d::ds,ps,h=>by obtain⟨p,q,⟨n,h1⟩,h2,rfl⟩:=h;intro x hx;rcases az.1 hx with hx|hx;exact DataW.trod_lt n t _ _ h1 x hx;exact Qy h2 x hx
 |[],_::_,_,_,h=>h.elim
 |[],[],_::_,_,h=>h.elim
 |_::_,[],_,_,h=>h.elim
 |_::_,_::_,[],_,h=>h.elim
theorem ai6 {f:Func}{s:ChangeSpec}{W W':World}{args:Array Value}{ds:aw (DataW H)}{before:aw MemPlace}{tb:TypeId}(hl:laidOutB P=true)(O2:f.params.toList.all (λt=>P.readableRec t&&decide (t<P.types.size))=true)(il:f.resultTypes=#[tb])(htb:P.underlying tb=some .bool)(aqB:s.vars=[])(R9:s.fn H (ds++[])={results:=[.lit (.bool true)],args:=ds})(hW:DataW.Whole enc P f.params.toList s.vars false W args.toList ds [] before)(hb:Below W.heap.size W W'): s.post enc P f false true false false W args (.bool true) W':=by obtain⟨p,q,hA,hV,rfl,hfz,GX⟩:=id hW;have gF:=Qy hA;refine⟨ds,[],p++q,[],p,[],hW,?_,?_,?_,hb.frame _,by simp⟩;rw[il,R9];exact trodAll_mk1 (shut_bool htb true);rw[R9];exact HZ hl hb O2 hA (λx hx=>by simpa using gF x hx) gF;rw[R9,aqB];exact rfl
theorem afB {K:Nat}{F:kH}(hF:iJ P K F)(Q0:F.io=false)(kq:F.bx=false){W:World}{vs:jd}{xs:aw AV}(gE:qT (λ_=>Old W) W vs xs){y:F.R}(hy:F.fn xs=some y)(hav:F.res y=.one (.bool true)): Calls P K vs.toArray W λe W'=>e=.returned (.bool true)/\Below W.heap.size W W':=by refine((hF xs _ hy).2.1 Q0 kq (λ_=>Old W) W vs (λ_ b o h=>h) gE).mono ?_;rintro e w' ⟨v,hw,fp,rfl,hr,_,_,jH⟩;rw[hav]at hr;have:=xd hr;subst this;exact⟨rfl,jH.below⟩
end
def BA.add (Γ:BA)(f:Nat)(F:kH):BA:=λg=>bif Nat.beq g f then F else Γ g
def BA.nil:BA:=λ_=>{R:=Unit,fn:=λ_=>none,av:=λ_=> .bot}
theorem Sound.nil {P:Program}{E:Env}(ty:jR P E.ty)(eqs:VQ P E.eqs)(fts:acW P E.fts)(mixed:P.follows .mixedOrders=true):Sound P E BA.nil:=⟨ty,eqs,fts,(λf xs y h=>by cases h),mixed⟩
theorem Sound.add {P:Program}{E:Env}{Γ:BA}(hS:Sound P E Γ){f:Nat}{F:kH}(h:iJ P f F):Sound P E (Γ.add f F):=by refine⟨hS.ty,hS.eqs,hS.fts,λg=>?_,hS.mixed⟩;unfold BA.add;cases hg:Nat.beq g f with|true=>have:g=f:=Nat.eq_of_beq_eq_true hg;subst this;exact h|false=>exact hS.fns g
end Go.Dn
