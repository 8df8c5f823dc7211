import Derived.Test.YtpgnehchfeikmaaGreatDnOpen
import Derived.ProofKit
import Derived.WideKeyArgs
import Derived.Carry
/- From what the abstract semantics says of a law to the law's statement. -/
namespace Go.Dn
open Go.RowKit Go.ChangeShapes Go.WideShapes Go.ChangeAt
section
variable {H:Type} {enc:TypeId×Value→H} {P:Program} {w:World} {base:Nat} {held:Bool}
def Vq (P:Program)(t:TypeId):Bool:=
 match P.underlying t with
 |some (.struct _)=>true
 |_=>false
theorem Q0 {n:Nat}{t:TypeId}{e:CT}{g:Bool}{v:Value}{d:DataW H}{ps:List MemPlace}{r:Reach}{b0:Nat}(hc:Fs P n t e=true)(hg:Vq P t=g)(hval:Value.okWide P w r b0 t v)(hd:DataW.Trod enc P w base (λ_=>true) held t v d ps):∃x:e.D,dG (dc (λ_=>Old w) (λ_=>0) w) v (.val g (cellsOf e (.arg false) x)) []∧Pz e x:=by
 obtain⟨fuel,hd⟩:=hd;obtain⟨x,hr,hin⟩:=zz n t e fuel _ d ps hc hd;refine⟨x,⟨v.cells.toList,?_,wb (c:=dc (λ_=>Old w) (λ_=>0) w) (k:=false) hr⟩,hin⟩;unfold Vq at hg;cases n with
 |zero=>cases hc
 |succ n=>
  unfold Fs at hc;unfold Value.okWide at hval;cases hu:P.underlying t with
  |none=>rw[hu]at hc;cases hc
  |some dd=>
   rw[hu]at hc hg hval;cases dd<;>simp only at hc hg hval<;>try (cases hc)
   all_goals first
    |(subst hg
      unfold Cell.okWide Cell.ok at hval
      rw[hu]at hval
      cases v<;>simp_all[Cut,Value.cells])
    |(subst hg
      obtain⟨cs,rfl,_⟩:=hval
      simp[Cut,Value.cells])
theorem w4 (hl:laidOutB P=true){W W':World}(hb:Below W.heap.size W W'){sp:Nat→Bool}:∀{ts:List TypeId}{vs:List Value}{ds:List (DataW H)}{ps:List MemPlace},ts.all (λt=>P.readableRec t&&decide (t<P.types.size))=true→
 DataW.TrodAll enc P W 0 (λ_=>true) true ts vs ds ps→(∀p∈ps,sp p.block=true)→(∀p∈ps,p.block<W.heap.size)→DataW.TrodAll enc P W' 0 sp true ts vs ds ps
 |[],[],[],_,_,h,_,_=>h
 |t::ts,v::vs,d::ds,ps,ht,h,hs,hlt=>by obtain⟨p,q,h1,h2,rfl⟩:=h;simp only[bp,ab,aD]at ht;refine⟨p,q,WideElems.Trod_stays hl ht.1.1 ht.1.2 h1 (λx hx=>hb.same (hlt x (aS _ hx))) (λx hx=>hs x (aS _ hx)),?_,rfl⟩;exact w4 hl hb (by simpa using ht.2) h2 (λx hx=>hs x (aI _ hx)) (λx hx=>hlt x (aI _ hx))
 |[],_::_,_,_,_,h,_,_=>h.elim
 |[],[],_::_,_,_,h,_,_=>h.elim
 |_::_,[],_,_,_,h,_,_=>h.elim
 |_::_,_::_,[],_,_,h,_,_=>h.elim
theorem Dw {W:World}{sp:Nat→Bool}:∀{ts:List TypeId}{vs:List Value}{ds:List (DataW H)}{ps:List MemPlace},DataW.TrodAll enc P W base sp held ts vs ds ps→∀p∈ps,p.block<W.heap.size
 |[],[],[],ps,h=>by cases h;simp
 |t::ts,v::vs,d::ds,ps,h=>by obtain⟨p,q,⟨n,h1⟩,h2,rfl⟩:=h;intro x hx;rcases al.1 hx with hx|hx;exact DataW.trod_lt n t _ _ h1 x hx;exact Dw h2 x hx
 |[],_::_,_,_,h=>h.elim
 |[],[],_::_,_,h=>h.elim
 |_::_,[],_,_,h=>h.elim
 |_::_,_::_,[],_,h=>h.elim
theorem QH {f:Func}{s:ChangeSpec}{W W':World}{args:Array Value}{ds:List (DataW H)}{before:List MemPlace}{tb:TypeId}(hl:laidOutB P=true)(hrd:f.params.toList.all (λt=>P.readableRec t&&decide (t<P.types.size))=true)(hres:f.resultTypes=#[tb])(htb:P.underlying tb=some .bool)(hvars:s.vars=[])(hfn:s.fn H (ds++[])={results:=[.lit (.bool true)],args:=ds})(hW:DataW.Whole enc P f.params.toList s.vars false W args.toList ds [] before)(hb:Below W.heap.size W W'): s.post enc P f false true false false W args (.bool true) W':=by obtain⟨p,q,hA,hV,rfl,hfz,hnd⟩:=id hW;have hlt:=Dw hA;refine⟨ds,[],p++q,[],p,[],hW,?_,?_,?_,hb.frame _,by simp⟩;rw[hres,hfn];exact trodAll_mk1 (shut_bool htb true);rw[hfn];exact w4 hl hb hrd hA (λx hx=>by simpa using hlt x hx) hlt;rw[hfn,hvars];exact rfl
theorem Og {K:Nat}{F:aW}(hF:aU P K F)(hio:F.io=false)(hbx:F.bx=false){W:World}{vs:List Value}{xs:List AV}(hargs:il (λ_=>Old W) W vs xs){y:F.R}(hy:F.fn xs=some y)(hav:F.res y=.one (.bool true)): Calls P K vs.toArray W λe W'=>e=.returned (.bool true)∧Below W.heap.size W W':=by refine((hF xs _ hy).2.1 hio hbx (λ_=>Old W) W vs (λ_ b o h=>h) hargs).mono ?_;rintro e w' ⟨v,hw,fp,rfl,hr,_,_,hfr⟩;rw[hav]at hr;have:=oo hr;subst this;exact⟨rfl,hfr.below⟩
end
def cG.add (Γ:cG)(f:Nat)(F:aW):cG:=λg=>bif g==f then F else Γ g
def cG.nil:cG:=λ_=>{R:=Unit,fn:=λ_=>none,av:=λ_=> .bot}
theorem Sound.nil {P:Program}{E:Env}(ty:fC P E.ty)(eqs:G6 P E.eqs)(fts:Mb P E.fts)(mixed:P.follows .mixedOrders=true):Sound P E cG.nil:=⟨ty,eqs,fts,(λf xs y h=>by cases h),mixed⟩
theorem Sound.add {P:Program}{E:Env}{Γ:cG}(hS:Sound P E Γ){f:Nat}{F:aW}(h:aU P f F):Sound P E (Γ.add f F):=by
 refine⟨hS.ty,hS.eqs,hS.fts,λg=>?_,hS.mixed⟩;unfold cG.add;cases hg:g==f with
 |true=>
  have:g=f:=by simpa using hg
  subst this;exact h
 |false=>exact hS.fns g
end Go.Dn
