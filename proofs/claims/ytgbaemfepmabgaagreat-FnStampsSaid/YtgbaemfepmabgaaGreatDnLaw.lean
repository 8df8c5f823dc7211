import Derived.Test.YtgbaemfepmabgaaGreatDnOpen
import Derived.ProofKit
import Derived.WideKeyArgs
import Derived.Carry
/- From what the abstract semantics says of a law to the law's statement. -/
namespace Go.Dn
open Go.RowKit Go.ChangeShapes Go.WideShapes Go.ChangeAt
section
variable {H:Type} {enc:TypeId×Value->H} {P:Program} {w:World} {base:Nat} {held:Bool}
def aio (P:Program)(t:TypeId):Bool:=
 match P.underlying t with
 |some (.struct _)=>true
 |_=>false
theorem ads {n:Nat}{t:TypeId}{e:CT}{g:Bool}{v:Value}{d:DataW H}{ps:au MemPlace}{r:Reach}{b0:Nat}(hc:OU P n t e=true)(hg:aio P t=g)(hval:Value.okWide P w r b0 t v)(hd:DataW.Trod enc P w base (λ_=>true) held t v d ps):∃x:e.D,fS (fB (λ_=>Old w) (λ_=>0) w) v (.val g (cellsOf e (.arg false) x)) []/\InR e x:=by
 obtain⟨fuel,hd⟩:=hd;obtain⟨x,hr,hin⟩:=Hl n t e fuel _ d ps hc hd;refine⟨x,⟨v.cells.toList,?_,C1 (c:=fB (λ_=>Old w) (λ_=>0) w) (k:=false) hr⟩,hin⟩;unfold aio at hg;cases n with
 |zero=>cases hc
 |succ n=>
  unfold OU at hc;unfold Value.okWide at hval;cases hu:P.underlying t with
  |none=>rw[hu]at hc;cases hc
  |some dd=>
   rw[hu]at hc hg hval;cases dd<;>simp only at hc hg hval<;>try (cases hc)
   all_goals first
    |(subst hg
      unfold Cell.okWide Cell.ok at hval
      rw[hu]at hval
      cases v<;>simp_all[Cut,Value.cells])
    |(subst hg
      obtain⟨cs,rfl,_⟩:=hval
      simp[Cut,Value.cells])
theorem D6 (hl:laidOutB P=true){W W':World}(hb:Below W.heap.size W W'){sp:Nat->Bool}:∀{ts:au TypeId}{vs:ig}{ds:au (DataW H)}{ps:au MemPlace},ts.all (λt=>P.readableRec t&&decide (t<P.types.size))=true->
 DataW.TrodAll enc P W 0 (λ_=>true) true ts vs ds ps->(∀p∈ps,sp p.block=true)->(∀p∈ps,p.block<W.heap.size)->DataW.TrodAll enc P W' 0 sp true ts vs ds ps
 |[],[],[],_,_,h,_,_=>h
 |t::ts,v::vs,d::ds,ps,ht,h,hs,hlt=>by obtain⟨p,q,h1,h2,rfl⟩:=h;simp only[bU,ae,aE]at ht;refine⟨p,q,WideElems.Trod_stays hl ht.1.1 ht.1.2 h1 (λx hx=>hb.same (hlt x (bA _ hx))) (λx hx=>hs x (bA _ hx)),?_,rfl⟩;exact D6 hl hb (by simpa using ht.2) h2 (λx hx=>hs x (bq _ hx)) (λx hx=>hlt x (bq _ hx))
 |[],_::_,_,_,_,h,_,_=>h.elim
 |[],[],_::_,_,_,h,_,_=>h.elim
 |_::_,[],_,_,_,h,_,_=>h.elim
 |_::_,_::_,[],_,_,h,_,_=>h.elim
theorem Mc {W:World}{sp:Nat->Bool}:∀{ts:au TypeId}{vs:ig}{ds:au (DataW H)}{ps:au MemPlace},DataW.TrodAll enc P W base sp held ts vs ds ps->∀p∈ps,p.block<W.heap.size
 |[],[],[],ps,h=>by cases h;simp
 |t::ts,v::vs,d::ds,ps,h=>by obtain⟨p,q,⟨n,h1⟩,h2,rfl⟩:=h;intro x hx;rcases ay.1 hx with hx|hx;exact DataW.trod_lt n t _ _ h1 x hx;exact Mc h2 x hx
 |[],_::_,_,_,h=>h.elim
 |[],[],_::_,_,h=>h.elim
 |_::_,[],_,_,h=>h.elim
 |_::_,_::_,[],_,h=>h.elim
theorem ac6 {f:Func}{s:ChangeSpec}{W W':World}{args:Array Value}{ds:au (DataW H)}{before:au MemPlace}{tb:TypeId}(hl:laidOutB P=true)(hrd:f.params.toList.all (λt=>P.readableRec t&&decide (t<P.types.size))=true)(hres:f.resultTypes=#[tb])(htb:P.underlying tb=some .bool)(hvars:s.vars=[])(hfn:s.fn H (ds++[])={results:=[.lit (.bool true)],args:=ds})(hW:DataW.Whole enc P f.params.toList s.vars false W args.toList ds [] before)(hb:Below W.heap.size W W'): s.post enc P f false true false false W args (.bool true) W':=by obtain⟨p,q,hA,hV,rfl,hfz,hnd⟩:=id hW;have hlt:=Mc hA;refine⟨ds,[],p++q,[],p,[],hW,?_,?_,?_,hb.frame _,by simp⟩;rw[hres,hfn];exact trodAll_mk1 (shut_bool htb true);rw[hfn];exact D6 hl hb hrd hA (λx hx=>by simpa using hlt x hx) hlt;rw[hfn,hvars];exact rfl
theorem aap {K:Nat}{F:bg}(hF:g8 P K F)(hio:F.io=false)(hbx:F.bx=false){W:World}{vs:ig}{xs:au AV}(hargs:oO (λ_=>Old W) W vs xs){y:F.R}(hy:F.fn xs=some y)(hav:F.res y=.one (.bool true)): Calls P K vs.toArray W λe W'=>e=.returned (.bool true)/\Below W.heap.size W W':=by refine((hF xs _ hy).2.1 hio hbx (λ_=>Old W) W vs (λ_ b o h=>h) hargs).mono ?_;rintro e w' ⟨v,hw,fp,rfl,hr,_,_,hfr⟩;rw[hav]at hr;have:=uq hr;subst this;exact⟨rfl,hfr.below⟩
end
def dm.add (Γ:dm)(f:Nat)(F:bg):dm:=λg=>bif g==f then F else Γ g
def dm.nil:dm:=λ_=>{R:=Unit,fn:=λ_=>none,av:=λ_=> .bot}
theorem Sound.nil {P:Program}{E:Env}(ty:iW P E.ty)(eqs:Q5 P E.eqs)(fts:Xv P E.fts)(mixed:P.follows .mixedOrders=true):Sound P E dm.nil:=⟨ty,eqs,fts,(λf xs y h=>by cases h),mixed⟩
theorem Sound.add {P:Program}{E:Env}{Γ:dm}(hS:Sound P E Γ){f:Nat}{F:bg}(h:g8 P f F):Sound P E (Γ.add f F):=by
 refine⟨hS.ty,hS.eqs,hS.fts,λg=>?_,hS.mixed⟩;unfold dm.add;cases hg:g==f with
 |true=>
  have:g=f:=by simpa using hg
  subst this;exact h
 |false=>exact hS.fns g
end Go.Dn
