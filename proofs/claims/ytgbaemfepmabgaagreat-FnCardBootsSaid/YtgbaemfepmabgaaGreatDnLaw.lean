import Derived.Test.YtgbaemfepmabgaaGreatDnOpen
import Derived.ProofKit
import Derived.WideKeyArgs
import Derived.Carry
/- From what the abstract semantics says of a law to the law's statement. -/
namespace Go.Dn
open Go.RowKit Go.ChangeShapes Go.WideShapes Go.ChangeAt
section
variable {H:Type} {enc:TypeId×Value->H} {P:Program} {w:World} {base:Nat} {held:Bool}
def ajj (P:Program)(t:TypeId):Bool:=
 match P.underlying t with
 |some (.struct _)=>true
 |_=>false
theorem aep {n:Nat}{t:TypeId}{e:CT}{g:Bool}{v:Value}{d:DataW H}{ps:aw MemPlace}{r:Reach}{b0:Nat}(hc:P4 P n t e=true)(hg:ajj P t=g)(hval:Value.okWide P w r b0 t v)(hd:DataW.Trod enc P w base (λ_=>true) held t v d ps):∃x:e.D,gE (gi (λ_=>Old w) (λ_=>0) w) v (.val g (cellsOf e (.arg false) x)) []/\InR e x:=by
 obtain⟨fuel,hd⟩:=hd;obtain⟨x,hr,hin⟩:=It n t e fuel _ d ps hc hd;refine⟨x,⟨v.cells.toList,?_,Ec (c:=gi (λ_=>Old w) (λ_=>0) w) (k:=false) hr⟩,hin⟩;unfold ajj at hg;cases n with
 |zero=>cases hc
 |succ n=>
  unfold P4 at hc;unfold Value.okWide at hval;cases hu:P.underlying t with
  |none=>rw[hu]at hc;cases hc
  |some dd=>
   rw[hu]at hc hg hval;cases dd<;>simp only at hc hg hval<;>try (cases hc)
   all_goals first
    |(subst hg
      unfold Cell.okWide Cell.ok at hval
      rw[hu]at hval
      cases v<;>simp_all[Cut,Value.cells])
    |(subst hg
      obtain⟨cs,rfl,_⟩:=hval
      simp[Cut,Value.cells])
theorem Fg (hl:laidOutB P=true){W W':World}(hb:Below W.heap.size W W'){sp:Nat->Bool}:∀{ts:aw TypeId}{vs:iS}{ds:aw (DataW H)}{ps:aw MemPlace},ts.all (λt=>P.readableRec t&&decide (t<P.types.size))=true->
 DataW.TrodAll enc P W 0 (λ_=>true) true ts vs ds ps->(∀p∈ps,sp p.block=true)->(∀p∈ps,p.block<W.heap.size)->DataW.TrodAll enc P W' 0 sp true ts vs ds ps
 |[],[],[],_,_,h,_,_=>h
 |t::ts,v::vs,d::ds,ps,ht,h,hs,hlt=>by obtain⟨p,q,h1,h2,rfl⟩:=h;simp only[ch,ae,aH]at ht;refine⟨p,q,WideElems.Trod_stays hl ht.1.1 ht.1.2 h1 (λx hx=>hb.same (hlt x (bI _ hx))) (λx hx=>hs x (bI _ hx)),?_,rfl⟩;exact Fg hl hb (by simpa using ht.2) h2 (λx hx=>hs x (bw _ hx)) (λx hx=>hlt x (bw _ hx))
 |[],_::_,_,_,_,h,_,_=>h.elim
 |[],[],_::_,_,_,h,_,_=>h.elim
 |_::_,[],_,_,_,h,_,_=>h.elim
 |_::_,_::_,[],_,_,h,_,_=>h.elim
theorem Ni {W:World}{sp:Nat->Bool}:∀{ts:aw TypeId}{vs:iS}{ds:aw (DataW H)}{ps:aw MemPlace},DataW.TrodAll enc P W base sp held ts vs ds ps->∀p∈ps,p.block<W.heap.size
 |[],[],[],ps,h=>by cases h;simp
 |t::ts,v::vs,d::ds,ps,h=>by obtain⟨p,q,⟨n,h1⟩,h2,rfl⟩:=h;intro x hx;rcases ay.1 hx with hx|hx;exact DataW.trod_lt n t _ _ h1 x hx;exact Ni h2 x hx
 |[],_::_,_,_,h=>h.elim
 |[],[],_::_,_,h=>h.elim
 |_::_,[],_,_,h=>h.elim
 |_::_,_::_,[],_,h=>h.elim
theorem ad5 {f:Func}{s:ChangeSpec}{W W':World}{args:Array Value}{ds:aw (DataW H)}{before:aw MemPlace}{tb:TypeId}(hl:laidOutB P=true)(hrd:f.params.toList.all (λt=>P.readableRec t&&decide (t<P.types.size))=true)(hres:f.resultTypes=#[tb])(htb:P.underlying tb=some .bool)(hvars:s.vars=[])(hfn:s.fn H (ds++[])={results:=[.lit (.bool true)],args:=ds})(hW:DataW.Whole enc P f.params.toList s.vars false W args.toList ds [] before)(hb:Below W.heap.size W W'): s.post enc P f false true false false W args (.bool true) W':=by obtain⟨p,q,hA,hV,rfl,hfz,hnd⟩:=id hW;have hlt:=Ni hA;refine⟨ds,[],p++q,[],p,[],hW,?_,?_,?_,hb.frame _,by simp⟩;rw[hres,hfn];exact trodAll_mk1 (shut_bool htb true);rw[hfn];exact Fg hl hb hrd hA (λx hx=>by simpa using hlt x hx) hlt;rw[hfn,hvars];exact rfl
theorem abl {K:Nat}{F:bn}(hF:iH P K F)(hio:F.io=false)(hbx:F.bx=false){W:World}{vs:iS}{xs:aw AV}(hargs:pV (λ_=>Old W) W vs xs){y:F.R}(hy:F.fn xs=some y)(hav:F.res y=.one (.bool true)): Calls P K vs.toArray W λe W'=>e=.returned (.bool true)/\Below W.heap.size W W':=by refine((hF xs _ hy).2.1 hio hbx (λ_=>Old W) W vs (λ_ b o h=>h) hargs).mono ?_;rintro e w' ⟨v,hw,fp,rfl,hr,_,_,hfr⟩;rw[hav]at hr;have:=vE hr;subst this;exact⟨rfl,hfr.below⟩
end
def dK.add (Γ:dK)(f:Nat)(F:bn):dK:=λg=>bif g==f then F else Γ g
def dK.nil:dK:=λ_=>{R:=Unit,fn:=λ_=>none,av:=λ_=> .bot}
theorem Sound.nil {P:Program}{E:Env}(ty:jA P E.ty)(eqs:Se P E.eqs)(fts:Yv P E.fts)(mixed:P.follows .mixedOrders=true):Sound P E dK.nil:=⟨ty,eqs,fts,(λf xs y h=>by cases h),mixed⟩
theorem Sound.add {P:Program}{E:Env}{Γ:dK}(hS:Sound P E Γ){f:Nat}{F:bn}(h:iH P f F):Sound P E (Γ.add f F):=by
 refine⟨hS.ty,hS.eqs,hS.fts,λg=>?_,hS.mixed⟩;unfold dK.add;cases hg:g==f with
 |true=>
  have:g=f:=by simpa using hg
  subst this;exact h
 |false=>exact hS.fns g
end Go.Dn
