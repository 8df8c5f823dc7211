import Derived.Test.YtainmjjkipbciaaGreatDnOpen
import Derived.ProofKit
import Derived.WideKeyArgs
import Derived.Carry
/- From what the abstract semantics says of a law to the law's statement. -/
namespace Go.Dn
open Go.RowKit Go.ChangeShapes Go.WideShapes Go.ChangeAt
section
variable {H:Type} {enc:TypeId×Value->H} {P:Program} {w:World} {base:Nat} {held:Bool}
def aek (P:Program)(t:TypeId):Bool:=
 match P.underlying t with
 |some (.struct _)=>true
 |_=>false
theorem ZW {n:Nat}{t:TypeId}{e:CT}{g:Bool}{v:Value}{d:DataW H}{ps:ax MemPlace}{r:Reach}{b0:Nat}(hc:M4 P n t e=true)(hg:aek P t=g)(hval:Value.okWide P w r b0 t v)(hd:DataW.Trod enc P w base (λ_=>true) held t v d ps):∃x:e.D,gE (gh (λ_=>Old w) (λ_=>0) w) v (.val g (cellsOf e (.arg false) x)) []/\Yr e x:=by
 obtain⟨fuel,hd⟩:=hd;obtain⟨x,hr,hin⟩:=F2 n t e fuel _ d ps hc hd;refine⟨x,⟨v.cells.toList,?_,Ck (c:=gh (λ_=>Old w) (λ_=>0) w) (k:=false) hr⟩,hin⟩;unfold aek at hg;cases n with
 |zero=>cases hc
 |succ n=>
  unfold M4 at hc;unfold Value.okWide at hval;cases hu:P.underlying t with
  |none=>rw[hu]at hc;cases hc
  |some dd=>
   rw[hu]at hc hg hval;cases dd<;>simp only at hc hg hval<;>try (cases hc)
   all_goals first
    |(subst hg
      unfold Cell.okWide Cell.ok at hval
      rw[hu]at hval
      cases v<;>simp_all[Cut,Value.cells])
    |(subst hg
      obtain⟨cs,rfl,_⟩:=hval
      simp[Cut,Value.cells])
theorem Dm (hl:laidOutB P=true){W W':World}(hb:Below W.heap.size W W'){sp:Nat->Bool}:∀{ts:ax TypeId}{vs:iS}{ds:ax (DataW H)}{ps:ax MemPlace},ts.all (λt=>P.readableRec t&&decide (t<P.types.size))=true->
 DataW.TrodAll enc P W 0 (λ_=>true) true ts vs ds ps->(∀p∈ps,sp p.block=true)->(∀p∈ps,p.block<W.heap.size)->DataW.TrodAll enc P W' 0 sp true ts vs ds ps
 |[],[],[],_,_,h,_,_=>h
 |t::ts,v::vs,d::ds,ps,ht,h,hs,hlt=>by obtain⟨p,q,h1,h2,rfl⟩:=h;simp only[cr,ae,aD]at ht;refine⟨p,q,WideElems.Trod_stays hl ht.1.1 ht.1.2 h1 (λx hx=>hb.same (hlt x (bA _ hx))) (λx hx=>hs x (bA _ hx)),?_,rfl⟩;exact Dm hl hb (by simpa using ht.2) h2 (λx hx=>hs x (bg _ hx)) (λx hx=>hlt x (bg _ hx))
 |[],_::_,_,_,_,h,_,_=>h.elim
 |[],[],_::_,_,_,h,_,_=>h.elim
 |_::_,[],_,_,_,h,_,_=>h.elim
 |_::_,_::_,[],_,_,h,_,_=>h.elim
theorem KF {W:World}{sp:Nat->Bool}:∀{ts:ax TypeId}{vs:iS}{ds:ax (DataW H)}{ps:ax MemPlace},DataW.TrodAll enc P W base sp held ts vs ds ps->∀p∈ps,p.block<W.heap.size
 |[],[],[],ps,h=>by cases h;simp
 |t::ts,v::vs,d::ds,ps,h=>by obtain⟨p,q,⟨n,h1⟩,h2,rfl⟩:=h;intro x hx;rcases aw.1 hx with hx|hx;exact DataW.trod_lt n t _ _ h1 x hx;exact KF h2 x hx
 |[],_::_,_,_,h=>h.elim
 |[],[],_::_,_,h=>h.elim
 |_::_,[],_,_,h=>h.elim
 |_::_,_::_,[],_,h=>h.elim
theorem ZD {f:Func}{s:ChangeSpec}{W W':World}{args:Array Value}{ds:ax (DataW H)}{before:ax MemPlace}{tb:TypeId}(hl:laidOutB P=true)(hrd:f.params.toList.all (λt=>P.readableRec t&&decide (t<P.types.size))=true)(hres:f.resultTypes=#[tb])(htb:P.underlying tb=some .bool)(hvars:s.vars=[])(hfn:s.fn H (ds++[])={results:=[.lit (.bool true)],args:=ds})(hW:DataW.Whole enc P f.params.toList s.vars false W args.toList ds [] before)(hb:Below W.heap.size W W'): s.post enc P f false true false false W args (.bool true) W':=by obtain⟨p,q,hA,hV,rfl,hfz,hnd⟩:=id hW;have hlt:=KF hA;refine⟨ds,[],p++q,[],p,[],hW,?_,?_,?_,hb.frame _,by simp⟩;rw[hres,hfn];exact trodAll_mk1 (shut_bool htb true);rw[hfn];exact Dm hl hb hrd hA (λx hx=>by simpa using hlt x hx) hlt;rw[hfn,hvars];exact rfl
theorem WV {K:Nat}{F:bp}(hF:im P K F)(hio:F.io=false)(hbx:F.bx=false){W:World}{vs:iS}{xs:ax AV}(hargs:oY (λ_=>Old W) W vs xs){y:F.R}(hy:F.fn xs=some y)(hav:F.res y=.one (.bool true)): Calls P K vs.toArray W λe W'=>e=.returned (.bool true)/\Below W.heap.size W W':=by refine((hF xs _ hy).2.1 hio hbx (λ_=>Old W) W vs (λ_ b o h=>h) hargs).mono ?_;rintro e w' ⟨v,hw,fp,rfl,hr,_,_,hfr⟩;rw[hav]at hr;have:=tQ hr;subst this;exact⟨rfl,hfr.below⟩
end
def eE.add (Γ:eE)(f:Nat)(F:bp):eE:=λg=>bif g==f then F else Γ g
def eE.nil:eE:=λ_=>{R:=Unit,fn:=λ_=>none,av:=λ_=> .bot}
theorem Sound.nil {P:Program}{E:Env}(ty:jr P E.ty)(eqs:O2 P E.eqs)(fts:Ut P E.fts)(mixed:P.follows .mixedOrders=true):Sound P E eE.nil:=⟨ty,eqs,fts,(λf xs y h=>by cases h),mixed⟩
theorem Sound.add {P:Program}{E:Env}{Γ:eE}(hS:Sound P E Γ){f:Nat}{F:bp}(h:im P f F):Sound P E (Γ.add f F):=by
 refine⟨hS.ty,hS.eqs,hS.fts,λg=>?_,hS.mixed⟩;unfold eE.add;cases hg:g==f with
 |true=>
  have:g=f:=by simpa using hg
  subst this;exact h
 |false=>exact hS.fns g
end Go.Dn
