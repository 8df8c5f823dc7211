import Derived.Test.YtnmppgnbjfdffaaGreatDnOpen
import Derived.ProofKit
import Derived.WideKeyArgs
import Derived.Carry
/- From what the abstract semantics says of a law to the law's statement. -/
namespace Go.Dn
open Go.RowKit Go.ChangeShapes Go.WideShapes Go.ChangeAt
section
variable {H:Type} {enc:TypeId×Value->H} {P:Program} {w:World} {base:Nat} {held:Bool}
def aiW (P:Program)(t:TypeId):Bool:=
 match P.underlying t with
 |some (.struct _)=>true
 |_=>false
theorem ae4 {n:Nat}{t:TypeId}{e:CT}{g:Bool}{v:Value}{d:DataW H}{ps:ay MemPlace}{r:Reach}{b0:Nat}(hc:Q5 P n t e=true)(hg:aiW P t=g)(Gl:Value.okWide P w r b0 t v)(hd:DataW.Trod enc P w base (λ_=>true) held t v d ps):∃x:e.D,gW (gC (λ_=>Old w) (λ_=>0) w) v (.val g (cellsOf e (.arg false) x)) []/\InR e x:=by
 obtain⟨fuel,hd⟩:=hd;obtain⟨x,hr,uN⟩:=Jl n t e fuel _ d ps hc hd;refine⟨x,⟨v.cells.toList,?_,E0 (c:=gC (λ_=>Old w) (λ_=>0) w) (k:=false) hr⟩,uN⟩;unfold aiW at hg;cases n with
 |zero=>cases hc
 |succ n=>
  unfold Q5 at hc;unfold Value.okWide at Gl;cases hu:P.underlying t with
  |none=>rw[hu]at hc;cases hc
  |some dd=>
   rw[hu]at hc hg Gl;cases dd<;>simp only at hc hg Gl<;>try (cases hc)
   all_goals first
    |(subst hg
      unfold Cell.okWide Cell.ok at Gl
      rw[hu]at Gl
      cases v<;>simp_all[Cut,Value.cells])
    |(subst hg
      obtain⟨cs,rfl,_⟩:=Gl
      simp[Cut,Value.cells])
theorem F5 (hl:laidOutB P=true){W W':World}(hb:Below W.heap.size W W'){sp:Nat->Bool}:∀{ts:ay TypeId}{vs:jz}{ds:ay (DataW H)}{ps:ay MemPlace},ts.all (λt=>P.readableRec t&&decide (t<P.types.size))=true->
 DataW.TrodAll enc P W 0 (λ_=>true) true ts vs ds ps->(∀p∈ps,sp p.block=true)->(∀p∈ps,p.block<W.heap.size)->DataW.TrodAll enc P W' 0 sp true ts vs ds ps
 |[],[],[],_,_,h,_,_=>h
 |t::ts,v::vs,d::ds,ps,ht,h,hs,ir=>by obtain⟨p,q,h1,h2,rfl⟩:=h;simp only[cv,ab,aE]at ht;refine⟨p,q,WideElems.Trod_stays hl ht.1.1 ht.1.2 h1 (λx hx=>hb.same (ir x (aR _ hx))) (λx hx=>hs x (aR _ hx)),?_,rfl⟩;exact F5 hl hb (by simpa using ht.2) h2 (λx hx=>hs x (bj _ hx)) (λx hx=>ir x (bj _ hx))
 |[],_::_,_,_,_,h,_,_=>h.elim
 |[],[],_::_,_,_,h,_,_=>h.elim
 |_::_,[],_,_,_,h,_,_=>h.elim
 |_::_,_::_,[],_,_,h,_,_=>h.elim
theorem NZ {W:World}{sp:Nat->Bool}:∀{ts:ay TypeId}{vs:jz}{ds:ay (DataW H)}{ps:ay MemPlace},DataW.TrodAll enc P W base sp held ts vs ds ps->∀p∈ps,p.block<W.heap.size
 |[],[],[],ps,h=>by cases h;simp
 |t::ts,v::vs,d::ds,ps,h=>by obtain⟨p,q,⟨n,h1⟩,h2,rfl⟩:=h;intro x hx;rcases ax.1 hx with hx|hx;exact DataW.trod_lt n t _ _ h1 x hx;exact NZ h2 x hx
 |[],_::_,_,_,h=>h.elim
 |[],[],_::_,_,h=>h.elim
 |_::_,[],_,_,h=>h.elim
 |_::_,_::_,[],_,h=>h.elim
theorem aeN {f:Func}{s:ChangeSpec}{W W':World}{args:Array Value}{ds:ay (DataW H)}{before:ay MemPlace}{tb:TypeId}(hl:laidOutB P=true)(MA:f.params.toList.all (λt=>P.readableRec t&&decide (t<P.types.size))=true)(iE:f.resultTypes=#[tb])(htb:P.underlying tb=some .bool)(alx:s.vars=[])(TU:s.fn H (ds++[])={results:=[.lit (.bool true)],args:=ds})(hW:DataW.Whole enc P f.params.toList s.vars false W args.toList ds [] before)(hb:Below W.heap.size W W'): s.post enc P f false true false false W args (.bool true) W':=by obtain⟨p,q,hA,hV,rfl,hfz,Fc⟩:=id hW;have ir:=NZ hA;refine⟨ds,[],p++q,[],p,[],hW,?_,?_,?_,hb.frame _,by simp⟩;rw[iE,TU];exact trodAll_mk1 (shut_bool htb true);rw[TU];exact F5 hl hb MA hA (λx hx=>by simpa using ir x hx) ir;rw[TU,alx];exact rfl
theorem abp {K:Nat}{F:kH}(hF:iW P K F)(Ot:F.io=false)(kC:F.bx=false){W:World}{vs:jz}{xs:ay AV}(gP:qj (λ_=>Old W) W vs xs){y:F.R}(hy:F.fn xs=some y)(hav:F.res y=.one (.bool true)): Calls P K vs.toArray W λe W'=>e=.returned (.bool true)/\Below W.heap.size W W':=by refine((hF xs _ hy).2.1 Ot kC (λ_=>Old W) W vs (λ_ b o h=>h) gP).mono ?_;rintro e w' ⟨v,hw,fp,rfl,hr,_,_,jQ⟩;rw[hav]at hr;have:=vF hr;subst this;exact⟨rfl,jQ.below⟩
end
def zP.add (Γ:zP)(f:Nat)(F:kH):zP:=λg=>bif Nat.beq g f then F else Γ g
def zP.nil:zP:=λ_=>{R:=Unit,fn:=λ_=>none,av:=λ_=> .bot}
theorem Sound.nil {P:Program}{E:Env}(ty:jX P E.ty)(eqs:SU P E.eqs)(fts:YN P E.fts)(mixed:P.follows .mixedOrders=true):Sound P E zP.nil:=⟨ty,eqs,fts,(λf xs y h=>by cases h),mixed⟩
theorem Sound.add {P:Program}{E:Env}{Γ:zP}(hS:Sound P E Γ){f:Nat}{F:kH}(h:iW P f F):Sound P E (Γ.add f F):=by refine⟨hS.ty,hS.eqs,hS.fts,λg=>?_,hS.mixed⟩;unfold zP.add;cases hg:Nat.beq g f with|true=>have:g=f:=Nat.eq_of_beq_eq_true hg;subst this;exact h|false=>exact hS.fns g
end Go.Dn
