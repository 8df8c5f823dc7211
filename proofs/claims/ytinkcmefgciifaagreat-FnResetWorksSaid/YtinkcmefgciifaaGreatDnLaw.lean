import Derived.Test.YtinkcmefgciifaaGreatDnOpen
import Derived.ProofKit
import Derived.WideKeyArgs
import Derived.Carry
/- From what the abstract semantics says of a law to the law's statement. -/
namespace Go.Dn
open Go.RowKit Go.ChangeShapes Go.WideShapes Go.ChangeAt
section
variable {H:Type} {enc:TypeId×Value->H} {P:Program} {w:World} {base:Nat} {held:Bool}
def als (P:Program)(t:TypeId):Bool:=
 match P.underlying t with
 |some (.struct _)=>true
 |_=>false
theorem ahN {n:Nat}{t:TypeId}{e:CT}{g:Bool}{v:Value}{d:DataW H}{ps:az MemPlace}{r:Reach}{b0:Nat}(hc:TH P n t e=true)(hg:als P t=g)(H9:Value.okWide P w r b0 t v)(hd:DataW.Trod enc P w base (λ_=>true) held t v d ps):∃x:e.D,iu (gT (λ_=>Old w) (λ_=>0) w) v (.val g (cellsOf e (.arg false) x)) []/\InR e x:=by
 obtain⟨fuel,hd⟩:=hd;obtain⟨x,hr,ux⟩:=Lf n t e fuel _ d ps hc hd;refine⟨x,⟨v.cells.toList,?_,GJ (c:=gT (λ_=>Old w) (λ_=>0) w) (k:=false) hr⟩,ux⟩;unfold als at hg;cases n with
 |zero=>cases hc
 |succ n=>
  unfold TH at hc;unfold Value.okWide at H9;cases hu:P.underlying t with
  |none=>rw[hu]at hc;cases hc
  |some dd=>
   rw[hu]at hc hg H9;cases dd<;>simp only at hc hg H9<;>try (cases hc)
   all_goals first
    |(subst hg
      unfold Cell.okWide Cell.ok at H9
      rw[hu]at H9
      cases v<;>simp_all[Cut,Value.cells])
    |(subst hg
      obtain⟨cs,rfl,_⟩:=H9
      simp[Cut,Value.cells])
theorem HP (hl:laidOutB P=true){W W':World}(hb:Below W.heap.size W W'){sp:Nat->Bool}:∀{ts:az TypeId}{vs:jT}{ds:az (DataW H)}{ps:az MemPlace},ts.all (λt=>P.readableRec t&&decide (t<P.types.size))=true->
 DataW.TrodAll enc P W 0 (λ_=>true) true ts vs ds ps->(∀p∈ps,sp p.block=true)->(∀p∈ps,p.block<W.heap.size)->DataW.TrodAll enc P W' 0 sp true ts vs ds ps
 |[],[],[],_,_,h,_,_=>h
 |t::ts,v::vs,d::ds,ps,ht,h,hs,iz=>by obtain⟨p,q,h1,h2,rfl⟩:=h;simp only[cw,ae,aG]at ht;refine⟨p,q,WideElems.Trod_stays hl ht.1.1 ht.1.2 h1 (λx hx=>hb.same (iz x (aU _ hx))) (λx hx=>hs x (aU _ hx)),?_,rfl⟩;exact HP hl hb (by simpa using ht.2) h2 (λx hx=>hs x (bm _ hx)) (λx hx=>iz x (bm _ hx))
 |[],_::_,_,_,_,h,_,_=>h.elim
 |[],[],_::_,_,_,h,_,_=>h.elim
 |_::_,[],_,_,_,h,_,_=>h.elim
 |_::_,_::_,[],_,_,h,_,_=>h.elim
theorem Qx {W:World}{sp:Nat->Bool}:∀{ts:az TypeId}{vs:jT}{ds:az (DataW H)}{ps:az MemPlace},DataW.TrodAll enc P W base sp held ts vs ds ps->∀p∈ps,p.block<W.heap.size
 |[],[],[],ps,h=>by cases h;simp
 |t::ts,v::vs,d::ds,ps,h=>by obtain⟨p,q,⟨n,h1⟩,h2,rfl⟩:=h;intro x hx;rcases ay.1 hx with hx|hx;exact DataW.trod_lt n t _ _ h1 x hx;exact Qx h2 x hx
 |[],_::_,_,_,h=>h.elim
 |[],[],_::_,_,h=>h.elim
 |_::_,[],_,_,h=>h.elim
 |_::_,_::_,[],_,h=>h.elim
theorem ahv {f:Func}{s:ChangeSpec}{W W':World}{args:Array Value}{ds:az (DataW H)}{before:az MemPlace}{tb:TypeId}(hl:laidOutB P=true)(O1:f.params.toList.all (λt=>P.readableRec t&&decide (t<P.types.size))=true)(ja:f.resultTypes=#[tb])(htb:P.underlying tb=some .bool)(an8:s.vars=[])(Ws:s.fn H (ds++[])={results:=[.lit (.bool true)],args:=ds})(hW:DataW.Whole enc P f.params.toList s.vars false W args.toList ds [] before)(hb:Below W.heap.size W W'): s.post enc P f false true false false W args (.bool true) W':=by obtain⟨p,q,hA,hV,rfl,hfz,GW⟩:=id hW;have iz:=Qx hA;refine⟨ds,[],p++q,[],p,[],hW,?_,?_,?_,hb.frame _,by simp⟩;rw[ja,Ws];exact trodAll_mk1 (shut_bool htb true);rw[Ws];exact HP hl hb O1 hA (λx hx=>by simpa using iz x hx) iz;rw[Ws,an8];exact rfl
theorem ad5 {K:Nat}{F:kH}(hF:jj P K F)(Q1:F.io=false)(lB:F.bx=false){W:World}{vs:jT}{xs:az AV}(il:rK (λ_=>Old W) W vs xs){y:F.R}(hy:F.fn xs=some y)(hav:F.res y=.one (.bool true)): Calls P K vs.toArray W λe W'=>e=.returned (.bool true)/\Below W.heap.size W W':=by refine((hF xs _ hy).2.1 Q1 lB (λ_=>Old W) W vs (λ_ b o h=>h) il).mono ?_;rintro e w' ⟨v,hw,fp,rfl,hr,_,_,kB⟩;rw[hav]at hr;have:=xf hr;subst this;exact⟨rfl,kB.below⟩
end
def Bx.add (Γ:Bx)(f:Nat)(F:kH):Bx:=λg=>bif Nat.beq g f then F else Γ g
def Bx.nil:Bx:=λ_=>{R:=Unit,fn:=λ_=>none,av:=λ_=> .bot}
theorem Sound.nil {P:Program}{E:Env}(ty:kJ P E.ty)(eqs:Vw P E.eqs)(fts:abF P E.fts)(mixed:P.follows .mixedOrders=true):Sound P E Bx.nil:=⟨ty,eqs,fts,(λf xs y h=>by cases h),mixed⟩
theorem Sound.add {P:Program}{E:Env}{Γ:Bx}(hS:Sound P E Γ){f:Nat}{F:kH}(h:jj P f F):Sound P E (Γ.add f F):=by refine⟨hS.ty,hS.eqs,hS.fts,λg=>?_,hS.mixed⟩;unfold Bx.add;cases hg:Nat.beq g f with|true=>have:g=f:=Nat.eq_of_beq_eq_true hg;subst this;exact h|false=>exact hS.fns g
end Go.Dn
