import Derived.Test.YtnmppgnbjfdffaaGreatDnOpen
import Derived.ProofKit
import Derived.WideKeyArgs
import Derived.Carry
/- From what the abstract semantics says of a law to the law's statement. -/
namespace Go.Dn
open Go.RowKit Go.ChangeShapes Go.WideShapes Go.ChangeAt
section
variable {H:Type} {enc:TypeId×Value->H} {P:Program} {w:World} {base:Nat} {held:Bool}
def aeY (P:Program)(t:TypeId):Bool:=
 match P.underlying t with
 |some (.struct _)=>true
 |_=>false
theorem abt {n:Nat}{t:TypeId}{e:CT}{g:Bool}{v:Value}{d:DataW H}{ps:aw MemPlace}{r:Reach}{b0:Nat}(hc:NA P n t e=true)(hg:aeY P t=g)(DY:Value.okWide P w r b0 t v)(hd:DataW.Trod enc P w base (λ_=>true) held t v d ps):∃x:e.D,fP (fD (λ_=>Old w) (λ_=>0) w) v (.val g (cellsOf e (.arg false) x)) []/\Zg e x:=by
 obtain⟨fuel,hd⟩:=hd;obtain⟨x,hr,rP⟩:=GM n t e fuel _ d ps hc hd;refine⟨x,⟨v.cells.toList,?_,Cv (c:=fD (λ_=>Old w) (λ_=>0) w) (k:=false) hr⟩,rP⟩;unfold aeY at hg;cases n with
 |zero=>cases hc
 |succ n=>
  unfold NA at hc;unfold Value.okWide at DY;cases hu:P.underlying t with
  |none=>rw[hu]at hc;cases hc
  |some dd=>
   rw[hu]at hc hg DY;cases dd<;>simp only at hc hg DY<;>try (cases hc)
   all_goals first
    |(subst hg
      unfold Cell.okWide Cell.ok at DY
      rw[hu]at DY
      cases v<;>simp_all[Cut,Value.cells])
    |(subst hg
      obtain⟨cs,rfl,_⟩:=DY
      simp[Cut,Value.cells])
theorem DA (hl:laidOutB P=true){W W':World}(hb:Below W.heap.size W W'){sp:Nat->Bool}:∀{ts:aw TypeId}{vs:ir}{ds:aw (DataW H)}{ps:aw MemPlace},ts.all (λt=>P.readableRec t&&decide (t<P.types.size))=true->
 DataW.TrodAll enc P W 0 (λ_=>true) true ts vs ds ps->(∀p∈ps,sp p.block=true)->(∀p∈ps,p.block<W.heap.size)->DataW.TrodAll enc P W' 0 sp true ts vs ds ps
 |[],[],[],_,_,h,_,_=>h
 |t::ts,v::vs,d::ds,ps,ht,h,hs,hG=>by obtain⟨p,q,h1,h2,rfl⟩:=h;simp only[bV,ae,aC]at ht;refine⟨p,q,WideElems.Trod_stays hl ht.1.1 ht.1.2 h1 (λx hx=>hb.same (hG x (bn _ hx))) (λx hx=>hs x (bn _ hx)),?_,rfl⟩;exact DA hl hb (by simpa using ht.2) h2 (λx hx=>hs x (ba _ hx)) (λx hx=>hG x (ba _ hx))
 |[],_::_,_,_,_,h,_,_=>h.elim
 |[],[],_::_,_,_,h,_,_=>h.elim
 |_::_,[],_,_,_,h,_,_=>h.elim
 |_::_,_::_,[],_,_,h,_,_=>h.elim
theorem KY {W:World}{sp:Nat->Bool}:∀{ts:aw TypeId}{vs:ir}{ds:aw (DataW H)}{ps:aw MemPlace},DataW.TrodAll enc P W base sp held ts vs ds ps->∀p∈ps,p.block<W.heap.size
 |[],[],[],ps,h=>by cases h;simp
 |t::ts,v::vs,d::ds,ps,h=>by obtain⟨p,q,⟨n,h1⟩,h2,rfl⟩:=h;intro x hx;rcases ax.1 hx with hx|hx;exact DataW.trod_lt n t _ _ h1 x hx;exact KY h2 x hx
 |[],_::_,_,_,h=>h.elim
 |[],[],_::_,_,h=>h.elim
 |_::_,[],_,_,h=>h.elim
 |_::_,_::_,[],_,h=>h.elim
theorem abb {f:Func}{s:ChangeSpec}{W W':World}{args:Array Value}{ds:aw (DataW H)}{before:aw MemPlace}{tb:TypeId}(hl:laidOutB P=true)(JJ:f.params.toList.all (λt=>P.readableRec t&&decide (t<P.types.size))=true)(gw:f.resultTypes=#[tb])(htb:P.underlying tb=some .bool)(ahF:s.vars=[])(Qt:s.fn H (ds++[])={results:=[.lit (.bool true)],args:=ds})(hW:DataW.Whole enc P f.params.toList s.vars false W args.toList ds [] before)(hb:Below W.heap.size W W'): s.post enc P f false true false false W args (.bool true) W':=by obtain⟨p,q,hA,hV,rfl,hfz,CI⟩:=id hW;have hG:=KY hA;refine⟨ds,[],p++q,[],p,[],hW,?_,?_,?_,hb.frame _,by simp⟩;rw[gw,Qt];exact trodAll_mk1 (shut_bool htb true);rw[Qt];exact DA hl hb JJ hA (λx hx=>by simpa using hG x hx) hG;rw[Qt,ahF];exact rfl
theorem XJ {K:Nat}{F:iW}(hF:gA P K F)(Lp:F.io=false)(jt:F.bx=false){W:World}{vs:ir}{xs:aw AV}(fL:ot (λ_=>Old W) W vs xs){y:F.R}(hy:F.fn xs=some y)(hav:F.res y=.one (.bool true)): Calls P K vs.toArray W λe W'=>e=.returned (.bool true)/\Below W.heap.size W W':=by refine((hF xs _ hy).2.1 Lp jt (λ_=>Old W) W vs (λ_ b o h=>h) fL).mono ?_;rintro e w' ⟨v,hw,fp,rfl,hr,_,_,je⟩;rw[hav]at hr;have:=tp hr;subst this;exact⟨rfl,je.below⟩
end
def xl.add (Γ:xl)(f:Nat)(F:iW):xl:=λg=>bif Nat.beq g f then F else Γ g
def xl.nil:xl:=λ_=>{R:=Unit,fn:=λ_=>none,av:=λ_=> .bot}
theorem Sound.nil {P:Program}{E:Env}(ty:iY P E.ty)(eqs:Pv P E.eqs)(fts:Vk P E.fts)(mixed:P.follows .mixedOrders=true):Sound P E xl.nil:=⟨ty,eqs,fts,(λf xs y h=>by cases h),mixed⟩
theorem Sound.add {P:Program}{E:Env}{Γ:xl}(hS:Sound P E Γ){f:Nat}{F:iW}(h:gA P f F):Sound P E (Γ.add f F):=by refine⟨hS.ty,hS.eqs,hS.fts,λg=>?_,hS.mixed⟩;unfold xl.add;cases hg:Nat.beq g f with|true=>have:g=f:=Nat.eq_of_beq_eq_true hg;subst this;exact h|false=>exact hS.fns g
end Go.Dn
