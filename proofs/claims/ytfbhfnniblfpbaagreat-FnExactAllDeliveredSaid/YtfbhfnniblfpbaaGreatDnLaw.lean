import Derived.Test.YtfbhfnniblfpbaaGreatDnOpen
import Derived.ProofKit
import Derived.WideKeyArgs
import Derived.Carry
/- From what the abstract semantics says of a law to the law's statement. -/
namespace Go.Dn
open Go.RowKit Go.ChangeShapes Go.WideShapes Go.ChangeAt
section
variable {H:Type} {enc:TypeId×Value->H} {P:Program} {w:World} {base:Nat} {held:Bool}
def ae5 (P:Program)(t:TypeId):Bool:=
 match P.underlying t with
 |some (.struct _)=>true
 |_=>false
theorem Vw {n:Nat}{t:TypeId}{e:CT}{g:Bool}{v:Value}{d:DataW H}{ps:au MemPlace}{r:Reach}{b0:Nat}(hc:PY P n t e=true)(hg:ae5 P t=g)(HK:Value.okWide P w r b0 t v)(hd:DataW.Trod enc P w base (λ_=>true) held t v d ps):∃x:e.D,fy (eD (λ_=>Old w) (λ_=>0) w) v (.val g (cellsOf e (.arg false) x)) []/\InR e x:=by
 obtain⟨fuel,hd⟩:=hd;obtain⟨x,hr,tU⟩:=Lb n t e fuel _ d ps hc hd;refine⟨x,⟨v.cells.toList,?_,G1 (c:=eD (λ_=>Old w) (λ_=>0) w) (k:=false) hr⟩,tU⟩;unfold ae5 at hg;cases n with
 |zero=>cases hc
 |succ n=>
  unfold PY at hc;unfold Value.okWide at HK;cases hu:P.underlying t with
  |none=>rw[hu]at hc;cases hc
  |some dd=>
   rw[hu]at hc hg HK;cases dd<;>simp only at hc hg HK<;>try (cases hc)
   all_goals first
    |(subst hg
      unfold Cell.okWide Cell.ok at HK
      rw[hu]at HK
      cases v<;>simp_all[Cut,Value.cells])
    |(subst hg
      obtain⟨cs,rfl,_⟩:=HK
      simp[Cut,Value.cells])
theorem Ig (hl:laidOutB P=true){W W':World}(hb:Below W.heap.size W W'){sp:Nat->Bool}:∀{ts:au TypeId}{vs:gP}{ds:au (DataW H)}{ps:au MemPlace},ts.all (λt=>P.readableRec t&&decide (t<P.types.size))=true->
 DataW.TrodAll enc P W 0 (λ_=>true) true ts vs ds ps->(∀p∈ps,sp p.block=true)->(∀p∈ps,p.block<W.heap.size)->DataW.TrodAll enc P W' 0 sp true ts vs ds ps
 |[],[],[],_,_,h,_,_=>h
 |t::ts,v::vs,d::ds,ps,ht,h,hs,gq=>by obtain⟨p,q,h1,h2,rfl⟩:=h;simp only[bO,ah,bD]at ht;refine⟨p,q,WideElems.Trod_stays hl ht.1.1 ht.1.2 h1 (λx hx=>hb.same (gq x (bj _ hx))) (λx hx=>hs x (bj _ hx)),?_,rfl⟩;exact Ig hl hb (by simpa using ht.2) h2 (λx hx=>hs x (ba _ hx)) (λx hx=>gq x (ba _ hx))
 |[],_::_,_,_,_,h,_,_=>h.elim
 |[],[],_::_,_,_,h,_,_=>h.elim
 |_::_,[],_,_,_,h,_,_=>h.elim
 |_::_,_::_,[],_,_,h,_,_=>h.elim
theorem PB {W:World}{sp:Nat->Bool}:∀{ts:au TypeId}{vs:gP}{ds:au (DataW H)}{ps:au MemPlace},DataW.TrodAll enc P W base sp held ts vs ds ps->∀p∈ps,p.block<W.heap.size
 |[],[],[],ps,h=>by cases h;simp
 |t::ts,v::vs,d::ds,ps,h=>by obtain⟨p,q,⟨n,h1⟩,h2,rfl⟩:=h;intro x hx;rcases ay.1 hx with hx|hx;exact DataW.trod_lt n t _ _ h1 x hx;exact PB h2 x hx
 |[],_::_,_,_,h=>h.elim
 |[],[],_::_,_,h=>h.elim
 |_::_,[],_,_,h=>h.elim
 |_::_,_::_,[],_,h=>h.elim
theorem adZ {f:Func}{s:ChangeSpec}{W W':World}{args:Array Value}{ds:au (DataW H)}{before:au MemPlace}{tb:TypeId}(hl:laidOutB P=true)(Jr:f.params.toList.all (λt=>P.readableRec t&&decide (t<P.types.size))=true)(eU:f.resultTypes=#[tb])(htb:P.underlying tb=some .bool)(aiq:s.vars=[])(M0:s.fn H (ds++[])={results:=[.lit (.bool true)],args:=ds})(hW:DataW.Whole enc P f.params.toList s.vars false W args.toList ds [] before)(hb:Below W.heap.size W W'): s.post enc P f false true false false W args (.bool true) W':=by obtain⟨p,q,hA,hV,rfl,hfz,D9⟩:=id hW;have gq:=PB hA;refine⟨ds,[],p++q,[],p,[],hW,?_,?_,?_,hb.frame _,by simp⟩;rw[eU,M0];exact trodAll_mk1 (shut_bool htb true);rw[M0];exact Ig hl hb Jr hA (λx hx=>by simpa using gq x hx) gq;rw[M0,aiq];exact rfl
theorem abh {K:Nat}{F:zy}(hF:kB P K F)(Jp:F.io=false)(jq:F.bx=false){W:World}{vs:gP}{xs:au AV}(eP:mL (λ_=>Old W) W vs xs){y:F.R}(hy:F.fn xs=some y)(hav:F.res y=.one (.bool true)): Calls P K vs.toArray W λe W'=>e=.returned (.bool true)/\Below W.heap.size W W':=by refine((hF xs _ hy).2.1 Jp jq (λ_=>Old W) W vs (λ_ b o h=>h) eP).mono ?_;rintro e w' ⟨v,hw,fp,rfl,hr,_,_,gw⟩;rw[hav]at hr;have:=wz hr;subst this;exact⟨rfl,gw.below⟩
end
def xg.add (Γ:xg)(f:Nat)(F:zy):xg:=λg=>bif Nat.beq g f then F else Γ g
def xg.nil:xg:=λ_=>{R:=Unit,fn:=λ_=>none,av:=λ_=> .bot}
theorem Sound.nil {P:Program}{E:Env}(ty:jf P E.ty)(eqs:T3 P E.eqs)(fts:Za P E.fts)(mixed:P.follows .mixedOrders=true):Sound P E xg.nil:=⟨ty,eqs,fts,(λf xs y h=>by cases h),mixed⟩
theorem Sound.add {P:Program}{E:Env}{Γ:xg}(hS:Sound P E Γ){f:Nat}{F:zy}(h:kB P f F):Sound P E (Γ.add f F):=by refine⟨hS.ty,hS.eqs,hS.fts,λg=>?_,hS.mixed⟩;unfold xg.add;cases hg:Nat.beq g f with|true=>have:g=f:=Nat.eq_of_beq_eq_true hg;subst this;exact h|false=>exact hS.fns g
end Go.Dn
