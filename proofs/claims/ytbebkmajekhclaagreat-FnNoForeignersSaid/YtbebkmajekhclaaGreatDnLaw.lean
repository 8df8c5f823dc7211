import Derived.Test.YtbebkmajekhclaaGreatDnOpen
import Derived.ProofKit
import Derived.WideKeyArgs
import Derived.Carry
/- From what the abstract semantics says of a law to the law's statement. -/
namespace Go.Dn
open Go.RowKit Go.ChangeShapes Go.WideShapes Go.ChangeAt
section
variable {H:Type} {enc:TypeId×Value->H} {P:Program} {w:World} {base:Nat} {held:Bool}
def anX (P:Program)(t:TypeId):Bool:=
 match P.underlying t with
 |some (.struct _)=>true
 |_=>false
theorem aj0 {n:Nat}{t:TypeId}{e:CT}{g:Bool}{v:Value}{d:DataW H}{ps:ax MemPlace}{r:Reach}{b0:Nat}(hc:Uy P n t e=true)(hg:anX P t=g)(IW:Value.okWide P w r b0 t v)(hd:DataW.Trod enc P w base (λ_=>true) held t v d ps):∃x:e.D,gU (gD (λ_=>Old w) (λ_=>0) w) v (.val g (cellsOf e (.arg false) x)) []/\InR e x:=by
 obtain⟨fuel,hd⟩:=hd;obtain⟨x,hr,uB⟩:=L5 n t e fuel _ d ps hc hd;refine⟨x,⟨v.cells.toList,?_,Hc (c:=gD (λ_=>Old w) (λ_=>0) w) (k:=false) hr⟩,uB⟩;unfold anX at hg;cases n with
 |zero=>cases hc
 |succ n=>
  unfold Uy at hc;unfold Value.okWide at IW;cases hu:P.underlying t with
  |none=>rw[hu]at hc;cases hc
  |some dd=>
   rw[hu]at hc hg IW;cases dd<;>simp only at hc hg IW<;>try (cases hc)
   all_goals first
    |(subst hg
      unfold Cell.okWide Cell.ok at IW
      rw[hu]at IW
      cases v<;>simp_all[Cut,Value.cells])
    |(subst hg
      obtain⟨cs,rfl,_⟩:=IW
      simp[Cut,Value.cells])
theorem Iz (hl:laidOutB P=true){W W':World}(hb:Below W.heap.size W W'){sp:Nat->Bool}:∀{ts:ax TypeId}{vs:jt}{ds:ax (DataW H)}{ps:ax MemPlace},ts.all (λt=>P.readableRec t&&decide (t<P.types.size))=true->
 DataW.TrodAll enc P W 0 (λ_=>true) true ts vs ds ps->(∀p∈ps,sp p.block=true)->(∀p∈ps,p.block<W.heap.size)->DataW.TrodAll enc P W' 0 sp true ts vs ds ps
 |[],[],[],_,_,h,_,_=>h
 |t::ts,v::vs,d::ds,ps,ht,h,hs,gH=>by obtain⟨p,q,h1,h2,rfl⟩:=h;simp only[cj,ae,aE]at ht;refine⟨p,q,WideElems.Trod_stays hl ht.1.1 ht.1.2 h1 (λx hx=>hb.same (gH x (bK _ hx))) (λx hx=>hs x (bK _ hx)),?_,rfl⟩;exact Iz hl hb (by simpa using ht.2) h2 (λx hx=>hs x (bw _ hx)) (λx hx=>gH x (bw _ hx))
 |[],_::_,_,_,_,h,_,_=>h.elim
 |[],[],_::_,_,_,h,_,_=>h.elim
 |_::_,[],_,_,_,h,_,_=>h.elim
 |_::_,_::_,[],_,_,h,_,_=>h.elim
theorem Rk {W:World}{sp:Nat->Bool}:∀{ts:ax TypeId}{vs:jt}{ds:ax (DataW H)}{ps:ax MemPlace},DataW.TrodAll enc P W base sp held ts vs ds ps->∀p∈ps,p.block<W.heap.size
 |[],[],[],ps,h=>by cases h;simp
 |t::ts,v::vs,d::ds,ps,h=>by obtain⟨p,q,⟨n,h1⟩,h2,rfl⟩:=h;intro x hx;rcases ay.1 hx with hx|hx;exact DataW.trod_lt n t _ _ h1 x hx;exact Rk h2 x hx
 |[],_::_,_,_,h=>h.elim
 |[],[],_::_,_,h=>h.elim
 |_::_,[],_,_,h=>h.elim
 |_::_,_::_,[],_,h=>h.elim
theorem ajF {f:Func}{s:ChangeSpec}{W W':World}{args:Array Value}{ds:ax (DataW H)}{before:ax MemPlace}{tb:TypeId}(hl:laidOutB P=true)(PU:f.params.toList.all (λt=>P.readableRec t&&decide (t<P.types.size))=true)(iA:f.resultTypes=#[tb])(htb:P.underlying tb=some .bool)(aqR:s.vars=[])(Rv:s.fn H (ds++[])={results:=[.lit (.bool true)],args:=ds})(hW:DataW.Whole enc P f.params.toList s.vars false W args.toList ds [] before)(hb:Below W.heap.size W W'): s.post enc P f false true false false W args (.bool true) W':=by obtain⟨p,q,hA,hV,rfl,hfz,Hs⟩:=id hW;have gH:=Rk hA;refine⟨ds,[],p++q,[],p,[],hW,?_,?_,?_,hb.frame _,by simp⟩;rw[iA,Rv];exact trodAll_mk1 (shut_bool htb true);rw[Rv];exact Iz hl hb PU hA (λx hx=>by simpa using gH x hx) gH;rw[Rv,aqR];exact rfl
theorem af5 {K:Nat}{F:lr}(hF:iZ P K F)(RS:F.io=false)(kQ:F.bx=false){W:World}{vs:jt}{xs:ax AV}(gP:rz (λ_=>Old W) W vs xs){y:F.R}(hy:F.fn xs=some y)(hav:F.res y=.one (.bool true)): Calls P K vs.toArray W λe W'=>e=.returned (.bool true)/\Below W.heap.size W W':=by refine((hF xs _ hy).2.1 RS kQ (λ_=>Old W) W vs (λ_ b o h=>h) gP).mono ?_;rintro e w' ⟨v,hw,fp,rfl,hr,_,_,kb⟩;rw[hav]at hr;have:=xG hr;subst this;exact⟨rfl,kb.below⟩
end
def BV.add (Γ:BV)(f:Nat)(F:lr):BV:=λg=>bif Nat.beq g f then F else Γ g
def BV.nil:BV:=λ_=>{R:=Unit,fn:=λ_=>none,av:=λ_=> .bot}
theorem Sound.nil {P:Program}{E:Env}(ty:kq P E.ty)(eqs:Wz P E.eqs)(fts:adk P E.fts)(mixed:P.follows .mixedOrders=true):Sound P E BV.nil:=⟨ty,eqs,fts,(λf xs y h=>by cases h),mixed⟩
theorem Sound.add {P:Program}{E:Env}{Γ:BV}(hS:Sound P E Γ){f:Nat}{F:lr}(h:iZ P f F):Sound P E (Γ.add f F):=by refine⟨hS.ty,hS.eqs,hS.fts,λg=>?_,hS.mixed⟩;unfold BV.add;cases hg:Nat.beq g f with|true=>have:g=f:=Nat.eq_of_beq_eq_true hg;subst this;exact h|false=>exact hS.fns g
end Go.Dn
