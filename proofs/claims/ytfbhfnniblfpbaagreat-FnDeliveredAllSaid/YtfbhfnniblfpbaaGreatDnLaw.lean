import Derived.Test.YtfbhfnniblfpbaaGreatDnOpen
import Derived.ProofKit
import Derived.WideKeyArgs
import Derived.Carry
/- From what the abstract semantics says of a law to the law's statement. -/
namespace Go.Dn
open Go.RowKit Go.ChangeShapes Go.WideShapes Go.ChangeAt
section
variable {H:Type} {enc:TypeId×Value->H} {P:Program} {w:World} {base:Nat} {held:Bool}
def agP (P:Program)(t:TypeId):Bool:=
 match P.underlying t with
 |some (.struct _)=>true
 |_=>false
theorem ad9 {n:Nat}{t:TypeId}{e:CT}{g:Bool}{v:Value}{d:DataW H}{ps:au MemPlace}{r:Reach}{b0:Nat}(hc:R2 P n t e=true)(hg:agP P t=g)(HO:Value.okWide P w r b0 t v)(hd:DataW.Trod enc P w base (λ_=>true) held t v d ps):∃x:e.D,fF (eS (λ_=>Old w) (λ_=>0) w) v (.val g (cellsOf e (.arg false) x)) []/\InR e x:=by
 obtain⟨fuel,hd⟩:=hd;obtain⟨x,hr,vS⟩:=KF n t e fuel _ d ps hc hd;refine⟨x,⟨v.cells.toList,?_,Ga (c:=eS (λ_=>Old w) (λ_=>0) w) (k:=false) hr⟩,vS⟩;unfold agP at hg;cases n with
 |zero=>cases hc
 |succ n=>
  unfold R2 at hc;unfold Value.okWide at HO;cases hu:P.underlying t with
  |none=>rw[hu]at hc;cases hc
  |some dd=>
   rw[hu]at hc hg HO;cases dd<;>simp only at hc hg HO<;>try (cases hc)
   all_goals first
    |(subst hg
      unfold Cell.okWide Cell.ok at HO
      rw[hu]at HO
      cases v<;>simp_all[Cut,Value.cells])
    |(subst hg
      obtain⟨cs,rfl,_⟩:=HO
      simp[Cut,Value.cells])
theorem Hs (hl:laidOutB P=true){W W':World}(hb:Below W.heap.size W W'){sp:Nat->Bool}:∀{ts:au TypeId}{vs:ie}{ds:au (DataW H)}{ps:au MemPlace},ts.all (λt=>P.readableRec t&&decide (t<P.types.size))=true->
 DataW.TrodAll enc P W 0 (λ_=>true) true ts vs ds ps->(∀p∈ps,sp p.block=true)->(∀p∈ps,p.block<W.heap.size)->DataW.TrodAll enc P W' 0 sp true ts vs ds ps
 |[],[],[],_,_,h,_,_=>h
 |t::ts,v::vs,d::ds,ps,ht,h,hs,gB=>by obtain⟨p,q,h1,h2,rfl⟩:=h;simp only[bR,ah,bp]at ht;refine⟨p,q,WideElems.Trod_stays hl ht.1.1 ht.1.2 h1 (λx hx=>hb.same (gB x (bt _ hx))) (λx hx=>hs x (bt _ hx)),?_,rfl⟩;exact Hs hl hb (by simpa using ht.2) h2 (λx hx=>hs x (bk _ hx)) (λx hx=>gB x (bk _ hx))
 |[],_::_,_,_,_,h,_,_=>h.elim
 |[],[],_::_,_,_,h,_,_=>h.elim
 |_::_,[],_,_,_,h,_,_=>h.elim
 |_::_,_::_,[],_,_,h,_,_=>h.elim
theorem O5 {W:World}{sp:Nat->Bool}:∀{ts:au TypeId}{vs:ie}{ds:au (DataW H)}{ps:au MemPlace},DataW.TrodAll enc P W base sp held ts vs ds ps->∀p∈ps,p.block<W.heap.size
 |[],[],[],ps,h=>by cases h;simp
 |t::ts,v::vs,d::ds,ps,h=>by obtain⟨p,q,⟨n,h1⟩,h2,rfl⟩:=h;intro x hx;rcases aA.1 hx with hx|hx;exact DataW.trod_lt n t _ _ h1 x hx;exact O5 h2 x hx
 |[],_::_,_,_,h=>h.elim
 |[],[],_::_,_,h=>h.elim
 |_::_,[],_,_,h=>h.elim
 |_::_,_::_,[],_,h=>h.elim
theorem adS {f:Func}{s:ChangeSpec}{W W':World}{args:Array Value}{ds:au (DataW H)}{before:au MemPlace}{tb:TypeId}(hl:laidOutB P=true)(NG:f.params.toList.all (λt=>P.readableRec t&&decide (t<P.types.size))=true)(fG:f.resultTypes=#[tb])(htb:P.underlying tb=some .bool)(aiJ:s.vars=[])(Uw:s.fn H (ds++[])={results:=[.lit (.bool true)],args:=ds})(hW:DataW.Whole enc P f.params.toList s.vars false W args.toList ds [] before)(hb:Below W.heap.size W W'): s.post enc P f false true false false W args (.bool true) W':=by obtain⟨p,q,hA,hV,rfl,hfz,Ft⟩:=id hW;have gB:=O5 hA;refine⟨ds,[],p++q,[],p,[],hW,?_,?_,?_,hb.frame _,by simp⟩;rw[fG,Uw];exact trodAll_mk1 (shut_bool htb true);rw[Uw];exact Hs hl hb NG hA (λx hx=>by simpa using gB x hx) gB;rw[Uw,aiJ];exact rfl
theorem aba {K:Nat}{F:zH}(hF:lH P K F)(Nz:F.io=false)(jX:F.bx=false){W:World}{vs:ie}{xs:au AV}(fy:oI (λ_=>Old W) W vs xs){y:F.R}(hy:F.fn xs=some y)(hav:F.res y=.one (.bool true)): Calls P K vs.toArray W λe W'=>e=.returned (.bool true)/\Below W.heap.size W W':=by refine((hF xs _ hy).2.1 Nz jX (λ_=>Old W) W vs (λ_ b o h=>h) fy).mono ?_;rintro e w' ⟨v,hw,fp,rfl,hr,_,_,jz⟩;rw[hav]at hr;have:=wE hr;subst this;exact⟨rfl,jz.below⟩
end
def xu.add (Γ:xu)(f:Nat)(F:zH):xu:=λg=>bif Nat.beq g f then F else Γ g
def xu.nil:xu:=λ_=>{R:=Unit,fn:=λ_=>none,av:=λ_=> .bot}
theorem Sound.nil {P:Program}{E:Env}(ty:jA P E.ty)(eqs:TI P E.eqs)(fts:YZ P E.fts)(mixed:P.follows .mixedOrders=true):Sound P E xu.nil:=⟨ty,eqs,fts,(λf xs y h=>by cases h),mixed⟩
theorem Sound.add {P:Program}{E:Env}{Γ:xu}(hS:Sound P E Γ){f:Nat}{F:zH}(h:lH P f F):Sound P E (Γ.add f F):=by refine⟨hS.ty,hS.eqs,hS.fts,λg=>?_,hS.mixed⟩;unfold xu.add;cases hg:Nat.beq g f with|true=>have:g=f:=Nat.eq_of_beq_eq_true hg;subst this;exact h|false=>exact hS.fns g
end Go.Dn
