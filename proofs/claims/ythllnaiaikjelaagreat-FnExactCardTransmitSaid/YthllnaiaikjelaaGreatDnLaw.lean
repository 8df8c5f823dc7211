import Derived.Test.YthllnaiaikjelaaGreatDnOpen
import Derived.ProofKit
import Derived.WideKeyArgs
import Derived.Carry
/- From what the abstract semantics says of a law to the law's statement. -/
namespace Go.Dn
open Go.RowKit Go.ChangeShapes Go.WideShapes Go.ChangeAt
section
variable {H:Type} {enc:TypeId×Value->H} {P:Program} {w:World} {base:Nat} {held:Bool}
def aff (P:Program)(t:TypeId):Bool:=
 match P.underlying t with
 |some (.struct _)=>true
 |_=>false
theorem Vy {n:Nat}{t:TypeId}{e:CT}{g:Bool}{v:Value}{d:DataW H}{ps:aq MemPlace}{r:Reach}{b0:Nat}(hc:PU P n t e=true)(hg:aff P t=g)(HS:Value.okWide P w r b0 t v)(hd:DataW.Trod enc P w base (λ_=>true) held t v d ps):∃x:e.D,fA (eJ (λ_=>Old w) (λ_=>0) w) v (.val g (cellsOf e (.arg false) x)) []/\InR e x:=by
 obtain⟨fuel,hd⟩:=hd;obtain⟨x,hr,uQ⟩:=Ls n t e fuel _ d ps hc hd;refine⟨x,⟨v.cells.toList,?_,G5 (c:=eJ (λ_=>Old w) (λ_=>0) w) (k:=false) hr⟩,uQ⟩;unfold aff at hg;cases n with
 |zero=>cases hc
 |succ n=>
  unfold PU at hc;unfold Value.okWide at HS;cases hu:P.underlying t with
  |none=>rw[hu]at hc;cases hc
  |some dd=>
   rw[hu]at hc hg HS;cases dd<;>simp only at hc hg HS<;>try (cases hc)
   all_goals first
    |(subst hg
      unfold Cell.okWide Cell.ok at HS
      rw[hu]at HS
      cases v<;>simp_all[Cut,Value.cells])
    |(subst hg
      obtain⟨cs,rfl,_⟩:=HS
      simp[Cut,Value.cells])
theorem Iv (hl:laidOutB P=true){W W':World}(hb:Below W.heap.size W W'){sp:Nat->Bool}:∀{ts:aq TypeId}{vs:gO}{ds:aq (DataW H)}{ps:aq MemPlace},ts.all (λt=>P.readableRec t&&decide (t<P.types.size))=true->
 DataW.TrodAll enc P W 0 (λ_=>true) true ts vs ds ps->(∀p∈ps,sp p.block=true)->(∀p∈ps,p.block<W.heap.size)->DataW.TrodAll enc P W' 0 sp true ts vs ds ps
 |[],[],[],_,_,h,_,_=>h
 |t::ts,v::vs,d::ds,ps,ht,h,hs,gM=>by obtain⟨p,q,h1,h2,rfl⟩:=h;simp only[bC,ah,bE]at ht;refine⟨p,q,WideElems.Trod_stays hl ht.1.1 ht.1.2 h1 (λx hx=>hb.same (gM x (bh _ hx))) (λx hx=>hs x (bh _ hx)),?_,rfl⟩;exact Iv hl hb (by simpa using ht.2) h2 (λx hx=>hs x (aX _ hx)) (λx hx=>gM x (aX _ hx))
 |[],_::_,_,_,_,h,_,_=>h.elim
 |[],[],_::_,_,_,h,_,_=>h.elim
 |_::_,[],_,_,_,h,_,_=>h.elim
 |_::_,_::_,[],_,_,h,_,_=>h.elim
theorem Pw {W:World}{sp:Nat->Bool}:∀{ts:aq TypeId}{vs:gO}{ds:aq (DataW H)}{ps:aq MemPlace},DataW.TrodAll enc P W base sp held ts vs ds ps->∀p∈ps,p.block<W.heap.size
 |[],[],[],ps,h=>by cases h;simp
 |t::ts,v::vs,d::ds,ps,h=>by obtain⟨p,q,⟨n,h1⟩,h2,rfl⟩:=h;intro x hx;rcases ay.1 hx with hx|hx;exact DataW.trod_lt n t _ _ h1 x hx;exact Pw h2 x hx
 |[],_::_,_,_,h=>h.elim
 |[],[],_::_,_,h=>h.elim
 |_::_,[],_,_,h=>h.elim
 |_::_,_::_,[],_,h=>h.elim
theorem ad1 {f:Func}{s:ChangeSpec}{W W':World}{args:Array Value}{ds:aq (DataW H)}{before:aq MemPlace}{tb:TypeId}(hl:laidOutB P=true)(JL:f.params.toList.all (λt=>P.readableRec t&&decide (t<P.types.size))=true)(eT:f.resultTypes=#[tb])(htb:P.underlying tb=some .bool)(aiB:s.vars=[])(MZ:s.fn H (ds++[])={results:=[.lit (.bool true)],args:=ds})(hW:DataW.Whole enc P f.params.toList s.vars false W args.toList ds [] before)(hb:Below W.heap.size W W'): s.post enc P f false true false false W args (.bool true) W':=by obtain⟨p,q,hA,hV,rfl,hfz,El⟩:=id hW;have gM:=Pw hA;refine⟨ds,[],p++q,[],p,[],hW,?_,?_,?_,hb.frame _,by simp⟩;rw[eT,MZ];exact trodAll_mk1 (shut_bool htb true);rw[MZ];exact Iv hl hb JL hA (λx hx=>by simpa using gM x hx) gM;rw[MZ,aiB];exact rfl
theorem abc {K:Nat}{F:zY}(hF:kh P K F)(JJ:F.io=false)(ji:F.bx=false){W:World}{vs:gO}{xs:aq AV}(eR:mu (λ_=>Old W) W vs xs){y:F.R}(hy:F.fn xs=some y)(hav:F.res y=.one (.bool true)): Calls P K vs.toArray W λe W'=>e=.returned (.bool true)/\Below W.heap.size W W':=by refine((hF xs _ hy).2.1 JJ ji (λ_=>Old W) W vs (λ_ b o h=>h) eR).mono ?_;rintro e w' ⟨v,hw,fp,rfl,hr,_,_,gu⟩;rw[hav]at hr;have:=wv hr;subst this;exact⟨rfl,gu.below⟩
end
def xf.add (Γ:xf)(f:Nat)(F:zY):xf:=λg=>bif Nat.beq g f then F else Γ g
def xf.nil:xf:=λ_=>{R:=Unit,fn:=λ_=>none,av:=λ_=> .bot}
theorem Sound.nil {P:Program}{E:Env}(ty:iV P E.ty)(eqs:TR P E.eqs)(fts:Y5 P E.fts)(mixed:P.follows .mixedOrders=true):Sound P E xf.nil:=⟨ty,eqs,fts,(λf xs y h=>by cases h),mixed⟩
theorem Sound.add {P:Program}{E:Env}{Γ:xf}(hS:Sound P E Γ){f:Nat}{F:zY}(h:kh P f F):Sound P E (Γ.add f F):=by refine⟨hS.ty,hS.eqs,hS.fts,λg=>?_,hS.mixed⟩;unfold xf.add;cases hg:Nat.beq g f with|true=>have:g=f:=Nat.eq_of_beq_eq_true hg;subst this;exact h|false=>exact hS.fns g
end Go.Dn
