import Derived.Test.YtbebkmajekhclaaGreatDnOpen
import Derived.ProofKit
import Derived.WideKeyArgs
import Derived.Carry
/- From what the abstract semantics says of a law to the law's statement. -/
namespace Go.Dn
open Go.RowKit Go.ChangeShapes Go.WideShapes Go.ChangeAt
section
variable {H:Type} {enc:TypeId×Value->H} {P:Program} {w:World} {base:Nat} {held:Bool}
def apZ (P:Program)(t:TypeId):Bool:=
 match P.underlying t with
 |some (.struct _)=>true
 |_=>false
theorem alH {n:Nat}{t:TypeId}{e:CT}{g:Bool}{v:Value}{d:DataW H}{ps:aw MemPlace}{r:Reach}{b0:Nat}(hc:V1 P n t e=true)(hg:apZ P t=g)(Kr:Value.okWide P w r b0 t v)(hd:DataW.Trod enc P w base (λ_=>true) held t v d ps):∃x:e.D,gS (gC (λ_=>Old w) (λ_=>0) w) v (.val g (cellsOf e (.arg false) x)) []/\InR e x:=by
 obtain⟨fuel,hd⟩:=hd;obtain⟨x,hr,yK⟩:=Nb n t e fuel _ d ps hc hd;refine⟨x,⟨v.cells.toList,?_,Is (c:=gC (λ_=>Old w) (λ_=>0) w) (k:=false) hr⟩,yK⟩;unfold apZ at hg;cases n with
 |zero=>cases hc
 |succ n=>
  unfold V1 at hc;unfold Value.okWide at Kr;cases hu:P.underlying t with
  |none=>rw[hu]at hc;cases hc
  |some dd=>
   rw[hu]at hc hg Kr;cases dd<;>simp only at hc hg Kr<;>try (cases hc)
   all_goals first
    |(subst hg
      unfold Cell.okWide Cell.ok at Kr
      rw[hu]at Kr
      cases v<;>simp_all[Cut,Value.cells])
    |(subst hg
      obtain⟨cs,rfl,_⟩:=Kr
      simp[Cut,Value.cells])
theorem JX (hl:laidOutB P=true){W W':World}(hb:Below W.heap.size W W'){sp:Nat->Bool}:∀{ts:aw TypeId}{vs:jf}{ds:aw (DataW H)}{ps:aw MemPlace},ts.all (λt=>P.readableRec t&&decide (t<P.types.size))=true->
 DataW.TrodAll enc P W 0 (λ_=>true) true ts vs ds ps->(∀p∈ps,sp p.block=true)->(∀p∈ps,p.block<W.heap.size)->DataW.TrodAll enc P W' 0 sp true ts vs ds ps
 |[],[],[],_,_,h,_,_=>h
 |t::ts,v::vs,d::ds,ps,ht,h,hs,gr=>by obtain⟨p,q,h1,h2,rfl⟩:=h;simp only[bX,af,aG]at ht;refine⟨p,q,WideElems.Trod_stays hl ht.1.1 ht.1.2 h1 (λx hx=>hb.same (gr x (bP _ hx))) (λx hx=>hs x (bP _ hx)),?_,rfl⟩;exact JX hl hb (by simpa using ht.2) h2 (λx hx=>hs x (bD _ hx)) (λx hx=>gr x (bD _ hx))
 |[],_::_,_,_,_,h,_,_=>h.elim
 |[],[],_::_,_,_,h,_,_=>h.elim
 |_::_,[],_,_,_,h,_,_=>h.elim
 |_::_,_::_,[],_,_,h,_,_=>h.elim
theorem SF {W:World}{sp:Nat->Bool}:∀{ts:aw TypeId}{vs:jf}{ds:aw (DataW H)}{ps:aw MemPlace},DataW.TrodAll enc P W base sp held ts vs ds ps->∀p∈ps,p.block<W.heap.size
 |[],[],[],ps,h=>by cases h;simp
 |t::ts,v::vs,d::ds,ps,h=>by obtain⟨p,q,⟨n,h1⟩,h2,rfl⟩:=h;intro x hx;rcases aA.1 hx with hx|hx;exact DataW.trod_lt n t _ _ h1 x hx;exact SF h2 x hx
 |[],_::_,_,_,h=>h.elim
 |[],[],_::_,_,h=>h.elim
 |_::_,[],_,_,h=>h.elim
 |_::_,_::_,[],_,h=>h.elim
theorem aln {f:Func}{s:ChangeSpec}{W W':World}{args:Array Value}{ds:aw (DataW H)}{before:aw MemPlace}{tb:TypeId}(hl:laidOutB P=true)(Q8:f.params.toList.all (λt=>P.readableRec t&&decide (t<P.types.size))=true)(jO:f.resultTypes=#[tb])(htb:P.underlying tb=some .bool)(asU:s.vars=[])(Td:s.fn H (ds++[])={results:=[.lit (.bool true)],args:=ds})(hW:DataW.Whole enc P f.params.toList s.vars false W args.toList ds [] before)(hb:Below W.heap.size W W'): s.post enc P f false true false false W args (.bool true) W':=by obtain⟨p,q,hA,hV,rfl,hfz,Jr⟩:=id hW;have gr:=SF hA;refine⟨ds,[],p++q,[],p,[],hW,?_,?_,?_,hb.frame _,by simp⟩;rw[jO,Td];exact trodAll_mk1 (shut_bool htb true);rw[Td];exact JX hl hb Q8 hA (λx hx=>by simpa using gr x hx) gr;rw[Td,asU];exact rfl
theorem ahx {K:Nat}{F:lH}(hF:jl P K F)(Tf:F.io=false)(kD:F.bx=false){W:World}{vs:jf}{xs:aw AV}(gP:rq (λ_=>Old W) W vs xs){y:F.R}(hy:F.fn xs=some y)(hav:F.res y=.one (.bool true)): Calls P K vs.toArray W λe W'=>e=.returned (.bool true)/\Below W.heap.size W W':=by refine((hF xs _ hy).2.1 Tf kD (λ_=>Old W) W vs (λ_ b o h=>h) gP).mono ?_;rintro e w' ⟨v,hw,fp,rfl,hr,_,_,jt⟩;rw[hav]at hr;have:=xP hr;subst this;exact⟨rfl,jt.below⟩
end
def Dy.add (Γ:Dy)(f:Nat)(F:lH):Dy:=λg=>bif Nat.beq g f then F else Γ g
def Dy.nil:Dy:=λ_=>{R:=Unit,fn:=λ_=>none,av:=λ_=> .bot}
theorem Sound.nil {P:Program}{E:Env}(ty:ka P E.ty)(eqs:X2 P E.eqs)(fts:aeV P E.fts)(mixed:P.follows .mixedOrders=true):Sound P E Dy.nil:=⟨ty,eqs,fts,(λf xs y h=>by cases h),mixed⟩
theorem Sound.add {P:Program}{E:Env}{Γ:Dy}(hS:Sound P E Γ){f:Nat}{F:lH}(h:jl P f F):Sound P E (Γ.add f F):=by refine⟨hS.ty,hS.eqs,hS.fts,λg=>?_,hS.mixed⟩;unfold Dy.add;cases hg:Nat.beq g f with|true=>have:g=f:=Nat.eq_of_beq_eq_true hg;subst this;exact h|false=>exact hS.fns g
end Go.Dn
