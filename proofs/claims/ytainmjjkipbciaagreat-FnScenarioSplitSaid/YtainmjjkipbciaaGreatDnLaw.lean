import Derived.Test.YtainmjjkipbciaaGreatDnOpen
import Derived.ProofKit
import Derived.WideKeyArgs
import Derived.Carry
/- From what the abstract semantics says of a law to the law's statement. -/
namespace Go.Dn
open Go.RowKit Go.ChangeShapes Go.WideShapes Go.ChangeAt
section
variable {H:Type} {enc:TypeId×Value->H} {P:Program} {w:World} {base:Nat} {held:Bool}
def ahd (P:Program)(t:TypeId):Bool:=
 match P.underlying t with
 |some (.struct _)=>true
 |_=>false
theorem acw {n:Nat}{t:TypeId}{e:CT}{g:Bool}{v:Value}{d:DataW H}{ps:aw MemPlace}{r:Reach}{b0:Nat}(hc:Oi P n t e=true)(hg:ahd P t=g)(Em:Value.okWide P w r b0 t v)(hd:DataW.Trod enc P w base (λ_=>true) held t v d ps):∃x:e.D,fR (fD (λ_=>Old w) (λ_=>0) w) v (.val g (cellsOf e (.arg false) x)) []/\InR e x:=by
 obtain⟨fuel,hd⟩:=hd;obtain⟨x,hr,sv⟩:=G3 n t e fuel _ d ps hc hd;refine⟨x,⟨v.cells.toList,?_,CV (c:=fD (λ_=>Old w) (λ_=>0) w) (k:=false) hr⟩,sv⟩;unfold ahd at hg;cases n with
 |zero=>cases hc
 |succ n=>
  unfold Oi at hc;unfold Value.okWide at Em;cases hu:P.underlying t with
  |none=>rw[hu]at hc;cases hc
  |some dd=>
   rw[hu]at hc hg Em;cases dd<;>simp only at hc hg Em<;>try (cases hc)
   all_goals first
    |(subst hg
      unfold Cell.okWide Cell.ok at Em
      rw[hu]at Em
      cases v<;>simp_all[Cut,Value.cells])
    |(subst hg
      obtain⟨cs,rfl,_⟩:=Em
      simp[Cut,Value.cells])
theorem D1 (hl:laidOutB P=true){W W':World}(hb:Below W.heap.size W W'){sp:Nat->Bool}:∀{ts:aw TypeId}{vs:ir}{ds:aw (DataW H)}{ps:aw MemPlace},ts.all (λt=>P.readableRec t&&decide (t<P.types.size))=true->
 DataW.TrodAll enc P W 0 (λ_=>true) true ts vs ds ps->(∀p∈ps,sp p.block=true)->(∀p∈ps,p.block<W.heap.size)->DataW.TrodAll enc P W' 0 sp true ts vs ds ps
 |[],[],[],_,_,h,_,_=>h
 |t::ts,v::vs,d::ds,ps,ht,h,hs,gW=>by obtain⟨p,q,h1,h2,rfl⟩:=h;simp only[cc,ae,aB]at ht;refine⟨p,q,WideElems.Trod_stays hl ht.1.1 ht.1.2 h1 (λx hx=>hb.same (gW x (bw _ hx))) (λx hx=>hs x (bw _ hx)),?_,rfl⟩;exact D1 hl hb (by simpa using ht.2) h2 (λx hx=>hs x (bj _ hx)) (λx hx=>gW x (bj _ hx))
 |[],_::_,_,_,_,h,_,_=>h.elim
 |[],[],_::_,_,_,h,_,_=>h.elim
 |_::_,[],_,_,_,h,_,_=>h.elim
 |_::_,_::_,[],_,_,h,_,_=>h.elim
theorem LF {W:World}{sp:Nat->Bool}:∀{ts:aw TypeId}{vs:ir}{ds:aw (DataW H)}{ps:aw MemPlace},DataW.TrodAll enc P W base sp held ts vs ds ps->∀p∈ps,p.block<W.heap.size
 |[],[],[],ps,h=>by cases h;simp
 |t::ts,v::vs,d::ds,ps,h=>by obtain⟨p,q,⟨n,h1⟩,h2,rfl⟩:=h;intro x hx;rcases ay.1 hx with hx|hx;exact DataW.trod_lt n t _ _ h1 x hx;exact LF h2 x hx
 |[],_::_,_,_,h=>h.elim
 |[],[],_::_,_,h=>h.elim
 |_::_,[],_,_,h=>h.elim
 |_::_,_::_,[],_,h=>h.elim
theorem aca {f:Func}{s:ChangeSpec}{W W':World}{args:Array Value}{ds:aw (DataW H)}{before:aw MemPlace}{tb:TypeId}(hl:laidOutB P=true)(Ko:f.params.toList.all (λt=>P.readableRec t&&decide (t<P.types.size))=true)(gz:f.resultTypes=#[tb])(htb:P.underlying tb=some .bool)(am1:s.vars=[])(RY:s.fn H (ds++[])={results:=[.lit (.bool true)],args:=ds})(hW:DataW.Whole enc P f.params.toList s.vars false W args.toList ds [] before)(hb:Below W.heap.size W W'): s.post enc P f false true false false W args (.bool true) W':=by obtain⟨p,q,hA,hV,rfl,hfz,C7⟩:=id hW;have gW:=LF hA;refine⟨ds,[],p++q,[],p,[],hW,?_,?_,?_,hb.frame _,by simp⟩;rw[gz,RY];exact trodAll_mk1 (shut_bool htb true);rw[RY];exact D1 hl hb Ko hA (λx hx=>by simpa using gW x hx) gW;rw[RY,am1];exact rfl
theorem Zo {K:Nat}{F:bg}(hF:gY P K F)(L7:F.io=false)(jt:F.bx=false){W:World}{vs:ir}{xs:aw AV}(fM:oH (λ_=>Old W) W vs xs){y:F.R}(hy:F.fn xs=some y)(hav:F.res y=.one (.bool true)): Calls P K vs.toArray W λe W'=>e=.returned (.bool true)/\Below W.heap.size W W':=by refine((hF xs _ hy).2.1 L7 jt (λ_=>Old W) W vs (λ_ b o h=>h) fM).mono ?_;rintro e w' ⟨v,hw,fp,rfl,hr,_,_,jf⟩;rw[hav]at hr;have:=tP hr;subst this;exact⟨rfl,jf.below⟩
end
def fy.add (Γ:fy)(f:Nat)(F:bg):fy:=λg=>bif g==f then F else Γ g
def fy.nil:fy:=λ_=>{R:=Unit,fn:=λ_=>none,av:=λ_=> .bot}
theorem Sound.nil {P:Program}{E:Env}(ty:ja P E.ty)(eqs:QH P E.eqs)(fts:Ww P E.fts)(mixed:P.follows .mixedOrders=true):Sound P E fy.nil:=⟨ty,eqs,fts,(λf xs y h=>by cases h),mixed⟩
theorem Sound.add {P:Program}{E:Env}{Γ:fy}(hS:Sound P E Γ){f:Nat}{F:bg}(h:gY P f F):Sound P E (Γ.add f F):=by
 refine⟨hS.ty,hS.eqs,hS.fts,λg=>?_,hS.mixed⟩;unfold fy.add;cases hg:g==f with
 |true=>
  have:g=f:=by simpa using hg
  subst this;exact h
 |false=>exact hS.fns g
end Go.Dn
