import Derived.Test.YtgilglpncgncjaaGreatDnOpen
import Derived.ProofKit
import Derived.WideKeyArgs
import Derived.Carry
/- From what the abstract semantics says of a law to the law's statement. -/
namespace Go.Dn
open Go.RowKit Go.ChangeShapes Go.WideShapes Go.ChangeAt
section
variable {H:Type} {enc:TypeId×Value→H} {P:Program} {w:World} {base:Nat} {held:Bool}
def Wt (P:Program)(t:TypeId):Bool:=
 match P.underlying t with
 |some (.struct _)=>true
 |_=>false
theorem LW {n:Nat}{t:TypeId}{e:CT}{g:Bool}{v:Value}{d:DataW H}{ps:List MemPlace}{r:Reach}{b0:Nat}(hc:FL P n t e=true)(hg:Wt P t=g)
 (hval:Value.okWide P w r b0 t v) (hd:DataW.Trod enc P w base (fun _=>true) held t v d ps):∃x:e.D,cq (bS (Old w) (fun _=>0) w) v (.val g (cellsOf e .arg x)) []∧Sa e x:=by
 obtain ⟨fuel,hd⟩:=hd
 obtain ⟨x,hr,hin⟩:=BB n t e fuel _ d ps hc hd
 refine ⟨x,⟨v.cells.toList, ?_,xC (c:=bS (Old w) (fun _=>0) w) hr⟩,hin⟩
 unfold Wt at hg
 cases n with
 |zero=>cases hc
 |succ n=>
  unfold FL at hc
  unfold Value.okWide at hval
  cases hu:P.underlying t with
  |none=>rw [hu] at hc;cases hc
  |some dd=>
   rw [hu] at hc hg hval
   cases dd<;>simp only at hc hg hval<;>try (cases hc)
   all_goals first
    |(subst hg
      unfold Cell.okWide Cell.ok at hval
      rw [hu] at hval
      cases v<;>simp_all [Cut,Value.cells])
    |(subst hg
      obtain ⟨cs,rfl,_⟩:=hval
      simp [Cut,Value.cells])
theorem yH (hl:laidOutB P=true){W W':World}(hb:Below W.heap.size W W'){sp:Nat→Bool}:∀{ts:List TypeId}{vs:List Value}{ds:List (DataW H)}{ps:List MemPlace},ts.all (fun t=>P.readableRec t&&decide (t<P.types.size))=true→
 DataW.TrodAll enc P W 0 (fun _=>true) true ts vs ds ps→(∀p∈ps,sp p.block=true)→(∀p∈ps,p.block<W.heap.size)→DataW.TrodAll enc P W' 0 sp true ts vs ds ps
 |[],[],[],_,_,h,_,_=>h
 |t::ts,v::vs,d::ds,ps,ht,h,hs,hlt=>by
  obtain ⟨p,q,h1,h2,rfl⟩:=h
  simp only [List.all_cons,Bool.and_eq_true,decide_eq_true_eq] at ht
  refine ⟨p,q,WideElems.Trod_stays hl ht.1.1 ht.1.2 h1 (fun x hx=>hb.same (hlt x (List.mem_append_left _ hx))) (fun x hx=>hs x (List.mem_append_left _ hx)), ?_,rfl⟩
  exact yH hl hb (by simpa using ht.2) h2 (fun x hx=>hs x (List.mem_append_right _ hx)) (fun x hx=>hlt x (List.mem_append_right _ hx))
 |[],_::_,_,_,_,h,_,_=>h.elim
 |[],[],_::_,_,_,h,_,_=>h.elim
 |_::_,[],_,_,_,h,_,_=>h.elim
 |_::_,_::_,[],_,_,h,_,_=>h.elim
theorem Fz {W:World}{sp:Nat→Bool}:∀{ts:List TypeId}{vs:List Value}{ds:List (DataW H)}{ps:List MemPlace},DataW.TrodAll enc P W base sp held ts vs ds ps→∀p∈ps,p.block<W.heap.size
 |[],[],[],ps,h=>by cases h;simp
 |t::ts,v::vs,d::ds,ps,h=>by
  obtain ⟨p,q,⟨n,h1⟩,h2,rfl⟩:=h
  intro x hx
  rcases List.mem_append.1 hx with hx|hx
  ·exact DataW.trod_lt n t _ _ h1 x hx
  ·exact Fz h2 x hx
 |[],_::_,_,_,h=>h.elim
 |[],[],_::_,_,h=>h.elim
 |_::_,[],_,_,h=>h.elim
 |_::_,_::_,[],_,h=>h.elim
theorem Tr {f:Func}{s:ChangeSpec}{W W':World}{args:Array Value}{ds:List (DataW H)}{before:List MemPlace}{tb:TypeId}(hl:laidOutB P=true)
 (hrd:f.params.toList.all (fun t=>P.readableRec t&&decide (t<P.types.size))=true) (hres:f.resultTypes=#[tb]) (htb:P.underlying tb=some .bool) (hvars:s.vars=[])
 (hfn:s.fn H (ds++[])={results:=[.lit (.bool true)],args:=ds}) (hW:DataW.Whole enc P f.params.toList s.vars false W args.toList ds [] before) (hb:Below W.heap.size W W'):
 s.post enc P f false true false false W args (.bool true) W':=by
 obtain ⟨p,q,hA,hV,rfl,hfz,hnd⟩:=id hW
 have hlt:=Fz hA
 refine ⟨ds,[],p++q,[],p,[],hW, ?_, ?_, ?_,hb.frame _,by simp⟩
 ·rw [hres,hfn]
  exact trodAll_mk1 (shut_bool htb true)
 ·rw [hfn]
  exact yH hl hb hrd hA (fun x hx=>by simpa using hlt x hx) hlt
 ·rw [hfn,hvars]
  exact rfl
theorem Ra {K:Nat}{F:al}(hF:ai P K F)(hio:F.io=false)(hbx:F.bx=false){W:World}{vs:List Value}{xs:List AV}(hargs:kH (Old W) W vs xs){y:F.R}(hy:F.fn xs=some y)(hav:F.res y= .one (.bool true)):
 Calls P K vs.toArray W fun e W'=>e= .returned (.bool true)∧Below W.heap.size W W':=by
 refine ((hF xs _ hy).2.1 hio hbx (Old W) W vs (fun b o h=>h) hargs).mono ?_
 rintro e w' ⟨v,hw,fp,rfl,hr,_,_,hfr⟩
 rw [hav] at hr
 have:=oQ hr
 subst this
 exact ⟨rfl,hfr.below⟩
end
def aJ.add (Γ:aJ)(f:Nat)(F:al):aJ:=fun g=>bif g==f then F else Γ g
def aJ.nil:aJ:=fun _=>{R:=Unit,fn:=fun _=>none,av:=fun _=> .bot}
theorem Sound.nil {P:Program}{E:Env}(ty:dI P E.ty)(eqs:J0 P E.eqs)(fts:OV P E.fts)(mixed:P.follows .mixedOrders=true):Sound P E aJ.nil:=⟨ty,eqs,fts,(fun f xs y h=>by cases h),mixed⟩
theorem Sound.add {P:Program}{E:Env}{Γ:aJ}(hS:Sound P E Γ){f:Nat}{F:al}(h:ai P f F):Sound P E (Γ.add f F):=by
 refine ⟨hS.ty,hS.eqs,hS.fts,fun g=> ?_,hS.mixed⟩
 unfold aJ.add
 cases hg:g==f with
 |true=>have:g=f:=by simpa using hg
        subst this;exact h
 |false=>exact hS.fns g
end Go.Dn
