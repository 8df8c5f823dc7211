import Derived.Test.YtgbaemfepmabgaaGreatDnMem
/- One operation after another: what the abstract step says, the model's run does. Part 1: slots and boxes. -/
namespace Go.Dn
open Go.RowKit
variable {P:Program} {C:Ctx} {st:AS} {a:Act} {w:World} {R:Type} {r:R}
variable {x:Operand} {c:RC} {T:TypeId} {v:Value} {fp:eG}
def lT (P:Program)(C:Ctx)(o:Oper)(a:Act)(w:World)(K:AS->aw R)(r:R):Prop:=
 ∃v w' st',((execOp a.eval o).run P w=.ok (.value v) w'\/(v=undef/\(execOp a.eval o).run P w=.ok .skip w'))/\nf C st' (a.put o.dst v) w'/\K st'=some r
theorem nf.put (h:nf C st a w)(d:aw Nat){av:AV}(hr:∀g,dL C g st a w []->fS (cO C g st w) v av []): nf C (st.put d av) (a.put d v) w:=by obtain⟨g,h⟩:=h;exact⟨g,h.quiet d (hr g h)⟩
theorem nf.grow (h:nf C st a w){w':World}(hf:Fr (λ_=>False) w w'):nf C st a w':=by obtain⟨g,h⟩:=h;exact⟨g,h.grow hf⟩
theorem Q1 (x:Operand):(st.take x).2.ep=st.ep:=by cases x<;>simp[AS.take,GP]
theorem dL.Ba {g:Gh}{av:AV}(h:dL C g st a w [(v,av)])(d:aw Nat):nf C (st.put d av) (a.put d v) w:=by obtain⟨fp,hr,hn,hl⟩:=h.hands 0 v av rfl;exact h.Lx d rfl rfl rfl rfl (λt ht=>⟨ht,rfl⟩) (Fr.refl _ _) (λ_ _ _ _=>rfl) (λ_ _ _ ho hu=>⟨ho,hu⟩) hr hn (λb hb=>⟨(h.labs b _ (hl b hb)).1,.inl (by rw[hl b hb];rfl)⟩)
theorem iw {k:IntKind}{n:Int}(h:fS c v (.val false [.int k n]) fp):v=.int k n:=by obtain⟨vs,hc,hr⟩:=h;simp only[Cut,bf,cd]at hc;subst hc;obtain⟨f1,f2,rfl,h1,_⟩:=hr;exact h1.1
theorem uq {b:Bool}(h:fS c v (.val false [.bool b]) fp):v=.bool b:=by obtain⟨vs,hc,hr⟩:=h;simp only[Cut,bf,cd]at hc;subst hc;obtain⟨f1,f2,rfl,h1,_⟩:=hr;exact h1.1
theorem ee {x:AC}(h:fS c v (.val false [x]) fp):gz c v x fp:=by obtain⟨vs,hc,hr⟩:=h;simp only[Cut,bf,cd]at hc;subst hc;obtain⟨f1,f2,rfl,h1,h2⟩:=hr;cases h2;simpa using h1
theorem lN {x:AC}(h:gz c v x fp):fS c v (.one x) fp:=⟨[v],by simp[Cut],fp,[],by simp,h,rfl⟩
theorem aaA {an:An}{o:Oper}(ho:o.op=.move x)(h:nf C st a w){K:AS->aw R}(hk:Ap an o x st K=some r):lT P C o a w K r:=by
 have hrun:(execOp a.eval o).run P w=.ok (.value (a.eval x)) w:=by simp[execOp,ho]
 unfold Ap at hk;cases hd:o.dst with|none=>rw[hd]at hk;cases hk|some d=>rw[hd]at hk;simp only at hk;split at hk;obtain⟨g,h⟩:=h;obtain⟨g',h'⟩:=h.take x;refine⟨_,_,_,.inl hrun,?_,hk⟩;rw[hd];exact dL.Ba h' (some d);refine⟨_,_,_,.inl hrun,?_,hk⟩;rw[hd];exact h.put (some d) (λg hg=>hg.rd x)
theorem agH (c:RC)(e:CT):gz c (.slice none 0 0) (.sl (.own none) e []) []:=⟨⟨_,rfl,.inl ⟨⟨_,rfl⟩,rfl,rfl⟩⟩,by simp⟩
theorem Rh {E:Env}{an:An}{o:Oper}(ho:o.op=.assign x)(h:nf C st a w){K:AS->aw R}(hk:tt E an o x st K=some r):lT P C o a w K r:=by
 have hrun:(execOp a.eval o).run P w=.ok (.value (a.eval x)) w:=by simp[execOp,ho]
 unfold tt at hk;split at hk;rename_i st' htk;have hv:a.eval x=.slice none 0 0:=by obtain⟨g,hg⟩:=h;obtain⟨g',hg'⟩:=hg.take x;rw[htk]at hg';obtain⟨fp,hr,_⟩:=hg'.hands 0 _ _ rfl;exact(ee hr).1
 split at hk;rename_i e _;refine⟨_,_,_,.inl hrun,?_,hk⟩;rw[hv];cases aq9 an o with|true=>exact h.put o.dst (λg hg=>lN ⟨rfl,rfl⟩)|false=>exact h.put o.dst (λg hg=>lN (agH _ e))
 cases hk;rename_i v st' hne htk;obtain⟨g,h⟩:=h;obtain⟨g',h'⟩:=h.take x;rw[htk]at h';refine⟨_,_,_,.inl hrun,?_,hk⟩;exact dL.Ba h' o.dst
theorem aa1 {o:Oper}{c y:Operand}(ho:o.op=.pick c x y)(h:nf C st a w){K:AS->aw R}(hk:Cx o c x y st K=some r):lT P C o a w K r:=by
 unfold Cx at hk;split at hk;rename_i t hc;obtain⟨g,hg⟩:=id h;have hb:=hg.rd c;rw[hc]at hb;have hcv:=uq hb;have hrun:(execOp a.eval o).run P w=.ok (.value (if t then a.eval x else a.eval y)) w:=by simp[execOp,ho,hcv,asBool]
 split at hk;rename_i p q hx hy;have hxv:=hg.rd x;have hyv:=hg.rd y;rw[hx]at hxv;rw[hy]at hyv;refine⟨_,_,_,.inl hrun,?_,hk⟩;refine h.put o.dst (λg' hg'=>lN ⟨?_,rfl⟩);rw[uq hxv,uq hyv];cases t<;>rfl;cases t with|true=>exact⟨_,_,_,.inl hrun,h.put o.dst (λg' hg'=>hg'.rd x),hk⟩|false=>exact⟨_,_,_,.inl hrun,h.put o.dst (λg' hg'=>hg'.rd y),hk⟩
 cases hk
theorem dL.adl {g:Gh}{hs:au (Value×AV)}(h:dL C g st a w hs)(d:Nat){cs:au AC}{arr:Array Value}(hno:nth st.boxes d=some none)(hr:bH ⟨λb=>if b=w.heap.size then 0 else g.hw b,λt=>if t=d then w.heap.size else g.β t,C.A,g.hdr,lU st,st.ep,iK st,w.alloc (.cells arr T)⟩ arr.toList cs fp)(hn:fp.Nodup)(hfp:∀b∈fp,dG (g.lab b)): nf C ((st.eu d (some cs)).put (some d) (.one (.ptr d 0))) (a.put (some d) (.pointer (some ⟨w.heap.size,0,none⟩))) (w.alloc (.cells arr T)):=by
 rw[dI]at hno;have hlt:∀b∈fp,b<w.heap.size:=by intro b hb;have hh:=hfp b hb;cases hx:g.lab b with|none=>rw[hx]at hh;cases hh|some x=>exact(h.labs b x hx).1
 obtain⟨g',hβ,h'⟩:=h.Va d (cs:=cs) (arr:=arr) (T:=T) (fr:=(0,0)) (fp:=fp) (w':=w.alloc (.cells arr T)) (bnew:=w.heap.size) (hw':=λb=>if b=w.heap.size then 0 else g.hw b) (.inr ⟨ba _,hno⟩) (Fr.alloc _ _ _) (heap_alloc_new w _) (by intro j _;simp) (by simp) (by simp) (λb x hx _ hne=>by simp[hne]) (λb o u ho hu=>by have hb:b<w.heap.size:=World.block_lt_of_cell? w _ hu;exact⟨by simp[gJ hb];exact ho,by rw[World.cell?_alloc_lt w _ _ hb];exact hu⟩) hr hn (λhm=>Nat.lt_irrefl _ (hlt _ hm)) (λb hb=>⟨by have:=hlt b hb;simp;omega,.inl (hfp b hb)⟩);have hd:d<st.boxes.length:=(List.getElem?_eq_some_iff.1 hno).1;exact⟨g',h'.quiet (some d) (lN ⟨by simp[cO,hβ],⟨cs,by rw[jB];simp[hd]⟩,rfl⟩)⟩
theorem U2 {E:Env}(hE:iW P E.ty){o:Oper}(ho:o.op=.alloc T)(h:nf C st a w){K:AS->aw R}(hk:AD E o T st K=some r):lT P C o a w K r:=by
 unfold AD at hk;split at hk;rename_i d sh hd hT;split at hk;rename_i hno;obtain⟨i,z,hi,hsz,_,hz,hzc⟩:=(hE T sh hT).elem.info;have hrun:(execOp a.eval o).run P w=.ok (.value (.pointer (some ⟨w.heap.size,0,none⟩))) (w.alloc (.cells z.cells T)):=by simp[execOp,ho,Instr.alloc,zeroValue,typeInfo,hi,hz,newVar,newRow]
 obtain⟨g,hg⟩:=h;refine⟨_,_,_,.inl hrun,?_,hk⟩;rw[hd];refine hg.adl d (fp:=[]) hno ?_ (by simp) (by simp);rw[hzc];exact xQ (CZ _ _ _);cases hk;cases hk
theorem GL {g:Bool}{vs:ig}(hv:Cut g v vs)(h1:∀u∈vs,u.oneCell'=true):v.cells.toList=vs:=by unfold Cut at hv;cases g with|true=>simp at hv;subst hv;simp[Value.cells]|false=>simp at hv;subst hv;have:=h1 v (by simp);cases v<;>simp[Value.cells,Value.oneCell']at this⊢
theorem ab8 {o:Oper}(ho:o.op=.box T x)(h:nf C st a w){K:AS->aw R}(hk:OM o x st K=some r):lT P C o a w K r:=by
 unfold OM at hk;split at hk;rename_i d gg cs st' hd htk;split at hk;rename_i hno;split at hk;rename_i hsol;obtain⟨g,hg⟩:=h;obtain⟨g',hg'⟩:=hg.take x;rw[htk]at hg';obtain⟨fp,⟨vs,hcut,hr⟩,hn,hl⟩:=hg'.hands 0 _ _ rfl;have h1:=hr.md hsol;have hcells:=GL hcut h1;have hrun:(execOp a.eval o).run P w=.ok (.value (.pointer (some ⟨w.heap.size,0,none⟩))) (w.alloc (.cells (a.eval x).cells T)):=by simp[execOp,ho,Instr.box,newVar,newRow]
 refine⟨_,_,_,.inl hrun,?_,hk⟩;rw[hd];refine hg'.adl d (fp:=fp) hno ?_ hn (λb hb=>by rw[hl b hb];rfl);rw[hcells];rw[dI]at hno;refine hr.mono ?_ (λb hb=>?_);refine⟨rfl,λ_ ht=>⟨ht,rfl⟩,λ_ b o u _ hu=>xL (Fr.alloc _ _ _) hu,ba _,λs hs=>⟨hs,?_⟩,λ_ b o u ho hu=>?_⟩;obtain⟨c0,hc0⟩:=hs;have hsd:s≠d:=by rintro rfl;rw[hno]at hc0;cases hc0
 simp[hsd,cO];have hb:b<w.heap.size:=World.block_lt_of_cell? w _ hu;exact⟨by simp[gJ hb];exact ho,xL (Fr.alloc _ _ _) hu⟩;have hb':b<w.heap.size:=(hg'.labs b _ (hl b hb)).1;exact⟨heap_alloc_old w _ b hb',by simp[gJ hb',cO]⟩;cases hk;cases hk;cases hk
end Go.Dn
