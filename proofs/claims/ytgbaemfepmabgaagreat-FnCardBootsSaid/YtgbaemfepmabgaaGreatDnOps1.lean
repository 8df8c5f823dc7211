import Derived.Test.YtgbaemfepmabgaaGreatDnMem
/- One operation after another: what the abstract step says, the model's run does. Part 1: slots and boxes. -/
namespace Go.Dn
open Go.RowKit
variable {P:Program} {C:Ctx} {st:AS} {a:Act} {w:World} {R:Type} {r:R}
variable {x:Operand} {c:RC} {T:TypeId} {v:Value} {fp:fu}
def mL (P:Program)(C:Ctx)(o:Oper)(a:Act)(w:World)(K:AS->az R)(r:R):Prop:=
 ∃v w' st',((execOp a.eval o).run P w=.ok (.value v) w'\/(v=undef/\(execOp a.eval o).run P w=.ok .skip w'))/\oa C st' (a.put o.dst v) w'/\K st'=some r
theorem oa.put (h:oa C st a w)(d:az Nat){av:AV}(hr:∀g,ez C g st a w []->gE (dc C g st w) v av []): oa C (st.put d av) (a.put d v) w:=by obtain⟨g,h⟩:=h;exact⟨g,h.quiet d (hr g h)⟩
theorem oa.grow (h:oa C st a w){w':World}(hf:Fr (λ_=>False) w w'):oa C st a w':=by obtain⟨g,h⟩:=h;exact⟨g,h.grow hf⟩
theorem Sa (x:Operand):(st.take x).2.ep=st.ep:=by cases x<;>simp[AS.take,HT]
theorem ez.Cn {g:Gh}{av:AV}(h:ez C g st a w [(v,av)])(d:az Nat):oa C (st.put d av) (a.put d v) w:=by obtain⟨fp,hr,hn,hl⟩:=h.hands 0 v av rfl;exact h.MD d rfl rfl rfl rfl (λt ht=>⟨ht,rfl⟩) (Fr.refl _ _) (λ_ _ _ _=>rfl) (λ_ _ _ ho hu=>⟨ho,hu⟩) hr hn (λb hb=>⟨(h.labs b _ (hl b hb)).1,.inl (by rw[hl b hb];rfl)⟩)
theorem jc {k:IntKind}{n:Int}(h:gE c v (.val false [.int k n]) fp):v=.int k n:=by obtain⟨vs,hc,hr⟩:=h;simp only[Cut,bj,cu]at hc;subst hc;obtain⟨f1,f2,rfl,h1,_⟩:=hr;exact h1.1
theorem vE {b:Bool}(h:gE c v (.val false [.bool b]) fp):v=.bool b:=by obtain⟨vs,hc,hr⟩:=h;simp only[Cut,bj,cu]at hc;subst hc;obtain⟨f1,f2,rfl,h1,_⟩:=hr;exact h1.1
theorem eU {x:AC}(h:gE c v (.val false [x]) fp):hY c v x fp:=by obtain⟨vs,hc,hr⟩:=h;simp only[Cut,bj,cu]at hc;subst hc;obtain⟨f1,f2,rfl,h1,h2⟩:=hr;cases h2;simpa using h1
theorem mF {x:AC}(h:hY c v x fp):gE c v (.one x) fp:=⟨[v],by simp[Cut],fp,[],by simp,h,rfl⟩
theorem abx {an:An}{o:Oper}(ho:o.op=.move x)(h:oa C st a w){K:AS->az R}(hk:BM an o x st K=some r):mL P C o a w K r:=by
 have hrun:(execOp a.eval o).run P w=.ok (.value (a.eval x)) w:=by simp[execOp,ho]
 unfold BM at hk;cases hd:o.dst with|none=>rw[hd]at hk;cases hk|some d=>rw[hd]at hk;simp only at hk;split at hk;obtain⟨g,h⟩:=h;obtain⟨g',h'⟩:=h.take x;refine⟨_,_,_,.inl hrun,?_,hk⟩;rw[hd];exact ez.Cn h' (some d);refine⟨_,_,_,.inl hrun,?_,hk⟩;rw[hd];exact h.put (some d) (λg hg=>hg.rd x)
theorem ahG (c:RC)(e:CT):hY c (.slice none 0 0) (.sl (.own none) e []) []:=⟨⟨_,rfl,.inl ⟨⟨_,rfl⟩,rfl,rfl⟩⟩,by simp⟩
theorem Sq {E:Env}{an:An}{o:Oper}(ho:o.op=.assign x)(h:oa C st a w){K:AS->az R}(hk:uI E an o x st K=some r):mL P C o a w K r:=by
 have hrun:(execOp a.eval o).run P w=.ok (.value (a.eval x)) w:=by simp[execOp,ho]
 unfold uI at hk;split at hk;rename_i st' htk;have hv:a.eval x=.slice none 0 0:=by obtain⟨g,hg⟩:=h;obtain⟨g',hg'⟩:=hg.take x;rw[htk]at hg';obtain⟨fp,hr,_⟩:=hg'.hands 0 _ _ rfl;exact(eU hr).1
 split at hk;rename_i e _;refine⟨_,_,_,.inl hrun,?_,hk⟩;rw[hv];cases ar5 an o with|true=>exact h.put o.dst (λg hg=>mF ⟨rfl,rfl⟩)|false=>exact h.put o.dst (λg hg=>mF (ahG _ e))
 cases hk;rename_i v st' hne htk;obtain⟨g,h⟩:=h;obtain⟨g',h'⟩:=h.take x;rw[htk]at h';refine⟨_,_,_,.inl hrun,?_,hk⟩;exact ez.Cn h' o.dst
theorem abY {o:Oper}{c y:Operand}(ho:o.op=.pick c x y)(h:oa C st a w){K:AS->az R}(hk:DH o c x y st K=some r):mL P C o a w K r:=by
 unfold DH at hk;split at hk;rename_i t hc;obtain⟨g,hg⟩:=id h;have hb:=hg.rd c;rw[hc]at hb;have hcv:=vE hb;have hrun:(execOp a.eval o).run P w=.ok (.value (if t then a.eval x else a.eval y)) w:=by simp[execOp,ho,hcv,asBool]
 split at hk;rename_i p q hx hy;have hxv:=hg.rd x;have hyv:=hg.rd y;rw[hx]at hxv;rw[hy]at hyv;refine⟨_,_,_,.inl hrun,?_,hk⟩;refine h.put o.dst (λg' hg'=>mF ⟨?_,rfl⟩);rw[vE hxv,vE hyv];cases t<;>rfl;cases t with|true=>exact⟨_,_,_,.inl hrun,h.put o.dst (λg' hg'=>hg'.rd x),hk⟩|false=>exact⟨_,_,_,.inl hrun,h.put o.dst (λg' hg'=>hg'.rd y),hk⟩
 cases hk
theorem ez.aei {g:Gh}{hs:aw (Value×AV)}(h:ez C g st a w hs)(d:Nat){cs:aw AC}{arr:Array Value}(hno:nth st.boxes d=some none)(hr:bR ⟨λb=>if b=w.heap.size then 0 else g.hw b,λt=>if t=d then w.heap.size else g.β t,C.A,g.hdr,mM st,st.ep,jq st,w.alloc (.cells arr T)⟩ arr.toList cs fp)(hn:fp.Nodup)(hfp:∀b∈fp,ed (g.lab b)): oa C ((st.eZ d (some cs)).put (some d) (.one (.ptr d 0))) (a.put (some d) (.pointer (some ⟨w.heap.size,0,none⟩))) (w.alloc (.cells arr T)):=by
 rw[ei]at hno;have hlt:∀b∈fp,b<w.heap.size:=by intro b hb;have hh:=hfp b hb;cases hx:g.lab b with|none=>rw[hx]at hh;cases hh|some x=>exact(h.labs b x hx).1
 obtain⟨g',hβ,h'⟩:=h.Wf d (cs:=cs) (arr:=arr) (T:=T) (fr:=(0,0)) (fp:=fp) (w':=w.alloc (.cells arr T)) (bnew:=w.heap.size) (hw':=λb=>if b=w.heap.size then 0 else g.hw b) (.inr ⟨bh _,hno⟩) (Fr.alloc _ _ _) (heap_alloc_new w _) (by intro j _;simp) (by simp) (by simp) (λb x hx _ hne=>by simp[hne]) (λb o u ho hu=>by have hb:b<w.heap.size:=World.block_lt_of_cell? w _ hu;exact⟨by simp[im hb];exact ho,by rw[World.cell?_alloc_lt w _ _ hb];exact hu⟩) hr hn (λhm=>Nat.lt_irrefl _ (hlt _ hm)) (λb hb=>⟨by have:=hlt b hb;simp;omega,.inl (hfp b hb)⟩);have hd:d<st.boxes.length:=(aC.1 hno).1;exact⟨g',h'.quiet (some d) (mF ⟨by simp[dc,hβ],⟨cs,by rw[kl];simp[hd]⟩,rfl⟩)⟩
theorem V7 {E:Env}(hE:jA P E.ty){o:Oper}(ho:o.op=.alloc T)(h:oa C st a w){K:AS->az R}(hk:BZ E o T st K=some r):mL P C o a w K r:=by
 unfold BZ at hk;split at hk;rename_i d sh hd hT;split at hk;rename_i hno;obtain⟨i,z,hi,hsz,_,hz,hzc⟩:=(hE T sh hT).elem.info;have hrun:(execOp a.eval o).run P w=.ok (.value (.pointer (some ⟨w.heap.size,0,none⟩))) (w.alloc (.cells z.cells T)):=by simp[execOp,ho,Instr.alloc,zeroValue,typeInfo,hi,hz,newVar,newRow]
 obtain⟨g,hg⟩:=h;refine⟨_,_,_,.inl hrun,?_,hk⟩;rw[hd];refine hg.aei d (fp:=[]) hno ?_ (by simp) (by simp);rw[hzc];exact zu (Ea _ _ _);cases hk;cases hk
theorem HP {g:Bool}{vs:iS}(hv:Cut g v vs)(h1:∀u∈vs,u.oneCell'=true):v.cells.toList=vs:=by unfold Cut at hv;cases g with|true=>simp at hv;subst hv;simp[Value.cells]|false=>simp at hv;subst hv;have:=h1 v (by simp);cases v<;>simp[Value.cells,Value.oneCell']at this⊢
theorem ac8 {o:Oper}(ho:o.op=.box T x)(h:oa C st a w){K:AS->az R}(hk:PW o x st K=some r):mL P C o a w K r:=by
 unfold PW at hk;split at hk;rename_i d gg cs st' hd htk;split at hk;rename_i hno;split at hk;rename_i hsol;obtain⟨g,hg⟩:=h;obtain⟨g',hg'⟩:=hg.take x;rw[htk]at hg';obtain⟨fp,⟨vs,hcut,hr⟩,hn,hl⟩:=hg'.hands 0 _ _ rfl;have h1:=hr.mZ hsol;have hcells:=HP hcut h1;have hrun:(execOp a.eval o).run P w=.ok (.value (.pointer (some ⟨w.heap.size,0,none⟩))) (w.alloc (.cells (a.eval x).cells T)):=by simp[execOp,ho,Instr.box,newVar,newRow]
 refine⟨_,_,_,.inl hrun,?_,hk⟩;rw[hd];refine hg'.aei d (fp:=fp) hno ?_ hn (λb hb=>by rw[hl b hb];rfl);rw[hcells];rw[ei]at hno;refine hr.mono ?_ (λb hb=>?_);refine⟨rfl,λ_ ht=>⟨ht,rfl⟩,λ_ b o u _ hu=>ze (Fr.alloc _ _ _) hu,bh _,λs hs=>⟨hs,?_⟩,λ_ b o u ho hu=>?_⟩;obtain⟨c0,hc0⟩:=hs;have hsd:s≠d:=by rintro rfl;rw[hno]at hc0;cases hc0
 simp[hsd,dc];have hb:b<w.heap.size:=World.block_lt_of_cell? w _ hu;exact⟨by simp[im hb];exact ho,ze (Fr.alloc _ _ _) hu⟩;have hb':b<w.heap.size:=(hg'.labs b _ (hl b hb)).1;exact⟨heap_alloc_old w _ b hb',by simp[im hb',dc]⟩;cases hk;cases hk;cases hk
end Go.Dn
