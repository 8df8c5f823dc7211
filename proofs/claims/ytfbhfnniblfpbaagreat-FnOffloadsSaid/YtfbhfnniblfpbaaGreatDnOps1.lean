import Derived.Test.YtfbhfnniblfpbaaGreatDnMem
/- One operation after another: what the abstract step says, the model's run does. Part 1: slots and boxes. -/
namespace Go.Dn
open Go.RowKit
variable {P:Program} {C:Ctx} {st:AS} {a:Act} {w:World} {R:Type} {r:R}
variable {x:Operand} {c:RC} {T:TypeId} {fp:fi}
def oK (P:Program)(C:Ctx)(o:Oper)(a:Act)(w:World)(K:AS->aA R)(r:R):Prop:=
 ∃v w' cp,((execOp a.eval o).run P w=.ok (.value v) w'\/(v=undef/\(execOp a.eval o).run P w=.ok .skip w'))/\qo C cp (a.put o.dst v) w'/\K cp=some r
theorem qo.put (h:qo C st a w)(d:aA Nat){v:Value}{av:AV}(hr:∀g,eZ C g st a w []->gV (dy C g st w) v av []): qo C (st.put d av) (a.put d v) w:=by obtain⟨g,h⟩:=h;exact⟨g,h.quiet d (hr g h)⟩
theorem qo.grow (h:qo C st a w){w':World}(hf:Fr (λ_=>False) w w'):qo C st a w':=by obtain⟨g,h⟩:=h;exact⟨g,h.grow hf⟩
theorem WW (x:Operand):(st.take x).2.ep=st.ep:=by cases x<;>simp[AS.take,MT]
theorem eZ.Gy {g:Gh}{v:Value}{av:AV}(h:eZ C g st a w [(v,av)])(d:aA Nat):qo C (st.put d av) (a.put d v) w:=by obtain⟨fp,hr,hn,hl⟩:=h.hands 0 v av rfl;exact h.RL d rfl rfl rfl rfl (λt ht=>⟨ht,rfl⟩) (Fr.refl _ _) (λ_ _ _ _=>rfl) (λ_ _ _ ho hu=>⟨ho,hu⟩) hr hn (λb hb=>⟨(h.ir b _ (hl b hb)).1,.inl (by rw[hl b hb];rfl)⟩)
theorem kf {v:Value}{k:IntKind}{n:Int}(h:gV c v (.val false [.int k n]) fp):v=.int k n:=by obtain⟨vs,hc,hr⟩:=h;simp only[Cut,bm,cG]at hc;subst hc;obtain⟨f1,f2,rfl,h1,_⟩:=hr;exact h1.1
theorem yp {v:Value}{b:Bool}(h:gV c v (.val false [.bool b]) fp):v=.bool b:=by obtain⟨vs,hc,hr⟩:=h;simp only[Cut,bm,cG]at hc;subst hc;obtain⟨f1,f2,rfl,h1,_⟩:=hr;exact h1.1
theorem fN {v:Value}{x:AC}(h:gV c v (.val false [x]) fp):je c v x fp:=by obtain⟨vs,hc,hr⟩:=h;simp only[Cut,bm,cG]at hc;subst hc;obtain⟨f1,f2,rfl,h1,h2⟩:=hr;cases h2;simpa using h1
theorem oz {v:Value}{x:AC}(h:je c v x fp):gV c v (.one x) fp:=⟨[v],by simp[Cut],fp,[],by simp,h,rfl⟩
theorem afa {an:An}{o:Oper}(ho:o.op=.move x)(h:qo C st a w){K:AS->aA R}(hk:FF an o x st K=some r):oK P C o a w K r:=by
 have fz:(execOp a.eval o).run P w=.ok (.value (a.eval x)) w:=by simp[execOp,ho]
 unfold FF at hk;cases hd:o.dst with|none=>rw[hd]at hk;cases hk|some d=>rw[hd]at hk;simp only at hk;split at hk;obtain⟨g,h⟩:=h;obtain⟨g',h'⟩:=h.take x;refine⟨_,_,_,.inl fz,?_,hk⟩;rw[hd];exact eZ.Gy h' (some d);refine⟨_,_,_,.inl fz,?_,hk⟩;rw[hd];exact h.put (some d) (λg hg=>hg.rd x)
theorem aj8 (c:RC)(e:CT):je c (.slice none 0 0) (.sl (.own none) e []) []:=⟨⟨_,rfl,.inl ⟨⟨_,rfl⟩,rfl,rfl⟩⟩,by simp⟩
theorem Xq {E:Env}{an:An}{o:Oper}(ho:o.op=.assign x)(h:qo C st a w){K:AS->aA R}(hk:xK E an o x st K=some r):oK P C o a w K r:=by
 have fz:(execOp a.eval o).run P w=.ok (.value (a.eval x)) w:=by simp[execOp,ho]
 unfold xK at hk;split at hk;rename_i cp vF;have hv:a.eval x=.slice none 0 0:=by obtain⟨g,hg⟩:=h;obtain⟨g',qn⟩:=hg.take x;rw[vF]at qn;obtain⟨fp,hr,_⟩:=qn.hands 0 _ _ rfl;exact(fN hr).1
 split at hk;rename_i e _;refine⟨_,_,_,.inl fz,?_,hk⟩;rw[hv];cases anc an o with|true=>exact h.put o.dst (λg hg=>oz ⟨rfl,rfl⟩)|false=>exact h.put o.dst (λg hg=>oz (aj8 _ e))
 cases hk;rename_i v cp Fa vF;obtain⟨g,h⟩:=h;obtain⟨g',h'⟩:=h.take x;rw[vF]at h';refine⟨_,_,_,.inl fz,?_,hk⟩;exact eZ.Gy h' o.dst
theorem afz {o:Oper}{c y:Operand}(ho:o.op=.pick c x y)(h:qo C st a w){K:AS->aA R}(hk:H4 o c x y st K=some r):oK P C o a w K r:=by
 unfold H4 at hk;split at hk;rename_i t hc;obtain⟨g,hg⟩:=id h;have hb:=hg.rd c;rw[hc]at hb;have hcv:=yp hb;have fz:(execOp a.eval o).run P w=.ok (.value (if t then a.eval x else a.eval y)) w:=by simp[execOp,ho,hcv,asBool]
 split at hk;rename_i p q hx hy;have xI:=hg.rd x;have Ue:=hg.rd y;rw[hx]at xI;rw[hy]at Ue;refine⟨_,_,_,.inl fz,?_,hk⟩;refine h.put o.dst (λg' qn=>oz ⟨?_,rfl⟩);rw[yp xI,yp Ue];cases t<;>rfl;cases t with|true=>exact⟨_,_,_,.inl fz,h.put o.dst (λg' qn=>qn.rd x),hk⟩|false=>exact⟨_,_,_,.inl fz,h.put o.dst (λg' qn=>qn.rd y),hk⟩
 cases hk
theorem eZ.aie {g:Gh}{hs:ax (Value×AV)}(h:eZ C g st a w hs)(d:Nat){cs:ax AC}{arr:Array Value}(KJ:nth st.boxes d=some none)(hr:bW ⟨λb=>if b=w.heap.size then 0 else g.hw b,λt=>if t=d then w.heap.size else g.β t,C.A,g.hdr,oL st,st.ep,kD st,w.alloc (.cells arr T)⟩ arr.toList cs fp)(hn:fp.Nodup)(Ha:∀b∈fp,eQ (g.fK b)): qo C ((st.fQ d (some cs)).put (some d) (.one (.ptr d 0))) (a.put (some d) (.pointer (some ⟨w.heap.size,0,none⟩))) (w.alloc (.cells arr T)):=by
 rw[eV]at KJ;have iA:∀b∈fp,b<w.heap.size:=by intro b hb;have hh:=Ha b hb;cases hx:g.fK b with|none=>rw[hx]at hh;cases hh|some x=>exact(h.ir b x hx).1
 obtain⟨g',M3,h'⟩:=h.aap d (cs:=cs) (arr:=arr) (T:=T) (fr:=(0,0)) (fp:=fp) (w':=w.alloc (.cells arr T)) (bnew:=w.heap.size) (hw':=λb=>if b=w.heap.size then 0 else g.hw b) (.inr ⟨bc _,KJ⟩) (Fr.alloc _ _ _) (heap_alloc_new w _) (by intro j _;simp) (by simp) (by simp) (λb x hx _ Fa=>by simp[Fa]) (λb o u ho hu=>by have hb:b<w.heap.size:=World.block_lt_of_cell? w _ hu;exact⟨by simp[jj hb];exact ho,by rw[World.cell?_alloc_lt w _ _ hb];exact hu⟩) hr hn (λhm=>pn _ (iA _ hm)) (λb hb=>⟨by have:=iA b hb;simp;omega,.inl (Ha b hb)⟩);have hd:d<st.boxes.length:=(aD.1 KJ).1;exact⟨g',h'.quiet (some d) (oz ⟨by simp[dy,M3],⟨cs,by rw[lX];simp[hd]⟩,rfl⟩)⟩
theorem aag {E:Env}(hE:kQ P E.ty){o:Oper}(ho:o.op=.alloc T)(h:qo C st a w){K:AS->aA R}(hk:F2 E o T st K=some r):oK P C o a w K r:=by
 unfold F2 at hk;split at hk;rename_i d sh hd hT;split at hk;rename_i KJ;obtain⟨i,z,hi,wv,_,hz,hzc⟩:=(hE T sh hT).elem.info;have fz:(execOp a.eval o).run P w=.ok (.value (.pointer (some ⟨w.heap.size,0,none⟩))) (w.alloc (.cells z.cells T)):=by simp[execOp,ho,Instr.alloc,zeroValue,typeInfo,hi,hz,newVar,newRow]
 obtain⟨g,hg⟩:=h;refine⟨_,_,_,.inl fz,?_,hk⟩;rw[hd];refine hg.aie d (fp:=[]) KJ ?_ (by simp) (by simp);rw[hzc];exact xy (Ix _ _ _);cases hk;cases hk
theorem MP {g:Bool}{v:Value}{vs:jI}(hv:Cut g v vs)(h1:∀u∈vs,u.oneCell'=true):v.cells.toList=vs:=by unfold Cut at hv;cases g with|true=>simp at hv;subst hv;simp[Value.cells]|false=>simp at hv;subst hv;have:=h1 v (by simp);cases v<;>simp[Value.cells,Value.oneCell']at this⊢
theorem agQ {o:Oper}(ho:o.op=.box T x)(h:qo C st a w){K:AS->aA R}(hk:Vy o x st K=some r):oK P C o a w K r:=by
 unfold Vy at hk;split at hk;rename_i d gg cs cp hd vF;split at hk;rename_i KJ;split at hk;rename_i ahC;obtain⟨g,hg⟩:=h;obtain⟨g',qn⟩:=hg.take x;rw[vF]at qn;obtain⟨fp,⟨vs,gb,hr⟩,hn,hl⟩:=qn.hands 0 _ _ rfl;have h1:=hr.oT ahC;have EW:=MP gb h1;have fz:(execOp a.eval o).run P w=.ok (.value (.pointer (some ⟨w.heap.size,0,none⟩))) (w.alloc (.cells (a.eval x).cells T)):=by simp[execOp,ho,Instr.box,newVar,newRow]
 refine⟨_,_,_,.inl fz,?_,hk⟩;rw[hd];refine qn.aie d (fp:=fp) KJ ?_ hn (λb hb=>by rw[hl b hb];rfl);rw[EW];rw[eV]at KJ;refine hr.mono ?_ (λb hb=>?_);refine⟨rfl,λ_ ht=>⟨ht,rfl⟩,λ_ b o u _ hu=>CY (Fr.alloc _ _ _) hu,bc _,λs hs=>⟨hs,?_⟩,λ_ b o u ho hu=>?_⟩;obtain⟨c0,W6⟩:=hs;have hsd:s≠d:=by rintro rfl;rw[KJ]at W6;cases W6
 simp[hsd,dy];have hb:b<w.heap.size:=World.block_lt_of_cell? w _ hu;exact⟨by simp[jj hb];exact ho,CY (Fr.alloc _ _ _) hu⟩;have iq:b<w.heap.size:=(qn.ir b _ (hl b hb)).1;exact⟨heap_alloc_old w _ b iq,by simp[jj iq,dy]⟩;cases hk;cases hk;cases hk
end Go.Dn
