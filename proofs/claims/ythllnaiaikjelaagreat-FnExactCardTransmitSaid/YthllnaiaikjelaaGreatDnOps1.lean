import Derived.Test.YthllnaiaikjelaaGreatDnMem
/- One operation after another: what the abstract step says, the model's run does. Part 1: slots and boxes. -/
namespace Go.Dn
open Go.RowKit
variable {P:Program} {C:Ctx} {st:AS} {a:Act} {w:World} {R:Type} {r:R}
variable {x:Operand} {c:RC} {T:TypeId} {fp:dy}
def mq (P:Program)(C:Ctx)(o:Oper)(a:Act)(w:World)(K:AS->ar R)(r:R):Prop:=
 ∃v w' st',((execOp a.eval o).run P w=.ok (.value v) w'\/(v=undef/\(execOp a.eval o).run P w=.ok .skip w'))/\mM C st' (a.put o.dst v) w'/\K st'=some r
theorem mM.put (h:mM C st a w)(d:ar Nat){v:Value}{av:AV}(hr:∀g,dr C g st a w []->fA (cv C g st w) v av []): mM C (st.put d av) (a.put d v) w:=by obtain⟨g,h⟩:=h;exact⟨g,h.quiet d (hr g h)⟩
theorem mM.grow (h:mM C st a w){w':World}(hf:Fr (λ_=>False) w w'):mM C st a w':=by obtain⟨g,h⟩:=h;exact⟨g,h.grow hf⟩
theorem TD (x:Operand):(st.take x).2.ep=st.ep:=by cases x<;>simp[AS.take,K2]
theorem dr.EV {g:Gh}{v:Value}{av:AV}(h:dr C g st a w [(v,av)])(d:ar Nat):mM C (st.put d av) (a.put d v) w:=by obtain⟨fp,hr,hn,hl⟩:=h.hands 0 v av rfl;exact h.OT d rfl rfl rfl rfl (λt ht=>⟨ht,rfl⟩) (Fr.refl _ _) (λ_ _ _ _=>rfl) (λ_ _ _ ho hu=>⟨ho,hu⟩) hr hn (λb hb=>⟨(h.ff b _ (hl b hb)).1,.inl (by rw[hl b hb];rfl)⟩)
theorem iz {v:Value}{k:IntKind}{n:Int}(h:fA c v (.val false [.int k n]) fp):v=.int k n:=by obtain⟨vs,hc,hr⟩:=h;simp only[Cut,aW,bV]at hc;subst hc;obtain⟨f1,f2,rfl,h1,_⟩:=hr;exact h1.1
theorem wv {v:Value}{b:Bool}(h:fA c v (.val false [.bool b]) fp):v=.bool b:=by obtain⟨vs,hc,hr⟩:=h;simp only[Cut,aW,bV]at hc;subst hc;obtain⟨f1,f2,rfl,h1,_⟩:=hr;exact h1.1
theorem dM {v:Value}{x:AC}(h:fA c v (.val false [x]) fp):gy c v x fp:=by obtain⟨vs,hc,hr⟩:=h;simp only[Cut,aW,bV]at hc;subst hc;obtain⟨f1,f2,rfl,h1,h2⟩:=hr;cases h2;simpa using h1
theorem ma {v:Value}{x:AC}(h:gy c v x fp):fA c v (.one x) fp:=⟨[v],by simp[Cut],fp,[],by simp,h,rfl⟩
theorem abk {an:An}{o:Oper}(ho:o.op=.move x)(h:mM C st a w){K:AS->ar R}(hk:DH an o x st K=some r):mq P C o a w K r:=by
 have dD:(execOp a.eval o).run P w=.ok (.value (a.eval x)) w:=by simp[execOp,ho]
 unfold DH at hk;cases hd:o.dst with|none=>rw[hd]at hk;cases hk|some d=>rw[hd]at hk;simp only at hk;split at hk;obtain⟨g,h⟩:=h;obtain⟨g',h'⟩:=h.take x;refine⟨_,_,_,.inl dD,?_,hk⟩;rw[hd];exact dr.EV h' (some d);refine⟨_,_,_,.inl dD,?_,hk⟩;rw[hd];exact h.put (some d) (λg hg=>hg.rd x)
theorem afX (c:RC)(e:CT):gy c (.slice none 0 0) (.sl (.own none) e []) []:=⟨⟨_,rfl,.inl ⟨⟨_,rfl⟩,rfl,rfl⟩⟩,by simp⟩
theorem TZ {E:Env}{an:An}{o:Oper}(ho:o.op=.assign x)(h:mM C st a w){K:AS->ar R}(hk:uW E an o x st K=some r):mq P C o a w K r:=by
 have dD:(execOp a.eval o).run P w=.ok (.value (a.eval x)) w:=by simp[execOp,ho]
 unfold uW at hk;split at hk;rename_i st' sI;have hv:a.eval x=.slice none 0 0:=by obtain⟨g,hg⟩:=h;obtain⟨g',ml⟩:=hg.take x;rw[sI]at ml;obtain⟨fp,hr,_⟩:=ml.hands 0 _ _ rfl;exact(dM hr).1
 split at hk;rename_i e _;refine⟨_,_,_,.inl dD,?_,hk⟩;rw[hv];cases aiF an o with|true=>exact h.put o.dst (λg hg=>ma ⟨rfl,rfl⟩)|false=>exact h.put o.dst (λg hg=>ma (afX _ e))
 cases hk;rename_i v st' D2 sI;obtain⟨g,h⟩:=h;obtain⟨g',h'⟩:=h.take x;rw[sI]at h';refine⟨_,_,_,.inl dD,?_,hk⟩;exact dr.EV h' o.dst
theorem abH {o:Oper}{c y:Operand}(ho:o.op=.pick c x y)(h:mM C st a w){K:AS->ar R}(hk:GD o c x y st K=some r):mq P C o a w K r:=by
 unfold GD at hk;split at hk;rename_i t hc;obtain⟨g,hg⟩:=id h;have hb:=hg.rd c;rw[hc]at hb;have hcv:=wv hb;have dD:(execOp a.eval o).run P w=.ok (.value (if t then a.eval x else a.eval y)) w:=by simp[execOp,ho,hcv,asBool]
 split at hk;rename_i p q hx hy;have uS:=hg.rd x;have QZ:=hg.rd y;rw[hx]at uS;rw[hy]at QZ;refine⟨_,_,_,.inl dD,?_,hk⟩;refine h.put o.dst (λg' ml=>ma ⟨?_,rfl⟩);rw[wv uS,wv QZ];cases t<;>rfl;cases t with|true=>exact⟨_,_,_,.inl dD,h.put o.dst (λg' ml=>ml.rd x),hk⟩|false=>exact⟨_,_,_,.inl dD,h.put o.dst (λg' ml=>ml.rd y),hk⟩
 cases hk
theorem dr.aeh {g:Gh}{hs:aq (Value×AV)}(h:dr C g st a w hs)(d:Nat){cs:aq AC}{arr:Array Value}(Hj:nth st.boxes d=some none)(hr:bn ⟨λb=>if b=w.heap.size then 0 else g.hw b,λt=>if t=d then w.heap.size else g.β t,C.A,g.hdr,kO st,st.ep,fY st,w.alloc (.cells arr T)⟩ arr.toList cs fp)(hn:fp.Nodup)(B5:∀b∈fp,cX (g.dE b)): mM C ((st.eh d (some cs)).put (some d) (.one (.ptr d 0))) (a.put (some d) (.pointer (some ⟨w.heap.size,0,none⟩))) (w.alloc (.cells arr T)):=by
 rw[dv]at Hj;have gM:∀b∈fp,b<w.heap.size:=by intro b hb;have hh:=B5 b hb;cases hx:g.dE b with|none=>rw[hx]at hh;cases hh|some x=>exact(h.ff b x hx).1
 obtain⟨g',IT,h'⟩:=h.W0 d (cs:=cs) (arr:=arr) (T:=T) (fr:=(0,0)) (fp:=fp) (w':=w.alloc (.cells arr T)) (bnew:=w.heap.size) (hw':=λb=>if b=w.heap.size then 0 else g.hw b) (.inr ⟨bc _,Hj⟩) (Fr.alloc _ _ _) (heap_alloc_new w _) (by intro j _;simp) (by simp) (by simp) (λb x hx _ D2=>by simp[D2]) (λb o u ho hu=>by have hb:b<w.heap.size:=World.block_lt_of_cell? w _ hu;exact⟨by simp[gG hb];exact ho,by rw[World.cell?_alloc_lt w _ _ hb];exact hu⟩) hr hn (λhm=>mO _ (gM _ hm)) (λb hb=>⟨by have:=gM b hb;simp;omega,.inl (B5 b hb)⟩);have hd:d<st.boxes.length:=(aD.1 Hj).1;exact⟨g',h'.quiet (some d) (ma ⟨by simp[cv,IT],⟨cs,by rw[jS];simp[hd]⟩,rfl⟩)⟩
theorem WS {E:Env}(hE:iV P E.ty){o:Oper}(ho:o.op=.alloc T)(h:mM C st a w){K:AS->ar R}(hk:D5 E o T st K=some r):mq P C o a w K r:=by
 unfold D5 at hk;split at hk;rename_i d sh hd hT;split at hk;rename_i Hj;obtain⟨i,z,hi,sD,_,hz,hzc⟩:=(hE T sh hT).elem.info;have dD:(execOp a.eval o).run P w=.ok (.value (.pointer (some ⟨w.heap.size,0,none⟩))) (w.alloc (.cells z.cells T)):=by simp[execOp,ho,Instr.alloc,zeroValue,typeInfo,hi,hz,newVar,newRow]
 obtain⟨g,hg⟩:=h;refine⟨_,_,_,.inl dD,?_,hk⟩;rw[hd];refine hg.aeh d (fp:=[]) Hj ?_ (by simp) (by simp);rw[hzc];exact rN (G2 _ _ _);cases hk;cases hk
theorem KY {g:Bool}{v:Value}{vs:gO}(hv:Cut g v vs)(h1:∀u∈vs,u.oneCell'=true):v.cells.toList=vs:=by unfold Cut at hv;cases g with|true=>simp at hv;subst hv;simp[Value.cells]|false=>simp at hv;subst hv;have:=h1 v (by simp);cases v<;>simp[Value.cells,Value.oneCell']at this⊢
theorem acy {o:Oper}(ho:o.op=.box T x)(h:mM C st a w){K:AS->ar R}(hk:Sa o x st K=some r):mq P C o a w K r:=by
 unfold Sa at hk;split at hk;rename_i d gg cs st' hd sI;split at hk;rename_i Hj;split at hk;rename_i ady;obtain⟨g,hg⟩:=h;obtain⟨g',ml⟩:=hg.take x;rw[sI]at ml;obtain⟨fp,⟨vs,dU,hr⟩,hn,hl⟩:=ml.hands 0 _ _ rfl;have h1:=hr.mD ady;have CU:=KY dU h1;have dD:(execOp a.eval o).run P w=.ok (.value (.pointer (some ⟨w.heap.size,0,none⟩))) (w.alloc (.cells (a.eval x).cells T)):=by simp[execOp,ho,Instr.box,newVar,newRow]
 refine⟨_,_,_,.inl dD,?_,hk⟩;rw[hd];refine ml.aeh d (fp:=fp) Hj ?_ hn (λb hb=>by rw[hl b hb];rfl);rw[CU];rw[dv]at Hj;refine hr.mono ?_ (λb hb=>?_);refine⟨rfl,λ_ ht=>⟨ht,rfl⟩,λ_ b o u _ hu=>AW (Fr.alloc _ _ _) hu,bc _,λs hs=>⟨hs,?_⟩,λ_ b o u ho hu=>?_⟩;obtain⟨c0,WC⟩:=hs;have hsd:s≠d:=by rintro rfl;rw[Hj]at WC;cases WC
 simp[hsd,cv];have hb:b<w.heap.size:=World.block_lt_of_cell? w _ hu;exact⟨by simp[gG hb];exact ho,AW (Fr.alloc _ _ _) hu⟩;have gA:b<w.heap.size:=(ml.ff b _ (hl b hb)).1;exact⟨heap_alloc_old w _ b gA,by simp[gG gA,cv]⟩;cases hk;cases hk;cases hk
end Go.Dn
