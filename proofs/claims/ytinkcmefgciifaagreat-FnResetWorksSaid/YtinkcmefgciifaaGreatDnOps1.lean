import Derived.Test.YtinkcmefgciifaaGreatDnMem
/- One operation after another: what the abstract step says, the model's run does. Part 1: slots and boxes. -/
namespace Go.Dn
open Go.RowKit
variable {P:Program} {C:Ctx} {st:AS} {a:Act} {w:World} {R:Type} {r:R}
variable {x:Operand} {c:RC} {T:TypeId} {v:Value} {fp:gk}
def ox (P:Program)(C:Ctx)(o:Oper)(a:Act)(w:World)(K:AS->aC R)(r:R):Prop:=
 ∃v w' cc,((execOp a.eval o).run P w=.ok (.value v) w'\/(v=undef/\(execOp a.eval o).run P w=.ok .skip w'))/\pT C cc (a.put o.dst v) w'/\K cc=some r
theorem pT.put (h:pT C st a w)(d:aC Nat){av:AV}(hr:∀g,eX C g st a w []->iu (dp C g st w) v av []): pT C (st.put d av) (a.put d v) w:=by obtain⟨g,h⟩:=h;exact⟨g,h.quiet d (hr g h)⟩
theorem pT.grow (h:pT C st a w){w':World}(hf:Fr (λ_=>False) w w'):pT C st a w':=by obtain⟨g,h⟩:=h;exact⟨g,h.grow hf⟩
theorem Vj (x:Operand):(st.take x).2.ep=st.ep:=by cases x<;>simp[AS.take,KG]
theorem eX.EJ {g:Gh}{av:AV}(h:eX C g st a w [(v,av)])(d:aC Nat):pT C (st.put d av) (a.put d v) w:=by obtain⟨fp,hr,hn,hl⟩:=h.hands 0 v av rfl;exact h.PY d rfl rfl rfl rfl (λt ht=>⟨ht,rfl⟩) (Fr.refl _ _) (λ_ _ _ _=>rfl) (λ_ _ _ ho hu=>⟨ho,hu⟩) hr hn (λb hb=>⟨(h.iw b _ (hl b hb)).1,.inl (by rw[hl b hb];rfl)⟩)
theorem kg {k:IntKind}{n:Int}(h:iu c v (.val false [.int k n]) fp):v=.int k n:=by obtain⟨vs,hc,hr⟩:=h;simp only[Cut,bj,cy]at hc;subst hc;obtain⟨f1,f2,rfl,h1,_⟩:=hr;exact h1.1
theorem xf {b:Bool}(h:iu c v (.val false [.bool b]) fp):v=.bool b:=by obtain⟨vs,hc,hr⟩:=h;simp only[Cut,bj,cy]at hc;subst hc;obtain⟨f1,f2,rfl,h1,_⟩:=hr;exact h1.1
theorem fO {x:AC}(h:iu c v (.val false [x]) fp):jh c v x fp:=by obtain⟨vs,hc,hr⟩:=h;simp only[Cut,bj,cy]at hc;subst hc;obtain⟨f1,f2,rfl,h1,h2⟩:=hr;cases h2;simpa using h1
theorem oc {x:AC}(h:jh c v x fp):iu c v (.one x) fp:=⟨[v],by simp[Cut],fp,[],by simp,h,rfl⟩
theorem ael {an:An}{o:Oper}(ho:o.op=.move x)(h:pT C st a w){K:AS->aC R}(hk:DT an o x st K=some r):ox P C o a w K r:=by
 have fG:(execOp a.eval o).run P w=.ok (.value (a.eval x)) w:=by simp[execOp,ho]
 unfold DT at hk;cases hd:o.dst with|none=>rw[hd]at hk;cases hk|some d=>rw[hd]at hk;simp only at hk;split at hk;obtain⟨g,h⟩:=h;obtain⟨g',h'⟩:=h.take x;refine⟨_,_,_,.inl fG,?_,hk⟩;rw[hd];exact eX.EJ h' (some d);refine⟨_,_,_,.inl fG,?_,hk⟩;rw[hd];exact h.put (some d) (λg hg=>hg.rd x)
theorem aj2 (c:RC)(e:CT):jh c (.slice none 0 0) (.sl (.own none) e []) []:=⟨⟨_,rfl,.inl ⟨⟨_,rfl⟩,rfl,rfl⟩⟩,by simp⟩
theorem VF {E:Env}{an:An}{o:Oper}(ho:o.op=.assign x)(h:pT C st a w){K:AS->aC R}(hk:wx E an o x st K=some r):ox P C o a w K r:=by
 have fG:(execOp a.eval o).run P w=.ok (.value (a.eval x)) w:=by simp[execOp,ho]
 unfold wx at hk;split at hk;rename_i cc uz;have hv:a.eval x=.slice none 0 0:=by obtain⟨g,hg⟩:=h;obtain⟨g',pQ⟩:=hg.take x;rw[uz]at pQ;obtain⟨fp,hr,_⟩:=pQ.hands 0 _ _ rfl;exact(fO hr).1
 split at hk;rename_i e _;refine⟨_,_,_,.inl fG,?_,hk⟩;rw[hv];cases aou an o with|true=>exact h.put o.dst (λg hg=>oc ⟨rfl,rfl⟩)|false=>exact h.put o.dst (λg hg=>oc (aj2 _ e))
 cases hk;rename_i v cc Ec uz;obtain⟨g,h⟩:=h;obtain⟨g',h'⟩:=h.take x;rw[uz]at h';refine⟨_,_,_,.inl fG,?_,hk⟩;exact eX.EJ h' o.dst
theorem aeI {o:Oper}{c y:Operand}(ho:o.op=.pick c x y)(h:pT C st a w){K:AS->aC R}(hk:Ge o c x y st K=some r):ox P C o a w K r:=by
 unfold Ge at hk;split at hk;rename_i t hc;obtain⟨g,hg⟩:=id h;have hb:=hg.rd c;rw[hc]at hb;have hcv:=xf hb;have fG:(execOp a.eval o).run P w=.ok (.value (if t then a.eval x else a.eval y)) w:=by simp[execOp,ho,hcv,asBool]
 split at hk;rename_i p q hx hy;have wu:=hg.rd x;have Sb:=hg.rd y;rw[hx]at wu;rw[hy]at Sb;refine⟨_,_,_,.inl fG,?_,hk⟩;refine h.put o.dst (λg' pQ=>oc ⟨?_,rfl⟩);rw[xf wu,xf Sb];cases t<;>rfl;cases t with|true=>exact⟨_,_,_,.inl fG,h.put o.dst (λg' pQ=>pQ.rd x),hk⟩|false=>exact⟨_,_,_,.inl fG,h.put o.dst (λg' pQ=>pQ.rd y),hk⟩
 cases hk
theorem eX.ahH {g:Gh}{hs:az (Value×AV)}(h:eX C g st a w hs)(d:Nat){cs:az AC}{arr:Array Value}(IG:nth st.boxes d=some none)(hr:bT ⟨λb=>if b=w.heap.size then 0 else g.hw b,λt=>if t=d then w.heap.size else g.β t,C.A,g.hdr,oz st,st.ep,ky st,w.alloc (.cells arr T)⟩ arr.toList cs fp)(hn:fp.Nodup)(Fh:∀b∈fp,eM (g.fL b)): pT C ((st.fU d (some cs)).put (some d) (.one (.ptr d 0))) (a.put (some d) (.pointer (some ⟨w.heap.size,0,none⟩))) (w.alloc (.cells arr T)):=by
 rw[eT]at IG;have iz:∀b∈fp,b<w.heap.size:=by intro b hb;have hh:=Fh b hb;cases hx:g.fL b with|none=>rw[hx]at hh;cases hh|some x=>exact(h.iw b x hx).1
 obtain⟨g',KS,h'⟩:=h.YZ d (cs:=cs) (arr:=arr) (T:=T) (fr:=(0,0)) (fp:=fp) (w':=w.alloc (.cells arr T)) (bnew:=w.heap.size) (hw':=λb=>if b=w.heap.size then 0 else g.hw b) (.inr ⟨aX _,IG⟩) (Fr.alloc _ _ _) (heap_alloc_new w _) (by intro j _;simp) (by simp) (by simp) (λb x hx _ Ec=>by simp[Ec]) (λb o u ho hu=>by have hb:b<w.heap.size:=World.block_lt_of_cell? w _ hu;exact⟨by simp[jo hb];exact ho,by rw[World.cell?_alloc_lt w _ _ hb];exact hu⟩) hr hn (λhm=>Nat.lt_irrefl _ (iz _ hm)) (λb hb=>⟨by have:=iz b hb;simp;omega,.inl (Fh b hb)⟩);have hd:d<st.boxes.length:=(aB.1 IG).1;exact⟨g',h'.quiet (some d) (oc ⟨by simp[dp,KS],⟨cs,by rw[lS];simp[hd]⟩,rfl⟩)⟩
theorem YQ {E:Env}(hE:kJ P E.ty){o:Oper}(ho:o.op=.alloc T)(h:pT C st a w){K:AS->aC R}(hk:Ef E o T st K=some r):ox P C o a w K r:=by
 unfold Ef at hk;split at hk;rename_i d sh hd hT;split at hk;rename_i IG;obtain⟨i,z,hi,wq,_,hz,hzc⟩:=(hE T sh hT).elem.info;have fG:(execOp a.eval o).run P w=.ok (.value (.pointer (some ⟨w.heap.size,0,none⟩))) (w.alloc (.cells z.cells T)):=by simp[execOp,ho,Instr.alloc,zeroValue,typeInfo,hi,hz,newVar,newRow]
 obtain⟨g,hg⟩:=h;refine⟨_,_,_,.inl fG,?_,hk⟩;rw[hd];refine hg.ahH d (fp:=[]) IG ?_ (by simp) (by simp);rw[hzc];exact BJ (GI _ _ _);cases hk;cases hk
theorem KB {g:Bool}{vs:jT}(hv:Cut g v vs)(h1:∀u∈vs,u.oneCell'=true):v.cells.toList=vs:=by unfold Cut at hv;cases g with|true=>simp at hv;subst hv;simp[Value.cells]|false=>simp at hv;subst hv;have:=h1 v (by simp);cases v<;>simp[Value.cells,Value.oneCell']at this⊢
theorem afO {o:Oper}(ho:o.op=.box T x)(h:pT C st a w){K:AS->aC R}(hk:Tz o x st K=some r):ox P C o a w K r:=by
 unfold Tz at hk;split at hk;rename_i d gg cs cc hd uz;split at hk;rename_i IG;split at hk;rename_i ahd;obtain⟨g,hg⟩:=h;obtain⟨g',pQ⟩:=hg.take x;rw[uz]at pQ;obtain⟨fp,⟨vs,gJ,hr⟩,hn,hl⟩:=pQ.hands 0 _ _ rfl;have h1:=hr.oI ahd;have C8:=KB gJ h1;have fG:(execOp a.eval o).run P w=.ok (.value (.pointer (some ⟨w.heap.size,0,none⟩))) (w.alloc (.cells (a.eval x).cells T)):=by simp[execOp,ho,Instr.box,newVar,newRow]
 refine⟨_,_,_,.inl fG,?_,hk⟩;rw[hd];refine pQ.ahH d (fp:=fp) IG ?_ hn (λb hb=>by rw[hl b hb];rfl);rw[C8];rw[eT]at IG;refine hr.mono ?_ (λb hb=>?_);refine⟨rfl,λ_ ht=>⟨ht,rfl⟩,λ_ b o u _ hu=>Bz (Fr.alloc _ _ _) hu,aX _,λs hs=>⟨hs,?_⟩,λ_ b o u ho hu=>?_⟩;obtain⟨c0,Vq⟩:=hs;have hsd:s≠d:=by rintro rfl;rw[IG]at Vq;cases Vq
 simp[hsd,dp];have hb:b<w.heap.size:=World.block_lt_of_cell? w _ hu;exact⟨by simp[jo hb];exact ho,Bz (Fr.alloc _ _ _) hu⟩;have iB:b<w.heap.size:=(pQ.iw b _ (hl b hb)).1;exact⟨heap_alloc_old w _ b iB,by simp[jo iB,dp]⟩;cases hk;cases hk;cases hk
end Go.Dn
