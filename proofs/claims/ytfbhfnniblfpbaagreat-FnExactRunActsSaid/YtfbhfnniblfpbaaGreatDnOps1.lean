import Derived.Test.YtfbhfnniblfpbaaGreatDnMem
/- One operation after another: what the abstract step says, the model's run does. Part 1: slots and boxes. -/
namespace Go.Dn
open Go.RowKit
variable {P:Program} {C:Ctx} {st:AS} {a:Act} {w:World} {R:Type} {r:R}
variable {x:Operand} {c:RC} {T:TypeId} {fp:dX}
def nb (P:Program)(C:Ctx)(o:Oper)(a:Act)(w:World)(K:AS->au R)(r:R):Prop:=
 ∃v w' st',((execOp a.eval o).run P w=.ok (.value v) w'\/(v=undef/\(execOp a.eval o).run P w=.ok .skip w'))/\nv C st' (a.put o.dst v) w'/\K st'=some r
theorem nv.put (h:nv C st a w)(d:au Nat){v:Value}{av:AV}(hr:∀g,dx C g st a w []->fL (cy C g st w) v av []): nv C (st.put d av) (a.put d v) w:=by obtain⟨g,h⟩:=h;exact⟨g,h.quiet d (hr g h)⟩
theorem nv.grow (h:nv C st a w){w':World}(hf:Fr (λ_=>False) w w'):nv C st a w':=by obtain⟨g,h⟩:=h;exact⟨g,h.grow hf⟩
theorem UA (x:Operand):(st.take x).2.ep=st.ep:=by cases x<;>simp[AS.take,Lv]
theorem dx.FC {g:Gh}{v:Value}{av:AV}(h:dx C g st a w [(v,av)])(d:au Nat):nv C (st.put d av) (a.put d v) w:=by obtain⟨fp,hr,hn,hl⟩:=h.hands 0 v av rfl;exact h.Pz d rfl rfl rfl rfl (λt ht=>⟨ht,rfl⟩) (Fr.refl _ _) (λ_ _ _ _=>rfl) (λ_ _ _ ho hu=>⟨ho,hu⟩) hr hn (λb hb=>⟨(h.fB b _ (hl b hb)).1,.inl (by rw[hl b hb];rfl)⟩)
theorem iT {v:Value}{k:IntKind}{n:Int}(h:fL c v (.val false [.int k n]) fp):v=.int k n:=by obtain⟨vs,hc,hr⟩:=h;simp only[Cut,aY,cc]at hc;subst hc;obtain⟨f1,f2,rfl,h1,_⟩:=hr;exact h1.1
theorem xl {v:Value}{b:Bool}(h:fL c v (.val false [.bool b]) fp):v=.bool b:=by obtain⟨vs,hc,hr⟩:=h;simp only[Cut,aY,cc]at hc;subst hc;obtain⟨f1,f2,rfl,h1,_⟩:=hr;exact h1.1
theorem dU {v:Value}{x:AC}(h:fL c v (.val false [x]) fp):gM c v x fp:=by obtain⟨vs,hc,hr⟩:=h;simp only[Cut,aY,cc]at hc;subst hc;obtain⟨f1,f2,rfl,h1,h2⟩:=hr;cases h2;simpa using h1
theorem mO {v:Value}{x:AC}(h:gM c v x fp):fL c v (.one x) fp:=⟨[v],by simp[Cut],fp,[],by simp,h,rfl⟩
theorem ach {an:An}{o:Oper}(ho:o.op=.move x)(h:nv C st a w){K:AS->au R}(hk:Ew an o x st K=some r):nb P C o a w K r:=by
 have dJ:(execOp a.eval o).run P w=.ok (.value (a.eval x)) w:=by simp[execOp,ho]
 unfold Ew at hk;cases hd:o.dst with|none=>rw[hd]at hk;cases hk|some d=>rw[hd]at hk;simp only at hk;split at hk;obtain⟨g,h⟩:=h;obtain⟨g',h'⟩:=h.take x;refine⟨_,_,_,.inl dJ,?_,hk⟩;rw[hd];exact dx.FC h' (some d);refine⟨_,_,_,.inl dJ,?_,hk⟩;rw[hd];exact h.put (some d) (λg hg=>hg.rd x)
theorem agZ (c:RC)(e:CT):gM c (.slice none 0 0) (.sl (.own none) e []) []:=⟨⟨_,rfl,.inl ⟨⟨_,rfl⟩,rfl,rfl⟩⟩,by simp⟩
theorem U0 {E:Env}{an:An}{o:Oper}(ho:o.op=.assign x)(h:nv C st a w){K:AS->au R}(hk:vV E an o x st K=some r):nb P C o a w K r:=by
 have dJ:(execOp a.eval o).run P w=.ok (.value (a.eval x)) w:=by simp[execOp,ho]
 unfold vV at hk;split at hk;rename_i st' tF;have hv:a.eval x=.slice none 0 0:=by obtain⟨g,hg⟩:=h;obtain⟨g',na⟩:=hg.take x;rw[tF]at na;obtain⟨fp,hr,_⟩:=na.hands 0 _ _ rfl;exact(dU hr).1
 split at hk;rename_i e _;refine⟨_,_,_,.inl dJ,?_,hk⟩;rw[hv];cases ajI an o with|true=>exact h.put o.dst (λg hg=>mO ⟨rfl,rfl⟩)|false=>exact h.put o.dst (λg hg=>mO (agZ _ e))
 cases hk;rename_i v st' E4 tF;obtain⟨g,h⟩:=h;obtain⟨g',h'⟩:=h.take x;rw[tF]at h';refine⟨_,_,_,.inl dJ,?_,hk⟩;exact dx.FC h' o.dst
theorem acK {o:Oper}{c y:Operand}(ho:o.op=.pick c x y)(h:nv C st a w){K:AS->au R}(hk:Hv o c x y st K=some r):nb P C o a w K r:=by
 unfold Hv at hk;split at hk;rename_i t hc;obtain⟨g,hg⟩:=id h;have hb:=hg.rd c;rw[hc]at hb;have hcv:=xl hb;have dJ:(execOp a.eval o).run P w=.ok (.value (if t then a.eval x else a.eval y)) w:=by simp[execOp,ho,hcv,asBool]
 split at hk;rename_i p q hx hy;have vT:=hg.rd x;have RK:=hg.rd y;rw[hx]at vT;rw[hy]at RK;refine⟨_,_,_,.inl dJ,?_,hk⟩;refine h.put o.dst (λg' na=>mO ⟨?_,rfl⟩);rw[xl vT,xl RK];cases t<;>rfl;cases t with|true=>exact⟨_,_,_,.inl dJ,h.put o.dst (λg' na=>na.rd x),hk⟩|false=>exact⟨_,_,_,.inl dJ,h.put o.dst (λg' na=>na.rd y),hk⟩
 cases hk
theorem dx.afg {g:Gh}{hs:aq (Value×AV)}(h:dx C g st a w hs)(d:Nat){cs:aq AC}{arr:Array Value}(JT:nth st.boxes d=some none)(hr:bn ⟨λb=>if b=w.heap.size then 0 else g.hw b,λt=>if t=d then w.heap.size else g.β t,C.A,g.hdr,lL st,st.ep,gA st,w.alloc (.cells arr T)⟩ arr.toList cs fp)(hn:fp.Nodup)(C1:∀b∈fp,cY (g.dK b)): nv C ((st.eG d (some cs)).put (some d) (.one (.ptr d 0))) (a.put (some d) (.pointer (some ⟨w.heap.size,0,none⟩))) (w.alloc (.cells arr T)):=by
 rw[dB]at JT;have gV:∀b∈fp,b<w.heap.size:=by intro b hb;have hh:=C1 b hb;cases hx:g.dK b with|none=>rw[hx]at hh;cases hh|some x=>exact(h.fB b x hx).1
 obtain⟨g',Jx,h'⟩:=h.XV d (cs:=cs) (arr:=arr) (T:=T) (fr:=(0,0)) (fp:=fp) (w':=w.alloc (.cells arr T)) (bnew:=w.heap.size) (hw':=λb=>if b=w.heap.size then 0 else g.hw b) (.inr ⟨aR _,JT⟩) (Fr.alloc _ _ _) (heap_alloc_new w _) (by intro j _;simp) (by simp) (by simp) (λb x hx _ E4=>by simp[E4]) (λb o u ho hu=>by have hb:b<w.heap.size:=World.block_lt_of_cell? w _ hu;exact⟨by simp[gW hb];exact ho,by rw[World.cell?_alloc_lt w _ _ hb];exact hu⟩) hr hn (λhm=>nz _ (gV _ hm)) (λb hb=>⟨by have:=gV b hb;simp;omega,.inl (C1 b hb)⟩);have hd:d<st.boxes.length:=(aD.1 JT).1;exact⟨g',h'.quiet (some d) (mO ⟨by simp[cy,Jx],⟨cs,by rw[kx];simp[hd]⟩,rfl⟩)⟩
theorem XN {E:Env}(hE:js P E.ty){o:Oper}(ho:o.op=.alloc T)(h:nv C st a w){K:AS->au R}(hk:EO E o T st K=some r):nb P C o a w K r:=by
 unfold EO at hk;split at hk;rename_i d sh hd hT;split at hk;rename_i JT;obtain⟨i,z,hi,tw,_,hz,hzc⟩:=(hE T sh hT).elem.info;have dJ:(execOp a.eval o).run P w=.ok (.value (.pointer (some ⟨w.heap.size,0,none⟩))) (w.alloc (.cells z.cells T)):=by simp[execOp,ho,Instr.alloc,zeroValue,typeInfo,hi,hz,newVar,newRow]
 obtain⟨g,hg⟩:=h;refine⟨_,_,_,.inl dJ,?_,hk⟩;rw[hd];refine hg.afg d (fp:=[]) JT ?_ (by simp) (by simp);rw[hzc];exact sE (HP _ _ _);cases hk;cases hk
theorem Lt {g:Bool}{v:Value}{vs:ie}(hv:Cut g v vs)(h1:∀u∈vs,u.oneCell'=true):v.cells.toList=vs:=by unfold Cut at hv;cases g with|true=>simp at hv;subst hv;simp[Value.cells]|false=>simp at hv;subst hv;have:=h1 v (by simp);cases v<;>simp[Value.cells,Value.oneCell']at this⊢
theorem adG {o:Oper}(ho:o.op=.box T x)(h:nv C st a w){K:AS->au R}(hk:SY o x st K=some r):nb P C o a w K r:=by
 unfold SY at hk;split at hk;rename_i d gg cs st' hd tF;split at hk;rename_i JT;split at hk;rename_i aeC;obtain⟨g,hg⟩:=h;obtain⟨g',na⟩:=hg.take x;rw[tF]at na;obtain⟨fp,⟨vs,eh,hr⟩,hn,hl⟩:=na.hands 0 _ _ rfl;have h1:=hr.np aeC;have DS:=Lt eh h1;have dJ:(execOp a.eval o).run P w=.ok (.value (.pointer (some ⟨w.heap.size,0,none⟩))) (w.alloc (.cells (a.eval x).cells T)):=by simp[execOp,ho,Instr.box,newVar,newRow]
 refine⟨_,_,_,.inl dJ,?_,hk⟩;rw[hd];refine na.afg d (fp:=fp) JT ?_ hn (λb hb=>by rw[hl b hb];rfl);rw[DS];rw[dB]at JT;refine hr.mono ?_ (λb hb=>?_);refine⟨rfl,λ_ ht=>⟨ht,rfl⟩,λ_ b o u _ hu=>BJ (Fr.alloc _ _ _) hu,aR _,λs hs=>⟨hs,?_⟩,λ_ b o u ho hu=>?_⟩;obtain⟨c0,Xy⟩:=hs;have hsd:s≠d:=by rintro rfl;rw[JT]at Xy;cases Xy
 simp[hsd,cy];have hb:b<w.heap.size:=World.block_lt_of_cell? w _ hu;exact⟨by simp[gW hb];exact ho,BJ (Fr.alloc _ _ _) hu⟩;have gL:b<w.heap.size:=(na.fB b _ (hl b hb)).1;exact⟨heap_alloc_old w _ b gL,by simp[gW gL,cy]⟩;cases hk;cases hk;cases hk
end Go.Dn
