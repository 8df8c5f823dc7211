import Derived.Test.YtfbhfnniblfpbaaGreatDnMem
/- One operation after another: what the abstract step says, the model's run does. Part 1: slots and boxes. -/
namespace Go.Dn
open Go.RowKit
variable {P:Program} {C:Ctx} {st:AS} {a:Act} {w:World} {R:Type} {r:R}
variable {x:Operand} {c:RC} {T:TypeId} {fp:eo}
def mW (P:Program)(C:Ctx)(o:Oper)(a:Act)(w:World)(K:AS->ax R)(r:R):Prop:=
 ∃v w' bM,((execOp a.eval o).run P w=.ok (.value v) w'\/(v=undef/\(execOp a.eval o).run P w=.ok .skip w'))/\oz C bM (a.put o.dst v) w'/\K bM=some r
theorem oz.put (h:oz C st a w)(d:ax Nat){v:Value}{av:AV}(hr:∀g,dN C g st a w []->fF (cQ C g st w) v av []): oz C (st.put d av) (a.put d v) w:=by obtain⟨g,h⟩:=h;exact⟨g,h.quiet d (hr g h)⟩
theorem oz.grow (h:oz C st a w){w':World}(hf:Fr (λ_=>False) w w'):oz C st a w':=by obtain⟨g,h⟩:=h;exact⟨g,h.grow hf⟩
theorem Ts (x:Operand):(st.take x).2.ep=st.ep:=by cases x<;>simp[AS.take,Kf]
theorem dN.Ea {g:Gh}{v:Value}{av:AV}(h:dN C g st a w [(v,av)])(d:ax Nat):oz C (st.put d av) (a.put d v) w:=by obtain⟨fp,hr,hn,hl⟩:=h.hands 0 v av rfl;exact h.On d rfl rfl rfl rfl (λt ht=>⟨ht,rfl⟩) (Fr.refl _ _) (λ_ _ _ _=>rfl) (λ_ _ _ ho hu=>⟨ho,hu⟩) hr hn (λb hb=>⟨(h.fR b _ (hl b hb)).1,.inl (by rw[hl b hb];rfl)⟩)
theorem iT {v:Value}{k:IntKind}{n:Int}(h:fF c v (.val false [.int k n]) fp):v=.int k n:=by obtain⟨vs,hc,hr⟩:=h;simp only[Cut,aX,cc]at hc;subst hc;obtain⟨f1,f2,rfl,h1,_⟩:=hr;exact h1.1
theorem wE {v:Value}{b:Bool}(h:fF c v (.val false [.bool b]) fp):v=.bool b:=by obtain⟨vs,hc,hr⟩:=h;simp only[Cut,aX,cc]at hc;subst hc;obtain⟨f1,f2,rfl,h1,_⟩:=hr;exact h1.1
theorem ew {v:Value}{x:AC}(h:fF c v (.val false [x]) fp):gE c v x fp:=by obtain⟨vs,hc,hr⟩:=h;simp only[Cut,aX,cc]at hc;subst hc;obtain⟨f1,f2,rfl,h1,h2⟩:=hr;cases h2;simpa using h1
theorem mH {v:Value}{x:AC}(h:gE c v x fp):fF c v (.one x) fp:=⟨[v],by simp[Cut],fp,[],by simp,h,rfl⟩
theorem abm {an:An}{o:Oper}(ho:o.op=.move x)(h:oz C st a w){K:AS->ax R}(hk:Dp an o x st K=some r):mW P C o a w K r:=by
 have dX:(execOp a.eval o).run P w=.ok (.value (a.eval x)) w:=by simp[execOp,ho]
 unfold Dp at hk;cases hd:o.dst with|none=>rw[hd]at hk;cases hk|some d=>rw[hd]at hk;simp only at hk;split at hk;obtain⟨g,h⟩:=h;obtain⟨g',h'⟩:=h.take x;refine⟨_,_,_,.inl dX,?_,hk⟩;rw[hd];exact dN.Ea h' (some d);refine⟨_,_,_,.inl dX,?_,hk⟩;rw[hd];exact h.put (some d) (λg hg=>hg.rd x)
theorem afQ (c:RC)(e:CT):gE c (.slice none 0 0) (.sl (.own none) e []) []:=⟨⟨_,rfl,.inl ⟨⟨_,rfl⟩,rfl,rfl⟩⟩,by simp⟩
theorem TS {E:Env}{an:An}{o:Oper}(ho:o.op=.assign x)(h:oz C st a w){K:AS->ax R}(hk:vJ E an o x st K=some r):mW P C o a w K r:=by
 have dX:(execOp a.eval o).run P w=.ok (.value (a.eval x)) w:=by simp[execOp,ho]
 unfold vJ at hk;split at hk;rename_i bM tI;have hv:a.eval x=.slice none 0 0:=by obtain⟨g,hg⟩:=h;obtain⟨g',oy⟩:=hg.take x;rw[tI]at oy;obtain⟨fp,hr,_⟩:=oy.hands 0 _ _ rfl;exact(ew hr).1
 split at hk;rename_i e _;refine⟨_,_,_,.inl dX,?_,hk⟩;rw[hv];cases aiP an o with|true=>exact h.put o.dst (λg hg=>mH ⟨rfl,rfl⟩)|false=>exact h.put o.dst (λg hg=>mH (afQ _ e))
 cases hk;rename_i v bM DT tI;obtain⟨g,h⟩:=h;obtain⟨g',h'⟩:=h.take x;rw[tI]at h';refine⟨_,_,_,.inl dX,?_,hk⟩;exact dN.Ea h' o.dst
theorem abK {o:Oper}{c y:Operand}(ho:o.op=.pick c x y)(h:oz C st a w){K:AS->ax R}(hk:FG o c x y st K=some r):mW P C o a w K r:=by
 unfold FG at hk;split at hk;rename_i t hc;obtain⟨g,hg⟩:=id h;have hb:=hg.rd c;rw[hc]at hb;have hcv:=wE hb;have dX:(execOp a.eval o).run P w=.ok (.value (if t then a.eval x else a.eval y)) w:=by simp[execOp,ho,hcv,asBool]
 split at hk;rename_i p q hx hy;have vH:=hg.rd x;have QE:=hg.rd y;rw[hx]at vH;rw[hy]at QE;refine⟨_,_,_,.inl dX,?_,hk⟩;refine h.put o.dst (λg' oy=>mH ⟨?_,rfl⟩);rw[wE vH,wE QE];cases t<;>rfl;cases t with|true=>exact⟨_,_,_,.inl dX,h.put o.dst (λg' oy=>oy.rd x),hk⟩|false=>exact⟨_,_,_,.inl dX,h.put o.dst (λg' oy=>oy.rd y),hk⟩
 cases hk
theorem dN.ad4 {g:Gh}{hs:au (Value×AV)}(h:dN C g st a w hs)(d:Nat){cs:au AC}{arr:Array Value}(Ib:nth st.boxes d=some none)(hr:bE ⟨λb=>if b=w.heap.size then 0 else g.hw b,λt=>if t=d then w.heap.size else g.β t,C.A,g.hdr,mX st,st.ep,jm st,w.alloc (.cells arr T)⟩ arr.toList cs fp)(hn:fp.Nodup)(EI:∀b∈fp,dD (g.ej b)): oz C ((st.eE d (some cs)).put (some d) (.one (.ptr d 0))) (a.put (some d) (.pointer (some ⟨w.heap.size,0,none⟩))) (w.alloc (.cells arr T)):=by
 rw[dJ]at Ib;have gB:∀b∈fp,b<w.heap.size:=by intro b hb;have hh:=EI b hb;cases hx:g.ej b with|none=>rw[hx]at hh;cases hh|some x=>exact(h.fR b x hx).1
 obtain⟨g',Km,h'⟩:=h.WW d (cs:=cs) (arr:=arr) (T:=T) (fr:=(0,0)) (fp:=fp) (w':=w.alloc (.cells arr T)) (bnew:=w.heap.size) (hw':=λb=>if b=w.heap.size then 0 else g.hw b) (.inr ⟨aU _,Ib⟩) (Fr.alloc _ _ _) (heap_alloc_new w _) (by intro j _;simp) (by simp) (by simp) (λb x hx _ DT=>by simp[DT]) (λb o u ho hu=>by have hb:b<w.heap.size:=World.block_lt_of_cell? w _ hu;exact⟨by simp[gJ hb];exact ho,by rw[World.cell?_alloc_lt w _ _ hb];exact hu⟩) hr hn (λhm=>nv _ (gB _ hm)) (λb hb=>⟨by have:=gB b hb;simp;omega,.inl (EI b hb)⟩);have hd:d<st.boxes.length:=(aE.1 Ib).1;exact⟨g',h'.quiet (some d) (mH ⟨by simp[cQ,Km],⟨cs,by rw[kv];simp[hd]⟩,rfl⟩)⟩
theorem WN {E:Env}(hE:jA P E.ty){o:Oper}(ho:o.op=.alloc T)(h:oz C st a w){K:AS->ax R}(hk:DH E o T st K=some r):mW P C o a w K r:=by
 unfold DH at hk;split at hk;rename_i d sh hd hT;split at hk;rename_i Ib;obtain⟨i,z,hi,uq,_,hz,hzc⟩:=(hE T sh hT).elem.info;have dX:(execOp a.eval o).run P w=.ok (.value (.pointer (some ⟨w.heap.size,0,none⟩))) (w.alloc (.cells z.cells T)):=by simp[execOp,ho,Instr.alloc,zeroValue,typeInfo,hi,hz,newVar,newRow]
 obtain⟨g,hg⟩:=h;refine⟨_,_,_,.inl dX,?_,hk⟩;rw[hd];refine hg.ad4 d (fp:=[]) Ib ?_ (by simp) (by simp);rw[hzc];exact vw (F8 _ _ _);cases hk;cases hk
theorem Kb {g:Bool}{v:Value}{vs:ie}(hv:Cut g v vs)(h1:∀u∈vs,u.oneCell'=true):v.cells.toList=vs:=by unfold Cut at hv;cases g with|true=>simp at hv;subst hv;simp[Value.cells]|false=>simp at hv;subst hv;have:=h1 v (by simp);cases v<;>simp[Value.cells,Value.oneCell']at this⊢
theorem acP {o:Oper}(ho:o.op=.box T x)(h:oz C st a w){K:AS->ax R}(hk:RX o x st K=some r):mW P C o a w K r:=by
 unfold RX at hk;split at hk;rename_i d gg cs bM hd tI;split at hk;rename_i Ib;split at hk;rename_i adx;obtain⟨g,hg⟩:=h;obtain⟨g',oy⟩:=hg.take x;rw[tI]at oy;obtain⟨fp,⟨vs,eR,hr⟩,hn,hl⟩:=oy.hands 0 _ _ rfl;have h1:=hr.ni adx;have CJ:=Kb eR h1;have dX:(execOp a.eval o).run P w=.ok (.value (.pointer (some ⟨w.heap.size,0,none⟩))) (w.alloc (.cells (a.eval x).cells T)):=by simp[execOp,ho,Instr.box,newVar,newRow]
 refine⟨_,_,_,.inl dX,?_,hk⟩;rw[hd];refine oy.ad4 d (fp:=fp) Ib ?_ hn (λb hb=>by rw[hl b hb];rfl);rw[CJ];rw[dJ]at Ib;refine hr.mono ?_ (λb hb=>?_);refine⟨rfl,λ_ ht=>⟨ht,rfl⟩,λ_ b o u _ hu=>Bf (Fr.alloc _ _ _) hu,aU _,λs hs=>⟨hs,?_⟩,λ_ b o u ho hu=>?_⟩;obtain⟨c0,Zk⟩:=hs;have hsd:s≠d:=by rintro rfl;rw[Ib]at Zk;cases Zk
 simp[hsd,cQ];have hb:b<w.heap.size:=World.block_lt_of_cell? w _ hu;exact⟨by simp[gJ hb];exact ho,Bf (Fr.alloc _ _ _) hu⟩;have gQ:b<w.heap.size:=(oy.fR b _ (hl b hb)).1;exact⟨heap_alloc_old w _ b gQ,by simp[gJ gQ,cQ]⟩;cases hk;cases hk;cases hk
end Go.Dn
