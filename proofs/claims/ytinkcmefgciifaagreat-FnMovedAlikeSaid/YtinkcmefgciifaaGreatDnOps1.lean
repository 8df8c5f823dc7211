import Derived.Test.YtinkcmefgciifaaGreatDnMem
/- One operation after another: what the abstract step says, the model's run does. Part 1: slots and boxes. -/
namespace Go.Dn
open Go.RowKit
variable {P:Program} {C:Ctx} {st:AS} {a:Act} {w:World} {R:Type} {r:R}
variable {x:Operand} {c:RC} {T:TypeId} {v:Value} {fp:fy}
def mz (P:Program)(C:Ctx)(o:Oper)(a:Act)(w:World)(K:AS->ay R)(r:R):Prop:=
 ∃v w' bN,((execOp a.eval o).run P w=.ok (.value v) w'\/(v=undef/\(execOp a.eval o).run P w=.ok .skip w'))/\ij C bN (a.put o.dst v) w'/\K bN=some r
theorem ij.put (h:ij C st a w)(d:ay Nat){av:AV}(hr:∀g,dP C g st a w []->fX (cM C g st w) v av []): ij C (st.put d av) (a.put d v) w:=by obtain⟨g,h⟩:=h;exact⟨g,h.quiet d (hr g h)⟩
theorem ij.grow (h:ij C st a w){w':World}(hf:Fr (λ_=>False) w w'):ij C st a w':=by obtain⟨g,h⟩:=h;exact⟨g,h.grow hf⟩
theorem QE (x:Operand):(st.take x).2.ep=st.ep:=by cases x<;>simp[AS.take,Hq]
theorem dP.Bw {g:Gh}{av:AV}(h:dP C g st a w [(v,av)])(d:ay Nat):ij C (st.put d av) (a.put d v) w:=by obtain⟨fp,hr,hn,hl⟩:=h.hands 0 v av rfl;exact h.LB d rfl rfl rfl rfl (λt ht=>⟨ht,rfl⟩) (Fr.refl _ _) (λ_ _ _ _=>rfl) (λ_ _ _ ho hu=>⟨ho,hu⟩) hr hn (λb hb=>⟨(h.fY b _ (hl b hb)).1,.inl (by rw[hl b hb];rfl)⟩)
theorem iQ {k:IntKind}{n:Int}(h:fX c v (.val false [.int k n]) fp):v=.int k n:=by obtain⟨vs,hc,hr⟩:=h;simp only[Cut,aY,bW]at hc;subst hc;obtain⟨f1,f2,rfl,h1,_⟩:=hr;exact h1.1
theorem uv {b:Bool}(h:fX c v (.val false [.bool b]) fp):v=.bool b:=by obtain⟨vs,hc,hr⟩:=h;simp only[Cut,aY,bW]at hc;subst hc;obtain⟨f1,f2,rfl,h1,_⟩:=hr;exact h1.1
theorem eC {x:AC}(h:fX c v (.val false [x]) fp):gK c v x fp:=by obtain⟨vs,hc,hr⟩:=h;simp only[Cut,aY,bW]at hc;subst hc;obtain⟨f1,f2,rfl,h1,h2⟩:=hr;cases h2;simpa using h1
theorem mq {x:AC}(h:gK c v x fp):fX c v (.one x) fp:=⟨[v],by simp[Cut],fp,[],by simp,h,rfl⟩
theorem Z9 {an:An}{o:Oper}(ho:o.op=.move x)(h:ij C st a w){K:AS->ay R}(hk:AI an o x st K=some r):mz P C o a w K r:=by
 have ed:(execOp a.eval o).run P w=.ok (.value (a.eval x)) w:=by simp[execOp,ho]
 unfold AI at hk;cases hd:o.dst with|none=>rw[hd]at hk;cases hk|some d=>rw[hd]at hk;simp only at hk;split at hk;obtain⟨g,h⟩:=h;obtain⟨g',h'⟩:=h.take x;refine⟨_,_,_,.inl ed,?_,hk⟩;rw[hd];exact dP.Bw h' (some d);refine⟨_,_,_,.inl ed,?_,hk⟩;rw[hd];exact h.put (some d) (λg hg=>hg.rd x)
theorem afU (c:RC)(e:CT):gK c (.slice none 0 0) (.sl (.own none) e []) []:=⟨⟨_,rfl,.inl ⟨⟨_,rfl⟩,rfl,rfl⟩⟩,by simp⟩
theorem QY {E:Env}{an:An}{o:Oper}(ho:o.op=.assign x)(h:ij C st a w){K:AS->ay R}(hk:tJ E an o x st K=some r):mz P C o a w K r:=by
 have ed:(execOp a.eval o).run P w=.ok (.value (a.eval x)) w:=by simp[execOp,ho]
 unfold tJ at hk;split at hk;rename_i bN rK;have hv:a.eval x=.slice none 0 0:=by obtain⟨g,hg⟩:=h;obtain⟨g',nE⟩:=hg.take x;rw[rK]at nE;obtain⟨fp,hr,_⟩:=nE.hands 0 _ _ rfl;exact(eC hr).1
 split at hk;rename_i e _;refine⟨_,_,_,.inl ed,?_,hk⟩;rw[hv];cases akr an o with|true=>exact h.put o.dst (λg hg=>mq ⟨rfl,rfl⟩)|false=>exact h.put o.dst (λg hg=>mq (afU _ e))
 cases hk;rename_i v bN Al rK;obtain⟨g,h⟩:=h;obtain⟨g',h'⟩:=h.take x;rw[rK]at h';refine⟨_,_,_,.inl ed,?_,hk⟩;exact dP.Bw h' o.dst
theorem aau {o:Oper}{c y:Operand}(ho:o.op=.pick c x y)(h:ij C st a w){K:AS->ay R}(hk:CV o c x y st K=some r):mz P C o a w K r:=by
 unfold CV at hk;split at hk;rename_i t hc;obtain⟨g,hg⟩:=id h;have hb:=hg.rd c;rw[hc]at hb;have hcv:=uv hb;have ed:(execOp a.eval o).run P w=.ok (.value (if t then a.eval x else a.eval y)) w:=by simp[execOp,ho,hcv,asBool]
 split at hk;rename_i p q hx hy;have tI:=hg.rd x;have NI:=hg.rd y;rw[hx]at tI;rw[hy]at NI;refine⟨_,_,_,.inl ed,?_,hk⟩;refine h.put o.dst (λg' nE=>mq ⟨?_,rfl⟩);rw[uv tI,uv NI];cases t<;>rfl;cases t with|true=>exact⟨_,_,_,.inl ed,h.put o.dst (λg' nE=>nE.rd x),hk⟩|false=>exact⟨_,_,_,.inl ed,h.put o.dst (λg' nE=>nE.rd y),hk⟩
 cases hk
theorem dP.adz {g:Gh}{hs:ax (Value×AV)}(h:dP C g st a w hs)(d:Nat){cs:ax AC}{arr:Array Value}(Fm:nth st.boxes d=some none)(hr:bD ⟨λb=>if b=w.heap.size then 0 else g.hw b,λt=>if t=d then w.heap.size else g.β t,C.A,g.hdr,mC st,st.ep,jb st,w.alloc (.cells arr T)⟩ arr.toList cs fp)(hn:fp.Nodup)(BU:∀b∈fp,dG (g.ej b)): ij C ((st.eI d (some cs)).put (some d) (.one (.ptr d 0))) (a.put (some d) (.pointer (some ⟨w.heap.size,0,none⟩))) (w.alloc (.cells arr T)):=by
 rw[dK]at Fm;have gY:∀b∈fp,b<w.heap.size:=by intro b hb;have hh:=BU b hb;cases hx:g.ej b with|none=>rw[hx]at hh;cases hh|some x=>exact(h.fY b x hx).1
 obtain⟨g',Hz,h'⟩:=h.Uo d (cs:=cs) (arr:=arr) (T:=T) (fr:=(0,0)) (fp:=fp) (w':=w.alloc (.cells arr T)) (bnew:=w.heap.size) (hw':=λb=>if b=w.heap.size then 0 else g.hw b) (.inr ⟨aS _,Fm⟩) (Fr.alloc _ _ _) (heap_alloc_new w _) (by intro j _;simp) (by simp) (by simp) (λb x hx _ Al=>by simp[Al]) (λb o u ho hu=>by have hb:b<w.heap.size:=World.block_lt_of_cell? w _ hu;exact⟨by simp[gR hb];exact ho,by rw[World.cell?_alloc_lt w _ _ hb];exact hu⟩) hr hn (λhm=>Nat.lt_irrefl _ (gY _ hm)) (λb hb=>⟨by have:=gY b hb;simp;omega,.inl (BU b hb)⟩);have hd:d<st.boxes.length:=(aG.1 Fm).1;exact⟨g',h'.quiet (some d) (mq ⟨by simp[cM,Hz],⟨cs,by rw[jY];simp[hd]⟩,rfl⟩)⟩
theorem Ue {E:Env}(hE:jk P E.ty){o:Oper}(ho:o.op=.alloc T)(h:ij C st a w){K:AS->ay R}(hk:AY E o T st K=some r):mz P C o a w K r:=by
 unfold AY at hk;split at hk;rename_i d sh hd hT;split at hk;rename_i Fm;obtain⟨i,z,hi,tH,_,hz,hzc⟩:=(hE T sh hT).elem.info;have ed:(execOp a.eval o).run P w=.ok (.value (.pointer (some ⟨w.heap.size,0,none⟩))) (w.alloc (.cells z.cells T)):=by simp[execOp,ho,Instr.alloc,zeroValue,typeInfo,hi,hz,newVar,newRow]
 obtain⟨g,hg⟩:=h;refine⟨_,_,_,.inl ed,?_,hk⟩;rw[hd];refine hg.adz d (fp:=[]) Fm ?_ (by simp) (by simp);rw[hzc];exact yt (Dk _ _ _);cases hk;cases hk
theorem Hn {g:Bool}{vs:iG}(hv:Cut g v vs)(h1:∀u∈vs,u.oneCell'=true):v.cells.toList=vs:=by unfold Cut at hv;cases g with|true=>simp at hv;subst hv;simp[Value.cells]|false=>simp at hv;subst hv;have:=h1 v (by simp);cases v<;>simp[Value.cells,Value.oneCell']at this⊢
theorem abF {o:Oper}(ho:o.op=.box T x)(h:ij C st a w){K:AS->ay R}(hk:OO o x st K=some r):mz P C o a w K r:=by
 unfold OO at hk;split at hk;rename_i d gg cs bN hd rK;split at hk;rename_i Fm;split at hk;rename_i acZ;obtain⟨g,hg⟩:=h;obtain⟨g',nE⟩:=hg.take x;rw[rK]at nE;obtain⟨fp,⟨vs,fj,hr⟩,hn,hl⟩:=nE.hands 0 _ _ rfl;have h1:=hr.mN acZ;have Aa:=Hn fj h1;have ed:(execOp a.eval o).run P w=.ok (.value (.pointer (some ⟨w.heap.size,0,none⟩))) (w.alloc (.cells (a.eval x).cells T)):=by simp[execOp,ho,Instr.box,newVar,newRow]
 refine⟨_,_,_,.inl ed,?_,hk⟩;rw[hd];refine nE.adz d (fp:=fp) Fm ?_ hn (λb hb=>by rw[hl b hb];rfl);rw[Aa];rw[dK]at Fm;refine hr.mono ?_ (λb hb=>?_);refine⟨rfl,λ_ ht=>⟨ht,rfl⟩,λ_ b o u _ hu=>yl (Fr.alloc _ _ _) hu,aS _,λs hs=>⟨hs,?_⟩,λ_ b o u ho hu=>?_⟩;obtain⟨c0,T1⟩:=hs;have hsd:s≠d:=by rintro rfl;rw[Fm]at T1;cases T1
 simp[hsd,cM];have hb:b<w.heap.size:=World.block_lt_of_cell? w _ hu;exact⟨by simp[gR hb];exact ho,yl (Fr.alloc _ _ _) hu⟩;have gX:b<w.heap.size:=(nE.fY b _ (hl b hb)).1;exact⟨heap_alloc_old w _ b gX,by simp[gR gX,cM]⟩;cases hk;cases hk;cases hk
end Go.Dn
