import Derived.Test.YtbebkmajekhclaaGreatDnMem
/- One operation after another: what the abstract step says, the model's run does. Part 1: slots and boxes. -/
namespace Go.Dn
open Go.RowKit
variable {P:Program} {C:Ctx} {st:AS} {a:Act} {w:World} {R:Type} {r:R}
variable {x:Operand} {c:RC} {T:TypeId} {v:Value} {fp:fM}
def ox (P:Program)(C:Ctx)(o:Oper)(a:Act)(w:World)(K:AS->aB R)(r:R):Prop:=
 ∃v w' cj,((execOp a.eval o).run P w=.ok (.value v) w'\/(v=undef/\(execOp a.eval o).run P w=.ok .skip w'))/\qe C cj (a.put o.dst v) w'/\K cj=some r
theorem qe.put (h:qe C st a w)(d:aB Nat){av:AV}(hr:∀g,fb C g st a w []->il (dz C g st w) v av []): qe C (st.put d av) (a.put d v) w:=by obtain⟨g,h⟩:=h;exact⟨g,h.quiet d (hr g h)⟩
theorem qe.grow (h:qe C st a w){w':World}(hf:Fr (λ_=>False) w w'):qe C st a w':=by obtain⟨g,h⟩:=h;exact⟨g,h.grow hf⟩
theorem XP (x:Operand):(st.take x).2.ep=st.ep:=by cases x<;>simp[AS.take,Mf]
theorem fb.Fv {g:Gh}{av:AV}(h:fb C g st a w [(v,av)])(d:aB Nat):qe C (st.put d av) (a.put d v) w:=by obtain⟨fp,hr,hn,hl⟩:=h.hands 0 v av rfl;exact h.RL d rfl rfl rfl rfl (λt ht=>⟨ht,rfl⟩) (Fr.refl _ _) (λ_ _ _ _=>rfl) (λ_ _ _ ho hu=>⟨ho,hu⟩) hr hn (λb hb=>⟨(h.im b _ (hl b hb)).1,.inl (by rw[hl b hb];rfl)⟩)
theorem jR {k:IntKind}{n:Int}(h:il c v (.val false [.int k n]) fp):v=.int k n:=by obtain⟨vs,hc,hr⟩:=h;simp only[Cut,bm,cC]at hc;subst hc;obtain⟨f1,f2,rfl,h1,_⟩:=hr;exact h1.1
theorem yi {b:Bool}(h:il c v (.val false [.bool b]) fp):v=.bool b:=by obtain⟨vs,hc,hr⟩:=h;simp only[Cut,bm,cC]at hc;subst hc;obtain⟨f1,f2,rfl,h1,_⟩:=hr;exact h1.1
theorem fH {x:AC}(h:il c v (.val false [x]) fp):iV c v x fp:=by obtain⟨vs,hc,hr⟩:=h;simp only[Cut,bm,cC]at hc;subst hc;obtain⟨f1,f2,rfl,h1,h2⟩:=hr;cases h2;simpa using h1
theorem oo {x:AC}(h:iV c v x fp):il c v (.one x) fp:=⟨[v],by simp[Cut],fp,[],by simp,h,rfl⟩
theorem ahR {an:An}{o:Oper}(ho:o.op=.move x)(h:qe C st a w){K:AS->aB R}(hk:EM an o x st K=some r):ox P C o a w K r:=by
 have fD:(execOp a.eval o).run P w=.ok (.value (a.eval x)) w:=by simp[execOp,ho]
 unfold EM at hk;cases hd:o.dst with|none=>rw[hd]at hk;cases hk|some d=>rw[hd]at hk;simp only at hk;split at hk;obtain⟨g,h⟩:=h;obtain⟨g',h'⟩:=h.take x;refine⟨_,_,_,.inl fD,?_,hk⟩;rw[hd];exact fb.Fv h' (some d);refine⟨_,_,_,.inl fD,?_,hk⟩;rw[hd];exact h.put (some d) (λg hg=>hg.rd x)
theorem an6 (c:RC)(e:CT):iV c (.slice none 0 0) (.sl (.own none) e []) []:=⟨⟨_,rfl,.inl ⟨⟨_,rfl⟩,rfl,rfl⟩⟩,by simp⟩
theorem Yb {E:Env}{an:An}{o:Oper}(ho:o.op=.assign x)(h:qe C st a w){K:AS->aB R}(hk:xr E an o x st K=some r):ox P C o a w K r:=by
 have fD:(execOp a.eval o).run P w=.ok (.value (a.eval x)) w:=by simp[execOp,ho]
 unfold xr at hk;split at hk;rename_i cj vm;have hv:a.eval x=.slice none 0 0:=by obtain⟨g,hg⟩:=h;obtain⟨g',qb⟩:=hg.take x;rw[vm]at qb;obtain⟨fp,hr,_⟩:=qb.hands 0 _ _ rfl;exact(fH hr).1
 split at hk;rename_i e _;refine⟨_,_,_,.inl fD,?_,hk⟩;rw[hv];cases as6 an o with|true=>exact h.put o.dst (λg hg=>oo ⟨rfl,rfl⟩)|false=>exact h.put o.dst (λg hg=>oo (an6 _ e))
 cases hk;rename_i v cj Eo vm;obtain⟨g,h⟩:=h;obtain⟨g',h'⟩:=h.take x;rw[vm]at h';refine⟨_,_,_,.inl fD,?_,hk⟩;exact fb.Fv h' o.dst
theorem aih {o:Oper}{c y:Operand}(ho:o.op=.pick c x y)(h:qe C st a w){K:AS->aB R}(hk:Hd o c x y st K=some r):ox P C o a w K r:=by
 unfold Hd at hk;split at hk;rename_i t hc;obtain⟨g,hg⟩:=id h;have hb:=hg.rd c;rw[hc]at hb;have hcv:=yi hb;have fD:(execOp a.eval o).run P w=.ok (.value (if t then a.eval x else a.eval y)) w:=by simp[execOp,ho,hcv,asBool]
 split at hk;rename_i p q hx hy;have xn:=hg.rd x;have Un:=hg.rd y;rw[hx]at xn;rw[hy]at Un;refine⟨_,_,_,.inl fD,?_,hk⟩;refine h.put o.dst (λg' qb=>oo ⟨?_,rfl⟩);rw[yi xn,yi Un];cases t<;>rfl;cases t with|true=>exact⟨_,_,_,.inl fD,h.put o.dst (λg' qb=>qb.rd x),hk⟩|false=>exact⟨_,_,_,.inl fD,h.put o.dst (λg' qb=>qb.rd y),hk⟩
 cases hk
theorem fb.aly {g:Gh}{hs:aw (Value×AV)}(h:fb C g st a w hs)(d:Nat){cs:aw AC}{arr:Array Value}(H0:nth st.boxes d=some none)(hr:bV ⟨λb=>if b=w.heap.size then 0 else g.hw b,λt=>if t=d then w.heap.size else g.β t,C.A,g.hdr,oA st,st.ep,ku st,w.alloc (.cells arr T)⟩ arr.toList cs fp)(hn:fp.Nodup)(F5:∀b∈fp,eQ (g.fE b)): qe C ((st.fO d (some cs)).put (some d) (.one (.ptr d 0))) (a.put (some d) (.pointer (some ⟨w.heap.size,0,none⟩))) (w.alloc (.cells arr T)):=by
 rw[eU]at H0;have hG:∀b∈fp,b<w.heap.size:=by intro b hb;have hh:=F5 b hb;cases hx:g.fE b with|none=>rw[hx]at hh;cases hh|some x=>exact(h.im b x hx).1
 obtain⟨g',Mo,h'⟩:=h.abN d (cs:=cs) (arr:=arr) (T:=T) (fr:=(0,0)) (fp:=fp) (w':=w.alloc (.cells arr T)) (bnew:=w.heap.size) (hw':=λb=>if b=w.heap.size then 0 else g.hw b) (.inr ⟨bc _,H0⟩) (Fr.alloc _ _ _) (heap_alloc_new w _) (by intro j _;simp) (by simp) (by simp) (λb x hx _ Eo=>by simp[Eo]) (λb o u ho hu=>by have hb:b<w.heap.size:=World.block_lt_of_cell? w _ hu;exact⟨by simp[jf hb];exact ho,by rw[World.cell?_alloc_lt w _ _ hb];exact hu⟩) hr hn (λhm=>Nat.lt_irrefl _ (hG _ hm)) (λb hb=>⟨by have:=hG b hb;simp;omega,.inl (F5 b hb)⟩);have hd:d<st.boxes.length:=(ay.1 H0).1;exact⟨g',h'.quiet (some d) (oo ⟨by simp[dz,Mo],⟨cs,by rw[lM];simp[hd]⟩,rfl⟩)⟩
theorem abE {E:Env}(hE:kG P E.ty){o:Oper}(ho:o.op=.alloc T)(h:qe C st a w){K:AS->aB R}(hk:E2 E o T st K=some r):ox P C o a w K r:=by
 unfold E2 at hk;split at hk;rename_i d sh hd hT;split at hk;rename_i H0;obtain⟨i,z,hi,wI,_,hz,hzc⟩:=(hE T sh hT).elem.info;have fD:(execOp a.eval o).run P w=.ok (.value (.pointer (some ⟨w.heap.size,0,none⟩))) (w.alloc (.cells z.cells T)):=by simp[execOp,ho,Instr.alloc,zeroValue,typeInfo,hi,hz,newVar,newRow]
 obtain⟨g,hg⟩:=h;refine⟨_,_,_,.inl fD,?_,hk⟩;rw[hd];refine hg.aly d (fp:=[]) H0 ?_ (by simp) (by simp);rw[hzc];exact Cj (HG _ _ _);cases hk;cases hk
theorem Ma {g:Bool}{vs:jJ}(hv:Cut g v vs)(h1:∀u∈vs,u.oneCell'=true):v.cells.toList=vs:=by unfold Cut at hv;cases g with|true=>simp at hv;subst hv;simp[Value.cells]|false=>simp at hv;subst hv;have:=h1 v (by simp);cases v<;>simp[Value.cells,Value.oneCell']at this⊢
theorem ajr {o:Oper}(ho:o.op=.box T x)(h:qe C st a w){K:AS->aB R}(hk:VR o x st K=some r):ox P C o a w K r:=by
 unfold VR at hk;split at hk;rename_i d gg cs cj hd vm;split at hk;rename_i H0;split at hk;rename_i akT;obtain⟨g,hg⟩:=h;obtain⟨g',qb⟩:=hg.take x;rw[vm]at qb;obtain⟨fp,⟨vs,gD,hr⟩,hn,hl⟩:=qb.hands 0 _ _ rfl;have h1:=hr.oL akT;have D6:=Ma gD h1;have fD:(execOp a.eval o).run P w=.ok (.value (.pointer (some ⟨w.heap.size,0,none⟩))) (w.alloc (.cells (a.eval x).cells T)):=by simp[execOp,ho,Instr.box,newVar,newRow]
 refine⟨_,_,_,.inl fD,?_,hk⟩;rw[hd];refine qb.aly d (fp:=fp) H0 ?_ hn (λb hb=>by rw[hl b hb];rfl);rw[D6];rw[eU]at H0;refine hr.mono ?_ (λb hb=>?_);refine⟨rfl,λ_ ht=>⟨ht,rfl⟩,λ_ b o u _ hu=>Cc (Fr.alloc _ _ _) hu,bc _,λs hs=>⟨hs,?_⟩,λ_ b o u ho hu=>?_⟩;obtain⟨c0,hc0⟩:=hs;have hsd:s≠d:=by rintro rfl;rw[H0]at hc0;cases hc0
 simp[hsd,dz];have hb:b<w.heap.size:=World.block_lt_of_cell? w _ hu;exact⟨by simp[jf hb];exact ho,Cc (Fr.alloc _ _ _) hu⟩;have iy:b<w.heap.size:=(qb.im b _ (hl b hb)).1;exact⟨heap_alloc_old w _ b iy,by simp[jf iy,dz]⟩;cases hk;cases hk;cases hk
end Go.Dn
