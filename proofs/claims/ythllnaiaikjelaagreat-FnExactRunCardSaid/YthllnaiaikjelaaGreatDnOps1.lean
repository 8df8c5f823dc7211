import Derived.Test.YthllnaiaikjelaaGreatDnMem
/- One operation after another: what the abstract step says, the model's run does. Part 1: slots and boxes. -/
namespace Go.Dn
open Go.RowKit
variable {P:Program} {C:Ctx} {st:AS} {a:Act} {w:World} {R:Type} {r:R}
variable {x:Operand} {c:RC} {T:TypeId} {fp:ei}
def pa (P:Program)(C:Ctx)(o:Oper)(a:Act)(w:World)(K:AS->au R)(r:R):Prop:=
 ∃v w' st',((execOp a.eval o).run P w=.ok (.value v) w'\/(v=undef/\(execOp a.eval o).run P w=.ok .skip w'))/\pL C st' (a.put o.dst v) w'/\K st'=some r
theorem pL.put (h:pL C st a w)(d:au Nat){v:Value}{av:AV}(hr:∀g,dN C g st a w []->gj (cP C g st w) v av []): pL C (st.put d av) (a.put d v) w:=by obtain⟨g,h⟩:=h;exact⟨g,h.quiet d (hr g h)⟩
theorem pL.grow (h:pL C st a w){w':World}(hf:Fr (λ_=>False) w w'):pL C st a w':=by obtain⟨g,h⟩:=h;exact⟨g,h.grow hf⟩
theorem abj (x:Operand):(st.take x).2.ep=st.ep:=by cases x<;>simp[AS.take,RB]
theorem dN.KB {g:Gh}{v:Value}{av:AV}(h:dN C g st a w [(v,av)])(d:au Nat):pL C (st.put d av) (a.put d v) w:=by obtain⟨fp,hr,hn,hl⟩:=h.hands 0 v av rfl;exact h.V7 d rfl rfl rfl rfl (λt ht=>⟨ht,rfl⟩) (Fr.refl _ _) (λ_ _ _ _=>rfl) (λ_ _ _ ho hu=>⟨ho,hu⟩) hr hn (λb hb=>⟨(h.fW b _ (hl b hb)).1,.inl (by rw[hl b hb];rfl)⟩)
theorem jQ {v:Value}{k:IntKind}{n:Int}(h:gj c v (.val false [.int k n]) fp):v=.int k n:=by obtain⟨vs,hc,hr⟩:=h;simp only[Cut,bg,cE]at hc;subst hc;obtain⟨f1,f2,rfl,h1,_⟩:=hr;exact h1.1
theorem BM {v:Value}{b:Bool}(h:gj c v (.val false [.bool b]) fp):v=.bool b:=by obtain⟨vs,hc,hr⟩:=h;simp only[Cut,bg,cE]at hc;subst hc;obtain⟨f1,f2,rfl,h1,_⟩:=hr;exact h1.1
theorem eI {v:Value}{x:AC}(h:gj c v (.val false [x]) fp):iD c v x fp:=by obtain⟨vs,hc,hr⟩:=h;simp only[Cut,bg,cE]at hc;subst hc;obtain⟨f1,f2,rfl,h1,h2⟩:=hr;cases h2;simpa using h1
theorem oP {v:Value}{x:AC}(h:iD c v x fp):gj c v (.one x) fp:=⟨[v],by simp[Cut],fp,[],by simp,h,rfl⟩
theorem ajS {an:An}{o:Oper}(ho:o.op=.move x)(h:pL C st a w){K:AS->au R}(hk:Jn an o x st K=some r):pa P C o a w K r:=by
 have ez:(execOp a.eval o).run P w=.ok (.value (a.eval x)) w:=by simp[execOp,ho]
 unfold Jn at hk;cases hd:o.dst with|none=>rw[hd]at hk;cases hk|some d=>rw[hd]at hk;simp only at hk;split at hk;obtain⟨g,h⟩:=h;obtain⟨g',h'⟩:=h.take x;refine⟨_,_,_,.inl ez,?_,hk⟩;rw[hd];exact dN.KB h' (some d);refine⟨_,_,_,.inl ez,?_,hk⟩;rw[hd];exact h.put (some d) (λg hg=>hg.rd x)
theorem ao7 (c:RC)(e:CT):iD c (.slice none 0 0) (.sl (.own none) e []) []:=⟨⟨_,rfl,.inl ⟨⟨_,rfl⟩,rfl,rfl⟩⟩,by simp⟩
theorem abz {E:Env}{an:An}{o:Oper}(ho:o.op=.assign x)(h:pL C st a w){K:AS->au R}(hk:Ai E an o x st K=some r):pa P C o a w K r:=by
 have ez:(execOp a.eval o).run P w=.ok (.value (a.eval x)) w:=by simp[execOp,ho]
 unfold Ai at hk;split at hk;rename_i st' xC;have hv:a.eval x=.slice none 0 0:=by obtain⟨g,hg⟩:=h;obtain⟨g',oY⟩:=hg.take x;rw[xC]at oY;obtain⟨fp,hr,_⟩:=oY.hands 0 _ _ rfl;exact(eI hr).1
 split at hk;rename_i e _;refine⟨_,_,_,.inl ez,?_,hk⟩;rw[hv];cases ar2 an o with|true=>exact h.put o.dst (λg hg=>oP ⟨rfl,rfl⟩)|false=>exact h.put o.dst (λg hg=>oP (ao7 _ e))
 cases hk;rename_i v st' JG xC;obtain⟨g,h⟩:=h;obtain⟨g',h'⟩:=h.take x;rw[xC]at h';refine⟨_,_,_,.inl ez,?_,hk⟩;exact dN.KB h' o.dst
theorem akh {o:Oper}{c y:Operand}(ho:o.op=.pick c x y)(h:pL C st a w){K:AS->au R}(hk:MD o c x y st K=some r):pa P C o a w K r:=by
 unfold MD at hk;split at hk;rename_i t hc;obtain⟨g,hg⟩:=id h;have hb:=hg.rd c;rw[hc]at hb;have hcv:=BM hb;have ez:(execOp a.eval o).run P w=.ok (.value (if t then a.eval x else a.eval y)) w:=by simp[execOp,ho,hcv,asBool]
 split at hk;rename_i p q hx hy;have Ac:=hg.rd x;have Yr:=hg.rd y;rw[hx]at Ac;rw[hy]at Yr;refine⟨_,_,_,.inl ez,?_,hk⟩;refine h.put o.dst (λg' oY=>oP ⟨?_,rfl⟩);rw[BM Ac,BM Yr];cases t<;>rfl;cases t with|true=>exact⟨_,_,_,.inl ez,h.put o.dst (λg' oY=>oY.rd x),hk⟩|false=>exact⟨_,_,_,.inl ez,h.put o.dst (λg' oY=>oY.rd y),hk⟩
 cases hk
theorem dN.am9 {g:Gh}{hs:ar (Value×AV)}(h:dN C g st a w hs)(d:Nat){cs:ar AC}{arr:Array Value}(Nn:nth st.boxes d=some none)(hr:bE ⟨λb=>if b=w.heap.size then 0 else g.hw b,λt=>if t=d then w.heap.size else g.β t,C.A,g.hdr,nr st,st.ep,ij st,w.alloc (.cells arr T)⟩ arr.toList cs fp)(hn:fp.Nodup)(HD:∀b∈fp,dq (g.eC b)): pL C ((st.eZ d (some cs)).put (some d) (.one (.ptr d 0))) (a.put (some d) (.pointer (some ⟨w.heap.size,0,none⟩))) (w.alloc (.cells arr T)):=by
 rw[dY]at Nn;have iJ:∀b∈fp,b<w.heap.size:=by intro b hb;have hh:=HD b hb;cases hx:g.eC b with|none=>rw[hx]at hh;cases hh|some x=>exact(h.fW b x hx).1
 obtain⟨g',O4,h'⟩:=h.ae1 d (cs:=cs) (arr:=arr) (T:=T) (fr:=(0,0)) (fp:=fp) (w':=w.alloc (.cells arr T)) (bnew:=w.heap.size) (hw':=λb=>if b=w.heap.size then 0 else g.hw b) (.inr ⟨ba _,Nn⟩) (Fr.alloc _ _ _) (heap_alloc_new w _) (by intro j _;simp) (by simp) (by simp) (λb x hx _ JG=>by simp[JG]) (λb o u ho hu=>by have hb:b<w.heap.size:=World.block_lt_of_cell? w _ hu;exact⟨by simp[iO hb];exact ho,by rw[World.cell?_alloc_lt w _ _ hb];exact hu⟩) hr hn (λhm=>pP _ (iJ _ hm)) (λb hb=>⟨by have:=iJ b hb;simp;omega,.inl (HD b hb)⟩);have hd:d<st.boxes.length:=(aJ.1 Nn).1;exact⟨g',h'.quiet (some d) (oP ⟨by simp[cP,O4],⟨cs,by rw[lY];simp[hd]⟩,rfl⟩)⟩
theorem aeS {E:Env}(hE:kG P E.ty){o:Oper}(ho:o.op=.alloc T)(h:pL C st a w){K:AS->au R}(hk:JH E o T st K=some r):pa P C o a w K r:=by
 unfold JH at hk;split at hk;rename_i d sh hd hT;split at hk;rename_i Nn;obtain⟨i,z,hi,xx,_,hz,hzc⟩:=(hE T sh hT).elem.info;have ez:(execOp a.eval o).run P w=.ok (.value (.pointer (some ⟨w.heap.size,0,none⟩))) (w.alloc (.cells z.cells T)):=by simp[execOp,ho,Instr.alloc,zeroValue,typeInfo,hi,hz,newVar,newRow]
 obtain⟨g,hg⟩:=h;refine⟨_,_,_,.inl ez,?_,hk⟩;rw[hd];refine hg.am9 d (fp:=[]) Nn ?_ (by simp) (by simp);rw[hzc];exact wE (M6 _ _ _);cases hk;cases hk
theorem Rz {g:Bool}{v:Value}{vs:iW}(hv:Cut g v vs)(h1:∀u∈vs,u.oneCell'=true):v.cells.toList=vs:=by unfold Cut at hv;cases g with|true=>simp at hv;subst hv;simp[Value.cells]|false=>simp at hv;subst hv;have:=h1 v (by simp);cases v<;>simp[Value.cells,Value.oneCell']at this⊢
theorem aln {o:Oper}(ho:o.op=.box T x)(h:pL C st a w){K:AS->au R}(hk:ZM o x st K=some r):pa P C o a w K r:=by
 unfold ZM at hk;split at hk;rename_i d gg cs st' hd xC;split at hk;rename_i Nn;split at hk;rename_i ams;obtain⟨g,hg⟩:=h;obtain⟨g',oY⟩:=hg.take x;rw[xC]at oY;obtain⟨fp,⟨vs,eP,hr⟩,hn,hl⟩:=oY.hands 0 _ _ rfl;have h1:=hr.py ams;have Iz:=Rz eP h1;have ez:(execOp a.eval o).run P w=.ok (.value (.pointer (some ⟨w.heap.size,0,none⟩))) (w.alloc (.cells (a.eval x).cells T)):=by simp[execOp,ho,Instr.box,newVar,newRow]
 refine⟨_,_,_,.inl ez,?_,hk⟩;rw[hd];refine oY.am9 d (fp:=fp) Nn ?_ hn (λb hb=>by rw[hl b hb];rfl);rw[Iz];rw[dY]at Nn;refine hr.mono ?_ (λb hb=>?_);refine⟨rfl,λ_ ht=>⟨ht,rfl⟩,λ_ b o u _ hu=>Gc (Fr.alloc _ _ _) hu,ba _,λs hs=>⟨hs,?_⟩,λ_ b o u ho hu=>?_⟩;obtain⟨c0,hc0⟩:=hs;have hsd:s≠d:=by rintro rfl;rw[Nn]at hc0;cases hc0
 simp[hsd,cP];have hb:b<w.heap.size:=World.block_lt_of_cell? w _ hu;exact⟨by simp[iO hb];exact ho,Gc (Fr.alloc _ _ _) hu⟩;have ig:b<w.heap.size:=(oY.fW b _ (hl b hb)).1;exact⟨heap_alloc_old w _ b ig,by simp[iO ig,cP]⟩;cases hk;cases hk;cases hk
end Go.Dn
