import Derived.Test.YtbebkmajekhclaaGreatDnMem
/- One operation after another: what the abstract step says, the model's run does. Part 1: slots and boxes. -/
namespace Go.Dn
open Go.RowKit
variable {P:Program} {C:Ctx} {st:AS} {a:Act} {w:World} {R:Type} {r:R}
variable {x:Operand} {c:RC} {T:TypeId} {v:Value} {fp:fK}
def oa (P:Program)(C:Ctx)(o:Oper)(a:Act)(w:World)(K:AS->az R)(r:R):Prop:=
 ∃v w' bZ,((execOp a.eval o).run P w=.ok (.value v) w'\/(v=undef/\(execOp a.eval o).run P w=.ok .skip w'))/\pL C bZ (a.put o.dst v) w'/\K bZ=some r
theorem pL.put (h:pL C st a w)(d:az Nat){av:AV}(hr:∀g,eJ C g st a w []->gU (df C g st w) v av []): pL C (st.put d av) (a.put d v) w:=by obtain⟨g,h⟩:=h;exact⟨g,h.quiet d (hr g h)⟩
theorem pL.grow (h:pL C st a w){w':World}(hf:Fr (λ_=>False) w w'):pL C st a w':=by obtain⟨g,h⟩:=h;exact⟨g,h.grow hf⟩
theorem Wn (x:Operand):(st.take x).2.ep=st.ep:=by cases x<;>simp[AS.take,Lw]
theorem eJ.E5 {g:Gh}{av:AV}(h:eJ C g st a w [(v,av)])(d:az Nat):pL C (st.put d av) (a.put d v) w:=by obtain⟨fp,hr,hn,hl⟩:=h.hands 0 v av rfl;exact h.QE d rfl rfl rfl rfl (λt ht=>⟨ht,rfl⟩) (Fr.refl _ _) (λ_ _ _ _=>rfl) (λ_ _ _ ho hu=>⟨ho,hu⟩) hr hn (λb hb=>⟨(h.gW b _ (hl b hb)).1,.inl (by rw[hl b hb];rfl)⟩)
theorem jD {k:IntKind}{n:Int}(h:gU c v (.val false [.int k n]) fp):v=.int k n:=by obtain⟨vs,hc,hr⟩:=h;simp only[Cut,bm,cw]at hc;subst hc;obtain⟨f1,f2,rfl,h1,_⟩:=hr;exact h1.1
theorem xG {b:Bool}(h:gU c v (.val false [.bool b]) fp):v=.bool b:=by obtain⟨vs,hc,hr⟩:=h;simp only[Cut,bm,cw]at hc;subst hc;obtain⟨f1,f2,rfl,h1,_⟩:=hr;exact h1.1
theorem fw {x:AC}(h:gU c v (.val false [x]) fp):iC c v x fp:=by obtain⟨vs,hc,hr⟩:=h;simp only[Cut,bm,cw]at hc;subst hc;obtain⟨f1,f2,rfl,h1,h2⟩:=hr;cases h2;simpa using h1
theorem nP {x:AC}(h:iC c v x fp):gU c v (.one x) fp:=⟨[v],by simp[Cut],fp,[],by simp,h,rfl⟩
theorem agk {an:An}{o:Oper}(ho:o.op=.move x)(h:pL C st a w){K:AS->az R}(hk:El an o x st K=some r):oa P C o a w K r:=by
 have fg:(execOp a.eval o).run P w=.ok (.value (a.eval x)) w:=by simp[execOp,ho]
 unfold El at hk;cases hd:o.dst with|none=>rw[hd]at hk;cases hk|some d=>rw[hd]at hk;simp only at hk;split at hk;obtain⟨g,h⟩:=h;obtain⟨g',h'⟩:=h.take x;refine⟨_,_,_,.inl fg,?_,hk⟩;rw[hd];exact eJ.E5 h' (some d);refine⟨_,_,_,.inl fg,?_,hk⟩;rw[hd];exact h.put (some d) (λg hg=>hg.rd x)
theorem amo (c:RC)(e:CT):iC c (.slice none 0 0) (.sl (.own none) e []) []:=⟨⟨_,rfl,.inl ⟨⟨_,rfl⟩,rfl,rfl⟩⟩,by simp⟩
theorem WK {E:Env}{an:An}{o:Oper}(ho:o.op=.assign x)(h:pL C st a w){K:AS->az R}(hk:wQ E an o x st K=some r):oa P C o a w K r:=by
 have fg:(execOp a.eval o).run P w=.ok (.value (a.eval x)) w:=by simp[execOp,ho]
 unfold wQ at hk;split at hk;rename_i bZ uH;have hv:a.eval x=.slice none 0 0:=by obtain⟨g,hg⟩:=h;obtain⟨g',pJ⟩:=hg.take x;rw[uH]at pJ;obtain⟨fp,hr,_⟩:=pJ.hands 0 _ _ rfl;exact(fw hr).1
 split at hk;rename_i e _;refine⟨_,_,_,.inl fg,?_,hk⟩;rw[hv];cases arc an o with|true=>exact h.put o.dst (λg hg=>nP ⟨rfl,rfl⟩)|false=>exact h.put o.dst (λg hg=>nP (amo _ e))
 cases hk;rename_i v bZ D9 uH;obtain⟨g,h⟩:=h;obtain⟨g',h'⟩:=h.take x;rw[uH]at h';refine⟨_,_,_,.inl fg,?_,hk⟩;exact eJ.E5 h' o.dst
theorem agI {o:Oper}{c y:Operand}(ho:o.op=.pick c x y)(h:pL C st a w){K:AS->az R}(hk:GD o c x y st K=some r):oa P C o a w K r:=by
 unfold GD at hk;split at hk;rename_i t hc;obtain⟨g,hg⟩:=id h;have hb:=hg.rd c;rw[hc]at hb;have hcv:=xG hb;have fg:(execOp a.eval o).run P w=.ok (.value (if t then a.eval x else a.eval y)) w:=by simp[execOp,ho,hcv,asBool]
 split at hk;rename_i p q hx hy;have wN:=hg.rd x;have S4:=hg.rd y;rw[hx]at wN;rw[hy]at S4;refine⟨_,_,_,.inl fg,?_,hk⟩;refine h.put o.dst (λg' pJ=>nP ⟨?_,rfl⟩);rw[xG wN,xG S4];cases t<;>rfl;cases t with|true=>exact⟨_,_,_,.inl fg,h.put o.dst (λg' pJ=>pJ.rd x),hk⟩|false=>exact⟨_,_,_,.inl fg,h.put o.dst (λg' pJ=>pJ.rd y),hk⟩
 cases hk
theorem eJ.ajU {g:Gh}{hs:ax (Value×AV)}(h:eJ C g st a w hs)(d:Nat){cs:ax AC}{arr:Array Value}(Ht:nth st.boxes d=some none)(hr:bU ⟨λb=>if b=w.heap.size then 0 else g.hw b,λt=>if t=d then w.heap.size else g.β t,C.A,g.hdr,oc st,st.ep,jW st,w.alloc (.cells arr T)⟩ arr.toList cs fp)(hn:fp.Nodup)(FC:∀b∈fp,eE (g.ft b)): pL C ((st.fD d (some cs)).put (some d) (.one (.ptr d 0))) (a.put (some d) (.pointer (some ⟨w.heap.size,0,none⟩))) (w.alloc (.cells arr T)):=by
 rw[eH]at Ht;have gH:∀b∈fp,b<w.heap.size:=by intro b hb;have hh:=FC b hb;cases hx:g.ft b with|none=>rw[hx]at hh;cases hh|some x=>exact(h.gW b x hx).1
 obtain⟨g',LC,h'⟩:=h.aam d (cs:=cs) (arr:=arr) (T:=T) (fr:=(0,0)) (fp:=fp) (w':=w.alloc (.cells arr T)) (bnew:=w.heap.size) (hw':=λb=>if b=w.heap.size then 0 else g.hw b) (.inr ⟨bj _,Ht⟩) (Fr.alloc _ _ _) (heap_alloc_new w _) (by intro j _;simp) (by simp) (by simp) (λb x hx _ D9=>by simp[D9]) (λb o u ho hu=>by have hb:b<w.heap.size:=World.block_lt_of_cell? w _ hu;exact⟨by simp[iP hb];exact ho,by rw[World.cell?_alloc_lt w _ _ hb];exact hu⟩) hr hn (λhm=>Nat.lt_irrefl _ (gH _ hm)) (λb hb=>⟨by have:=gH b hb;simp;omega,.inl (FC b hb)⟩);have hd:d<st.boxes.length:=(aA.1 Ht).1;exact⟨g',h'.quiet (some d) (nP ⟨by simp[df,LC],⟨cs,by rw[lu];simp[hd]⟩,rfl⟩)⟩
theorem aad {E:Env}(hE:kq P E.ty){o:Oper}(ho:o.op=.alloc T)(h:pL C st a w){K:AS->az R}(hk:EH E o T st K=some r):oa P C o a w K r:=by
 unfold EH at hk;split at hk;rename_i d sh hd hT;split at hk;rename_i Ht;obtain⟨i,z,hi,vZ,_,hz,hzc⟩:=(hE T sh hT).elem.info;have fg:(execOp a.eval o).run P w=.ok (.value (.pointer (some ⟨w.heap.size,0,none⟩))) (w.alloc (.cells z.cells T)):=by simp[execOp,ho,Instr.alloc,zeroValue,typeInfo,hi,hz,newVar,newRow]
 obtain⟨g,hg⟩:=h;refine⟨_,_,_,.inl fg,?_,hk⟩;rw[hd];refine hg.ajU d (fp:=[]) Ht ?_ (by simp) (by simp);rw[hzc];exact BP (G6 _ _ _);cases hk;cases hk
theorem Lt {g:Bool}{vs:jt}(hv:Cut g v vs)(h1:∀u∈vs,u.oneCell'=true):v.cells.toList=vs:=by unfold Cut at hv;cases g with|true=>simp at hv;subst hv;simp[Value.cells]|false=>simp at hv;subst hv;have:=h1 v (by simp);cases v<;>simp[Value.cells,Value.oneCell']at this⊢
theorem ahU {o:Oper}(ho:o.op=.box T x)(h:pL C st a w){K:AS->az R}(hk:Uq o x st K=some r):oa P C o a w K r:=by
 unfold Uq at hk;split at hk;rename_i d gg cs bZ hd uH;split at hk;rename_i Ht;split at hk;rename_i aji;obtain⟨g,hg⟩:=h;obtain⟨g',pJ⟩:=hg.take x;rw[uH]at pJ;obtain⟨fp,⟨vs,gb,hr⟩,hn,hl⟩:=pJ.hands 0 _ _ rfl;have h1:=hr.oy aji;have DC:=Lt gb h1;have fg:(execOp a.eval o).run P w=.ok (.value (.pointer (some ⟨w.heap.size,0,none⟩))) (w.alloc (.cells (a.eval x).cells T)):=by simp[execOp,ho,Instr.box,newVar,newRow]
 refine⟨_,_,_,.inl fg,?_,hk⟩;rw[hd];refine pJ.ajU d (fp:=fp) Ht ?_ hn (λb hb=>by rw[hl b hb];rfl);rw[DC];rw[eH]at Ht;refine hr.mono ?_ (λb hb=>?_);refine⟨rfl,λ_ ht=>⟨ht,rfl⟩,λ_ b o u _ hu=>BI (Fr.alloc _ _ _) hu,bj _,λs hs=>⟨hs,?_⟩,λ_ b o u ho hu=>?_⟩;obtain⟨c0,hc0⟩:=hs;have hsd:s≠d:=by rintro rfl;rw[Ht]at hc0;cases hc0
 simp[hsd,df];have hb:b<w.heap.size:=World.block_lt_of_cell? w _ hu;exact⟨by simp[iP hb];exact ho,BI (Fr.alloc _ _ _) hu⟩;have iI:b<w.heap.size:=(pJ.gW b _ (hl b hb)).1;exact⟨heap_alloc_old w _ b iI,by simp[iP iI,df]⟩;cases hk;cases hk;cases hk
end Go.Dn
