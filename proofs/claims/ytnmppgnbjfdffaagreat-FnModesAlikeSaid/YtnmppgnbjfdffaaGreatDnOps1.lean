import Derived.Test.YtnmppgnbjfdffaaGreatDnMem
/- One operation after another: what the abstract step says, the model's run does. Part 1: slots and boxes. -/
namespace Go.Dn
open Go.RowKit
variable {P:Program} {C:Ctx} {st:AS} {a:Act} {w:World} {R:Type} {r:R}
variable {x:Operand} {c:RC} {T:TypeId} {v:Value} {fp:fR}
def nm (P:Program)(C:Ctx)(o:Oper)(a:Act)(w:World)(K:AS->aC R)(r:R):Prop:=
 ∃v w' bX,((execOp a.eval o).run P w=.ok (.value v) w'\/(v=undef/\(execOp a.eval o).run P w=.ok .skip w'))/\oE C bX (a.put o.dst v) w'/\K bX=some r
theorem oE.put (h:oE C st a w)(d:aC Nat){av:AV}(hr:∀g,eK C g st a w []->gW (dk C g st w) v av []): oE C (st.put d av) (a.put d v) w:=by obtain⟨g,h⟩:=h;exact⟨g,h.quiet d (hr g h)⟩
theorem oE.grow (h:oE C st a w){w':World}(hf:Fr (λ_=>False) w w'):oE C st a w':=by obtain⟨g,h⟩:=h;exact⟨g,h.grow hf⟩
theorem SF (x:Operand):(st.take x).2.ep=st.ep:=by cases x<;>simp[AS.take,IP]
theorem eK.C1 {g:Gh}{av:AV}(h:eK C g st a w [(v,av)])(d:aC Nat):oE C (st.put d av) (a.put d v) w:=by obtain⟨fp,hr,hn,hl⟩:=h.hands 0 v av rfl;exact h.Np d rfl rfl rfl rfl (λt ht=>⟨ht,rfl⟩) (Fr.refl _ _) (λ_ _ _ _=>rfl) (λ_ _ _ ho hu=>⟨ho,hu⟩) hr hn (λb hb=>⟨(h.gY b _ (hl b hb)).1,.inl (by rw[hl b hb];rfl)⟩)
theorem jG {k:IntKind}{n:Int}(h:gW c v (.val false [.int k n]) fp):v=.int k n:=by obtain⟨vs,hc,hr⟩:=h;simp only[Cut,bh,cn]at hc;subst hc;obtain⟨f1,f2,rfl,h1,_⟩:=hr;exact h1.1
theorem vF {b:Bool}(h:gW c v (.val false [.bool b]) fp):v=.bool b:=by obtain⟨vs,hc,hr⟩:=h;simp only[Cut,bh,cn]at hc;subst hc;obtain⟨f1,f2,rfl,h1,_⟩:=hr;exact h1.1
theorem fi {x:AC}(h:gW c v (.val false [x]) fp):iI c v x fp:=by obtain⟨vs,hc,hr⟩:=h;simp only[Cut,bh,cn]at hc;subst hc;obtain⟨f1,f2,rfl,h1,h2⟩:=hr;cases h2;simpa using h1
theorem mZ {x:AC}(h:iI c v x fp):gW c v (.one x) fp:=⟨[v],by simp[Cut],fp,[],by simp,h,rfl⟩
theorem abF {an:An}{o:Oper}(ho:o.op=.move x)(h:oE C st a w){K:AS->aC R}(hk:Cl an o x st K=some r):nm P C o a w K r:=by
 have fb:(execOp a.eval o).run P w=.ok (.value (a.eval x)) w:=by simp[execOp,ho]
 unfold Cl at hk;cases hd:o.dst with|none=>rw[hd]at hk;cases hk|some d=>rw[hd]at hk;simp only at hk;split at hk;obtain⟨g,h⟩:=h;obtain⟨g',h'⟩:=h.take x;refine⟨_,_,_,.inl fb,?_,hk⟩;rw[hd];exact eK.C1 h' (some d);refine⟨_,_,_,.inl fb,?_,hk⟩;rw[hd];exact h.put (some d) (λg hg=>hg.rd x)
theorem ahl (c:RC)(e:CT):iI c (.slice none 0 0) (.sl (.own none) e []) []:=⟨⟨_,rfl,.inl ⟨⟨_,rfl⟩,rfl,rfl⟩⟩,by simp⟩
theorem S5 {E:Env}{an:An}{o:Oper}(ho:o.op=.assign x)(h:oE C st a w){K:AS->aC R}(hk:uO E an o x st K=some r):nm P C o a w K r:=by
 have fb:(execOp a.eval o).run P w=.ok (.value (a.eval x)) w:=by simp[execOp,ho]
 unfold uO at hk;split at hk;rename_i bX sN;have hv:a.eval x=.slice none 0 0:=by obtain⟨g,hg⟩:=h;obtain⟨g',oB⟩:=hg.take x;rw[sN]at oB;obtain⟨fp,hr,_⟩:=oB.hands 0 _ _ rfl;exact(fi hr).1
 split at hk;rename_i e _;refine⟨_,_,_,.inl fb,?_,hk⟩;rw[hv];cases alU an o with|true=>exact h.put o.dst (λg hg=>mZ ⟨rfl,rfl⟩)|false=>exact h.put o.dst (λg hg=>mZ (ahl _ e))
 cases hk;rename_i v bX Cy sN;obtain⟨g,h⟩:=h;obtain⟨g',h'⟩:=h.take x;rw[sN]at h';refine⟨_,_,_,.inl fb,?_,hk⟩;exact eK.C1 h' o.dst
theorem ab4 {o:Oper}{c y:Operand}(ho:o.op=.pick c x y)(h:oE C st a w){K:AS->aC R}(hk:Et o c x y st K=some r):nm P C o a w K r:=by
 unfold Et at hk;split at hk;rename_i t hc;obtain⟨g,hg⟩:=id h;have hb:=hg.rd c;rw[hc]at hb;have hcv:=vF hb;have fb:(execOp a.eval o).run P w=.ok (.value (if t then a.eval x else a.eval y)) w:=by simp[execOp,ho,hcv,asBool]
 split at hk;rename_i p q hx hy;have uM:=hg.rd x;have PG:=hg.rd y;rw[hx]at uM;rw[hy]at PG;refine⟨_,_,_,.inl fb,?_,hk⟩;refine h.put o.dst (λg' oB=>mZ ⟨?_,rfl⟩);rw[vF uM,vF PG];cases t<;>rfl;cases t with|true=>exact⟨_,_,_,.inl fb,h.put o.dst (λg' oB=>oB.rd x),hk⟩|false=>exact⟨_,_,_,.inl fb,h.put o.dst (λg' oB=>oB.rd y),hk⟩
 cases hk
theorem eK.aeY {g:Gh}{hs:ay (Value×AV)}(h:eK C g st a w hs)(d:Nat){cs:ay AC}{arr:Array Value}(GR:nth st.boxes d=some none)(hr:bR ⟨λb=>if b=w.heap.size then 0 else g.hw b,λt=>if t=d then w.heap.size else g.β t,C.A,g.hdr,nq st,st.ep,jO st,w.alloc (.cells arr T)⟩ arr.toList cs fp)(hn:fp.Nodup)(Dw:∀b∈fp,eE (g.fe b)): oE C ((st.fD d (some cs)).put (some d) (.one (.ptr d 0))) (a.put (some d) (.pointer (some ⟨w.heap.size,0,none⟩))) (w.alloc (.cells arr T)):=by
 rw[eH]at GR;have ir:∀b∈fp,b<w.heap.size:=by intro b hb;have hh:=Dw b hb;cases hx:g.fe b with|none=>rw[hx]at hh;cases hh|some x=>exact(h.gY b x hx).1
 obtain⟨g',IZ,h'⟩:=h.Wj d (cs:=cs) (arr:=arr) (T:=T) (fr:=(0,0)) (fp:=fp) (w':=w.alloc (.cells arr T)) (bnew:=w.heap.size) (hw':=λb=>if b=w.heap.size then 0 else g.hw b) (.inr ⟨aV _,GR⟩) (Fr.alloc _ _ _) (heap_alloc_new w _) (by intro j _;simp) (by simp) (by simp) (λb x hx _ Cy=>by simp[Cy]) (λb o u ho hu=>by have hb:b<w.heap.size:=World.block_lt_of_cell? w _ hu;exact⟨by simp[iO hb];exact ho,by rw[World.cell?_alloc_lt w _ _ hb];exact hu⟩) hr hn (λhm=>Nat.lt_irrefl _ (ir _ hm)) (λb hb=>⟨by have:=ir b hb;simp;omega,.inl (Dw b hb)⟩);have hd:d<st.boxes.length:=(aB.1 GR).1;exact⟨g',h'.quiet (some d) (mZ ⟨by simp[dk,IZ],⟨cs,by rw[kQ];simp[hd]⟩,rfl⟩)⟩
theorem V8 {E:Env}(hE:jX P E.ty){o:Oper}(ho:o.op=.alloc T)(h:oE C st a w){K:AS->aC R}(hk:Cz E o T st K=some r):nm P C o a w K r:=by
 unfold Cz at hk;split at hk;rename_i d sh hd hT;split at hk;rename_i GR;obtain⟨i,z,hi,uL,_,hz,hzc⟩:=(hE T sh hT).elem.info;have fb:(execOp a.eval o).run P w=.ok (.value (.pointer (some ⟨w.heap.size,0,none⟩))) (w.alloc (.cells z.cells T)):=by simp[execOp,ho,Instr.alloc,zeroValue,typeInfo,hi,hz,newVar,newRow]
 obtain⟨g,hg⟩:=h;refine⟨_,_,_,.inl fb,?_,hk⟩;rw[hd];refine hg.aeY d (fp:=[]) GR ?_ (by simp) (by simp);rw[hzc];exact zM (EX _ _ _);cases hk;cases hk
theorem IJ {g:Bool}{vs:jz}(hv:Cut g v vs)(h1:∀u∈vs,u.oneCell'=true):v.cells.toList=vs:=by unfold Cut at hv;cases g with|true=>simp at hv;subst hv;simp[Value.cells]|false=>simp at hv;subst hv;have:=h1 v (by simp);cases v<;>simp[Value.cells,Value.oneCell']at this⊢
theorem ade {o:Oper}(ho:o.op=.box T x)(h:oE C st a w){K:AS->aC R}(hk:QX o x st K=some r):nm P C o a w K r:=by
 unfold QX at hk;split at hk;rename_i d gg cs bX hd sN;split at hk;rename_i GR;split at hk;rename_i aer;obtain⟨g,hg⟩:=h;obtain⟨g',oB⟩:=hg.take x;rw[sN]at oB;obtain⟨fp,⟨vs,gm,hr⟩,hn,hl⟩:=oB.hands 0 _ _ rfl;have h1:=hr.nC aer;have BD:=IJ gm h1;have fb:(execOp a.eval o).run P w=.ok (.value (.pointer (some ⟨w.heap.size,0,none⟩))) (w.alloc (.cells (a.eval x).cells T)):=by simp[execOp,ho,Instr.box,newVar,newRow]
 refine⟨_,_,_,.inl fb,?_,hk⟩;rw[hd];refine oB.aeY d (fp:=fp) GR ?_ hn (λb hb=>by rw[hl b hb];rfl);rw[BD];rw[eH]at GR;refine hr.mono ?_ (λb hb=>?_);refine⟨rfl,λ_ ht=>⟨ht,rfl⟩,λ_ b o u _ hu=>zF (Fr.alloc _ _ _) hu,aV _,λs hs=>⟨hs,?_⟩,λ_ b o u ho hu=>?_⟩;obtain⟨c0,SO⟩:=hs;have hsd:s≠d:=by rintro rfl;rw[GR]at SO;cases SO
 simp[hsd,dk];have hb:b<w.heap.size:=World.block_lt_of_cell? w _ hu;exact⟨by simp[iO hb];exact ho,zF (Fr.alloc _ _ _) hu⟩;have im:b<w.heap.size:=(oB.gY b _ (hl b hb)).1;exact⟨heap_alloc_old w _ b im,by simp[iO im,dk]⟩;cases hk;cases hk;cases hk
end Go.Dn
