import Derived.Test.YtgbaemfepmabgaaGreatDnMem
/- One operation after another: what the abstract step says, the model's run does. Part 1: slots and boxes. -/
namespace Go.Dn
open Go.RowKit
variable {P:Program} {C:Ctx} {st:AS} {a:Act} {w:World} {R:Type} {r:R}
def gC (P:Program)(C:Ctx)(o:Oper)(a:Act)(w:World)(K:AS→Option R)(r:R):Prop:=
 ∃v w' st',((execOp a.eval o).run P w=.ok (.value v) w'∨(v=undef∧(execOp a.eval o).run P w=.ok .skip w'))∧gO C st' (a.put o.dst v) w'∧K st'=some r
theorem gO.put (h:gO C st a w)(d:Option Nat){v:Value}{av:AV}(hr:∀g,cc C g st a w []→dp (bA C g st w) v av []): gO C (st.put d av) (a.put d v) w:=by obtain⟨g,h⟩:=h;exact⟨g,h.quiet d (hr g h)⟩
theorem gO.grow (h:gO C st a w){w':World}(hf:Fr (λ_=>False) w w'):gO C st a w':=by obtain⟨g,h⟩:=h;exact⟨g,h.grow hf⟩
theorem C6 (x:Operand):(st.take x).2.ep=st.ep:=by cases x<;>simp[AS.take,vC]
theorem cc.rD {g:Gh}{v:Value}{av:AV}(h:cc C g st a w [(v,av)])(d:Option Nat):gO C (st.put d av) (a.put d v) w:=by obtain⟨fp,hr,hn,hl⟩:=h.hands 0 v av rfl;exact h.yX d rfl rfl rfl rfl (λt ht=>⟨ht,rfl⟩) (Fr.refl _ _) (λ_ _ _ _=>rfl) (λ_ _ _ ho hu=>⟨ho,hu⟩) hr hn (λb hb=>⟨(h.labs b _ (hl b hb)).1,.inl (by rw[hl b hb];rfl)⟩)
theorem ev {c:RC}{v:Value}{k:IntKind}{n:Int}{fp:List Nat}(h:dp c v (.val false [.int k n]) fp):v=.int k n:=by obtain⟨vs,hc,hr⟩:=h;simp only[Cut,aD,bp]at hc;subst hc;obtain⟨f1,f2,rfl,h1,_⟩:=hr;exact h1.1
theorem mF {c:RC}{v:Value}{b:Bool}{fp:List Nat}(h:dp c v (.val false [.bool b]) fp):v=.bool b:=by obtain⟨vs,hc,hr⟩:=h;simp only[Cut,aD,bp]at hc;subst hc;obtain⟨f1,f2,rfl,h1,_⟩:=hr;exact h1.1
theorem cu {c:RC}{v:Value}{x:AC}{fp:List Nat}(h:dp c v (.val false [x]) fp):dM c v x fp:=by obtain⟨vs,hc,hr⟩:=h;simp only[Cut,aD,bp]at hc;subst hc;obtain⟨f1,f2,rfl,h1,h2⟩:=hr;cases h2;simpa using h1
theorem gx {c:RC}{v:Value}{x:AC}{fp:List Nat}(h:dM c v x fp):dp c v (.one x) fp:=⟨[v],by simp[Cut],fp,[],by simp,h,rfl⟩
theorem JO {an:An}{o:Oper}{x:Operand}(ho:o.op=.move x)(h:gO C st a w){K:AS→Option R}(hk:qW an o x st K=some r):gC P C o a w K r:=by
 have hrun:(execOp a.eval o).run P w=.ok (.value (a.eval x)) w:=by simp[execOp,ho]
 unfold qW at hk;cases hd:o.dst with|none=>rw[hd]at hk;cases hk|some d=>rw[hd]at hk;simp only at hk;split at hk;obtain⟨g,h⟩:=h;obtain⟨g',h'⟩:=h.take x;refine⟨_,_,_,.inl hrun,?_,hk⟩;rw[hd];exact cc.rD h' (some d);refine⟨_,_,_,.inl hrun,?_,hk⟩;rw[hd];exact h.put (some d) (λg hg=>hg.rd x)
theorem Oz (c:RC)(e:CT):dM c (.slice none 0 0) (.sl (.own none) e []) []:=⟨⟨_,rfl,.inl ⟨⟨_,rfl⟩,rfl,rfl⟩⟩,by simp⟩
theorem Dk {E:Env}{an:An}{o:Oper}{x:Operand}(ho:o.op=.assign x)(h:gO C st a w){K:AS→Option R}(hk:mc E an o x st K=some r):gC P C o a w K r:=by
 have hrun:(execOp a.eval o).run P w=.ok (.value (a.eval x)) w:=by simp[execOp,ho]
 unfold mc at hk;split at hk;rename_i st' htk;have hv:a.eval x=.slice none 0 0:=by obtain⟨g,hg⟩:=h;obtain⟨g',hg'⟩:=hg.take x;rw[htk]at hg';obtain⟨fp,hr,_⟩:=hg'.hands 0 _ _ rfl;exact(cu hr).1
 split at hk;rename_i e _;refine⟨_,_,_,.inl hrun,?_,hk⟩;rw[hv];cases Wa an o with|true=>exact h.put o.dst (λg hg=>gx ⟨rfl,rfl⟩)|false=>exact h.put o.dst (λg hg=>gx (Oz _ e))
 cases hk;rename_i v st' hne htk;obtain⟨g,h⟩:=h;obtain⟨g',h'⟩:=h.take x;rw[htk]at h';refine⟨_,_,_,.inl hrun,?_,hk⟩;exact cc.rD h' o.dst
theorem Kd {o:Oper}{c x y:Operand}(ho:o.op=.pick c x y)(h:gO C st a w){K:AS→Option R}(hk:sN o c x y st K=some r):gC P C o a w K r:=by
 unfold sN at hk;split at hk;rename_i t hc;obtain⟨g,hg⟩:=id h;have hb:=hg.rd c;rw[hc]at hb;have hcv:=mF hb;have hrun:(execOp a.eval o).run P w=.ok (.value (if t then a.eval x else a.eval y)) w:=by simp[execOp,ho,hcv,asBool]
 split at hk;rename_i p q hx hy;have hxv:=hg.rd x;have hyv:=hg.rd y;rw[hx]at hxv;rw[hy]at hyv;refine⟨_,_,_,.inl hrun,?_,hk⟩;refine h.put o.dst (λg' hg'=>gx ⟨?_,rfl⟩);rw[mF hxv,mF hyv];cases t<;>rfl;cases t with|true=>exact⟨_,_,_,.inl hrun,h.put o.dst (λg' hg'=>hg'.rd x),hk⟩|false=>exact⟨_,_,_,.inl hrun,h.put o.dst (λg' hg'=>hg'.rd y),hk⟩
 cases hk
theorem cc.L8 {g:Gh}{hs:List (Value×AV)}(h:cc C g st a w hs)(d:Nat){cs:List AC}{arr:Array Value}{T:TypeId}{fp:List Nat}(hno:nth st.boxes d=some none)(hr:aN ⟨λb=>if b=w.heap.size then 0 else g.hw b,λt=>if t=d then w.heap.size else g.β t,C.A,g.hdr,fR st,st.ep,dz st,w.alloc (.cells arr T)⟩ arr.toList cs fp)(hn:fp.Nodup)(hfp:∀b∈fp,bQ (g.lab b)): gO C ((st.cC d (some cs)).put (some d) (.one (.ptr d 0))) (a.put (some d) (.pointer (some ⟨w.heap.size,0,none⟩))) (w.alloc (.cells arr T)):=by
 rw[cf]at hno;have hlt:∀b∈fp,b<w.heap.size:=by intro b hb;have hh:=hfp b hb;cases hx:g.lab b with|none=>rw[hx]at hh;cases hh|some x=>exact(h.labs b x hx).1
 obtain⟨g',hβ,h'⟩:=h.Gp d (cs:=cs) (arr:=arr) (T:=T) (fr:=(0,0)) (fp:=fp) (w':=w.alloc (.cells arr T)) (bnew:=w.heap.size) (hw':=λb=>if b=w.heap.size then 0 else g.hw b) (.inr ⟨aL _,hno⟩) (Fr.alloc _ _ _) (heap_alloc_new w _) (by intro j _;simp) (by simp) (by simp) (λb x hx _ hne=>by simp[hne]) (λb o u ho hu=>by have hb:b<w.heap.size:=World.block_lt_of_cell? w _ hu;exact⟨by simp[dV hb];exact ho,by rw[World.cell?_alloc_lt w _ _ hb];exact hu⟩) hr hn (λhm=>Nat.lt_irrefl _ (hlt _ hm)) (λb hb=>⟨by have:=hlt b hb;simp;omega,.inl (hfp b hb)⟩);have hd:d<st.boxes.length:=(List.getElem?_eq_some_iff.1 hno).1;exact⟨g',h'.quiet (some d) (gx ⟨by simp[bA,hβ],⟨cs,by rw[ft];simp[hd]⟩,rfl⟩)⟩
theorem Gg {E:Env}(hE:eQ P E.ty){o:Oper}{T:TypeId}(ho:o.op=.alloc T)(h:gO C st a w){K:AS→Option R}(hk:rh E o T st K=some r):gC P C o a w K r:=by
 unfold rh at hk;split at hk;rename_i d sh hd hT;split at hk;rename_i hno;obtain⟨i,z,hi,hsz,_,hz,hzc⟩:=(hE T sh hT).elem.info;have hrun:(execOp a.eval o).run P w=.ok (.value (.pointer (some ⟨w.heap.size,0,none⟩))) (w.alloc (.cells z.cells T)):=by simp[execOp,ho,Instr.alloc,zeroValue,typeInfo,hi,hz,newVar,newRow]
 obtain⟨g,hg⟩:=h;refine⟨_,_,_,.inl hrun,?_,hk⟩;rw[hd];refine hg.L8 d (fp:=[]) hno ?_ (by simp) (by simp);rw[hzc];exact kq (s4 _ _ _);cases hk;cases hk
theorem vB {g:Bool}{v:Value}{vs:List Value}(hv:Cut g v vs)(h1:∀u∈vs,u.oneCell'=true):v.cells.toList=vs:=by unfold Cut at hv;cases g with|true=>simp at hv;subst hv;simp[Value.cells]|false=>simp at hv;subst hv;have:=h1 v (by simp);cases v<;>simp[Value.cells,Value.oneCell']at this⊢
theorem K9 {o:Oper}{T:TypeId}{x:Operand}(ho:o.op=.box T x)(h:gO C st a w){K:AS→Option R}(hk:BI o x st K=some r):gC P C o a w K r:=by
 unfold BI at hk;split at hk;rename_i d gg cs st' hd htk;split at hk;rename_i hno;split at hk;rename_i hsol;obtain⟨g,hg⟩:=h;obtain⟨g',hg'⟩:=hg.take x;rw[htk]at hg';obtain⟨fp,⟨vs,hcut,hr⟩,hn,hl⟩:=hg'.hands 0 _ _ rfl;have h1:=hr.gK hsol;have hcells:=vB hcut h1;have hrun:(execOp a.eval o).run P w=.ok (.value (.pointer (some ⟨w.heap.size,0,none⟩))) (w.alloc (.cells (a.eval x).cells T)):=by simp[execOp,ho,Instr.box,newVar,newRow]
 refine⟨_,_,_,.inl hrun,?_,hk⟩;rw[hd];refine hg'.L8 d (fp:=fp) hno ?_ hn (λb hb=>by rw[hl b hb];rfl);rw[hcells];rw[cf]at hno;refine hr.mono ?_ (λb hb=>?_);refine⟨rfl,λ_ ht=>⟨ht,rfl⟩,λ_ b o u _ hu=>pa (Fr.alloc _ _ _) hu,aL _,λs hs=>⟨hs,?_⟩,λ_ b o u ho hu=>?_⟩;obtain⟨c0,hc0⟩:=hs;have hsd:s≠d:=by rintro rfl;rw[hno]at hc0;cases hc0
 simp[hsd,bA];have hb:b<w.heap.size:=World.block_lt_of_cell? w _ hu;exact⟨by simp[dV hb];exact ho,pa (Fr.alloc _ _ _) hu⟩;have hb':b<w.heap.size:=(hg'.labs b _ (hl b hb)).1;exact⟨heap_alloc_old w _ b hb',by simp[dV hb',bA]⟩;cases hk;cases hk;cases hk
end Go.Dn
