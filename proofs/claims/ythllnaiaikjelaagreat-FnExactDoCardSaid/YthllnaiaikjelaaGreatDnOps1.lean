import Derived.Test.YthllnaiaikjelaaGreatDnMem
/- One operation after another: what the abstract step says, the model's run does. Part 1: slots and boxes. -/
namespace Go.Dn
open Go.RowKit
variable {P:Program} {C:Ctx} {st:AS} {a:Act} {w:World} {R:Type} {r:R}
variable {x:Operand} {c:RC} {T:TypeId} {fp:ec}
def oX (P:Program)(C:Ctx)(o:Oper)(a:Act)(w:World)(K:AS->au R)(r:R):Prop:=
 ∃v w' st',((execOp a.eval o).run P w=.ok (.value v) w'\/(v=undef/\(execOp a.eval o).run P w=.ok .skip w'))/\pF C st' (a.put o.dst v) w'/\K st'=some r
theorem pF.put (h:pF C st a w)(d:au Nat){v:Value}{av:AV}(hr:∀g,dM C g st a w []->gi (cO C g st w) v av []): pF C (st.put d av) (a.put d v) w:=by obtain⟨g,h⟩:=h;exact⟨g,h.quiet d (hr g h)⟩
theorem pF.grow (h:pF C st a w){w':World}(hf:Fr (λ_=>False) w w'):pF C st a w':=by obtain⟨g,h⟩:=h;exact⟨g,h.grow hf⟩
theorem aaY (x:Operand):(st.take x).2.ep=st.ep:=by cases x<;>simp[AS.take,Rf]
theorem dM.Kj {g:Gh}{v:Value}{av:AV}(h:dM C g st a w [(v,av)])(d:au Nat):pF C (st.put d av) (a.put d v) w:=by obtain⟨fp,hr,hn,hl⟩:=h.hands 0 v av rfl;exact h.VN d rfl rfl rfl rfl (λt ht=>⟨ht,rfl⟩) (Fr.refl _ _) (λ_ _ _ _=>rfl) (λ_ _ _ ho hu=>⟨ho,hu⟩) hr hn (λb hb=>⟨(h.fV b _ (hl b hb)).1,.inl (by rw[hl b hb];rfl)⟩)
theorem jN {v:Value}{k:IntKind}{n:Int}(h:gi c v (.val false [.int k n]) fp):v=.int k n:=by obtain⟨vs,hc,hr⟩:=h;simp only[Cut,bg,cD]at hc;subst hc;obtain⟨f1,f2,rfl,h1,_⟩:=hr;exact h1.1
theorem BB {v:Value}{b:Bool}(h:gi c v (.val false [.bool b]) fp):v=.bool b:=by obtain⟨vs,hc,hr⟩:=h;simp only[Cut,bg,cD]at hc;subst hc;obtain⟨f1,f2,rfl,h1,_⟩:=hr;exact h1.1
theorem eG {v:Value}{x:AC}(h:gi c v (.val false [x]) fp):iA c v x fp:=by obtain⟨vs,hc,hr⟩:=h;simp only[Cut,bg,cD]at hc;subst hc;obtain⟨f1,f2,rfl,h1,h2⟩:=hr;cases h2;simpa using h1
theorem oM {v:Value}{x:AC}(h:iA c v x fp):gi c v (.one x) fp:=⟨[v],by simp[Cut],fp,[],by simp,h,rfl⟩
theorem aju {an:An}{o:Oper}(ho:o.op=.move x)(h:pF C st a w){K:AS->au R}(hk:I5 an o x st K=some r):oX P C o a w K r:=by
 have ej:(execOp a.eval o).run P w=.ok (.value (a.eval x)) w:=by simp[execOp,ho]
 unfold I5 at hk;cases hd:o.dst with|none=>rw[hd]at hk;cases hk|some d=>rw[hd]at hk;simp only at hk;split at hk;obtain⟨g,h⟩:=h;obtain⟨g',h'⟩:=h.take x;refine⟨_,_,_,.inl ej,?_,hk⟩;rw[hd];exact dM.Kj h' (some d);refine⟨_,_,_,.inl ej,?_,hk⟩;rw[hd];exact h.put (some d) (λg hg=>hg.rd x)
theorem aoJ (c:RC)(e:CT):iA c (.slice none 0 0) (.sl (.own none) e []) []:=⟨⟨_,rfl,.inl ⟨⟨_,rfl⟩,rfl,rfl⟩⟩,by simp⟩
theorem abd {E:Env}{an:An}{o:Oper}(ho:o.op=.assign x)(h:pF C st a w){K:AS->au R}(hk:zY E an o x st K=some r):oX P C o a w K r:=by
 have ej:(execOp a.eval o).run P w=.ok (.value (a.eval x)) w:=by simp[execOp,ho]
 unfold zY at hk;split at hk;rename_i st' xv;have hv:a.eval x=.slice none 0 0:=by obtain⟨g,hg⟩:=h;obtain⟨g',oV⟩:=hg.take x;rw[xv]at oV;obtain⟨fp,hr,_⟩:=oV.hands 0 _ _ rfl;exact(eG hr).1
 split at hk;rename_i e _;refine⟨_,_,_,.inl ej,?_,hk⟩;rw[hv];cases arC an o with|true=>exact h.put o.dst (λg hg=>oM ⟨rfl,rfl⟩)|false=>exact h.put o.dst (λg hg=>oM (aoJ _ e))
 cases hk;rename_i v st' Jo xv;obtain⟨g,h⟩:=h;obtain⟨g',h'⟩:=h.take x;rw[xv]at h';refine⟨_,_,_,.inl ej,?_,hk⟩;exact dM.Kj h' o.dst
theorem ajT {o:Oper}{c y:Operand}(ho:o.op=.pick c x y)(h:pF C st a w){K:AS->au R}(hk:Ml o c x y st K=some r):oX P C o a w K r:=by
 unfold Ml at hk;split at hk;rename_i t hc;obtain⟨g,hg⟩:=id h;have hb:=hg.rd c;rw[hc]at hb;have hcv:=BB hb;have ej:(execOp a.eval o).run P w=.ok (.value (if t then a.eval x else a.eval y)) w:=by simp[execOp,ho,hcv,asBool]
 split at hk;rename_i p q hx hy;have zR:=hg.rd x;have X6:=hg.rd y;rw[hx]at zR;rw[hy]at X6;refine⟨_,_,_,.inl ej,?_,hk⟩;refine h.put o.dst (λg' oV=>oM ⟨?_,rfl⟩);rw[BB zR,BB X6];cases t<;>rfl;cases t with|true=>exact⟨_,_,_,.inl ej,h.put o.dst (λg' oV=>oV.rd x),hk⟩|false=>exact⟨_,_,_,.inl ej,h.put o.dst (λg' oV=>oV.rd y),hk⟩
 cases hk
theorem dM.amK {g:Gh}{hs:ar (Value×AV)}(h:dM C g st a w hs)(d:Nat){cs:ar AC}{arr:Array Value}(M4:nth st.boxes d=some none)(hr:bD ⟨λb=>if b=w.heap.size then 0 else g.hw b,λt=>if t=d then w.heap.size else g.β t,C.A,g.hdr,nm st,st.ep,ic st,w.alloc (.cells arr T)⟩ arr.toList cs fp)(hn:fp.Nodup)(Hp:∀b∈fp,dm (g.eo b)): pF C ((st.eY d (some cs)).put (some d) (.one (.ptr d 0))) (a.put (some d) (.pointer (some ⟨w.heap.size,0,none⟩))) (w.alloc (.cells arr T)):=by
 rw[dV]at M4;have iG:∀b∈fp,b<w.heap.size:=by intro b hb;have hh:=Hp b hb;cases hx:g.eo b with|none=>rw[hx]at hh;cases hh|some x=>exact(h.fV b x hx).1
 obtain⟨g',ON,h'⟩:=h.aeD d (cs:=cs) (arr:=arr) (T:=T) (fr:=(0,0)) (fp:=fp) (w':=w.alloc (.cells arr T)) (bnew:=w.heap.size) (hw':=λb=>if b=w.heap.size then 0 else g.hw b) (.inr ⟨ba _,M4⟩) (Fr.alloc _ _ _) (heap_alloc_new w _) (by intro j _;simp) (by simp) (by simp) (λb x hx _ Jo=>by simp[Jo]) (λb o u ho hu=>by have hb:b<w.heap.size:=World.block_lt_of_cell? w _ hu;exact⟨by simp[iK hb];exact ho,by rw[World.cell?_alloc_lt w _ _ hb];exact hu⟩) hr hn (λhm=>pL _ (iG _ hm)) (λb hb=>⟨by have:=iG b hb;simp;omega,.inl (Hp b hb)⟩);have hd:d<st.boxes.length:=(aJ.1 M4).1;exact⟨g',h'.quiet (some d) (oM ⟨by simp[cO,ON],⟨cs,by rw[lU];simp[hd]⟩,rfl⟩)⟩
theorem aeu {E:Env}(hE:kA P E.ty){o:Oper}(ho:o.op=.alloc T)(h:pF C st a w){K:AS->au R}(hk:Jq E o T st K=some r):oX P C o a w K r:=by
 unfold Jq at hk;split at hk;rename_i d sh hd hT;split at hk;rename_i M4;obtain⟨i,z,hi,xp,_,hz,hzc⟩:=(hE T sh hT).elem.info;have ej:(execOp a.eval o).run P w=.ok (.value (.pointer (some ⟨w.heap.size,0,none⟩))) (w.alloc (.cells z.cells T)):=by simp[execOp,ho,Instr.alloc,zeroValue,typeInfo,hi,hz,newVar,newRow]
 obtain⟨g,hg⟩:=h;refine⟨_,_,_,.inl ej,?_,hk⟩;rw[hd];refine hg.amK d (fp:=[]) M4 ?_ (by simp) (by simp);rw[hzc];exact wz (MM _ _ _);cases hk;cases hk
theorem Rd {g:Bool}{v:Value}{vs:iU}(hv:Cut g v vs)(h1:∀u∈vs,u.oneCell'=true):v.cells.toList=vs:=by unfold Cut at hv;cases g with|true=>simp at hv;subst hv;simp[Value.cells]|false=>simp at hv;subst hv;have:=h1 v (by simp);cases v<;>simp[Value.cells,Value.oneCell']at this⊢
theorem akX {o:Oper}(ho:o.op=.box T x)(h:pF C st a w){K:AS->au R}(hk:Zr o x st K=some r):oX P C o a w K r:=by
 unfold Zr at hk;split at hk;rename_i d gg cs st' hd xv;split at hk;rename_i M4;split at hk;rename_i al3;obtain⟨g,hg⟩:=h;obtain⟨g',oV⟩:=hg.take x;rw[xv]at oV;obtain⟨fp,⟨vs,eM,hr⟩,hn,hl⟩:=oV.hands 0 _ _ rfl;have h1:=hr.pt al3;have Ig:=Rd eM h1;have ej:(execOp a.eval o).run P w=.ok (.value (.pointer (some ⟨w.heap.size,0,none⟩))) (w.alloc (.cells (a.eval x).cells T)):=by simp[execOp,ho,Instr.box,newVar,newRow]
 refine⟨_,_,_,.inl ej,?_,hk⟩;rw[hd];refine oV.amK d (fp:=fp) M4 ?_ hn (λb hb=>by rw[hl b hb];rfl);rw[Ig];rw[dV]at M4;refine hr.mono ?_ (λb hb=>?_);refine⟨rfl,λ_ ht=>⟨ht,rfl⟩,λ_ b o u _ hu=>F2 (Fr.alloc _ _ _) hu,ba _,λs hs=>⟨hs,?_⟩,λ_ b o u ho hu=>?_⟩;obtain⟨c0,hc0⟩:=hs;have hsd:s≠d:=by rintro rfl;rw[M4]at hc0;cases hc0
 simp[hsd,cO];have hb:b<w.heap.size:=World.block_lt_of_cell? w _ hu;exact⟨by simp[iK hb];exact ho,F2 (Fr.alloc _ _ _) hu⟩;have ib:b<w.heap.size:=(oV.fV b _ (hl b hb)).1;exact⟨heap_alloc_old w _ b ib,by simp[iK ib,cO]⟩;cases hk;cases hk;cases hk
end Go.Dn
