import Derived.Test.YtnmppgnbjfdffaaGreatDnMem
/- One operation after another: what the abstract step says, the model's run does. Part 1: slots and boxes. -/
namespace Go.Dn
open Go.RowKit
variable {P:Program} {C:Ctx} {st:AS} {a:Act} {w:World} {R:Type} {r:R}
variable {x:Operand} {c:RC} {T:TypeId} {v:Value} {fp:fw}
def ma (P:Program)(C:Ctx)(o:Oper)(a:Act)(w:World)(K:AS->ax R)(r:R):Prop:=
 ∃v w' bH,((execOp a.eval o).run P w=.ok (.value v) w'\/(v=undef/\(execOp a.eval o).run P w=.ok .skip w'))/\np C bH (a.put o.dst v) w'/\K bH=some r
theorem np.put (h:np C st a w)(d:ax Nat){av:AV}(hr:∀g,dM C g st a w []->fR (cH C g st w) v av []): np C (st.put d av) (a.put d v) w:=by obtain⟨g,h⟩:=h;exact⟨g,h.quiet d (hr g h)⟩
theorem np.grow (h:np C st a w){w':World}(hf:Fr (λ_=>False) w w'):np C st a w':=by obtain⟨g,h⟩:=h;exact⟨g,h.grow hf⟩
theorem Qp (x:Operand):(st.take x).2.ep=st.ep:=by cases x<;>simp[AS.take,G5]
theorem dM.Bp {g:Gh}{av:AV}(h:dM C g st a w [(v,av)])(d:ax Nat):np C (st.put d av) (a.put d v) w:=by obtain⟨fp,hr,hn,hl⟩:=h.hands 0 v av rfl;exact h.Ll d rfl rfl rfl rfl (λt ht=>⟨ht,rfl⟩) (Fr.refl _ _) (λ_ _ _ _=>rfl) (λ_ _ _ ho hu=>⟨ho,hu⟩) hr hn (λb hb=>⟨(h.fS b _ (hl b hb)).1,.inl (by rw[hl b hb];rfl)⟩)
theorem iE {k:IntKind}{n:Int}(h:fR c v (.val false [.int k n]) fp):v=.int k n:=by obtain⟨vs,hc,hr⟩:=h;simp only[Cut,aW,bU]at hc;subst hc;obtain⟨f1,f2,rfl,h1,_⟩:=hr;exact h1.1
theorem tY {b:Bool}(h:fR c v (.val false [.bool b]) fp):v=.bool b:=by obtain⟨vs,hc,hr⟩:=h;simp only[Cut,aW,bU]at hc;subst hc;obtain⟨f1,f2,rfl,h1,_⟩:=hr;exact h1.1
theorem ew {x:AC}(h:fR c v (.val false [x]) fp):gA c v x fp:=by obtain⟨vs,hc,hr⟩:=h;simp only[Cut,aW,bU]at hc;subst hc;obtain⟨f1,f2,rfl,h1,h2⟩:=hr;cases h2;simpa using h1
theorem lT {x:AC}(h:gA c v x fp):fR c v (.one x) fp:=⟨[v],by simp[Cut],fp,[],by simp,h,rfl⟩
theorem Zx {an:An}{o:Oper}(ho:o.op=.move x)(h:np C st a w){K:AS->ax R}(hk:Ay an o x st K=some r):ma P C o a w K r:=by
 have ee:(execOp a.eval o).run P w=.ok (.value (a.eval x)) w:=by simp[execOp,ho]
 unfold Ay at hk;cases hd:o.dst with|none=>rw[hd]at hk;cases hk|some d=>rw[hd]at hk;simp only at hk;split at hk;obtain⟨g,h⟩:=h;obtain⟨g',h'⟩:=h.take x;refine⟨_,_,_,.inl ee,?_,hk⟩;rw[hd];exact dM.Bp h' (some d);refine⟨_,_,_,.inl ee,?_,hk⟩;rw[hd];exact h.put (some d) (λg hg=>hg.rd x)
theorem afa (c:RC)(e:CT):gA c (.slice none 0 0) (.sl (.own none) e []) []:=⟨⟨_,rfl,.inl ⟨⟨_,rfl⟩,rfl,rfl⟩⟩,by simp⟩
theorem QK {E:Env}{an:An}{o:Oper}(ho:o.op=.assign x)(h:np C st a w){K:AS->ax R}(hk:tk E an o x st K=some r):ma P C o a w K r:=by
 have ee:(execOp a.eval o).run P w=.ok (.value (a.eval x)) w:=by simp[execOp,ho]
 unfold tk at hk;split at hk;rename_i bH rk;have hv:a.eval x=.slice none 0 0:=by obtain⟨g,hg⟩:=h;obtain⟨g',nm⟩:=hg.take x;rw[rk]at nm;obtain⟨fp,hr,_⟩:=nm.hands 0 _ _ rfl;exact(ew hr).1
 split at hk;rename_i e _;refine⟨_,_,_,.inl ee,?_,hk⟩;rw[hv];cases ajG an o with|true=>exact h.put o.dst (λg hg=>lT ⟨rfl,rfl⟩)|false=>exact h.put o.dst (λg hg=>lT (afa _ e))
 cases hk;rename_i v bH AY rk;obtain⟨g,h⟩:=h;obtain⟨g',h'⟩:=h.take x;rw[rk]at h';refine⟨_,_,_,.inl ee,?_,hk⟩;exact dM.Bp h' o.dst
theorem ZT {o:Oper}{c y:Operand}(ho:o.op=.pick c x y)(h:np C st a w){K:AS->ax R}(hk:CI o c x y st K=some r):ma P C o a w K r:=by
 unfold CI at hk;split at hk;rename_i t hc;obtain⟨g,hg⟩:=id h;have hb:=hg.rd c;rw[hc]at hb;have hcv:=tY hb;have ee:(execOp a.eval o).run P w=.ok (.value (if t then a.eval x else a.eval y)) w:=by simp[execOp,ho,hcv,asBool]
 split at hk;rename_i p q hx hy;have tj:=hg.rd x;have No:=hg.rd y;rw[hx]at tj;rw[hy]at No;refine⟨_,_,_,.inl ee,?_,hk⟩;refine h.put o.dst (λg' nm=>lT ⟨?_,rfl⟩);rw[tY tj,tY No];cases t<;>rfl;cases t with|true=>exact⟨_,_,_,.inl ee,h.put o.dst (λg' nm=>nm.rd x),hk⟩|false=>exact⟨_,_,_,.inl ee,h.put o.dst (λg' nm=>nm.rd y),hk⟩
 cases hk
theorem dM.acX {g:Gh}{hs:aw (Value×AV)}(h:dM C g st a w hs)(d:Nat){cs:aw AC}{arr:Array Value}(Fc:nth st.boxes d=some none)(hr:bB ⟨λb=>if b=w.heap.size then 0 else g.hw b,λt=>if t=d then w.heap.size else g.β t,C.A,g.hdr,md st,st.ep,iS st,w.alloc (.cells arr T)⟩ arr.toList cs fp)(hn:fp.Nodup)(BM:∀b∈fp,dE (g.ej b)): np C ((st.eF d (some cs)).put (some d) (.one (.ptr d 0))) (a.put (some d) (.pointer (some ⟨w.heap.size,0,none⟩))) (w.alloc (.cells arr T)):=by
 rw[dJ]at Fc;have gQ:∀b∈fp,b<w.heap.size:=by intro b hb;have hh:=BM b hb;cases hx:g.ej b with|none=>rw[hx]at hh;cases hh|some x=>exact(h.fS b x hx).1
 obtain⟨g',Hg,h'⟩:=h.TZ d (cs:=cs) (arr:=arr) (T:=T) (fr:=(0,0)) (fp:=fp) (w':=w.alloc (.cells arr T)) (bnew:=w.heap.size) (hw':=λb=>if b=w.heap.size then 0 else g.hw b) (.inr ⟨aU _,Fc⟩) (Fr.alloc _ _ _) (heap_alloc_new w _) (by intro j _;simp) (by simp) (by simp) (λb x hx _ AY=>by simp[AY]) (λb o u ho hu=>by have hb:b<w.heap.size:=World.block_lt_of_cell? w _ hu;exact⟨by simp[gH hb];exact ho,by rw[World.cell?_alloc_lt w _ _ hb];exact hu⟩) hr hn (λhm=>Nat.lt_irrefl _ (gQ _ hm)) (λb hb=>⟨by have:=gQ b hb;simp;omega,.inl (BM b hb)⟩);have hd:d<st.boxes.length:=(aF.1 Fc).1;exact⟨g',h'.quiet (some d) (lT ⟨by simp[cH,Hg],⟨cs,by rw[jJ];simp[hd]⟩,rfl⟩)⟩
theorem TQ {E:Env}(hE:ja P E.ty){o:Oper}(ho:o.op=.alloc T)(h:np C st a w){K:AS->ax R}(hk:AK E o T st K=some r):ma P C o a w K r:=by
 unfold AK at hk;split at hk;rename_i d sh hd hT;split at hk;rename_i Fc;obtain⟨i,z,hi,ti,_,hz,hzc⟩:=(hE T sh hT).elem.info;have ee:(execOp a.eval o).run P w=.ok (.value (.pointer (some ⟨w.heap.size,0,none⟩))) (w.alloc (.cells z.cells T)):=by simp[execOp,ho,Instr.alloc,zeroValue,typeInfo,hi,hz,newVar,newRow]
 obtain⟨g,hg⟩:=h;refine⟨_,_,_,.inl ee,?_,hk⟩;rw[hd];refine hg.acX d (fp:=[]) Fc ?_ (by simp) (by simp);rw[hzc];exact yd (C9 _ _ _);cases hk;cases hk
theorem G2 {g:Bool}{vs:iq}(hv:Cut g v vs)(h1:∀u∈vs,u.oneCell'=true):v.cells.toList=vs:=by unfold Cut at hv;cases g with|true=>simp at hv;subst hv;simp[Value.cells]|false=>simp at hv;subst hv;have:=h1 v (by simp);cases v<;>simp[Value.cells,Value.oneCell']at this⊢
theorem aaZ {o:Oper}(ho:o.op=.box T x)(h:np C st a w){K:AS->ax R}(hk:Ou o x st K=some r):ma P C o a w K r:=by
 unfold Ou at hk;split at hk;rename_i d gg cs bH hd rk;split at hk;rename_i Fc;split at hk;rename_i ach;obtain⟨g,hg⟩:=h;obtain⟨g',nm⟩:=hg.take x;rw[rk]at nm;obtain⟨fp,⟨vs,fi,hr⟩,hn,hl⟩:=nm.hands 0 _ _ rfl;have h1:=hr.my ach;have zP:=G2 fi h1;have ee:(execOp a.eval o).run P w=.ok (.value (.pointer (some ⟨w.heap.size,0,none⟩))) (w.alloc (.cells (a.eval x).cells T)):=by simp[execOp,ho,Instr.box,newVar,newRow]
 refine⟨_,_,_,.inl ee,?_,hk⟩;rw[hd];refine nm.acX d (fp:=fp) Fc ?_ hn (λb hb=>by rw[hl b hb];rfl);rw[zP];rw[dJ]at Fc;refine hr.mono ?_ (λb hb=>?_);refine⟨rfl,λ_ ht=>⟨ht,rfl⟩,λ_ b o u _ hu=>xV (Fr.alloc _ _ _) hu,aU _,λs hs=>⟨hs,?_⟩,λ_ b o u ho hu=>?_⟩;obtain⟨c0,W6⟩:=hs;have hsd:s≠d:=by rintro rfl;rw[Fc]at W6;cases W6
 simp[hsd,cH];have hb:b<w.heap.size:=World.block_lt_of_cell? w _ hu;exact⟨by simp[gH hb];exact ho,xV (Fr.alloc _ _ _) hu⟩;have gM:b<w.heap.size:=(nm.fS b _ (hl b hb)).1;exact⟨heap_alloc_old w _ b gM,by simp[gH gM,cH]⟩;cases hk;cases hk;cases hk
end Go.Dn
