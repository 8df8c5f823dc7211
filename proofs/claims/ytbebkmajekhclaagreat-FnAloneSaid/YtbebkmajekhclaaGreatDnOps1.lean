import Derived.Test.YtbebkmajekhclaaGreatDnMem
/- One operation after another: what the abstract step says, the model's run does. Part 1: slots and boxes. -/
namespace Go.Dn
open Go.RowKit
variable {P:Program} {C:Ctx} {st:AS} {a:Act} {w:World} {R:Type} {r:R}
variable {x:Operand} {c:RC} {T:TypeId} {v:Value} {fp:fE}
def nC (P:Program)(C:Ctx)(o:Oper)(a:Act)(w:World)(K:AS->ay R)(r:R):Prop:=
 ∃v w' bU,((execOp a.eval o).run P w=.ok (.value v) w'\/(v=undef/\(execOp a.eval o).run P w=.ok .skip w'))/\pc C bU (a.put o.dst v) w'/\K bU=some r
theorem pc.put (h:pc C st a w)(d:ay Nat){av:AV}(hr:∀g,ew C g st a w []->gK (db C g st w) v av []): pc C (st.put d av) (a.put d v) w:=by obtain⟨g,h⟩:=h;exact⟨g,h.quiet d (hr g h)⟩
theorem pc.grow (h:pc C st a w){w':World}(hf:Fr (λ_=>False) w w'):pc C st a w':=by obtain⟨g,h⟩:=h;exact⟨g,h.grow hf⟩
theorem VD (x:Operand):(st.take x).2.ep=st.ep:=by cases x<;>simp[AS.take,KW]
theorem ew.Ez {g:Gh}{av:AV}(h:ew C g st a w [(v,av)])(d:ay Nat):pc C (st.put d av) (a.put d v) w:=by obtain⟨fp,hr,hn,hl⟩:=h.hands 0 v av rfl;exact h.PT d rfl rfl rfl rfl (λt ht=>⟨ht,rfl⟩) (Fr.refl _ _) (λ_ _ _ _=>rfl) (λ_ _ _ ho hu=>⟨ho,hu⟩) hr hn (λb hb=>⟨(h.gL b _ (hl b hb)).1,.inl (by rw[hl b hb];rfl)⟩)
theorem jr {k:IntKind}{n:Int}(h:gK c v (.val false [.int k n]) fp):v=.int k n:=by obtain⟨vs,hc,hr⟩:=h;simp only[Cut,bm,cv]at hc;subst hc;obtain⟨f1,f2,rfl,h1,_⟩:=hr;exact h1.1
theorem xd {b:Bool}(h:gK c v (.val false [.bool b]) fp):v=.bool b:=by obtain⟨vs,hc,hr⟩:=h;simp only[Cut,bm,cv]at hc;subst hc;obtain⟨f1,f2,rfl,h1,_⟩:=hr;exact h1.1
theorem fb {x:AC}(h:gK c v (.val false [x]) fp):iq c v x fp:=by obtain⟨vs,hc,hr⟩:=h;simp only[Cut,bm,cv]at hc;subst hc;obtain⟨f1,f2,rfl,h1,h2⟩:=hr;cases h2;simpa using h1
theorem nq {x:AC}(h:iq c v x fp):gK c v (.one x) fp:=⟨[v],by simp[Cut],fp,[],by simp,h,rfl⟩
theorem afN {an:An}{o:Oper}(ho:o.op=.move x)(h:pc C st a w){K:AS->ay R}(hk:DW an o x st K=some r):nC P C o a w K r:=by
 have eU:(execOp a.eval o).run P w=.ok (.value (a.eval x)) w:=by simp[execOp,ho]
 unfold DW at hk;cases hd:o.dst with|none=>rw[hd]at hk;cases hk|some d=>rw[hd]at hk;simp only at hk;split at hk;obtain⟨g,h⟩:=h;obtain⟨g',h'⟩:=h.take x;refine⟨_,_,_,.inl eU,?_,hk⟩;rw[hd];exact ew.Ez h' (some d);refine⟨_,_,_,.inl eU,?_,hk⟩;rw[hd];exact h.put (some d) (λg hg=>hg.rd x)
theorem alR (c:RC)(e:CT):iq c (.slice none 0 0) (.sl (.own none) e []) []:=⟨⟨_,rfl,.inl ⟨⟨_,rfl⟩,rfl,rfl⟩⟩,by simp⟩
theorem V1 {E:Env}{an:An}{o:Oper}(ho:o.op=.assign x)(h:pc C st a w){K:AS->ay R}(hk:wb E an o x st K=some r):nC P C o a w K r:=by
 have eU:(execOp a.eval o).run P w=.ok (.value (a.eval x)) w:=by simp[execOp,ho]
 unfold wb at hk;split at hk;rename_i bU ue;have hv:a.eval x=.slice none 0 0:=by obtain⟨g,hg⟩:=h;obtain⟨g',oX⟩:=hg.take x;rw[ue]at oX;obtain⟨fp,hr,_⟩:=oX.hands 0 _ _ rfl;exact(fb hr).1
 split at hk;rename_i e _;refine⟨_,_,_,.inl eU,?_,hk⟩;rw[hv];cases aq4 an o with|true=>exact h.put o.dst (λg hg=>nq ⟨rfl,rfl⟩)|false=>exact h.put o.dst (λg hg=>nq (alR _ e))
 cases hk;rename_i v bU DK ue;obtain⟨g,h⟩:=h;obtain⟨g',h'⟩:=h.take x;rw[ue]at h';refine⟨_,_,_,.inl eU,?_,hk⟩;exact ew.Ez h' o.dst
theorem af9 {o:Oper}{c y:Operand}(ho:o.op=.pick c x y)(h:pc C st a w){K:AS->ay R}(hk:Ga o c x y st K=some r):nC P C o a w K r:=by
 unfold Ga at hk;split at hk;rename_i t hc;obtain⟨g,hg⟩:=id h;have hb:=hg.rd c;rw[hc]at hb;have hcv:=xd hb;have eU:(execOp a.eval o).run P w=.ok (.value (if t then a.eval x else a.eval y)) w:=by simp[execOp,ho,hcv,asBool]
 split at hk;rename_i p q hx hy;have wa:=hg.rd x;have Sh:=hg.rd y;rw[hx]at wa;rw[hy]at Sh;refine⟨_,_,_,.inl eU,?_,hk⟩;refine h.put o.dst (λg' oX=>nq ⟨?_,rfl⟩);rw[xd wa,xd Sh];cases t<;>rfl;cases t with|true=>exact⟨_,_,_,.inl eU,h.put o.dst (λg' oX=>oX.rd x),hk⟩|false=>exact⟨_,_,_,.inl eU,h.put o.dst (λg' oX=>oX.rd y),hk⟩
 cases hk
theorem ew.ajk {g:Gh}{hs:aw (Value×AV)}(h:ew C g st a w hs)(d:Nat){cs:aw AC}{arr:Array Value}(GY:nth st.boxes d=some none)(hr:bO ⟨λb=>if b=w.heap.size then 0 else g.hw b,λt=>if t=d then w.heap.size else g.β t,C.A,g.hdr,nD st,st.ep,jF st,w.alloc (.cells arr T)⟩ arr.toList cs fp)(hn:fp.Nodup)(E7:∀b∈fp,ei (g.eX b)): pc C ((st.fj d (some cs)).put (some d) (.one (.ptr d 0))) (a.put (some d) (.pointer (some ⟨w.heap.size,0,none⟩))) (w.alloc (.cells arr T)):=by
 rw[ej]at GY;have gF:∀b∈fp,b<w.heap.size:=by intro b hb;have hh:=E7 b hb;cases hx:g.eX b with|none=>rw[hx]at hh;cases hh|some x=>exact(h.gL b x hx).1
 obtain⟨g',K5,h'⟩:=h.ZZ d (cs:=cs) (arr:=arr) (T:=T) (fr:=(0,0)) (fp:=fp) (w':=w.alloc (.cells arr T)) (bnew:=w.heap.size) (hw':=λb=>if b=w.heap.size then 0 else g.hw b) (.inr ⟨bh _,GY⟩) (Fr.alloc _ _ _) (heap_alloc_new w _) (by intro j _;simp) (by simp) (by simp) (λb x hx _ DK=>by simp[DK]) (λb o u ho hu=>by have hb:b<w.heap.size:=World.block_lt_of_cell? w _ hu;exact⟨by simp[iC hb];exact ho,by rw[World.cell?_alloc_lt w _ _ hb];exact hu⟩) hr hn (λhm=>Nat.lt_irrefl _ (gF _ hm)) (λb hb=>⟨by have:=gF b hb;simp;omega,.inl (E7 b hb)⟩);have hd:d<st.boxes.length:=(aC.1 GY).1;exact⟨g',h'.quiet (some d) (nq ⟨by simp[db,K5],⟨cs,by rw[kI];simp[hd]⟩,rfl⟩)⟩
theorem ZP {E:Env}(hE:jR P E.ty){o:Oper}(ho:o.op=.alloc T)(h:pc C st a w){K:AS->ay R}(hk:Ea E o T st K=some r):nC P C o a w K r:=by
 unfold Ea at hk;split at hk;rename_i d sh hd hT;split at hk;rename_i GY;obtain⟨i,z,hi,vB,_,hz,hzc⟩:=(hE T sh hT).elem.info;have eU:(execOp a.eval o).run P w=.ok (.value (.pointer (some ⟨w.heap.size,0,none⟩))) (w.alloc (.cells z.cells T)):=by simp[execOp,ho,Instr.alloc,zeroValue,typeInfo,hi,hz,newVar,newRow]
 obtain⟨g,hg⟩:=h;refine⟨_,_,_,.inl eU,?_,hk⟩;rw[hd];refine hg.ajk d (fp:=[]) GY ?_ (by simp) (by simp);rw[hzc];exact Bu (GF _ _ _);cases hk;cases hk
theorem KS {g:Bool}{vs:jd}(hv:Cut g v vs)(h1:∀u∈vs,u.oneCell'=true):v.cells.toList=vs:=by unfold Cut at hv;cases g with|true=>simp at hv;subst hv;simp[Value.cells]|false=>simp at hv;subst hv;have:=h1 v (by simp);cases v<;>simp[Value.cells,Value.oneCell']at this⊢
theorem ahn {o:Oper}(ho:o.op=.box T x)(h:pc C st a w){K:AS->ay R}(hk:TF o x st K=some r):nC P C o a w K r:=by
 unfold TF at hk;split at hk;rename_i d gg cs bU hd ue;split at hk;rename_i GY;split at hk;rename_i aiJ;obtain⟨g,hg⟩:=h;obtain⟨g',oX⟩:=hg.take x;rw[ue]at oX;obtain⟨fp,⟨vs,fS,hr⟩,hn,hl⟩:=oX.hands 0 _ _ rfl;have h1:=hr.nR aiJ;have De:=KS fS h1;have eU:(execOp a.eval o).run P w=.ok (.value (.pointer (some ⟨w.heap.size,0,none⟩))) (w.alloc (.cells (a.eval x).cells T)):=by simp[execOp,ho,Instr.box,newVar,newRow]
 refine⟨_,_,_,.inl eU,?_,hk⟩;rw[hd];refine oX.ajk d (fp:=fp) GY ?_ hn (λb hb=>by rw[hl b hb];rfl);rw[De];rw[ej]at GY;refine hr.mono ?_ (λb hb=>?_);refine⟨rfl,λ_ ht=>⟨ht,rfl⟩,λ_ b o u _ hu=>Bo (Fr.alloc _ _ _) hu,bh _,λs hs=>⟨hs,?_⟩,λ_ b o u ho hu=>?_⟩;obtain⟨c0,hc0⟩:=hs;have hsd:s≠d:=by rintro rfl;rw[GY]at hc0;cases hc0
 simp[hsd,db];have hb:b<w.heap.size:=World.block_lt_of_cell? w _ hu;exact⟨by simp[iC hb];exact ho,Bo (Fr.alloc _ _ _) hu⟩;have ix:b<w.heap.size:=(oX.gL b _ (hl b hb)).1;exact⟨heap_alloc_old w _ b ix,by simp[iC ix,db]⟩;cases hk;cases hk;cases hk
end Go.Dn
