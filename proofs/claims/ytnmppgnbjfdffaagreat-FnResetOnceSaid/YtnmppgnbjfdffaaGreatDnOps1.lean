import Derived.Test.YtnmppgnbjfdffaaGreatDnMem
/- One operation after another: what the abstract step says, the model's run does. Part 1: slots and boxes. -/
namespace Go.Dn
open Go.RowKit
variable {P:Program} {C:Ctx} {st:AS} {a:Act} {w:World} {R:Type} {r:R}
variable {x:Operand} {c:RC} {T:TypeId} {v:Value} {fp:ff}
def lH (P:Program)(C:Ctx)(o:Oper)(a:Act)(w:World)(K:AS->ay R)(r:R):Prop:=
 ∃v w' bI,((execOp a.eval o).run P w=.ok (.value v) w'\/(v=undef/\(execOp a.eval o).run P w=.ok .skip w'))/\mP C bI (a.put o.dst v) w'/\K bI=some r
theorem mP.put (h:mP C st a w)(d:ay Nat){av:AV}(hr:∀g,dH C g st a w []->fP (cH C g st w) v av []): mP C (st.put d av) (a.put d v) w:=by obtain⟨g,h⟩:=h;exact⟨g,h.quiet d (hr g h)⟩
theorem mP.grow (h:mP C st a w){w':World}(hf:Fr (λ_=>False) w w'):mP C st a w':=by obtain⟨g,h⟩:=h;exact⟨g,h.grow hf⟩
theorem Pg (x:Operand):(st.take x).2.ep=st.ep:=by cases x<;>simp[AS.take,Gi]
theorem dH.Av {g:Gh}{av:AV}(h:dH C g st a w [(v,av)])(d:ay Nat):mP C (st.put d av) (a.put d v) w:=by obtain⟨fp,hr,hn,hl⟩:=h.hands 0 v av rfl;exact h.Kt d rfl rfl rfl rfl (λt ht=>⟨ht,rfl⟩) (Fr.refl _ _) (λ_ _ _ _=>rfl) (λ_ _ _ ho hu=>⟨ho,hu⟩) hr hn (λb hb=>⟨(h.fQ b _ (hl b hb)).1,.inl (by rw[hl b hb];rfl)⟩)
theorem iD {k:IntKind}{n:Int}(h:fP c v (.val false [.int k n]) fp):v=.int k n:=by obtain⟨vs,hc,hr⟩:=h;simp only[Cut,aU,bQ]at hc;subst hc;obtain⟨f1,f2,rfl,h1,_⟩:=hr;exact h1.1
theorem tp {b:Bool}(h:fP c v (.val false [.bool b]) fp):v=.bool b:=by obtain⟨vs,hc,hr⟩:=h;simp only[Cut,aU,bQ]at hc;subst hc;obtain⟨f1,f2,rfl,h1,_⟩:=hr;exact h1.1
theorem ee {x:AC}(h:fP c v (.val false [x]) fp):gy c v x fp:=by obtain⟨vs,hc,hr⟩:=h;simp only[Cut,aU,bQ]at hc;subst hc;obtain⟨f1,f2,rfl,h1,h2⟩:=hr;cases h2;simpa using h1
theorem ly {x:AC}(h:gy c v x fp):fP c v (.one x) fp:=⟨[v],by simp[Cut],fp,[],by simp,h,rfl⟩
theorem XY {an:An}{o:Oper}(ho:o.op=.move x)(h:mP C st a w){K:AS->ay R}(hk:zG an o x st K=some r):lH P C o a w K r:=by
 have dV:(execOp a.eval o).run P w=.ok (.value (a.eval x)) w:=by simp[execOp,ho]
 unfold zG at hk;cases hd:o.dst with|none=>rw[hd]at hk;cases hk|some d=>rw[hd]at hk;simp only at hk;split at hk;obtain⟨g,h⟩:=h;obtain⟨g',h'⟩:=h.take x;refine⟨_,_,_,.inl dV,?_,hk⟩;rw[hd];exact dH.Av h' (some d);refine⟨_,_,_,.inl dV,?_,hk⟩;rw[hd];exact h.put (some d) (λg hg=>hg.rd x)
theorem adB (c:RC)(e:CT):gy c (.slice none 0 0) (.sl (.own none) e []) []:=⟨⟨_,rfl,.inl ⟨⟨_,rfl⟩,rfl,rfl⟩⟩,by simp⟩
theorem PG {E:Env}{an:An}{o:Oper}(ho:o.op=.assign x)(h:mP C st a w){K:AS->ay R}(hk:sD E an o x st K=some r):lH P C o a w K r:=by
 have dV:(execOp a.eval o).run P w=.ok (.value (a.eval x)) w:=by simp[execOp,ho]
 unfold sD at hk;split at hk;rename_i bI qD;have hv:a.eval x=.slice none 0 0:=by obtain⟨g,hg⟩:=h;obtain⟨g',mO⟩:=hg.take x;rw[qD]at mO;obtain⟨fp,hr,_⟩:=mO.hands 0 _ _ rfl;exact(ee hr).1
 split at hk;rename_i e _;refine⟨_,_,_,.inl dV,?_,hk⟩;rw[hv];cases ah0 an o with|true=>exact h.put o.dst (λg hg=>ly ⟨rfl,rfl⟩)|false=>exact h.put o.dst (λg hg=>ly (adB _ e))
 cases hk;rename_i v bI Ad qD;obtain⟨g,h⟩:=h;obtain⟨g',h'⟩:=h.take x;rw[qD]at h';refine⟨_,_,_,.inl dV,?_,hk⟩;exact dH.Av h' o.dst
theorem Yk {o:Oper}{c y:Operand}(ho:o.op=.pick c x y)(h:mP C st a w){K:AS->ay R}(hk:B0 o c x y st K=some r):lH P C o a w K r:=by
 unfold B0 at hk;split at hk;rename_i t hc;obtain⟨g,hg⟩:=id h;have hb:=hg.rd c;rw[hc]at hb;have hcv:=tp hb;have dV:(execOp a.eval o).run P w=.ok (.value (if t then a.eval x else a.eval y)) w:=by simp[execOp,ho,hcv,asBool]
 split at hk;rename_i p q hx hy;have sC:=hg.rd x;have Mt:=hg.rd y;rw[hx]at sC;rw[hy]at Mt;refine⟨_,_,_,.inl dV,?_,hk⟩;refine h.put o.dst (λg' mO=>ly ⟨?_,rfl⟩);rw[tp sC,tp Mt];cases t<;>rfl;cases t with|true=>exact⟨_,_,_,.inl dV,h.put o.dst (λg' mO=>mO.rd x),hk⟩|false=>exact⟨_,_,_,.inl dV,h.put o.dst (λg' mO=>mO.rd y),hk⟩
 cases hk
theorem dH.abo {g:Gh}{hs:aw (Value×AV)}(h:dH C g st a w hs)(d:Nat){cs:aw AC}{arr:Array Value}(Ep:nth st.boxes d=some none)(hr:bA ⟨λb=>if b=w.heap.size then 0 else g.hw b,λt=>if t=d then w.heap.size else g.β t,C.A,g.hdr,lJ st,st.ep,iQ st,w.alloc (.cells arr T)⟩ arr.toList cs fp)(hn:fp.Nodup)(AU:∀b∈fp,dD (g.dX b)): mP C ((st.eu d (some cs)).put (some d) (.one (.ptr d 0))) (a.put (some d) (.pointer (some ⟨w.heap.size,0,none⟩))) (w.alloc (.cells arr T)):=by
 rw[dF]at Ep;have hG:∀b∈fp,b<w.heap.size:=by intro b hb;have hh:=AU b hb;cases hx:g.dX b with|none=>rw[hx]at hh;cases hh|some x=>exact(h.fQ b x hx).1
 obtain⟨g',Gq,h'⟩:=h.SS d (cs:=cs) (arr:=arr) (T:=T) (fr:=(0,0)) (fp:=fp) (w':=w.alloc (.cells arr T)) (bnew:=w.heap.size) (hw':=λb=>if b=w.heap.size then 0 else g.hw b) (.inr ⟨aS _,Ep⟩) (Fr.alloc _ _ _) (heap_alloc_new w _) (by intro j _;simp) (by simp) (by simp) (λb x hx _ Ad=>by simp[Ad]) (λb o u ho hu=>by have hb:b<w.heap.size:=World.block_lt_of_cell? w _ hu;exact⟨by simp[gF hb];exact ho,by rw[World.cell?_alloc_lt w _ _ hb];exact hu⟩) hr hn (λhm=>Nat.lt_irrefl _ (hG _ hm)) (λb hb=>⟨by have:=hG b hb;simp;omega,.inl (AU b hb)⟩);have hd:d<st.boxes.length:=(aE.1 Ep).1;exact⟨g',h'.quiet (some d) (ly ⟨by simp[cH,Gq],⟨cs,by rw[jI];simp[hd]⟩,rfl⟩)⟩
theorem SJ {E:Env}(hE:iY P E.ty){o:Oper}(ho:o.op=.alloc T)(h:mP C st a w){K:AS->ay R}(hk:zS E o T st K=some r):lH P C o a w K r:=by
 unfold zS at hk;split at hk;rename_i d sh hd hT;split at hk;rename_i Ep;obtain⟨i,z,hi,sB,_,hz,hzc⟩:=(hE T sh hT).elem.info;have dV:(execOp a.eval o).run P w=.ok (.value (.pointer (some ⟨w.heap.size,0,none⟩))) (w.alloc (.cells z.cells T)):=by simp[execOp,ho,Instr.alloc,zeroValue,typeInfo,hi,hz,newVar,newRow]
 obtain⟨g,hg⟩:=h;refine⟨_,_,_,.inl dV,?_,hk⟩;rw[hd];refine hg.abo d (fp:=[]) Ep ?_ (by simp) (by simp);rw[hzc];exact xu (Cr _ _ _);cases hk;cases hk
theorem Ge {g:Bool}{vs:ir}(hv:Cut g v vs)(h1:∀u∈vs,u.oneCell'=true):v.cells.toList=vs:=by unfold Cut at hv;cases g with|true=>simp at hv;subst hv;simp[Value.cells]|false=>simp at hv;subst hv;have:=h1 v (by simp);cases v<;>simp[Value.cells,Value.oneCell']at this⊢
theorem ZI {o:Oper}(ho:o.op=.box T x)(h:mP C st a w){K:AS->ay R}(hk:Nt o x st K=some r):lH P C o a w K r:=by
 unfold Nt at hk;split at hk;rename_i d gg cs bI hd qD;split at hk;rename_i Ep;split at hk;rename_i aaQ;obtain⟨g,hg⟩:=h;obtain⟨g',mO⟩:=hg.take x;rw[qD]at mO;obtain⟨fp,⟨vs,eY,hr⟩,hn,hl⟩:=mO.hands 0 _ _ rfl;have h1:=hr.lV aaQ;have yS:=Ge eY h1;have dV:(execOp a.eval o).run P w=.ok (.value (.pointer (some ⟨w.heap.size,0,none⟩))) (w.alloc (.cells (a.eval x).cells T)):=by simp[execOp,ho,Instr.box,newVar,newRow]
 refine⟨_,_,_,.inl dV,?_,hk⟩;rw[hd];refine mO.abo d (fp:=fp) Ep ?_ hn (λb hb=>by rw[hl b hb];rfl);rw[yS];rw[dF]at Ep;refine hr.mono ?_ (λb hb=>?_);refine⟨rfl,λ_ ht=>⟨ht,rfl⟩,λ_ b o u _ hu=>xm (Fr.alloc _ _ _) hu,aS _,λs hs=>⟨hs,?_⟩,λ_ b o u ho hu=>?_⟩;obtain⟨c0,VO⟩:=hs;have hsd:s≠d:=by rintro rfl;rw[Ep]at VO;cases VO
 simp[hsd,cH];have hb:b<w.heap.size:=World.block_lt_of_cell? w _ hu;exact⟨by simp[gF hb];exact ho,xm (Fr.alloc _ _ _) hu⟩;have gK:b<w.heap.size:=(mO.fQ b _ (hl b hb)).1;exact⟨heap_alloc_old w _ b gK,by simp[gF gK,cH]⟩;cases hk;cases hk;cases hk
end Go.Dn
