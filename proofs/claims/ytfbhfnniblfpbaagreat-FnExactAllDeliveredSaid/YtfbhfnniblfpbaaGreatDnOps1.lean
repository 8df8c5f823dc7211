import Derived.Test.YtfbhfnniblfpbaaGreatDnMem
/- One operation after another: what the abstract step says, the model's run does. Part 1: slots and boxes. -/
namespace Go.Dn
open Go.RowKit
variable {P:Program} {C:Ctx} {st:AS} {a:Act} {w:World} {R:Type} {r:R}
variable {x:Operand} {c:RC} {T:TypeId} {fp:dI}
def mJ (P:Program)(C:Ctx)(o:Oper)(a:Act)(w:World)(K:AS->aw R)(r:R):Prop:=
 ∃v w' st',((execOp a.eval o).run P w=.ok (.value v) w'\/(v=undef/\(execOp a.eval o).run P w=.ok .skip w'))/\nb C st' (a.put o.dst v) w'/\K st'=some r
theorem nb.put (h:nb C st a w)(d:aw Nat){v:Value}{av:AV}(hr:∀g,dk C g st a w []->fy (cq C g st w) v av []): nb C (st.put d av) (a.put d v) w:=by obtain⟨g,h⟩:=h;exact⟨g,h.quiet d (hr g h)⟩
theorem nb.grow (h:nb C st a w){w':World}(hf:Fr (λ_=>False) w w'):nb C st a w':=by obtain⟨g,h⟩:=h;exact⟨g,h.grow hf⟩
theorem TK (x:Operand):(st.take x).2.ep=st.ep:=by cases x<;>simp[AS.take,KN]
theorem dk.EI {g:Gh}{v:Value}{av:AV}(h:dk C g st a w [(v,av)])(d:aw Nat):nb C (st.put d av) (a.put d v) w:=by obtain⟨fp,hr,hn,hl⟩:=h.hands 0 v av rfl;exact h.OU d rfl rfl rfl rfl (λt ht=>⟨ht,rfl⟩) (Fr.refl _ _) (λ_ _ _ _=>rfl) (λ_ _ _ ho hu=>⟨ho,hu⟩) hr hn (λb hb=>⟨(h.fa b _ (hl b hb)).1,.inl (by rw[hl b hb];rfl)⟩)
theorem iE {v:Value}{k:IntKind}{n:Int}(h:fy c v (.val false [.int k n]) fp):v=.int k n:=by obtain⟨vs,hc,hr⟩:=h;simp only[Cut,aY,bV]at hc;subst hc;obtain⟨f1,f2,rfl,h1,_⟩:=hr;exact h1.1
theorem wz {v:Value}{b:Bool}(h:fy c v (.val false [.bool b]) fp):v=.bool b:=by obtain⟨vs,hc,hr⟩:=h;simp only[Cut,aY,bV]at hc;subst hc;obtain⟨f1,f2,rfl,h1,_⟩:=hr;exact h1.1
theorem dE {v:Value}{x:AC}(h:fy c v (.val false [x]) fp):gr c v x fp:=by obtain⟨vs,hc,hr⟩:=h;simp only[Cut,aY,bV]at hc;subst hc;obtain⟨f1,f2,rfl,h1,h2⟩:=hr;cases h2;simpa using h1
theorem mu {v:Value}{x:AC}(h:gr c v x fp):fy c v (.one x) fp:=⟨[v],by simp[Cut],fp,[],by simp,h,rfl⟩
theorem abo {an:An}{o:Oper}(ho:o.op=.move x)(h:nb C st a w){K:AS->aw R}(hk:DF an o x st K=some r):mJ P C o a w K r:=by
 have dA:(execOp a.eval o).run P w=.ok (.value (a.eval x)) w:=by simp[execOp,ho]
 unfold DF at hk;cases hd:o.dst with|none=>rw[hd]at hk;cases hk|some d=>rw[hd]at hk;simp only at hk;split at hk;obtain⟨g,h⟩:=h;obtain⟨g',h'⟩:=h.take x;refine⟨_,_,_,.inl dA,?_,hk⟩;rw[hd];exact dk.EI h' (some d);refine⟨_,_,_,.inl dA,?_,hk⟩;rw[hd];exact h.put (some d) (λg hg=>hg.rd x)
theorem afM (c:RC)(e:CT):gr c (.slice none 0 0) (.sl (.own none) e []) []:=⟨⟨_,rfl,.inl ⟨⟨_,rfl⟩,rfl,rfl⟩⟩,by simp⟩
theorem Ua {E:Env}{an:An}{o:Oper}(ho:o.op=.assign x)(h:nb C st a w){K:AS->aw R}(hk:vw E an o x st K=some r):mJ P C o a w K r:=by
 have dA:(execOp a.eval o).run P w=.ok (.value (a.eval x)) w:=by simp[execOp,ho]
 unfold vw at hk;split at hk;rename_i st' sX;have hv:a.eval x=.slice none 0 0:=by obtain⟨g,hg⟩:=h;obtain⟨g',mI⟩:=hg.take x;rw[sX]at mI;obtain⟨fp,hr,_⟩:=mI.hands 0 _ _ rfl;exact(dE hr).1
 split at hk;rename_i e _;refine⟨_,_,_,.inl dA,?_,hk⟩;rw[hv];cases aiw an o with|true=>exact h.put o.dst (λg hg=>mu ⟨rfl,rfl⟩)|false=>exact h.put o.dst (λg hg=>mu (afM _ e))
 cases hk;rename_i v st' Ea sX;obtain⟨g,h⟩:=h;obtain⟨g',h'⟩:=h.take x;rw[sX]at h';refine⟨_,_,_,.inl dA,?_,hk⟩;exact dk.EI h' o.dst
theorem abO {o:Oper}{c y:Operand}(ho:o.op=.pick c x y)(h:nb C st a w){K:AS->aw R}(hk:GD o c x y st K=some r):mJ P C o a w K r:=by
 unfold GD at hk;split at hk;rename_i t hc;obtain⟨g,hg⟩:=id h;have hb:=hg.rd c;rw[hc]at hb;have hcv:=wz hb;have dA:(execOp a.eval o).run P w=.ok (.value (if t then a.eval x else a.eval y)) w:=by simp[execOp,ho,hcv,asBool]
 split at hk;rename_i p q hx hy;have vp:=hg.rd x;have Q2:=hg.rd y;rw[hx]at vp;rw[hy]at Q2;refine⟨_,_,_,.inl dA,?_,hk⟩;refine h.put o.dst (λg' mI=>mu ⟨?_,rfl⟩);rw[wz vp,wz Q2];cases t<;>rfl;cases t with|true=>exact⟨_,_,_,.inl dA,h.put o.dst (λg' mI=>mI.rd x),hk⟩|false=>exact⟨_,_,_,.inl dA,h.put o.dst (λg' mI=>mI.rd y),hk⟩
 cases hk
theorem dk.ad9 {g:Gh}{hs:au (Value×AV)}(h:dk C g st a w hs)(d:Nat){cs:au AC}{arr:Array Value}(I4:nth st.boxes d=some none)(hr:bp ⟨λb=>if b=w.heap.size then 0 else g.hw b,λt=>if t=d then w.heap.size else g.β t,C.A,g.hdr,ll st,st.ep,fX st,w.alloc (.cells arr T)⟩ arr.toList cs fp)(hn:fp.Nodup)(B7:∀b∈fp,cQ (g.dB b)): nb C ((st.ed d (some cs)).put (some d) (.one (.ptr d 0))) (a.put (some d) (.pointer (some ⟨w.heap.size,0,none⟩))) (w.alloc (.cells arr T)):=by
 rw[dv]at I4;have gq:∀b∈fp,b<w.heap.size:=by intro b hb;have hh:=B7 b hb;cases hx:g.dB b with|none=>rw[hx]at hh;cases hh|some x=>exact(h.fa b x hx).1
 obtain⟨g',ID,h'⟩:=h.W4 d (cs:=cs) (arr:=arr) (T:=T) (fr:=(0,0)) (fp:=fp) (w':=w.alloc (.cells arr T)) (bnew:=w.heap.size) (hw':=λb=>if b=w.heap.size then 0 else g.hw b) (.inr ⟨aX _,I4⟩) (Fr.alloc _ _ _) (heap_alloc_new w _) (by intro j _;simp) (by simp) (by simp) (λb x hx _ Ea=>by simp[Ea]) (λb o u ho hu=>by have hb:b<w.heap.size:=World.block_lt_of_cell? w _ hu;exact⟨by simp[gD hb];exact ho,by rw[World.cell?_alloc_lt w _ _ hb];exact hu⟩) hr hn (λhm=>ng _ (gq _ hm)) (λb hb=>⟨by have:=gq b hb;simp;omega,.inl (B7 b hb)⟩);have hd:d<st.boxes.length:=(aD.1 I4).1;exact⟨g',h'.quiet (some d) (mu ⟨by simp[cq,ID],⟨cs,by rw[kb];simp[hd]⟩,rfl⟩)⟩
theorem WW {E:Env}(hE:jf P E.ty){o:Oper}(ho:o.op=.alloc T)(h:nb C st a w){K:AS->aw R}(hk:DY E o T st K=some r):mJ P C o a w K r:=by
 unfold DY at hk;split at hk;rename_i d sh hd hT;split at hk;rename_i I4;obtain⟨i,z,hi,sR,_,hz,hzc⟩:=(hE T sh hT).elem.info;have dA:(execOp a.eval o).run P w=.ok (.value (.pointer (some ⟨w.heap.size,0,none⟩))) (w.alloc (.cells z.cells T)):=by simp[execOp,ho,Instr.alloc,zeroValue,typeInfo,hi,hz,newVar,newRow]
 obtain⟨g,hg⟩:=h;refine⟨_,_,_,.inl dA,?_,hk⟩;rw[hd];refine hg.ad9 d (fp:=[]) I4 ?_ (by simp) (by simp);rw[hzc];exact sa (GY _ _ _);cases hk;cases hk
theorem KL {g:Bool}{v:Value}{vs:gP}(hv:Cut g v vs)(h1:∀u∈vs,u.oneCell'=true):v.cells.toList=vs:=by unfold Cut at hv;cases g with|true=>simp at hv;subst hv;simp[Value.cells]|false=>simp at hv;subst hv;have:=h1 v (by simp);cases v<;>simp[Value.cells,Value.oneCell']at this⊢
theorem acK {o:Oper}(ho:o.op=.box T x)(h:nb C st a w){K:AS->aw R}(hk:Sg o x st K=some r):mJ P C o a w K r:=by
 unfold Sg at hk;split at hk;rename_i d gg cs st' hd sX;split at hk;rename_i I4;split at hk;rename_i adB;obtain⟨g,hg⟩:=h;obtain⟨g',mI⟩:=hg.take x;rw[sX]at mI;obtain⟨fp,⟨vs,dM,hr⟩,hn,hl⟩:=mI.hands 0 _ _ rfl;have h1:=hr.mU adB;have C0:=KL dM h1;have dA:(execOp a.eval o).run P w=.ok (.value (.pointer (some ⟨w.heap.size,0,none⟩))) (w.alloc (.cells (a.eval x).cells T)):=by simp[execOp,ho,Instr.box,newVar,newRow]
 refine⟨_,_,_,.inl dA,?_,hk⟩;rw[hd];refine mI.ad9 d (fp:=fp) I4 ?_ hn (λb hb=>by rw[hl b hb];rfl);rw[C0];rw[dv]at I4;refine hr.mono ?_ (λb hb=>?_);refine⟨rfl,λ_ ht=>⟨ht,rfl⟩,λ_ b o u _ hu=>AP (Fr.alloc _ _ _) hu,aX _,λs hs=>⟨hs,?_⟩,λ_ b o u ho hu=>?_⟩;obtain⟨c0,WJ⟩:=hs;have hsd:s≠d:=by rintro rfl;rw[I4]at WJ;cases WJ
 simp[hsd,cq];have hb:b<w.heap.size:=World.block_lt_of_cell? w _ hu;exact⟨by simp[gD hb];exact ho,AP (Fr.alloc _ _ _) hu⟩;have gn:b<w.heap.size:=(mI.fa b _ (hl b hb)).1;exact⟨heap_alloc_old w _ b gn,by simp[gD gn,cq]⟩;cases hk;cases hk;cases hk
end Go.Dn
