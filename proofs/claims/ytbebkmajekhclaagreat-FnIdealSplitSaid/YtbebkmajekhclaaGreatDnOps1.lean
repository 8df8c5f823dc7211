import Derived.Test.YtbebkmajekhclaaGreatDnMem
/- One operation after another: what the abstract step says, the model's run does. Part 1: slots and boxes. -/
namespace Go.Dn
open Go.RowKit
variable {P:Program} {C:Ctx} {st:AS} {a:Act} {w:World} {R:Type} {r:R}
variable {x:Operand} {c:RC} {T:TypeId} {v:Value} {fp:fA}
def nG (P:Program)(C:Ctx)(o:Oper)(a:Act)(w:World)(K:AS->az R)(r:R):Prop:=
 ∃v w' cp,((execOp a.eval o).run P w=.ok (.value v) w'\/(v=undef/\(execOp a.eval o).run P w=.ok .skip w'))/\py C cp (a.put o.dst v) w'/\K cp=some r
theorem py.put (h:py C st a w)(d:az Nat){av:AV}(hr:∀g,eE C g st a w []->gS (dq C g st w) v av []): py C (st.put d av) (a.put d v) w:=by obtain⟨g,h⟩:=h;exact⟨g,h.quiet d (hr g h)⟩
theorem py.grow (h:py C st a w){w':World}(hf:Fr (λ_=>False) w w'):py C st a w':=by obtain⟨g,h⟩:=h;exact⟨g,h.grow hf⟩
theorem XT (x:Operand):(st.take x).2.ep=st.ep:=by cases x<;>simp[AS.take,MO]
theorem eE.Gj {g:Gh}{av:AV}(h:eE C g st a w [(v,av)])(d:az Nat):py C (st.put d av) (a.put d v) w:=by obtain⟨fp,hr,hn,hl⟩:=h.hands 0 v av rfl;exact h.RV d rfl rfl rfl rfl (λt ht=>⟨ht,rfl⟩) (Fr.refl _ _) (λ_ _ _ _=>rfl) (λ_ _ _ ho hu=>⟨ho,hu⟩) hr hn (λb hb=>⟨(h.gN b _ (hl b hb)).1,.inl (by rw[hl b hb];rfl)⟩)
theorem jq {k:IntKind}{n:Int}(h:gS c v (.val false [.int k n]) fp):v=.int k n:=by obtain⟨vs,hc,hr⟩:=h;simp only[Cut,bn,cJ]at hc;subst hc;obtain⟨f1,f2,rfl,h1,_⟩:=hr;exact h1.1
theorem xP {b:Bool}(h:gS c v (.val false [.bool b]) fp):v=.bool b:=by obtain⟨vs,hc,hr⟩:=h;simp only[Cut,bn,cJ]at hc;subst hc;obtain⟨f1,f2,rfl,h1,_⟩:=hr;exact h1.1
theorem fu {x:AC}(h:gS c v (.val false [x]) fp):iy c v x fp:=by obtain⟨vs,hc,hr⟩:=h;simp only[Cut,bn,cJ]at hc;subst hc;obtain⟨f1,f2,rfl,h1,h2⟩:=hr;cases h2;simpa using h1
theorem nq {x:AC}(h:iy c v x fp):gS c v (.one x) fp:=⟨[v],by simp[Cut],fp,[],by simp,h,rfl⟩
theorem ahK {an:An}{o:Oper}(ho:o.op=.move x)(h:py C st a w){K:AS->az R}(hk:Fs an o x st K=some r):nG P C o a w K r:=by
 have fg:(execOp a.eval o).run P w=.ok (.value (a.eval x)) w:=by simp[execOp,ho]
 unfold Fs at hk;cases hd:o.dst with|none=>rw[hd]at hk;cases hk|some d=>rw[hd]at hk;simp only at hk;split at hk;obtain⟨g,h⟩:=h;obtain⟨g',h'⟩:=h.take x;refine⟨_,_,_,.inl fg,?_,hk⟩;rw[hd];exact eE.Gj h' (some d);refine⟨_,_,_,.inl fg,?_,hk⟩;rw[hd];exact h.put (some d) (λg hg=>hg.rd x)
theorem aoj (c:RC)(e:CT):iy c (.slice none 0 0) (.sl (.own none) e []) []:=⟨⟨_,rfl,.inl ⟨⟨_,rfl⟩,rfl,rfl⟩⟩,by simp⟩
theorem Yd {E:Env}{an:An}{o:Oper}(ho:o.op=.assign x)(h:py C st a w){K:AS->az R}(hk:xg E an o x st K=some r):nG P C o a w K r:=by
 have fg:(execOp a.eval o).run P w=.ok (.value (a.eval x)) w:=by simp[execOp,ho]
 unfold xg at hk;split at hk;rename_i cp vd;have hv:a.eval x=.slice none 0 0:=by obtain⟨g,hg⟩:=h;obtain⟨g',pw⟩:=hg.take x;rw[vd]at pw;obtain⟨fp,hr,_⟩:=pw.hands 0 _ _ rfl;exact(fu hr).1
 split at hk;rename_i e _;refine⟨_,_,_,.inl fg,?_,hk⟩;rw[hv];cases atm an o with|true=>exact h.put o.dst (λg hg=>nq ⟨rfl,rfl⟩)|false=>exact h.put o.dst (λg hg=>nq (aoj _ e))
 cases hk;rename_i v cp Fe vd;obtain⟨g,h⟩:=h;obtain⟨g',h'⟩:=h.take x;rw[vd]at h';refine⟨_,_,_,.inl fg,?_,hk⟩;exact eE.Gj h' o.dst
theorem ah6 {o:Oper}{c y:Operand}(ho:o.op=.pick c x y)(h:py C st a w){K:AS->az R}(hk:HO o c x y st K=some r):nG P C o a w K r:=by
 unfold HO at hk;split at hk;rename_i t hc;obtain⟨g,hg⟩:=id h;have hb:=hg.rd c;rw[hc]at hb;have hcv:=xP hb;have fg:(execOp a.eval o).run P w=.ok (.value (if t then a.eval x else a.eval y)) w:=by simp[execOp,ho,hcv,asBool]
 split at hk;rename_i p q hx hy;have xe:=hg.rd x;have UF:=hg.rd y;rw[hx]at xe;rw[hy]at UF;refine⟨_,_,_,.inl fg,?_,hk⟩;refine h.put o.dst (λg' pw=>nq ⟨?_,rfl⟩);rw[xP xe,xP UF];cases t<;>rfl;cases t with|true=>exact⟨_,_,_,.inl fg,h.put o.dst (λg' pw=>pw.rd x),hk⟩|false=>exact⟨_,_,_,.inl fg,h.put o.dst (λg' pw=>pw.rd y),hk⟩
 cases hk
theorem eE.alC {g:Gh}{hs:aw (Value×AV)}(h:eE C g st a w hs)(d:Nat){cs:aw AC}{arr:Array Value}(Js:nth st.boxes d=some none)(hr:ca ⟨λb=>if b=w.heap.size then 0 else g.hw b,λt=>if t=d then w.heap.size else g.β t,C.A,g.hdr,nH st,st.ep,jL st,w.alloc (.cells arr T)⟩ arr.toList cs fp)(hn:fp.Nodup)(GR:∀b∈fp,ej (g.fj b)): py C ((st.fD d (some cs)).put (some d) (.one (.ptr d 0))) (a.put (some d) (.pointer (some ⟨w.heap.size,0,none⟩))) (w.alloc (.cells arr T)):=by
 rw[ez]at Js;have gr:∀b∈fp,b<w.heap.size:=by intro b hb;have hh:=GR b hb;cases hx:g.fj b with|none=>rw[hx]at hh;cases hh|some x=>exact(h.gN b x hx).1
 obtain⟨g',MU,h'⟩:=h.abT d (cs:=cs) (arr:=arr) (T:=T) (fr:=(0,0)) (fp:=fp) (w':=w.alloc (.cells arr T)) (bnew:=w.heap.size) (hw':=λb=>if b=w.heap.size then 0 else g.hw b) (.inr ⟨bt _,Js⟩) (Fr.alloc _ _ _) (heap_alloc_new w _) (by intro j _;simp) (by simp) (by simp) (λb x hx _ Fe=>by simp[Fe]) (λb o u ho hu=>by have hb:b<w.heap.size:=World.block_lt_of_cell? w _ hu;exact⟨by simp[iK hb];exact ho,by rw[World.cell?_alloc_lt w _ _ hb];exact hu⟩) hr hn (λhm=>oo _ (gr _ hm)) (λb hb=>⟨by have:=gr b hb;simp;omega,.inl (GR b hb)⟩);have hd:d<st.boxes.length:=(aC.1 Js).1;exact⟨g',h'.quiet (some d) (nq ⟨by simp[dq,MU],⟨cs,by rw[kZ];simp[hd]⟩,rfl⟩)⟩
theorem abL {E:Env}(hE:ka P E.ty){o:Oper}(ho:o.op=.alloc T)(h:py C st a w){K:AS->az R}(hk:FI E o T st K=some r):nG P C o a w K r:=by
 unfold FI at hk;split at hk;rename_i d sh hd hT;split at hk;rename_i Js;obtain⟨i,z,hi,uU,_,hz,hzc⟩:=(hE T sh hT).elem.info;have fg:(execOp a.eval o).run P w=.ok (.value (.pointer (some ⟨w.heap.size,0,none⟩))) (w.alloc (.cells z.cells T)):=by simp[execOp,ho,Instr.alloc,zeroValue,typeInfo,hi,hz,newVar,newRow]
 obtain⟨g,hg⟩:=h;refine⟨_,_,_,.inl fg,?_,hk⟩;rw[hd];refine hg.alC d (fp:=[]) Js ?_ (by simp) (by simp);rw[hzc];exact CE (Iq _ _ _);cases hk;cases hk
theorem ML {g:Bool}{vs:jf}(hv:Cut g v vs)(h1:∀u∈vs,u.oneCell'=true):v.cells.toList=vs:=by unfold Cut at hv;cases g with|true=>simp at hv;subst hv;simp[Value.cells]|false=>simp at hv;subst hv;have:=h1 v (by simp);cases v<;>simp[Value.cells,Value.oneCell']at this⊢
theorem ajq {o:Oper}(ho:o.op=.box T x)(h:py C st a w){K:AS->az R}(hk:VV o x st K=some r):nG P C o a w K r:=by
 unfold VV at hk;split at hk;rename_i d gg cs cp hd vd;split at hk;rename_i Js;split at hk;rename_i ak2;obtain⟨g,hg⟩:=h;obtain⟨g',pw⟩:=hg.take x;rw[vd]at pw;obtain⟨fp,⟨vs,fU,hr⟩,hn,hl⟩:=pw.hands 0 _ _ rfl;have h1:=hr.nS ak2;have EA:=ML fU h1;have fg:(execOp a.eval o).run P w=.ok (.value (.pointer (some ⟨w.heap.size,0,none⟩))) (w.alloc (.cells (a.eval x).cells T)):=by simp[execOp,ho,Instr.box,newVar,newRow]
 refine⟨_,_,_,.inl fg,?_,hk⟩;rw[hd];refine pw.alC d (fp:=fp) Js ?_ hn (λb hb=>by rw[hl b hb];rfl);rw[EA];rw[ez]at Js;refine hr.mono ?_ (λb hb=>?_);refine⟨rfl,λ_ ht=>⟨ht,rfl⟩,λ_ b o u _ hu=>Ct (Fr.alloc _ _ _) hu,bt _,λs hs=>⟨hs,?_⟩,λ_ b o u ho hu=>?_⟩;obtain⟨c0,hc0⟩:=hs;have hsd:s≠d:=by rintro rfl;rw[Js]at hc0;cases hc0
 simp[hsd,dq];have hb:b<w.heap.size:=World.block_lt_of_cell? w _ hu;exact⟨by simp[iK hb];exact ho,Ct (Fr.alloc _ _ _) hu⟩;have iz:b<w.heap.size:=(pw.gN b _ (hl b hb)).1;exact⟨heap_alloc_old w _ b iz,by simp[iK iz,dq]⟩;cases hk;cases hk;cases hk
end Go.Dn
