import Derived.Test.YtfbhfnniblfpbaaGreatDnMem
/- One operation after another: what the abstract step says, the model's run does. Part 1: slots and boxes. -/
namespace Go.Dn
open Go.RowKit
variable {P:Program} {C:Ctx} {st:AS} {a:Act} {w:World} {R:Type} {r:R}
variable {x:Operand} {c:RC} {T:TypeId} {fp:dV}
def mZ (P:Program)(C:Ctx)(o:Oper)(a:Act)(w:World)(K:AS->aw R)(r:R):Prop:=
 ∃v w' st',((execOp a.eval o).run P w=.ok (.value v) w'\/(v=undef/\(execOp a.eval o).run P w=.ok .skip w'))/\nt C st' (a.put o.dst v) w'/\K st'=some r
theorem nt.put (h:nt C st a w)(d:aw Nat){v:Value}{av:AV}(hr:∀g,dw C g st a w []->fL (cy C g st w) v av []): nt C (st.put d av) (a.put d v) w:=by obtain⟨g,h⟩:=h;exact⟨g,h.quiet d (hr g h)⟩
theorem nt.grow (h:nt C st a w){w':World}(hf:Fr (λ_=>False) w w'):nt C st a w':=by obtain⟨g,h⟩:=h;exact⟨g,h.grow hf⟩
theorem Uf (x:Operand):(st.take x).2.ep=st.ep:=by cases x<;>simp[AS.take,Lc]
theorem dw.Fs {g:Gh}{v:Value}{av:AV}(h:dw C g st a w [(v,av)])(d:aw Nat):nt C (st.put d av) (a.put d v) w:=by obtain⟨fp,hr,hn,hl⟩:=h.hands 0 v av rfl;exact h.Pd d rfl rfl rfl rfl (λt ht=>⟨ht,rfl⟩) (Fr.refl _ _) (λ_ _ _ _=>rfl) (λ_ _ _ ho hu=>⟨ho,hu⟩) hr hn (λb hb=>⟨(h.fA b _ (hl b hb)).1,.inl (by rw[hl b hb];rfl)⟩)
theorem iR {v:Value}{k:IntKind}{n:Int}(h:fL c v (.val false [.int k n]) fp):v=.int k n:=by obtain⟨vs,hc,hr⟩:=h;simp only[Cut,aY,cc]at hc;subst hc;obtain⟨f1,f2,rfl,h1,_⟩:=hr;exact h1.1
theorem xg {v:Value}{b:Bool}(h:fL c v (.val false [.bool b]) fp):v=.bool b:=by obtain⟨vs,hc,hr⟩:=h;simp only[Cut,aY,cc]at hc;subst hc;obtain⟨f1,f2,rfl,h1,_⟩:=hr;exact h1.1
theorem dQ {v:Value}{x:AC}(h:fL c v (.val false [x]) fp):gI c v x fp:=by obtain⟨vs,hc,hr⟩:=h;simp only[Cut,aY,cc]at hc;subst hc;obtain⟨f1,f2,rfl,h1,h2⟩:=hr;cases h2;simpa using h1
theorem mN {v:Value}{x:AC}(h:gI c v x fp):fL c v (.one x) fp:=⟨[v],by simp[Cut],fp,[],by simp,h,rfl⟩
theorem ab0 {an:An}{o:Oper}(ho:o.op=.move x)(h:nt C st a w){K:AS->aw R}(hk:Ej an o x st K=some r):mZ P C o a w K r:=by
 have dI:(execOp a.eval o).run P w=.ok (.value (a.eval x)) w:=by simp[execOp,ho]
 unfold Ej at hk;cases hd:o.dst with|none=>rw[hd]at hk;cases hk|some d=>rw[hd]at hk;simp only at hk;split at hk;obtain⟨g,h⟩:=h;obtain⟨g',h'⟩:=h.take x;refine⟨_,_,_,.inl dI,?_,hk⟩;rw[hd];exact dw.Fs h' (some d);refine⟨_,_,_,.inl dI,?_,hk⟩;rw[hd];exact h.put (some d) (λg hg=>hg.rd x)
theorem agI (c:RC)(e:CT):gI c (.slice none 0 0) (.sl (.own none) e []) []:=⟨⟨_,rfl,.inl ⟨⟨_,rfl⟩,rfl,rfl⟩⟩,by simp⟩
theorem UD {E:Env}{an:An}{o:Oper}(ho:o.op=.assign x)(h:nt C st a w){K:AS->aw R}(hk:vR E an o x st K=some r):mZ P C o a w K r:=by
 have dI:(execOp a.eval o).run P w=.ok (.value (a.eval x)) w:=by simp[execOp,ho]
 unfold vR at hk;split at hk;rename_i st' tD;have hv:a.eval x=.slice none 0 0:=by obtain⟨g,hg⟩:=h;obtain⟨g',mY⟩:=hg.take x;rw[tD]at mY;obtain⟨fp,hr,_⟩:=mY.hands 0 _ _ rfl;exact(dQ hr).1
 split at hk;rename_i e _;refine⟨_,_,_,.inl dI,?_,hk⟩;rw[hv];cases ajn an o with|true=>exact h.put o.dst (λg hg=>mN ⟨rfl,rfl⟩)|false=>exact h.put o.dst (λg hg=>mN (agI _ e))
 cases hk;rename_i v st' ET tD;obtain⟨g,h⟩:=h;obtain⟨g',h'⟩:=h.take x;rw[tD]at h';refine⟨_,_,_,.inl dI,?_,hk⟩;exact dw.Fs h' o.dst
theorem acu {o:Oper}{c y:Operand}(ho:o.op=.pick c x y)(h:nt C st a w){K:AS->aw R}(hk:Hb o c x y st K=some r):mZ P C o a w K r:=by
 unfold Hb at hk;split at hk;rename_i t hc;obtain⟨g,hg⟩:=id h;have hb:=hg.rd c;rw[hc]at hb;have hcv:=xg hb;have dI:(execOp a.eval o).run P w=.ok (.value (if t then a.eval x else a.eval y)) w:=by simp[execOp,ho,hcv,asBool]
 split at hk;rename_i p q hx hy;have vP:=hg.rd x;have Ro:=hg.rd y;rw[hx]at vP;rw[hy]at Ro;refine⟨_,_,_,.inl dI,?_,hk⟩;refine h.put o.dst (λg' mY=>mN ⟨?_,rfl⟩);rw[xg vP,xg Ro];cases t<;>rfl;cases t with|true=>exact⟨_,_,_,.inl dI,h.put o.dst (λg' mY=>mY.rd x),hk⟩|false=>exact⟨_,_,_,.inl dI,h.put o.dst (λg' mY=>mY.rd y),hk⟩
 cases hk
theorem dw.ae1 {g:Gh}{hs:ar (Value×AV)}(h:dw C g st a w hs)(d:Nat){cs:ar AC}{arr:Array Value}(JE:nth st.boxes d=some none)(hr:bn ⟨λb=>if b=w.heap.size then 0 else g.hw b,λt=>if t=d then w.heap.size else g.β t,C.A,g.hdr,lI st,st.ep,gx st,w.alloc (.cells arr T)⟩ arr.toList cs fp)(hn:fp.Nodup)(CP:∀b∈fp,cX (g.dJ b)): nt C ((st.eD d (some cs)).put (some d) (.one (.ptr d 0))) (a.put (some d) (.pointer (some ⟨w.heap.size,0,none⟩))) (w.alloc (.cells arr T)):=by
 rw[dA]at JE;have gV:∀b∈fp,b<w.heap.size:=by intro b hb;have hh:=CP b hb;cases hx:g.dJ b with|none=>rw[hx]at hh;cases hh|some x=>exact(h.fA b x hx).1
 obtain⟨g',Ji,h'⟩:=h.Xw d (cs:=cs) (arr:=arr) (T:=T) (fr:=(0,0)) (fp:=fp) (w':=w.alloc (.cells arr T)) (bnew:=w.heap.size) (hw':=λb=>if b=w.heap.size then 0 else g.hw b) (.inr ⟨aU _,JE⟩) (Fr.alloc _ _ _) (heap_alloc_new w _) (by intro j _;simp) (by simp) (by simp) (λb x hx _ ET=>by simp[ET]) (λb o u ho hu=>by have hb:b<w.heap.size:=World.block_lt_of_cell? w _ hu;exact⟨by simp[gW hb];exact ho,by rw[World.cell?_alloc_lt w _ _ hb];exact hu⟩) hr hn (λhm=>nw _ (gV _ hm)) (λb hb=>⟨by have:=gV b hb;simp;omega,.inl (CP b hb)⟩);have hd:d<st.boxes.length:=(aD.1 JE).1;exact⟨g',h'.quiet (some d) (mN ⟨by simp[cy,Ji],⟨cs,by rw[ks];simp[hd]⟩,rfl⟩)⟩
theorem Xo {E:Env}(hE:jm P E.ty){o:Oper}(ho:o.op=.alloc T)(h:nt C st a w){K:AS->aw R}(hk:ED E o T st K=some r):mZ P C o a w K r:=by
 unfold ED at hk;split at hk;rename_i d sh hd hT;split at hk;rename_i JE;obtain⟨i,z,hi,tu,_,hz,hzc⟩:=(hE T sh hT).elem.info;have dI:(execOp a.eval o).run P w=.ok (.value (.pointer (some ⟨w.heap.size,0,none⟩))) (w.alloc (.cells z.cells T)):=by simp[execOp,ho,Instr.alloc,zeroValue,typeInfo,hi,hz,newVar,newRow]
 obtain⟨g,hg⟩:=h;refine⟨_,_,_,.inl dI,?_,hk⟩;rw[hd];refine hg.ae1 d (fp:=[]) JE ?_ (by simp) (by simp);rw[hzc];exact sA (Hw _ _ _);cases hk;cases hk
theorem La {g:Bool}{v:Value}{vs:ic}(hv:Cut g v vs)(h1:∀u∈vs,u.oneCell'=true):v.cells.toList=vs:=by unfold Cut at hv;cases g with|true=>simp at hv;subst hv;simp[Value.cells]|false=>simp at hv;subst hv;have:=h1 v (by simp);cases v<;>simp[Value.cells,Value.oneCell']at this⊢
theorem adq {o:Oper}(ho:o.op=.box T x)(h:nt C st a w){K:AS->aw R}(hk:SC o x st K=some r):mZ P C o a w K r:=by
 unfold SC at hk;split at hk;rename_i d gg cs st' hd tD;split at hk;rename_i JE;split at hk;rename_i aen;obtain⟨g,hg⟩:=h;obtain⟨g',mY⟩:=hg.take x;rw[tD]at mY;obtain⟨fp,⟨vs,ee,hr⟩,hn,hl⟩:=mY.hands 0 _ _ rfl;have h1:=hr.nm aen;have DF:=La ee h1;have dI:(execOp a.eval o).run P w=.ok (.value (.pointer (some ⟨w.heap.size,0,none⟩))) (w.alloc (.cells (a.eval x).cells T)):=by simp[execOp,ho,Instr.box,newVar,newRow]
 refine⟨_,_,_,.inl dI,?_,hk⟩;rw[hd];refine mY.ae1 d (fp:=fp) JE ?_ hn (λb hb=>by rw[hl b hb];rfl);rw[DF];rw[dA]at JE;refine hr.mono ?_ (λb hb=>?_);refine⟨rfl,λ_ ht=>⟨ht,rfl⟩,λ_ b o u _ hu=>BA (Fr.alloc _ _ _) hu,aU _,λs hs=>⟨hs,?_⟩,λ_ b o u ho hu=>?_⟩;obtain⟨c0,Xa⟩:=hs;have hsd:s≠d:=by rintro rfl;rw[JE]at Xa;cases Xa
 simp[hsd,cy];have hb:b<w.heap.size:=World.block_lt_of_cell? w _ hu;exact⟨by simp[gW hb];exact ho,BA (Fr.alloc _ _ _) hu⟩;have gH:b<w.heap.size:=(mY.fA b _ (hl b hb)).1;exact⟨heap_alloc_old w _ b gH,by simp[gW gH,cy]⟩;cases hk;cases hk;cases hk
end Go.Dn
