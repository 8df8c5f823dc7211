import Derived.Test.YtainmjjkipbciaaGreatDnMem
/- One operation after another: what the abstract step says, the model's run does. Part 1: slots and boxes. -/
namespace Go.Dn
open Go.RowKit
variable {P:Program} {C:Ctx} {st:AS} {a:Act} {w:World} {R:Type} {r:R}
variable {x:Operand} {c:RC} {T:TypeId} {v:Value} {fp:fg}
def lS (P:Program)(C:Ctx)(o:Oper)(a:Act)(w:World)(K:AS->ax R)(r:R):Prop:=
 ∃v w' bK,((execOp a.eval o).run P w=.ok (.value v) w'\/(v=undef/\(execOp a.eval o).run P w=.ok .skip w'))/\mZ C bK (a.put o.dst v) w'/\K bK=some r
theorem mZ.put (h:mZ C st a w)(d:ax Nat){av:AV}(hr:∀g,dP C g st a w []->fR (cG C g st w) v av []): mZ C (st.put d av) (a.put d v) w:=by obtain⟨g,h⟩:=h;exact⟨g,h.quiet d (hr g h)⟩
theorem mZ.grow (h:mZ C st a w){w':World}(hf:Fr (λ_=>False) w w'):mZ C st a w':=by obtain⟨g,h⟩:=h;exact⟨g,h.grow hf⟩
theorem Qw (x:Operand):(st.take x).2.ep=st.ep:=by cases x<;>simp[AS.take,GA]
theorem dP.AW {g:Gh}{av:AV}(h:dP C g st a w [(v,av)])(d:ax Nat):mZ C (st.put d av) (a.put d v) w:=by obtain⟨fp,hr,hn,hl⟩:=h.hands 0 v av rfl;exact h.K7 d rfl rfl rfl rfl (λt ht=>⟨ht,rfl⟩) (Fr.refl _ _) (λ_ _ _ _=>rfl) (λ_ _ _ ho hu=>⟨ho,hu⟩) hr hn (λb hb=>⟨(h.fS b _ (hl b hb)).1,.inl (by rw[hl b hb];rfl)⟩)
theorem iD {k:IntKind}{n:Int}(h:fR c v (.val false [.int k n]) fp):v=.int k n:=by obtain⟨vs,hc,hr⟩:=h;simp only[Cut,aW,bX]at hc;subst hc;obtain⟨f1,f2,rfl,h1,_⟩:=hr;exact h1.1
theorem tP {b:Bool}(h:fR c v (.val false [.bool b]) fp):v=.bool b:=by obtain⟨vs,hc,hr⟩:=h;simp only[Cut,aW,bX]at hc;subst hc;obtain⟨f1,f2,rfl,h1,_⟩:=hr;exact h1.1
theorem ej {x:AC}(h:fR c v (.val false [x]) fp):gB c v x fp:=by obtain⟨vs,hc,hr⟩:=h;simp only[Cut,aW,bX]at hc;subst hc;obtain⟨f1,f2,rfl,h1,h2⟩:=hr;cases h2;simpa using h1
theorem lK {x:AC}(h:gB c v x fp):fR c v (.one x) fp:=⟨[v],by simp[Cut],fp,[],by simp,h,rfl⟩
theorem ZC {an:An}{o:Oper}(ho:o.op=.move x)(h:mZ C st a w){K:AS->ax R}(hk:zZ an o x st K=some r):lS P C o a w K r:=by
 have ec:(execOp a.eval o).run P w=.ok (.value (a.eval x)) w:=by simp[execOp,ho]
 unfold zZ at hk;cases hd:o.dst with|none=>rw[hd]at hk;cases hk|some d=>rw[hd]at hk;simp only at hk;split at hk;obtain⟨g,h⟩:=h;obtain⟨g',h'⟩:=h.take x;refine⟨_,_,_,.inl ec,?_,hk⟩;rw[hd];exact dP.AW h' (some d);refine⟨_,_,_,.inl ec,?_,hk⟩;rw[hd];exact h.put (some d) (λg hg=>hg.rd x)
theorem afo (c:RC)(e:CT):gB c (.slice none 0 0) (.sl (.own none) e []) []:=⟨⟨_,rfl,.inl ⟨⟨_,rfl⟩,rfl,rfl⟩⟩,by simp⟩
theorem QQ {E:Env}{an:An}{o:Oper}(ho:o.op=.assign x)(h:mZ C st a w){K:AS->ax R}(hk:sX E an o x st K=some r):lS P C o a w K r:=by
 have ec:(execOp a.eval o).run P w=.ok (.value (a.eval x)) w:=by simp[execOp,ho]
 unfold sX at hk;split at hk;rename_i bK qT;have hv:a.eval x=.slice none 0 0:=by obtain⟨g,hg⟩:=h;obtain⟨g',mX⟩:=hg.take x;rw[qT]at mX;obtain⟨fp,hr,_⟩:=mX.hands 0 _ _ rfl;exact(ej hr).1
 split at hk;rename_i e _;refine⟨_,_,_,.inl ec,?_,hk⟩;rw[hv];cases aoA an o with|true=>exact h.put o.dst (λg hg=>lK ⟨rfl,rfl⟩)|false=>exact h.put o.dst (λg hg=>lK (afo _ e))
 cases hk;rename_i v bK Az qT;obtain⟨g,h⟩:=h;obtain⟨g',h'⟩:=h.take x;rw[qT]at h';refine⟨_,_,_,.inl ec,?_,hk⟩;exact dP.AW h' o.dst
theorem Z1 {o:Oper}{c y:Operand}(ho:o.op=.pick c x y)(h:mZ C st a w){K:AS->ax R}(hk:Ct o c x y st K=some r):lS P C o a w K r:=by
 unfold Ct at hk;split at hk;rename_i t hc;obtain⟨g,hg⟩:=id h;have hb:=hg.rd c;rw[hc]at hb;have hcv:=tP hb;have ec:(execOp a.eval o).run P w=.ok (.value (if t then a.eval x else a.eval y)) w:=by simp[execOp,ho,hcv,asBool]
 split at hk;rename_i p q hx hy;have sW:=hg.rd x;have M9:=hg.rd y;rw[hx]at sW;rw[hy]at M9;refine⟨_,_,_,.inl ec,?_,hk⟩;refine h.put o.dst (λg' mX=>lK ⟨?_,rfl⟩);rw[tP sW,tP M9];cases t<;>rfl;cases t with|true=>exact⟨_,_,_,.inl ec,h.put o.dst (λg' mX=>mX.rd x),hk⟩|false=>exact⟨_,_,_,.inl ec,h.put o.dst (λg' mX=>mX.rd y),hk⟩
 cases hk
theorem dP.aco {g:Gh}{hs:aw (Value×AV)}(h:dP C g st a w hs)(d:Nat){cs:aw AC}{arr:Array Value}(EN:nth st.boxes d=some none)(hr:bE ⟨λb=>if b=w.heap.size then 0 else g.hw b,λt=>if t=d then w.heap.size else g.β t,C.A,g.hdr,lT st,st.ep,iR st,w.alloc (.cells arr T)⟩ arr.toList cs fp)(hn:fp.Nodup)(Bw:∀b∈fp,dE (g.ef b)): mZ C ((st.eD d (some cs)).put (some d) (.one (.ptr d 0))) (a.put (some d) (.pointer (some ⟨w.heap.size,0,none⟩))) (w.alloc (.cells arr T)):=by
 rw[dI]at EN;have gW:∀b∈fp,b<w.heap.size:=by intro b hb;have hh:=Bw b hb;cases hx:g.ef b with|none=>rw[hx]at hh;cases hh|some x=>exact(h.fS b x hx).1
 obtain⟨g',GI,h'⟩:=h.Uk d (cs:=cs) (arr:=arr) (T:=T) (fr:=(0,0)) (fp:=fp) (w':=w.alloc (.cells arr T)) (bnew:=w.heap.size) (hw':=λb=>if b=w.heap.size then 0 else g.hw b) (.inr ⟨aU _,EN⟩) (Fr.alloc _ _ _) (heap_alloc_new w _) (by intro j _;simp) (by simp) (by simp) (λb x hx _ Az=>by simp[Az]) (λb o u ho hu=>by have hb:b<w.heap.size:=World.block_lt_of_cell? w _ hu;exact⟨by simp[gH hb];exact ho,by rw[World.cell?_alloc_lt w _ _ hb];exact hu⟩) hr hn (λhm=>Nat.lt_irrefl _ (gW _ hm)) (λb hb=>⟨by have:=gW b hb;simp;omega,.inl (Bw b hb)⟩);have hd:d<st.boxes.length:=(aG.1 EN).1;exact⟨g',h'.quiet (some d) (lK ⟨by simp[cG,GI],⟨cs,by rw[jH];simp[hd]⟩,rfl⟩)⟩
theorem Ub {E:Env}(hE:ja P E.ty){o:Oper}(ho:o.op=.alloc T)(h:mZ C st a w){K:AS->ax R}(hk:Ao E o T st K=some r):lS P C o a w K r:=by
 unfold Ao at hk;split at hk;rename_i d sh hd hT;split at hk;rename_i EN;obtain⟨i,z,hi,sV,_,hz,hzc⟩:=(hE T sh hT).elem.info;have ec:(execOp a.eval o).run P w=.ok (.value (.pointer (some ⟨w.heap.size,0,none⟩))) (w.alloc (.cells z.cells T)):=by simp[execOp,ho,Instr.alloc,zeroValue,typeInfo,hi,hz,newVar,newRow]
 obtain⟨g,hg⟩:=h;refine⟨_,_,_,.inl ec,?_,hk⟩;rw[hd];refine hg.aco d (fp:=[]) EN ?_ (by simp) (by simp);rw[hzc];exact xJ (CR _ _ _);cases hk;cases hk
theorem Gx {g:Bool}{vs:ir}(hv:Cut g v vs)(h1:∀u∈vs,u.oneCell'=true):v.cells.toList=vs:=by unfold Cut at hv;cases g with|true=>simp at hv;subst hv;simp[Value.cells]|false=>simp at hv;subst hv;have:=h1 v (by simp);cases v<;>simp[Value.cells,Value.oneCell']at this⊢
theorem aa3 {o:Oper}(ho:o.op=.box T x)(h:mZ C st a w){K:AS->ax R}(hk:Oc o x st K=some r):lS P C o a w K r:=by
 unfold Oc at hk;split at hk;rename_i d gg cs bK hd qT;split at hk;rename_i EN;split at hk;rename_i abM;obtain⟨g,hg⟩:=h;obtain⟨g',mX⟩:=hg.take x;rw[qT]at mX;obtain⟨fp,⟨vs,fE,hr⟩,hn,hl⟩:=mX.hands 0 _ _ rfl;have h1:=hr.mh abM;have zn:=Gx fE h1;have ec:(execOp a.eval o).run P w=.ok (.value (.pointer (some ⟨w.heap.size,0,none⟩))) (w.alloc (.cells (a.eval x).cells T)):=by simp[execOp,ho,Instr.box,newVar,newRow]
 refine⟨_,_,_,.inl ec,?_,hk⟩;rw[hd];refine mX.aco d (fp:=fp) EN ?_ hn (λb hb=>by rw[hl b hb];rfl);rw[zn];rw[dI]at EN;refine hr.mono ?_ (λb hb=>?_);refine⟨rfl,λ_ ht=>⟨ht,rfl⟩,λ_ b o u _ hu=>xC (Fr.alloc _ _ _) hu,aU _,λs hs=>⟨hs,?_⟩,λ_ b o u ho hu=>?_⟩;obtain⟨c0,W7⟩:=hs;have hsd:s≠d:=by rintro rfl;rw[EN]at W7;cases W7
 simp[hsd,cG];have hb:b<w.heap.size:=World.block_lt_of_cell? w _ hu;exact⟨by simp[gH hb];exact ho,xC (Fr.alloc _ _ _) hu⟩;have gM:b<w.heap.size:=(mX.fS b _ (hl b hb)).1;exact⟨heap_alloc_old w _ b gM,by simp[gH gM,cG]⟩;cases hk;cases hk;cases hk
end Go.Dn
