import Derived.Test.YtehfjiddofkdnaaGreatDnMem
/- What the abstract step says, the model's run does: slots, boxes. -/
open Option renaming none->W,some->I
namespace Go.Dn
open Go.RowKit
variable {P:Program} {C:Ctx} {st:AS} {a:Act} {w:World} {R:Type} {r:R}
variable {x:Operand} {c:RC} {T:TypeId} {fp:gw}
def rD P C o(a:Act)w(K:AS->aS R)r:=
 ∃v c b,((execOp a.eval o).run P w=.ok (.value v) c\/(v=undef/\(execOp a.eval o).run P w=.ok .skip c))/\ub C b (a.put o.dst v) c/\K b=I r
theorem ub.put (h:ub C st a w)d{v av}(b:∀g,fL C g st a w []->iY (dQ C g st w) v av []): ub C (st.put d av) (a.put d v) w:=by obtain⟨g,h⟩:=h;exact⟨g,h.quiet d (b g h)⟩
theorem ub.grow (h:ub C st a w){b}(c:Fr (λ_=>False) w b):ub C st a b:=by obtain⟨g,h⟩:=h;exact⟨g,h.grow c⟩
theorem adp x:(st.take x).2.ep=st.ep:=by cases x<;>simp[AS.take,SE]
theorem fL.Lx {g v c}(h:fL C g st a w [(v,c)])d:ub C (st.put d c) (a.put d v) w:=by obtain⟨fp,j,hn,f⟩:=h.hands 0 v c rfl;exact h.XL d rfl rfl rfl rfl (λt k=>⟨k,rfl⟩) (Fr.refl _ _) (λ_ _ _ _=>rfl) (λ_ _ _ i l=>⟨i,l⟩) j hn (λb e=>⟨(h.ju b _ (f b e)).1,.inl (by rw[f b e];rfl)⟩)
theorem lS {v k n}(h:iY c v (.val false [.int k n]) fp):v=.int k n:=by obtain⟨e,a,d⟩:=h;simp only[Cut,bD,cY]at a;subst a;obtain⟨f1,f2,rfl,b,_⟩:=d;exact b.1
theorem Di {v b}(h:iY c v (.val false [.bool b]) fp):v=.bool b:=by obtain⟨f,a,e⟩:=h;simp only[Cut,bD,cY]at a;subst a;obtain⟨f1,f2,rfl,d,_⟩:=e;exact d.1
theorem gk {v x}(h:iY c v (.val false [x]) fp):kh c v x fp:=by obtain⟨f,a,e⟩:=h;simp only[Cut,bD,cY]at a;subst a;obtain⟨f1,f2,rfl,b,d⟩:=e;cases d;simpa using b
theorem qZ {v x}(h:kh c v x fp):iY c v (.one x) fp:=⟨[v],by simp[Cut],fp,[],aD,h,rfl⟩
theorem amX {f o}(k:o.op=.move x)(h:ub C st a w){K}(b:Ky f o x st K=I r):rD P C o a w K r:=by
 have e:(execOp a.eval o).run P w=.ok (.value (a.eval x)) w:=by simp[execOp,k]
 unfold Ky at b;cases c:o.dst with|none=>rw[c]at b;cases b|some d=>rw[c]at b;simp only at b;split at b;obtain⟨g,h⟩:=h;obtain⟨l,i⟩:=h.take x;refine⟨_,_,_,.inl e,?_,b⟩;rw[c];exact fL.Lx i (I d);refine⟨_,_,_,.inl e,?_,b⟩;rw[c];exact h.put (I d) (λg j=>j.rd x)
theorem asf c e:kh c (.slice W 0 0) (.sl (.own W) e []) []:=⟨⟨_,rfl,.inl ⟨⟨_,rfl⟩,rfl,rfl⟩⟩,aD⟩
theorem adK {E j o}(p:o.op=.assign x)(h:ub C st a w){K}(c:Cs E j o x st K=I r):rD P C o a w K r:=by
 have l:(execOp a.eval o).run P w=.ok (.value (a.eval x)) w:=by simp[execOp,p]
 unfold Cs at c;split at c;rename_i i b;have s:a.eval x=.slice W 0 0:=by obtain⟨g,f⟩:=h;obtain⟨m,d⟩:=f.take x;rw[b]at d;obtain⟨fp,q,_⟩:=d.hands 0 _ _ rfl;exact(gk q).1
 split at c;rename_i e _;refine⟨_,_,_,.inl l,?_,c⟩;rw[s];cases auO j o with|true=>exact h.put o.dst (λg f=>qZ ⟨rfl,rfl⟩)|false=>exact h.put o.dst (λg f=>qZ (asf _ e))
 cases c;rename_i v i n b;obtain⟨g,h⟩:=h;obtain⟨m,k⟩:=h.take x;rw[b]at k;refine⟨_,_,_,.inl l,?_,c⟩;exact fL.Lx k o.dst
theorem ano {o c y}(s:o.op=.pick c x y)(h:ub C st a w){K}(d:Nh o c x y st K=I r):rD P C o a w K r:=by
 unfold Nh at d;split at d;rename_i t n;obtain⟨g,j⟩:=id h;have m:=j.rd c;rw[n]at m;have i:=Di m;have k:(execOp a.eval o).run P w=.ok (.value (if t then a.eval x else a.eval y)) w:=by simp[execOp,s,i,asBool]
 split at d;rename_i p q u v;have e:=j.rd x;have f:=j.rd y;rw[u]at e;rw[v]at f;refine⟨_,_,_,.inl k,?_,d⟩;refine h.put o.dst (λl b=>qZ ⟨?_,rfl⟩);rw[Di e,Di f];cases t<;>rfl;cases t with|true=>exact⟨_,_,_,.inl k,h.put o.dst (λl b=>b.rd x),d⟩|false=>exact⟨_,_,_,.inl k,h.put o.dst (λl b=>b.rd y),d⟩
 cases d
theorem fL.aqd {g D}(h:fL C g st a w D)d{cs arr}(e:nth st.boxes d=I W)(B:cv ⟨λb=>if b=w.heap.size then 0 else g.hw b,λt=>if t=d then w.heap.size else g.β t,C.A,g.hdr,rE st,st.ep,mn st,w.alloc (.cells arr T)⟩ arr.toList cs fp)(y:fp.Nodup)(f:∀b∈fp,fH (g.gb b)): ub C ((st.gD d (I cs)).put (I d) (.one (.ptr d 0))) (a.put (I d) (.pointer (I ⟨w.heap.size,0,W⟩))) (w.alloc (.cells arr T)):=by
 rw[fJ]at e;have n:∀b∈fp,b<w.heap.size:=by intro b c;have m:=f b c;cases k:g.gb b with|none=>rw[k]at m;cases m|some x=>exact(h.ju b x k).1
 obtain⟨q,l,r⟩:=h.ahe d (cs:=cs) (arr:=arr) (T:=T) (fr:=(0,0)) (fp:=fp) (w':=w.alloc (.cells arr T)) (bnew:=w.heap.size) (hw':=λb=>if b=w.heap.size then 0 else g.hw b) (.inr ⟨bq _,e⟩) (Fr.alloc _ _ _) (heap_alloc_new w _) (by intro j _;simp) aD aD (λb x k _ i=>by simp[i]) (λb o u z p=>by have c:b<w.heap.size:=World.block_lt_of_cell? w _ p;exact⟨by simp[kx c];exact z,by rw[World.cell?_alloc_lt w _ _ c];exact p⟩) B y (λv=>sy _ (n _ v)) (λb c=>⟨by have:=n b c;simp;omega,.inl (f b c)⟩);have s:d<st.boxes.length:=(aA.1 e).1;exact⟨q,r.quiet (I d) (qZ ⟨by simp[dQ,l],⟨cs,by rw[nT];simp[s]⟩,rfl⟩)⟩
theorem ag6 {E}(f:mL P E.ty){o}(n:o.op=.alloc T)(h:ub C st a w){K}(b:KY E o T st K=I r):rD P C o a w K r:=by
 unfold KY at b;split at b;rename_i d t k j;split at b;rename_i c;obtain⟨i,z,m,q,_,s,e⟩:=(f T t j).elem.info;have p:(execOp a.eval o).run P w=.ok (.value (.pointer (I ⟨w.heap.size,0,W⟩))) (w.alloc (.cells z.cells T)):=by simp[execOp,n,Instr.alloc,zeroValue,typeInfo,m,s,newVar,newRow]
 obtain⟨g,l⟩:=h;refine⟨_,_,_,.inl p,?_,b⟩;rw[k];refine l.aqd d (fp:=[]) c ?_ aD aD;rw[e];exact Cg (NQ _ _ _);cases b;cases b
theorem Sz {g v b}(a:Cut g v b)(c:∀u∈b,u.oneCell'=true):v.cells.toList=b:=by unfold Cut at a;cases g with|true=>simp at a;subst a;simp[Value.cells]|false=>simp at a;subst a;have:=c v aD;cases v<;>simp[Value.cells,Value.oneCell']at this⊢
theorem aoQ {o}(n:o.op=.box T x)(h:ub C st a w){K}(e:abO o x st K=I r):rD P C o a w K r:=by
 unfold abO at e;split at e;rename_i d R N L D t;split at e;rename_i f;split at e;rename_i q;obtain⟨g,E⟩:=h;obtain⟨Q,c⟩:=E.take x;rw[t]at c;obtain⟨fp,⟨S,B,y⟩,F,v⟩:=c.hands 0 _ _ rfl;have A:=y.rQ q;have m:=Sz B A;have H:(execOp a.eval o).run P w=.ok (.value (.pointer (I ⟨w.heap.size,0,W⟩))) (w.alloc (.cells (a.eval x).cells T)):=by simp[execOp,n,Instr.box,newVar,newRow]
 refine⟨_,_,_,.inl H,?_,e⟩;rw[D];refine c.aqd d (fp:=fp) f ?_ F (λb i=>by rw[v b i];rfl);rw[m];rw[fJ]at f;refine y.mono ?_ (λb i=>?_);refine⟨rfl,λ_ J=>⟨J,rfl⟩,λ_ b o u _ l=>HC (Fr.alloc _ _ _) l,bq _,λs z=>⟨z,?_⟩,λ_ b o u n l=>?_⟩;obtain⟨M,k⟩:=z;have p:s≠d:=by rintro rfl;rw[f]at k;cases k
 simp[p,dQ];have i:b<w.heap.size:=World.block_lt_of_cell? w _ l;exact⟨by simp[kx i];exact n,HC (Fr.alloc _ _ _) l⟩;have j:b<w.heap.size:=(c.ju b _ (v b i)).1;exact⟨heap_alloc_old w _ b j,by simp[kx j,dQ]⟩;cases e;cases e;cases e
end Go.Dn
