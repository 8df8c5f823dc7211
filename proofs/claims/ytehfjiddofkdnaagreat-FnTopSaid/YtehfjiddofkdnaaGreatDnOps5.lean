import Derived.Test.YtehfjiddofkdnaaGreatDnOps4
import Derived.Laws.MakeOwn
import Derived.Laws.IdiomStrings
import Derived.Laws.BytesArg
/- Part 5: tuples, parts of slices, conversions. -/
open Option renaming none->W,some->I
namespace Go.Dn
open Go.RowKit
variable {P:Program} {C:Ctx} {st:AS} {a:Act} {w:World} {R:Type} {r:R}
variable {Y:Array Value} {e:CT} {g:Gh} {cap:Nat} {fr:Nat×Nat} {hw:Nat->Nat} {x:Operand} {T:TypeId} {hs:Z (Value×AV)} {fps:Z gw} {X:oz}
theorem xy.at {c:RC}:∀{o:oz}{n:Z (Bool×Z AC)}{y:gw},iY.xy c o n y->∀{i:Nat}{g:Bool}{m:Z AC},n[i]?=I (g,m)->
 ∃v f1 f2 f3,o[i]?=I v/\y=f1++f2++f3/\(∃l,Cut g v l/\cv c l m f2)/\
  ∀f:RC,c.Le f->(∀b∈f1++f3,f.w.heap[b]?=c.w.heap[b]?/\f.hw b=c.hw b)->∀a,(∃l,Cut g v l/\cv f l a [])->iY.xy f o (n.set i (g,a)) (f1++f3)
 |[],[],_,_,i,g,m,h=>by simp at h
 |w::o,t::n,_,r,0,g,m,h=>by obtain⟨f1,f2,rfl,u,x⟩:=r;simp at h;subst h;exact⟨w,[],f1,f2,rfl,aD,u,λf e p a j=>⟨[],f2,rfl,j,xy.mono e x (λb d=>p b (by simpa using d))⟩⟩
 |w::o,t::n,_,r,i+1,g,m,h=>by obtain⟨f1,f2,rfl,u,x⟩:=r;obtain⟨v,z,B,A,E,rfl,D,s⟩:=xy.at x (i:=i) (by simpa using h);refine⟨v,f1++z,B,A,by simpa using E,aD,D,λf e p a j=>?_⟩;obtain⟨l,C,q⟩:=u;rw[aH];refine⟨f1,z++A,rfl,⟨l,C,q.mono e (λb d=>p b (by simp[d]))⟩,?_⟩;exact s f e (λb d=>p b (by rcases aB.1 d with k|k<;>simp[k])) a j
 |[],_::_,_,r,_,_,_,_=>r.elim
 |_::_,[],_,r,_,_,_,_=>r.elim
theorem ab6 {o t i}(ho:o.op=.extract (.tmp t) i)(h:ub C st a w){K}(z:qm o t i st K=I r):rD P C o a w K r:=by
 obtain⟨g,h⟩:=h;unfold qm at z;split at z;rename_i ts T;split at z;rename_i gg cs hn;rw[fJ]at hn;have htl:t<st.slots.length:=by
  rcases ca t st.slots.length with YI|U;exact YI;have:st.get t=.bot:=by simp[AS.get,fJ,cn U]
  rw[this]at T;cases T
 obtain⟨fp,L,X,V⟩:=h.slot t;rw[T]at L;obtain⟨ws,hv,L⟩:=L;obtain⟨v,f1,f2,f3,hwv,rfl,E,Z⟩:=xy.at L hn;have MX:(execOp a.eval o).run P w=.ok (.value v) w:=by have he:a.eval (.tmp t)=.tuple ws.toArray:=hv;simp[execOp,ho,he,Instr.extract,hwv]
 have D:=X;rw[aH]at D;have M:=aX.1 D;have n2:=aX.1 M.2.1;let e:AV:=.DZ (kA ts i (gg,bz 0 cs));let J:AS:=st.put (I t) e;let Q:Gh:={g with gb:=λb=>if b∈f2 then I (.hand 0) else g.gb b}
 have m:(dQ C g st w).Le (dQ C Q J w):=by have:= @acB C g st w (I t) e;exact⟨this.A,this.hdr,this.adS,this.ep,this.Rv,this.anv⟩
 have B:∀b y,g.gb b=I y->b∉f2->Q.gb b=I y:=by intro b y f n;show(if b∈f2 then _ else _)=_;rw[aK n];exact f
 have Y:∀b y,y≠ .slot t->g.gb b=I y->b∉f2:=λb y F f n=>F (by have:=V b (by simp[n]);rw[f]at this;simpa using this);have aD1:fL C Q J a w [(v,.val gg cs)]:=by
  refine h.step (λy=>y≠ .slot t) m h.defers (by show _=(st.put (I t) e).slots.length;rw[iX,aC];exact h.size) (by show(st.put (I t) e).boxes.length=(st.put (I t) e).slots.length;rw[oA,iX,aC];exact h.bsize) h.frame ?_ (λb y F f=>⟨B b y f (Y b y F f),rfl,rfl⟩) ?_ ?_ ?_ (.inl ⟨aD,S0⟩);intro b y F;have H:(if b∈f2 then I (oN.hand 0) else g.gb b)=I y:=F;by_cases n:b∈f2;exact h.ju b _ (V b (by simp[n]));rw[aK n]at H;exact h.ju b y H;intro j bv hj;have l:(st.slots.set t e)[j]?=I bv:=by rw[<-iX];exact hj
  by_cases p:j=t;subst p;rw[bX]at l;simp only[dm,htl]at l;simp at l;subst l;refine .inr ⟨f1++f3,⟨ws,hv,?_⟩,?_,?_⟩;rw[iA];obtain⟨us,S,x⟩:=E;refine Z _ m (λb _=>⟨rfl,rfl⟩) _ ⟨us,S,?_⟩;exact(x.aj0).mono m aD;refine aX.2 ⟨M.1,n2.2.1,?_⟩;rintro b f c hc rfl;exact M.2.2 b f b (bC _ hc) rfl;intro b f;refine B b _ (V b (by rcases aB.1 f with k|k<;>simp[k])) (λn=>?_);rcases aB.1 f with k|k;exact M.2.2 b k b (bh _ n) rfl;exact n2.2.2 b n b k rfl;rw[aJ (cI p)]at l;exact .inl ⟨by simpa using p,l,rfl⟩;intro s N f;have R:st.boxes[s]?=I (I N):=by rw[<-oA (d:=some t) (v:=e)];exact f
  exact .inl ⟨aD,R,rfl⟩;intro k u bv q;cases k with
  |zero=>simp only[dy,bI,Prod.mk.injEq]at q;obtain⟨rfl,rfl⟩:=q;obtain⟨us,S,x⟩:=E;refine .inr ⟨f2,⟨us,S,x.mono m (λb _=>⟨rfl,rfl⟩)⟩,n2.1,λb f=>?_⟩;show(if b∈f2 then _ else _)=_;rw[aI f]
  |succ k=>simp at q
 exact⟨v,w,_,.inl MX,fL.Lx aD1 o.dst,z⟩;cases z;cases z
def oq hw w(e:CT)(X:oz)(a:Z e.D)(fps:Z gw):=
 X.length=a.length*e.size/\fps.length=a.length/\∀(i:Nat)(y:e.D)(f:gw),a[i]?=I y->fps[i]?=I f->gX hw w e ((X.drop (i*e.size)).take e.size) y f
theorem oq.append {w b c a l f1 f2}(q:oq hw w e b a f1)(r:oq hw w e c l f2): oq hw w e (b++c) (a++l) (f1++f2):=by
 obtain⟨h,j,m⟩:=q;obtain⟨n,o,p⟩:=r;refine⟨by rw[aq,aq,h,n,dA],by simp[j,o],λi y f d hf=>?_⟩;by_cases k:i<a.length;rw[bE k]at d;rw[bE J]at hf;have t:(i+1)*e.size<=a.length*e.size:=dN _ k;rw[dA,gJ]at t;have:=m i y f d hf;have g:((b++c).drop (i*e.size)).take e.size=(b.drop (i*e.size)).take e.size:=by rw[List.drop_append_of_le_length J,List.take_append_of_le_length (by rw[bA];omega)]
 rw[g];exact this;rw[bN J]at d;rw[bN J,j]at hf;have:=p _ y f d hf;have s:a.length*e.size<=i*e.size:=dN _ J;have g:(b++c).drop (i*e.size)=c.drop ((i-a.length)*e.size):=by rw[List.drop_append,dz J,bF,h,Nat.sub_mul]
 rw[g];exact this
theorem oq.mono {a w c d}(h:oq hw w e X d fps)(j:∀b∈fps.flatten,c.heap[b]?=w.heap[b]?/\a b=hw b):oq a c e X d fps:=⟨h.1,h.2.1,λi y f k hf=>gX.mono (h.2.2 i y f k hf) λb g=>j b (List.mem_flatten.2 ⟨f,aF hf,g⟩)⟩
theorem oq.nil hw w e:oq hw w e [] [] []:=⟨aD,rfl,aD⟩
theorem oq.rQ {w g}(h:oq hw w e X g fps):∀v∈X,v.oneCell'=true:=by
 intro v i;obtain⟨j,f,b⟩:=List.mem_iff_getElem.1 i;have a:=e.size_pos;have d:j/e.size<g.length:=by rw[Nat.div_lt_iff_lt_mul a];rw[<-h.1];exact f
 have c:=h.2.2 (j/e.size) _ _ (ah d) (ah (by rw[h.2.1];exact d));refine gX.rQ c v ?_;rw[List.mem_iff_getElem?];refine⟨j%e.size,?_⟩;rw[mE,aI (Nat.mod_lt _ a),Nat.mul_comm,Nat.div_add_mod,ah f,b]
theorem aiR {w b o0 xs}(h:w.heap[b]?=I (.cells Y T fr))(o:wE Y fr)(hs:Y.size=o0+cap*e.size)(k:xs.length<=cap)(l:hw b=o0+xs.length*e.size)(a:oq hw w e ((Y.toList.drop o0).take (xs.length*e.size)) xs fps): gX hw w (.sl e) [.slice (I ⟨b,o0,W⟩) xs.length cap] xs (b::fps.flatten):=by
 refine⟨_,rfl,.inr ⟨b,o0,cap,Y,T,fr,fps,rfl,h,o,hs,k,l,rfl,a.2.1,λi x f d hf=>?_⟩⟩;have:=a.2.2 i x f d hf;have m:i<xs.length:=(aA.1 d).1;have n:(i+1)*e.size<=xs.length*e.size:=dN _ m;rw[dA,gJ]at n;have g:(((Y.toList.drop o0).take (xs.length*e.size)).drop (i*e.size)).take e.size=(Y.toList.drop (o0+i*e.size)).take e.size:=by apply dK;intro j;rw[mE,mE,mE];by_cases c:j<e.size;rw[aI c,aI c,zip,ig];rw[aK c,aK c]
 rw[g]at this;exact this
theorem Tj {w o0 a}(hs:Y.size=o0+cap*e.size)(k:a.length<=cap)(m:fps.length=a.length)(h:∀(i:Nat)(x:e.D)(f:gw),a[i]?=I x->fps[i]?=I f->gX hw w e ((Y.toList.drop (o0+i*e.size)).take e.size) x f):oq hw w e ((Y.toList.drop o0).take (a.length*e.size)) a fps:=by
 refine⟨?_,m,λi x f d hf=>?_⟩;have c:(Y.toList.drop o0).length=cap*e.size:=by rw[bA,Array.length_toList,hs];omega
 rw[bp,c];exact jF (dN _ k);have l:i<a.length:=(aA.1 d).1;have n:(i+1)*e.size<=a.length*e.size:=dN _ l;rw[dA,gJ]at n;have g:(((Y.toList.drop o0).take (a.length*e.size)).drop (i*e.size)).take e.size=(Y.toList.drop (o0+i*e.size)).take e.size:=by apply dK;intro j;rw[mE,mE,mE];by_cases b:j<e.size;rw[aI b,aI b,zip,ig];rw[aK b,aK b]
 rw[g];exact h i x f d hf
theorem WA {w j:World}{S:Nat->Nat->Prop}:∀{e:CT}{c:oz}{x:e.D},mq j S e c x->e.flat=true->gX hw w e c x []
 | .int _,_,_,h,_=>⟨h,rfl⟩
 | .bool,_,_,h,_=>⟨h,rfl⟩
 | .str,_,_,h,_=>⟨h,rfl⟩
 | .sl _,_,_,_,hf=>by cases hf
 | .pair a b,_,_,h,hf=>by obtain⟨g,i,rfl,d,f⟩:=h;simp only[CT.flat,af]at hf;exact⟨g,i,[],[],rfl,rfl,WA d hf.1,WA f hf.2⟩
def WQ (a:Nat->Value)t v:=λu=>if t=I u then v else a u
theorem ahS {a d v t}(h:rE st t):WQ a (st.kL d 0) v t=a t:=by unfold WQ;rw[aK];intro e;exact(wq e).1 h
theorem fL.XM (h:fL C g st a w hs)d{n:Z e.D}{v fp f hw'}(j:Fr (λb=>fH (g.gb b)) w f)(k:∀b x,g.gb b=I x->¬fH (I x)->hw' b=g.hw b)(m:∀b o u,o<g.hw b->w.cell? ⟨b,o,W⟩=I u->o<hw' b/\f.cell? ⟨b,o,W⟩=I u)(l:gX hw' f (.sl e) [v] n fp)(p:fp.Nodup)(i:∀b∈fp,b<f.heap.size/\(fH (g.gb b)\/w.heap.size<=b)): ub C (st.wD d e n) (a.put d v) f:=by refine h.XL d (st1:=st.iC d) (hdr':=WQ g.hdr (st.kL d 0) v) Q9 Cj I4 HW (λt c=>⟨Lo c,ahS c⟩) j k m (qZ ⟨l,λt c=>?_⟩) p i;refine⟨(wq c).2.1,?_⟩;show v=WQ g.hdr (st.kL d 0) v t;unfold WQ;rw[aI c]
theorem fL.Xu (h:fL C g st a w hs)d{i f}(hw:f=w.alloc (.cells Y T fr)\/f=w.drew.alloc (.cells Y T fr))(E:wE Y fr)(t:Y.size=cap*e.size)(y:i.length<=cap)(n:oq g.hw w e (Y.toList.take (i.length*e.size)) i fps)(A:fps.flatten.Nodup)(k:∀b∈fps.flatten,fH (g.gb b)): ub C (st.wD d e i) (a.put d (.slice (I ⟨w.heap.size,0,W⟩) i.length cap)) f:=by
 have p:Fr (λb=>fH (g.gb b)) w f:=by rcases hw with rfl|rfl;exact Fr.alloc _ _ _;exact(Fr.drew _ w).trans (Fr.alloc _ _ _) (λb _ l=>l)
 have r:f.heap[w.heap.size]?=I (.cells Y T fr):=by rcases hw with rfl|rfl;exact heap_alloc_new w _;exact heap_alloc_new w.drew _
 have D:f.heap.size=w.heap.size+1:=by rcases hw with rfl|rfl<;>simp
 have hold:∀b,b<w.heap.size->f.heap[b]?=w.heap[b]?:=by intro b c;rcases hw with rfl|rfl;exact heap_alloc_old w _ b c;exact heap_alloc_old w.drew _ b c
 have q:∀b∈fps.flatten,b<w.heap.size:=by intro b c;have l:=k b c;cases m:g.gb b with|none=>rw[m]at l;cases l|some x=>exact(h.ju b x m).1
 let hw':Nat->Nat:=λb=>if b=w.heap.size then i.length*e.size else g.hw b
 have s:gX hw' f (.sl e) [.slice (I ⟨w.heap.size,0,W⟩) i.length cap] i (w.heap.size::fps.flatten):=by refine aiR (o0:=0) r E (by rw[cR];exact t) y (by simp[hw']) (n.mono λb c=>?_);have j:=q b c;exact⟨hold b j,by simp[hw',kx j]⟩
 refine h.XM d (hw':=hw') (fp:=w.heap.size::fps.flatten) p ?_ ?_ s ?_ ?_;intro b x m _;simp[hw',kx (h.ju b x m).1];intro b o u B v;have c:b<w.heap.size:=World.block_lt_of_cell? w _ v;exact⟨by simp[hw',kx c];exact B,by rw[World.cell?_of_block (a:=⟨b,o,W⟩) (hold b c)];exact v⟩;exact eo.2 ⟨λz=>sy _ (q _ z),A⟩;intro b c;rcases bW.1 c with rfl|c;exact⟨J,.inr (bq _)⟩;exact⟨by have:=q b c;omega,.inl (k b c)⟩
theorem ap4 {z c size i}(d:z.size=size)(f:i<c):((madeCells z (c*size)).toList.drop (i*size)).take size=z.toList:=by
 have g:(i+1)*size<=c*size:=dN _ f;rw[dA,gJ]at g;apply dK;intro j;rw[mE];by_cases a:j<size;rw[aI a,madeCells];have e:i*size+j<c*size:=J;simp only[Array.toList_map,Array.toList_range,gz,List.getElem?_range e,eP];have b:(i*size+j)%z.size=j:=by rw[d,Nat.mul_comm,Nat.mul_add_mod,Nat.mod_eq_of_lt a]
 rw[b];simp[getElem!_pos,d,a];rw[aK a,cn];simp[d];omega
theorem Xn {E}(M:mL P E.ty){o n c}(X:o.op=.makeSlice T n c)(h:ub C st a w){K}(k:uF E o T n c st K=I r):rD P C o a w K r:=by
 obtain⟨g,B⟩:=id h;have q:=B.rd n;have m:=B.rd c;unfold uF at k;split at k;rename_i e len cap N V R;rw[V]at q;rw[R]at m;split at k;rename_i p;unfold room at k;split at k;rename_i Y;obtain⟨L,hu,⟨d,z,D,l,Q,hz,s⟩,_⟩:=Nu M N;have S:cap<=1073741824:=J;have u:(d.bytes:Int)*cap<=281474976710656:=by have h1:(d.bytes:Int)*cap<=65536*cap:=Int.mul_le_mul_of_nonneg_right J J;omega
 have Z:=run_make (P:=P) w T L d z hu D hz .i64 .i64 len cap p.1 p.2 u J;have F:(execOp a.eval o).run P w=.ok (.value (.slice (I ⟨w.heap.size,0,W⟩) len.toNat cap.toNat)) (w.alloc (.cells (madeCells z.cells (cap.toNat*d.size)) L)):=by simp only[execOp,X,lS q,lS m];show((Instr.makeSlice T (.int .i64 len) (.int .i64 cap))>>=λv=>pure (Next.value v)).run P w=_;rw[Sem.run_bind,Z];rfl
 have H:z.cells.size=e.size:=by rw[<-vZ e,<-s];simp
 have b:(List.replicate len.toNat e.zero).length=len.toNat:=aD;have y:oq g.hw w e ((madeCells z.cells (cap.toNat*d.size)).toList.take ((List.replicate len.toNat e.zero).length*e.size)) (List.replicate len.toNat e.zero) (List.replicate len.toNat []):=by
  refine Tj (o0:=0) (cap:=cap.toNat) (by rw[size_madeCells,l,cR]) (by rw[b];omega) aD (λi x f t A=>?_);have U:i<len.toNat:=by have:=(aA.1 t).1;simpa using this
  rw[dZ,aI U]at t A;simp at t A;subst t;subst A;rw[l,cR,ap4 H J,s];exact NQ _ _ _
 refine⟨_,_,_,.inl F,?_,k⟩;have:=B.Xu o.dst (T:=L) (fr:=(0,0)) (cap:=cap.toNat) (.inl rfl) (by intro j _;simp) (by rw[size_madeCells,l]) (by rw[b];omega) y aD aD;rw[b]at this;exact this;cases k;cases k;cases k
theorem V4 {c b}(j:fL C g st a w []){n}(s:n<=cap){K}(h:rG st c b n K=I r)o: ∃x y:Int,K x y=I r/\(0<=x->x<=y->y<=n->(Instr.sliceBounds o n cap (c.map a.eval) (b.map a.eval) W).run P w=.ok (x.toNat,y.toNat,cap) w):=by
 unfold rG at h;split at h;rename_i d e;have l:c=none:=by cases c<;>simp at d⊢
 have m:b=none:=by cases b<;>simp at e⊢
 subst l;subst m;exact⟨0,n,h,λ_ _ _=>by simp[Instr.sliceBounds]⟩;rename_i k p d e;have m:b=none:=by cases b<;>simp at e⊢
 subst m;cases c with|none=>simp at d|some c=>simp at d;have f:=j.rd c;rw[d]at f;refine⟨p,n,h,λq1 q2 q3=>?_⟩;simp[Instr.sliceBounds,Instr.sliceBound,asIntOf,lS f,q1,q2]
 rename_i k p d e;have l:c=none:=by cases c<;>simp at d⊢
 subst l;cases b with|none=>simp at e|some b=>simp at e;have f:=j.rd b;rw[e]at f;refine⟨0,p,h,λq1 q2 q3=>?_⟩;simp[Instr.sliceBounds,Instr.sliceBound,asIntOf,lS f,(J:0<=p),(J:p<=(cap:Int))]
 rename_i k p u q d e;cases c with|none=>simp at d|some c=>cases b with|none=>simp at e|some b=>simp at d e;have f:=j.rd c;have i:=j.rd b;rw[d]at f;rw[e]at i;refine⟨p,q,h,λq1 q2 q3=>?_⟩;simp[Instr.sliceBounds,Instr.sliceBound,asIntOf,lS f,lS i,q1,(J:0<=q),(J:q<=(cap:Int))];intro t;omega
 cases h
theorem extract_mk (s:Z UInt8)x y:(ByteArray.mk s.toArray).extract x y=ByteArray.mk ((s.take y).drop x).toArray:=by apply ByteArray.ext;rw[ByteArray.data_extract];simp[List.extract_eq_take_drop,List.drop_take]
theorem Yn {α}{b c:Z α}{x y}(h:sub b x y=I c):0<=x/\x<=y/\y<=(b.length:Int)/\c=(b.take y.toNat).drop x.toNat:=by unfold sub at h;split at h;rename_i a;simp at h;exact⟨a.1,a.2.1,a.2.2,h.symm⟩;cases h
theorem akQ {w S v}{a:Z e.D}(h:mq w S (.sl e) [v] a){x y}(t:x<=y)(n:y<=a.length): ∃g cap,v=.slice g a.length cap/\a.length<=cap/\mq w S (.sl e) [.slice (if cap=x then g else g.map (·.add (x*e.size))) (y-x) (cap-x)] ((a.take y).drop x):=by
 obtain⟨u,m,h⟩:=h;simp at m;subst m;rcases h with⟨⟨l,rfl⟩,rfl⟩|⟨b,o,cap,rfl,q,h⟩;simp at n;subst n;have s:x=0:=J;subst s;exact⟨l,0,rfl,aD,⟨_,rfl,.inl ⟨⟨l,aD⟩,aD⟩⟩⟩;have f:((a.take y).drop x).length=y-x:=by simp;omega
 refine⟨I ⟨b,o,W⟩,cap,rfl,q,⟨_,rfl,.inr ?_⟩⟩;by_cases d:cap=x;refine⟨b,o,cap-x,by rw[aI d,f],by rw[f];omega,λi z c=>?_⟩;have:((a.take y).drop x)=[]:=cB (by rw[f];omega);rw[this]at c;simp at c;refine⟨b,o+x*e.size,cap-x,by rw[aK d,f];simp[sv],by rw[f];omega,λi z c=>?_⟩;have k:a[x+i]?=I z:=by rw[cA,fA]at c;split at c;exact c;cases c
 obtain⟨p,j,r⟩:=h (x+i) z k;refine⟨p,?_,r⟩;have:o+x*e.size+i*e.size=o+(x+i)*e.size:=by rw[dA];omega
 rw[this];exact j
theorem aqo {w v}{a:Z e.D}{o}(h:gX hw w (.sl e) [v] a o){n}(hn:n<=a.length): ∃m cap,v=.slice m a.length cap/\a.length<=cap/\∃d,gX hw w (.sl e) [.slice (if cap=n then m else m.map (·.add (n*e.size))) (a.length-n) (cap-n)] (a.drop n) d/\(∀b∈d,b∈o)/\(o.Nodup->d.Nodup):=by
 obtain⟨u,z,h⟩:=h;simp at z;subst z;rcases h with⟨⟨y,rfl⟩,rfl,rfl⟩|⟨b,t,cap,Y,T,fr,fps,rfl,B,M,hs,C,N,rfl,E,L⟩;simp at hn;subst hn;exact⟨y,0,rfl,aD,[],⟨_,rfl,.inl ⟨⟨y,aD⟩,rfl,rfl⟩⟩,aD,aD⟩;refine⟨I ⟨b,t,W⟩,cap,rfl,C,?_⟩;by_cases j:cap=n;have k:a.drop n=[]:=dz J;refine⟨[],⟨_,rfl,.inl ⟨⟨I ⟨b,t,W⟩,by rw[aI j,(J:a.length-n=0),(J:cap-n=0)]⟩,k,rfl⟩⟩,aD,aD⟩;have H:cap*e.size=n*e.size+(cap-n)*e.size:=by rw[<-dA];congr 1;omega
 have K:a.length*e.size=n*e.size+(a.length-n)*e.size:=by rw[<-dA];congr 1;omega
 refine⟨b::(fps.drop n).flatten,⟨_,rfl,.inr ⟨b,t+n*e.size,cap-n,Y,T,fr,fps.drop n,by rw[aK j];simp[sv],B,M,J,by simp;omega,by simp;omega,rfl,by simp[E],λi x f k hf=>?_⟩⟩,?_,?_⟩;rw[cA]at k hf;have:=L (n+i) x f k hf;rwa[dA,<-ig]at this;intro c g;rcases bW.1 g with rfl|g;simp;obtain⟨l,q,r⟩:=List.mem_flatten.1 g;exact cy _ (List.mem_flatten.2 ⟨l,List.mem_of_mem_drop q,r⟩);intro s;have p:=eo.1 s;have A:fps.flatten=(fps.take n).flatten++(fps.drop n).flatten:=by rw[<-eX,cH]
 rw[A]at p;exact eo.2 ⟨λF=>p.1 (by simp[F]),(aX.1 p.2).2.1⟩
theorem ann {an o ep pv p}:Xy an o (.loc ep pv) p=.loc ep W\/∃a t,pv=I (a,t)/\Xy an o (.loc ep pv) p=.part ep a t p:=by
 unfold Xy;split;rename_i b r t d h _;cases h;cases an.nest.contains d with|false=>exact .inl rfl|true=>exact .inr ⟨_,_,rfl,rfl⟩
 exact .inl rfl
theorem X3 {E}(Z:mL P E.ty){o k S}(v:o.op=.slice T x k S W)(h:ub C st a w){K}(d:EF E o T x k S st K=I r):rD P C o a w K r:=by
 obtain⟨g,R⟩:=h;unfold EF at d;split at d;rename_i tag e f st' kd p L i;split at d;rename_i hT;cases k with
 |none=>simp at i
 |some k=>
  simp at i;have l:=R.rd k;rw[i]at l;obtain⟨te,M,⟨inf,z,s,H,_⟩,_⟩:=Nu Z hT;obtain⟨V,c⟩:=R.take x;rw[L]at c;simp only[bF]at c;cases j:sub f p f.length with
  |none=>rw[j]at d;cases d
  |some xs'=>
   rw[j]at d;simp only[U]at d;obtain⟨X,Y,_,rfl⟩:=Yn j;obtain⟨fp,D,t,hl⟩:=c.hands 0 _ _ rfl;have y:=(gk D).1;obtain⟨Q,cap,hv,aAW,m,A,F,u⟩:=aqo y (n:=p.toNat) J;have MX:(execOp a.eval o).run P w=.ok (.value (.slice (if cap=p.toNat then Q else Q.map (·.add (p.toNat*e.size))) (f.length-p.toNat) (cap-p.toNat))) w:=by
    have q:(Instr.sliceBounds true f.length cap (I (a.eval k)) W W).run P w=.ok (p.toNat,f.length,cap) w:=by have B:p<=(f.length:Int):=Y;simp[Instr.sliceBounds,Instr.sliceBound,asIntOf,lS l,X,B]
    simp only[execOp,v,hv,Instr.sliceAt,Instr.slice,underlying,Option.map_none,eP,Sem.run_bind,run_program,M,Result.andThen_ok,Sem.run_pure,q,sizeOf,typeInfo,s,H]
   have N:(f.take ((f.length:Int).toNat)).drop p.toNat=f.drop p.toNat:=by rw[au,bB]
   rw[N]at d;refine⟨_,_,_,.inl MX,?_,d⟩;refine c.XM o.dst (hw':=V.hw) (fp:=m) (Fr.refl _ _) (λ_ _ _ _=>rfl) (λ_ _ _ v M=>⟨v,M⟩) A (u t) (λb q=>?_);have:=hl b (F b q);exact⟨(c.ju b _ this).1,.inl (by rw[this];rfl)⟩
 cases d;cases d
theorem ajg {E}(hE:mL P E.ty){an o lo hi}(ho:o.op=.slice T x lo hi W)(h:ub C st a w){K}(l:Ix E an o T x lo hi st K=I r):rD P C o a w K r:=by
 obtain⟨g,Q⟩:=id h;have A:=Q.fresh (Q.rd x);unfold Ix at l;split at l;exact X3 hE ho h l;split at l;rename_i s hx;rw[hx]at A;split at l;rename_i M;have L:=adl hE M;have n:=(gk A).1;obtain⟨p,q,c,MX⟩:=V4 (P:=P) (w:=w) Q (bq s.length) l false;cases i:sub s p q with|none=>rw[i]at c;cases c|some s'=>rw[i]at c;simp only[U]at c;obtain⟨X,Y,Z,rfl⟩:=Yn i;have hb:=MX X Y Z;refine CA h _ _ ?_ (VC _) c;simp only[execOp,ho,n,Instr.sliceAt,Instr.slice,underlying,Option.map_none,Sem.run_bind,run_program,L,Result.andThen_ok,Sem.run_pure,Fi,hb,Option.isSome_none,bD,cY,extract_mk]
 cases l;rename_i fl e j hx;rw[hx]at A;split at l;rename_i M;obtain⟨M,m⟩:=M;obtain⟨te,L,⟨inf,z,aA6,hsz,_⟩,_⟩:=Nu hE M;have B:=gk A
 have V:∀(S:Nat->Nat->Prop),mq w S (.sl e) [a.eval x] j->(∀(p q:Int)(f:aS Addr)(cap:Nat),0<=p->p<=q->q<=j.length->j.length<=cap->a.eval x=.slice f j.length cap->
  mq w S (.sl e) [.slice (if cap=p.toNat then f else f.map (·.add (p.toNat*e.size))) (q.toNat-p.toNat) (cap-p.toNat)] ((j.take q.toNat).drop p.toNat)->
  kh (dQ C g st w) (.slice (if cap=p.toNat then f else f.map (·.add (p.toNat*e.size))) (q.toNat-p.toNat) (cap-p.toNat)) (.sl (Xy an o fl p) e ((j.take q.toNat).drop p.toNat)) [])->rD P C o a w K r:=by
  intro S v hmk
  have k:∃f cap,a.eval x=.slice f j.length cap/\j.length<=cap:=by obtain⟨f,cap,n,B,_⟩:=akQ v (x:=0) (y:=0) (bq _) (cg _);exact⟨f,cap,n,B⟩
  obtain⟨f,cap,n,k⟩:=k
  obtain⟨p,q,c,MX⟩:=V4 (P:=P) (w:=w) Q k l true
  cases i:sub j p q with
  |none=>rw[i]at c;cases c
  |some xs'=>
   rw[i]at c
   simp only[U]at c
   obtain⟨X,Y,Z,rfl⟩:=Yn i
   have hb:=MX X Y Z
   obtain⟨bo',aBv,F,_,aDN⟩:=akQ v (x:=p.toNat) (y:=q.toNat) J J
   rw[n]at F
   simp only[Value.slice.injEq,true_and]at F
   obtain⟨rfl,rfl⟩:=F
   refine⟨.slice (if cap=p.toNat then f else f.map (·.add (p.toNat*e.size))) (q.toNat-p.toNat) (cap-p.toNat),w,_,.inl ?_,⟨g,Q.quiet o.dst (qZ (hmk p q _ _ X Y Z k n aDN))⟩,c⟩
   simp only[execOp,ho,n,Instr.sliceAt,Instr.slice,underlying,Option.map_none,Sem.run_bind,run_program,L,Result.andThen_ok,Sem.run_pure,hb,sizeOf,typeInfo,aA6,hsz]
 cases fl with
 |own t=>cases m
 |nest _ _ _ _ _ _=>cases m
 |part _ _ _ _=>cases m
 |im _ _ _=>cases m
 |arg _=>exact V _ B.2 (λp q f cap _ _ _ _ _ hr=>by simp only[Xy,BH.bare];exact⟨rfl,hr⟩)
 |loc ep pv=>
  have N:ep=st.ep:=by simpa[BH.live]using m
  refine V _ (B.2.2.2.1 N) (λp q f cap hp hpq hq k n hr=>?_);have d:((j.take q.toNat).drop p.toNat).length=q.toNat-p.toNat:=by simp;omega
  have plain:kh (dQ C g st w) (.slice (if cap=p.toNat then f else f.map (·.add (p.toNat*e.size))) (q.toNat-p.toNat) (cap-p.toNat)) (.sl (.loc ep W) e ((j.take q.toNat).drop p.toNat)) []:=⟨rfl,B.2.1,⟨_,_,_,rfl,d.symm⟩,λ_=>hr,aD⟩
  rcases ann (an:=an) (o:=o) (ep:=ep) (pv:=pv) (p:=p)with D|⟨rt,t,rfl,D⟩;rw[D];exact plain;rw[D];refine⟨rfl,B.2.1,⟨_,_,_,rfl,d.symm⟩,λ_=>?_⟩;have R:=B.2.2.2.2 rt t rfl;refine⟨R.1,?_⟩;by_cases hz:q.toNat-p.toNat=0;exact .inl (cB (by rw[d];exact hz));right;obtain⟨u,L,v⟩:=B.2.2.2.1 N;simp at L;rcases v with⟨_,rfl⟩|⟨b,o0,ahm,H,hc2,_⟩;simp at d;omega;rw[<-L,n]at H;simp only[Value.slice.injEq,true_and]at H;obtain⟨rfl,rfl⟩:=H;refine⟨p.toNat,b,o0,j.length,cap,cap-p.toNat,J,by rw[<-R.2,n],by rw[d];omega,?_⟩;rw[nQ,d];simp[sv]
 cases l;cases l
theorem adQ {E:Env}(c:mL P E.ty)(h:E.bytes T=true):∃a,P.underlying T=I (.slice a)/\P.underlying a=I (.int .u8):=by unfold Env.bytes at h;split at h;rename_i a n d;split at h;rename_i i b;obtain⟨g,f,_,e⟩:=(c T _ d).sl _ rfl rfl;have:=e a n rfl;subst this;exact⟨a,f,(c a _ b).int _ rfl rfl⟩;cases h;cases h
theorem anz {w S v}{c:dw}(h:mq w S (.sl (.int .u8)) [v] c): ((∃a,v=.slice a 0 0)/\c=[])\/∃b o cap,v=.slice (I ⟨b,o,W⟩) c.length cap/\∀i,i<c.length->w.cell? ⟨b,o+i,W⟩=I (.int .u8 (c.getD i 0)):=by obtain⟨u,g,h⟩:=h;simp at g;subst g;rcases h with h|⟨b,o,cap,l,_,h⟩;exact .inl h;refine .inr ⟨b,o,cap,l,λi f=>?_⟩;obtain⟨j,d,k⟩:=h i c[i] (ah f);have e:j=[.int .u8 c[i]]:=k;subst e;have:=(d 0 _ rfl).2;simp only[CT.size,oO,eY]at this;rw[this];simp[List.getD,ah f]
theorem abX {E}(M:mL P E.ty){o src dst}(ho:o.op=.convert src dst x)(h:ub C st a w){K}(u:qi E o src dst x st K=I r):rD P C o a w K r:=by
 obtain⟨g,hg⟩:=id h;have c:=hg.rd x;have J:∀v w',(convert src dst (a.eval x)).run P w=.ok v w'->(execOp a.eval o).run P w=.ok (.value v) w':=by intro v w' hr;simp only[execOp,ho];show(convert src dst (a.eval x)>>=λv=>pure (Next.value v)).run P w=_;rw[Sem.run_bind,hr];rfl
 have under:∀(T:TypeId)(V:Shape),lV E.ty T=I V->∃d,P.underlying T=I d:=by
  intro T V hT;have A:=M T V hT;cases z:V.agg with
  |true=>obtain⟨fs,L,_⟩:=A.agg z;exact⟨_,L⟩
  |false=>
   cases B:V.ct with
   |int k=>exact⟨_,A.int k B z⟩
   |bool=>exact⟨_,A.bool B z⟩
   |str=>exact⟨_,A.str B z⟩
   |sl e=>obtain⟨m,L,_⟩:=A.sl e B z;exact⟨_,L⟩
   |pair p q=>have:=A.pair p q B;rw[z]at this;cases this
 unfold qi at u;split at u;rename_i ssh k nt k' n hs U R;rw[R]at c;obtain⟨ds,H⟩:=under _ _ hs;have l:=(M dst _ U).int k rfl rfl;refine CA h _ _ (J (.int k (k.wrap n)) w ?_) (od _ _) u;rw[lS c];simp only[convert,underlying,Sem.run_bind,run_program,H,l,Result.andThen_ok,Sem.run_pure];rfl;rename_i nt aBt s hs U R;rw[R]at c;have H:=(M src _ hs).str rfl rfl;have l:=(M dst _ U).str rfl rfl;refine CA h _ _ (J (.string ⟨s.toArray⟩) w ?_) (VC _) u;rw[(gk c).1];simp only[convert,underlying,Sem.run_bind,run_program,H,l,Result.andThen_ok,Sem.run_pure];rename_i nt V s auw hs U R;rw[R]at c;split at u;rename_i X;unfold room at u;split at u;obtain⟨m,L,F⟩:=adQ M X;have H:=(M src _ hs).str rfl rfl;have MX:=run_bytes_of_string (P:=P) w src dst m ⟨s.toArray⟩ H L F;rw[<-(gk c).1,Fi]at MX;refine⟨_,_,_,.inl (J _ _ MX),?_,u⟩;have hge:=grownCap_ge w s.length 0 m;have hsz:(bytesRow ⟨s.toArray⟩ (grownCap w s.length 0 m)).size=grownCap w s.length 0 m*CT.size (.int .u8):=by simp only[bytesRow,Array.size_append,Array.size_map,Array.size_replicate,Fi,CT.size];simp;omega
 have htk:(bytesRow ⟨s.toArray⟩ (grownCap w s.length 0 m)).toList.take ((dU s).length*CT.size (.int .u8))=(dU s).map (Value.int .u8):=by simp only[bytesRow,dU,CT.size,Array.toList_append,Array.toList_map];rw[List.take_append_of_le_length aD];rw[cd aD];simp
 have hel:oq g.hw w (.int .u8) ((bytesRow ⟨s.toArray⟩ (grownCap w s.length 0 m)).toList.take ((dU s).length*CT.size (.int .u8))) (dU s) (List.replicate s.length []):=by
  rw[htk];refine⟨by simp[CT.size],by simp[dU],λi y f hy Z=>?_⟩;have hi:i<(dU s).length:=(aA.1 hy).1;have hf':f=[]:=by rw[dZ]at Z;split at Z<;>simp at Z;exact Z
  subst hf';refine⟨?_,rfl⟩;apply dK;intro j;rw[mE];simp only[CT.size,oO];cases j with|zero=>simp[hy]|succ j=>simp
 have N:(dU s).length=s.length:=by simp[dU]
 have:=hg.Xu o.dst (T:=m) (fr:=((bytesRow ⟨s.toArray⟩ (grownCap w s.length 0 m)).size,(bytesRow ⟨s.toArray⟩ (grownCap w s.length 0 m)).size+1)) (cap:=grownCap w s.length 0 m) (.inr rfl) (by intro j hj Y;simp only at Y;omega) hsz (by rw[N];exact hge) hel aD aD;rw[N]at this;exact this;cases u;cases u;rename_i ssh nt fl xs hs U R;rw[R]at c;split at u;rename_i X;obtain⟨X,D⟩:=X;obtain⟨m,L,F⟩:=adQ M X;have l:=(M dst _ U).str rfl rfl;have Y:=gk c;have Q:∃S,mq w S (.sl (.int .u8)) [a.eval x] xs:=by
  cases fl with
  |own t=>cases D
  |nest _ _ _ _ _ _=>cases D
  |part _ _ _ _=>cases D
  |im _ _ _=>cases D
  |arg _=>exact⟨_,Y.2⟩
  |loc ep pv=>
   have hep:ep=st.ep:=by simpa[BH.live]using D
   exact⟨_,Y.2.2.2.1 hep⟩
 obtain⟨S,Q⟩:=Q;refine CA h _ _ (J (.string ⟨(aZ xs).toArray⟩) w ?_) (VC _) u;rcases anz Q with⟨⟨ad,hv⟩,rfl⟩|⟨b,ob,cap,hv,aCd⟩;cases ad with|none=>rw[hv,run_convert_bytes_nil w src m L F 0 0 dst l];rfl|some ad=>rw[hv];exact run_convert_bytes_back w src dst m ad 0 [] L F l (λj hj=>by simp at hj)
 rw[hv,run_convert_bytes_arg w src m L F b ob xs.length cap xs rfl aCd dst l];rfl;cases u;cases u
end Go.Dn
