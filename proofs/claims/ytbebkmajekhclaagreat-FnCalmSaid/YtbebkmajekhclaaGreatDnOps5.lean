import Derived.Test.YtbebkmajekhclaaGreatDnOps4
import Derived.Laws.MakeOwn
import Derived.Laws.IdiomStrings
import Derived.Laws.BytesArg
/- Part 5: tuples, parts of slices, conversions, structs and slices that are built. -/
namespace Go.Dn
open Go.RowKit
variable {P:Program} {C:Ctx} {st:AS} {a:Act} {w:World} {R:Type} {r:R}
variable {arr:Array Value} {e:CT} {g:Gh} {cap:Nat} {fr:Nat×Nat} {hw:Nat->Nat} {x:Operand} {T:TypeId} {v:Value} {hs:aw (Value×AV)} {fps:aw fM} {news:jJ}
theorem sQ.at {c:RC}:∀{ws:jJ}{ts:aw (Bool×aw AC)}{fp:fM},il.sQ c ws ts fp->∀{i:Nat}{g:Bool}{cs:aw AC},ts[i]?=some (g,cs)->
 ∃v f1 f2 f3,ws[i]?=some v/\fp=f1++f2++f3/\(∃us,Cut g v us/\bV c us cs f2)/\
  ∀c':RC,c.Le c'->(∀b∈f1++f3,c'.w.heap[b]?=c.w.heap[b]?/\c'.hw b=c.hw b)->∀sU,(∃us,Cut g v us/\bV c' us sU [])->il.sQ c' ws (ts.set i (g,sU)) (f1++f3)
 |[],[],_,_,i,g,cs,h=>by simp at h
 |w::ws,t::ts,_,r,0,g,cs,h=>by obtain⟨f1,f2,rfl,r1,r2⟩:=r;simp at h;subst h;exact⟨w,[],f1,f2,rfl,by simp,r1,λc' hle hb sU Cf=>⟨[],f2,rfl,Cf,sQ.mono hle r2 (λb iy=>hb b (by simpa using iy))⟩⟩
 |w::ws,t::ts,_,r,i+1,g,cs,h=>by obtain⟨f1,f2,rfl,r1,r2⟩:=r;obtain⟨v,g1,g2,g3,hv,rfl,hr,GU⟩:=sQ.at r2 (i:=i) (by simpa using h);refine⟨v,f1++g1,g2,g3,by simpa using hv,by simp,hr,λc' hle hb sU Cf=>?_⟩;obtain⟨us,gD,fZ⟩:=r1;rw[aR];refine⟨f1,g1++g3,rfl,⟨us,gD,fZ.mono hle (λb iy=>hb b (by simp[iy]))⟩,?_⟩;exact GU c' hle (λb iy=>hb b (by rcases aA.1 iy with k|k<;>simp[k])) sU Cf
 |[],_::_,_,r,_,_,_,_=>r.elim
 |_::_,[],_,r,_,_,_,_=>r.elim
theorem Wt {o:Oper}{t i:Nat}(ho:o.op=.extract (.tmp t) i)(h:qe C st a w){K:AS->aB R}(hk:nE o t i st K=some r):ox P C o a w K r:=by
 obtain⟨g,h⟩:=h;unfold nE at hk;split at hk;rename_i ts hg;split at hk;rename_i gg cs hn;rw[eU]at hn;have htl:t<st.slots.length:=by
  rcases cg t st.slots.length with hG|CF;exact hG;have:st.get t=.bot:=by simp[AS.get,eU,bI CF]
  rw[this]at hg;cases hg
 obtain⟨fp,hr,HZ,hl⟩:=h.slot t;rw[hg]at hr;obtain⟨ws,hv,hr⟩:=hr;obtain⟨v,f1,f2,f3,hwv,rfl,Um,GU⟩:=sQ.at hr hn;have fD:(execOp a.eval o).run P w=.ok (.value v) w:=by have he:a.eval (.tmp t)=.tuple ws.toArray:=hv;simp[execOp,ho,he,Instr.extract,hwv]
 have WM:=HZ;rw[aR]at WM;have n1:=aS.1 WM;have n2:=aS.1 n1.2.1;let SP:AV:=.yE (ji ts i (gg,bg 0 cs));let cj:AS:=st.put (some t) SP;let g':Gh:={g with fE:=λb=>if b∈f2 then some (.hand 0) else g.fE b}
 have hle:(dz C g st w).Le (dz C g' cj w):=by have:= @W9 C g st w (some t) SP;exact⟨this.A,this.hdr,this.Yj,this.ep,this.Lp,this.ain⟩
 have hlk:∀b y,g.fE b=some y->b∉f2->g'.fE b=some y:=by intro b y hb hm;show(if b∈f2 then _ else _)=_;rw[aG hm];exact hb
 have OP:∀b y,y≠ .slot t->g.fE b=some y->b∉f2:=λb y hy hb hm=>hy (by have:=hl b (by simp[hm]);rw[hb]at this;simpa using this);have aqr:fb C g' cj a w [(v,.val gg cs)]:=by
  refine h.step (λy=>y≠ .slot t) hle h.defers (by show _=(st.put (some t) SP).slots.length;rw[gV,az];exact h.size) (by show(st.put (some t) SP).boxes.length=(st.put (some t) SP).slots.length;rw[mj,gV,az];exact h.bsize) h.frame ?_ (λb y hy hb=>⟨hlk b y hb (OP b y hy hb),rfl,rfl⟩) ?_ ?_ ?_ (.inl ⟨by simp,Mz⟩);intro b y hy;have XW:(if b∈f2 then some (lz.hand 0) else g.fE b)=some y:=hy;by_cases hm:b∈f2;exact h.im b _ (hl b (by simp[hm]));rw[aG hm]at XW;exact h.im b y XW;intro j bv hj;have hj':(st.slots.set t SP)[j]?=some bv:=by rw[<-gV];exact hj
  by_cases hjt:j=t;subst hjt;rw[bJ]at hj';simp only[cw,htl]at hj';simp at hj';subst hj';refine .inr ⟨f1++f3,⟨ws,hv,?_⟩,?_,?_⟩;rw[gH];obtain⟨us,gD,fZ⟩:=Um;refine GU _ hle (λb _=>⟨rfl,rfl⟩) _ ⟨us,gD,?_⟩;exact(fZ.aeM).mono hle (by simp);refine aS.2 ⟨n1.1,n2.2.1,?_⟩;rintro b hb c hc rfl;exact n1.2.2 b hb b (bz _ hc) rfl;intro b hb;refine hlk b _ (hl b (by rcases aA.1 hb with k|k<;>simp[k])) (λhm=>?_);rcases aA.1 hb with k|k;exact n1.2.2 b k b (bH _ hm) rfl;exact n2.2.2 b hm b k rfl;rw[aE (cl hjt)]at hj';exact .inl ⟨by simpa using hjt,hj',rfl⟩;intro s sU hb;have iy:st.boxes[s]?=some (some sU):=by rw[<-mj (d:=some t) (v:=SP)];exact hb
  exact .inl ⟨by simp,iy,rfl⟩;intro k u bv GQ;cases k with
  |zero=>simp only[cM,bu,Prod.mk.injEq]at GQ;obtain⟨rfl,rfl⟩:=GQ;obtain⟨us,gD,fZ⟩:=Um;refine .inr ⟨f2,⟨us,gD,fZ.mono hle (λb _=>⟨rfl,rfl⟩)⟩,n2.1,λb hb=>?_⟩;show(if b∈f2 then _ else _)=_;rw[aH hb]
  |succ k=>simp at GQ
 exact⟨v,w,_,.inl fD,fb.Fv aqr o.dst,hk⟩;cases hk;cases hk
def ma (hw:Nat->Nat)(w:World)(e:CT)(news:jJ)(ys:aw e.D)(fps:aw fM):Prop:=
 news.length=ys.length*e.size/\fps.length=ys.length/\∀(i:Nat)(y:e.D)(f:fM),ys[i]?=some y->fps[i]?=some f->gA hw w e ((news.drop (i*e.size)).take e.size) y f
theorem ma.append {w:World}{n1 n2:jJ}{xs ys:aw e.D}{f1 f2:aw fM}(h1:ma hw w e n1 xs f1)(h2:ma hw w e n2 ys f2): ma hw w e (n1++n2) (xs++ys) (f1++f2):=by
 obtain⟨a1,a2,a3⟩:=h1;obtain⟨b1,b2,b3⟩:=h2;refine⟨by rw[ai,ai,a1,b1,dk],by simp[a2,b2],λi y f hy hf=>?_⟩;by_cases hi:i<xs.length;rw[bp hi]at hy;rw[bp (by omega)]at hf;have hm:(i+1)*e.size<=xs.length*e.size:=de _ hi;rw[dk,gx]at hm;have:=a3 i y f hy hf;have e1:((n1++n2).drop (i*e.size)).take e.size=(n1.drop (i*e.size)).take e.size:=by rw[List.drop_append_of_le_length (by omega),List.take_append_of_le_length (by rw[aM];omega)]
 rw[e1];exact this;rw[bw (by omega)]at hy;rw[bw (by omega),a2]at hf;have:=b3 _ y f hy hf;have CF:xs.length*e.size<=i*e.size:=de _ (by omega);have e1:(n1++n2).drop (i*e.size)=n2.drop ((i-xs.length)*e.size):=by rw[List.drop_append,cI (by omega),cv,a1,Nat.sub_mul]
 rw[e1];exact this
theorem ma.mono {hw':Nat->Nat}{w w':World}{ys:aw e.D}(h:ma hw w e news ys fps)(hk:∀b∈fps.flatten,w'.heap[b]?=w.heap[b]?/\hw' b=hw b):ma hw' w' e news ys fps:=⟨h.1,h.2.1,λi y f hy hf=>gA.mono (h.2.2 i y f hy hf) λb hb=>hk b (List.mem_flatten.2 ⟨f,aL hf,hb⟩)⟩
theorem ma.nil (hw:Nat->Nat)(w:World)(e:CT):ma hw w e [] [] []:=⟨by simp,rfl,by simp⟩
theorem ma.oL {w:World}{ys:aw e.D}(h:ma hw w e news ys fps):∀v∈news,v.oneCell'=true:=by
 intro v hv;obtain⟨j,hj,hjv⟩:=List.mem_iff_getElem.1 hv;have ag6:=e.size_pos;have hi:j/e.size<ys.length:=by rw[Nat.div_lt_iff_lt_mul ag6];rw[<-h.1];exact hj
 have ja:=h.2.2 (j/e.size) _ _ (al hi) (al (by rw[h.2.1];exact hi));refine gA.oL ja v ?_;rw[List.mem_iff_getElem?];refine⟨j%e.size,?_⟩;rw[kE,aH (Nat.mod_lt _ ag6),Nat.mul_comm,Nat.div_add_mod,al hj,hjv]
theorem adY {w:World}{b o0:Nat}{xs:aw e.D}(hb:w.heap[b]?=some (.cells arr T fr))(uR:rU arr fr)(hs:arr.size=o0+cap*e.size)(hc:xs.length<=cap)(hh:hw b=o0+xs.length*e.size)(GN:ma hw w e ((arr.toList.drop o0).take (xs.length*e.size)) xs fps): gA hw w (.sl e) [.slice (some ⟨b,o0,none⟩) xs.length cap] xs (b::fps.flatten):=by
 refine⟨_,rfl,.inr ⟨b,o0,cap,arr,T,fr,fps,rfl,hb,uR,hs,hc,hh,rfl,GN.2.1,λi x f hx hf=>?_⟩⟩;have:=GN.2.2 i x f hx hf;have hi:i<xs.length:=(ay.1 hx).1;have hm:(i+1)*e.size<=xs.length*e.size:=de _ hi;rw[dk,gx]at hm;have e1:(((arr.toList.drop o0).take (xs.length*e.size)).drop (i*e.size)).take e.size=(arr.toList.drop (o0+i*e.size)).take e.size:=by apply dj;intro j;rw[kE,kE,kE];by_cases hj:j<e.size;rw[aH hj,aH hj,zip,gv];rw[aG hj,aG hj]
 rw[e1]at this;exact this
theorem MT {w:World}{o0:Nat}{xs:aw e.D}(hs:arr.size=o0+cap*e.size)(hc:xs.length<=cap)(hl:fps.length=xs.length)(h:∀(i:Nat)(x:e.D)(f:fM),xs[i]?=some x->fps[i]?=some f->gA hw w e ((arr.toList.drop (o0+i*e.size)).take e.size) x f):ma hw w e ((arr.toList.drop o0).take (xs.length*e.size)) xs fps:=by
 refine⟨?_,hl,λi x f hx hf=>?_⟩;have hal:(arr.toList.drop o0).length=cap*e.size:=by rw[aM,Array.length_toList,hs];omega
 rw[aV,hal];exact jk (de _ hc);have hi:i<xs.length:=(ay.1 hx).1;have hm:(i+1)*e.size<=xs.length*e.size:=de _ hi;rw[dk,gx]at hm;have e1:(((arr.toList.drop o0).take (xs.length*e.size)).drop (i*e.size)).take e.size=(arr.toList.drop (o0+i*e.size)).take e.size:=by apply dj;intro j;rw[kE,kE,kE];by_cases hj:j<e.size;rw[aH hj,aH hj,zip,gv];rw[aG hj,aG hj]
 rw[e1];exact h i x f hx hf
theorem Qo {w w':World}{S:Nat->Nat->Prop}:∀{e:CT}{vs:jJ}{x:e.D},ky w' S e vs x->e.flat=true->gA hw w e vs x []
 | .int _,_,_,h,_=>⟨h,rfl⟩
 | .bool,_,_,h,_=>⟨h,rfl⟩
 | .str,_,_,h,_=>⟨h,rfl⟩
 | .sl _,_,_,_,hf=>by cases hf
 | .pair a b,_,_,h,hf=>by obtain⟨v1,v2,rfl,h1,h2⟩:=h;simp only[CT.flat,ae]at hf;exact⟨v1,v2,[],[],rfl,rfl,Qo h1 hf.1,Qo h2 hf.2⟩
def QG (hdr:Nat->Value)(t:aB Nat)(v:Value):Nat->Value:=λu=>if t=some u then v else hdr u
theorem ac0 {hdr:Nat->Value}{d:aB Nat}{t:Nat}(h:oA st t):QG hdr (st.jm d 0) v t=hdr t:=by unfold QG;rw[aG];intro e;exact(rH e).1 h
theorem fb.RM (h:fb C g st a w hs)(d:aB Nat){xs:aw e.D}{fp:fM}{w':World}{hw':Nat->Nat}(jZ:Fr (λb=>eQ (g.fE b)) w w')(HY:∀b x,g.fE b=some x->¬eQ (some x)->hw' b=g.hw b)(KF:∀b o u,o<g.hw b->w.cell? ⟨b,o,none⟩=some u->o<hw' b/\w'.cell? ⟨b,o,none⟩=some u)(ja:gA hw' w' (.sl e) [v] xs fp)(hn:fp.Nodup)(F5:∀b∈fp,b<w'.heap.size/\(eQ (g.fE b)\/w.heap.size<=b)): qe C (st.rQ d e xs) (a.put d v) w':=by refine h.RL d (st1:=st.gJ d) (hdr':=QG g.hdr (st.jm d 0) v) K4 xe Dp Cv (λt ht=>⟨Fs ht,ac0 ht⟩) jZ HY KF (oo ⟨ja,λt ht=>?_⟩) hn F5;refine⟨(rH ht).2.1,?_⟩;show v=QG g.hdr (st.jm d 0) v t;unfold QG;rw[aH ht]
theorem fb.Ru (h:fb C g st a w hs)(d:aB Nat){xs:aw e.D}{w':World}(hw:w'=w.alloc (.cells arr T fr)\/w'=w.drew.alloc (.cells arr T fr))(uR:rU arr fr)(hs0:arr.size=cap*e.size)(hc:xs.length<=cap)(GN:ma g.hw w e (arr.toList.take (xs.length*e.size)) xs fps)(hn:fps.flatten.Nodup)(F5:∀b∈fps.flatten,eQ (g.fE b)): qe C (st.rQ d e xs) (a.put d (.slice (some ⟨w.heap.size,0,none⟩) xs.length cap)) w':=by
 have jZ:Fr (λb=>eQ (g.fE b)) w w':=by rcases hw with rfl|rfl;exact Fr.alloc _ _ _;exact(Fr.drew _ w).trans (Fr.alloc _ _ _) (λb _ hh=>hh)
 have ag5:w'.heap[w.heap.size]?=some (.cells arr T fr):=by rcases hw with rfl|rfl;exact heap_alloc_new w _;exact heap_alloc_new w.drew _
 have wI:w'.heap.size=w.heap.size+1:=by rcases hw with rfl|rfl<;>simp
 have hold:∀b,b<w.heap.size->w'.heap[b]?=w.heap[b]?:=by intro b hb;rcases hw with rfl|rfl;exact heap_alloc_old w _ b hb;exact heap_alloc_old w.drew _ b hb
 have hG:∀b∈fps.flatten,b<w.heap.size:=by intro b hb;have hh:=F5 b hb;cases hx:g.fE b with|none=>rw[hx]at hh;cases hh|some x=>exact(h.im b x hx).1
 let hw':Nat->Nat:=λb=>if b=w.heap.size then xs.length*e.size else g.hw b
 have ja:gA hw' w' (.sl e) [.slice (some ⟨w.heap.size,0,none⟩) xs.length cap] xs (w.heap.size::fps.flatten):=by refine adY (o0:=0) ag5 uR (by rw[cE];exact hs0) hc (by simp[hw']) (GN.mono λb hb=>?_);have iy:=hG b hb;exact⟨hold b iy,by simp[hw',jf iy]⟩
 refine h.RM d (hw':=hw') (fp:=w.heap.size::fps.flatten) jZ ?_ ?_ ja ?_ ?_;intro b x hx _;simp[hw',jf (h.im b x hx).1];intro b o u ho hu;have hb:b<w.heap.size:=World.block_lt_of_cell? w _ hu;exact⟨by simp[hw',jf hb];exact ho,by rw[World.cell?_of_block (a:=⟨b,o,none⟩) (hold b hb)];exact hu⟩;exact dN.2 ⟨λhm=>Nat.lt_irrefl _ (hG _ hm),hn⟩;intro b hb;rcases bU.1 hb with rfl|hb;exact⟨by omega,.inr (bc _)⟩;exact⟨by have:=hG b hb;omega,.inl (F5 b hb)⟩
theorem alo {z:Array Value}{c size i:Nat}(hz:z.size=size)(hi:i<c):((madeCells z (c*size)).toList.drop (i*size)).take size=z.toList:=by
 have hm:(i+1)*size<=c*size:=de _ hi;rw[dk,gx]at hm;apply dj;intro j;rw[kE];by_cases hj:j<size;rw[aH hj,madeCells];have h1:i*size+j<c*size:=by omega
 simp only[Array.toList_map,Array.toList_range,List.getElem?_map,List.getElem?_range h1,dP];have aqg:(i*size+j)%z.size=j:=by rw[hz,Nat.mul_comm,Nat.mul_add_mod,fi hj]
 rw[aqg];simp[getElem!_pos,hz,hj];rw[aG hj,bI];simp[hz];omega
theorem Rn {E:Env}(hE:kG P E.ty){o:Oper}{n c:Operand}(ho:o.op=.makeSlice T n c)(h:qe C st a w){K:AS->aB R}(hk:qB E o T n c st K=some r):ox P C o a w K r:=by
 obtain⟨g,hg⟩:=id h;have hnv:=hg.rd n;have hcv:=hg.rd c;unfold qB at hk;split at hk;rename_i e len cap hT hn hc;rw[hn]at hnv;rw[hc]at hcv;split at hk;rename_i hlc;unfold room at hk;split at hk;rename_i II;obtain⟨te,hu,⟨inf,z,Ez,wI,hby,hz,hzc⟩,_⟩:=Hq hE hT;have KA:cap<=1073741824:=by omega
 have ap4:(inf.bytes:Int)*cap<=281474976710656:=by have h1:(inf.bytes:Int)*cap<=65536*cap:=Int.mul_le_mul_of_nonneg_right (by omega) (by omega);omega
 have fD:=run_make (P:=P) w T te inf z hu Ez hz .i64 .i64 len cap hlc.1 hlc.2 ap4 (by omega);have IK:(execOp a.eval o).run P w=.ok (.value (.slice (some ⟨w.heap.size,0,none⟩) len.toNat cap.toNat)) (w.alloc (.cells (madeCells z.cells (cap.toNat*inf.size)) te)):=by simp only[execOp,ho,jR hnv,jR hcv];show((Instr.makeSlice T (.int .i64 len) (.int .i64 cap))>>=λv=>pure (Next.value v)).run P w=_;rw[Sem.run_bind,fD];rfl
 have hzs:z.cells.size=e.size:=by rw[<-rz e,<-hzc];simp
 have hlen:(List.replicate len.toNat e.zero).length=len.toNat:=by simp
 have GN:ma g.hw w e ((madeCells z.cells (cap.toNat*inf.size)).toList.take ((List.replicate len.toNat e.zero).length*e.size)) (List.replicate len.toNat e.zero) (List.replicate len.toNat []):=by
  refine MT (o0:=0) (cap:=cap.toNat) (by rw[size_madeCells,wI,cE]) (by rw[hlen];omega) (by simp) (λi x f hx hf=>?_);have hi:i<len.toNat:=by have:=(ay.1 hx).1;simpa using this
  rw[eP,aH hi]at hx hf;simp at hx hf;subst hx;subst hf;rw[wI,cE,alo hzs (by omega),hzc];exact HG _ _ _
 refine⟨_,_,_,.inl IK,?_,hk⟩;have:=hg.Ru o.dst (T:=te) (fr:=(0,0)) (cap:=cap.toNat) (.inl rfl) (by intro j _;simp) (by rw[size_madeCells,wI]) (by rw[hlen];omega) GN (by simp) (by simp);rw[hlen]at this;exact this;cases hk;cases hk;cases hk
theorem PL {lo hi:aB Operand}(hg:fb C g st a w []){n:Nat}(KA:n<=cap){K:Int->Int->aB R}(hk:oB st lo hi n K=some r)(isS:Bool): ∃x y:Int,K x y=some r/\(0<=x->x<=y->y<=n->(Instr.sliceBounds isS n cap (lo.map a.eval) (hi.map a.eval) none).run P w=.ok (x.toNat,y.toNat,cap) w):=by
 unfold oB at hk;split at hk;rename_i h1 h2;have e1:lo=none:=by cases lo<;>simp at h1⊢
 have e2:hi=none:=by cases hi<;>simp at h2⊢
 subst e1;subst e2;exact⟨0,n,hk,λ_ _ _=>by simp[Instr.sliceBounds]⟩;rename_i k p h1 h2;have e2:hi=none:=by cases hi<;>simp at h2⊢
 subst e2;cases lo with|none=>simp at h1|some lo=>simp at h1;have hv:=hg.rd lo;rw[h1]at hv;refine⟨p,n,hk,λq1 q2 q3=>?_⟩;simp[Instr.sliceBounds,Instr.sliceBound,asIntOf,jR hv,q1,q2]
 rename_i k p h1 h2;have e1:lo=none:=by cases lo<;>simp at h1⊢
 subst e1;cases hi with|none=>simp at h2|some hi=>simp at h2;have hv:=hg.rd hi;rw[h2]at hv;refine⟨0,p,hk,λq1 q2 q3=>?_⟩;simp[Instr.sliceBounds,Instr.sliceBound,asIntOf,jR hv,show 0<=p by omega,show p<=(cap:Int) by omega]
 rename_i k p k' q h1 h2;cases lo with|none=>simp at h1|some lo=>cases hi with|none=>simp at h2|some hi=>simp at h1 h2;have hv:=hg.rd lo;have S9:=hg.rd hi;rw[h1]at hv;rw[h2]at S9;refine⟨p,q,hk,λq1 q2 q3=>?_⟩;simp[Instr.sliceBounds,Instr.sliceBound,asIntOf,jR hv,jR S9,q1,show 0<=q by omega,show q<=(cap:Int) by omega];intro hG;omega
 cases hk
theorem extract_mk (s:aw UInt8)(x y:Nat):(ByteArray.mk s.toArray).extract x y=ByteArray.mk ((s.take y).drop x).toArray:=by apply ByteArray.ext;rw[ByteArray.data_extract];simp[List.extract_eq_take_drop,List.drop_take]
theorem Sn {α:Type}{xs ys:aw α}{x y:Int}(h:sub xs x y=some ys):0<=x/\x<=y/\y<=(xs.length:Int)/\ys=(xs.take y.toNat).drop x.toNat:=by unfold sub at h;split at h;rename_i hc;simp at h;exact⟨hc.1,hc.2.1,hc.2.2,h.symm⟩;cases h
theorem afK {w:World}{S:Nat->Nat->Prop}{xs:aw e.D}(h:ky w S (.sl e) [v] xs){x y:Nat}(hxy:x<=y)(hy:y<=xs.length): ∃bo cap,v=.slice bo xs.length cap/\xs.length<=cap/\ky w S (.sl e) [.slice (if cap=x then bo else bo.map (·.add (x*e.size))) (y-x) (cap-x)] ((xs.take y).drop x):=by
 obtain⟨u,hu,h⟩:=h;simp at hu;subst hu;rcases h with⟨⟨ad,rfl⟩,rfl⟩|⟨b,o,cap,rfl,hc,h⟩;simp at hy;subst hy;have hx:x=0:=by omega
 subst hx;exact⟨ad,0,rfl,by simp,⟨_,rfl,.inl ⟨⟨ad,by simp⟩,by simp⟩⟩⟩;have hl:((xs.take y).drop x).length=y-x:=by simp;omega
 refine⟨some ⟨b,o,none⟩,cap,rfl,hc,⟨_,rfl,.inr ?_⟩⟩;by_cases hcx:cap=x;refine⟨b,o,cap-x,by rw[aH hcx,hl],by rw[hl];omega,λi z hz=>?_⟩;have:((xs.take y).drop x)=[]:=cr (by rw[hl];omega);rw[this]at hz;simp at hz;refine⟨b,o+x*e.size,cap-x,by rw[aG hcx,hl];simp[oR],by rw[hl];omega,λi z hz=>?_⟩;have hz':xs[x+i]?=some z:=by rw[bR,eG]at hz;split at hz;exact hz;cases hz
 obtain⟨cs,Ml,hr⟩:=h (x+i) z hz';refine⟨cs,?_,hr⟩;have:o+x*e.size+i*e.size=o+(x+i)*e.size:=by rw[dk];omega
 rw[this];exact Ml
theorem alJ {w:World}{xs:aw e.D}{fp:fM}(h:gA hw w (.sl e) [v] xs fp){n:Nat}(hn:n<=xs.length): ∃bo cap,v=.slice bo xs.length cap/\xs.length<=cap/\∃lO,gA hw w (.sl e) [.slice (if cap=n then bo else bo.map (·.add (n*e.size))) (xs.length-n) (cap-n)] (xs.drop n) lO/\(∀b∈lO,b∈fp)/\(fp.Nodup->lO.Nodup):=by
 obtain⟨u,hu,h⟩:=h;simp at hu;subst hu;rcases h with⟨⟨ad,rfl⟩,rfl,rfl⟩|⟨b,o0,cap,arr,T,fr,fps,rfl,hb,uR,hs,hc,hh,rfl,hl,hr⟩;simp at hn;subst hn;exact⟨ad,0,rfl,by simp,[],⟨_,rfl,.inl ⟨⟨ad,by simp⟩,rfl,rfl⟩⟩,by simp,by simp⟩;refine⟨some ⟨b,o0,none⟩,cap,rfl,hc,?_⟩;by_cases hcn:cap=n;have hx:xs.drop n=[]:=cI (by omega);refine⟨[],⟨_,rfl,.inl ⟨⟨some ⟨b,o0,none⟩,by rw[aH hcn,show xs.length-n=0 by omega,show cap-n=0 by omega]⟩,hx,rfl⟩⟩,by simp,by simp⟩;have hm1:cap*e.size=n*e.size+(cap-n)*e.size:=by rw[<-dk];congr 1;omega
 have hm2:xs.length*e.size=n*e.size+(xs.length-n)*e.size:=by rw[<-dk];congr 1;omega
 refine⟨b::(fps.drop n).flatten,⟨_,rfl,.inr ⟨b,o0+n*e.size,cap-n,arr,T,fr,fps.drop n,by rw[aG hcn];simp[oR],hb,uR,by omega,by simp;omega,by simp;omega,rfl,by simp[hl],λi x f hx hf=>?_⟩⟩,?_,?_⟩;rw[bR]at hx hf;have:=hr (n+i) x f hx hf;rwa[dk,<-gv]at this;intro c Cf;rcases bU.1 Cf with rfl|Cf;simp;obtain⟨l,hl1,Cg⟩:=List.mem_flatten.1 Cf;exact fB _ (List.mem_flatten.2 ⟨l,List.mem_of_mem_drop hl1,Cg⟩);intro HZ;have h1:=dN.1 HZ;have e1:fps.flatten=(fps.take n).flatten++(fps.drop n).flatten:=by rw[<-eO,cR]
 rw[e1]at h1;exact dN.2 ⟨λhm=>h1.1 (by simp[hm]),(aS.1 h1.2).2.1⟩
theorem aif {an:An}{o:Oper}{ep:Nat}{pv:aB (mi×Nat)}{p:Int}:RA an o (.loc ep pv) p=.loc ep none\/∃rt t,pv=some (rt,t)/\RA an o (.loc ep pv) p=.part ep rt t p:=by
 unfold RA;split;rename_i ep' r t d h _;cases h;cases an.nest.contains d with|false=>exact .inl rfl|true=>exact .inr ⟨_,_,rfl,rfl⟩
 exact .inl rfl
theorem R4 {E:Env}(hE:kG P E.ty){o:Oper}{lo hi:aB Operand}(ho:o.op=.slice T x lo hi none)(h:qe C st a w){K:AS->aB R}(hk:yZ E o T x lo hi st K=some r):ox P C o a w K r:=by
 obtain⟨g,hg⟩:=h;unfold yZ at hk;split at hk;rename_i tag e xs cj kd p vm hlo;split at hk;rename_i hT;cases lo with
 |none=>simp at hlo
 |some lo=>
  simp at hlo;have hlv:=hg.rd lo;rw[hlo]at hlv;obtain⟨te,hu,⟨inf,z,Ez,wI,_⟩,_⟩:=Hq hE hT;obtain⟨g',qb⟩:=hg.take x;rw[vm]at qb;simp only[cv]at qb;cases rP:sub xs p xs.length with
  |none=>rw[rP]at hk;cases hk
  |some SM=>
   rw[rP]at hk;simp only[aa]at hk;obtain⟨h1,h2,_,rfl⟩:=Sn rP;obtain⟨fp,fZ,HZ,hl⟩:=qb.hands 0 _ _ rfl;have ja:=(fH fZ).1;obtain⟨bo,cap,hv,KA,lO,KE,asH,WM⟩:=alJ ja (n:=p.toNat) (by omega);have fD:(execOp a.eval o).run P w=.ok (.value (.slice (if cap=p.toNat then bo else bo.map (·.add (p.toNat*e.size))) (xs.length-p.toNat) (cap-p.toNat))) w:=by
    have hb:(Instr.sliceBounds true xs.length cap (some (a.eval lo)) none none).run P w=.ok (p.toNat,xs.length,cap) w:=by have hp2:p<=(xs.length:Int):=h2;simp[Instr.sliceBounds,Instr.sliceBound,asIntOf,jR hlv,h1,hp2]
    simp only[execOp,ho,hv,Instr.sliceAt,Instr.slice,underlying,Option.map_none,dP,Sem.run_bind,run_program,hu,Result.andThen_ok,Sem.run_pure,hb,sizeOf,typeInfo,Ez,wI]
   have Dd:(xs.take ((xs.length:Int).toNat)).drop p.toNat=xs.drop p.toNat:=by rw[au,cO]
   rw[Dd]at hk;refine⟨_,_,_,.inl fD,?_,hk⟩;refine qb.RM o.dst (hw':=g'.hw) (fp:=lO) (Fr.refl _ _) (λ_ _ _ _=>rfl) (λ_ _ _ ho hu=>⟨ho,hu⟩) KE (WM HZ) (λb hb=>?_);have:=hl b (asH b hb);exact⟨(qb.im b _ this).1,.inl (by rw[this];rfl)⟩
 cases hk;cases hk
theorem aen {E:Env}(hE:kG P E.ty){an:An}{o:Oper}{lo hi:aB Operand}(ho:o.op=.slice T x lo hi none)(h:qe C st a w){K:AS->aB R}(hk:CZ E an o T x lo hi st K=some r):ox P C o a w K r:=by
 obtain⟨g,hg⟩:=id h;have xn:=hg.fresh (hg.rd x);unfold CZ at hk;split at hk;exact R4 hE ho h hk;split at hk;rename_i s hx;rw[hx]at xn;split at hk;rename_i hT;have hu:=XK hE hT;have hv:=(fH xn).1;obtain⟨p,q,S5,fD⟩:=PL (P:=P) (w:=w) hg (bc s.length) hk false;cases rP:sub s p q with|none=>rw[rP]at S5;cases S5|some s'=>rw[rP]at S5;simp only[aa]at S5;obtain⟨h1,h2,h3,rfl⟩:=Sn rP;have hb:=fD h1 h2 h3;refine xx h _ _ ?_ (Pj _) S5;simp only[execOp,ho,hv,Instr.sliceAt,Instr.slice,underlying,Option.map_none,Sem.run_bind,run_program,hu,Result.andThen_ok,Sem.run_pure,zW,hb,Option.isSome_none,bm,cC,extract_mk]
 cases hk;rename_i fl e xs hx;rw[hx]at xn;split at hk;rename_i hT;obtain⟨hT,qT⟩:=hT;obtain⟨te,hu,⟨inf,z,Ez,wI,_⟩,_⟩:=Hq hE hT;have hc:=fH xn
 have key:∀(S:Nat->Nat->Prop),ky w S (.sl e) [a.eval x] xs->(∀(p q:Int)(bo:aB Addr)(cap:Nat),0<=p->p<=q->q<=xs.length->xs.length<=cap->a.eval x=.slice bo xs.length cap->
  ky w S (.sl e) [.slice (if cap=p.toNat then bo else bo.map (·.add (p.toNat*e.size))) (q.toNat-p.toNat) (cap-p.toNat)] ((xs.take q.toNat).drop p.toNat)->
  iV (dz C g st w) (.slice (if cap=p.toNat then bo else bo.map (·.add (p.toNat*e.size))) (q.toNat-p.toNat) (cap-p.toNat)) (.sl (RA an o fl p) e ((xs.take q.toNat).drop p.toNat)) [])->ox P C o a w K r:=by
  intro S KG hmk
  have KA:∃bo cap,a.eval x=.slice bo xs.length cap/\xs.length<=cap:=by obtain⟨bo,cap,hv,hc,_⟩:=afK KG (x:=0) (y:=0) (bc _) (cd _);exact⟨bo,cap,hv,hc⟩
  obtain⟨bo,cap,hv,KA⟩:=KA
  obtain⟨p,q,S5,fD⟩:=PL (P:=P) (w:=w) hg KA hk true
  cases rP:sub xs p q with
  |none=>rw[rP]at S5;cases S5
  |some SM=>
   rw[rP]at S5
   simp only[aa]at S5
   obtain⟨h1,h2,h3,rfl⟩:=Sn rP
   have hb:=fD h1 h2 h3
   obtain⟨bo',ax9,S9,_,akP⟩:=afK KG (x:=p.toNat) (y:=q.toNat) (by omega) (by omega)
   rw[hv]at S9
   simp only[Value.slice.injEq,true_and]at S9
   obtain⟨rfl,rfl⟩:=S9
   refine⟨.slice (if cap=p.toNat then bo else bo.map (·.add (p.toNat*e.size))) (q.toNat-p.toNat) (cap-p.toNat),w,_,.inl ?_,⟨g,hg.quiet o.dst (oo (hmk p q _ _ h1 h2 h3 KA hv akP))⟩,S5⟩
   simp only[execOp,ho,hv,Instr.sliceAt,Instr.slice,underlying,Option.map_none,Sem.run_bind,run_program,hu,Result.andThen_ok,Sem.run_pure,hb,sizeOf,typeInfo,Ez,wI]
 cases fl with
 |own t=>cases qT
 |nest _ _ _ _ _ _=>cases qT
 |part _ _ _ _=>cases qT
 |gB _ _ _=>cases qT
 |arg _=>exact key _ hc.2 (λp q bo cap _ _ _ _ _ hr=>by simp only[RA,sO.bare];exact⟨rfl,hr⟩)
 |loc ep pv=>
  have AY:ep=st.ep:=by simpa[sO.live]using qT
  refine key _ (hc.2.2.2.1 AY) (λp q bo cap hp hpq hq KA hv hr=>?_);have hlen:((xs.take q.toNat).drop p.toNat).length=q.toNat-p.toNat:=by simp;omega
  have plain:iV (dz C g st w) (.slice (if cap=p.toNat then bo else bo.map (·.add (p.toNat*e.size))) (q.toNat-p.toNat) (cap-p.toNat)) (.sl (.loc ep none) e ((xs.take q.toNat).drop p.toNat)) []:=⟨rfl,hc.2.1,⟨_,_,_,rfl,hlen.symm⟩,λ_=>hr,by simp⟩
  rcases aif (an:=an) (o:=o) (ep:=ep) (pv:=pv) (p:=p)with hpf|⟨rt,t,rfl,hpf⟩;rw[hpf];exact plain;rw[hpf];refine⟨rfl,hc.2.1,⟨_,_,_,rfl,hlen.symm⟩,λ_=>?_⟩;have IJ:=hc.2.2.2.2 rt t rfl;refine⟨IJ.1,?_⟩;by_cases hz:q.toNat-p.toNat=0;exact .inl (cr (by rw[hlen];exact hz));right;obtain⟨u,hu,KG⟩:=hc.2.2.2.1 AY;simp at hu;rcases KG with⟨_,rfl⟩|⟨b,o0,abV,WR,hc2,_⟩;simp at hlen;omega;rw[<-hu,hv]at WR;simp only[Value.slice.injEq,true_and]at WR;obtain⟨rfl,rfl⟩:=WR;refine⟨p.toNat,b,o0,xs.length,cap,cap-p.toNat,by omega,by rw[<-IJ.2,hv],by rw[hlen];omega,?_⟩;rw[lI,hlen];simp[oR]
 cases hk;cases hk
theorem Yi {E:Env}(hE:kG P E.ty)(h:E.bytes T=true):∃te,P.underlying T=some (.slice te)/\P.underlying te=some (.int .u8):=by unfold Env.bytes at h;split at h;rename_i te n hT;split at h;rename_i lr hte;obtain⟨te',hu,_,ho⟩:=(hE T _ hT).sl _ rfl rfl;have:=ho te n rfl;subst this;exact⟨te,hu,(hE te _ hte).int _ rfl rfl⟩;cases h;cases h
theorem ais {w:World}{S:Nat->Nat->Prop}{xs:cc}(h:ky w S (.sl (.int .u8)) [v] xs): ((∃a,v=.slice a 0 0)/\xs=[])\/∃b o cap,v=.slice (some ⟨b,o,none⟩) xs.length cap/\∀i,i<xs.length->w.cell? ⟨b,o+i,none⟩=some (.int .u8 (xs.getD i 0)):=by obtain⟨u,hu,h⟩:=h;simp at hu;subst hu;rcases h with h|⟨b,o,cap,hv,_,h⟩;exact .inl h;refine .inr ⟨b,o,cap,hv,λi hi=>?_⟩;obtain⟨cs,Ml,hr⟩:=h i xs[i] (al hi);have hr':cs=[.int .u8 xs[i]]:=hr;subst hr';have:=(Ml 0 _ rfl).2;simp only[CT.size,oS,dX]at this;rw[this];simp[List.getD,al hi]
theorem VZ {E:Env}(hE:kG P E.ty){o:Oper}{src dst:TypeId}(ho:o.op=.convert src dst x)(h:qe C st a w){K:AS->aB R}(hk:nC E o src dst x st K=some r):ox P C o a w K r:=by
 obtain⟨g,hg⟩:=id h;have xn:=hg.rd x;have fin:∀v w',(convert src dst (a.eval x)).run P w=.ok v w'->(execOp a.eval o).run P w=.ok (.value v) w':=by intro v w' hr;simp only[execOp,ho];show(convert src dst (a.eval x)>>=λv=>pure (Next.value v)).run P w=_;rw[Sem.run_bind,hr];rfl
 have under:∀(T:TypeId)(sh:Shape),ko E.ty T=some sh->∃d,P.underlying T=some d:=by
  intro T sh hT;have oz:=hE T sh hT;cases Pb:sh.agg with
  |true=>obtain⟨fs,hu,_⟩:=oz.agg Pb;exact⟨_,hu⟩
  |false=>
   cases NJ:sh.ct with
   |int k=>exact⟨_,oz.int k NJ Pb⟩
   |bool=>exact⟨_,oz.bool NJ Pb⟩
   |str=>exact⟨_,oz.str NJ Pb⟩
   |sl e=>obtain⟨te,hu,_⟩:=oz.sl e NJ Pb;exact⟨_,hu⟩
   |pair p q=>have:=oz.pair p q NJ;rw[Pb]at this;cases this
 unfold nC at hk;split at hk;rename_i ssh k lr k' n hs hd hx;rw[hx]at xn;obtain⟨ds,hus⟩:=under _ _ hs;have hud:=(hE dst _ hd).int k rfl rfl;refine xx h _ _ (fin (.int k (k.wrap n)) w ?_) (lU _ _) hk;rw[jR xn];simp only[convert,underlying,Sem.run_bind,run_program,hus,hud,Result.andThen_ok,Sem.run_pure];rfl;rename_i lr ax7 s hs hd hx;rw[hx]at xn;have hus:=(hE src _ hs).str rfl rfl;have hud:=(hE dst _ hd).str rfl rfl;refine xx h _ _ (fin (.string ⟨s.toArray⟩) w ?_) (Pj _) hk;rw[(fH xn).1];simp only[convert,underlying,Sem.run_bind,run_program,hus,hud,Result.andThen_ok,Sem.run_pure];rename_i lr sh s OP hs hd hx;rw[hx]at xn;split at hk;rename_i hb;unfold room at hk;split at hk;obtain⟨te,hu,hte⟩:=Yi hE hb;have hus:=(hE src _ hs).str rfl rfl;have fD:=run_bytes_of_string (P:=P) w src dst te ⟨s.toArray⟩ hus hu hte;rw[<-(fH xn).1,zW]at fD;refine⟨_,_,_,.inl (fin _ _ fD),?_,hk⟩;have CF:=grownCap_ge w s.length 0 te;have wI:(bytesRow ⟨s.toArray⟩ (grownCap w s.length 0 te)).size=grownCap w s.length 0 te*CT.size (.int .u8):=by simp only[bytesRow,Array.size_append,Array.size_map,Array.size_replicate,zW,CT.size];simp;omega
 have vm:(bytesRow ⟨s.toArray⟩ (grownCap w s.length 0 te)).toList.take ((dJ s).length*CT.size (.int .u8))=(dJ s).map (Value.int .u8):=by simp only[bytesRow,dJ,CT.size,Array.toList_append,Array.toList_map];rw[List.take_append_of_le_length (by simp)];rw[ca (by simp)];simp
 have GN:ma g.hw w (.int .u8) ((bytesRow ⟨s.toArray⟩ (grownCap w s.length 0 te)).toList.take ((dJ s).length*CT.size (.int .u8))) (dJ s) (List.replicate s.length []):=by
  rw[vm];refine⟨by simp[CT.size],by simp[dJ],λi y f hy hf=>?_⟩;have hi:i<(dJ s).length:=(ay.1 hy).1;have hf':f=[]:=by rw[eP]at hf;split at hf<;>simp at hf;exact hf
  subst hf';refine⟨?_,rfl⟩;apply dj;intro j;rw[kE];simp only[CT.size,oS];cases j with|zero=>simp[hy]|succ j=>simp
 have hlen:(dJ s).length=s.length:=by simp[dJ]
 have:=hg.Ru o.dst (T:=te) (fr:=((bytesRow ⟨s.toArray⟩ (grownCap w s.length 0 te)).size,(bytesRow ⟨s.toArray⟩ (grownCap w s.length 0 te)).size+1)) (cap:=grownCap w s.length 0 te) (.inr rfl) (by intro j hj hc;simp only at hc;omega) wI (by rw[hlen];exact CF) GN (by simp) (by simp);rw[hlen]at this;exact this;cases hk;cases hk;rename_i ssh lr fl xs hs hd hx;rw[hx]at xn;split at hk;rename_i hb;obtain⟨hb,qT⟩:=hb;obtain⟨te,hu,hte⟩:=Yi hE hb;have hud:=(hE dst _ hd).str rfl rfl;have hc:=fH xn;have KG:∃S,ky w S (.sl (.int .u8)) [a.eval x] xs:=by
  cases fl with
  |own t=>cases qT
  |nest _ _ _ _ _ _=>cases qT
  |part _ _ _ _=>cases qT
  |gB _ _ _=>cases qT
  |arg _=>exact⟨_,hc.2⟩
  |loc ep pv=>
   have AY:ep=st.ep:=by simpa[sO.live]using qT
   exact⟨_,hc.2.2.2.1 AY⟩
 obtain⟨S,KG⟩:=KG;refine xx h _ _ (fin (.string ⟨(aQ xs).toArray⟩) w ?_) (Pj _) hk;rcases ais KG with⟨⟨ad,hv⟩,rfl⟩|⟨b,ob,cap,hv,Ew⟩;cases ad with|none=>rw[hv,run_convert_bytes_nil w src te hu hte 0 0 dst hud];rfl|some ad=>rw[hv];exact run_convert_bytes_back w src dst te ad 0 [] hu hte hud (λj hj=>by simp at hj)
 rw[hv,run_convert_bytes_arg w src te hu hte b ob xs.length cap xs rfl Ew dst hud];rfl;cases hk;cases hk
end Go.Dn
