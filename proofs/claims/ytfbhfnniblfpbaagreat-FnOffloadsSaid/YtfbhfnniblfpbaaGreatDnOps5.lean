import Derived.Test.YtfbhfnniblfpbaaGreatDnOps4
import Derived.Laws.MakeOwn
import Derived.Laws.IdiomStrings
import Derived.Laws.BytesArg
/- Part 5: tuples, parts of slices, conversions, structs and slices that are built. -/
namespace Go.Dn
open Go.RowKit
variable {P:Program} {C:Ctx} {st:AS} {a:Act} {w:World} {R:Type} {r:R}
variable {arr:Array Value} {e:CT} {g:Gh} {cap:Nat} {fr:Nat×Nat} {hw:Nat->Nat} {x:Operand} {T:TypeId} {hs:ax (Value×AV)} {fps:ax fi} {news:jI}
theorem tw.at {c:RC}:∀{ws:jI}{ts:ax (Bool×ax AC)}{fp:fi},gV.tw c ws ts fp->∀{i:Nat}{g:Bool}{cs:ax AC},ts[i]?=some (g,cs)->
 ∃v f1 f2 f3,ws[i]?=some v/\fp=f1++f2++f3/\(∃us,Cut g v us/\bW c us cs f2)/\
  ∀c':RC,c.Le c'->(∀b∈f1++f3,c'.w.heap[b]?=c.w.heap[b]?/\c'.hw b=c.hw b)->∀tr,(∃us,Cut g v us/\bW c' us tr [])->gV.tw c' ws (ts.set i (g,tr)) (f1++f3)
 |[],[],_,_,i,g,cs,h=>by simp at h
 |w::ws,t::ts,_,r,0,g,cs,h=>by obtain⟨f1,f2,rfl,r1,r2⟩:=r;simp at h;subst h;exact⟨w,[],f1,f2,rfl,by simp,r1,λc' hle hb tr BF=>⟨[],f2,rfl,BF,tw.mono hle r2 (λb iq=>hb b (by simpa using iq))⟩⟩
 |w::ws,t::ts,_,r,i+1,g,cs,h=>by obtain⟨f1,f2,rfl,r1,r2⟩:=r;obtain⟨v,g1,g2,g3,hv,rfl,hr,HP⟩:=tw.at r2 (i:=i) (by simpa using h);refine⟨v,f1++g1,g2,g3,by simpa using hv,by simp,hr,λc' hle hb tr BF=>?_⟩;obtain⟨us,gb,fE⟩:=r1;rw[aG];refine⟨f1,g1++g3,rfl,⟨us,gb,fE.mono hle (λb iq=>hb b (by simp[iq]))⟩,?_⟩;exact HP c' hle (λb iq=>hb b (by rcases aB.1 iq with k|k<;>simp[k])) tr BF
 |[],_::_,_,r,_,_,_,_=>r.elim
 |_::_,[],_,r,_,_,_,_=>r.elim
theorem VL {o:Oper}{t i:Nat}(ho:o.op=.extract (.tmp t) i)(h:qo C st a w){K:AS->aA R}(hk:nG o t i st K=some r):oK P C o a w K r:=by
 obtain⟨g,h⟩:=h;unfold nG at hk;split at hk;rename_i ts hg;split at hk;rename_i gg cs hn;rw[eV]at hn;have htl:t<st.slots.length:=by
  rcases ca t st.slots.length with iA|B0;exact iA;have:st.get t=.bot:=by simp[AS.get,eV,cd B0]
  rw[this]at hg;cases hg
 obtain⟨fp,hr,HN,hl⟩:=h.slot t;rw[hg]at hr;obtain⟨ws,hv,hr⟩:=hr;obtain⟨v,f1,f2,f3,hwv,rfl,Ub,HP⟩:=tw.at hr hn;have fz:(execOp a.eval o).run P w=.ok (.value v) w:=by have he:a.eval (.tmp t)=.tuple ws.toArray:=hv;simp[execOp,ho,he,Instr.extract,hwv]
 have V2:=HN;rw[aG]at V2;have n1:=aN.1 V2;have n2:=aN.1 n1.2.1;let SI:AV:=.yY (jm ts i (gg,bh 0 cs));let cp:AS:=st.put (some t) SI;let g':Gh:={g with fK:=λb=>if b∈f2 then some (.hand 0) else g.fK b}
 have hle:(dy C g st w).Le (dy C g' cp w):=by have:= @Wf C g st w (some t) SI;exact⟨this.A,this.hdr,this.Xw,this.ep,this.LQ,this.afH⟩
 have hlk:∀b y,g.fK b=some y->b∉f2->g'.fK b=some y:=by intro b y hb hm;show(if b∈f2 then _ else _)=_;rw[aK hm];exact hb
 have OW:∀b y,y≠ .slot t->g.fK b=some y->b∉f2:=λb y hy hb hm=>hy (by have:=hl b (by simp[hm]);rw[hb]at this;simpa using this);have alN:eZ C g' cp a w [(v,.val gg cs)]:=by
  refine h.step (λy=>y≠ .slot t) hle h.defers (by show _=(st.put (some t) SI).slots.length;rw[gU,aL];exact h.size) (by show(st.put (some t) SI).boxes.length=(st.put (some t) SI).slots.length;rw[mx,gU,aL];exact h.bsize) h.frame ?_ (λb y hy hb=>⟨hlk b y hb (OW b y hy hb),rfl,rfl⟩) ?_ ?_ ?_ (.inl ⟨by simp,Na⟩);intro b y hy;have Ud:(if b∈f2 then some (kX.hand 0) else g.fK b)=some y:=hy;by_cases hm:b∈f2;exact h.ir b _ (hl b (by simp[hm]));rw[aK hm]at Ud;exact h.ir b y Ud;intro j bv hj;have hj':(st.slots.set t SI)[j]?=some bv:=by rw[<-gU];exact hj
  by_cases hjt:j=t;subst hjt;rw[bO]at hj';simp only[cL,htl]at hj';simp at hj';subst hj';refine .inr ⟨f1++f3,⟨ws,hv,?_⟩,?_,?_⟩;rw[gB];obtain⟨us,gb,fE⟩:=Ub;refine HP _ hle (λb _=>⟨rfl,rfl⟩) _ ⟨us,gb,?_⟩;exact(fE.acJ).mono hle (by simp);refine aN.2 ⟨n1.1,n2.2.1,?_⟩;rintro b hb c hc rfl;exact n1.2.2 b hb b (bj _ hc) rfl;intro b hb;refine hlk b _ (hl b (by rcases aB.1 hb with k|k<;>simp[k])) (λhm=>?_);rcases aB.1 hb with k|k;exact n1.2.2 b k b (aU _ hm) rfl;exact n2.2.2 b hm b k rfl;rw[aM (cE hjt)]at hj';exact .inl ⟨by simpa using hjt,hj',rfl⟩;intro s tr hb;have iq:st.boxes[s]?=some (some tr):=by rw[<-mx (d:=some t) (v:=SI)];exact hb
  exact .inl ⟨by simp,iq,rfl⟩;intro k u bv HM;cases k with
  |zero=>simp only[df,br,Prod.mk.injEq]at HM;obtain⟨rfl,rfl⟩:=HM;obtain⟨us,gb,fE⟩:=Ub;refine .inr ⟨f2,⟨us,gb,fE.mono hle (λb _=>⟨rfl,rfl⟩)⟩,n2.1,λb hb=>?_⟩;show(if b∈f2 then _ else _)=_;rw[aI hb]
  |succ k=>simp at HM
 exact⟨v,w,_,.inl fz,eZ.Gy alN o.dst,hk⟩;cases hk;cases hk
def mq (hw:Nat->Nat)(w:World)(e:CT)(news:jI)(ys:ax e.D)(fps:ax fi):Prop:=
 news.length=ys.length*e.size/\fps.length=ys.length/\∀(i:Nat)(y:e.D)(f:fi),ys[i]?=some y->fps[i]?=some f->fZ hw w e ((news.drop (i*e.size)).take e.size) y f
theorem mq.append {w:World}{n1 n2:jI}{xs ys:ax e.D}{f1 f2:ax fi}(h1:mq hw w e n1 xs f1)(h2:mq hw w e n2 ys f2): mq hw w e (n1++n2) (xs++ys) (f1++f2):=by
 obtain⟨a1,a2,a3⟩:=h1;obtain⟨b1,b2,b3⟩:=h2;refine⟨by rw[aq,aq,a1,b1,dg],by simp[a2,b2],λi y f hy hf=>?_⟩;by_cases hi:i<xs.length;rw[bB hi]at hy;rw[bB (by omega)]at hf;have hm:(i+1)*e.size<=xs.length*e.size:=dw _ hi;rw[dg,fT]at hm;have:=a3 i y f hy hf;have e1:((n1++n2).drop (i*e.size)).take e.size=(n1.drop (i*e.size)).take e.size:=by rw[List.drop_append_of_le_length (by omega),List.take_append_of_le_length (by rw[bA];omega)]
 rw[e1];exact this;rw[bJ (by omega)]at hy;rw[bJ (by omega),a2]at hf;have:=b3 _ y f hy hf;have B0:xs.length*e.size<=i*e.size:=dw _ (by omega);have e1:(n1++n2).drop (i*e.size)=n2.drop ((i-xs.length)*e.size):=by rw[List.drop_append,cW (by omega),bU,a1,Nat.sub_mul]
 rw[e1];exact this
theorem mq.mono {hw':Nat->Nat}{w w':World}{ys:ax e.D}(h:mq hw w e news ys fps)(hk:∀b∈fps.flatten,w'.heap[b]?=w.heap[b]?/\hw' b=hw b):mq hw' w' e news ys fps:=⟨h.1,h.2.1,λi y f hy hf=>fZ.mono (h.2.2 i y f hy hf) λb hb=>hk b (List.mem_flatten.2 ⟨f,aX hf,hb⟩)⟩
theorem mq.nil (hw:Nat->Nat)(w:World)(e:CT):mq hw w e [] [] []:=⟨by simp,rfl,by simp⟩
theorem mq.oT {w:World}{ys:ax e.D}(h:mq hw w e news ys fps):∀v∈news,v.oneCell'=true:=by
 intro v hv;obtain⟨j,hj,hjv⟩:=List.mem_iff_getElem.1 hv;have aep:=e.size_pos;have hi:j/e.size<ys.length:=by rw[Nat.div_lt_iff_lt_mul aep];rw[<-h.1];exact hj
 have ix:=h.2.2 (j/e.size) _ _ (ay hi) (ay (by rw[h.2.1];exact hi));refine fZ.oT ix v ?_;rw[List.mem_iff_getElem?];refine⟨j%e.size,?_⟩;rw[kK,aI (Nat.mod_lt _ aep),Nat.mul_comm,Nat.div_add_mod,ay hj,hjv]
theorem abO {w:World}{b o0:Nat}{xs:ax e.D}(hb:w.heap[b]?=some (.cells arr T fr))(vx:sE arr fr)(hs:arr.size=o0+cap*e.size)(hc:xs.length<=cap)(hh:hw b=o0+xs.length*e.size)(HJ:mq hw w e ((arr.toList.drop o0).take (xs.length*e.size)) xs fps): fZ hw w (.sl e) [.slice (some ⟨b,o0,none⟩) xs.length cap] xs (b::fps.flatten):=by
 refine⟨_,rfl,.inr ⟨b,o0,cap,arr,T,fr,fps,rfl,hb,vx,hs,hc,hh,rfl,HJ.2.1,λi x f hx hf=>?_⟩⟩;have:=HJ.2.2 i x f hx hf;have hi:i<xs.length:=(aD.1 hx).1;have hm:(i+1)*e.size<=xs.length*e.size:=dw _ hi;rw[dg,fT]at hm;have e1:(((arr.toList.drop o0).take (xs.length*e.size)).drop (i*e.size)).take e.size=(arr.toList.drop (o0+i*e.size)).take e.size:=by apply dB;intro j;rw[kK,kK,kK];by_cases hj:j<e.size;rw[aI hj,aI hj,zip,gn];rw[aK hj,aK hj]
 rw[e1]at this;exact this
theorem Ns {w:World}{o0:Nat}{xs:ax e.D}(hs:arr.size=o0+cap*e.size)(hc:xs.length<=cap)(hl:fps.length=xs.length)(h:∀(i:Nat)(x:e.D)(f:fi),xs[i]?=some x->fps[i]?=some f->fZ hw w e ((arr.toList.drop (o0+i*e.size)).take e.size) x f):mq hw w e ((arr.toList.drop o0).take (xs.length*e.size)) xs fps:=by
 refine⟨?_,hl,λi x f hx hf=>?_⟩;have hal:(arr.toList.drop o0).length=cap*e.size:=by rw[bA,Array.length_toList,hs];omega
 rw[bt,hal];exact ko (dw _ hc);have hi:i<xs.length:=(aD.1 hx).1;have hm:(i+1)*e.size<=xs.length*e.size:=dw _ hi;rw[dg,fT]at hm;have e1:(((arr.toList.drop o0).take (xs.length*e.size)).drop (i*e.size)).take e.size=(arr.toList.drop (o0+i*e.size)).take e.size:=by apply dB;intro j;rw[kK,kK,kK];by_cases hj:j<e.size;rw[aI hj,aI hj,zip,gn];rw[aK hj,aK hj]
 rw[e1];exact h i x f hx hf
theorem QE {w w':World}{S:Nat->Nat->Prop}:∀{e:CT}{vs:jI}{x:e.D},kE w' S e vs x->e.flat=true->fZ hw w e vs x []
 | .int _,_,_,h,_=>⟨h,rfl⟩
 | .bool,_,_,h,_=>⟨h,rfl⟩
 | .str,_,_,h,_=>⟨h,rfl⟩
 | .sl _,_,_,_,hf=>by cases hf
 | .pair a b,_,_,h,hf=>by obtain⟨v1,v2,rfl,h1,h2⟩:=h;simp only[CT.flat,ah]at hf;exact⟨v1,v2,[],[],rfl,rfl,QE h1 hf.1,QE h2 hf.2⟩
def QN (hdr:Nat->Value)(t:aA Nat)(v:Value):Nat->Value:=λu=>if t=some u then v else hdr u
theorem aaT {hdr:Nat->Value}{d:aA Nat}{v:Value}{t:Nat}(h:oL st t):QN hdr (st.jz d 0) v t=hdr t:=by unfold QN;rw[aK];intro e;exact(sm e).1 h
theorem eZ.RM (h:eZ C g st a w hs)(d:aA Nat){xs:ax e.D}{v:Value}{fp:fi}{w':World}{hw':Nat->Nat}(km:Fr (λb=>eQ (g.fK b)) w w')(IT:∀b x,g.fK b=some x->¬eQ (some x)->hw' b=g.hw b)(K8:∀b o u,o<g.hw b->w.cell? ⟨b,o,none⟩=some u->o<hw' b/\w'.cell? ⟨b,o,none⟩=some u)(ix:fZ hw' w' (.sl e) [v] xs fp)(hn:fp.Nodup)(Ha:∀b∈fp,b<w'.heap.size/\(eQ (g.fK b)\/w.heap.size<=b)): qo C (st.sC d e xs) (a.put d v) w':=by refine h.RL d (st1:=st.gD d) (hdr':=QN g.hdr (st.jz d 0) v) Lu xB Ea Dh (λt ht=>⟨Gq ht,aaT ht⟩) km IT K8 (oz ⟨ix,λt ht=>?_⟩) hn Ha;refine⟨(sm ht).2.1,?_⟩;show v=QN g.hdr (st.jz d 0) v t;unfold QN;rw[aI ht]
theorem eZ.Rt (h:eZ C g st a w hs)(d:aA Nat){xs:ax e.D}{w':World}(hw:w'=w.alloc (.cells arr T fr)\/w'=w.drew.alloc (.cells arr T fr))(vx:sE arr fr)(hs0:arr.size=cap*e.size)(hc:xs.length<=cap)(HJ:mq g.hw w e (arr.toList.take (xs.length*e.size)) xs fps)(hn:fps.flatten.Nodup)(Ha:∀b∈fps.flatten,eQ (g.fK b)): qo C (st.sC d e xs) (a.put d (.slice (some ⟨w.heap.size,0,none⟩) xs.length cap)) w':=by
 have km:Fr (λb=>eQ (g.fK b)) w w':=by rcases hw with rfl|rfl;exact Fr.alloc _ _ _;exact(Fr.drew _ w).trans (Fr.alloc _ _ _) (λb _ hh=>hh)
 have Ya:w'.heap[w.heap.size]?=some (.cells arr T fr):=by rcases hw with rfl|rfl;exact heap_alloc_new w _;exact heap_alloc_new w.drew _
 have wv:w'.heap.size=w.heap.size+1:=by rcases hw with rfl|rfl<;>simp
 have hold:∀b,b<w.heap.size->w'.heap[b]?=w.heap[b]?:=by intro b hb;rcases hw with rfl|rfl;exact heap_alloc_old w _ b hb;exact heap_alloc_old w.drew _ b hb
 have iA:∀b∈fps.flatten,b<w.heap.size:=by intro b hb;have hh:=Ha b hb;cases hx:g.fK b with|none=>rw[hx]at hh;cases hh|some x=>exact(h.ir b x hx).1
 let hw':Nat->Nat:=λb=>if b=w.heap.size then xs.length*e.size else g.hw b
 have ix:fZ hw' w' (.sl e) [.slice (some ⟨w.heap.size,0,none⟩) xs.length cap] xs (w.heap.size::fps.flatten):=by refine abO (o0:=0) Ya vx (by rw[cJ];exact hs0) hc (by simp[hw']) (HJ.mono λb hb=>?_);have iq:=iA b hb;exact⟨hold b iq,by simp[hw',jj iq]⟩
 refine h.RM d (hw':=hw') (fp:=w.heap.size::fps.flatten) km ?_ ?_ ix ?_ ?_;intro b x hx _;simp[hw',jj (h.ir b x hx).1];intro b o u ho hu;have hb:b<w.heap.size:=World.block_lt_of_cell? w _ hu;exact⟨by simp[hw',jj hb];exact ho,by rw[World.cell?_of_block (a:=⟨b,o,none⟩) (hold b hb)];exact hu⟩;exact dH.2 ⟨λhm=>pn _ (iA _ hm),hn⟩;intro b hb;rcases cy.1 hb with rfl|hb;exact⟨by omega,.inr (bc _)⟩;exact⟨by have:=iA b hb;omega,.inl (Ha b hb)⟩
theorem ah7 {z:Array Value}{c size i:Nat}(hz:z.size=size)(hi:i<c):((madeCells z (c*size)).toList.drop (i*size)).take size=z.toList:=by
 have hm:(i+1)*size<=c*size:=dw _ hi;rw[dg,fT]at hm;apply dB;intro j;rw[kK];by_cases hj:j<size;rw[aI hj,madeCells];have h1:i*size+j<c*size:=by omega
 simp only[Array.toList_map,Array.toList_range,List.getElem?_map,List.getElem?_range h1,dQ];have alD:(i*size+j)%z.size=j:=by rw[hz,Nat.mul_comm,Nat.mul_add_mod,Nat.mod_eq_of_lt hj]
 rw[alD];simp[getElem!_pos,hz,hj];rw[aK hj,cd];simp[hz];omega
theorem Rl {E:Env}(hE:kQ P E.ty){o:Oper}{n c:Operand}(ho:o.op=.makeSlice T n c)(h:qo C st a w){K:AS->aA R}(hk:qJ E o T n c st K=some r):oK P C o a w K r:=by
 obtain⟨g,hg⟩:=id h;have hnv:=hg.rd n;have hcv:=hg.rd c;unfold qJ at hk;split at hk;rename_i e len cap hT hn hc;rw[hn]at hnv;rw[hc]at hcv;split at hk;rename_i hlc;unfold room at hk;split at hk;rename_i Jy;obtain⟨te,hu,⟨inf,z,Fu,wv,hby,hz,hzc⟩,_⟩:=Ie hE hT;have Jk:cap<=1073741824:=by omega
 have alq:(inf.bytes:Int)*cap<=281474976710656:=by have h1:(inf.bytes:Int)*cap<=65536*cap:=Int.mul_le_mul_of_nonneg_right (by omega) (by omega);omega
 have fz:=run_make (P:=P) w T te inf z hu Fu hz .i64 .i64 len cap hlc.1 hlc.2 alq (by omega);have JA:(execOp a.eval o).run P w=.ok (.value (.slice (some ⟨w.heap.size,0,none⟩) len.toNat cap.toNat)) (w.alloc (.cells (madeCells z.cells (cap.toNat*inf.size)) te)):=by simp only[execOp,ho,kf hnv,kf hcv];show((Instr.makeSlice T (.int .i64 len) (.int .i64 cap))>>=λv=>pure (Next.value v)).run P w=_;rw[Sem.run_bind,fz];rfl
 have hzs:z.cells.size=e.size:=by rw[<-rR e,<-hzc];simp
 have hlen:(List.replicate len.toNat e.zero).length=len.toNat:=by simp
 have HJ:mq g.hw w e ((madeCells z.cells (cap.toNat*inf.size)).toList.take ((List.replicate len.toNat e.zero).length*e.size)) (List.replicate len.toNat e.zero) (List.replicate len.toNat []):=by
  refine Ns (o0:=0) (cap:=cap.toNat) (by rw[size_madeCells,wv,cJ]) (by rw[hlen];omega) (by simp) (λi x f hx hf=>?_);have hi:i<len.toNat:=by have:=(aD.1 hx).1;simpa using this
  rw[dU,aI hi]at hx hf;simp at hx hf;subst hx;subst hf;rw[wv,cJ,ah7 hzs (by omega),hzc];exact Ix _ _ _
 refine⟨_,_,_,.inl JA,?_,hk⟩;have:=hg.Rt o.dst (T:=te) (fr:=(0,0)) (cap:=cap.toNat) (.inl rfl) (by intro j _;simp) (by rw[size_madeCells,wv]) (by rw[hlen];omega) HJ (by simp) (by simp);rw[hlen]at this;exact this;cases hk;cases hk;cases hk
theorem Qa {lo hi:aA Operand}(hg:eZ C g st a w []){n:Nat}(Jk:n<=cap){K:Int->Int->aA R}(hk:oN st lo hi n K=some r)(isS:Bool): ∃x y:Int,K x y=some r/\(0<=x->x<=y->y<=n->(Instr.sliceBounds isS n cap (lo.map a.eval) (hi.map a.eval) none).run P w=.ok (x.toNat,y.toNat,cap) w):=by
 unfold oN at hk;split at hk;rename_i h1 h2;have e1:lo=none:=by cases lo<;>simp at h1⊢
 have e2:hi=none:=by cases hi<;>simp at h2⊢
 subst e1;subst e2;exact⟨0,n,hk,λ_ _ _=>by simp[Instr.sliceBounds]⟩;rename_i k p h1 h2;have e2:hi=none:=by cases hi<;>simp at h2⊢
 subst e2;cases lo with|none=>simp at h1|some lo=>simp at h1;have hv:=hg.rd lo;rw[h1]at hv;refine⟨p,n,hk,λq1 q2 q3=>?_⟩;simp[Instr.sliceBounds,Instr.sliceBound,asIntOf,kf hv,q1,q2]
 rename_i k p h1 h2;have e1:lo=none:=by cases lo<;>simp at h1⊢
 subst e1;cases hi with|none=>simp at h2|some hi=>simp at h2;have hv:=hg.rd hi;rw[h2]at hv;refine⟨0,p,hk,λq1 q2 q3=>?_⟩;simp[Instr.sliceBounds,Instr.sliceBound,asIntOf,kf hv,show 0<=p by omega,show p<=(cap:Int) by omega]
 rename_i k p k' q h1 h2;cases lo with|none=>simp at h1|some lo=>cases hi with|none=>simp at h2|some hi=>simp at h1 h2;have hv:=hg.rd lo;have Uc:=hg.rd hi;rw[h1]at hv;rw[h2]at Uc;refine⟨p,q,hk,λq1 q2 q3=>?_⟩;simp[Instr.sliceBounds,Instr.sliceBound,asIntOf,kf hv,kf Uc,q1,show 0<=q by omega,show q<=(cap:Int) by omega];intro iA;omega
 cases hk
theorem extract_mk (s:ax UInt8)(x y:Nat):(ByteArray.mk s.toArray).extract x y=ByteArray.mk ((s.take y).drop x).toArray:=by apply ByteArray.ext;rw[ByteArray.data_extract];simp[List.extract_eq_take_drop,List.drop_take]
theorem Sf {α:Type}{xs ys:ax α}{x y:Int}(h:sub xs x y=some ys):0<=x/\x<=y/\y<=(xs.length:Int)/\ys=(xs.take y.toNat).drop x.toNat:=by unfold sub at h;split at h;rename_i hc;simp at h;exact⟨hc.1,hc.2.1,hc.2.2,h.symm⟩;cases h
theorem adm {w:World}{S:Nat->Nat->Prop}{v:Value}{xs:ax e.D}(h:kE w S (.sl e) [v] xs){x y:Nat}(hxy:x<=y)(hy:y<=xs.length): ∃bo cap,v=.slice bo xs.length cap/\xs.length<=cap/\kE w S (.sl e) [.slice (if cap=x then bo else bo.map (·.add (x*e.size))) (y-x) (cap-x)] ((xs.take y).drop x):=by
 obtain⟨u,hu,h⟩:=h;simp at hu;subst hu;rcases h with⟨⟨ad,rfl⟩,rfl⟩|⟨b,o,cap,rfl,hc,h⟩;simp at hy;subst hy;have hx:x=0:=by omega
 subst hx;exact⟨ad,0,rfl,by simp,⟨_,rfl,.inl ⟨⟨ad,by simp⟩,by simp⟩⟩⟩;have hl:((xs.take y).drop x).length=y-x:=by simp;omega
 refine⟨some ⟨b,o,none⟩,cap,rfl,hc,⟨_,rfl,.inr ?_⟩⟩;by_cases hcx:cap=x;refine⟨b,o,cap-x,by rw[aI hcx,hl],by rw[hl];omega,λi z hz=>?_⟩;have:((xs.take y).drop x)=[]:=cb (by rw[hl];omega);rw[this]at hz;simp at hz;refine⟨b,o+x*e.size,cap-x,by rw[aK hcx,hl];simp[pj],by rw[hl];omega,λi z hz=>?_⟩;have hz':xs[x+i]?=some z:=by rw[cj,eJ]at hz;split at hz;exact hz;cases hz
 obtain⟨cs,MX,hr⟩:=h (x+i) z hz';refine⟨cs,?_,hr⟩;have:o+x*e.size+i*e.size=o+(x+i)*e.size:=by rw[dg];omega
 rw[this];exact MX
theorem air {w:World}{v:Value}{xs:ax e.D}{fp:fi}(h:fZ hw w (.sl e) [v] xs fp){n:Nat}(hn:n<=xs.length): ∃bo cap,v=.slice bo xs.length cap/\xs.length<=cap/\∃kZ,fZ hw w (.sl e) [.slice (if cap=n then bo else bo.map (·.add (n*e.size))) (xs.length-n) (cap-n)] (xs.drop n) kZ/\(∀b∈kZ,b∈fp)/\(fp.Nodup->kZ.Nodup):=by
 obtain⟨u,hu,h⟩:=h;simp at hu;subst hu;rcases h with⟨⟨ad,rfl⟩,rfl,rfl⟩|⟨b,o0,cap,arr,T,fr,fps,rfl,hb,vx,hs,hc,hh,rfl,hl,hr⟩;simp at hn;subst hn;exact⟨ad,0,rfl,by simp,[],⟨_,rfl,.inl ⟨⟨ad,by simp⟩,rfl,rfl⟩⟩,by simp,by simp⟩;refine⟨some ⟨b,o0,none⟩,cap,rfl,hc,?_⟩;by_cases hcn:cap=n;have hx:xs.drop n=[]:=cW (by omega);refine⟨[],⟨_,rfl,.inl ⟨⟨some ⟨b,o0,none⟩,by rw[aI hcn,show xs.length-n=0 by omega,show cap-n=0 by omega]⟩,hx,rfl⟩⟩,by simp,by simp⟩;have hm1:cap*e.size=n*e.size+(cap-n)*e.size:=by rw[<-dg];congr 1;omega
 have hm2:xs.length*e.size=n*e.size+(xs.length-n)*e.size:=by rw[<-dg];congr 1;omega
 refine⟨b::(fps.drop n).flatten,⟨_,rfl,.inr ⟨b,o0+n*e.size,cap-n,arr,T,fr,fps.drop n,by rw[aK hcn];simp[pj],hb,vx,by omega,by simp;omega,by simp;omega,rfl,by simp[hl],λi x f hx hf=>?_⟩⟩,?_,?_⟩;rw[cj]at hx hf;have:=hr (n+i) x f hx hf;rwa[dg,<-gn]at this;intro c BF;rcases cy.1 BF with rfl|BF;simp;obtain⟨l,hl1,B4⟩:=List.mem_flatten.1 BF;exact cc _ (List.mem_flatten.2 ⟨l,List.mem_of_mem_drop hl1,B4⟩);intro HN;have h1:=dH.1 HN;have e1:fps.flatten=(fps.take n).flatten++(fps.drop n).flatten:=by rw[<-dY,cg]
 rw[e1]at h1;exact dH.2 ⟨λhm=>h1.1 (by simp[hm]),(aN.1 h1.2).2.1⟩
theorem afy {an:An}{o:Oper}{ep:Nat}{pv:aA (mw×Nat)}{p:Int}:Ry an o (.loc ep pv) p=.loc ep none\/∃rt t,pv=some (rt,t)/\Ry an o (.loc ep pv) p=.part ep rt t p:=by
 unfold Ry;split;rename_i ep' r t d h _;cases h;cases an.nest.contains d with|false=>exact .inl rfl|true=>exact .inr ⟨_,_,rfl,rfl⟩
 exact .inl rfl
theorem R0 {E:Env}(hE:kQ P E.ty){o:Oper}{lo hi:aA Operand}(ho:o.op=.slice T x lo hi none)(h:qo C st a w){K:AS->aA R}(hk:zQ E o T x lo hi st K=some r):oK P C o a w K r:=by
 obtain⟨g,hg⟩:=h;unfold zQ at hk;split at hk;rename_i tag e xs cp kd p vF hlo;split at hk;rename_i hT;cases lo with
 |none=>simp at hlo
 |some lo=>
  simp at hlo;have hlv:=hg.rd lo;rw[hlo]at hlv;obtain⟨te,hu,⟨inf,z,Fu,wv,_⟩,_⟩:=Ie hE hT;obtain⟨g',qn⟩:=hg.take x;rw[vF]at qn;simp only[bU]at qn;cases sB:sub xs p xs.length with
  |none=>rw[sB]at hk;cases hk
  |some SE=>
   rw[sB]at hk;simp only[aa]at hk;obtain⟨h1,h2,_,rfl⟩:=Sf sB;obtain⟨fp,fE,HN,hl⟩:=qn.hands 0 _ _ rfl;have ix:=(fN fE).1;obtain⟨bo,cap,hv,Jk,kZ,Fw,am3,V2⟩:=air ix (n:=p.toNat) (by omega);have fz:(execOp a.eval o).run P w=.ok (.value (.slice (if cap=p.toNat then bo else bo.map (·.add (p.toNat*e.size))) (xs.length-p.toNat) (cap-p.toNat))) w:=by
    have hb:(Instr.sliceBounds true xs.length cap (some (a.eval lo)) none none).run P w=.ok (p.toNat,xs.length,cap) w:=by have hp2:p<=(xs.length:Int):=h2;simp[Instr.sliceBounds,Instr.sliceBound,asIntOf,kf hlv,h1,hp2]
    simp only[execOp,ho,hv,Instr.sliceAt,Instr.slice,underlying,Option.map_none,dQ,Sem.run_bind,run_program,hu,Result.andThen_ok,Sem.run_pure,hb,sizeOf,typeInfo,Fu,wv]
   have Dv:(xs.take ((xs.length:Int).toNat)).drop p.toNat=xs.drop p.toNat:=by rw[aC,cQ]
   rw[Dv]at hk;refine⟨_,_,_,.inl fz,?_,hk⟩;refine qn.RM o.dst (hw':=g'.hw) (fp:=kZ) (Fr.refl _ _) (λ_ _ _ _=>rfl) (λ_ _ _ ho hu=>⟨ho,hu⟩) Fw (V2 HN) (λb hb=>?_);have:=hl b (am3 b hb);exact⟨(qn.ir b _ this).1,.inl (by rw[this];rfl)⟩
 cases hk;cases hk
theorem ab1 {E:Env}(hE:kQ P E.ty){an:An}{o:Oper}{lo hi:aA Operand}(ho:o.op=.slice T x lo hi none)(h:qo C st a w){K:AS->aA R}(hk:DN E an o T x lo hi st K=some r):oK P C o a w K r:=by
 obtain⟨g,hg⟩:=id h;have xI:=hg.fresh (hg.rd x);unfold DN at hk;split at hk;exact R0 hE ho h hk;split at hk;rename_i s hx;rw[hx]at xI;split at hk;rename_i hT;have hu:=WS hE hT;have hv:=(fN xI).1;obtain⟨p,q,SU,fz⟩:=Qa (P:=P) (w:=w) hg (bc s.length) hk false;cases sB:sub s p q with|none=>rw[sB]at SU;cases SU|some s'=>rw[sB]at SU;simp only[aa]at SU;obtain⟨h1,h2,h3,rfl⟩:=Sf sB;have hb:=fz h1 h2 h3;refine xO h _ _ ?_ (PB _) SU;simp only[execOp,ho,hv,Instr.sliceAt,Instr.slice,underlying,Option.map_none,Sem.run_bind,run_program,hu,Result.andThen_ok,Sem.run_pure,AD,hb,Option.isSome_none,bm,cG,extract_mk]
 cases hk;rename_i fl e xs hx;rw[hx]at xI;split at hk;rename_i hT;obtain⟨hT,ri⟩:=hT;obtain⟨te,hu,⟨inf,z,Fu,wv,_⟩,_⟩:=Ie hE hT;have hc:=fN xI
 have key:∀(S:Nat->Nat->Prop),kE w S (.sl e) [a.eval x] xs->(∀(p q:Int)(bo:aA Addr)(cap:Nat),0<=p->p<=q->q<=xs.length->xs.length<=cap->a.eval x=.slice bo xs.length cap->
  kE w S (.sl e) [.slice (if cap=p.toNat then bo else bo.map (·.add (p.toNat*e.size))) (q.toNat-p.toNat) (cap-p.toNat)] ((xs.take q.toNat).drop p.toNat)->
  je (dy C g st w) (.slice (if cap=p.toNat then bo else bo.map (·.add (p.toNat*e.size))) (q.toNat-p.toNat) (cap-p.toNat)) (.sl (Ry an o fl p) e ((xs.take q.toNat).drop p.toNat)) [])->oK P C o a w K r:=by
  intro S K9 hmk
  have Jk:∃bo cap,a.eval x=.slice bo xs.length cap/\xs.length<=cap:=by obtain⟨bo,cap,hv,hc,_⟩:=adm K9 (x:=0) (y:=0) (bc _) (cU _);exact⟨bo,cap,hv,hc⟩
  obtain⟨bo,cap,hv,Jk⟩:=Jk
  obtain⟨p,q,SU,fz⟩:=Qa (P:=P) (w:=w) hg Jk hk true
  cases sB:sub xs p q with
  |none=>rw[sB]at SU;cases SU
  |some SE=>
   rw[sB]at SU
   simp only[aa]at SU
   obtain⟨h1,h2,h3,rfl⟩:=Sf sB
   have hb:=fz h1 h2 h3
   obtain⟨bo',ati,Uc,_,ahz⟩:=adm K9 (x:=p.toNat) (y:=q.toNat) (by omega) (by omega)
   rw[hv]at Uc
   simp only[Value.slice.injEq,true_and]at Uc
   obtain⟨rfl,rfl⟩:=Uc
   refine⟨.slice (if cap=p.toNat then bo else bo.map (·.add (p.toNat*e.size))) (q.toNat-p.toNat) (cap-p.toNat),w,_,.inl ?_,⟨g,hg.quiet o.dst (oz (hmk p q _ _ h1 h2 h3 Jk hv ahz))⟩,SU⟩
   simp only[execOp,ho,hv,Instr.sliceAt,Instr.slice,underlying,Option.map_none,Sem.run_bind,run_program,hu,Result.andThen_ok,Sem.run_pure,hb,sizeOf,typeInfo,Fu,wv]
 cases fl with
 |own t=>cases ri
 |nest _ _ _ _ _ _=>cases ri
 |part _ _ _ _=>cases ri
 |gr _ _ _=>cases ri
 |arg _=>exact key _ hc.2 (λp q bo cap _ _ _ _ _ hr=>by simp only[Ry,tu.bare];exact⟨rfl,hr⟩)
 |loc ep pv=>
  have BG:ep=st.ep:=by simpa[tu.live]using ri
  refine key _ (hc.2.2.2.1 BG) (λp q bo cap hp hpq hq Jk hv hr=>?_);have hlen:((xs.take q.toNat).drop p.toNat).length=q.toNat-p.toNat:=by simp;omega
  have plain:je (dy C g st w) (.slice (if cap=p.toNat then bo else bo.map (·.add (p.toNat*e.size))) (q.toNat-p.toNat) (cap-p.toNat)) (.sl (.loc ep none) e ((xs.take q.toNat).drop p.toNat)) []:=⟨rfl,hc.2.1,⟨_,_,_,rfl,hlen.symm⟩,λ_=>hr,by simp⟩
  rcases afy (an:=an) (o:=o) (ep:=ep) (pv:=pv) (p:=p)with hpf|⟨rt,t,rfl,hpf⟩;rw[hpf];exact plain;rw[hpf];refine⟨rfl,hc.2.1,⟨_,_,_,rfl,hlen.symm⟩,λ_=>?_⟩;have Jz:=hc.2.2.2.2 rt t rfl;refine⟨Jz.1,?_⟩;by_cases hz:q.toNat-p.toNat=0;exact .inl (cb (by rw[hlen];exact hz));right;obtain⟨u,hu,K9⟩:=hc.2.2.2.1 BG;simp at hu;rcases K9 with⟨_,rfl⟩|⟨b,o0,aav,SY,hc2,_⟩;simp at hlen;omega;rw[<-hu,hv]at SY;simp only[Value.slice.injEq,true_and]at SY;obtain⟨rfl,rfl⟩:=SY;refine⟨p.toNat,b,o0,xs.length,cap,cap-p.toNat,by omega,by rw[<-Jz.2,hv],by rw[hlen];omega,?_⟩;rw[lH,hlen];simp[pj]
 cases hk;cases hk
theorem Xv {E:Env}(hE:kQ P E.ty)(h:E.bytes T=true):∃te,P.underlying T=some (.slice te)/\P.underlying te=some (.int .u8):=by unfold Env.bytes at h;split at h;rename_i te n hT;split at h;rename_i lE hte;obtain⟨te',hu,_,ho⟩:=(hE T _ hT).sl _ rfl rfl;have:=ho te n rfl;subst this;exact⟨te,hu,(hE te _ hte).int _ rfl rfl⟩;cases h;cases h
theorem afL {w:World}{S:Nat->Nat->Prop}{v:Value}{xs:dm}(h:kE w S (.sl (.int .u8)) [v] xs): ((∃a,v=.slice a 0 0)/\xs=[])\/∃b o cap,v=.slice (some ⟨b,o,none⟩) xs.length cap/\∀i,i<xs.length->w.cell? ⟨b,o+i,none⟩=some (.int .u8 (xs.getD i 0)):=by obtain⟨u,hu,h⟩:=h;simp at hu;subst hu;rcases h with h|⟨b,o,cap,hv,_,h⟩;exact .inl h;refine .inr ⟨b,o,cap,hv,λi hi=>?_⟩;obtain⟨cs,MX,hr⟩:=h i xs[i] (ay hi);have hr':cs=[.int .u8 xs[i]]:=hr;subst hr';have:=(MX 0 _ rfl).2;simp only[CT.size,mF,eT]at this;rw[this];simp[List.getD,ay hi]
theorem VE {E:Env}(hE:kQ P E.ty){o:Oper}{src dst:TypeId}(ho:o.op=.convert src dst x)(h:qo C st a w){K:AS->aA R}(hk:nD E o src dst x st K=some r):oK P C o a w K r:=by
 obtain⟨g,hg⟩:=id h;have xI:=hg.rd x;have fin:∀v w',(convert src dst (a.eval x)).run P w=.ok v w'->(execOp a.eval o).run P w=.ok (.value v) w':=by intro v w' hr;simp only[execOp,ho];show(convert src dst (a.eval x)>>=λv=>pure (Next.value v)).run P w=_;rw[Sem.run_bind,hr];rfl
 have under:∀(T:TypeId)(sh:Shape),kl E.ty T=some sh->∃d,P.underlying T=some d:=by
  intro T sh hT;have lV:=hE T sh hT;cases Pt:sh.agg with
  |true=>obtain⟨fs,hu,_⟩:=lV.agg Pt;exact⟨_,hu⟩
  |false=>
   cases N8:sh.ct with
   |int k=>exact⟨_,lV.int k N8 Pt⟩
   |bool=>exact⟨_,lV.bool N8 Pt⟩
   |str=>exact⟨_,lV.str N8 Pt⟩
   |sl e=>obtain⟨te,hu,_⟩:=lV.sl e N8 Pt;exact⟨_,hu⟩
   |pair p q=>have:=lV.pair p q N8;rw[Pt]at this;cases this
 unfold nD at hk;split at hk;rename_i ssh k lE k' n hs hd hx;rw[hx]at xI;obtain⟨ds,hus⟩:=under _ _ hs;have hud:=(hE dst _ hd).int k rfl rfl;refine xO h _ _ (fin (.int k (k.wrap n)) w ?_) (mi _ _) hk;rw[kf xI];simp only[convert,underlying,Sem.run_bind,run_program,hus,hud,Result.andThen_ok,Sem.run_pure];rfl;rename_i lE atg s hs hd hx;rw[hx]at xI;have hus:=(hE src _ hs).str rfl rfl;have hud:=(hE dst _ hd).str rfl rfl;refine xO h _ _ (fin (.string ⟨s.toArray⟩) w ?_) (PB _) hk;rw[(fN xI).1];simp only[convert,underlying,Sem.run_bind,run_program,hus,hud,Result.andThen_ok,Sem.run_pure];rename_i lE sh s OW hs hd hx;rw[hx]at xI;split at hk;rename_i hb;unfold room at hk;split at hk;obtain⟨te,hu,hte⟩:=Xv hE hb;have hus:=(hE src _ hs).str rfl rfl;have fz:=run_bytes_of_string (P:=P) w src dst te ⟨s.toArray⟩ hus hu hte;rw[<-(fN xI).1,AD]at fz;refine⟨_,_,_,.inl (fin _ _ fz),?_,hk⟩;have B0:=grownCap_ge w s.length 0 te;have wv:(bytesRow ⟨s.toArray⟩ (grownCap w s.length 0 te)).size=grownCap w s.length 0 te*CT.size (.int .u8):=by simp only[bytesRow,Array.size_append,Array.size_map,Array.size_replicate,AD,CT.size];simp;omega
 have vF:(bytesRow ⟨s.toArray⟩ (grownCap w s.length 0 te)).toList.take ((dW s).length*CT.size (.int .u8))=(dW s).map (Value.int .u8):=by simp only[bytesRow,dW,CT.size,Array.toList_append,Array.toList_map];rw[List.take_append_of_le_length (by simp)];rw[bZ (by simp)];simp
 have HJ:mq g.hw w (.int .u8) ((bytesRow ⟨s.toArray⟩ (grownCap w s.length 0 te)).toList.take ((dW s).length*CT.size (.int .u8))) (dW s) (List.replicate s.length []):=by
  rw[vF];refine⟨by simp[CT.size],by simp[dW],λi y f hy hf=>?_⟩;have hi:i<(dW s).length:=(aD.1 hy).1;have hf':f=[]:=by rw[dU]at hf;split at hf<;>simp at hf;exact hf
  subst hf';refine⟨?_,rfl⟩;apply dB;intro j;rw[kK];simp only[CT.size,mF];cases j with|zero=>simp[hy]|succ j=>simp
 have hlen:(dW s).length=s.length:=by simp[dW]
 have:=hg.Rt o.dst (T:=te) (fr:=((bytesRow ⟨s.toArray⟩ (grownCap w s.length 0 te)).size,(bytesRow ⟨s.toArray⟩ (grownCap w s.length 0 te)).size+1)) (cap:=grownCap w s.length 0 te) (.inr rfl) (by intro j hj hc;simp only at hc;omega) wv (by rw[hlen];exact B0) HJ (by simp) (by simp);rw[hlen]at this;exact this;cases hk;cases hk;rename_i ssh lE fl xs hs hd hx;rw[hx]at xI;split at hk;rename_i hb;obtain⟨hb,ri⟩:=hb;obtain⟨te,hu,hte⟩:=Xv hE hb;have hud:=(hE dst _ hd).str rfl rfl;have hc:=fN xI;have K9:∃S,kE w S (.sl (.int .u8)) [a.eval x] xs:=by
  cases fl with
  |own t=>cases ri
  |nest _ _ _ _ _ _=>cases ri
  |part _ _ _ _=>cases ri
  |gr _ _ _=>cases ri
  |arg _=>exact⟨_,hc.2⟩
  |loc ep pv=>
   have BG:ep=st.ep:=by simpa[tu.live]using ri
   exact⟨_,hc.2.2.2.1 BG⟩
 obtain⟨S,K9⟩:=K9;refine xO h _ _ (fin (.string ⟨(aR xs).toArray⟩) w ?_) (PB _) hk;rcases afL K9 with⟨⟨ad,hv⟩,rfl⟩|⟨b,ob,cap,hv,Fq⟩;cases ad with|none=>rw[hv,run_convert_bytes_nil w src te hu hte 0 0 dst hud];rfl|some ad=>rw[hv];exact run_convert_bytes_back w src dst te ad 0 [] hu hte hud (λj hj=>by simp at hj)
 rw[hv,run_convert_bytes_arg w src te hu hte b ob xs.length cap xs rfl Fq dst hud];rfl;cases hk;cases hk
end Go.Dn
