import Derived.Test.YtgbaemfepmabgaaGreatDnOps4
import Derived.Laws.MakeOwn
import Derived.Laws.IdiomStrings
import Derived.Laws.BytesArg
/- Part 5: tuples, parts of slices, conversions, structs and slices that are built. -/
namespace Go.Dn
open Go.RowKit
variable {P:Program} {C:Ctx} {st:AS} {a:Act} {w:World} {R:Type} {r:R}
variable {arr:Array Value} {e:CT} {g:Gh} {cap:Nat} {fr:Nat×Nat} {hw:Nat->Nat} {x:Operand} {T:TypeId} {v:Value} {hs:aw (Value×AV)} {fps:aw fu} {news:iS}
theorem qw.at {c:RC}:∀{ws:iS}{ts:aw (Bool×aw AC)}{fp:fu},gE.qw c ws ts fp->∀{i:Nat}{g:Bool}{cs:aw AC},ts[i]?=some (g,cs)->
 ∃v f1 f2 f3,ws[i]?=some v/\fp=f1++f2++f3/\(∃us,Cut g v us/\bR c us cs f2)/\
  ∀c':RC,c.Le c'->(∀b∈f1++f3,c'.w.heap[b]?=c.w.heap[b]?/\c'.hw b=c.hw b)->∀cs',(∃us,Cut g v us/\bR c' us cs' [])->gE.qw c' ws (ts.set i (g,cs')) (f1++f3)
 |[],[],_,_,i,g,cs,h=>by simp at h
 |w::ws,t::ts,_,r,0,g,cs,h=>by obtain⟨f1,f2,rfl,r1,r2⟩:=r;simp at h;subst h;exact⟨w,[],f1,f2,rfl,by simp,r1,λc' hle hb cs' hc'=>⟨[],f2,rfl,hc',qw.mono hle r2 (λb hb'=>hb b (by simpa using hb'))⟩⟩
 |w::ws,t::ts,_,r,i+1,g,cs,h=>by obtain⟨f1,f2,rfl,r1,r2⟩:=r;obtain⟨v,g1,g2,g3,hv,rfl,hr,hset⟩:=qw.at r2 (i:=i) (by simpa using h);refine⟨v,f1++g1,g2,g3,by simpa using hv,by simp,hr,λc' hle hb cs' hc'=>?_⟩;obtain⟨us,hcut,hrel⟩:=r1;rw[aZ];refine⟨f1,g1++g3,rfl,⟨us,hcut,hrel.mono hle (λb hb'=>hb b (by simp[hb']))⟩,?_⟩;exact hset c' hle (λb hb'=>hb b (by rcases ay.1 hb' with k|k<;>simp[k])) cs' hc'
 |[],_::_,_,r,_,_,_,_=>r.elim
 |_::_,[],_,r,_,_,_,_=>r.elim
theorem Q2 {o:Oper}{t i:Nat}(ho:o.op=.extract (.tmp t) i)(h:oa C st a w){K:AS->az R}(hk:lW o t i st K=some r):mL P C o a w K r:=by
 obtain⟨g,h⟩:=h;unfold lW at hk;split at hk;rename_i ts hg;split at hk;rename_i gg cs hn;rw[ei]at hn;have htl:t<st.slots.length:=by
  rcases cq t st.slots.length with hlt|hge;exact hlt;have:st.get t=.bot:=by simp[AS.get,ei,bG hge]
  rw[this]at hg;cases hg
 obtain⟨fp,hr,hnd,hl⟩:=h.slot t;rw[hg]at hr;obtain⟨ws,hv,hr⟩:=hr;obtain⟨v,f1,f2,f3,hwv,rfl,hrv,hset⟩:=qw.at hr hn;have hrun:(execOp a.eval o).run P w=.ok (.value v) w:=by have he:a.eval (.tmp t)=.tuple ws.toArray:=hv;simp[execOp,ho,he,Instr.extract,hwv]
 have hnd':=hnd;rw[aZ]at hnd';have n1:=aO.1 hnd';have n2:=aO.1 n1.2.1;let av':AV:=.tup (ir ts i (gg,bc 0 cs));let st':AS:=st.put (some t) av';let g':Gh:={g with lab:=λb=>if b∈f2 then some (.hand 0) else g.lab b}
 have hle:(dc C g st w).Le (dc C g' st' w):=by have:= @Rv C g st w (some t) av';exact⟨this.A,this.hdr,this.cellA,this.ep,this.pres,this.prot⟩
 have hlk:∀b y,g.lab b=some y->b∉f2->g'.lab b=some y:=by intro b y hb hm;show(if b∈f2 then _ else _)=_;rw[aD hm];exact hb
 have hnot:∀b y,y≠ .slot t->g.lab b=some y->b∉f2:=λb y hy hb hm=>hy (by have:=hl b (by simp[hm]);rw[hb]at this;simpa using this);have hsim:ez C g' st' a w [(v,.val gg cs)]:=by
  refine h.step (λy=>y≠ .slot t) hle h.defers (by show _=(st.put (some t) av').slots.length;rw[gq,aB];exact h.size) (by show(st.put (some t) av').boxes.length=(st.put (some t) av').slots.length;rw[kH,gq,aB];exact h.bsize) h.frame ?_ (λb y hy hb=>⟨hlk b y hb (hnot b y hy hb),rfl,rfl⟩) ?_ ?_ ?_ (.inl ⟨by simp,H9⟩);intro b y hy;have hy':(if b∈f2 then some (jX.hand 0) else g.lab b)=some y:=hy;by_cases hm:b∈f2;exact h.labs b _ (hl b (by simp[hm]));rw[aD hm]at hy';exact h.labs b y hy';intro j bv hj;have hj':(st.slots.set t av')[j]?=some bv:=by rw[<-gq];exact hj
  by_cases hjt:j=t;subst hjt;rw[bH]at hj';simp only[cg,htl]at hj';simp at hj';subst hj';refine .inr ⟨f1++f3,⟨ws,hv,?_⟩,?_,?_⟩;rw[fP];obtain⟨us,hcut,hrel⟩:=hrv;refine hset _ hle (λb _=>⟨rfl,rfl⟩) _ ⟨us,hcut,?_⟩;exact(hrel.Yx).mono hle (by simp);refine aO.2 ⟨n1.1,n2.2.1,?_⟩;rintro b hb c hc rfl;exact n1.2.2 b hb b (bw _ hc) rfl;intro b hb;refine hlk b _ (hl b (by rcases ay.1 hb with k|k<;>simp[k])) (λhm=>?_);rcases ay.1 hb with k|k;exact n1.2.2 b k b (bI _ hm) rfl;exact n2.2.2 b hm b k rfl;rw[aP (cR hjt)]at hj';exact .inl ⟨by simpa using hjt,hj',rfl⟩;intro s cs' hb;have hb':st.boxes[s]?=some (some cs'):=by rw[<-kH (d:=some t) (v:=av')];exact hb
  exact .inl ⟨by simp,hb',rfl⟩;intro k u bv hk';cases k with
  |zero=>simp only[cA,br,Prod.mk.injEq]at hk';obtain⟨rfl,rfl⟩:=hk';obtain⟨us,hcut,hrel⟩:=hrv;refine .inr ⟨f2,⟨us,hcut,hrel.mono hle (λb _=>⟨rfl,rfl⟩)⟩,n2.1,λb hb=>?_⟩;show(if b∈f2 then _ else _)=_;rw[aE hb]
  |succ k=>simp at hk'
 exact⟨v,w,_,.inl hrun,ez.Cn hsim o.dst,hk⟩;cases hk;cases hk
def ky (hw:Nat->Nat)(w:World)(e:CT)(news:iS)(ys:aw e.D)(fps:aw fu):Prop:=
 news.length=ys.length*e.size/\fps.length=ys.length/\∀(i:Nat)(y:e.D)(f:fu),ys[i]?=some y->fps[i]?=some f->fM hw w e ((news.drop (i*e.size)).take e.size) y f
theorem ky.append {w:World}{n1 n2:iS}{xs ys:aw e.D}{f1 f2:aw fu}(h1:ky hw w e n1 xs f1)(h2:ky hw w e n2 ys f2): ky hw w e (n1++n2) (xs++ys) (f1++f2):=by
 obtain⟨a1,a2,a3⟩:=h1;obtain⟨b1,b2,b3⟩:=h2;refine⟨by rw[ai,ai,a1,b1,cM],by simp[a2,b2],λi y f hy hf=>?_⟩;by_cases hi:i<xs.length;rw[bD hi]at hy;rw[bD (by omega)]at hf;have hm:(i+1)*e.size<=xs.length*e.size:=cH _ hi;rw[cM,fK]at hm;have:=a3 i y f hy hf;have e1:((n1++n2).drop (i*e.size)).take e.size=(n1.drop (i*e.size)).take e.size:=by rw[List.drop_append_of_le_length (by omega),List.take_append_of_le_length (by rw[aK];omega)]
 rw[e1];exact this;rw[bA (by omega)]at hy;rw[bA (by omega),a2]at hf;have:=b3 _ y f hy hf;have hge:xs.length*e.size<=i*e.size:=cH _ (by omega);have e1:(n1++n2).drop (i*e.size)=n2.drop ((i-xs.length)*e.size):=by rw[List.drop_append,df (by omega),cj,a1,Nat.sub_mul]
 rw[e1];exact this
theorem ky.mono {hw':Nat->Nat}{w w':World}{ys:aw e.D}(h:ky hw w e news ys fps)(hk:∀b∈fps.flatten,w'.heap[b]?=w.heap[b]?/\hw' b=hw b):ky hw' w' e news ys fps:=⟨h.1,h.2.1,λi y f hy hf=>fM.mono (h.2.2 i y f hy hf) λb hb=>hk b (List.mem_flatten.2 ⟨f,aX hf,hb⟩)⟩
theorem ky.nil (hw:Nat->Nat)(w:World)(e:CT):ky hw w e [] [] []:=⟨by simp,rfl,by simp⟩
theorem ky.mZ {w:World}{ys:aw e.D}(h:ky hw w e news ys fps):∀v∈news,v.oneCell'=true:=by
 intro v hv;obtain⟨j,hj,hjv⟩:=List.mem_iff_getElem.1 hv;have hpos:=e.size_pos;have hi:j/e.size<ys.length:=by rw[Nat.div_lt_iff_lt_mul hpos];rw[<-h.1];exact hj
 have hown:=h.2.2 (j/e.size) _ _ (al hi) (al (by rw[h.2.1];exact hi));refine fM.mZ hown v ?_;rw[List.mem_iff_getElem?];refine⟨j%e.size,?_⟩;rw[jx,aE (Nat.mod_lt _ hpos),Nat.mul_comm,Nat.div_add_mod,al hj,hjv]
theorem XM {w:World}{b o0:Nat}{xs:aw e.D}(hb:w.heap[b]?=some (.cells arr T fr))(hth:pS arr fr)(hs:arr.size=o0+cap*e.size)(hc:xs.length<=cap)(hh:hw b=o0+xs.length*e.size)(hel:ky hw w e ((arr.toList.drop o0).take (xs.length*e.size)) xs fps): fM hw w (.sl e) [.slice (some ⟨b,o0,none⟩) xs.length cap] xs (b::fps.flatten):=by
 refine⟨_,rfl,.inr ⟨b,o0,cap,arr,T,fr,fps,rfl,hb,hth,hs,hc,hh,rfl,hel.2.1,λi x f hx hf=>?_⟩⟩;have:=hel.2.2 i x f hx hf;have hi:i<xs.length:=(aC.1 hx).1;have hm:(i+1)*e.size<=xs.length*e.size:=cH _ hi;rw[cM,fK]at hm;have e1:(((arr.toList.drop o0).take (xs.length*e.size)).drop (i*e.size)).take e.size=(arr.toList.drop (o0+i*e.size)).take e.size:=by apply cL;intro j;rw[jx,jx,jx];by_cases hj:j<e.size;rw[aE hj,aE hj,zip,fW];rw[aD hj,aD hj]
 rw[e1]at this;exact this
theorem Iu {w:World}{o0:Nat}{xs:aw e.D}(hs:arr.size=o0+cap*e.size)(hc:xs.length<=cap)(hl:fps.length=xs.length)(h:∀(i:Nat)(x:e.D)(f:fu),xs[i]?=some x->fps[i]?=some f->fM hw w e ((arr.toList.drop (o0+i*e.size)).take e.size) x f):ky hw w e ((arr.toList.drop o0).take (xs.length*e.size)) xs fps:=by
 refine⟨?_,hl,λi x f hx hf=>?_⟩;have hal:(arr.toList.drop o0).length=cap*e.size:=by rw[aK,Array.length_toList,hs];omega
 rw[aV,hal];exact iu (cH _ hc);have hi:i<xs.length:=(aC.1 hx).1;have hm:(i+1)*e.size<=xs.length*e.size:=cH _ hi;rw[cM,fK]at hm;have e1:(((arr.toList.drop o0).take (xs.length*e.size)).drop (i*e.size)).take e.size=(arr.toList.drop (o0+i*e.size)).take e.size:=by apply cL;intro j;rw[jx,jx,jx];by_cases hj:j<e.size;rw[aE hj,aE hj,zip,fW];rw[aD hj,aD hj]
 rw[e1];exact h i x f hx hf
theorem LD {hw:Nat->Nat}{w w':World}{S:Nat->Nat->Prop}:∀{e:CT}{vs:iS}{x:e.D},jr w' S e vs x->e.flat=true->fM hw w e vs x []
 | .int _,_,_,h,_=>⟨h,rfl⟩
 | .bool,_,_,h,_=>⟨h,rfl⟩
 | .str,_,_,h,_=>⟨h,rfl⟩
 | .sl _,_,_,_,hf=>by cases hf
 | .pair a b,_,_,h,hf=>by obtain⟨v1,v2,rfl,h1,h2⟩:=h;simp only[CT.flat,ae]at hf;exact⟨v1,v2,[],[],rfl,rfl,LD h1 hf.1,LD h2 hf.2⟩
def LQ (hdr:Nat->Value)(t:az Nat)(v:Value):Nat->Value:=λu=>if t=some u then v else hdr u
theorem WY {hdr:Nat->Value}{d:az Nat}{t:Nat}(h:mM st t):LQ hdr (st.ix d 0) v t=hdr t:=by unfold LQ;rw[aD];intro e;exact(pK e).1 h
theorem ez.ME (h:ez C g st a w hs)(d:az Nat){xs:aw e.D}{fp:fu}{w':World}{hw':Nat->Nat}(hfr:Fr (λb=>ed (g.lab b)) w w')(hhw:∀b x,g.lab b=some x->¬ed (some x)->hw' b=g.hw b)(hprot:∀b o u,o<g.hw b->w.cell? ⟨b,o,none⟩=some u->o<hw' b/\w'.cell? ⟨b,o,none⟩=some u)(hown:fM hw' w' (.sl e) [v] xs fp)(hn:fp.Nodup)(hfp:∀b∈fp,b<w'.heap.size/\(ed (g.lab b)\/w.heap.size<=b)): oa C (st.pR d e xs) (a.put d v) w':=by refine h.MD d (st1:=st.fR d) (hdr':=LQ g.hdr (st.ix d 0) v) GX uC Az zG (λt ht=>⟨Ck ht,WY ht⟩) hfr hhw hprot (mF ⟨hown,λt ht=>?_⟩) hn hfp;refine⟨(pK ht).2.1,?_⟩;show v=LQ g.hdr (st.ix d 0) v t;unfold LQ;rw[aE ht]
theorem ez.Mq (h:ez C g st a w hs)(d:az Nat){xs:aw e.D}{w':World}(hw:w'=w.alloc (.cells arr T fr)\/w'=w.drew.alloc (.cells arr T fr))(hth:pS arr fr)(hs0:arr.size=cap*e.size)(hc:xs.length<=cap)(hel:ky g.hw w e (arr.toList.take (xs.length*e.size)) xs fps)(hn:fps.flatten.Nodup)(hfp:∀b∈fps.flatten,ed (g.lab b)): oa C (st.pR d e xs) (a.put d (.slice (some ⟨w.heap.size,0,none⟩) xs.length cap)) w':=by
 have hfr:Fr (λb=>ed (g.lab b)) w w':=by rcases hw with rfl|rfl;exact Fr.alloc _ _ _;exact(Fr.drew _ w).trans (Fr.alloc _ _ _) (λb _ hh=>hh)
 have hnew:w'.heap[w.heap.size]?=some (.cells arr T fr):=by rcases hw with rfl|rfl;exact heap_alloc_new w _;exact heap_alloc_new w.drew _
 have hsz:w'.heap.size=w.heap.size+1:=by rcases hw with rfl|rfl<;>simp
 have hold:∀b,b<w.heap.size->w'.heap[b]?=w.heap[b]?:=by intro b hb;rcases hw with rfl|rfl;exact heap_alloc_old w _ b hb;exact heap_alloc_old w.drew _ b hb
 have hlt:∀b∈fps.flatten,b<w.heap.size:=by intro b hb;have hh:=hfp b hb;cases hx:g.lab b with|none=>rw[hx]at hh;cases hh|some x=>exact(h.labs b x hx).1
 let hw':Nat->Nat:=λb=>if b=w.heap.size then xs.length*e.size else g.hw b
 have hown:fM hw' w' (.sl e) [.slice (some ⟨w.heap.size,0,none⟩) xs.length cap] xs (w.heap.size::fps.flatten):=by refine XM (o0:=0) hnew hth (by rw[cw];exact hs0) hc (by simp[hw']) (hel.mono λb hb=>?_);have hb':=hlt b hb;exact⟨hold b hb',by simp[hw',im hb']⟩
 refine h.ME d (hw':=hw') (fp:=w.heap.size::fps.flatten) hfr ?_ ?_ hown ?_ ?_;intro b x hx _;simp[hw',im (h.labs b x hx).1];intro b o u ho hu;have hb:b<w.heap.size:=World.block_lt_of_cell? w _ hu;exact⟨by simp[hw',im hb];exact ho,by rw[World.cell?_of_block (a:=⟨b,o,none⟩) (hold b hb)];exact hu⟩;exact dA.2 ⟨λhm=>Nat.lt_irrefl _ (hlt _ hm),hn⟩;intro b hb;rcases bQ.1 hb with rfl|hb;exact⟨by omega,.inr (bh _)⟩;exact⟨by have:=hlt b hb;omega,.inl (hfp b hb)⟩
theorem aea {z:Array Value}{c size i:Nat}(hz:z.size=size)(hi:i<c):((madeCells z (c*size)).toList.drop (i*size)).take size=z.toList:=by
 have hm:(i+1)*size<=c*size:=cH _ hi;rw[cM,fK]at hm;apply cL;intro j;rw[jx];by_cases hj:j<size;rw[aE hj,madeCells];have h1:i*size+j<c*size:=by omega
 simp only[Array.toList_map,Array.toList_range,List.getElem?_map,List.getElem?_range h1,dB];have hmod:(i*size+j)%z.size=j:=by rw[hz,Nat.mul_comm,Nat.mul_add_mod,eH hj]
 rw[hmod];simp[getElem!_pos,hz,hj];rw[aD hj,bG];simp[hz];omega
theorem Mj {E:Env}(hE:jA P E.ty){o:Oper}{n c:Operand}(ho:o.op=.makeSlice T n c)(h:oa C st a w){K:AS->az R}(hk:oG E o T n c st K=some r):mL P C o a w K r:=by
 obtain⟨g,hg⟩:=id h;have hnv:=hg.rd n;have hcv:=hg.rd c;unfold oG at hk;split at hk;rename_i e len cap hT hn hc;rw[hn]at hnv;rw[hc]at hcv;split at hk;rename_i hlc;unfold room at hk;split at hk;rename_i hroom;obtain⟨te,hu,⟨inf,z,hinf,hsz,hby,hz,hzc⟩,_⟩:=DW hE hT;have hcap:cap<=1073741824:=by omega
 have hbytes:(inf.bytes:Int)*cap<=281474976710656:=by have h1:(inf.bytes:Int)*cap<=65536*cap:=Int.mul_le_mul_of_nonneg_right (by omega) (by omega);omega
 have hrun:=run_make (P:=P) w T te inf z hu hinf hz .i64 .i64 len cap hlc.1 hlc.2 hbytes (by omega);have hrun':(execOp a.eval o).run P w=.ok (.value (.slice (some ⟨w.heap.size,0,none⟩) len.toNat cap.toNat)) (w.alloc (.cells (madeCells z.cells (cap.toNat*inf.size)) te)):=by simp only[execOp,ho,jc hnv,jc hcv];show((Instr.makeSlice T (.int .i64 len) (.int .i64 cap))>>=λv=>pure (Next.value v)).run P w=_;rw[Sem.run_bind,hrun];rfl
 have hzs:z.cells.size=e.size:=by rw[<-pC e,<-hzc];simp
 have hlen:(List.replicate len.toNat e.zero).length=len.toNat:=by simp
 have hel:ky g.hw w e ((madeCells z.cells (cap.toNat*inf.size)).toList.take ((List.replicate len.toNat e.zero).length*e.size)) (List.replicate len.toNat e.zero) (List.replicate len.toNat []):=by
  refine Iu (o0:=0) (cap:=cap.toNat) (by rw[size_madeCells,hsz,cw]) (by rw[hlen];omega) (by simp) (λi x f hx hf=>?_);have hi:i<len.toNat:=by have:=(aC.1 hx).1;simpa using this
  rw[eM,aE hi]at hx hf;simp at hx hf;subst hx;subst hf;rw[hsz,cw,aea hzs (by omega),hzc];exact Ea _ _ _
 refine⟨_,_,_,.inl hrun',?_,hk⟩;have:=hg.Mq o.dst (T:=te) (fr:=(0,0)) (cap:=cap.toNat) (.inl rfl) (by intro j _;simp) (by rw[size_madeCells,hsz]) (by rw[hlen];omega) hel (by simp) (by simp);rw[hlen]at this;exact this;cases hk;cases hk;cases hk
theorem KM {lo hi:az Operand}(hg:ez C g st a w []){n:Nat}(hcap:n<=cap){K:Int->Int->az R}(hk:mO st lo hi n K=some r)(isS:Bool): ∃x y:Int,K x y=some r/\(0<=x->x<=y->y<=n->(Instr.sliceBounds isS n cap (lo.map a.eval) (hi.map a.eval) none).run P w=.ok (x.toNat,y.toNat,cap) w):=by
 unfold mO at hk;split at hk;rename_i h1 h2;have e1:lo=none:=by cases lo<;>simp at h1⊢
 have e2:hi=none:=by cases hi<;>simp at h2⊢
 subst e1;subst e2;exact⟨0,n,hk,λ_ _ _=>by simp[Instr.sliceBounds]⟩;rename_i k p h1 h2;have e2:hi=none:=by cases hi<;>simp at h2⊢
 subst e2;cases lo with|none=>simp at h1|some lo=>simp at h1;have hv:=hg.rd lo;rw[h1]at hv;refine⟨p,n,hk,λq1 q2 q3=>?_⟩;simp[Instr.sliceBounds,Instr.sliceBound,asIntOf,jc hv,q1,q2]
 rename_i k p h1 h2;have e1:lo=none:=by cases lo<;>simp at h1⊢
 subst e1;cases hi with|none=>simp at h2|some hi=>simp at h2;have hv:=hg.rd hi;rw[h2]at hv;refine⟨0,p,hk,λq1 q2 q3=>?_⟩;simp[Instr.sliceBounds,Instr.sliceBound,asIntOf,jc hv,show 0<=p by omega,show p<=(cap:Int) by omega]
 rename_i k p k' q h1 h2;cases lo with|none=>simp at h1|some lo=>cases hi with|none=>simp at h2|some hi=>simp at h1 h2;have hv:=hg.rd lo;have hv':=hg.rd hi;rw[h1]at hv;rw[h2]at hv';refine⟨p,q,hk,λq1 q2 q3=>?_⟩;simp[Instr.sliceBounds,Instr.sliceBound,asIntOf,jc hv,jc hv',q1,show 0<=q by omega,show q<=(cap:Int) by omega];intro hlt;omega
 cases hk
theorem extract_mk (s:aw UInt8)(x y:Nat):(ByteArray.mk s.toArray).extract x y=ByteArray.mk ((s.take y).drop x).toArray:=by apply ByteArray.ext;rw[ByteArray.data_extract];simp[List.extract_eq_take_drop,List.drop_take]
theorem Nc {α:Type}{xs ys:aw α}{x y:Int}(h:sub xs x y=some ys):0<=x/\x<=y/\y<=(xs.length:Int)/\ys=(xs.take y.toNat).drop x.toNat:=by unfold sub at h;split at h;rename_i hc;simp at h;exact⟨hc.1,hc.2.1,hc.2.2,h.symm⟩;cases h
theorem ZI {w:World}{S:Nat->Nat->Prop}{xs:aw e.D}(h:jr w S (.sl e) [v] xs){x y:Nat}(hxy:x<=y)(hy:y<=xs.length): ∃bo cap,v=.slice bo xs.length cap/\xs.length<=cap/\jr w S (.sl e) [.slice (if cap=x then bo else bo.map (·.add (x*e.size))) (y-x) (cap-x)] ((xs.take y).drop x):=by
 obtain⟨u,hu,h⟩:=h;simp at hu;subst hu;rcases h with⟨⟨ad,rfl⟩,rfl⟩|⟨b,o,cap,rfl,hc,h⟩;simp at hy;subst hy;have hx:x=0:=by omega
 subst hx;exact⟨ad,0,rfl,by simp,⟨_,rfl,.inl ⟨⟨ad,by simp⟩,by simp⟩⟩⟩;have hl:((xs.take y).drop x).length=y-x:=by simp;omega
 refine⟨some ⟨b,o,none⟩,cap,rfl,hc,⟨_,rfl,.inr ?_⟩⟩;by_cases hcx:cap=x;refine⟨b,o,cap-x,by rw[aE hcx,hl],by rw[hl];omega,λi z hz=>?_⟩;have:((xs.take y).drop x)=[]:=cp (by rw[hl];omega);rw[this]at hz;simp at hz;refine⟨b,o+x*e.size,cap-x,by rw[aD hcx,hl];simp[nh],by rw[hl];omega,λi z hz=>?_⟩;have hz':xs[x+i]?=some z:=by rw[bU,dV]at hz;split at hz;exact hz;cases hz
 obtain⟨cs,hcs,hr⟩:=h (x+i) z hz';refine⟨cs,?_,hr⟩;have:o+x*e.size+i*e.size=o+(x+i)*e.size:=by rw[cM];omega
 rw[this];exact hcs
theorem aet {w:World}{xs:aw e.D}{fp:fu}(h:fM hw w (.sl e) [v] xs fp){n:Nat}(hn:n<=xs.length): ∃bo cap,v=.slice bo xs.length cap/\xs.length<=cap/\∃fp',fM hw w (.sl e) [.slice (if cap=n then bo else bo.map (·.add (n*e.size))) (xs.length-n) (cap-n)] (xs.drop n) fp'/\(∀b∈fp',b∈fp)/\(fp.Nodup->fp'.Nodup):=by
 obtain⟨u,hu,h⟩:=h;simp at hu;subst hu;rcases h with⟨⟨ad,rfl⟩,rfl,rfl⟩|⟨b,o0,cap,arr,T,fr,fps,rfl,hb,hth,hs,hc,hh,rfl,hl,hr⟩;simp at hn;subst hn;exact⟨ad,0,rfl,by simp,[],⟨_,rfl,.inl ⟨⟨ad,by simp⟩,rfl,rfl⟩⟩,by simp,by simp⟩;refine⟨some ⟨b,o0,none⟩,cap,rfl,hc,?_⟩;by_cases hcn:cap=n;have hx:xs.drop n=[]:=df (by omega);refine⟨[],⟨_,rfl,.inl ⟨⟨some ⟨b,o0,none⟩,by rw[aE hcn,show xs.length-n=0 by omega,show cap-n=0 by omega]⟩,hx,rfl⟩⟩,by simp,by simp⟩;have hm1:cap*e.size=n*e.size+(cap-n)*e.size:=by rw[<-cM];congr 1;omega
 have hm2:xs.length*e.size=n*e.size+(xs.length-n)*e.size:=by rw[<-cM];congr 1;omega
 refine⟨b::(fps.drop n).flatten,⟨_,rfl,.inr ⟨b,o0+n*e.size,cap-n,arr,T,fr,fps.drop n,by rw[aD hcn];simp[nh],hb,hth,by omega,by simp;omega,by simp;omega,rfl,by simp[hl],λi x f hx hf=>?_⟩⟩,?_,?_⟩;rw[bU]at hx hf;have:=hr (n+i) x f hx hf;rwa[cM,<-fW]at this;intro c hc';rcases bQ.1 hc' with rfl|hc';simp;obtain⟨l,hl1,hl2⟩:=List.mem_flatten.1 hc';exact eR _ (List.mem_flatten.2 ⟨l,List.mem_of_mem_drop hl1,hl2⟩);intro hnd;have h1:=dA.1 hnd;have e1:fps.flatten=(fps.take n).flatten++(fps.drop n).flatten:=by rw[<-eI,cD]
 rw[e1]at h1;exact dA.2 ⟨λhm=>h1.1 (by simp[hm]),(aO.1 h1.2).2.1⟩
theorem abX {an:An}{o:Oper}{ep:Nat}{pv:az (kG×Nat)}{p:Int}:Mv an o (.loc ep pv) p=.loc ep none\/∃rt t,pv=some (rt,t)/\Mv an o (.loc ep pv) p=.part ep rt t p:=by
 unfold Mv;split;rename_i ep' r t d h _;cases h;cases an.nest.contains d with|false=>exact .inl rfl|true=>exact .inr ⟨_,_,rfl,rfl⟩
 exact .inl rfl
theorem MR {E:Env}(hE:jA P E.ty){o:Oper}{lo hi:az Operand}(ho:o.op=.slice T x lo hi none)(h:oa C st a w){K:AS->az R}(hk:wB E o T x lo hi st K=some r):mL P C o a w K r:=by
 obtain⟨g,hg⟩:=h;unfold wB at hk;split at hk;rename_i tag e xs st' kd p htk hlo;split at hk;rename_i hT;cases lo with
 |none=>simp at hlo
 |some lo=>
  simp at hlo;have hlv:=hg.rd lo;rw[hlo]at hlv;obtain⟨te,hu,⟨inf,z,hinf,hsz,_⟩,_⟩:=DW hE hT;obtain⟨g',hg'⟩:=hg.take x;rw[htk]at hg';simp only[cj]at hg';cases hsub:sub xs p xs.length with
  |none=>rw[hsub]at hk;cases hk
  |some xs'=>
   rw[hsub]at hk;simp only[aa]at hk;obtain⟨h1,h2,_,rfl⟩:=Nc hsub;obtain⟨fp,hrel,hnd,hl⟩:=hg'.hands 0 _ _ rfl;have hown:=(eU hrel).1;obtain⟨bo,cap,hv,hcap,fp',hown',hsubf,hnd'⟩:=aet hown (n:=p.toNat) (by omega);have hrun:(execOp a.eval o).run P w=.ok (.value (.slice (if cap=p.toNat then bo else bo.map (·.add (p.toNat*e.size))) (xs.length-p.toNat) (cap-p.toNat))) w:=by
    have hb:(Instr.sliceBounds true xs.length cap (some (a.eval lo)) none none).run P w=.ok (p.toNat,xs.length,cap) w:=by have hp2:p<=(xs.length:Int):=h2;simp[Instr.sliceBounds,Instr.sliceBound,asIntOf,jc hlv,h1,hp2]
    simp only[execOp,ho,hv,Instr.sliceAt,Instr.slice,underlying,Option.map_none,dB,Sem.run_bind,run_program,hu,Result.andThen_ok,Sem.run_pure,hb,sizeOf,typeInfo,hinf,hsz]
   have hx':(xs.take ((xs.length:Int).toNat)).drop p.toNat=xs.drop p.toNat:=by rw[ax,cO]
   rw[hx']at hk;refine⟨_,_,_,.inl hrun,?_,hk⟩;refine hg'.ME o.dst (hw':=g'.hw) (fp:=fp') (Fr.refl _ _) (λ_ _ _ _=>rfl) (λ_ _ _ ho hu=>⟨ho,hu⟩) hown' (hnd' hnd) (λb hb=>?_);have:=hl b (hsubf b hb);exact⟨(hg'.labs b _ this).1,.inl (by rw[this];rfl)⟩
 cases hk;cases hk
theorem Ya {E:Env}(hE:jA P E.ty){an:An}{o:Oper}{lo hi:az Operand}(ho:o.op=.slice T x lo hi none)(h:oa C st a w){K:AS->az R}(hk:Af E an o T x lo hi st K=some r):mL P C o a w K r:=by
 obtain⟨g,hg⟩:=id h;have hxv:=hg.fresh (hg.rd x);unfold Af at hk;split at hk;exact MR hE ho h hk;split at hk;rename_i s hx;rw[hx]at hxv;split at hk;rename_i hT;have hu:=R5 hE hT;have hv:=(eU hxv).1;obtain⟨p,q,hkk,hrun⟩:=KM (P:=P) (w:=w) hg (bh s.length) hk false;cases hsub:sub s p q with|none=>rw[hsub]at hkk;cases hkk|some s'=>rw[hsub]at hkk;simp only[aa]at hkk;obtain⟨h1,h2,h3,rfl⟩:=Nc hsub;have hb:=hrun h1 h2 h3;refine uO h _ _ ?_ (Kq _) hkk;simp only[execOp,ho,hv,Instr.sliceAt,Instr.slice,underlying,Option.map_none,Sem.run_bind,run_program,hu,Result.andThen_ok,Sem.run_pure,xi,hb,Option.isSome_none,bj,cu,extract_mk]
 cases hk;rename_i fl e xs hx;rw[hx]at hxv;split at hk;rename_i hT;obtain⟨hT,hlive⟩:=hT;obtain⟨te,hu,⟨inf,z,hinf,hsz,_⟩,_⟩:=DW hE hT;have hc:=eU hxv
 have key:∀(S:Nat->Nat->Prop),jr w S (.sl e) [a.eval x] xs->(∀(p q:Int)(bo:az Addr)(cap:Nat),0<=p->p<=q->q<=xs.length->xs.length<=cap->a.eval x=.slice bo xs.length cap->
  jr w S (.sl e) [.slice (if cap=p.toNat then bo else bo.map (·.add (p.toNat*e.size))) (q.toNat-p.toNat) (cap-p.toNat)] ((xs.take q.toNat).drop p.toNat)->
  hY (dc C g st w) (.slice (if cap=p.toNat then bo else bo.map (·.add (p.toNat*e.size))) (q.toNat-p.toNat) (cap-p.toNat)) (.sl (Mv an o fl p) e ((xs.take q.toNat).drop p.toNat)) [])->mL P C o a w K r:=by
  intro S hrep hmk
  have hcap:∃bo cap,a.eval x=.slice bo xs.length cap/\xs.length<=cap:=by obtain⟨bo,cap,hv,hc,_⟩:=ZI hrep (x:=0) (y:=0) (bh _) (cf _);exact⟨bo,cap,hv,hc⟩
  obtain⟨bo,cap,hv,hcap⟩:=hcap
  obtain⟨p,q,hkk,hrun⟩:=KM (P:=P) (w:=w) hg hcap hk true
  cases hsub:sub xs p q with
  |none=>rw[hsub]at hkk;cases hkk
  |some xs'=>
   rw[hsub]at hkk
   simp only[aa]at hkk
   obtain⟨h1,h2,h3,rfl⟩:=Nc hsub
   have hb:=hrun h1 h2 h3
   obtain⟨bo',cap',hv',_,hrep'⟩:=ZI hrep (x:=p.toNat) (y:=q.toNat) (by omega) (by omega)
   rw[hv]at hv'
   simp only[Value.slice.injEq,true_and]at hv'
   obtain⟨rfl,rfl⟩:=hv'
   refine⟨.slice (if cap=p.toNat then bo else bo.map (·.add (p.toNat*e.size))) (q.toNat-p.toNat) (cap-p.toNat),w,_,.inl ?_,⟨g,hg.quiet o.dst (mF (hmk p q _ _ h1 h2 h3 hcap hv hrep'))⟩,hkk⟩
   simp only[execOp,ho,hv,Instr.sliceAt,Instr.slice,underlying,Option.map_none,Sem.run_bind,run_program,hu,Result.andThen_ok,Sem.run_pure,hb,sizeOf,typeInfo,hinf,hsz]
 cases fl with
 |own t=>cases hlive
 |nest _ _ _ _ _ _=>cases hlive
 |part _ _ _ _=>cases hlive
 |holed _ _ _=>cases hlive
 |arg _=>exact key _ hc.2 (λp q bo cap _ _ _ _ _ hr=>by simp only[Mv,qv.bare];exact⟨rfl,hr⟩)
 |loc ep pv=>
  have hep:ep=st.ep:=by simpa[qv.live]using hlive
  refine key _ (hc.2.2.2.1 hep) (λp q bo cap hp hpq hq hcap hv hr=>?_);have hlen:((xs.take q.toNat).drop p.toNat).length=q.toNat-p.toNat:=by simp;omega
  have plain:hY (dc C g st w) (.slice (if cap=p.toNat then bo else bo.map (·.add (p.toNat*e.size))) (q.toNat-p.toNat) (cap-p.toNat)) (.sl (.loc ep none) e ((xs.take q.toNat).drop p.toNat)) []:=⟨rfl,hc.2.1,⟨_,_,_,rfl,hlen.symm⟩,λ_=>hr,by simp⟩
  rcases abX (an:=an) (o:=o) (ep:=ep) (pv:=pv) (p:=p)with hpf|⟨rt,t,rfl,hpf⟩;rw[hpf];exact plain;rw[hpf];refine⟨rfl,hc.2.1,⟨_,_,_,rfl,hlen.symm⟩,λ_=>?_⟩;have hroot:=hc.2.2.2.2 rt t rfl;refine⟨hroot.1,?_⟩;by_cases hz:q.toNat-p.toNat=0;exact .inl (cp (by rw[hlen];exact hz));right;obtain⟨u,hu,hrep⟩:=hc.2.2.2.1 hep;simp at hu;rcases hrep with⟨_,rfl⟩|⟨b,o0,cap2,hv2,hc2,_⟩;simp at hlen;omega;rw[<-hu,hv]at hv2;simp only[Value.slice.injEq,true_and]at hv2;obtain⟨rfl,rfl⟩:=hv2;refine⟨p.toNat,b,o0,xs.length,cap,cap-p.toNat,by omega,by rw[<-hroot.2,hv],by rw[hlen];omega,?_⟩;rw[nf,hlen];simp[nh]
 cases hk;cases hk
theorem Sy {E:Env}(hE:jA P E.ty)(h:E.bytes T=true):∃te,P.underlying T=some (.slice te)/\P.underlying te=some (.int .u8):=by unfold Env.bytes at h;split at h;rename_i te n hT;split at h;rename_i offs hte;obtain⟨te',hu,_,ho⟩:=(hE T _ hT).sl _ rfl rfl;have:=ho te n rfl;subst this;exact⟨te,hu,(hE te _ hte).int _ rfl rfl⟩;cases h;cases h
theorem ab7 {w:World}{S:Nat->Nat->Prop}{xs:bZ}(h:jr w S (.sl (.int .u8)) [v] xs): ((∃a,v=.slice a 0 0)/\xs=[])\/∃b o cap,v=.slice (some ⟨b,o,none⟩) xs.length cap/\∀i,i<xs.length->w.cell? ⟨b,o+i,none⟩=some (.int .u8 (xs.getD i 0)):=by obtain⟨u,hu,h⟩:=h;simp at hu;subst hu;rcases h with h|⟨b,o,cap,hv,_,h⟩;exact .inl h;refine .inr ⟨b,o,cap,hv,λi hi=>?_⟩;obtain⟨cs,hcs,hr⟩:=h i xs[i] (al hi);have hr':cs=[.int .u8 xs[i]]:=hr;subst hr';have:=(hcs 0 _ rfl).2;simp only[CT.size,ni,eG]at this;rw[this];simp[List.getD,al hi]
theorem P3 {E:Env}(hE:jA P E.ty){o:Oper}{src dst:TypeId}(ho:o.op=.convert src dst x)(h:oa C st a w){K:AS->az R}(hk:lU E o src dst x st K=some r):mL P C o a w K r:=by
 obtain⟨g,hg⟩:=id h;have hxv:=hg.rd x;have fin:∀v w',(convert src dst (a.eval x)).run P w=.ok v w'->(execOp a.eval o).run P w=.ok (.value v) w':=by intro v w' hr;simp only[execOp,ho];show(convert src dst (a.eval x)>>=λv=>pure (Next.value v)).run P w=_;rw[Sem.run_bind,hr];rfl
 have under:∀(T:TypeId)(sh:Shape),jn E.ty T=some sh->∃d,P.underlying T=some d:=by
  intro T sh hT;have hok:=hE T sh hT;cases hag:sh.agg with
  |true=>obtain⟨fs,hu,_⟩:=hok.agg hag;exact⟨_,hu⟩
  |false=>
   cases hct:sh.ct with
   |int k=>exact⟨_,hok.int k hct hag⟩
   |bool=>exact⟨_,hok.bool hct hag⟩
   |str=>exact⟨_,hok.str hct hag⟩
   |sl e=>obtain⟨te,hu,_⟩:=hok.sl e hct hag;exact⟨_,hu⟩
   |pair p q=>have:=hok.pair p q hct;rw[hag]at this;cases this
 unfold lU at hk;split at hk;rename_i ssh k offs k' n hs hd hx;rw[hx]at hxv;obtain⟨ds,hus⟩:=under _ _ hs;have hud:=(hE dst _ hd).int k rfl rfl;refine uO h _ _ (fin (.int k (k.wrap n)) w ?_) (kq _ _) hk;rw[jc hxv];simp only[convert,underlying,Sem.run_bind,run_program,hus,hud,Result.andThen_ok,Sem.run_pure];rfl;rename_i offs offs' s hs hd hx;rw[hx]at hxv;have hus:=(hE src _ hs).str rfl rfl;have hud:=(hE dst _ hd).str rfl rfl;refine uO h _ _ (fin (.string ⟨s.toArray⟩) w ?_) (Kq _) hk;rw[(eU hxv).1];simp only[convert,underlying,Sem.run_bind,run_program,hus,hud,Result.andThen_ok,Sem.run_pure];rename_i offs sh s hnot hs hd hx;rw[hx]at hxv;split at hk;rename_i hb;unfold room at hk;split at hk;obtain⟨te,hu,hte⟩:=Sy hE hb;have hus:=(hE src _ hs).str rfl rfl;have hrun:=run_bytes_of_string (P:=P) w src dst te ⟨s.toArray⟩ hus hu hte;rw[<-(eU hxv).1,xi]at hrun;refine⟨_,_,_,.inl (fin _ _ hrun),?_,hk⟩;have hge:=grownCap_ge w s.length 0 te;have hsz:(bytesRow ⟨s.toArray⟩ (grownCap w s.length 0 te)).size=grownCap w s.length 0 te*CT.size (.int .u8):=by simp only[bytesRow,Array.size_append,Array.size_map,Array.size_replicate,xi,CT.size];simp;omega
 have htk:(bytesRow ⟨s.toArray⟩ (grownCap w s.length 0 te)).toList.take ((du s).length*CT.size (.int .u8))=(du s).map (Value.int .u8):=by simp only[bytesRow,du,CT.size,Array.toList_append,Array.toList_map];rw[List.take_append_of_le_length (by simp)];rw[cd (by simp)];simp
 have hel:ky g.hw w (.int .u8) ((bytesRow ⟨s.toArray⟩ (grownCap w s.length 0 te)).toList.take ((du s).length*CT.size (.int .u8))) (du s) (List.replicate s.length []):=by
  rw[htk];refine⟨by simp[CT.size],by simp[du],λi y f hy hf=>?_⟩;have hi:i<(du s).length:=(aC.1 hy).1;have hf':f=[]:=by rw[eM]at hf;split at hf<;>simp at hf;exact hf
  subst hf';refine⟨?_,rfl⟩;apply cL;intro j;rw[jx];simp only[CT.size,ni];cases j with|zero=>simp[hy]|succ j=>simp
 have hlen:(du s).length=s.length:=by simp[du]
 have:=hg.Mq o.dst (T:=te) (fr:=((bytesRow ⟨s.toArray⟩ (grownCap w s.length 0 te)).size,(bytesRow ⟨s.toArray⟩ (grownCap w s.length 0 te)).size+1)) (cap:=grownCap w s.length 0 te) (.inr rfl) (by intro j hj hc;simp only at hc;omega) hsz (by rw[hlen];exact hge) hel (by simp) (by simp);rw[hlen]at this;exact this;cases hk;cases hk;rename_i ssh offs fl xs hs hd hx;rw[hx]at hxv;split at hk;rename_i hb;obtain⟨hb,hlive⟩:=hb;obtain⟨te,hu,hte⟩:=Sy hE hb;have hud:=(hE dst _ hd).str rfl rfl;have hc:=eU hxv;have hrep:∃S,jr w S (.sl (.int .u8)) [a.eval x] xs:=by
  cases fl with
  |own t=>cases hlive
  |nest _ _ _ _ _ _=>cases hlive
  |part _ _ _ _=>cases hlive
  |holed _ _ _=>cases hlive
  |arg _=>exact⟨_,hc.2⟩
  |loc ep pv=>
   have hep:ep=st.ep:=by simpa[qv.live]using hlive
   exact⟨_,hc.2.2.2.1 hep⟩
 obtain⟨S,hrep⟩:=hrep;refine uO h _ _ (fin (.string ⟨(aL xs).toArray⟩) w ?_) (Kq _) hk;rcases ab7 hrep with⟨⟨ad,hv⟩,rfl⟩|⟨b,ob,cap,hv,hcell⟩;cases ad with|none=>rw[hv,run_convert_bytes_nil w src te hu hte 0 0 dst hud];rfl|some ad=>rw[hv];exact run_convert_bytes_back w src dst te ad 0 [] hu hte hud (λj hj=>by simp at hj)
 rw[hv,run_convert_bytes_arg w src te hu hte b ob xs.length cap xs rfl hcell dst hud];rfl;cases hk;cases hk
end Go.Dn
