import Derived.Test.YtinkcmefgciifaaGreatDnOps4
import Derived.Laws.MakeOwn
import Derived.Laws.IdiomStrings
import Derived.Laws.BytesArg
/- Part 5: tuples, parts of slices, conversions, structs and slices that are built. -/
namespace Go.Dn
open Go.RowKit
variable {P:Program} {C:Ctx} {st:AS} {a:Act} {w:World} {R:Type} {r:R}
variable {arr:Array Value} {e:CT} {g:Gh} {cap:Nat} {fr:Nat×Nat} {hw:Nat->Nat} {x:Operand} {T:TypeId} {v:Value} {hs:ax (Value×AV)} {fps:ax fy} {news:iG}
theorem qe.at {c:RC}:∀{ws:iG}{ts:ax (Bool×ax AC)}{fp:fy},fX.qe c ws ts fp->∀{i:Nat}{g:Bool}{cs:ax AC},ts[i]?=some (g,cs)->
 ∃v f1 f2 f3,ws[i]?=some v/\fp=f1++f2++f3/\(∃us,Cut g v us/\bD c us cs f2)/\
  ∀c':RC,c.Le c'->(∀b∈f1++f3,c'.w.heap[b]?=c.w.heap[b]?/\c'.hw b=c.hw b)->∀qg,(∃us,Cut g v us/\bD c' us qg [])->fX.qe c' ws (ts.set i (g,qg)) (f1++f3)
 |[],[],_,_,i,g,cs,h=>by simp at h
 |w::ws,t::ts,_,r,0,g,cs,h=>by obtain⟨f1,f2,rfl,r1,r2⟩:=r;simp at h;subst h;exact⟨w,[],f1,f2,rfl,by simp,r1,λc' hle hb qg xz=>⟨[],f2,rfl,xz,qe.mono hle r2 (λb gX=>hb b (by simpa using gX))⟩⟩
 |w::ws,t::ts,_,r,i+1,g,cs,h=>by obtain⟨f1,f2,rfl,r1,r2⟩:=r;obtain⟨v,g1,g2,g3,hv,rfl,hr,CI⟩:=qe.at r2 (i:=i) (by simpa using h);refine⟨v,f1++g1,g2,g3,by simpa using hv,by simp,hr,λc' hle hb qg xz=>?_⟩;obtain⟨us,fj,eQ⟩:=r1;rw[aR];refine⟨f1,g1++g3,rfl,⟨us,fj,eQ.mono hle (λb gX=>hb b (by simp[gX]))⟩,?_⟩;exact CI c' hle (λb gX=>hb b (by rcases az.1 gX with k|k<;>simp[k])) qg xz
 |[],_::_,_,r,_,_,_,_=>r.elim
 |_::_,[],_,r,_,_,_,_=>r.elim
theorem Pm {o:Oper}{t i:Nat}(ho:o.op=.extract (.tmp t) i)(h:ij C st a w){K:AS->ay R}(hk:lH o t i st K=some r):mz P C o a w K r:=by
 obtain⟨g,h⟩:=h;unfold lH at hk;split at hk;rename_i ts hg;split at hk;rename_i gg cs hn;rw[dK]at hn;have htl:t<st.slots.length:=by
  rcases cd t st.slots.length with gY|yZ;exact gY;have:st.get t=.bot:=by simp[AS.get,dK,bn yZ]
  rw[this]at hg;cases hg
 obtain⟨fp,hr,DA,hl⟩:=h.slot t;rw[hg]at hr;obtain⟨ws,hv,hr⟩:=hr;obtain⟨v,f1,f2,f3,hwv,rfl,NH,CI⟩:=qe.at hr hn;have ed:(execOp a.eval o).run P w=.ok (.value v) w:=by have he:a.eval (.tmp t)=.tuple ws.toArray:=hv;simp[execOp,ho,he,Instr.extract,hwv]
 have PF:=DA;rw[aR]at PF;have n1:=aJ.1 PF;have n2:=aJ.1 n1.2.1;let Mp:AV:=.uW (gU ts i (gg,aU 0 cs));let bN:AS:=st.put (some t) Mp;let g':Gh:={g with ej:=λb=>if b∈f2 then some (.hand 0) else g.ej b}
 have hle:(cM C g st w).Le (cM C g' bN w):=by have:= @P0 C g st w (some t) Mp;exact⟨this.A,this.hdr,this.Q7,this.ep,this.Gy,this.aaA⟩
 have T3:∀b y,g.ej b=some y->b∉f2->g'.ej b=some y:=by intro b y hb hm;show(if b∈f2 then _ else _)=_;rw[aI hm];exact hb
 have Jr:∀b y,y≠ .slot t->g.ej b=some y->b∉f2:=λb y hy hb hm=>hy (by have:=hl b (by simp[hm]);rw[hb]at this;simpa using this);have ahU:dP C g' bN a w [(v,.val gg cs)]:=by
  refine h.step (λy=>y≠ .slot t) hle h.defers (by show _=(st.put (some t) Mp).slots.length;rw[fM,aC];exact h.size) (by show(st.put (some t) Mp).boxes.length=(st.put (some t) Mp).slots.length;rw[kA,fM,aC];exact h.bsize) h.frame ?_ (λb y hy hb=>⟨T3 b y hb (Jr b y hy hb),rfl,rfl⟩) ?_ ?_ ?_ (.inl ⟨by simp,HF⟩);intro b y hy;have QN:(if b∈f2 then some (jM.hand 0) else g.ej b)=some y:=hy;by_cases hm:b∈f2;exact h.fY b _ (hl b (by simp[hm]));rw[aI hm]at QN;exact h.fY b y QN;intro j bv hj;have Zh:(st.slots.set t Mp)[j]?=some bv:=by rw[<-fM];exact hj
  by_cases hjt:j=t;subst hjt;rw[br]at Zh;simp only[bQ,htl]at Zh;simp at Zh;subst Zh;refine .inr ⟨f1++f3,⟨ws,hv,?_⟩,?_,?_⟩;rw[fu];obtain⟨us,fj,eQ⟩:=NH;refine CI _ hle (λb _=>⟨rfl,rfl⟩) _ ⟨us,fj,?_⟩;exact(eQ.Xj).mono hle (by simp);refine aJ.2 ⟨n1.1,n2.2.1,?_⟩;rintro b hb c hc rfl;exact n1.2.2 b hb b (bj _ hc) rfl;intro b hb;refine T3 b _ (hl b (by rcases az.1 hb with k|k<;>simp[k])) (λhm=>?_);rcases az.1 hb with k|k;exact n1.2.2 b k b (bt _ hm) rfl;exact n2.2.2 b hm b k rfl;rw[aN (cO hjt)]at Zh;exact .inl ⟨by simpa using hjt,Zh,rfl⟩;intro s qg hb;have gX:st.boxes[s]?=some (some qg):=by rw[<-kA (d:=some t) (v:=Mp)];exact hb
  exact .inl ⟨by simp,gX,rfl⟩;intro k u bv CF;cases k with
  |zero=>simp only[cv,bc,Prod.mk.injEq]at CF;obtain⟨rfl,rfl⟩:=CF;obtain⟨us,fj,eQ⟩:=NH;refine .inr ⟨f2,⟨us,fj,eQ.mono hle (λb _=>⟨rfl,rfl⟩)⟩,n2.1,λb hb=>?_⟩;show(if b∈f2 then _ else _)=_;rw[aH hb]
  |succ k=>simp at CF
 exact⟨v,w,_,.inl ed,dP.Bw ahU o.dst,hk⟩;cases hk;cases hk
def kt (hw:Nat->Nat)(w:World)(e:CT)(news:iG)(ys:ax e.D)(fps:ax fy):Prop:=
 news.length=ys.length*e.size/\fps.length=ys.length/\∀(i:Nat)(y:e.D)(f:fy),ys[i]?=some y->fps[i]?=some f->fg hw w e ((news.drop (i*e.size)).take e.size) y f
theorem kt.append {w:World}{n1 n2:iG}{xs ys:ax e.D}{f1 f2:ax fy}(h1:kt hw w e n1 xs f1)(h2:kt hw w e n2 ys f2): kt hw w e (n1++n2) (xs++ys) (f1++f2):=by
 obtain⟨a1,a2,a3⟩:=h1;obtain⟨b1,b2,b3⟩:=h2;refine⟨by rw[ai,ai,a1,b1,cB],by simp[a2,b2],λi y f hy hf=>?_⟩;by_cases hi:i<xs.length;rw[bB hi]at hy;rw[bB (by omega)]at hf;have hm:(i+1)*e.size<=xs.length*e.size:=cw _ hi;rw[cB,ff]at hm;have:=a3 i y f hy hf;have e1:((n1++n2).drop (i*e.size)).take e.size=(n1.drop (i*e.size)).take e.size:=by rw[List.drop_append_of_le_length (by omega),List.take_append_of_le_length (by rw[aM];omega)]
 rw[e1];exact this;rw[bm (by omega)]at hy;rw[bm (by omega),a2]at hf;have:=b3 _ y f hy hf;have yZ:xs.length*e.size<=i*e.size:=cw _ (by omega);have e1:(n1++n2).drop (i*e.size)=n2.drop ((i-xs.length)*e.size):=by rw[List.drop_append,cC (by omega),cG,a1,Nat.sub_mul]
 rw[e1];exact this
theorem kt.mono {hw':Nat->Nat}{w w':World}{ys:ax e.D}(h:kt hw w e news ys fps)(hk:∀b∈fps.flatten,w'.heap[b]?=w.heap[b]?/\hw' b=hw b):kt hw' w' e news ys fps:=⟨h.1,h.2.1,λi y f hy hf=>fg.mono (h.2.2 i y f hy hf) λb hb=>hk b (List.mem_flatten.2 ⟨f,bp hf,hb⟩)⟩
theorem kt.nil (hw:Nat->Nat)(w:World)(e:CT):kt hw w e [] [] []:=⟨by simp,rfl,by simp⟩
theorem kt.mN {w:World}{ys:ax e.D}(h:kt hw w e news ys fps):∀v∈news,v.oneCell'=true:=by
 intro v hv;obtain⟨j,hj,hjv⟩:=List.mem_iff_getElem.1 hv;have Zk:=e.size_pos;have hi:j/e.size<ys.length:=by rw[Nat.div_lt_iff_lt_mul Zk];rw[<-h.1];exact hj
 have gO:=h.2.2 (j/e.size) _ _ (aq hi) (aq (by rw[h.2.1];exact hi));refine fg.mN gO v ?_;rw[List.mem_iff_getElem?];refine⟨j%e.size,?_⟩;rw[jf,aH (gk _ Zk),Nat.mul_comm,Nat.div_add_mod,aq hj,hjv]
theorem Wn {w:World}{b o0:Nat}{xs:ax e.D}(hb:w.heap[b]?=some (.cells arr T fr))(rz:px arr fr)(hs:arr.size=o0+cap*e.size)(hc:xs.length<=cap)(hh:hw b=o0+xs.length*e.size)(CC:kt hw w e ((arr.toList.drop o0).take (xs.length*e.size)) xs fps): fg hw w (.sl e) [.slice (some ⟨b,o0,none⟩) xs.length cap] xs (b::fps.flatten):=by
 refine⟨_,rfl,.inr ⟨b,o0,cap,arr,T,fr,fps,rfl,hb,rz,hs,hc,hh,rfl,CC.2.1,λi x f hx hf=>?_⟩⟩;have:=CC.2.2 i x f hx hf;have hi:i<xs.length:=(aG.1 hx).1;have hm:(i+1)*e.size<=xs.length*e.size:=cw _ hi;rw[cB,ff]at hm;have e1:(((arr.toList.drop o0).take (xs.length*e.size)).drop (i*e.size)).take e.size=(arr.toList.drop (o0+i*e.size)).take e.size:=by apply cA;intro j;rw[jf,jf,jf];by_cases hj:j<e.size;rw[aH hj,aH hj,zip,fD];rw[aI hj,aI hj]
 rw[e1]at this;exact this
theorem HT {w:World}{o0:Nat}{xs:ax e.D}(hs:arr.size=o0+cap*e.size)(hc:xs.length<=cap)(hl:fps.length=xs.length)(h:∀(i:Nat)(x:e.D)(f:fy),xs[i]?=some x->fps[i]?=some f->fg hw w e ((arr.toList.drop (o0+i*e.size)).take e.size) x f):kt hw w e ((arr.toList.drop o0).take (xs.length*e.size)) xs fps:=by
 refine⟨?_,hl,λi x f hx hf=>?_⟩;have hal:(arr.toList.drop o0).length=cap*e.size:=by rw[aM,Array.length_toList,hs];omega
 rw[aW,hal];exact gV (cw _ hc);have hi:i<xs.length:=(aG.1 hx).1;have hm:(i+1)*e.size<=xs.length*e.size:=cw _ hi;rw[cB,ff]at hm;have e1:(((arr.toList.drop o0).take (xs.length*e.size)).drop (i*e.size)).take e.size=(arr.toList.drop (o0+i*e.size)).take e.size:=by apply cA;intro j;rw[jf,jf,jf];by_cases hj:j<e.size;rw[aH hj,aH hj,zip,fD];rw[aI hj,aI hj]
 rw[e1];exact h i x f hx hf
theorem KC {w w':World}{S:Nat->Nat->Prop}:∀{e:CT}{vs:iG}{x:e.D},jc w' S e vs x->e.flat=true->fg hw w e vs x []
 | .int _,_,_,h,_=>⟨h,rfl⟩
 | .bool,_,_,h,_=>⟨h,rfl⟩
 | .str,_,_,h,_=>⟨h,rfl⟩
 | .sl _,_,_,_,hf=>by cases hf
 | .pair a b,_,_,h,hf=>by obtain⟨v1,v2,rfl,h1,h2⟩:=h;simp only[CT.flat,ae]at hf;exact⟨v1,v2,[],[],rfl,rfl,KC h1 hf.1,KC h2 hf.2⟩
def KK (hdr:Nat->Value)(t:ay Nat)(v:Value):Nat->Value:=λu=>if t=some u then v else hdr u
theorem Vr {hdr:Nat->Value}{d:ay Nat}{t:Nat}(h:mC st t):KK hdr (st.hZ d 0) v t=hdr t:=by unfold KK;rw[aI];intro e;exact(pj e).1 h
theorem dP.LC (h:dP C g st a w hs)(d:ay Nat){xs:ax e.D}{fp:fy}{w':World}{hw':Nat->Nat}(jq:Fr (λb=>dG (g.ej b)) w w')(Dz:∀b x,g.ej b=some x->¬dG (some x)->hw' b=g.hw b)(FX:∀b o u,o<g.hw b->w.cell? ⟨b,o,none⟩=some u->o<hw' b/\w'.cell? ⟨b,o,none⟩=some u)(gO:fg hw' w' (.sl e) [v] xs fp)(hn:fp.Nodup)(BU:∀b∈fp,b<w'.heap.size/\(dG (g.ej b)\/w.heap.size<=b)): ij C (st.pw d e xs) (a.put d v) w':=by refine h.LB d (st1:=st.fz d) (hdr':=KK g.hdr (st.hZ d 0) v) Gj tA zk yy (λt ht=>⟨Br ht,Vr ht⟩) jq Dz FX (mq ⟨gO,λt ht=>?_⟩) hn BU;refine⟨(pj ht).2.1,?_⟩;show v=KK g.hdr (st.hZ d 0) v t;unfold KK;rw[aH ht]
theorem dP.Lp (h:dP C g st a w hs)(d:ay Nat){xs:ax e.D}{w':World}(hw:w'=w.alloc (.cells arr T fr)\/w'=w.drew.alloc (.cells arr T fr))(rz:px arr fr)(hs0:arr.size=cap*e.size)(hc:xs.length<=cap)(CC:kt g.hw w e (arr.toList.take (xs.length*e.size)) xs fps)(hn:fps.flatten.Nodup)(BU:∀b∈fps.flatten,dG (g.ej b)): ij C (st.pw d e xs) (a.put d (.slice (some ⟨w.heap.size,0,none⟩) xs.length cap)) w':=by
 have jq:Fr (λb=>dG (g.ej b)) w w':=by rcases hw with rfl|rfl;exact Fr.alloc _ _ _;exact(Fr.drew _ w).trans (Fr.alloc _ _ _) (λb _ hh=>hh)
 have RX:w'.heap[w.heap.size]?=some (.cells arr T fr):=by rcases hw with rfl|rfl;exact heap_alloc_new w _;exact heap_alloc_new w.drew _
 have tH:w'.heap.size=w.heap.size+1:=by rcases hw with rfl|rfl<;>simp
 have hold:∀b,b<w.heap.size->w'.heap[b]?=w.heap[b]?:=by intro b hb;rcases hw with rfl|rfl;exact heap_alloc_old w _ b hb;exact heap_alloc_old w.drew _ b hb
 have gY:∀b∈fps.flatten,b<w.heap.size:=by intro b hb;have hh:=BU b hb;cases hx:g.ej b with|none=>rw[hx]at hh;cases hh|some x=>exact(h.fY b x hx).1
 let hw':Nat->Nat:=λb=>if b=w.heap.size then xs.length*e.size else g.hw b
 have gO:fg hw' w' (.sl e) [.slice (some ⟨w.heap.size,0,none⟩) xs.length cap] xs (w.heap.size::fps.flatten):=by refine Wn (o0:=0) RX rz (by rw[cr];exact hs0) hc (by simp[hw']) (CC.mono λb hb=>?_);have gX:=gY b hb;exact⟨hold b gX,by simp[hw',gR gX]⟩
 refine h.LC d (hw':=hw') (fp:=w.heap.size::fps.flatten) jq ?_ ?_ gO ?_ ?_;intro b x hx _;simp[hw',gR (h.fY b x hx).1];intro b o u ho hu;have hb:b<w.heap.size:=World.block_lt_of_cell? w _ hu;exact⟨by simp[hw',gR hb];exact ho,by rw[World.cell?_of_block (a:=⟨b,o,none⟩) (hold b hb)];exact hu⟩;exact dc.2 ⟨λhm=>Nat.lt_irrefl _ (gY _ hm),hn⟩;intro b hb;rcases cn.1 hb with rfl|hb;exact⟨by omega,.inr (aS _)⟩;exact⟨by have:=gY b hb;omega,.inl (BU b hb)⟩
theorem adt {z:Array Value}{c size i:Nat}(hz:z.size=size)(hi:i<c):((madeCells z (c*size)).toList.drop (i*size)).take size=z.toList:=by
 have hm:(i+1)*size<=c*size:=cw _ hi;rw[cB,ff]at hm;apply cA;intro j;rw[jf];by_cases hj:j<size;rw[aH hj,madeCells];have h1:i*size+j<c*size:=by omega
 simp only[Array.toList_map,Array.toList_range,List.getElem?_map,List.getElem?_range h1,de];have ahJ:(i*size+j)%z.size=j:=by rw[hz,Nat.mul_comm,Nat.mul_add_mod,dU hj]
 rw[ahJ];simp[getElem!_pos,hz,hj];rw[aI hj,bn];simp[hz];omega
theorem Li {E:Env}(hE:jk P E.ty){o:Oper}{n c:Operand}(ho:o.op=.makeSlice T n c)(h:ij C st a w){K:AS->ay R}(hk:nZ E o T n c st K=some r):mz P C o a w K r:=by
 obtain⟨g,hg⟩:=id h;have hnv:=hg.rd n;have hcv:=hg.rd c;unfold nZ at hk;split at hk;rename_i e len cap hT hn hc;rw[hn]at hnv;rw[hc]at hcv;split at hk;rename_i hlc;unfold room at hk;split at hk;rename_i Ec;obtain⟨te,hu,⟨inf,z,Aw,tH,hby,hz,hzc⟩,_⟩:=C4 hE hT;have FU:cap<=1073741824:=by omega
 have ahw:(inf.bytes:Int)*cap<=281474976710656:=by have h1:(inf.bytes:Int)*cap<=65536*cap:=Int.mul_le_mul_of_nonneg_right (by omega) (by omega);omega
 have ed:=run_make (P:=P) w T te inf z hu Aw hz .i64 .i64 len cap hlc.1 hlc.2 ahw (by omega);have Ee:(execOp a.eval o).run P w=.ok (.value (.slice (some ⟨w.heap.size,0,none⟩) len.toNat cap.toNat)) (w.alloc (.cells (madeCells z.cells (cap.toNat*inf.size)) te)):=by simp only[execOp,ho,iQ hnv,iQ hcv];show((Instr.makeSlice T (.int .i64 len) (.int .i64 cap))>>=λv=>pure (Next.value v)).run P w=_;rw[Sem.run_bind,ed];rfl
 have hzs:z.cells.size=e.size:=by rw[<-oT e,<-hzc];simp
 have hlen:(List.replicate len.toNat e.zero).length=len.toNat:=by simp
 have CC:kt g.hw w e ((madeCells z.cells (cap.toNat*inf.size)).toList.take ((List.replicate len.toNat e.zero).length*e.size)) (List.replicate len.toNat e.zero) (List.replicate len.toNat []):=by
  refine HT (o0:=0) (cap:=cap.toNat) (by rw[size_madeCells,tH,cr]) (by rw[hlen];omega) (by simp) (λi x f hx hf=>?_);have hi:i<len.toNat:=by have:=(aG.1 hx).1;simpa using this
  rw[dX,aH hi]at hx hf;simp at hx hf;subst hx;subst hf;rw[tH,cr,adt hzs (by omega),hzc];exact Dk _ _ _
 refine⟨_,_,_,.inl Ee,?_,hk⟩;have:=hg.Lp o.dst (T:=te) (fr:=(0,0)) (cap:=cap.toNat) (.inl rfl) (by intro j _;simp) (by rw[size_madeCells,tH]) (by rw[hlen];omega) CC (by simp) (by simp);rw[hlen]at this;exact this;cases hk;cases hk;cases hk
theorem J9 {lo hi:ay Operand}(hg:dP C g st a w []){n:Nat}(FU:n<=cap){K:Int->Int->ay R}(hk:mD st lo hi n K=some r)(isS:Bool): ∃x y:Int,K x y=some r/\(0<=x->x<=y->y<=n->(Instr.sliceBounds isS n cap (lo.map a.eval) (hi.map a.eval) none).run P w=.ok (x.toNat,y.toNat,cap) w):=by
 unfold mD at hk;split at hk;rename_i h1 h2;have e1:lo=none:=by cases lo<;>simp at h1⊢
 have e2:hi=none:=by cases hi<;>simp at h2⊢
 subst e1;subst e2;exact⟨0,n,hk,λ_ _ _=>by simp[Instr.sliceBounds]⟩;rename_i k p h1 h2;have e2:hi=none:=by cases hi<;>simp at h2⊢
 subst e2;cases lo with|none=>simp at h1|some lo=>simp at h1;have hv:=hg.rd lo;rw[h1]at hv;refine⟨p,n,hk,λq1 q2 q3=>?_⟩;simp[Instr.sliceBounds,Instr.sliceBound,asIntOf,iQ hv,q1,q2]
 rename_i k p h1 h2;have e1:lo=none:=by cases lo<;>simp at h1⊢
 subst e1;cases hi with|none=>simp at h2|some hi=>simp at h2;have hv:=hg.rd hi;rw[h2]at hv;refine⟨0,p,hk,λq1 q2 q3=>?_⟩;simp[Instr.sliceBounds,Instr.sliceBound,asIntOf,iQ hv,show 0<=p by omega,show p<=(cap:Int) by omega]
 rename_i k p k' q h1 h2;cases lo with|none=>simp at h1|some lo=>cases hi with|none=>simp at h2|some hi=>simp at h1 h2;have hv:=hg.rd lo;have PJ:=hg.rd hi;rw[h1]at hv;rw[h2]at PJ;refine⟨p,q,hk,λq1 q2 q3=>?_⟩;simp[Instr.sliceBounds,Instr.sliceBound,asIntOf,iQ hv,iQ PJ,q1,show 0<=q by omega,show q<=(cap:Int) by omega];intro gY;omega
 cases hk
theorem extract_mk (s:ax UInt8)(x y:Nat):(ByteArray.mk s.toArray).extract x y=ByteArray.mk ((s.take y).drop x).toArray:=by apply ByteArray.ext;rw[ByteArray.data_extract];simp[List.extract_eq_take_drop,List.drop_take]
theorem L4 {α:Type}{xs ys:ax α}{x y:Int}(h:sub xs x y=some ys):0<=x/\x<=y/\y<=(xs.length:Int)/\ys=(xs.take y.toNat).drop x.toNat:=by unfold sub at h;split at h;rename_i hc;simp at h;exact⟨hc.1,hc.2.1,hc.2.2,h.symm⟩;cases h
theorem X9 {w:World}{S:Nat->Nat->Prop}{xs:ax e.D}(h:jc w S (.sl e) [v] xs){x y:Nat}(hxy:x<=y)(hy:y<=xs.length): ∃bo cap,v=.slice bo xs.length cap/\xs.length<=cap/\jc w S (.sl e) [.slice (if cap=x then bo else bo.map (·.add (x*e.size))) (y-x) (cap-x)] ((xs.take y).drop x):=by
 obtain⟨u,hu,h⟩:=h;simp at hu;subst hu;rcases h with⟨⟨ad,rfl⟩,rfl⟩|⟨b,o,cap,rfl,hc,h⟩;simp at hy;subst hy;have hx:x=0:=by omega
 subst hx;exact⟨ad,0,rfl,by simp,⟨_,rfl,.inl ⟨⟨ad,by simp⟩,by simp⟩⟩⟩;have hl:((xs.take y).drop x).length=y-x:=by simp;omega
 refine⟨some ⟨b,o,none⟩,cap,rfl,hc,⟨_,rfl,.inr ?_⟩⟩;by_cases hcx:cap=x;refine⟨b,o,cap-x,by rw[aH hcx,hl],by rw[hl];omega,λi z hz=>?_⟩;have:((xs.take y).drop x)=[]:=bV (by rw[hl];omega);rw[this]at hz;simp at hz;refine⟨b,o+x*e.size,cap-x,by rw[aI hcx,hl];simp[mV],by rw[hl];omega,λi z hz=>?_⟩;have hz':xs[x+i]?=some z:=by rw[bH,dC]at hz;split at hz;exact hz;cases hz
 obtain⟨cs,Hv,hr⟩:=h (x+i) z hz';refine⟨cs,?_,hr⟩;have:o+x*e.size+i*e.size=o+(x+i)*e.size:=by rw[cB];omega
 rw[this];exact Hv
theorem adI {w:World}{xs:ax e.D}{fp:fy}(h:fg hw w (.sl e) [v] xs fp){n:Nat}(hn:n<=xs.length): ∃bo cap,v=.slice bo xs.length cap/\xs.length<=cap/\∃jZ,fg hw w (.sl e) [.slice (if cap=n then bo else bo.map (·.add (n*e.size))) (xs.length-n) (cap-n)] (xs.drop n) jZ/\(∀b∈jZ,b∈fp)/\(fp.Nodup->jZ.Nodup):=by
 obtain⟨u,hu,h⟩:=h;simp at hu;subst hu;rcases h with⟨⟨ad,rfl⟩,rfl,rfl⟩|⟨b,o0,cap,arr,T,fr,fps,rfl,hb,rz,hs,hc,hh,rfl,hl,hr⟩;simp at hn;subst hn;exact⟨ad,0,rfl,by simp,[],⟨_,rfl,.inl ⟨⟨ad,by simp⟩,rfl,rfl⟩⟩,by simp,by simp⟩;refine⟨some ⟨b,o0,none⟩,cap,rfl,hc,?_⟩;by_cases hcn:cap=n;have hx:xs.drop n=[]:=cC (by omega);refine⟨[],⟨_,rfl,.inl ⟨⟨some ⟨b,o0,none⟩,by rw[aH hcn,show xs.length-n=0 by omega,show cap-n=0 by omega]⟩,hx,rfl⟩⟩,by simp,by simp⟩;have hm1:cap*e.size=n*e.size+(cap-n)*e.size:=by rw[<-cB];congr 1;omega
 have hm2:xs.length*e.size=n*e.size+(xs.length-n)*e.size:=by rw[<-cB];congr 1;omega
 refine⟨b::(fps.drop n).flatten,⟨_,rfl,.inr ⟨b,o0+n*e.size,cap-n,arr,T,fr,fps.drop n,by rw[aI hcn];simp[mV],hb,rz,by omega,by simp;omega,by simp;omega,rfl,by simp[hl],λi x f hx hf=>?_⟩⟩,?_,?_⟩;rw[bH]at hx hf;have:=hr (n+i) x f hx hf;rwa[cB,<-fD]at this;intro c xz;rcases cn.1 xz with rfl|xz;simp;obtain⟨l,hl1,yn⟩:=List.mem_flatten.1 xz;exact eT _ (List.mem_flatten.2 ⟨l,List.mem_of_mem_drop hl1,yn⟩);intro DA;have h1:=dc.1 DA;have e1:fps.flatten=(fps.take n).flatten++(fps.drop n).flatten:=by rw[<-dV,cm]
 rw[e1]at h1;exact dc.2 ⟨λhm=>h1.1 (by simp[hm]),(aJ.1 h1.2).2.1⟩
theorem aat {an:An}{o:Oper}{ep:Nat}{pv:ay (ky×Nat)}{p:Int}:Lu an o (.loc ep pv) p=.loc ep none\/∃rt t,pv=some (rt,t)/\Lu an o (.loc ep pv) p=.part ep rt t p:=by
 unfold Lu;split;rename_i ep' r t d h _;cases h;cases an.nest.contains d with|false=>exact .inl rfl|true=>exact .inr ⟨_,_,rfl,rfl⟩
 exact .inl rfl
theorem LQ {E:Env}(hE:jk P E.ty){o:Oper}{lo hi:ay Operand}(ho:o.op=.slice T x lo hi none)(h:ij C st a w){K:AS->ay R}(hk:vq E o T x lo hi st K=some r):mz P C o a w K r:=by
 obtain⟨g,hg⟩:=h;unfold vq at hk;split at hk;rename_i tag e xs bN kd p rK hlo;split at hk;rename_i hT;cases lo with
 |none=>simp at hlo
 |some lo=>
  simp at hlo;have hlv:=hg.rd lo;rw[hlo]at hlv;obtain⟨te,hu,⟨inf,z,Aw,tH,_⟩,_⟩:=C4 hE hT;obtain⟨g',nE⟩:=hg.take x;rw[rK]at nE;simp only[cG]at nE;cases pt:sub xs p xs.length with
  |none=>rw[pt]at hk;cases hk
  |some Mo=>
   rw[pt]at hk;simp only[aa]at hk;obtain⟨h1,h2,_,rfl⟩:=L4 pt;obtain⟨fp,eQ,DA,hl⟩:=nE.hands 0 _ _ rfl;have gO:=(eC eQ).1;obtain⟨bo,cap,hv,FU,jZ,FW,aj2,PF⟩:=adI gO (n:=p.toNat) (by omega);have ed:(execOp a.eval o).run P w=.ok (.value (.slice (if cap=p.toNat then bo else bo.map (·.add (p.toNat*e.size))) (xs.length-p.toNat) (cap-p.toNat))) w:=by
    have hb:(Instr.sliceBounds true xs.length cap (some (a.eval lo)) none none).run P w=.ok (p.toNat,xs.length,cap) w:=by have hp2:p<=(xs.length:Int):=h2;simp[Instr.sliceBounds,Instr.sliceBound,asIntOf,iQ hlv,h1,hp2]
    simp only[execOp,ho,hv,Instr.sliceAt,Instr.slice,underlying,Option.map_none,de,Sem.run_bind,run_program,hu,Result.andThen_ok,Sem.run_pure,hb,sizeOf,typeInfo,Aw,tH]
   have Ab:(xs.take ((xs.length:Int).toNat)).drop p.toNat=xs.drop p.toNat:=by rw[aA,eo]
   rw[Ab]at hk;refine⟨_,_,_,.inl ed,?_,hk⟩;refine nE.LC o.dst (hw':=g'.hw) (fp:=jZ) (Fr.refl _ _) (λ_ _ _ _=>rfl) (λ_ _ _ ho hu=>⟨ho,hu⟩) FW (PF DA) (λb hb=>?_);have:=hl b (aj2 b hb);exact⟨(nE.fY b _ this).1,.inl (by rw[this];rfl)⟩
 cases hk;cases hk
theorem WQ {E:Env}(hE:jk P E.ty){an:An}{o:Oper}{lo hi:ay Operand}(ho:o.op=.slice T x lo hi none)(h:ij C st a w){K:AS->ay R}(hk:yV E an o T x lo hi st K=some r):mz P C o a w K r:=by
 obtain⟨g,hg⟩:=id h;have tI:=hg.fresh (hg.rd x);unfold yV at hk;split at hk;exact LQ hE ho h hk;split at hk;rename_i s hx;rw[hx]at tI;split at hk;rename_i hT;have hu:=Qw hE hT;have hv:=(eC tI).1;obtain⟨p,q,PE,ed⟩:=J9 (P:=P) (w:=w) hg (aS s.length) hk false;cases pt:sub s p q with|none=>rw[pt]at PE;cases PE|some s'=>rw[pt]at PE;simp only[aa]at PE;obtain⟨h1,h2,h3,rfl⟩:=L4 pt;have hb:=ed h1 h2 h3;refine tO h _ _ ?_ (JT _) PE;simp only[execOp,ho,hv,Instr.sliceAt,Instr.slice,underlying,Option.map_none,Sem.run_bind,run_program,hu,Result.andThen_ok,Sem.run_pure,wc,hb,Option.isSome_none,aY,bW,extract_mk]
 cases hk;rename_i fl e xs hx;rw[hx]at tI;split at hk;rename_i hT;obtain⟨hT,oz⟩:=hT;obtain⟨te,hu,⟨inf,z,Aw,tH,_⟩,_⟩:=C4 hE hT;have hc:=eC tI
 have key:∀(S:Nat->Nat->Prop),jc w S (.sl e) [a.eval x] xs->(∀(p q:Int)(bo:ay Addr)(cap:Nat),0<=p->p<=q->q<=xs.length->xs.length<=cap->a.eval x=.slice bo xs.length cap->
  jc w S (.sl e) [.slice (if cap=p.toNat then bo else bo.map (·.add (p.toNat*e.size))) (q.toNat-p.toNat) (cap-p.toNat)] ((xs.take q.toNat).drop p.toNat)->
  gK (cM C g st w) (.slice (if cap=p.toNat then bo else bo.map (·.add (p.toNat*e.size))) (q.toNat-p.toNat) (cap-p.toNat)) (.sl (Lu an o fl p) e ((xs.take q.toNat).drop p.toNat)) [])->mz P C o a w K r:=by
  intro S FY hmk
  have FU:∃bo cap,a.eval x=.slice bo xs.length cap/\xs.length<=cap:=by obtain⟨bo,cap,hv,hc,_⟩:=X9 FY (x:=0) (y:=0) (aS _) (bU _);exact⟨bo,cap,hv,hc⟩
  obtain⟨bo,cap,hv,FU⟩:=FU
  obtain⟨p,q,PE,ed⟩:=J9 (P:=P) (w:=w) hg FU hk true
  cases pt:sub xs p q with
  |none=>rw[pt]at PE;cases PE
  |some Mo=>
   rw[pt]at PE
   simp only[aa]at PE
   obtain⟨h1,h2,h3,rfl⟩:=L4 pt
   have hb:=ed h1 h2 h3
   obtain⟨bo',ao7,PJ,_,acV⟩:=X9 FY (x:=p.toNat) (y:=q.toNat) (by omega) (by omega)
   rw[hv]at PJ
   simp only[Value.slice.injEq,true_and]at PJ
   obtain⟨rfl,rfl⟩:=PJ
   refine⟨.slice (if cap=p.toNat then bo else bo.map (·.add (p.toNat*e.size))) (q.toNat-p.toNat) (cap-p.toNat),w,_,.inl ?_,⟨g,hg.quiet o.dst (mq (hmk p q _ _ h1 h2 h3 FU hv acV))⟩,PE⟩
   simp only[execOp,ho,hv,Instr.sliceAt,Instr.slice,underlying,Option.map_none,Sem.run_bind,run_program,hu,Result.andThen_ok,Sem.run_pure,hb,sizeOf,typeInfo,Aw,tH]
 cases fl with
 |own t=>cases oz
 |nest _ _ _ _ _ _=>cases oz
 |part _ _ _ _=>cases oz
 |fi _ _ _=>cases oz
 |arg _=>exact key _ hc.2 (λp q bo cap _ _ _ _ _ hr=>by simp only[Lu,qd.bare];exact⟨rfl,hr⟩)
 |loc ep pv=>
  have xh:ep=st.ep:=by simpa[qd.live]using oz
  refine key _ (hc.2.2.2.1 xh) (λp q bo cap hp hpq hq FU hv hr=>?_);have hlen:((xs.take q.toNat).drop p.toNat).length=q.toNat-p.toNat:=by simp;omega
  have plain:gK (cM C g st w) (.slice (if cap=p.toNat then bo else bo.map (·.add (p.toNat*e.size))) (q.toNat-p.toNat) (cap-p.toNat)) (.sl (.loc ep none) e ((xs.take q.toNat).drop p.toNat)) []:=⟨rfl,hc.2.1,⟨_,_,_,rfl,hlen.symm⟩,λ_=>hr,by simp⟩
  rcases aat (an:=an) (o:=o) (ep:=ep) (pv:=pv) (p:=p)with hpf|⟨rt,t,rfl,hpf⟩;rw[hpf];exact plain;rw[hpf];refine⟨rfl,hc.2.1,⟨_,_,_,rfl,hlen.symm⟩,λ_=>?_⟩;have Ed:=hc.2.2.2.2 rt t rfl;refine⟨Ed.1,?_⟩;by_cases hz:q.toNat-p.toNat=0;exact .inl (bV (by rw[hlen];exact hz));right;obtain⟨u,hu,FY⟩:=hc.2.2.2.1 xh;simp at hu;rcases FY with⟨_,rfl⟩|⟨b,o0,Uu,PK,Vq,_⟩;simp at hlen;omega;rw[<-hu,hv]at PK;simp only[Value.slice.injEq,true_and]at PK;obtain⟨rfl,rfl⟩:=PK;refine⟨p.toNat,b,o0,xs.length,cap,cap-p.toNat,by omega,by rw[<-Ed.2,hv],by rw[hlen];omega,?_⟩;rw[lv,hlen];simp[mV]
 cases hk;cases hk
theorem Q6 {E:Env}(hE:jk P E.ty)(h:E.bytes T=true):∃te,P.underlying T=some (.slice te)/\P.underlying te=some (.int .u8):=by unfold Env.bytes at h;split at h;rename_i te n hT;split at h;rename_i jJ hte;obtain⟨te',hu,_,ho⟩:=(hE T _ hT).sl _ rfl rfl;have:=ho te n rfl;subst this;exact⟨te,hu,(hE te _ hte).int _ rfl rfl⟩;cases h;cases h
theorem aaE {w:World}{S:Nat->Nat->Prop}{xs:cZ}(h:jc w S (.sl (.int .u8)) [v] xs): ((∃a,v=.slice a 0 0)/\xs=[])\/∃b o cap,v=.slice (some ⟨b,o,none⟩) xs.length cap/\∀i,i<xs.length->w.cell? ⟨b,o+i,none⟩=some (.int .u8 (xs.getD i 0)):=by obtain⟨u,hu,h⟩:=h;simp at hu;subst hu;rcases h with h|⟨b,o,cap,hv,_,h⟩;exact .inl h;refine .inr ⟨b,o,cap,hv,λi hi=>?_⟩;obtain⟨cs,Hv,hr⟩:=h i xs[i] (aq hi);have hr':cs=[.int .u8 xs[i]]:=hr;subst hr';have:=(Hv 0 _ rfl).2;simp only[CT.size,mW,dT]at this;rw[this];simp[List.getD,aq hi]
theorem OT {E:Env}(hE:jk P E.ty){o:Oper}{src dst:TypeId}(ho:o.op=.convert src dst x)(h:ij C st a w){K:AS->ay R}(hk:lF E o src dst x st K=some r):mz P C o a w K r:=by
 obtain⟨g,hg⟩:=id h;have tI:=hg.rd x;have fin:∀v w',(convert src dst (a.eval x)).run P w=.ok v w'->(execOp a.eval o).run P w=.ok (.value v) w':=by intro v w' hr;simp only[execOp,ho];show(convert src dst (a.eval x)>>=λv=>pure (Next.value v)).run P w=_;rw[Sem.run_bind,hr];rfl
 have under:∀(T:TypeId)(sh:Shape),ja E.ty T=some sh->∃d,P.underlying T=some d:=by
  intro T sh hT;have mB:=hE T sh hT;cases JL:sh.agg with
  |true=>obtain⟨fs,hu,_⟩:=mB.agg JL;exact⟨_,hu⟩
  |false=>
   cases ID:sh.ct with
   |int k=>exact⟨_,mB.int k ID JL⟩
   |bool=>exact⟨_,mB.bool ID JL⟩
   |str=>exact⟨_,mB.str ID JL⟩
   |sl e=>obtain⟨te,hu,_⟩:=mB.sl e ID JL;exact⟨_,hu⟩
   |pair p q=>have:=mB.pair p q ID;rw[JL]at this;cases this
 unfold lF at hk;split at hk;rename_i ssh k jJ k' n hs hd hx;rw[hx]at tI;obtain⟨ds,hus⟩:=under _ _ hs;have hud:=(hE dst _ hd).int k rfl rfl;refine tO h _ _ (fin (.int k (k.wrap n)) w ?_) (ki _ _) hk;rw[iQ tI];simp only[convert,underlying,Sem.run_bind,run_program,hus,hud,Result.andThen_ok,Sem.run_pure];rfl;rename_i jJ ao5 s hs hd hx;rw[hx]at tI;have hus:=(hE src _ hs).str rfl rfl;have hud:=(hE dst _ hd).str rfl rfl;refine tO h _ _ (fin (.string ⟨s.toArray⟩) w ?_) (JT _) hk;rw[(eC tI).1];simp only[convert,underlying,Sem.run_bind,run_program,hus,hud,Result.andThen_ok,Sem.run_pure];rename_i jJ sh s Jr hs hd hx;rw[hx]at tI;split at hk;rename_i hb;unfold room at hk;split at hk;obtain⟨te,hu,hte⟩:=Q6 hE hb;have hus:=(hE src _ hs).str rfl rfl;have ed:=run_bytes_of_string (P:=P) w src dst te ⟨s.toArray⟩ hus hu hte;rw[<-(eC tI).1,wc]at ed;refine⟨_,_,_,.inl (fin _ _ ed),?_,hk⟩;have yZ:=grownCap_ge w s.length 0 te;have tH:(bytesRow ⟨s.toArray⟩ (grownCap w s.length 0 te)).size=grownCap w s.length 0 te*CT.size (.int .u8):=by simp only[bytesRow,Array.size_append,Array.size_map,Array.size_replicate,wc,CT.size];simp;omega
 have rK:(bytesRow ⟨s.toArray⟩ (grownCap w s.length 0 te)).toList.take ((dk s).length*CT.size (.int .u8))=(dk s).map (Value.int .u8):=by simp only[bytesRow,dk,CT.size,Array.toList_append,Array.toList_map];rw[List.take_append_of_le_length (by simp)];rw[bI (by simp)];simp
 have CC:kt g.hw w (.int .u8) ((bytesRow ⟨s.toArray⟩ (grownCap w s.length 0 te)).toList.take ((dk s).length*CT.size (.int .u8))) (dk s) (List.replicate s.length []):=by
  rw[rK];refine⟨by simp[CT.size],by simp[dk],λi y f hy hf=>?_⟩;have hi:i<(dk s).length:=(aG.1 hy).1;have hf':f=[]:=by rw[dX]at hf;split at hf<;>simp at hf;exact hf
  subst hf';refine⟨?_,rfl⟩;apply cA;intro j;rw[jf];simp only[CT.size,mW];cases j with|zero=>simp[hy]|succ j=>simp
 have hlen:(dk s).length=s.length:=by simp[dk]
 have:=hg.Lp o.dst (T:=te) (fr:=((bytesRow ⟨s.toArray⟩ (grownCap w s.length 0 te)).size,(bytesRow ⟨s.toArray⟩ (grownCap w s.length 0 te)).size+1)) (cap:=grownCap w s.length 0 te) (.inr rfl) (by intro j hj hc;simp only at hc;omega) tH (by rw[hlen];exact yZ) CC (by simp) (by simp);rw[hlen]at this;exact this;cases hk;cases hk;rename_i ssh jJ fl xs hs hd hx;rw[hx]at tI;split at hk;rename_i hb;obtain⟨hb,oz⟩:=hb;obtain⟨te,hu,hte⟩:=Q6 hE hb;have hud:=(hE dst _ hd).str rfl rfl;have hc:=eC tI;have FY:∃S,jc w S (.sl (.int .u8)) [a.eval x] xs:=by
  cases fl with
  |own t=>cases oz
  |nest _ _ _ _ _ _=>cases oz
  |part _ _ _ _=>cases oz
  |fi _ _ _=>cases oz
  |arg _=>exact⟨_,hc.2⟩
  |loc ep pv=>
   have xh:ep=st.ep:=by simpa[qd.live]using oz
   exact⟨_,hc.2.2.2.1 xh⟩
 obtain⟨S,FY⟩:=FY;refine tO h _ _ (fin (.string ⟨(aL xs).toArray⟩) w ?_) (JT _) hk;rcases aaE FY with⟨⟨ad,hv⟩,rfl⟩|⟨b,ob,cap,hv,Au⟩;cases ad with|none=>rw[hv,run_convert_bytes_nil w src te hu hte 0 0 dst hud];rfl|some ad=>rw[hv];exact run_convert_bytes_back w src dst te ad 0 [] hu hte hud (λj hj=>by simp at hj)
 rw[hv,run_convert_bytes_arg w src te hu hte b ob xs.length cap xs rfl Au dst hud];rfl;cases hk;cases hk
end Go.Dn
