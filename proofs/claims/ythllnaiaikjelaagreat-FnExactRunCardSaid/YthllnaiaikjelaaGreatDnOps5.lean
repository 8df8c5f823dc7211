import Derived.Test.YthllnaiaikjelaaGreatDnOps4
import Derived.Laws.MakeOwn
import Derived.Laws.IdiomStrings
import Derived.Laws.BytesArg
/- Part 5: tuples, parts of slices, conversions, structs and slices that are built. -/
namespace Go.Dn
open Go.RowKit
variable {P:Program} {C:Ctx} {st:AS} {a:Act} {w:World} {R:Type} {r:R}
variable {arr:Array Value} {e:CT} {g:Gh} {cap:Nat} {fr:Nat×Nat} {hw:Nat->Nat} {x:Operand} {T:TypeId} {hs:ar (Value×AV)} {fps:ar ei} {news:iW}
theorem uy.at {c:RC}:∀{ws:iW}{ts:ar (Bool×ar AC)}{fp:ei},gj.uy c ws ts fp->∀{i:Nat}{g:Bool}{cs:ar AC},ts[i]?=some (g,cs)->
 ∃v f1 f2 f3,ws[i]?=some v/\fp=f1++f2++f3/\(∃us,Cut g v us/\bE c us cs f2)/\
  ∀c':RC,c.Le c'->(∀b∈f1++f3,c'.w.heap[b]?=c.w.heap[b]?/\c'.hw b=c.hw b)->∀pb,(∃us,Cut g v us/\bE c' us pb [])->gj.uy c' ws (ts.set i (g,pb)) (f1++f3)
 |[],[],_,_,i,g,cs,h=>by simp at h
 |w::ws,t::ts,_,r,0,g,cs,h=>by obtain⟨f1,f2,rfl,r1,r2⟩:=r;simp at h;subst h;exact⟨w,[],f1,f2,rfl,by simp,r1,λc' hle hb pb IX=>⟨[],f2,rfl,IX,uy.mono hle r2 (λb ig=>hb b (by simpa using ig))⟩⟩
 |w::ws,t::ts,_,r,i+1,g,cs,h=>by obtain⟨f1,f2,rfl,r1,r2⟩:=r;obtain⟨v,g1,g2,g3,hv,rfl,hr,IA⟩:=uy.at r2 (i:=i) (by simpa using h);refine⟨v,f1++g1,g2,g3,by simpa using hv,by simp,hr,λc' hle hb pb IX=>?_⟩;obtain⟨us,eP,ee⟩:=r1;rw[aX];refine⟨f1,g1++g3,rfl,⟨us,eP,ee.mono hle (λb ig=>hb b (by simp[ig]))⟩,?_⟩;exact IA c' hle (λb ig=>hb b (by rcases aA.1 ig with k|k<;>simp[k])) pb IX
 |[],_::_,_,r,_,_,_,_=>r.elim
 |_::_,[],_,r,_,_,_,_=>r.elim
theorem Z4 {o:Oper}{t i:Nat}(ho:o.op=.extract (.tmp t) i)(h:pL C st a w){K:AS->au R}(hk:nQ o t i st K=some r):pa P C o a w K r:=by
 obtain⟨g,h⟩:=h;unfold nQ at hk;split at hk;rename_i ts hg;split at hk;rename_i gg cs hn;rw[dY]at hn;have htl:t<st.slots.length:=by
  rcases bS t st.slots.length with iJ|Fp;exact iJ;have:st.get t=.bot:=by simp[AS.get,dY,bL Fp]
  rw[this]at hg;cases hg
 obtain⟨fp,hr,J0,hl⟩:=h.slot t;rw[hg]at hr;obtain⟨ws,hv,hr⟩:=hr;obtain⟨v,f1,f2,f3,hwv,rfl,Yo,IA⟩:=uy.at hr hn;have ez:(execOp a.eval o).run P w=.ok (.value v) w:=by have he:a.eval (.tmp t)=.tuple ws.toArray:=hv;simp[execOp,ho,he,Instr.extract,hwv]
 have aae:=J0;rw[aX]at aae;have n1:=aG.1 aae;have n2:=aG.1 n1.2.1;let W5:AV:=.Af (iQ ts i (gg,bc 0 cs));let st':AS:=st.put (some t) W5;let g':Gh:={g with eC:=λb=>if b∈f2 then some (.hand 0) else g.eC b}
 have hle:(cP C g st w).Le (cP C g' st' w):=by have:= @aav C g st w (some t) W5;exact⟨this.A,this.hdr,this.abI,this.ep,this.QF,this.akj⟩
 have hlk:∀b y,g.eC b=some y->b∉f2->g'.eC b=some y:=by intro b y hb hm;show(if b∈f2 then _ else _)=_;rw[aK hm];exact hb
 have TG:∀b y,y≠ .slot t->g.eC b=some y->b∉f2:=λb y hy hb hm=>hy (by have:=hl b (by simp[hm]);rw[hb]at this;simpa using this);have aqK:dN C g' st' a w [(v,.val gg cs)]:=by
  refine h.step (λy=>y≠ .slot t) hle h.defers (by show _=(st.put (some t) W5).slots.length;rw[gi,aL];exact h.size) (by show(st.put (some t) W5).boxes.length=(st.put (some t) W5).slots.length;rw[mx,gi,aL];exact h.bsize) h.frame ?_ (λb y hy hb=>⟨hlk b y hb (TG b y hy hb),rfl,rfl⟩) ?_ ?_ ?_ (.inl ⟨by simp,RU⟩);intro b y hy;have Yq:(if b∈f2 then some (ki.hand 0) else g.eC b)=some y:=hy;by_cases hm:b∈f2;exact h.fW b _ (hl b (by simp[hm]));rw[aK hm]at Yq;exact h.fW b y Yq;intro j bv hj;have hj':(st.slots.set t W5)[j]?=some bv:=by rw[<-gi];exact hj
  by_cases hjt:j=t;subst hjt;rw[bu]at hj';simp only[cd,htl]at hj';simp at hj';subst hj';refine .inr ⟨f1++f3,⟨ws,hv,?_⟩,?_,?_⟩;rw[fE];obtain⟨us,eP,ee⟩:=Yo;refine IA _ hle (λb _=>⟨rfl,rfl⟩) _ ⟨us,eP,?_⟩;exact(ee.aht).mono hle (by simp);refine aG.2 ⟨n1.1,n2.2.1,?_⟩;rintro b hb c hc rfl;exact n1.2.2 b hb b (bh _ hc) rfl;intro b hb;refine hlk b _ (hl b (by rcases aA.1 hb with k|k<;>simp[k])) (λhm=>?_);rcases aA.1 hb with k|k;exact n1.2.2 b k b (br _ hm) rfl;exact n2.2.2 b hm b k rfl;rw[aZ (cX hjt)]at hj';exact .inl ⟨by simpa using hjt,hj',rfl⟩;intro s pb hb;have ig:st.boxes[s]?=some (some pb):=by rw[<-mx (d:=some t) (v:=W5)];exact hb
  exact .inl ⟨by simp,ig,rfl⟩;intro k u bv Mk;cases k with
  |zero=>simp only[cL,bf,Prod.mk.injEq]at Mk;obtain⟨rfl,rfl⟩:=Mk;obtain⟨us,eP,ee⟩:=Yo;refine .inr ⟨f2,⟨us,eP,ee.mono hle (λb _=>⟨rfl,rfl⟩)⟩,n2.1,λb hb=>?_⟩;show(if b∈f2 then _ else _)=_;rw[aM hb]
  |succ k=>simp at Mk
 exact⟨v,w,_,.inl ez,dN.KB aqK o.dst,hk⟩;cases hk;cases hk
def mn (hw:Nat->Nat)(w:World)(e:CT)(news:iW)(ys:ar e.D)(fps:ar ei):Prop:=
 news.length=ys.length*e.size/\fps.length=ys.length/\∀(i:Nat)(y:e.D)(f:ei),ys[i]?=some y->fps[i]?=some f->eU hw w e ((news.drop (i*e.size)).take e.size) y f
theorem mn.append {w:World}{n1 n2:iW}{xs ys:ar e.D}{f1 f2:ar ei}(h1:mn hw w e n1 xs f1)(h2:mn hw w e n2 ys f2): mn hw w e (n1++n2) (xs++ys) (f1++f2):=by
 obtain⟨a1,a2,a3⟩:=h1;obtain⟨b1,b2,b3⟩:=h2;refine⟨by rw[ay,ay,a1,b1,cx],by simp[a2,b2],λi y f hy hf=>?_⟩;by_cases hi:i<xs.length;rw[bI hi]at hy;rw[bI (by omega)]at hf;have hm:(i+1)*e.size<=xs.length*e.size:=cD _ hi;rw[cx,eH]at hm;have:=a3 i y f hy hf;have e1:((n1++n2).drop (i*e.size)).take e.size=(n1.drop (i*e.size)).take e.size:=by rw[List.drop_append_of_le_length (by omega),List.take_append_of_le_length (by rw[bl];omega)]
 rw[e1];exact this;rw[bw (by omega)]at hy;rw[bw (by omega),a2]at hf;have:=b3 _ y f hy hf;have Fp:xs.length*e.size<=i*e.size:=cD _ (by omega);have e1:(n1++n2).drop (i*e.size)=n2.drop ((i-xs.length)*e.size):=by rw[List.drop_append,dk (by omega),bH,a1,Nat.sub_mul]
 rw[e1];exact this
theorem mn.mono {hw':Nat->Nat}{w w':World}{ys:ar e.D}(h:mn hw w e news ys fps)(hk:∀b∈fps.flatten,w'.heap[b]?=w.heap[b]?/\hw' b=hw b):mn hw' w' e news ys fps:=⟨h.1,h.2.1,λi y f hy hf=>eU.mono (h.2.2 i y f hy hf) λb hb=>hk b (List.mem_flatten.2 ⟨f,bM hf,hb⟩)⟩
theorem mn.nil (hw:Nat->Nat)(w:World)(e:CT):mn hw w e [] [] []:=⟨by simp,rfl,by simp⟩
theorem mn.py {w:World}{ys:ar e.D}(h:mn hw w e news ys fps):∀v∈news,v.oneCell'=true:=by
 intro v hv;obtain⟨j,hj,hjv⟩:=List.mem_iff_getElem.1 hv;have ajc:=e.size_pos;have hi:j/e.size<ys.length:=by rw[Nat.div_lt_iff_lt_mul ajc];rw[<-h.1];exact hj
 have fB:=h.2.2 (j/e.size) _ _ (al hi) (al (by rw[h.2.1];exact hi));refine eU.py fB v ?_;rw[List.mem_iff_getElem?];refine⟨j%e.size,?_⟩;rw[ky,aM (Nat.mod_lt _ ajc),Nat.mul_comm,Nat.div_add_mod,al hj,hjv]
theorem ags {w:World}{b o0:Nat}{xs:ar e.D}(hb:w.heap[b]?=some (.cells arr T fr))(uI:tp arr fr)(hs:arr.size=o0+cap*e.size)(hc:xs.length<=cap)(hh:hw b=o0+xs.length*e.size)(Mi:mn hw w e ((arr.toList.drop o0).take (xs.length*e.size)) xs fps): eU hw w (.sl e) [.slice (some ⟨b,o0,none⟩) xs.length cap] xs (b::fps.flatten):=by
 refine⟨_,rfl,.inr ⟨b,o0,cap,arr,T,fr,fps,rfl,hb,uI,hs,hc,hh,rfl,Mi.2.1,λi x f hx hf=>?_⟩⟩;have:=Mi.2.2 i x f hx hf;have hi:i<xs.length:=(aJ.1 hx).1;have hm:(i+1)*e.size<=xs.length*e.size:=cD _ hi;rw[cx,eH]at hm;have e1:(((arr.toList.drop o0).take (xs.length*e.size)).drop (i*e.size)).take e.size=(arr.toList.drop (o0+i*e.size)).take e.size:=by apply cW;intro j;rw[ky,ky,ky];by_cases hj:j<e.size;rw[aM hj,aM hj,zip,fZ];rw[aK hj,aK hj]
 rw[e1]at this;exact this
theorem Sb {w:World}{o0:Nat}{xs:ar e.D}(hs:arr.size=o0+cap*e.size)(hc:xs.length<=cap)(hl:fps.length=xs.length)(h:∀(i:Nat)(x:e.D)(f:ei),xs[i]?=some x->fps[i]?=some f->eU hw w e ((arr.toList.drop (o0+i*e.size)).take e.size) x f):mn hw w e ((arr.toList.drop o0).take (xs.length*e.size)) xs fps:=by
 refine⟨?_,hl,λi x f hx hf=>?_⟩;have hal:(arr.toList.drop o0).length=cap*e.size:=by rw[bl,Array.length_toList,hs];omega
 rw[bm,hal];exact hG (cD _ hc);have hi:i<xs.length:=(aJ.1 hx).1;have hm:(i+1)*e.size<=xs.length*e.size:=cD _ hi;rw[cx,eH]at hm;have e1:(((arr.toList.drop o0).take (xs.length*e.size)).drop (i*e.size)).take e.size=(arr.toList.drop (o0+i*e.size)).take e.size:=by apply cW;intro j;rw[ky,ky,ky];by_cases hj:j<e.size;rw[aM hj,aM hj,zip,fZ];rw[aK hj,aK hj]
 rw[e1];exact h i x f hx hf
theorem Vc {w w':World}{S:Nat->Nat->Prop}:∀{e:CT}{vs:iW}{x:e.D},km w' S e vs x->e.flat=true->eU hw w e vs x []
 | .int _,_,_,h,_=>⟨h,rfl⟩
 | .bool,_,_,h,_=>⟨h,rfl⟩
 | .str,_,_,h,_=>⟨h,rfl⟩
 | .sl _,_,_,_,hf=>by cases hf
 | .pair a b,_,_,h,hf=>by obtain⟨v1,v2,rfl,h1,h2⟩:=h;simp only[CT.flat,ah]at hf;exact⟨v1,v2,[],[],rfl,rfl,Vc h1 hf.1,Vc h2 hf.2⟩
def Vn (hdr:Nat->Value)(t:au Nat)(v:Value):Nat->Value:=λu=>if t=some u then v else hdr u
theorem afB {hdr:Nat->Value}{d:au Nat}{v:Value}{t:Nat}(h:nr st t):Vn hdr (st.jb d 0) v t=hdr t:=by unfold Vn;rw[aK];intro e;exact(sX e).1 h
theorem dN.V8 (h:dN C g st a w hs)(d:au Nat){xs:ar e.D}{v:Value}{fp:ei}{w':World}{hw':Nat->Nat}(iA:Fr (λb=>dq (g.eC b)) w w')(GL:∀b x,g.eC b=some x->¬dq (some x)->hw' b=g.hw b)(P6:∀b o u,o<g.hw b->w.cell? ⟨b,o,none⟩=some u->o<hw' b/\w'.cell? ⟨b,o,none⟩=some u)(fB:eU hw' w' (.sl e) [v] xs fp)(hn:fp.Nodup)(HD:∀b∈fp,b<w'.heap.size/\(dq (g.eC b)\/w.heap.size<=b)): pL C (st.tj d e xs) (a.put d v) w':=by refine h.V7 d (st1:=st.fR d) (hdr':=Vn g.hdr (st.jb d 0) v) Qw zY HJ Gy (λt ht=>⟨J8 ht,afB ht⟩) iA GL P6 (oP ⟨fB,λt ht=>?_⟩) hn HD;refine⟨(sX ht).2.1,?_⟩;show v=Vn g.hdr (st.jb d 0) v t;unfold Vn;rw[aM ht]
theorem dN.VV (h:dN C g st a w hs)(d:au Nat){xs:ar e.D}{w':World}(hw:w'=w.alloc (.cells arr T fr)\/w'=w.drew.alloc (.cells arr T fr))(uI:tp arr fr)(hs0:arr.size=cap*e.size)(hc:xs.length<=cap)(Mi:mn g.hw w e (arr.toList.take (xs.length*e.size)) xs fps)(hn:fps.flatten.Nodup)(HD:∀b∈fps.flatten,dq (g.eC b)): pL C (st.tj d e xs) (a.put d (.slice (some ⟨w.heap.size,0,none⟩) xs.length cap)) w':=by
 have iA:Fr (λb=>dq (g.eC b)) w w':=by rcases hw with rfl|rfl;exact Fr.alloc _ _ _;exact(Fr.drew _ w).trans (Fr.alloc _ _ _) (λb _ hh=>hh)
 have acr:w'.heap[w.heap.size]?=some (.cells arr T fr):=by rcases hw with rfl|rfl;exact heap_alloc_new w _;exact heap_alloc_new w.drew _
 have xx:w'.heap.size=w.heap.size+1:=by rcases hw with rfl|rfl<;>simp
 have hold:∀b,b<w.heap.size->w'.heap[b]?=w.heap[b]?:=by intro b hb;rcases hw with rfl|rfl;exact heap_alloc_old w _ b hb;exact heap_alloc_old w.drew _ b hb
 have iJ:∀b∈fps.flatten,b<w.heap.size:=by intro b hb;have hh:=HD b hb;cases hx:g.eC b with|none=>rw[hx]at hh;cases hh|some x=>exact(h.fW b x hx).1
 let hw':Nat->Nat:=λb=>if b=w.heap.size then xs.length*e.size else g.hw b
 have fB:eU hw' w' (.sl e) [.slice (some ⟨w.heap.size,0,none⟩) xs.length cap] xs (w.heap.size::fps.flatten):=by refine ags (o0:=0) acr uI (by rw[cv];exact hs0) hc (by simp[hw']) (Mi.mono λb hb=>?_);have ig:=iJ b hb;exact⟨hold b ig,by simp[hw',iO ig]⟩
 refine h.V8 d (hw':=hw') (fp:=w.heap.size::fps.flatten) iA ?_ ?_ fB ?_ ?_;intro b x hx _;simp[hw',iO (h.fW b x hx).1];intro b o u ho hu;have hb:b<w.heap.size:=World.block_lt_of_cell? w _ hu;exact⟨by simp[hw',iO hb];exact ho,by rw[World.cell?_of_block (a:=⟨b,o,none⟩) (hold b hb)];exact hu⟩;exact di.2 ⟨λhm=>pP _ (iJ _ hm),hn⟩;intro b hb;rcases cq.1 hb with rfl|hb;exact⟨by omega,.inr (ba _)⟩;exact⟨by have:=iJ b hb;omega,.inl (HD b hb)⟩
theorem amV {z:Array Value}{c size i:Nat}(hz:z.size=size)(hi:i<c):((madeCells z (c*size)).toList.drop (i*size)).take size=z.toList:=by
 have hm:(i+1)*size<=c*size:=cD _ hi;rw[cx,eH]at hm;apply cW;intro j;rw[ky];by_cases hj:j<size;rw[aM hj,madeCells];have h1:i*size+j<c*size:=by omega
 simp only[Array.toList_map,Array.toList_range,List.getElem?_map,List.getElem?_range h1,dB];have aqA:(i*size+j)%z.size=j:=by rw[hz,Nat.mul_comm,Nat.mul_add_mod,Nat.mod_eq_of_lt hj]
 rw[aqA];simp[getElem!_pos,hz,hj];rw[aK hj,bL];simp[hz];omega
theorem VP {E:Env}(hE:kG P E.ty){o:Oper}{n c:Operand}(ho:o.op=.makeSlice T n c)(h:pL C st a w){K:AS->au R}(hk:rH E o T n c st K=some r):pa P C o a w K r:=by
 obtain⟨g,hg⟩:=id h;have hnv:=hg.rd n;have hcv:=hg.rd c;unfold rH at hk;split at hk;rename_i e len cap hT hn hc;rw[hn]at hnv;rw[hc]at hcv;split at hk;rename_i hlc;unfold room at hk;split at hk;rename_i N8;obtain⟨te,hu,⟨inf,z,Ja,xx,hby,hz,hzc⟩,_⟩:=MN hE hT;have NS:cap<=1073741824:=by omega
 have aqm:(inf.bytes:Int)*cap<=281474976710656:=by have h1:(inf.bytes:Int)*cap<=65536*cap:=Int.mul_le_mul_of_nonneg_right (by omega) (by omega);omega
 have ez:=run_make (P:=P) w T te inf z hu Ja hz .i64 .i64 len cap hlc.1 hlc.2 aqm (by omega);have Oa:(execOp a.eval o).run P w=.ok (.value (.slice (some ⟨w.heap.size,0,none⟩) len.toNat cap.toNat)) (w.alloc (.cells (madeCells z.cells (cap.toNat*inf.size)) te)):=by simp only[execOp,ho,jQ hnv,jQ hcv];show((Instr.makeSlice T (.int .i64 len) (.int .i64 cap))>>=λv=>pure (Next.value v)).run P w=_;rw[Sem.run_bind,ez];rfl
 have hzs:z.cells.size=e.size:=by rw[<-sO e,<-hzc];simp
 have hlen:(List.replicate len.toNat e.zero).length=len.toNat:=by simp
 have Mi:mn g.hw w e ((madeCells z.cells (cap.toNat*inf.size)).toList.take ((List.replicate len.toNat e.zero).length*e.size)) (List.replicate len.toNat e.zero) (List.replicate len.toNat []):=by
  refine Sb (o0:=0) (cap:=cap.toNat) (by rw[size_madeCells,xx,cv]) (by rw[hlen];omega) (by simp) (λi x f hx hf=>?_);have hi:i<len.toNat:=by have:=(aJ.1 hx).1;simpa using this
  rw[dE,aM hi]at hx hf;simp at hx hf;subst hx;subst hf;rw[xx,cv,amV hzs (by omega),hzc];exact M6 _ _ _
 refine⟨_,_,_,.inl Oa,?_,hk⟩;have:=hg.VV o.dst (T:=te) (fr:=(0,0)) (cap:=cap.toNat) (.inl rfl) (by intro j _;simp) (by rw[size_madeCells,xx]) (by rw[hlen];omega) Mi (by simp) (by simp);rw[hlen]at this;exact this;cases hk;cases hk;cases hk
theorem UJ {lo hi:au Operand}(hg:dN C g st a w []){n:Nat}(NS:n<=cap){K:Int->Int->au R}(hk:pe st lo hi n K=some r)(isS:Bool): ∃x y:Int,K x y=some r/\(0<=x->x<=y->y<=n->(Instr.sliceBounds isS n cap (lo.map a.eval) (hi.map a.eval) none).run P w=.ok (x.toNat,y.toNat,cap) w):=by
 unfold pe at hk;split at hk;rename_i h1 h2;have e1:lo=none:=by cases lo<;>simp at h1⊢
 have e2:hi=none:=by cases hi<;>simp at h2⊢
 subst e1;subst e2;exact⟨0,n,hk,λ_ _ _=>by simp[Instr.sliceBounds]⟩;rename_i k p h1 h2;have e2:hi=none:=by cases hi<;>simp at h2⊢
 subst e2;cases lo with|none=>simp at h1|some lo=>simp at h1;have hv:=hg.rd lo;rw[h1]at hv;refine⟨p,n,hk,λq1 q2 q3=>?_⟩;simp[Instr.sliceBounds,Instr.sliceBound,asIntOf,jQ hv,q1,q2]
 rename_i k p h1 h2;have e1:lo=none:=by cases lo<;>simp at h1⊢
 subst e1;cases hi with|none=>simp at h2|some hi=>simp at h2;have hv:=hg.rd hi;rw[h2]at hv;refine⟨0,p,hk,λq1 q2 q3=>?_⟩;simp[Instr.sliceBounds,Instr.sliceBound,asIntOf,jQ hv,show 0<=p by omega,show p<=(cap:Int) by omega]
 rename_i k p k' q h1 h2;cases lo with|none=>simp at h1|some lo=>cases hi with|none=>simp at h2|some hi=>simp at h1 h2;have hv:=hg.rd lo;have hv':=hg.rd hi;rw[h1]at hv;rw[h2]at hv';refine⟨p,q,hk,λq1 q2 q3=>?_⟩;simp[Instr.sliceBounds,Instr.sliceBound,asIntOf,jQ hv,jQ hv',q1,show 0<=q by omega,show q<=(cap:Int) by omega];intro iJ;omega
 cases hk
theorem extract_mk (s:ar UInt8)(x y:Nat):(ByteArray.mk s.toArray).extract x y=ByteArray.mk ((s.take y).drop x).toArray:=by apply ByteArray.ext;rw[ByteArray.data_extract];simp[List.extract_eq_take_drop,List.drop_take]
theorem WA {α:Type}{xs ys:ar α}{x y:Int}(h:sub xs x y=some ys):0<=x/\x<=y/\y<=(xs.length:Int)/\ys=(xs.take y.toNat).drop x.toNat:=by unfold sub at h;split at h;rename_i hc;simp at h;exact⟨hc.1,hc.2.1,hc.2.2,h.symm⟩;cases h
theorem aic {w:World}{S:Nat->Nat->Prop}{v:Value}{xs:ar e.D}(h:km w S (.sl e) [v] xs){x y:Nat}(hxy:x<=y)(hy:y<=xs.length): ∃bo cap,v=.slice bo xs.length cap/\xs.length<=cap/\km w S (.sl e) [.slice (if cap=x then bo else bo.map (·.add (x*e.size))) (y-x) (cap-x)] ((xs.take y).drop x):=by
 obtain⟨u,hu,h⟩:=h;simp at hu;subst hu;rcases h with⟨⟨ad,rfl⟩,rfl⟩|⟨b,o,cap,rfl,hc,h⟩;simp at hy;subst hy;have hx:x=0:=by omega
 subst hx;exact⟨ad,0,rfl,by simp,⟨_,rfl,.inl ⟨⟨ad,by simp⟩,by simp⟩⟩⟩;have hl:((xs.take y).drop x).length=y-x:=by simp;omega
 refine⟨some ⟨b,o,none⟩,cap,rfl,hc,⟨_,rfl,.inr ?_⟩⟩;by_cases hcx:cap=x;refine⟨b,o,cap-x,by rw[aM hcx,hl],by rw[hl];omega,λi z hz=>?_⟩;have:((xs.take y).drop x)=[]:=cQ (by rw[hl];omega);rw[this]at hz;simp at hz;refine⟨b,o+x*e.size,cap-x,by rw[aK hcx,hl];simp[pO],by rw[hl];omega,λi z hz=>?_⟩;have hz':xs[x+i]?=some z:=by rw[bR,dp]at hz;split at hz;exact hz;cases hz
 obtain⟨cs,RJ,hr⟩:=h (x+i) z hz';refine⟨cs,?_,hr⟩;have:o+x*e.size+i*e.size=o+(x+i)*e.size:=by rw[cx];omega
 rw[this];exact RJ
theorem anh {w:World}{v:Value}{xs:ar e.D}{fp:ei}(h:eU hw w (.sl e) [v] xs fp){n:Nat}(hn:n<=xs.length): ∃bo cap,v=.slice bo xs.length cap/\xs.length<=cap/\∃ji,eU hw w (.sl e) [.slice (if cap=n then bo else bo.map (·.add (n*e.size))) (xs.length-n) (cap-n)] (xs.drop n) ji/\(∀b∈ji,b∈fp)/\(fp.Nodup->ji.Nodup):=by
 obtain⟨u,hu,h⟩:=h;simp at hu;subst hu;rcases h with⟨⟨ad,rfl⟩,rfl,rfl⟩|⟨b,o0,cap,arr,T,fr,fps,rfl,hb,uI,hs,hc,hh,rfl,hl,hr⟩;simp at hn;subst hn;exact⟨ad,0,rfl,by simp,[],⟨_,rfl,.inl ⟨⟨ad,by simp⟩,rfl,rfl⟩⟩,by simp,by simp⟩;refine⟨some ⟨b,o0,none⟩,cap,rfl,hc,?_⟩;by_cases hcn:cap=n;have hx:xs.drop n=[]:=dk (by omega);refine⟨[],⟨_,rfl,.inl ⟨⟨some ⟨b,o0,none⟩,by rw[aM hcn,show xs.length-n=0 by omega,show cap-n=0 by omega]⟩,hx,rfl⟩⟩,by simp,by simp⟩;have hm1:cap*e.size=n*e.size+(cap-n)*e.size:=by rw[<-cx];congr 1;omega
 have hm2:xs.length*e.size=n*e.size+(xs.length-n)*e.size:=by rw[<-cx];congr 1;omega
 refine⟨b::(fps.drop n).flatten,⟨_,rfl,.inr ⟨b,o0+n*e.size,cap-n,arr,T,fr,fps.drop n,by rw[aK hcn];simp[pO],hb,uI,by omega,by simp;omega,by simp;omega,rfl,by simp[hl],λi x f hx hf=>?_⟩⟩,?_,?_⟩;rw[bR]at hx hf;have:=hr (n+i) x f hx hf;rwa[cx,<-fZ]at this;intro c IX;rcases cq.1 IX with rfl|IX;simp;obtain⟨l,hl1,ER⟩:=List.mem_flatten.1 IX;exact dK _ (List.mem_flatten.2 ⟨l,List.mem_of_mem_drop hl1,ER⟩);intro J0;have h1:=di.1 J0;have e1:fps.flatten=(fps.take n).flatten++(fps.drop n).flatten:=by rw[<-eE,cK]
 rw[e1]at h1;exact di.2 ⟨λhm=>h1.1 (by simp[hm]),(aG.1 h1.2).2.1⟩
theorem akg {an:An}{o:Oper}{ep:Nat}{pv:au (lW×Nat)}{p:Int}:VY an o (.loc ep pv) p=.loc ep none\/∃rt t,pv=some (rt,t)/\VY an o (.loc ep pv) p=.part ep rt t p:=by
 unfold VY;split;rename_i ep' r t d h _;cases h;cases an.nest.contains d with|false=>exact .inl rfl|true=>exact .inr ⟨_,_,rfl,rfl⟩
 exact .inl rfl
theorem Wk {E:Env}(hE:kG P E.ty){o:Oper}{lo hi:au Operand}(ho:o.op=.slice T x lo hi none)(h:pL C st a w){K:AS->au R}(hk:CU E o T x lo hi st K=some r):pa P C o a w K r:=by
 obtain⟨g,hg⟩:=h;unfold CU at hk;split at hk;rename_i tag e xs st' kd p xC hlo;split at hk;rename_i hT;cases lo with
 |none=>simp at hlo
 |some lo=>
  simp at hlo;have hlv:=hg.rd lo;rw[hlo]at hlv;obtain⟨te,hu,⟨inf,z,Ja,xx,_⟩,_⟩:=MN hE hT;obtain⟨g',oY⟩:=hg.take x;rw[xC]at oY;simp only[bH]at oY;cases ti:sub xs p xs.length with
  |none=>rw[ti]at hk;cases hk
  |some W2=>
   rw[ti]at hk;simp only[aa]at hk;obtain⟨h1,h2,_,rfl⟩:=WA ti;obtain⟨fp,ee,J0,hl⟩:=oY.hands 0 _ _ rfl;have fB:=(eI ee).1;obtain⟨bo,cap,hv,NS,ji,Jb,arU,aae⟩:=anh fB (n:=p.toNat) (by omega);have ez:(execOp a.eval o).run P w=.ok (.value (.slice (if cap=p.toNat then bo else bo.map (·.add (p.toNat*e.size))) (xs.length-p.toNat) (cap-p.toNat))) w:=by
    have hb:(Instr.sliceBounds true xs.length cap (some (a.eval lo)) none none).run P w=.ok (p.toNat,xs.length,cap) w:=by have hp2:p<=(xs.length:Int):=h2;simp[Instr.sliceBounds,Instr.sliceBound,asIntOf,jQ hlv,h1,hp2]
    simp only[execOp,ho,hv,Instr.sliceAt,Instr.slice,underlying,Option.map_none,dB,Sem.run_bind,run_program,hu,Result.andThen_ok,Sem.run_pure,hb,sizeOf,typeInfo,Ja,xx]
   have Fe:(xs.take ((xs.length:Int).toNat)).drop p.toNat=xs.drop p.toNat:=by rw[aw,bA]
   rw[Fe]at hk;refine⟨_,_,_,.inl ez,?_,hk⟩;refine oY.V8 o.dst (hw':=g'.hw) (fp:=ji) (Fr.refl _ _) (λ_ _ _ _=>rfl) (λ_ _ _ ho hu=>⟨ho,hu⟩) Jb (aae J0) (λb hb=>?_);have:=hl b (arU b hb);exact⟨(oY.fW b _ this).1,.inl (by rw[this];rfl)⟩
 cases hk;cases hk
theorem agG {E:Env}(hE:kG P E.ty){an:An}{o:Oper}{lo hi:au Operand}(ho:o.op=.slice T x lo hi none)(h:pL C st a w){K:AS->au R}(hk:Hu E an o T x lo hi st K=some r):pa P C o a w K r:=by
 obtain⟨g,hg⟩:=id h;have Ac:=hg.fresh (hg.rd x);unfold Hu at hk;split at hk;exact Wk hE ho h hk;split at hk;rename_i s hx;rw[hx]at Ac;split at hk;rename_i hT;have hu:=abe hE hT;have hv:=(eI Ac).1;obtain⟨p,q,hkk,ez⟩:=UJ (P:=P) (w:=w) hg (ba s.length) hk false;cases ti:sub s p q with|none=>rw[ti]at hkk;cases hkk|some s'=>rw[ti]at hkk;simp only[aa]at hkk;obtain⟨h1,h2,h3,rfl⟩:=WA ti;have hb:=ez h1 h2 h3;refine Ap h _ _ ?_ (Ui _) hkk;simp only[execOp,ho,hv,Instr.sliceAt,Instr.slice,underlying,Option.map_none,Sem.run_bind,run_program,hu,Result.andThen_ok,Sem.run_pure,DG,hb,Option.isSome_none,bg,cE,extract_mk]
 cases hk;rename_i fl e xs hx;rw[hx]at Ac;split at hk;rename_i hT;obtain⟨hT,sj⟩:=hT;obtain⟨te,hu,⟨inf,z,Ja,xx,_⟩,_⟩:=MN hE hT;have hc:=eI Ac
 have key:∀(S:Nat->Nat->Prop),km w S (.sl e) [a.eval x] xs->(∀(p q:Int)(bo:au Addr)(cap:Nat),0<=p->p<=q->q<=xs.length->xs.length<=cap->a.eval x=.slice bo xs.length cap->
  km w S (.sl e) [.slice (if cap=p.toNat then bo else bo.map (·.add (p.toNat*e.size))) (q.toNat-p.toNat) (cap-p.toNat)] ((xs.take q.toNat).drop p.toNat)->
  iD (cP C g st w) (.slice (if cap=p.toNat then bo else bo.map (·.add (p.toNat*e.size))) (q.toNat-p.toNat) (cap-p.toNat)) (.sl (VY an o fl p) e ((xs.take q.toNat).drop p.toNat)) [])->pa P C o a w K r:=by
  intro S P8 hmk
  have NS:∃bo cap,a.eval x=.slice bo xs.length cap/\xs.length<=cap:=by obtain⟨bo,cap,hv,hc,_⟩:=aic P8 (x:=0) (y:=0) (ba _) (eh _);exact⟨bo,cap,hv,hc⟩
  obtain⟨bo,cap,hv,NS⟩:=NS
  obtain⟨p,q,hkk,ez⟩:=UJ (P:=P) (w:=w) hg NS hk true
  cases ti:sub xs p q with
  |none=>rw[ti]at hkk;cases hkk
  |some W2=>
   rw[ti]at hkk
   simp only[aa]at hkk
   obtain⟨h1,h2,h3,rfl⟩:=WA ti
   have hb:=ez h1 h2 h3
   obtain⟨bo',aAK,hv',_,amp⟩:=aic P8 (x:=p.toNat) (y:=q.toNat) (by omega) (by omega)
   rw[hv]at hv'
   simp only[Value.slice.injEq,true_and]at hv'
   obtain⟨rfl,rfl⟩:=hv'
   refine⟨.slice (if cap=p.toNat then bo else bo.map (·.add (p.toNat*e.size))) (q.toNat-p.toNat) (cap-p.toNat),w,_,.inl ?_,⟨g,hg.quiet o.dst (oP (hmk p q _ _ h1 h2 h3 NS hv amp))⟩,hkk⟩
   simp only[execOp,ho,hv,Instr.sliceAt,Instr.slice,underlying,Option.map_none,Sem.run_bind,run_program,hu,Result.andThen_ok,Sem.run_pure,hb,sizeOf,typeInfo,Ja,xx]
 cases fl with
 |own t=>cases sj
 |nest _ _ _ _ _ _=>cases sj
 |part _ _ _ _=>cases sj
 |fL _ _ _=>cases sj
 |arg _=>exact key _ hc.2 (λp q bo cap _ _ _ _ _ hr=>by simp only[VY,ux.bare];exact⟨rfl,hr⟩)
 |loc ep pv=>
  have Cw:ep=st.ep:=by simpa[ux.live]using sj
  refine key _ (hc.2.2.2.1 Cw) (λp q bo cap hp hpq hq NS hv hr=>?_);have hlen:((xs.take q.toNat).drop p.toNat).length=q.toNat-p.toNat:=by simp;omega
  have plain:iD (cP C g st w) (.slice (if cap=p.toNat then bo else bo.map (·.add (p.toNat*e.size))) (q.toNat-p.toNat) (cap-p.toNat)) (.sl (.loc ep none) e ((xs.take q.toNat).drop p.toNat)) []:=⟨rfl,hc.2.1,⟨_,_,_,rfl,hlen.symm⟩,λ_=>hr,by simp⟩
  rcases akg (an:=an) (o:=o) (ep:=ep) (pv:=pv) (p:=p)with hpf|⟨rt,t,rfl,hpf⟩;rw[hpf];exact plain;rw[hpf];refine⟨rfl,hc.2.1,⟨_,_,_,rfl,hlen.symm⟩,λ_=>?_⟩;have N9:=hc.2.2.2.2 rt t rfl;refine⟨N9.1,?_⟩;by_cases hz:q.toNat-p.toNat=0;exact .inl (cQ (by rw[hlen];exact hz));right;obtain⟨u,hu,P8⟩:=hc.2.2.2.1 Cw;simp at hu;rcases P8 with⟨_,rfl⟩|⟨b,o0,abG,SX,hc2,_⟩;simp at hlen;omega;rw[<-hu,hv]at SX;simp only[Value.slice.injEq,true_and]at SX;obtain⟨rfl,rfl⟩:=SX;refine⟨p.toNat,b,o0,xs.length,cap,cap-p.toNat,by omega,by rw[<-N9.2,hv],by rw[hlen];omega,?_⟩;rw[ny,hlen];simp[pO]
 cases hk;cases hk
theorem abF {E:Env}(hE:kG P E.ty)(h:E.bytes T=true):∃te,P.underlying T=some (.slice te)/\P.underlying te=some (.int .u8):=by unfold Env.bytes at h;split at h;rename_i te n hT;split at h;rename_i lG hte;obtain⟨te',hu,_,ho⟩:=(hE T _ hT).sl _ rfl rfl;have:=ho te n rfl;subst this;exact⟨te,hu,(hE te _ hte).int _ rfl rfl⟩;cases h;cases h
theorem akm {w:World}{S:Nat->Nat->Prop}{v:Value}{xs:cI}(h:km w S (.sl (.int .u8)) [v] xs): ((∃a,v=.slice a 0 0)/\xs=[])\/∃b o cap,v=.slice (some ⟨b,o,none⟩) xs.length cap/\∀i,i<xs.length->w.cell? ⟨b,o+i,none⟩=some (.int .u8 (xs.getD i 0)):=by obtain⟨u,hu,h⟩:=h;simp at hu;subst hu;rcases h with h|⟨b,o,cap,hv,_,h⟩;exact .inl h;refine .inr ⟨b,o,cap,hv,λi hi=>?_⟩;obtain⟨cs,RJ,hr⟩:=h i xs[i] (al hi);have hr':cs=[.int .u8 xs[i]]:=hr;subst hr';have:=(RJ 0 _ rfl).2;simp only[CT.size,pQ,dZ]at this;rw[this];simp[List.getD,al hi]
theorem ZV {E:Env}(hE:kG P E.ty){o:Oper}{src dst:TypeId}(ho:o.op=.convert src dst x)(h:pL C st a w){K:AS->au R}(hk:nO E o src dst x st K=some r):pa P C o a w K r:=by
 obtain⟨g,hg⟩:=id h;have Ac:=hg.rd x;have fin:∀v w',(convert src dst (a.eval x)).run P w=.ok v w'->(execOp a.eval o).run P w=.ok (.value v) w':=by intro v w' hr;simp only[execOp,ho];show(convert src dst (a.eval x)>>=λv=>pure (Next.value v)).run P w=_;rw[Sem.run_bind,hr];rfl
 have under:∀(T:TypeId)(sh:Shape),jU E.ty T=some sh->∃d,P.underlying T=some d:=by
  intro T sh hT;have lg:=hE T sh hT;cases T8:sh.agg with
  |true=>obtain⟨fs,hu,_⟩:=lg.agg T8;exact⟨_,hu⟩
  |false=>
   cases SR:sh.ct with
   |int k=>exact⟨_,lg.int k SR T8⟩
   |bool=>exact⟨_,lg.bool SR T8⟩
   |str=>exact⟨_,lg.str SR T8⟩
   |sl e=>obtain⟨te,hu,_⟩:=lg.sl e SR T8;exact⟨_,hu⟩
   |pair p q=>have:=lg.pair p q SR;rw[T8]at this;cases this
 unfold nO at hk;split at hk;rename_i ssh k lG k' n hs hd hx;rw[hx]at Ac;obtain⟨ds,Xg⟩:=under _ _ hs;have hud:=(hE dst _ hd).int k rfl rfl;refine Ap h _ _ (fin (.int k (k.wrap n)) w ?_) (mh _ _) hk;rw[jQ Ac];simp only[convert,underlying,Sem.run_bind,run_program,Xg,hud,Result.andThen_ok,Sem.run_pure];rfl;rename_i lG aAI s hs hd hx;rw[hx]at Ac;have Xg:=(hE src _ hs).str rfl rfl;have hud:=(hE dst _ hd).str rfl rfl;refine Ap h _ _ (fin (.string ⟨s.toArray⟩) w ?_) (Ui _) hk;rw[(eI Ac).1];simp only[convert,underlying,Sem.run_bind,run_program,Xg,hud,Result.andThen_ok,Sem.run_pure];rename_i lG sh s TG hs hd hx;rw[hx]at Ac;split at hk;rename_i hb;unfold room at hk;split at hk;obtain⟨te,hu,hte⟩:=abF hE hb;have Xg:=(hE src _ hs).str rfl rfl;have ez:=run_bytes_of_string (P:=P) w src dst te ⟨s.toArray⟩ Xg hu hte;rw[<-(eI Ac).1,DG]at ez;refine⟨_,_,_,.inl (fin _ _ ez),?_,hk⟩;have Fp:=grownCap_ge w s.length 0 te;have xx:(bytesRow ⟨s.toArray⟩ (grownCap w s.length 0 te)).size=grownCap w s.length 0 te*CT.size (.int .u8):=by simp only[bytesRow,Array.size_append,Array.size_map,Array.size_replicate,DG,CT.size];simp;omega
 have xC:(bytesRow ⟨s.toArray⟩ (grownCap w s.length 0 te)).toList.take ((dc s).length*CT.size (.int .u8))=(dc s).map (Value.int .u8):=by simp only[bytesRow,dc,CT.size,Array.toList_append,Array.toList_map];rw[List.take_append_of_le_length (by simp)];rw[bN (by simp)];simp
 have Mi:mn g.hw w (.int .u8) ((bytesRow ⟨s.toArray⟩ (grownCap w s.length 0 te)).toList.take ((dc s).length*CT.size (.int .u8))) (dc s) (List.replicate s.length []):=by
  rw[xC];refine⟨by simp[CT.size],by simp[dc],λi y f hy hf=>?_⟩;have hi:i<(dc s).length:=(aJ.1 hy).1;have hf':f=[]:=by rw[dE]at hf;split at hf<;>simp at hf;exact hf
  subst hf';refine⟨?_,rfl⟩;apply cW;intro j;rw[ky];simp only[CT.size,pQ];cases j with|zero=>simp[hy]|succ j=>simp
 have hlen:(dc s).length=s.length:=by simp[dc]
 have:=hg.VV o.dst (T:=te) (fr:=((bytesRow ⟨s.toArray⟩ (grownCap w s.length 0 te)).size,(bytesRow ⟨s.toArray⟩ (grownCap w s.length 0 te)).size+1)) (cap:=grownCap w s.length 0 te) (.inr rfl) (by intro j hj hc;simp only at hc;omega) xx (by rw[hlen];exact Fp) Mi (by simp) (by simp);rw[hlen]at this;exact this;cases hk;cases hk;rename_i ssh lG fl xs hs hd hx;rw[hx]at Ac;split at hk;rename_i hb;obtain⟨hb,sj⟩:=hb;obtain⟨te,hu,hte⟩:=abF hE hb;have hud:=(hE dst _ hd).str rfl rfl;have hc:=eI Ac;have P8:∃S,km w S (.sl (.int .u8)) [a.eval x] xs:=by
  cases fl with
  |own t=>cases sj
  |nest _ _ _ _ _ _=>cases sj
  |part _ _ _ _=>cases sj
  |fL _ _ _=>cases sj
  |arg _=>exact⟨_,hc.2⟩
  |loc ep pv=>
   have Cw:ep=st.ep:=by simpa[ux.live]using sj
   exact⟨_,hc.2.2.2.1 Cw⟩
 obtain⟨S,P8⟩:=P8;refine Ap h _ _ (fin (.string ⟨(aU xs).toArray⟩) w ?_) (Ui _) hk;rcases akm P8 with⟨⟨ad,hv⟩,rfl⟩|⟨b,ob,cap,hv,Fc⟩;cases ad with|none=>rw[hv,run_convert_bytes_nil w src te hu hte 0 0 dst hud];rfl|some ad=>rw[hv];exact run_convert_bytes_back w src dst te ad 0 [] hu hte hud (λj hj=>by simp at hj)
 rw[hv,run_convert_bytes_arg w src te hu hte b ob xs.length cap xs rfl Fc dst hud];rfl;cases hk;cases hk
end Go.Dn
