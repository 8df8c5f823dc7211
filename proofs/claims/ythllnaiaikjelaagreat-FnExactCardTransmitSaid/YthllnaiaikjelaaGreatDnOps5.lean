import Derived.Test.YthllnaiaikjelaaGreatDnOps4
import Derived.Laws.MakeOwn
import Derived.Laws.IdiomStrings
import Derived.Laws.BytesArg
/- Part 5: tuples, parts of slices, conversions, structs and slices that are built. -/
namespace Go.Dn
open Go.RowKit
variable {P:Program} {C:Ctx} {st:AS} {a:Act} {w:World} {R:Type} {r:R}
variable {arr:Array Value} {e:CT} {g:Gh} {cap:Nat} {fr:Nat×Nat} {hw:Nat->Nat} {x:Operand} {T:TypeId} {hs:aq (Value×AV)} {fps:aq dy} {news:gO}
theorem pX.at {c:RC}:∀{ws:gO}{ts:aq (Bool×aq AC)}{fp:dy},fA.pX c ws ts fp->∀{i:Nat}{g:Bool}{cs:aq AC},ts[i]?=some (g,cs)->
 ∃v f1 f2 f3,ws[i]?=some v/\fp=f1++f2++f3/\(∃us,Cut g v us/\bn c us cs f2)/\
  ∀c':RC,c.Le c'->(∀b∈f1++f3,c'.w.heap[b]?=c.w.heap[b]?/\c'.hw b=c.hw b)->∀mr,(∃us,Cut g v us/\bn c' us mr [])->fA.pX c' ws (ts.set i (g,mr)) (f1++f3)
 |[],[],_,_,i,g,cs,h=>by simp at h
 |w::ws,t::ts,_,r,0,g,cs,h=>by obtain⟨f1,f2,rfl,r1,r2⟩:=r;simp at h;subst h;exact⟨w,[],f1,f2,rfl,by simp,r1,λc' hle hb mr C9=>⟨[],f2,rfl,C9,pX.mono hle r2 (λb gA=>hb b (by simpa using gA))⟩⟩
 |w::ws,t::ts,_,r,i+1,g,cs,h=>by obtain⟨f1,f2,rfl,r1,r2⟩:=r;obtain⟨v,g1,g2,g3,hv,rfl,hr,Dt⟩:=pX.at r2 (i:=i) (by simpa using h);refine⟨v,f1++g1,g2,g3,by simpa using hv,by simp,hr,λc' hle hb mr C9=>?_⟩;obtain⟨us,dU,dx⟩:=r1;rw[aO];refine⟨f1,g1++g3,rfl,⟨us,dU,dx.mono hle (λb gA=>hb b (by simp[gA]))⟩,?_⟩;exact Dt c' hle (λb gA=>hb b (by rcases ay.1 gA with k|k<;>simp[k])) mr C9
 |[],_::_,_,r,_,_,_,_=>r.elim
 |_::_,[],_,r,_,_,_,_=>r.elim
theorem So {o:Oper}{t i:Nat}(ho:o.op=.extract (.tmp t) i)(h:mM C st a w){K:AS->ar R}(hk:lf o t i st K=some r):mq P C o a w K r:=by
 obtain⟨g,h⟩:=h;unfold lf at hk;split at hk;rename_i ts hg;split at hk;rename_i gg cs hn;rw[dv]at hn;have htl:t<st.slots.length:=by
  rcases bH t st.slots.length with gM|Ad;exact gM;have:st.get t=.bot:=by simp[AS.get,dv,br Ad]
  rw[this]at hg;cases hg
 obtain⟨fp,hr,El,hl⟩:=h.slot t;rw[hg]at hr;obtain⟨ws,hv,hr⟩:=hr;obtain⟨v,f1,f2,f3,hwv,rfl,QW,Dt⟩:=pX.at hr hn;have dD:(execOp a.eval o).run P w=.ok (.value v) w:=by have he:a.eval (.tmp t)=.tuple ws.toArray:=hv;simp[execOp,ho,he,Instr.extract,hwv]
 have SB:=El;rw[aO]at SB;have n1:=aB.1 SB;have n2:=aB.1 n1.2.1;let PO:AV:=.uT (gL ts i (gg,aR 0 cs));let st':AS:=st.put (some t) PO;let g':Gh:={g with dE:=λb=>if b∈f2 then some (.hand 0) else g.dE b}
 have hle:(cv C g st w).Le (cv C g' st' w):=by have:= @SV C g st w (some t) PO;exact⟨this.A,this.hdr,this.T9,this.ep,this.Kh,this.abJ⟩
 have WG:∀b y,g.dE b=some y->b∉f2->g'.dE b=some y:=by intro b y hb hm;show(if b∈f2 then _ else _)=_;rw[aG hm];exact hb
 have MA:∀b y,y≠ .slot t->g.dE b=some y->b∉f2:=λb y hy hb hm=>hy (by have:=hl b (by simp[hm]);rw[hb]at this;simpa using this);have ahx:dr C g' st' a w [(v,.val gg cs)]:=by
  refine h.step (λy=>y≠ .slot t) hle h.defers (by show _=(st.put (some t) PO).slots.length;rw[fz,bg];exact h.size) (by show(st.put (some t) PO).boxes.length=(st.put (some t) PO).slots.length;rw[ki,fz,bg];exact h.bsize) h.frame ?_ (λb y hy hb=>⟨WG b y hb (MA b y hy hb),rfl,rfl⟩) ?_ ?_ ?_ (.inl ⟨by simp,Lc⟩);intro b y hy;have QY:(if b∈f2 then some (iO.hand 0) else g.dE b)=some y:=hy;by_cases hm:b∈f2;exact h.ff b _ (hl b (by simp[hm]));rw[aG hm]at QY;exact h.ff b y QY;intro j bv hj;have hj':(st.slots.set t PO)[j]?=some bv:=by rw[<-fz];exact hj
  by_cases hjt:j=t;subst hjt;rw[bj]at hj';simp only[bF,htl]at hj';simp at hj';subst hj';refine .inr ⟨f1++f3,⟨ws,hv,?_⟩,?_,?_⟩;rw[eN];obtain⟨us,dU,dx⟩:=QW;refine Dt _ hle (λb _=>⟨rfl,rfl⟩) _ ⟨us,dU,?_⟩;exact(dx.Y9).mono hle (by simp);refine aB.2 ⟨n1.1,n2.2.1,?_⟩;rintro b hb c hc rfl;exact n1.2.2 b hb b (aX _ hc) rfl;intro b hb;refine WG b _ (hl b (by rcases ay.1 hb with k|k<;>simp[k])) (λhm=>?_);rcases ay.1 hb with k|k;exact n1.2.2 b k b (bh _ hm) rfl;exact n2.2.2 b hm b k rfl;rw[aS (cC hjt)]at hj';exact .inl ⟨by simpa using hjt,hj',rfl⟩;intro s mr hb;have gA:st.boxes[s]?=some (some mr):=by rw[<-ki (d:=some t) (v:=PO)];exact hb
  exact .inl ⟨by simp,gA,rfl⟩;intro k u bv Gk;cases k with
  |zero=>simp only[cm,aZ,Prod.mk.injEq]at Gk;obtain⟨rfl,rfl⟩:=Gk;obtain⟨us,dU,dx⟩:=QW;refine .inr ⟨f2,⟨us,dU,dx.mono hle (λb _=>⟨rfl,rfl⟩)⟩,n2.1,λb hb=>?_⟩;show(if b∈f2 then _ else _)=_;rw[aH hb]
  |succ k=>simp at Gk
 exact⟨v,w,_,.inl dD,dr.EV ahx o.dst,hk⟩;cases hk;cases hk
def ka (hw:Nat->Nat)(w:World)(e:CT)(news:gO)(ys:aq e.D)(fps:aq dy):Prop:=
 news.length=ys.length*e.size/\fps.length=ys.length/\∀(i:Nat)(y:e.D)(f:dy),ys[i]?=some y->fps[i]?=some f->dY hw w e ((news.drop (i*e.size)).take e.size) y f
theorem ka.append {w:World}{n1 n2:gO}{xs ys:aq e.D}{f1 f2:aq dy}(h1:ka hw w e n1 xs f1)(h2:ka hw w e n2 ys f2): ka hw w e (n1++n2) (xs++ys) (f1++f2):=by
 obtain⟨a1,a2,a3⟩:=h1;obtain⟨b1,b2,b3⟩:=h2;refine⟨by rw[au,au,a1,b1,bZ],by simp[a2,b2],λi y f hy hf=>?_⟩;by_cases hi:i<xs.length;rw[bu hi]at hy;rw[bu (by omega)]at hf;have hm:(i+1)*e.size<=xs.length*e.size:=cq _ hi;rw[bZ,dL]at hm;have:=a3 i y f hy hf;have e1:((n1++n2).drop (i*e.size)).take e.size=(n1.drop (i*e.size)).take e.size:=by rw[List.drop_append_of_le_length (by omega),List.take_append_of_le_length (by rw[bl];omega)]
 rw[e1];exact this;rw[bq (by omega)]at hy;rw[bq (by omega),a2]at hf;have:=b3 _ y f hy hf;have Ad:xs.length*e.size<=i*e.size:=cq _ (by omega);have e1:(n1++n2).drop (i*e.size)=n2.drop ((i-xs.length)*e.size):=by rw[List.drop_append,cP (by omega),cp,a1,Nat.sub_mul]
 rw[e1];exact this
theorem ka.mono {hw':Nat->Nat}{w w':World}{ys:aq e.D}(h:ka hw w e news ys fps)(hk:∀b∈fps.flatten,w'.heap[b]?=w.heap[b]?/\hw' b=hw b):ka hw' w' e news ys fps:=⟨h.1,h.2.1,λi y f hy hf=>dY.mono (h.2.2 i y f hy hf) λb hb=>hk b (List.mem_flatten.2 ⟨f,dw hf,hb⟩)⟩
theorem ka.nil (hw:Nat->Nat)(w:World)(e:CT):ka hw w e [] [] []:=⟨by simp,rfl,by simp⟩
theorem ka.mD {w:World}{ys:aq e.D}(h:ka hw w e news ys fps):∀v∈news,v.oneCell'=true:=by
 intro v hv;obtain⟨j,hj,hjv⟩:=List.mem_iff_getElem.1 hv;have aaI:=e.size_pos;have hi:j/e.size<ys.length:=by rw[Nat.div_lt_iff_lt_mul aaI];rw[<-h.1];exact hj
 have eK:=h.2.2 (j/e.size) _ _ (ax hi) (ax (by rw[h.2.1];exact hi));refine dY.mD eK v ?_;rw[List.mem_iff_getElem?];refine⟨j%e.size,?_⟩;rw[iT,aH (Nat.mod_lt _ aaI),Nat.mul_comm,Nat.div_add_mod,ax hj,hjv]
theorem Yk {w:World}{b o0:Nat}{xs:aq e.D}(hb:w.heap[b]?=some (.cells arr T fr))(qf:pe arr fr)(hs:arr.size=o0+cap*e.size)(hc:xs.length<=cap)(hh:hw b=o0+xs.length*e.size)(Gi:ka hw w e ((arr.toList.drop o0).take (xs.length*e.size)) xs fps): dY hw w (.sl e) [.slice (some ⟨b,o0,none⟩) xs.length cap] xs (b::fps.flatten):=by
 refine⟨_,rfl,.inr ⟨b,o0,cap,arr,T,fr,fps,rfl,hb,qf,hs,hc,hh,rfl,Gi.2.1,λi x f hx hf=>?_⟩⟩;have:=Gi.2.2 i x f hx hf;have hi:i<xs.length:=(aD.1 hx).1;have hm:(i+1)*e.size<=xs.length*e.size:=cq _ hi;rw[bZ,dL]at hm;have e1:(((arr.toList.drop o0).take (xs.length*e.size)).drop (i*e.size)).take e.size=(arr.toList.drop (o0+i*e.size)).take e.size:=by apply cA;intro j;rw[iT,iT,iT];by_cases hj:j<e.size;rw[aH hj,aH hj,zip,fg];rw[aG hj,aG hj]
 rw[e1]at this;exact this
theorem Lt {w:World}{o0:Nat}{xs:aq e.D}(hs:arr.size=o0+cap*e.size)(hc:xs.length<=cap)(hl:fps.length=xs.length)(h:∀(i:Nat)(x:e.D)(f:dy),xs[i]?=some x->fps[i]?=some f->dY hw w e ((arr.toList.drop (o0+i*e.size)).take e.size) x f):ka hw w e ((arr.toList.drop o0).take (xs.length*e.size)) xs fps:=by
 refine⟨?_,hl,λi x f hx hf=>?_⟩;have hal:(arr.toList.drop o0).length=cap*e.size:=by rw[bl,Array.length_toList,hs];omega
 rw[bm,hal];exact iE (cq _ hc);have hi:i<xs.length:=(aD.1 hx).1;have hm:(i+1)*e.size<=xs.length*e.size:=cq _ hi;rw[bZ,dL]at hm;have e1:(((arr.toList.drop o0).take (xs.length*e.size)).drop (i*e.size)).take e.size=(arr.toList.drop (o0+i*e.size)).take e.size:=by apply cA;intro j;rw[iT,iT,iT];by_cases hj:j<e.size;rw[aH hj,aH hj,zip,fg];rw[aG hj,aG hj]
 rw[e1];exact h i x f hx hf
theorem NU {w w':World}{S:Nat->Nat->Prop}:∀{e:CT}{vs:gO}{x:e.D},iQ w' S e vs x->e.flat=true->dY hw w e vs x []
 | .int _,_,_,h,_=>⟨h,rfl⟩
 | .bool,_,_,h,_=>⟨h,rfl⟩
 | .str,_,_,h,_=>⟨h,rfl⟩
 | .sl _,_,_,_,hf=>by cases hf
 | .pair a b,_,_,h,hf=>by obtain⟨v1,v2,rfl,h1,h2⟩:=h;simp only[CT.flat,ah]at hf;exact⟨v1,v2,[],[],rfl,rfl,NU h1 hf.1,NU h2 hf.2⟩
def N3 (hdr:Nat->Value)(t:ar Nat)(v:Value):Nat->Value:=λu=>if t=some u then v else hdr u
theorem Xy {hdr:Nat->Value}{d:ar Nat}{v:Value}{t:Nat}(h:kO st t):N3 hdr (st.gV d 0) v t=hdr t:=by unfold N3;rw[aG];intro e;exact(oS e).1 h
theorem dr.OU (h:dr C g st a w hs)(d:ar Nat){xs:aq e.D}{v:Value}{fp:dy}{w':World}{hw':Nat->Nat}(gu:Fr (λb=>cX (g.dE b)) w w')(Br:∀b x,g.dE b=some x->¬cX (some x)->hw' b=g.hw b)(JK:∀b o u,o<g.hw b->w.cell? ⟨b,o,none⟩=some u->o<hw' b/\w'.cell? ⟨b,o,none⟩=some u)(eK:dY hw' w' (.sl e) [v] xs fp)(hn:fp.Nodup)(B5:∀b∈fp,b<w'.heap.size/\(cX (g.dE b)\/w.heap.size<=b)): mM C (st.pb d e xs) (a.put d v) w':=by refine h.OT d (st1:=st.eX d) (hdr':=N3 g.hdr (st.gV d 0) v) J8 uM Cc Bh (λt ht=>⟨Eu ht,Xy ht⟩) gu Br JK (ma ⟨eK,λt ht=>?_⟩) hn B5;refine⟨(oS ht).2.1,?_⟩;show v=N3 g.hdr (st.gV d 0) v t;unfold N3;rw[aH ht]
theorem dr.OG (h:dr C g st a w hs)(d:ar Nat){xs:aq e.D}{w':World}(hw:w'=w.alloc (.cells arr T fr)\/w'=w.drew.alloc (.cells arr T fr))(qf:pe arr fr)(hs0:arr.size=cap*e.size)(hc:xs.length<=cap)(Gi:ka g.hw w e (arr.toList.take (xs.length*e.size)) xs fps)(hn:fps.flatten.Nodup)(B5:∀b∈fps.flatten,cX (g.dE b)): mM C (st.pb d e xs) (a.put d (.slice (some ⟨w.heap.size,0,none⟩) xs.length cap)) w':=by
 have gu:Fr (λb=>cX (g.dE b)) w w':=by rcases hw with rfl|rfl;exact Fr.alloc _ _ _;exact(Fr.drew _ w).trans (Fr.alloc _ _ _) (λb _ hh=>hh)
 have UN:w'.heap[w.heap.size]?=some (.cells arr T fr):=by rcases hw with rfl|rfl;exact heap_alloc_new w _;exact heap_alloc_new w.drew _
 have sD:w'.heap.size=w.heap.size+1:=by rcases hw with rfl|rfl<;>simp
 have hold:∀b,b<w.heap.size->w'.heap[b]?=w.heap[b]?:=by intro b hb;rcases hw with rfl|rfl;exact heap_alloc_old w _ b hb;exact heap_alloc_old w.drew _ b hb
 have gM:∀b∈fps.flatten,b<w.heap.size:=by intro b hb;have hh:=B5 b hb;cases hx:g.dE b with|none=>rw[hx]at hh;cases hh|some x=>exact(h.ff b x hx).1
 let hw':Nat->Nat:=λb=>if b=w.heap.size then xs.length*e.size else g.hw b
 have eK:dY hw' w' (.sl e) [.slice (some ⟨w.heap.size,0,none⟩) xs.length cap] xs (w.heap.size::fps.flatten):=by refine Yk (o0:=0) UN qf (by rw[cj];exact hs0) hc (by simp[hw']) (Gi.mono λb hb=>?_);have gA:=gM b hb;exact⟨hold b gA,by simp[hw',gG gA]⟩
 refine h.OU d (hw':=hw') (fp:=w.heap.size::fps.flatten) gu ?_ ?_ eK ?_ ?_;intro b x hx _;simp[hw',gG (h.ff b x hx).1];intro b o u ho hu;have hb:b<w.heap.size:=World.block_lt_of_cell? w _ hu;exact⟨by simp[hw',gG hb];exact ho,by rw[World.cell?_of_block (a:=⟨b,o,none⟩) (hold b hb)];exact hu⟩;exact cJ.2 ⟨λhm=>mO _ (gM _ hm),hn⟩;intro b hb;rcases bU.1 hb with rfl|hb;exact⟨by omega,.inr (bc _)⟩;exact⟨by have:=gM b hb;omega,.inl (B5 b hb)⟩
theorem ad4 {z:Array Value}{c size i:Nat}(hz:z.size=size)(hi:i<c):((madeCells z (c*size)).toList.drop (i*size)).take size=z.toList:=by
 have hm:(i+1)*size<=c*size:=cq _ hi;rw[bZ,dL]at hm;apply cA;intro j;rw[iT];by_cases hj:j<size;rw[aH hj,madeCells];have h1:i*size+j<c*size:=by omega
 simp only[Array.toList_map,Array.toList_range,List.getElem?_map,List.getElem?_range h1,db];have ahn:(i*size+j)%z.size=j:=by rw[hz,Nat.mul_comm,Nat.mul_add_mod,Nat.mod_eq_of_lt hj]
 rw[ahn];simp[getElem!_pos,hz,hj];rw[aG hj,br];simp[hz];omega
theorem OA {E:Env}(hE:iV P E.ty){o:Oper}{n c:Operand}(ho:o.op=.makeSlice T n c)(h:mM C st a w){K:AS->ar R}(hk:nS E o T n c st K=some r):mq P C o a w K r:=by
 obtain⟨g,hg⟩:=id h;have hnv:=hg.rd n;have hcv:=hg.rd c;unfold nS at hk;split at hk;rename_i e len cap hT hn hc;rw[hn]at hnv;rw[hc]at hcv;split at hk;rename_i hlc;unfold room at hk;split at hk;rename_i H4;obtain⟨te,hu,⟨inf,z,Dr,sD,hby,hz,hzc⟩,_⟩:=GJ hE hT;have HN:cap<=1073741824:=by omega
 have ag9:(inf.bytes:Int)*cap<=281474976710656:=by have h1:(inf.bytes:Int)*cap<=65536*cap:=Int.mul_le_mul_of_nonneg_right (by omega) (by omega);omega
 have dD:=run_make (P:=P) w T te inf z hu Dr hz .i64 .i64 len cap hlc.1 hlc.2 ag9 (by omega);have H6:(execOp a.eval o).run P w=.ok (.value (.slice (some ⟨w.heap.size,0,none⟩) len.toNat cap.toNat)) (w.alloc (.cells (madeCells z.cells (cap.toNat*inf.size)) te)):=by simp only[execOp,ho,iz hnv,iz hcv];show((Instr.makeSlice T (.int .i64 len) (.int .i64 cap))>>=λv=>pure (Next.value v)).run P w=_;rw[Sem.run_bind,dD];rfl
 have hzs:z.cells.size=e.size:=by rw[<-oI e,<-hzc];simp
 have hlen:(List.replicate len.toNat e.zero).length=len.toNat:=by simp
 have Gi:ka g.hw w e ((madeCells z.cells (cap.toNat*inf.size)).toList.take ((List.replicate len.toNat e.zero).length*e.size)) (List.replicate len.toNat e.zero) (List.replicate len.toNat []):=by
  refine Lt (o0:=0) (cap:=cap.toNat) (by rw[size_madeCells,sD,cj]) (by rw[hlen];omega) (by simp) (λi x f hx hf=>?_);have hi:i<len.toNat:=by have:=(aD.1 hx).1;simpa using this
  rw[df,aH hi]at hx hf;simp at hx hf;subst hx;subst hf;rw[sD,cj,ad4 hzs (by omega),hzc];exact G2 _ _ _
 refine⟨_,_,_,.inl H6,?_,hk⟩;have:=hg.OG o.dst (T:=te) (fr:=(0,0)) (cap:=cap.toNat) (.inl rfl) (by intro j _;simp) (by rw[size_madeCells,sD]) (by rw[hlen];omega) Gi (by simp) (by simp);rw[hlen]at this;exact this;cases hk;cases hk;cases hk
theorem Ns {lo hi:ar Operand}(hg:dr C g st a w []){n:Nat}(HN:n<=cap){K:Int->Int->ar R}(hk:mw st lo hi n K=some r)(isS:Bool): ∃x y:Int,K x y=some r/\(0<=x->x<=y->y<=n->(Instr.sliceBounds isS n cap (lo.map a.eval) (hi.map a.eval) none).run P w=.ok (x.toNat,y.toNat,cap) w):=by
 unfold mw at hk;split at hk;rename_i h1 h2;have e1:lo=none:=by cases lo<;>simp at h1⊢
 have e2:hi=none:=by cases hi<;>simp at h2⊢
 subst e1;subst e2;exact⟨0,n,hk,λ_ _ _=>by simp[Instr.sliceBounds]⟩;rename_i k p h1 h2;have e2:hi=none:=by cases hi<;>simp at h2⊢
 subst e2;cases lo with|none=>simp at h1|some lo=>simp at h1;have hv:=hg.rd lo;rw[h1]at hv;refine⟨p,n,hk,λq1 q2 q3=>?_⟩;simp[Instr.sliceBounds,Instr.sliceBound,asIntOf,iz hv,q1,q2]
 rename_i k p h1 h2;have e1:lo=none:=by cases lo<;>simp at h1⊢
 subst e1;cases hi with|none=>simp at h2|some hi=>simp at h2;have hv:=hg.rd hi;rw[h2]at hv;refine⟨0,p,hk,λq1 q2 q3=>?_⟩;simp[Instr.sliceBounds,Instr.sliceBound,asIntOf,iz hv,show 0<=p by omega,show p<=(cap:Int) by omega]
 rename_i k p k' q h1 h2;cases lo with|none=>simp at h1|some lo=>cases hi with|none=>simp at h2|some hi=>simp at h1 h2;have hv:=hg.rd lo;have SJ:=hg.rd hi;rw[h1]at hv;rw[h2]at SJ;refine⟨p,q,hk,λq1 q2 q3=>?_⟩;simp[Instr.sliceBounds,Instr.sliceBound,asIntOf,iz hv,iz SJ,q1,show 0<=q by omega,show q<=(cap:Int) by omega];intro gM;omega
 cases hk
theorem extract_mk (s:aq UInt8)(x y:Nat):(ByteArray.mk s.toArray).extract x y=ByteArray.mk ((s.take y).drop x).toArray:=by apply ByteArray.ext;rw[ByteArray.data_extract];simp[List.extract_eq_take_drop,List.drop_take]
theorem Pk {α:Type}{xs ys:aq α}{x y:Int}(h:sub xs x y=some ys):0<=x/\x<=y/\y<=(xs.length:Int)/\ys=(xs.take y.toNat).drop x.toNat:=by unfold sub at h;split at h;rename_i hc;simp at h;exact⟨hc.1,hc.2.1,hc.2.2,h.symm⟩;cases h
theorem ZT {w:World}{S:Nat->Nat->Prop}{v:Value}{xs:aq e.D}(h:iQ w S (.sl e) [v] xs){x y:Nat}(hxy:x<=y)(hy:y<=xs.length): ∃bo cap,v=.slice bo xs.length cap/\xs.length<=cap/\iQ w S (.sl e) [.slice (if cap=x then bo else bo.map (·.add (x*e.size))) (y-x) (cap-x)] ((xs.take y).drop x):=by
 obtain⟨u,hu,h⟩:=h;simp at hu;subst hu;rcases h with⟨⟨ad,rfl⟩,rfl⟩|⟨b,o,cap,rfl,hc,h⟩;simp at hy;subst hy;have hx:x=0:=by omega
 subst hx;exact⟨ad,0,rfl,by simp,⟨_,rfl,.inl ⟨⟨ad,by simp⟩,by simp⟩⟩⟩;have hl:((xs.take y).drop x).length=y-x:=by simp;omega
 refine⟨some ⟨b,o,none⟩,cap,rfl,hc,⟨_,rfl,.inr ?_⟩⟩;by_cases hcx:cap=x;refine⟨b,o,cap-x,by rw[aH hcx,hl],by rw[hl];omega,λi z hz=>?_⟩;have:((xs.take y).drop x)=[]:=cw (by rw[hl];omega);rw[this]at hz;simp at hz;refine⟨b,o+x*e.size,cap-x,by rw[aG hcx,hl];simp[mN],by rw[hl];omega,λi z hz=>?_⟩;have hz':xs[x+i]?=some z:=by rw[bB,cS]at hz;split at hz;exact hz;cases hz
 obtain⟨cs,K7,hr⟩:=h (x+i) z hz';refine⟨cs,?_,hr⟩;have:o+x*e.size+i*e.size=o+(x+i)*e.size:=by rw[bZ];omega
 rw[this];exact K7
theorem aen {w:World}{v:Value}{xs:aq e.D}{fp:dy}(h:dY hw w (.sl e) [v] xs fp){n:Nat}(hn:n<=xs.length): ∃bo cap,v=.slice bo xs.length cap/\xs.length<=cap/\∃hZ,dY hw w (.sl e) [.slice (if cap=n then bo else bo.map (·.add (n*e.size))) (xs.length-n) (cap-n)] (xs.drop n) hZ/\(∀b∈hZ,b∈fp)/\(fp.Nodup->hZ.Nodup):=by
 obtain⟨u,hu,h⟩:=h;simp at hu;subst hu;rcases h with⟨⟨ad,rfl⟩,rfl,rfl⟩|⟨b,o0,cap,arr,T,fr,fps,rfl,hb,qf,hs,hc,hh,rfl,hl,hr⟩;simp at hn;subst hn;exact⟨ad,0,rfl,by simp,[],⟨_,rfl,.inl ⟨⟨ad,by simp⟩,rfl,rfl⟩⟩,by simp,by simp⟩;refine⟨some ⟨b,o0,none⟩,cap,rfl,hc,?_⟩;by_cases hcn:cap=n;have hx:xs.drop n=[]:=cP (by omega);refine⟨[],⟨_,rfl,.inl ⟨⟨some ⟨b,o0,none⟩,by rw[aH hcn,show xs.length-n=0 by omega,show cap-n=0 by omega]⟩,hx,rfl⟩⟩,by simp,by simp⟩;have hm1:cap*e.size=n*e.size+(cap-n)*e.size:=by rw[<-bZ];congr 1;omega
 have Zt:xs.length*e.size=n*e.size+(xs.length-n)*e.size:=by rw[<-bZ];congr 1;omega
 refine⟨b::(fps.drop n).flatten,⟨_,rfl,.inr ⟨b,o0+n*e.size,cap-n,arr,T,fr,fps.drop n,by rw[aG hcn];simp[mN],hb,qf,by omega,by simp;omega,by simp;omega,rfl,by simp[hl],λi x f hx hf=>?_⟩⟩,?_,?_⟩;rw[bB]at hx hf;have:=hr (n+i) x f hx hf;rwa[bZ,<-fg]at this;intro c C9;rcases bU.1 C9 with rfl|C9;simp;obtain⟨l,hl1,zT⟩:=List.mem_flatten.1 C9;exact eH _ (List.mem_flatten.2 ⟨l,List.mem_of_mem_drop hl1,zT⟩);intro El;have h1:=cJ.1 El;have e1:fps.flatten=(fps.take n).flatten++(fps.drop n).flatten:=by rw[<-dI,cg]
 rw[e1]at h1;exact cJ.2 ⟨λhm=>h1.1 (by simp[hm]),(aB.1 h1.2).2.1⟩
theorem abG {an:An}{o:Oper}{ep:Nat}{pv:ar (jR×Nat)}{p:Int}:OJ an o (.loc ep pv) p=.loc ep none\/∃rt t,pv=some (rt,t)/\OJ an o (.loc ep pv) p=.part ep rt t p:=by
 unfold OJ;split;rename_i ep' r t d h _;cases h;cases an.nest.contains d with|false=>exact .inl rfl|true=>exact .inr ⟨_,_,rfl,rfl⟩
 exact .inl rfl
theorem O6 {E:Env}(hE:iV P E.ty){o:Oper}{lo hi:ar Operand}(ho:o.op=.slice T x lo hi none)(h:mM C st a w){K:AS->ar R}(hk:xt E o T x lo hi st K=some r):mq P C o a w K r:=by
 obtain⟨g,hg⟩:=h;unfold xt at hk;split at hk;rename_i tag e xs st' kd p sI hlo;split at hk;rename_i hT;cases lo with
 |none=>simp at hlo
 |some lo=>
  simp at hlo;have hlv:=hg.rd lo;rw[hlo]at hlv;obtain⟨te,hu,⟨inf,z,Dr,sD,_⟩,_⟩:=GJ hE hT;obtain⟨g',ml⟩:=hg.take x;rw[sI]at ml;simp only[cp]at ml;cases pa:sub xs p xs.length with
  |none=>rw[pa]at hk;cases hk
  |some PM=>
   rw[pa]at hk;simp only[aa]at hk;obtain⟨h1,h2,_,rfl⟩:=Pk pa;obtain⟨fp,dx,El,hl⟩:=ml.hands 0 _ _ rfl;have eK:=(dM dx).1;obtain⟨bo,cap,hv,HN,hZ,Ds,aiz,SB⟩:=aen eK (n:=p.toNat) (by omega);have dD:(execOp a.eval o).run P w=.ok (.value (.slice (if cap=p.toNat then bo else bo.map (·.add (p.toNat*e.size))) (xs.length-p.toNat) (cap-p.toNat))) w:=by
    have hb:(Instr.sliceBounds true xs.length cap (some (a.eval lo)) none none).run P w=.ok (p.toNat,xs.length,cap) w:=by have hp2:p<=(xs.length:Int):=h2;simp[Instr.sliceBounds,Instr.sliceBound,asIntOf,iz hlv,h1,hp2]
    simp only[execOp,ho,hv,Instr.sliceAt,Instr.slice,underlying,Option.map_none,db,Sem.run_bind,run_program,hu,Result.andThen_ok,Sem.run_pure,hb,sizeOf,typeInfo,Dr,sD]
   have zU:(xs.take ((xs.length:Int).toNat)).drop p.toNat=xs.drop p.toNat:=by rw[aA,ch]
   rw[zU]at hk;refine⟨_,_,_,.inl dD,?_,hk⟩;refine ml.OU o.dst (hw':=g'.hw) (fp:=hZ) (Fr.refl _ _) (λ_ _ _ _=>rfl) (λ_ _ _ ho hu=>⟨ho,hu⟩) Ds (SB El) (λb hb=>?_);have:=hl b (aiz b hb);exact⟨(ml.ff b _ this).1,.inl (by rw[this];rfl)⟩
 cases hk;cases hk
theorem Yu {E:Env}(hE:iV P E.ty){an:An}{o:Oper}{lo hi:ar Operand}(ho:o.op=.slice T x lo hi none)(h:mM C st a w){K:AS->ar R}(hk:BW E an o T x lo hi st K=some r):mq P C o a w K r:=by
 obtain⟨g,hg⟩:=id h;have uS:=hg.fresh (hg.rd x);unfold BW at hk;split at hk;exact O6 hE ho h hk;split at hk;rename_i s hx;rw[hx]at uS;split at hk;rename_i hT;have hu:=Tv hE hT;have hv:=(dM uS).1;obtain⟨p,q,Sz,dD⟩:=Ns (P:=P) (w:=w) hg (bc s.length) hk false;cases pa:sub s p q with|none=>rw[pa]at Sz;cases Sz|some s'=>rw[pa]at Sz;simp only[aa]at Sz;obtain⟨h1,h2,h3,rfl⟩:=Pk pa;have hb:=dD h1 h2 h3;refine uZ h _ _ ?_ (M8 _) Sz;simp only[execOp,ho,hv,Instr.sliceAt,Instr.slice,underlying,Option.map_none,Sem.run_bind,run_program,hu,Result.andThen_ok,Sem.run_pure,yh,hb,Option.isSome_none,aW,bV,extract_mk]
 cases hk;rename_i fl e xs hx;rw[hx]at uS;split at hk;rename_i hT;obtain⟨hT,oh⟩:=hT;obtain⟨te,hu,⟨inf,z,Dr,sD,_⟩,_⟩:=GJ hE hT;have hc:=dM uS
 have key:∀(S:Nat->Nat->Prop),iQ w S (.sl e) [a.eval x] xs->(∀(p q:Int)(bo:ar Addr)(cap:Nat),0<=p->p<=q->q<=xs.length->xs.length<=cap->a.eval x=.slice bo xs.length cap->
  iQ w S (.sl e) [.slice (if cap=p.toNat then bo else bo.map (·.add (p.toNat*e.size))) (q.toNat-p.toNat) (cap-p.toNat)] ((xs.take q.toNat).drop p.toNat)->
  gy (cv C g st w) (.slice (if cap=p.toNat then bo else bo.map (·.add (p.toNat*e.size))) (q.toNat-p.toNat) (cap-p.toNat)) (.sl (OJ an o fl p) e ((xs.take q.toNat).drop p.toNat)) [])->mq P C o a w K r:=by
  intro S JM hmk
  have HN:∃bo cap,a.eval x=.slice bo xs.length cap/\xs.length<=cap:=by obtain⟨bo,cap,hv,hc,_⟩:=ZT JM (x:=0) (y:=0) (bc _) (fB _);exact⟨bo,cap,hv,hc⟩
  obtain⟨bo,cap,hv,HN⟩:=HN
  obtain⟨p,q,Sz,dD⟩:=Ns (P:=P) (w:=w) hg HN hk true
  cases pa:sub xs p q with
  |none=>rw[pa]at Sz;cases Sz
  |some PM=>
   rw[pa]at Sz
   simp only[aa]at Sz
   obtain⟨h1,h2,h3,rfl⟩:=Pk pa
   have hb:=dD h1 h2 h3
   obtain⟨bo',ap9,SJ,_,adv⟩:=ZT JM (x:=p.toNat) (y:=q.toNat) (by omega) (by omega)
   rw[hv]at SJ
   simp only[Value.slice.injEq,true_and]at SJ
   obtain⟨rfl,rfl⟩:=SJ
   refine⟨.slice (if cap=p.toNat then bo else bo.map (·.add (p.toNat*e.size))) (q.toNat-p.toNat) (cap-p.toNat),w,_,.inl ?_,⟨g,hg.quiet o.dst (ma (hmk p q _ _ h1 h2 h3 HN hv adv))⟩,Sz⟩
   simp only[execOp,ho,hv,Instr.sliceAt,Instr.slice,underlying,Option.map_none,Sem.run_bind,run_program,hu,Result.andThen_ok,Sem.run_pure,hb,sizeOf,typeInfo,Dr,sD]
 cases fl with
 |own t=>cases oh
 |nest _ _ _ _ _ _=>cases oh
 |part _ _ _ _=>cases oh
 |eS _ _ _=>cases oh
 |arg _=>exact key _ hc.2 (λp q bo cap _ _ _ _ _ hr=>by simp only[OJ,pW.bare];exact⟨rfl,hr⟩)
 |loc ep pv=>
  have xg:ep=st.ep:=by simpa[pW.live]using oh
  refine key _ (hc.2.2.2.1 xg) (λp q bo cap hp hpq hq HN hv hr=>?_);have hlen:((xs.take q.toNat).drop p.toNat).length=q.toNat-p.toNat:=by simp;omega
  have plain:gy (cv C g st w) (.slice (if cap=p.toNat then bo else bo.map (·.add (p.toNat*e.size))) (q.toNat-p.toNat) (cap-p.toNat)) (.sl (.loc ep none) e ((xs.take q.toNat).drop p.toNat)) []:=⟨rfl,hc.2.1,⟨_,_,_,rfl,hlen.symm⟩,λ_=>hr,by simp⟩
  rcases abG (an:=an) (o:=o) (ep:=ep) (pv:=pv) (p:=p)with hpf|⟨rt,t,rfl,hpf⟩;rw[hpf];exact plain;rw[hpf];refine⟨rfl,hc.2.1,⟨_,_,_,rfl,hlen.symm⟩,λ_=>?_⟩;have H5:=hc.2.2.2.2 rt t rfl;refine⟨H5.1,?_⟩;by_cases hz:q.toNat-p.toNat=0;exact .inl (cw (by rw[hlen];exact hz));right;obtain⟨u,hu,JM⟩:=hc.2.2.2.1 xg;simp at hu;rcases JM with⟨_,rfl⟩|⟨b,o0,T6,L4,Zo,_⟩;simp at hlen;omega;rw[<-hu,hv]at L4;simp only[Value.slice.injEq,true_and]at L4;obtain⟨rfl,rfl⟩:=L4;refine⟨p.toNat,b,o0,xs.length,cap,cap-p.toNat,by omega,by rw[<-H5.2,hv],by rw[hlen];omega,?_⟩;rw[mL,hlen];simp[mN]
 cases hk;cases hk
theorem T5 {E:Env}(hE:iV P E.ty)(h:E.bytes T=true):∃te,P.underlying T=some (.slice te)/\P.underlying te=some (.int .u8):=by unfold Env.bytes at h;split at h;rename_i te n hT;split at h;rename_i jC hte;obtain⟨te',hu,_,ho⟩:=(hE T _ hT).sl _ rfl rfl;have:=ho te n rfl;subst this;exact⟨te,hu,(hE te _ hte).int _ rfl rfl⟩;cases h;cases h
theorem abN {w:World}{S:Nat->Nat->Prop}{v:Value}{xs:cG}(h:iQ w S (.sl (.int .u8)) [v] xs): ((∃a,v=.slice a 0 0)/\xs=[])\/∃b o cap,v=.slice (some ⟨b,o,none⟩) xs.length cap/\∀i,i<xs.length->w.cell? ⟨b,o+i,none⟩=some (.int .u8 (xs.getD i 0)):=by obtain⟨u,hu,h⟩:=h;simp at hu;subst hu;rcases h with h|⟨b,o,cap,hv,_,h⟩;exact .inl h;refine .inr ⟨b,o,cap,hv,λi hi=>?_⟩;obtain⟨cs,K7,hr⟩:=h i xs[i] (ax hi);have hr':cs=[.int .u8 xs[i]]:=hr;subst hr';have:=(K7 0 _ rfl).2;simp only[CT.size,mP,dF]at this;rw[this];simp[List.getD,ax hi]
theorem Sh {E:Env}(hE:iV P E.ty){o:Oper}{src dst:TypeId}(ho:o.op=.convert src dst x)(h:mM C st a w){K:AS->ar R}(hk:la E o src dst x st K=some r):mq P C o a w K r:=by
 obtain⟨g,hg⟩:=id h;have uS:=hg.rd x;have fin:∀v w',(convert src dst (a.eval x)).run P w=.ok v w'->(execOp a.eval o).run P w=.ok (.value v) w':=by intro v w' hr;simp only[execOp,ho];show(convert src dst (a.eval x)>>=λv=>pure (Next.value v)).run P w=_;rw[Sem.run_bind,hr];rfl
 have under:∀(T:TypeId)(sh:Shape),iC E.ty T=some sh->∃d,P.underlying T=some d:=by
  intro T sh hT;have jQ:=hE T sh hT;cases MX:sh.agg with
  |true=>obtain⟨fs,hu,_⟩:=jQ.agg MX;exact⟨_,hu⟩
  |false=>
   cases LZ:sh.ct with
   |int k=>exact⟨_,jQ.int k LZ MX⟩
   |bool=>exact⟨_,jQ.bool LZ MX⟩
   |str=>exact⟨_,jQ.str LZ MX⟩
   |sl e=>obtain⟨te,hu,_⟩:=jQ.sl e LZ MX;exact⟨_,hu⟩
   |pair p q=>have:=jQ.pair p q LZ;rw[MX]at this;cases this
 unfold la at hk;split at hk;rename_i ssh k jC k' n hs hd hx;rw[hx]at uS;obtain⟨ds,P2⟩:=under _ _ hs;have hud:=(hE dst _ hd).int k rfl rfl;refine uZ h _ _ (fin (.int k (k.wrap n)) w ?_) (jY _ _) hk;rw[iz uS];simp only[convert,underlying,Sem.run_bind,run_program,P2,hud,Result.andThen_ok,Sem.run_pure];rfl;rename_i jC ap7 s hs hd hx;rw[hx]at uS;have P2:=(hE src _ hs).str rfl rfl;have hud:=(hE dst _ hd).str rfl rfl;refine uZ h _ _ (fin (.string ⟨s.toArray⟩) w ?_) (M8 _) hk;rw[(dM uS).1];simp only[convert,underlying,Sem.run_bind,run_program,P2,hud,Result.andThen_ok,Sem.run_pure];rename_i jC sh s MA hs hd hx;rw[hx]at uS;split at hk;rename_i hb;unfold room at hk;split at hk;obtain⟨te,hu,hte⟩:=T5 hE hb;have P2:=(hE src _ hs).str rfl rfl;have dD:=run_bytes_of_string (P:=P) w src dst te ⟨s.toArray⟩ P2 hu hte;rw[<-(dM uS).1,yh]at dD;refine⟨_,_,_,.inl (fin _ _ dD),?_,hk⟩;have Ad:=grownCap_ge w s.length 0 te;have sD:(bytesRow ⟨s.toArray⟩ (grownCap w s.length 0 te)).size=grownCap w s.length 0 te*CT.size (.int .u8):=by simp only[bytesRow,Array.size_append,Array.size_map,Array.size_replicate,yh,CT.size];simp;omega
 have sI:(bytesRow ⟨s.toArray⟩ (grownCap w s.length 0 te)).toList.take ((dg s).length*CT.size (.int .u8))=(dg s).map (Value.int .u8):=by simp only[bytesRow,dg,CT.size,Array.toList_append,Array.toList_map];rw[List.take_append_of_le_length (by simp)];rw[bI (by simp)];simp
 have Gi:ka g.hw w (.int .u8) ((bytesRow ⟨s.toArray⟩ (grownCap w s.length 0 te)).toList.take ((dg s).length*CT.size (.int .u8))) (dg s) (List.replicate s.length []):=by
  rw[sI];refine⟨by simp[CT.size],by simp[dg],λi y f hy hf=>?_⟩;have hi:i<(dg s).length:=(aD.1 hy).1;have hf':f=[]:=by rw[df]at hf;split at hf<;>simp at hf;exact hf
  subst hf';refine⟨?_,rfl⟩;apply cA;intro j;rw[iT];simp only[CT.size,mP];cases j with|zero=>simp[hy]|succ j=>simp
 have hlen:(dg s).length=s.length:=by simp[dg]
 have:=hg.OG o.dst (T:=te) (fr:=((bytesRow ⟨s.toArray⟩ (grownCap w s.length 0 te)).size,(bytesRow ⟨s.toArray⟩ (grownCap w s.length 0 te)).size+1)) (cap:=grownCap w s.length 0 te) (.inr rfl) (by intro j hj hc;simp only at hc;omega) sD (by rw[hlen];exact Ad) Gi (by simp) (by simp);rw[hlen]at this;exact this;cases hk;cases hk;rename_i ssh jC fl xs hs hd hx;rw[hx]at uS;split at hk;rename_i hb;obtain⟨hb,oh⟩:=hb;obtain⟨te,hu,hte⟩:=T5 hE hb;have hud:=(hE dst _ hd).str rfl rfl;have hc:=dM uS;have JM:∃S,iQ w S (.sl (.int .u8)) [a.eval x] xs:=by
  cases fl with
  |own t=>cases oh
  |nest _ _ _ _ _ _=>cases oh
  |part _ _ _ _=>cases oh
  |eS _ _ _=>cases oh
  |arg _=>exact⟨_,hc.2⟩
  |loc ep pv=>
   have xg:ep=st.ep:=by simpa[pW.live]using oh
   exact⟨_,hc.2.2.2.1 xg⟩
 obtain⟨S,JM⟩:=JM;refine uZ h _ _ (fin (.string ⟨(aK xs).toArray⟩) w ?_) (M8 _) hk;rcases abN JM with⟨⟨ad,hv⟩,rfl⟩|⟨b,ob,cap,hv,zS⟩;cases ad with|none=>rw[hv,run_convert_bytes_nil w src te hu hte 0 0 dst hud];rfl|some ad=>rw[hv];exact run_convert_bytes_back w src dst te ad 0 [] hu hte hud (λj hj=>by simp at hj)
 rw[hv,run_convert_bytes_arg w src te hu hte b ob xs.length cap xs rfl zS dst hud];rfl;cases hk;cases hk
end Go.Dn
