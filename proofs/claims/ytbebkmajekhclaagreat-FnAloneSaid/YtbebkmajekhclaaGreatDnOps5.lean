import Derived.Test.YtbebkmajekhclaaGreatDnOps4
import Derived.Laws.MakeOwn
import Derived.Laws.IdiomStrings
import Derived.Laws.BytesArg
/- Part 5: tuples, parts of slices, conversions, structs and slices that are built. -/
namespace Go.Dn
open Go.RowKit
variable {P:Program} {C:Ctx} {st:AS} {a:Act} {w:World} {R:Type} {r:R}
variable {arr:Array Value} {e:CT} {g:Gh} {cap:Nat} {fr:Nat×Nat} {hw:Nat->Nat} {x:Operand} {T:TypeId} {v:Value} {hs:aw (Value×AV)} {fps:aw fE} {news:jd}
theorem rF.at {c:RC}:∀{ws:jd}{ts:aw (Bool×aw AC)}{fp:fE},gK.rF c ws ts fp->∀{i:Nat}{g:Bool}{cs:aw AC},ts[i]?=some (g,cs)->
 ∃v f1 f2 f3,ws[i]?=some v/\fp=f1++f2++f3/\(∃us,Cut g v us/\bO c us cs f2)/\
  ∀c':RC,c.Le c'->(∀b∈f1++f3,c'.w.heap[b]?=c.w.heap[b]?/\c'.hw b=c.hw b)->∀rJ,(∃us,Cut g v us/\bO c' us rJ [])->gK.rF c' ws (ts.set i (g,rJ)) (f1++f3)
 |[],[],_,_,i,g,cs,h=>by simp at h
 |w::ws,t::ts,_,r,0,g,cs,h=>by obtain⟨f1,f2,rfl,r1,r2⟩:=r;simp at h;subst h;exact⟨w,[],f1,f2,rfl,by simp,r1,λc' hle hb rJ Co=>⟨[],f2,rfl,Co,rF.mono hle r2 (λb ix=>hb b (by simpa using ix))⟩⟩
 |w::ws,t::ts,_,r,i+1,g,cs,h=>by obtain⟨f1,f2,rfl,r1,r2⟩:=r;obtain⟨v,g1,g2,g3,hv,rfl,hr,FX⟩:=rF.at r2 (i:=i) (by simpa using h);refine⟨v,f1++g1,g2,g3,by simpa using hv,by simp,hr,λc' hle hb rJ Co=>?_⟩;obtain⟨us,fS,fG⟩:=r1;rw[aY];refine⟨f1,g1++g3,rfl,⟨us,fS,fG.mono hle (λb ix=>hb b (by simp[ix]))⟩,?_⟩;exact FX c' hle (λb ix=>hb b (by rcases az.1 ix with k|k<;>simp[k])) rJ Co
 |[],_::_,_,r,_,_,_,_=>r.elim
 |_::_,[],_,r,_,_,_,_=>r.elim
theorem Uh {o:Oper}{t i:Nat}(ho:o.op=.extract (.tmp t) i)(h:pc C st a w){K:AS->ay R}(hk:mM o t i st K=some r):nC P C o a w K r:=by
 obtain⟨g,h⟩:=h;unfold mM at hk;split at hk;rename_i ts hg;split at hk;rename_i gg cs hn;rw[ej]at hn;have htl:t<st.slots.length:=by
  rcases cn t st.slots.length with gF|BQ;exact gF;have:st.get t=.bot:=by simp[AS.get,ej,bC BQ]
  rw[this]at hg;cases hg
 obtain⟨fp,hr,GX,hl⟩:=h.slot t;rw[hg]at hr;obtain⟨ws,hv,hr⟩:=hr;obtain⟨v,f1,f2,f3,hwv,rfl,Sg,FX⟩:=rF.at hr hn;have eU:(execOp a.eval o).run P w=.ok (.value v) w:=by have he:a.eval (.tmp t)=.tuple ws.toArray:=hv;simp[execOp,ho,he,Instr.extract,hwv]
 have UA:=GX;rw[aY]at UA;have n1:=aN.1 UA;have n2:=aN.1 n1.2.1;let QO:AV:=.xC (iG ts i (gg,bg 0 cs));let bU:AS:=st.put (some t) QO;let g':Gh:={g with eX:=λb=>if b∈f2 then some (.hand 0) else g.eX b}
 have hle:(db C g st w).Le (db C g' bU w):=by have:= @UX C g st w (some t) QO;exact⟨this.A,this.hdr,this.Wa,this.ep,this.Kb,this.agf⟩
 have ZE:∀b y,g.eX b=some y->b∉f2->g'.eX b=some y:=by intro b y hb hm;show(if b∈f2 then _ else _)=_;rw[aG hm];exact hb
 have Nh:∀b y,y≠ .slot t->g.eX b=some y->b∉f2:=λb y hy hb hm=>hy (by have:=hl b (by simp[hm]);rw[hb]at this;simpa using this);have aoi:ew C g' bU a w [(v,.val gg cs)]:=by
  refine h.step (λy=>y≠ .slot t) hle h.defers (by show _=(st.put (some t) QO).slots.length;rw[gw,aB];exact h.size) (by show(st.put (some t) QO).boxes.length=(st.put (some t) QO).slots.length;rw[ll,gw,aB];exact h.bsize) h.frame ?_ (λb y hy hb=>⟨ZE b y hb (Nh b y hy hb),rfl,rfl⟩) ?_ ?_ ?_ (.inl ⟨by simp,Lh⟩);intro b y hy;have VN:(if b∈f2 then some (kz.hand 0) else g.eX b)=some y:=hy;by_cases hm:b∈f2;exact h.gL b _ (hl b (by simp[hm]));rw[aG hm]at VN;exact h.gL b y VN;intro j bv hj;have hj':(st.slots.set t QO)[j]?=some bv:=by rw[<-gw];exact hj
  by_cases hjt:j=t;subst hjt;rw[bG]at hj';simp only[cg,htl]at hj';simp at hj';subst hj';refine .inr ⟨f1++f3,⟨ws,hv,?_⟩,?_,?_⟩;rw[fV];obtain⟨us,fS,fG⟩:=Sg;refine FX _ hle (λb _=>⟨rfl,rfl⟩) _ ⟨us,fS,?_⟩;exact(fG.acX).mono hle (by simp);refine aN.2 ⟨n1.1,n2.2.1,?_⟩;rintro b hb c hc rfl;exact n1.2.2 b hb b (bu _ hc) rfl;intro b hb;refine ZE b _ (hl b (by rcases az.1 hb with k|k<;>simp[k])) (λhm=>?_);rcases az.1 hb with k|k;exact n1.2.2 b k b (bH _ hm) rfl;exact n2.2.2 b hm b k rfl;rw[aP (cR hjt)]at hj';exact .inl ⟨by simpa using hjt,hj',rfl⟩;intro s rJ hb;have ix:st.boxes[s]?=some (some rJ):=by rw[<-ll (d:=some t) (v:=QO)];exact hb
  exact .inl ⟨by simp,ix,rfl⟩;intro k u bv FU;cases k with
  |zero=>simp only[cC,bp,Prod.mk.injEq]at FU;obtain⟨rfl,rfl⟩:=FU;obtain⟨us,fS,fG⟩:=Sg;refine .inr ⟨f2,⟨us,fS,fG.mono hle (λb _=>⟨rfl,rfl⟩)⟩,n2.1,λb hb=>?_⟩;show(if b∈f2 then _ else _)=_;rw[aH hb]
  |succ k=>simp at FU
 exact⟨v,w,_,.inl eU,ew.Ez aoi o.dst,hk⟩;cases hk;cases hk
def kT (hw:Nat->Nat)(w:World)(e:CT)(news:jd)(ys:aw e.D)(fps:aw fE):Prop:=
 news.length=ys.length*e.size/\fps.length=ys.length/\∀(i:Nat)(y:e.D)(f:fE),ys[i]?=some y->fps[i]?=some f->fQ hw w e ((news.drop (i*e.size)).take e.size) y f
theorem kT.append {w:World}{n1 n2:jd}{xs ys:aw e.D}{f1 f2:aw fE}(h1:kT hw w e n1 xs f1)(h2:kT hw w e n2 ys f2): kT hw w e (n1++n2) (xs++ys) (f1++f2):=by
 obtain⟨a1,a2,a3⟩:=h1;obtain⟨b1,b2,b3⟩:=h2;refine⟨by rw[ai,ai,a1,b1,cM],by simp[a2,b2],λi y f hy hf=>?_⟩;by_cases hi:i<xs.length;rw[bE hi]at hy;rw[bE (by omega)]at hf;have hm:(i+1)*e.size<=xs.length*e.size:=cJ _ hi;rw[cM,fO]at hm;have:=a3 i y f hy hf;have e1:((n1++n2).drop (i*e.size)).take e.size=(n1.drop (i*e.size)).take e.size:=by rw[List.drop_append_of_le_length (by omega),List.take_append_of_le_length (by rw[aL];omega)]
 rw[e1];exact this;rw[bz (by omega)]at hy;rw[bz (by omega),a2]at hf;have:=b3 _ y f hy hf;have BQ:xs.length*e.size<=i*e.size:=cJ _ (by omega);have e1:(n1++n2).drop (i*e.size)=n2.drop ((i-xs.length)*e.size):=by rw[List.drop_append,dg (by omega),ch,a1,Nat.sub_mul]
 rw[e1];exact this
theorem kT.mono {hw':Nat->Nat}{w w':World}{ys:aw e.D}(h:kT hw w e news ys fps)(hk:∀b∈fps.flatten,w'.heap[b]?=w.heap[b]?/\hw' b=hw b):kT hw' w' e news ys fps:=⟨h.1,h.2.1,λi y f hy hf=>fQ.mono (h.2.2 i y f hy hf) λb hb=>hk b (List.mem_flatten.2 ⟨f,aW hf,hb⟩)⟩
theorem kT.nil (hw:Nat->Nat)(w:World)(e:CT):kT hw w e [] [] []:=⟨by simp,rfl,by simp⟩
theorem kT.nR {w:World}{ys:aw e.D}(h:kT hw w e news ys fps):∀v∈news,v.oneCell'=true:=by
 intro v hv;obtain⟨j,hj,hjv⟩:=List.mem_iff_getElem.1 hv;have ae2:=e.size_pos;have hi:j/e.size<ys.length:=by rw[Nat.div_lt_iff_lt_mul ae2];rw[<-h.1];exact hj
 have ik:=h.2.2 (j/e.size) _ _ (ak hi) (ak (by rw[h.2.1];exact hi));refine fQ.nR ik v ?_;rw[List.mem_iff_getElem?];refine⟨j%e.size,?_⟩;rw[jM,aH (Nat.mod_lt _ ae2),Nat.mul_comm,Nat.div_add_mod,ak hj,hjv]
theorem ab4 {w:World}{b o0:Nat}{xs:aw e.D}(hb:w.heap[b]?=some (.cells arr T fr))(tN:qQ arr fr)(hs:arr.size=o0+cap*e.size)(hc:xs.length<=cap)(hh:hw b=o0+xs.length*e.size)(FP:kT hw w e ((arr.toList.drop o0).take (xs.length*e.size)) xs fps): fQ hw w (.sl e) [.slice (some ⟨b,o0,none⟩) xs.length cap] xs (b::fps.flatten):=by
 refine⟨_,rfl,.inr ⟨b,o0,cap,arr,T,fr,fps,rfl,hb,tN,hs,hc,hh,rfl,FP.2.1,λi x f hx hf=>?_⟩⟩;have:=FP.2.2 i x f hx hf;have hi:i<xs.length:=(aC.1 hx).1;have hm:(i+1)*e.size<=xs.length*e.size:=cJ _ hi;rw[cM,fO]at hm;have e1:(((arr.toList.drop o0).take (xs.length*e.size)).drop (i*e.size)).take e.size=(arr.toList.drop (o0+i*e.size)).take e.size:=by apply cI;intro j;rw[jM,jM,jM];by_cases hj:j<e.size;rw[aH hj,aH hj,zip,gi];rw[aG hj,aG hj]
 rw[e1]at this;exact this
theorem Ly {w:World}{o0:Nat}{xs:aw e.D}(hs:arr.size=o0+cap*e.size)(hc:xs.length<=cap)(hl:fps.length=xs.length)(h:∀(i:Nat)(x:e.D)(f:fE),xs[i]?=some x->fps[i]?=some f->fQ hw w e ((arr.toList.drop (o0+i*e.size)).take e.size) x f):kT hw w e ((arr.toList.drop o0).take (xs.length*e.size)) xs fps:=by
 refine⟨?_,hl,λi x f hx hf=>?_⟩;have hal:(arr.toList.drop o0).length=cap*e.size:=by rw[aL,Array.length_toList,hs];omega
 rw[aV,hal];exact iI (cJ _ hc);have hi:i<xs.length:=(aC.1 hx).1;have hm:(i+1)*e.size<=xs.length*e.size:=cJ _ hi;rw[cM,fO]at hm;have e1:(((arr.toList.drop o0).take (xs.length*e.size)).drop (i*e.size)).take e.size=(arr.toList.drop (o0+i*e.size)).take e.size:=by apply cI;intro j;rw[jM,jM,jM];by_cases hj:j<e.size;rw[aH hj,aH hj,zip,gi];rw[aG hj,aG hj]
 rw[e1];exact h i x f hx hf
theorem OI {w w':World}{S:Nat->Nat->Prop}:∀{e:CT}{vs:jd}{x:e.D},jG w' S e vs x->e.flat=true->fQ hw w e vs x []
 | .int _,_,_,h,_=>⟨h,rfl⟩
 | .bool,_,_,h,_=>⟨h,rfl⟩
 | .str,_,_,h,_=>⟨h,rfl⟩
 | .sl _,_,_,_,hf=>by cases hf
 | .pair a b,_,_,h,hf=>by obtain⟨v1,v2,rfl,h1,h2⟩:=h;simp only[CT.flat,ae]at hf;exact⟨v1,v2,[],[],rfl,rfl,OI h1 hf.1,OI h2 hf.2⟩
def OU (hdr:Nat->Value)(t:ay Nat)(v:Value):Nat->Value:=λu=>if t=some u then v else hdr u
theorem abd {hdr:Nat->Value}{d:ay Nat}{t:Nat}(h:nD st t):OU hdr (st.iL d 0) v t=hdr t:=by unfold OU;rw[aG];intro e;exact(qH e).1 h
theorem ew.PU (h:ew C g st a w hs)(d:ay Nat){xs:aw e.D}{fp:fE}{w':World}{hw':Nat->Nat}(jH:Fr (λb=>ei (g.eX b)) w w')(GW:∀b x,g.eX b=some x->¬ei (some x)->hw' b=g.hw b)(Jx:∀b o u,o<g.hw b->w.cell? ⟨b,o,none⟩=some u->o<hw' b/\w'.cell? ⟨b,o,none⟩=some u)(ik:fQ hw' w' (.sl e) [v] xs fp)(hn:fp.Nodup)(E7:∀b∈fp,b<w'.heap.size/\(ei (g.eX b)\/w.heap.size<=b)): pc C (st.qP d e xs) (a.put d v) w':=by refine h.PT d (st1:=st.fX d) (hdr':=OU g.hdr (st.iL d 0) v) JV vW CA BI (λt ht=>⟨Et ht,abd ht⟩) jH GW Jx (nq ⟨ik,λt ht=>?_⟩) hn E7;refine⟨(qH ht).2.1,?_⟩;show v=OU g.hdr (st.iL d 0) v t;unfold OU;rw[aH ht]
theorem ew.PE (h:ew C g st a w hs)(d:ay Nat){xs:aw e.D}{w':World}(hw:w'=w.alloc (.cells arr T fr)\/w'=w.drew.alloc (.cells arr T fr))(tN:qQ arr fr)(hs0:arr.size=cap*e.size)(hc:xs.length<=cap)(FP:kT g.hw w e (arr.toList.take (xs.length*e.size)) xs fps)(hn:fps.flatten.Nodup)(E7:∀b∈fps.flatten,ei (g.eX b)): pc C (st.qP d e xs) (a.put d (.slice (some ⟨w.heap.size,0,none⟩) xs.length cap)) w':=by
 have jH:Fr (λb=>ei (g.eX b)) w w':=by rcases hw with rfl|rfl;exact Fr.alloc _ _ _;exact(Fr.drew _ w).trans (Fr.alloc _ _ _) (λb _ hh=>hh)
 have ae1:w'.heap[w.heap.size]?=some (.cells arr T fr):=by rcases hw with rfl|rfl;exact heap_alloc_new w _;exact heap_alloc_new w.drew _
 have vB:w'.heap.size=w.heap.size+1:=by rcases hw with rfl|rfl<;>simp
 have hold:∀b,b<w.heap.size->w'.heap[b]?=w.heap[b]?:=by intro b hb;rcases hw with rfl|rfl;exact heap_alloc_old w _ b hb;exact heap_alloc_old w.drew _ b hb
 have gF:∀b∈fps.flatten,b<w.heap.size:=by intro b hb;have hh:=E7 b hb;cases hx:g.eX b with|none=>rw[hx]at hh;cases hh|some x=>exact(h.gL b x hx).1
 let hw':Nat->Nat:=λb=>if b=w.heap.size then xs.length*e.size else g.hw b
 have ik:fQ hw' w' (.sl e) [.slice (some ⟨w.heap.size,0,none⟩) xs.length cap] xs (w.heap.size::fps.flatten):=by refine ab4 (o0:=0) ae1 tN (by rw[cx];exact hs0) hc (by simp[hw']) (FP.mono λb hb=>?_);have ix:=gF b hb;exact⟨hold b ix,by simp[hw',iC ix]⟩
 refine h.PU d (hw':=hw') (fp:=w.heap.size::fps.flatten) jH ?_ ?_ ik ?_ ?_;intro b x hx _;simp[hw',iC (h.gL b x hx).1];intro b o u ho hu;have hb:b<w.heap.size:=World.block_lt_of_cell? w _ hu;exact⟨by simp[hw',iC hb];exact ho,by rw[World.cell?_of_block (a:=⟨b,o,none⟩) (hold b hb)];exact hu⟩;exact dD.2 ⟨λhm=>Nat.lt_irrefl _ (gF _ hm),hn⟩;intro b hb;rcases bM.1 hb with rfl|hb;exact⟨by omega,.inr (bh _)⟩;exact⟨by have:=gF b hb;omega,.inl (E7 b hb)⟩
theorem ajb {z:Array Value}{c size i:Nat}(hz:z.size=size)(hi:i<c):((madeCells z (c*size)).toList.drop (i*size)).take size=z.toList:=by
 have hm:(i+1)*size<=c*size:=cJ _ hi;rw[cM,fO]at hm;apply cI;intro j;rw[jM];by_cases hj:j<size;rw[aH hj,madeCells];have h1:i*size+j<c*size:=by omega
 simp only[Array.toList_map,Array.toList_range,List.getElem?_map,List.getElem?_range h1,dE];have an7:(i*size+j)%z.size=j:=by rw[hz,Nat.mul_comm,Nat.mul_add_mod,eH hj]
 rw[an7];simp[getElem!_pos,hz,hj];rw[aG hj,bC];simp[hz];omega
theorem Px {E:Env}(hE:jR P E.ty){o:Oper}{n c:Operand}(ho:o.op=.makeSlice T n c)(h:pc C st a w){K:AS->ay R}(hk:pK E o T n c st K=some r):nC P C o a w K r:=by
 obtain⟨g,hg⟩:=id h;have hnv:=hg.rd n;have hcv:=hg.rd c;unfold pK at hk;split at hk;rename_i e len cap hT hn hc;rw[hn]at hnv;rw[hc]at hcv;split at hk;rename_i hlc;unfold room at hk;split at hk;rename_i Hz;obtain⟨te,hu,⟨inf,z,DG,vB,hby,hz,hzc⟩,_⟩:=Gp hE hT;have Jt:cap<=1073741824:=by omega
 have anU:(inf.bytes:Int)*cap<=281474976710656:=by have h1:(inf.bytes:Int)*cap<=65536*cap:=Int.mul_le_mul_of_nonneg_right (by omega) (by omega);omega
 have eU:=run_make (P:=P) w T te inf z hu DG hz .i64 .i64 len cap hlc.1 hlc.2 anU (by omega);have HB:(execOp a.eval o).run P w=.ok (.value (.slice (some ⟨w.heap.size,0,none⟩) len.toNat cap.toNat)) (w.alloc (.cells (madeCells z.cells (cap.toNat*inf.size)) te)):=by simp only[execOp,ho,jr hnv,jr hcv];show((Instr.makeSlice T (.int .i64 len) (.int .i64 cap))>>=λv=>pure (Next.value v)).run P w=_;rw[Sem.run_bind,eU];rfl
 have hzs:z.cells.size=e.size:=by rw[<-qA e,<-hzc];simp
 have hlen:(List.replicate len.toNat e.zero).length=len.toNat:=by simp
 have FP:kT g.hw w e ((madeCells z.cells (cap.toNat*inf.size)).toList.take ((List.replicate len.toNat e.zero).length*e.size)) (List.replicate len.toNat e.zero) (List.replicate len.toNat []):=by
  refine Ly (o0:=0) (cap:=cap.toNat) (by rw[size_madeCells,vB,cx]) (by rw[hlen];omega) (by simp) (λi x f hx hf=>?_);have hi:i<len.toNat:=by have:=(aC.1 hx).1;simpa using this
  rw[eL,aH hi]at hx hf;simp at hx hf;subst hx;subst hf;rw[vB,cx,ajb hzs (by omega),hzc];exact GF _ _ _
 refine⟨_,_,_,.inl HB,?_,hk⟩;have:=hg.PE o.dst (T:=te) (fr:=(0,0)) (cap:=cap.toNat) (.inl rfl) (by intro j _;simp) (by rw[size_madeCells,vB]) (by rw[hlen];omega) FP (by simp) (by simp);rw[hlen]at this;exact this;cases hk;cases hk;cases hk
theorem N9 {lo hi:ay Operand}(hg:ew C g st a w []){n:Nat}(Jt:n<=cap){K:Int->Int->ay R}(hk:nE st lo hi n K=some r)(isS:Bool): ∃x y:Int,K x y=some r/\(0<=x->x<=y->y<=n->(Instr.sliceBounds isS n cap (lo.map a.eval) (hi.map a.eval) none).run P w=.ok (x.toNat,y.toNat,cap) w):=by
 unfold nE at hk;split at hk;rename_i h1 h2;have e1:lo=none:=by cases lo<;>simp at h1⊢
 have e2:hi=none:=by cases hi<;>simp at h2⊢
 subst e1;subst e2;exact⟨0,n,hk,λ_ _ _=>by simp[Instr.sliceBounds]⟩;rename_i k p h1 h2;have e2:hi=none:=by cases hi<;>simp at h2⊢
 subst e2;cases lo with|none=>simp at h1|some lo=>simp at h1;have hv:=hg.rd lo;rw[h1]at hv;refine⟨p,n,hk,λq1 q2 q3=>?_⟩;simp[Instr.sliceBounds,Instr.sliceBound,asIntOf,jr hv,q1,q2]
 rename_i k p h1 h2;have e1:lo=none:=by cases lo<;>simp at h1⊢
 subst e1;cases hi with|none=>simp at h2|some hi=>simp at h2;have hv:=hg.rd hi;rw[h2]at hv;refine⟨0,p,hk,λq1 q2 q3=>?_⟩;simp[Instr.sliceBounds,Instr.sliceBound,asIntOf,jr hv,show 0<=p by omega,show p<=(cap:Int) by omega]
 rename_i k p k' q h1 h2;cases lo with|none=>simp at h1|some lo=>cases hi with|none=>simp at h2|some hi=>simp at h1 h2;have hv:=hg.rd lo;have hv':=hg.rd hi;rw[h1]at hv;rw[h2]at hv';refine⟨p,q,hk,λq1 q2 q3=>?_⟩;simp[Instr.sliceBounds,Instr.sliceBound,asIntOf,jr hv,jr hv',q1,show 0<=q by omega,show q<=(cap:Int) by omega];intro gF;omega
 cases hk
theorem extract_mk (s:aw UInt8)(x y:Nat):(ByteArray.mk s.toArray).extract x y=ByteArray.mk ((s.take y).drop x).toArray:=by apply ByteArray.ext;rw[ByteArray.data_extract];simp[List.extract_eq_take_drop,List.drop_take]
theorem Qt {α:Type}{xs ys:aw α}{x y:Int}(h:sub xs x y=some ys):0<=x/\x<=y/\y<=(xs.length:Int)/\ys=(xs.take y.toNat).drop x.toNat:=by unfold sub at h;split at h;rename_i hc;simp at h;exact⟨hc.1,hc.2.1,hc.2.2,h.symm⟩;cases h
theorem adQ {w:World}{S:Nat->Nat->Prop}{xs:aw e.D}(h:jG w S (.sl e) [v] xs){x y:Nat}(hxy:x<=y)(hy:y<=xs.length): ∃bo cap,v=.slice bo xs.length cap/\xs.length<=cap/\jG w S (.sl e) [.slice (if cap=x then bo else bo.map (·.add (x*e.size))) (y-x) (cap-x)] ((xs.take y).drop x):=by
 obtain⟨u,hu,h⟩:=h;simp at hu;subst hu;rcases h with⟨⟨ad,rfl⟩,rfl⟩|⟨b,o,cap,rfl,hc,h⟩;simp at hy;subst hy;have hx:x=0:=by omega
 subst hx;exact⟨ad,0,rfl,by simp,⟨_,rfl,.inl ⟨⟨ad,by simp⟩,by simp⟩⟩⟩;have hl:((xs.take y).drop x).length=y-x:=by simp;omega
 refine⟨some ⟨b,o,none⟩,cap,rfl,hc,⟨_,rfl,.inr ?_⟩⟩;by_cases hcx:cap=x;refine⟨b,o,cap-x,by rw[aH hcx,hl],by rw[hl];omega,λi z hz=>?_⟩;have:((xs.take y).drop x)=[]:=cm (by rw[hl];omega);rw[this]at hz;simp at hz;refine⟨b,o+x*e.size,cap-x,by rw[aG hcx,hl];simp[nZ],by rw[hl];omega,λi z hz=>?_⟩;have hz':xs[x+i]?=some z:=by rw[bS,dW]at hz;split at hz;exact hz;cases hz
 obtain⟨cs,K2,hr⟩:=h (x+i) z hz';refine⟨cs,?_,hr⟩;have:o+x*e.size+i*e.size=o+(x+i)*e.size:=by rw[cM];omega
 rw[this];exact K2
theorem ajt {w:World}{xs:aw e.D}{fp:fE}(h:fQ hw w (.sl e) [v] xs fp){n:Nat}(hn:n<=xs.length): ∃bo cap,v=.slice bo xs.length cap/\xs.length<=cap/\∃kK,fQ hw w (.sl e) [.slice (if cap=n then bo else bo.map (·.add (n*e.size))) (xs.length-n) (cap-n)] (xs.drop n) kK/\(∀b∈kK,b∈fp)/\(fp.Nodup->kK.Nodup):=by
 obtain⟨u,hu,h⟩:=h;simp at hu;subst hu;rcases h with⟨⟨ad,rfl⟩,rfl,rfl⟩|⟨b,o0,cap,arr,T,fr,fps,rfl,hb,tN,hs,hc,hh,rfl,hl,hr⟩;simp at hn;subst hn;exact⟨ad,0,rfl,by simp,[],⟨_,rfl,.inl ⟨⟨ad,by simp⟩,rfl,rfl⟩⟩,by simp,by simp⟩;refine⟨some ⟨b,o0,none⟩,cap,rfl,hc,?_⟩;by_cases hcn:cap=n;have hx:xs.drop n=[]:=dg (by omega);refine⟨[],⟨_,rfl,.inl ⟨⟨some ⟨b,o0,none⟩,by rw[aH hcn,show xs.length-n=0 by omega,show cap-n=0 by omega]⟩,hx,rfl⟩⟩,by simp,by simp⟩;have hm1:cap*e.size=n*e.size+(cap-n)*e.size:=by rw[<-cM];congr 1;omega
 have hm2:xs.length*e.size=n*e.size+(xs.length-n)*e.size:=by rw[<-cM];congr 1;omega
 refine⟨b::(fps.drop n).flatten,⟨_,rfl,.inr ⟨b,o0+n*e.size,cap-n,arr,T,fr,fps.drop n,by rw[aG hcn];simp[nZ],hb,tN,by omega,by simp;omega,by simp;omega,rfl,by simp[hl],λi x f hx hf=>?_⟩⟩,?_,?_⟩;rw[bS]at hx hf;have:=hr (n+i) x f hx hf;rwa[cM,<-gi]at this;intro c Co;rcases bM.1 Co with rfl|Co;simp;obtain⟨l,hl1,Bq⟩:=List.mem_flatten.1 Co;exact eR _ (List.mem_flatten.2 ⟨l,List.mem_of_mem_drop hl1,Bq⟩);intro GX;have h1:=dD.1 GX;have e1:fps.flatten=(fps.take n).flatten++(fps.drop n).flatten:=by rw[<-eI,cE]
 rw[e1]at h1;exact dD.2 ⟨λhm=>h1.1 (by simp[hm]),(aN.1 h1.2).2.1⟩
theorem af8 {an:An}{o:Oper}{ep:Nat}{pv:ay (lh×Nat)}{p:Int}:PJ an o (.loc ep pv) p=.loc ep none\/∃rt t,pv=some (rt,t)/\PJ an o (.loc ep pv) p=.part ep rt t p:=by
 unfold PJ;split;rename_i ep' r t d h _;cases h;cases an.nest.contains d with|false=>exact .inl rfl|true=>exact .inr ⟨_,_,rfl,rfl⟩
 exact .inl rfl
theorem P9 {E:Env}(hE:jR P E.ty){o:Oper}{lo hi:ay Operand}(ho:o.op=.slice T x lo hi none)(h:pc C st a w){K:AS->ay R}(hk:ye E o T x lo hi st K=some r):nC P C o a w K r:=by
 obtain⟨g,hg⟩:=h;unfold ye at hk;split at hk;rename_i tag e xs bU kd p ue hlo;split at hk;rename_i hT;cases lo with
 |none=>simp at hlo
 |some lo=>
  simp at hlo;have hlv:=hg.rd lo;rw[hlo]at hlv;obtain⟨te,hu,⟨inf,z,DG,vB,_⟩,_⟩:=Gp hE hT;obtain⟨g',oX⟩:=hg.take x;rw[ue]at oX;simp only[ch]at oX;cases qO:sub xs p xs.length with
  |none=>rw[qO]at hk;cases hk
  |some QM=>
   rw[qO]at hk;simp only[aa]at hk;obtain⟨h1,h2,_,rfl⟩:=Qt qO;obtain⟨fp,fG,GX,hl⟩:=oX.hands 0 _ _ rfl;have ik:=(fb fG).1;obtain⟨bo,cap,hv,Jt,kK,Jw,aqz,UA⟩:=ajt ik (n:=p.toNat) (by omega);have eU:(execOp a.eval o).run P w=.ok (.value (.slice (if cap=p.toNat then bo else bo.map (·.add (p.toNat*e.size))) (xs.length-p.toNat) (cap-p.toNat))) w:=by
    have hb:(Instr.sliceBounds true xs.length cap (some (a.eval lo)) none none).run P w=.ok (p.toNat,xs.length,cap) w:=by have hp2:p<=(xs.length:Int):=h2;simp[Instr.sliceBounds,Instr.sliceBound,asIntOf,jr hlv,h1,hp2]
    simp only[execOp,ho,hv,Instr.sliceAt,Instr.slice,underlying,Option.map_none,dE,Sem.run_bind,run_program,hu,Result.andThen_ok,Sem.run_pure,hb,sizeOf,typeInfo,DG,vB]
   have Cp:(xs.take ((xs.length:Int).toNat)).drop p.toNat=xs.drop p.toNat:=by rw[ax,cO]
   rw[Cp]at hk;refine⟨_,_,_,.inl eU,?_,hk⟩;refine oX.PU o.dst (hw':=g'.hw) (fp:=kK) (Fr.refl _ _) (λ_ _ _ _=>rfl) (λ_ _ _ ho hu=>⟨ho,hu⟩) Jw (UA GX) (λb hb=>?_);have:=hl b (aqz b hb);exact⟨(oX.gL b _ this).1,.inl (by rw[this];rfl)⟩
 cases hk;cases hk
theorem acx {E:Env}(hE:jR P E.ty){an:An}{o:Oper}{lo hi:ay Operand}(ho:o.op=.slice T x lo hi none)(h:pc C st a w){K:AS->ay R}(hk:Ce E an o T x lo hi st K=some r):nC P C o a w K r:=by
 obtain⟨g,hg⟩:=id h;have wa:=hg.fresh (hg.rd x);unfold Ce at hk;split at hk;exact P9 hE ho h hk;split at hk;rename_i s hx;rw[hx]at wa;split at hk;rename_i hT;have hu:=Vx hE hT;have hv:=(fb wa).1;obtain⟨p,q,Uz,eU⟩:=N9 (P:=P) (w:=w) hg (bh s.length) hk false;cases qO:sub s p q with|none=>rw[qO]at Uz;cases Uz|some s'=>rw[qO]at Uz;simp only[aa]at Uz;obtain⟨h1,h2,h3,rfl⟩:=Qt qO;have hb:=eU h1 h2 h3;refine wm h _ _ ?_ (NN _) Uz;simp only[execOp,ho,hv,Instr.sliceAt,Instr.slice,underlying,Option.map_none,Sem.run_bind,run_program,hu,Result.andThen_ok,Sem.run_pure,yN,hb,Option.isSome_none,bm,cv,extract_mk]
 cases hk;rename_i fl e xs hx;rw[hx]at wa;split at hk;rename_i hT;obtain⟨hT,qa⟩:=hT;obtain⟨te,hu,⟨inf,z,DG,vB,_⟩,_⟩:=Gp hE hT;have hc:=fb wa
 have key:∀(S:Nat->Nat->Prop),jG w S (.sl e) [a.eval x] xs->(∀(p q:Int)(bo:ay Addr)(cap:Nat),0<=p->p<=q->q<=xs.length->xs.length<=cap->a.eval x=.slice bo xs.length cap->
  jG w S (.sl e) [.slice (if cap=p.toNat then bo else bo.map (·.add (p.toNat*e.size))) (q.toNat-p.toNat) (cap-p.toNat)] ((xs.take q.toNat).drop p.toNat)->
  iq (db C g st w) (.slice (if cap=p.toNat then bo else bo.map (·.add (p.toNat*e.size))) (q.toNat-p.toNat) (cap-p.toNat)) (.sl (PJ an o fl p) e ((xs.take q.toNat).drop p.toNat)) [])->nC P C o a w K r:=by
  intro S Jy hmk
  have Jt:∃bo cap,a.eval x=.slice bo xs.length cap/\xs.length<=cap:=by obtain⟨bo,cap,hv,hc,_⟩:=adQ Jy (x:=0) (y:=0) (bh _) (cf _);exact⟨bo,cap,hv,hc⟩
  obtain⟨bo,cap,hv,Jt⟩:=Jt
  obtain⟨p,q,Uz,eU⟩:=N9 (P:=P) (w:=w) hg Jt hk true
  cases qO:sub xs p q with
  |none=>rw[qO]at Uz;cases Uz
  |some QM=>
   rw[qO]at Uz
   simp only[aa]at Uz
   obtain⟨h1,h2,h3,rfl⟩:=Qt qO
   have hb:=eU h1 h2 h3
   obtain⟨bo',awd,hv',_,aiF⟩:=adQ Jy (x:=p.toNat) (y:=q.toNat) (by omega) (by omega)
   rw[hv]at hv'
   simp only[Value.slice.injEq,true_and]at hv'
   obtain⟨rfl,rfl⟩:=hv'
   refine⟨.slice (if cap=p.toNat then bo else bo.map (·.add (p.toNat*e.size))) (q.toNat-p.toNat) (cap-p.toNat),w,_,.inl ?_,⟨g,hg.quiet o.dst (nq (hmk p q _ _ h1 h2 h3 Jt hv aiF))⟩,Uz⟩
   simp only[execOp,ho,hv,Instr.sliceAt,Instr.slice,underlying,Option.map_none,Sem.run_bind,run_program,hu,Result.andThen_ok,Sem.run_pure,hb,sizeOf,typeInfo,DG,vB]
 cases fl with
 |own t=>cases qa
 |nest _ _ _ _ _ _=>cases qa
 |part _ _ _ _=>cases qa
 |fR _ _ _=>cases qa
 |arg _=>exact key _ hc.2 (λp q bo cap _ _ _ _ _ hr=>by simp only[PJ,rE.bare];exact⟨rfl,hr⟩)
 |loc ep pv=>
  have Ac:ep=st.ep:=by simpa[rE.live]using qa
  refine key _ (hc.2.2.2.1 Ac) (λp q bo cap hp hpq hq Jt hv hr=>?_);have hlen:((xs.take q.toNat).drop p.toNat).length=q.toNat-p.toNat:=by simp;omega
  have plain:iq (db C g st w) (.slice (if cap=p.toNat then bo else bo.map (·.add (p.toNat*e.size))) (q.toNat-p.toNat) (cap-p.toNat)) (.sl (.loc ep none) e ((xs.take q.toNat).drop p.toNat)) []:=⟨rfl,hc.2.1,⟨_,_,_,rfl,hlen.symm⟩,λ_=>hr,by simp⟩
  rcases af8 (an:=an) (o:=o) (ep:=ep) (pv:=pv) (p:=p)with hpf|⟨rt,t,rfl,hpf⟩;rw[hpf];exact plain;rw[hpf];refine⟨rfl,hc.2.1,⟨_,_,_,rfl,hlen.symm⟩,λ_=>?_⟩;have HA:=hc.2.2.2.2 rt t rfl;refine⟨HA.1,?_⟩;by_cases hz:q.toNat-p.toNat=0;exact .inl (cm (by rw[hlen];exact hz));right;obtain⟨u,hu,Jy⟩:=hc.2.2.2.1 Ac;simp at hu;rcases Jy with⟨_,rfl⟩|⟨b,o0,Z8,UE,hc2,_⟩;simp at hlen;omega;rw[<-hu,hv]at UE;simp only[Value.slice.injEq,true_and]at UE;obtain⟨rfl,rfl⟩:=UE;refine⟨p.toNat,b,o0,xs.length,cap,cap-p.toNat,by omega,by rw[<-HA.2,hv],by rw[hlen];omega,?_⟩;rw[nX,hlen];simp[nZ]
 cases hk;cases hk
theorem V9 {E:Env}(hE:jR P E.ty)(h:E.bytes T=true):∃te,P.underlying T=some (.slice te)/\P.underlying te=some (.int .u8):=by unfold Env.bytes at h;split at h;rename_i te n hT;split at h;rename_i kx hte;obtain⟨te',hu,_,ho⟩:=(hE T _ hT).sl _ rfl rfl;have:=ho te n rfl;subst this;exact⟨te,hu,(hE te _ hte).int _ rfl rfl⟩;cases h;cases h
theorem agk {w:World}{S:Nat->Nat->Prop}{xs:bP}(h:jG w S (.sl (.int .u8)) [v] xs): ((∃a,v=.slice a 0 0)/\xs=[])\/∃b o cap,v=.slice (some ⟨b,o,none⟩) xs.length cap/\∀i,i<xs.length->w.cell? ⟨b,o+i,none⟩=some (.int .u8 (xs.getD i 0)):=by obtain⟨u,hu,h⟩:=h;simp at hu;subst hu;rcases h with h|⟨b,o,cap,hv,_,h⟩;exact .inl h;refine .inr ⟨b,o,cap,hv,λi hi=>?_⟩;obtain⟨cs,K2,hr⟩:=h i xs[i] (ak hi);have hr':cs=[.int .u8 xs[i]]:=hr;subst hr';have:=(K2 0 _ rfl).2;simp only[CT.size,oa,eG]at this;rw[this];simp[List.getD,ak hi]
theorem TM {E:Env}(hE:jR P E.ty){o:Oper}{src dst:TypeId}(ho:o.op=.convert src dst x)(h:pc C st a w){K:AS->ay R}(hk:mI E o src dst x st K=some r):nC P C o a w K r:=by
 obtain⟨g,hg⟩:=id h;have wa:=hg.rd x;have fin:∀v w',(convert src dst (a.eval x)).run P w=.ok v w'->(execOp a.eval o).run P w=.ok (.value v) w':=by intro v w' hr;simp only[execOp,ho];show(convert src dst (a.eval x)>>=λv=>pure (Next.value v)).run P w=_;rw[Sem.run_bind,hr];rfl
 have under:∀(T:TypeId)(sh:Shape),jD E.ty T=some sh->∃d,P.underlying T=some d:=by
  intro T sh hT;have oY:=hE T sh hT;cases NH:sh.agg with
  |true=>obtain⟨fs,hu,_⟩:=oY.agg NH;exact⟨_,hu⟩
  |false=>
   cases Mk:sh.ct with
   |int k=>exact⟨_,oY.int k Mk NH⟩
   |bool=>exact⟨_,oY.bool Mk NH⟩
   |str=>exact⟨_,oY.str Mk NH⟩
   |sl e=>obtain⟨te,hu,_⟩:=oY.sl e Mk NH;exact⟨_,hu⟩
   |pair p q=>have:=oY.pair p q Mk;rw[NH]at this;cases this
 unfold mI at hk;split at hk;rename_i ssh k kx k' n hs hd hx;rw[hx]at wa;obtain⟨ds,hus⟩:=under _ _ hs;have hud:=(hE dst _ hd).int k rfl rfl;refine wm h _ _ (fin (.int k (k.wrap n)) w ?_) (kO _ _) hk;rw[jr wa];simp only[convert,underlying,Sem.run_bind,run_program,hus,hud,Result.andThen_ok,Sem.run_pure];rfl;rename_i kx awb s hs hd hx;rw[hx]at wa;have hus:=(hE src _ hs).str rfl rfl;have hud:=(hE dst _ hd).str rfl rfl;refine wm h _ _ (fin (.string ⟨s.toArray⟩) w ?_) (NN _) hk;rw[(fb wa).1];simp only[convert,underlying,Sem.run_bind,run_program,hus,hud,Result.andThen_ok,Sem.run_pure];rename_i kx sh s Nh hs hd hx;rw[hx]at wa;split at hk;rename_i hb;unfold room at hk;split at hk;obtain⟨te,hu,hte⟩:=V9 hE hb;have hus:=(hE src _ hs).str rfl rfl;have eU:=run_bytes_of_string (P:=P) w src dst te ⟨s.toArray⟩ hus hu hte;rw[<-(fb wa).1,yN]at eU;refine⟨_,_,_,.inl (fin _ _ eU),?_,hk⟩;have BQ:=grownCap_ge w s.length 0 te;have vB:(bytesRow ⟨s.toArray⟩ (grownCap w s.length 0 te)).size=grownCap w s.length 0 te*CT.size (.int .u8):=by simp only[bytesRow,Array.size_append,Array.size_map,Array.size_replicate,yN,CT.size];simp;omega
 have ue:(bytesRow ⟨s.toArray⟩ (grownCap w s.length 0 te)).toList.take ((dz s).length*CT.size (.int .u8))=(dz s).map (Value.int .u8):=by simp only[bytesRow,dz,CT.size,Array.toList_append,Array.toList_map];rw[List.take_append_of_le_length (by simp)];rw[cd (by simp)];simp
 have FP:kT g.hw w (.int .u8) ((bytesRow ⟨s.toArray⟩ (grownCap w s.length 0 te)).toList.take ((dz s).length*CT.size (.int .u8))) (dz s) (List.replicate s.length []):=by
  rw[ue];refine⟨by simp[CT.size],by simp[dz],λi y f hy hf=>?_⟩;have hi:i<(dz s).length:=(aC.1 hy).1;have hf':f=[]:=by rw[eL]at hf;split at hf<;>simp at hf;exact hf
  subst hf';refine⟨?_,rfl⟩;apply cI;intro j;rw[jM];simp only[CT.size,oa];cases j with|zero=>simp[hy]|succ j=>simp
 have hlen:(dz s).length=s.length:=by simp[dz]
 have:=hg.PE o.dst (T:=te) (fr:=((bytesRow ⟨s.toArray⟩ (grownCap w s.length 0 te)).size,(bytesRow ⟨s.toArray⟩ (grownCap w s.length 0 te)).size+1)) (cap:=grownCap w s.length 0 te) (.inr rfl) (by intro j hj hc;simp only at hc;omega) vB (by rw[hlen];exact BQ) FP (by simp) (by simp);rw[hlen]at this;exact this;cases hk;cases hk;rename_i ssh kx fl xs hs hd hx;rw[hx]at wa;split at hk;rename_i hb;obtain⟨hb,qa⟩:=hb;obtain⟨te,hu,hte⟩:=V9 hE hb;have hud:=(hE dst _ hd).str rfl rfl;have hc:=fb wa;have Jy:∃S,jG w S (.sl (.int .u8)) [a.eval x] xs:=by
  cases fl with
  |own t=>cases qa
  |nest _ _ _ _ _ _=>cases qa
  |part _ _ _ _=>cases qa
  |fR _ _ _=>cases qa
  |arg _=>exact⟨_,hc.2⟩
  |loc ep pv=>
   have Ac:ep=st.ep:=by simpa[rE.live]using qa
   exact⟨_,hc.2.2.2.1 Ac⟩
 obtain⟨S,Jy⟩:=Jy;refine wm h _ _ (fin (.string ⟨(aM xs).toArray⟩) w ?_) (NN _) hk;rcases agk Jy with⟨⟨ad,hv⟩,rfl⟩|⟨b,ob,cap,hv,DE⟩;cases ad with|none=>rw[hv,run_convert_bytes_nil w src te hu hte 0 0 dst hud];rfl|some ad=>rw[hv];exact run_convert_bytes_back w src dst te ad 0 [] hu hte hud (λj hj=>by simp at hj)
 rw[hv,run_convert_bytes_arg w src te hu hte b ob xs.length cap xs rfl DE dst hud];rfl;cases hk;cases hk
end Go.Dn
