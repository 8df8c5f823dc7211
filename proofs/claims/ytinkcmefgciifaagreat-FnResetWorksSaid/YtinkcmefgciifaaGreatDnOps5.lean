import Derived.Test.YtinkcmefgciifaaGreatDnOps4
import Derived.Laws.MakeOwn
import Derived.Laws.IdiomStrings
import Derived.Laws.BytesArg
/- Part 5: tuples, parts of slices, conversions, structs and slices that are built. -/
namespace Go.Dn
open Go.RowKit
variable {P:Program} {C:Ctx} {st:AS} {a:Act} {w:World} {R:Type} {r:R}
variable {arr:Array Value} {e:CT} {g:Gh} {cap:Nat} {fr:Nat×Nat} {hw:Nat->Nat} {x:Operand} {T:TypeId} {v:Value} {hs:az (Value×AV)} {fps:az gk} {news:jT}
theorem sD.at {c:RC}:∀{ws:jT}{ts:az (Bool×az AC)}{fp:gk},iu.sD c ws ts fp->∀{i:Nat}{g:Bool}{cs:az AC},ts[i]?=some (g,cs)->
 ∃v f1 f2 f3,ws[i]?=some v/\fp=f1++f2++f3/\(∃us,Cut g v us/\bT c us cs f2)/\
  ∀c':RC,c.Le c'->(∀b∈f1++f3,c'.w.heap[b]?=c.w.heap[b]?/\c'.hw b=c.hw b)->∀sF,(∃us,Cut g v us/\bT c' us sF [])->iu.sD c' ws (ts.set i (g,sF)) (f1++f3)
 |[],[],_,_,i,g,cs,h=>by simp at h
 |w::ws,t::ts,_,r,0,g,cs,h=>by obtain⟨f1,f2,rfl,r1,r2⟩:=r;simp at h;subst h;exact⟨w,[],f1,f2,rfl,by simp,r1,λc' hle hb sF zV=>⟨[],f2,rfl,zV,sD.mono hle r2 (λb iB=>hb b (by simpa using iB))⟩⟩
 |w::ws,t::ts,_,r,i+1,g,cs,h=>by obtain⟨f1,f2,rfl,r1,r2⟩:=r;obtain⟨v,g1,g2,g3,hv,rfl,hr,F1⟩:=sD.at r2 (i:=i) (by simpa using h);refine⟨v,f1++g1,g2,g3,by simpa using hv,by simp,hr,λc' hle hb sF zV=>?_⟩;obtain⟨us,gJ,ga⟩:=r1;rw[aE];refine⟨f1,g1++g3,rfl,⟨us,gJ,ga.mono hle (λb iB=>hb b (by simp[iB]))⟩,?_⟩;exact F1 c' hle (λb iB=>hb b (by rcases ay.1 iB with k|k<;>simp[k])) sF zV
 |[],_::_,_,r,_,_,_,_=>r.elim
 |_::_,[],_,r,_,_,_,_=>r.elim
theorem T6 {o:Oper}{t i:Nat}(ho:o.op=.extract (.tmp t) i)(h:pT C st a w){K:AS->aC R}(hk:nA o t i st K=some r):ox P C o a w K r:=by
 obtain⟨g,h⟩:=h;unfold nA at hk;split at hk;rename_i ts hg;split at hk;rename_i gg cs hn;rw[eT]at hn;have htl:t<st.slots.length:=by
  rcases ca t st.slots.length with iz|BC;exact iz;have:st.get t=.bot:=by simp[AS.get,eT,bS BC]
  rw[this]at hg;cases hg
 obtain⟨fp,hr,GW,hl⟩:=h.slot t;rw[hg]at hr;obtain⟨ws,hv,hr⟩:=hr;obtain⟨v,f1,f2,f3,hwv,rfl,Sa,F1⟩:=sD.at hr hn;have fG:(execOp a.eval o).run P w=.ok (.value v) w:=by have he:a.eval (.tmp t)=.tuple ws.toArray:=hv;simp[execOp,ho,he,Instr.extract,hwv]
 have Un:=GW;rw[aE]at Un;have n1:=aO.1 Un;have n2:=aO.1 n1.2.1;let QO:AV:=.xN (jt ts i (gg,bg 0 cs));let cc:AS:=st.put (some t) QO;let g':Gh:={g with fL:=λb=>if b∈f2 then some (.hand 0) else g.fL b}
 have hle:(dp C g st w).Le (dp C g' cc w):=by have:= @UB C g st w (some t) QO;exact⟨this.A,this.hdr,this.VN,this.ep,this.JT,this.aeN⟩
 have YE:∀b y,g.fL b=some y->b∉f2->g'.fL b=some y:=by intro b y hb hm;show(if b∈f2 then _ else _)=_;rw[aI hm];exact hb
 have M4:∀b y,y≠ .slot t->g.fL b=some y->b∉f2:=λb y hy hb hm=>hy (by have:=hl b (by simp[hm]);rw[hb]at this;simpa using this);have al3:eX C g' cc a w [(v,.val gg cs)]:=by
  refine h.step (λy=>y≠ .slot t) hle h.defers (by show _=(st.put (some t) QO).slots.length;rw[gW,aD];exact h.size) (by show(st.put (some t) QO).boxes.length=(st.put (some t) QO).slots.length;rw[mr,gW,aD];exact h.bsize) h.frame ?_ (λb y hy hb=>⟨YE b y hb (M4 b y hy hb),rfl,rfl⟩) ?_ ?_ ?_ (.inl ⟨by simp,KY⟩);intro b y hy;have Vs:(if b∈f2 then some (lI.hand 0) else g.fL b)=some y:=hy;by_cases hm:b∈f2;exact h.iw b _ (hl b (by simp[hm]));rw[aI hm]at Vs;exact h.iw b y Vs;intro j bv hj;have hj':(st.slots.set t QO)[j]?=some bv:=by rw[<-gW];exact hj
  by_cases hjt:j=t;subst hjt;rw[bL]at hj';simp only[cr,htl]at hj';simp at hj';subst hj';refine .inr ⟨f1++f3,⟨ws,hv,?_⟩,?_,?_⟩;rw[gL];obtain⟨us,gJ,ga⟩:=Sa;refine F1 _ hle (λb _=>⟨rfl,rfl⟩) _ ⟨us,gJ,?_⟩;exact(ga.abH).mono hle (by simp);refine aO.2 ⟨n1.1,n2.2.1,?_⟩;rintro b hb c hc rfl;exact n1.2.2 b hb b (bm _ hc) rfl;intro b hb;refine YE b _ (hl b (by rcases ay.1 hb with k|k<;>simp[k])) (λhm=>?_);rcases ay.1 hb with k|k;exact n1.2.2 b k b (aU _ hm) rfl;exact n2.2.2 b hm b k rfl;rw[aF (cd hjt)]at hj';exact .inl ⟨by simpa using hjt,hj',rfl⟩;intro s sF hb;have iB:st.boxes[s]?=some (some sF):=by rw[<-mr (d:=some t) (v:=QO)];exact hb
  exact .inl ⟨by simp,iB,rfl⟩;intro k u bv FY;cases k with
  |zero=>simp only[cR,bw,Prod.mk.injEq]at FY;obtain⟨rfl,rfl⟩:=FY;obtain⟨us,gJ,ga⟩:=Sa;refine .inr ⟨f2,⟨us,gJ,ga.mono hle (λb _=>⟨rfl,rfl⟩)⟩,n2.1,λb hb=>?_⟩;show(if b∈f2 then _ else _)=_;rw[aJ hb]
  |succ k=>simp at FY
 exact⟨v,w,_,.inl fG,eX.EJ al3 o.dst,hk⟩;cases hk;cases hk
def md (hw:Nat->Nat)(w:World)(e:CT)(news:jT)(ys:az e.D)(fps:az gk):Prop:=
 news.length=ys.length*e.size/\fps.length=ys.length/\∀(i:Nat)(y:e.D)(f:gk),ys[i]?=some y->fps[i]?=some f->gG hw w e ((news.drop (i*e.size)).take e.size) y f
theorem md.append {w:World}{n1 n2:jT}{xs ys:az e.D}{f1 f2:az gk}(h1:md hw w e n1 xs f1)(h2:md hw w e n2 ys f2): md hw w e (n1++n2) (xs++ys) (f1++f2):=by
 obtain⟨a1,a2,a3⟩:=h1;obtain⟨b1,b2,b3⟩:=h2;refine⟨by rw[aj,aj,a1,b1,df],by simp[a2,b2],λi y f hy hf=>?_⟩;by_cases hi:i<xs.length;rw[bu hi]at hy;rw[bu (by omega)]at hf;have hm:(i+1)*e.size<=xs.length*e.size:=cU _ hi;rw[df,gB]at hm;have:=a3 i y f hy hf;have e1:((n1++n2).drop (i*e.size)).take e.size=(n1.drop (i*e.size)).take e.size:=by rw[List.drop_append_of_le_length (by omega),List.take_append_of_le_length (by rw[aP];omega)]
 rw[e1];exact this;rw[bE (by omega)]at hy;rw[bE (by omega),a2]at hf;have:=b3 _ y f hy hf;have BC:xs.length*e.size<=i*e.size:=cU _ (by omega);have e1:(n1++n2).drop (i*e.size)=n2.drop ((i-xs.length)*e.size):=by rw[List.drop_append,cx (by omega),bX,a1,Nat.sub_mul]
 rw[e1];exact this
theorem md.mono {hw':Nat->Nat}{w w':World}{ys:az e.D}(h:md hw w e news ys fps)(hk:∀b∈fps.flatten,w'.heap[b]?=w.heap[b]?/\hw' b=hw b):md hw' w' e news ys fps:=⟨h.1,h.2.1,λi y f hy hf=>gG.mono (h.2.2 i y f hy hf) λb hb=>hk b (List.mem_flatten.2 ⟨f,aQ hf,hb⟩)⟩
theorem md.nil (hw:Nat->Nat)(w:World)(e:CT):md hw w e [] [] []:=⟨by simp,rfl,by simp⟩
theorem md.oI {w:World}{ys:az e.D}(h:md hw w e news ys fps):∀v∈news,v.oneCell'=true:=by
 intro v hv;obtain⟨j,hj,hjv⟩:=List.mem_iff_getElem.1 hv;have ady:=e.size_pos;have hi:j/e.size<ys.length:=by rw[Nat.div_lt_iff_lt_mul ady];rw[<-h.1];exact hj
 have jl:=h.2.2 (j/e.size) _ _ (aq hi) (aq (by rw[h.2.1];exact hi));refine gG.oI jl v ?_;rw[List.mem_iff_getElem?];refine⟨j%e.size,?_⟩;rw[kE,aJ (Nat.mod_lt _ ady),Nat.mul_comm,Nat.div_add_mod,aq hj,hjv]
theorem aaU {w:World}{b o0:Nat}{xs:az e.D}(hb:w.heap[b]?=some (.cells arr T fr))(uj:rH arr fr)(hs:arr.size=o0+cap*e.size)(hc:xs.length<=cap)(hh:hw b=o0+xs.length*e.size)(FV:md hw w e ((arr.toList.drop o0).take (xs.length*e.size)) xs fps): gG hw w (.sl e) [.slice (some ⟨b,o0,none⟩) xs.length cap] xs (b::fps.flatten):=by
 refine⟨_,rfl,.inr ⟨b,o0,cap,arr,T,fr,fps,rfl,hb,uj,hs,hc,hh,rfl,FV.2.1,λi x f hx hf=>?_⟩⟩;have:=FV.2.2 i x f hx hf;have hi:i<xs.length:=(aB.1 hx).1;have hm:(i+1)*e.size<=xs.length*e.size:=cU _ hi;rw[df,gB]at hm;have e1:(((arr.toList.drop o0).take (xs.length*e.size)).drop (i*e.size)).take e.size=(arr.toList.drop (o0+i*e.size)).take e.size:=by apply de;intro j;rw[kE,kE,kE];by_cases hj:j<e.size;rw[aJ hj,aJ hj,zip,gw];rw[aI hj,aI hj]
 rw[e1]at this;exact this
theorem Lg {w:World}{o0:Nat}{xs:az e.D}(hs:arr.size=o0+cap*e.size)(hc:xs.length<=cap)(hl:fps.length=xs.length)(h:∀(i:Nat)(x:e.D)(f:gk),xs[i]?=some x->fps[i]?=some f->gG hw w e ((arr.toList.drop (o0+i*e.size)).take e.size) x f):md hw w e ((arr.toList.drop o0).take (xs.length*e.size)) xs fps:=by
 refine⟨?_,hl,λi x f hx hf=>?_⟩;have hal:(arr.toList.drop o0).length=cap*e.size:=by rw[aP,Array.length_toList,hs];omega
 rw[aY,hal];exact jv (cU _ hc);have hi:i<xs.length:=(aB.1 hx).1;have hm:(i+1)*e.size<=xs.length*e.size:=cU _ hi;rw[df,gB]at hm;have e1:(((arr.toList.drop o0).take (xs.length*e.size)).drop (i*e.size)).take e.size=(arr.toList.drop (o0+i*e.size)).take e.size:=by apply de;intro j;rw[kE,kE,kE];by_cases hj:j<e.size;rw[aJ hj,aJ hj,zip,gw];rw[aI hj,aI hj]
 rw[e1];exact h i x f hx hf
theorem OE {w w':World}{S:Nat->Nat->Prop}:∀{e:CT}{vs:jT}{x:e.D},kA w' S e vs x->e.flat=true->gG hw w e vs x []
 | .int _,_,_,h,_=>⟨h,rfl⟩
 | .bool,_,_,h,_=>⟨h,rfl⟩
 | .str,_,_,h,_=>⟨h,rfl⟩
 | .sl _,_,_,_,hf=>by cases hf
 | .pair a b,_,_,h,hf=>by obtain⟨v1,v2,rfl,h1,h2⟩:=h;simp only[CT.flat,ae]at hf;exact⟨v1,v2,[],[],rfl,rfl,OE h1 hf.1,OE h2 hf.2⟩
def OS (hdr:Nat->Value)(t:aC Nat)(v:Value):Nat->Value:=λu=>if t=some u then v else hdr u
theorem Z2 {hdr:Nat->Value}{d:aC Nat}{t:Nat}(h:oz st t):OS hdr (st.jz d 0) v t=hdr t:=by unfold OS;rw[aI];intro e;exact(rr e).1 h
theorem eX.PZ (h:eX C g st a w hs)(d:aC Nat){xs:az e.D}{fp:gk}{w':World}{hw':Nat->Nat}(kB:Fr (λb=>eM (g.fL b)) w w')(GV:∀b x,g.fL b=some x->¬eM (some x)->hw' b=g.hw b)(Je:∀b o u,o<g.hw b->w.cell? ⟨b,o,none⟩=some u->o<hw' b/\w'.cell? ⟨b,o,none⟩=some u)(jl:gG hw' w' (.sl e) [v] xs fp)(hn:fp.Nodup)(Fh:∀b∈fp,b<w'.heap.size/\(eM (g.fL b)\/w.heap.size<=b)): pT C (st.rF d e xs) (a.put d v) w':=by refine h.PY d (st1:=st.gO d) (hdr':=OS g.hdr (st.jz d 0) v) JA vZ Cv BO (λt ht=>⟨EC ht,Z2 ht⟩) kB GV Je (oc ⟨jl,λt ht=>?_⟩) hn Fh;refine⟨(rr ht).2.1,?_⟩;show v=OS g.hdr (st.jz d 0) v t;unfold OS;rw[aJ ht]
theorem eX.PC (h:eX C g st a w hs)(d:aC Nat){xs:az e.D}{w':World}(hw:w'=w.alloc (.cells arr T fr)\/w'=w.drew.alloc (.cells arr T fr))(uj:rH arr fr)(hs0:arr.size=cap*e.size)(hc:xs.length<=cap)(FV:md g.hw w e (arr.toList.take (xs.length*e.size)) xs fps)(hn:fps.flatten.Nodup)(Fh:∀b∈fps.flatten,eM (g.fL b)): pT C (st.rF d e xs) (a.put d (.slice (some ⟨w.heap.size,0,none⟩) xs.length cap)) w':=by
 have kB:Fr (λb=>eM (g.fL b)) w w':=by rcases hw with rfl|rfl;exact Fr.alloc _ _ _;exact(Fr.drew _ w).trans (Fr.alloc _ _ _) (λb _ hh=>hh)
 have Wy:w'.heap[w.heap.size]?=some (.cells arr T fr):=by rcases hw with rfl|rfl;exact heap_alloc_new w _;exact heap_alloc_new w.drew _
 have wq:w'.heap.size=w.heap.size+1:=by rcases hw with rfl|rfl<;>simp
 have hold:∀b,b<w.heap.size->w'.heap[b]?=w.heap[b]?:=by intro b hb;rcases hw with rfl|rfl;exact heap_alloc_old w _ b hb;exact heap_alloc_old w.drew _ b hb
 have iz:∀b∈fps.flatten,b<w.heap.size:=by intro b hb;have hh:=Fh b hb;cases hx:g.fL b with|none=>rw[hx]at hh;cases hh|some x=>exact(h.iw b x hx).1
 let hw':Nat->Nat:=λb=>if b=w.heap.size then xs.length*e.size else g.hw b
 have jl:gG hw' w' (.sl e) [.slice (some ⟨w.heap.size,0,none⟩) xs.length cap] xs (w.heap.size::fps.flatten):=by refine aaU (o0:=0) Wy uj (by rw[cP];exact hs0) hc (by simp[hw']) (FV.mono λb hb=>?_);have iB:=iz b hb;exact⟨hold b iB,by simp[hw',jo iB]⟩
 refine h.PZ d (hw':=hw') (fp:=w.heap.size::fps.flatten) kB ?_ ?_ jl ?_ ?_;intro b x hx _;simp[hw',jo (h.iw b x hx).1];intro b o u ho hu;have hb:b<w.heap.size:=World.block_lt_of_cell? w _ hu;exact⟨by simp[hw',jo hb];exact ho,by rw[World.cell?_of_block (a:=⟨b,o,none⟩) (hold b hb)];exact hu⟩;exact dK.2 ⟨λhm=>Nat.lt_irrefl _ (iz _ hm),hn⟩;intro b hb;rcases cD.1 hb with rfl|hb;exact⟨by omega,.inr (aX _)⟩;exact⟨by have:=iz b hb;omega,.inl (Fh b hb)⟩
theorem ahA {z:Array Value}{c size i:Nat}(hz:z.size=size)(hi:i<c):((madeCells z (c*size)).toList.drop (i*size)).take size=z.toList:=by
 have hm:(i+1)*size<=c*size:=cU _ hi;rw[df,gB]at hm;apply de;intro j;rw[kE];by_cases hj:j<size;rw[aJ hj,madeCells];have h1:i*size+j<c*size:=by omega
 simp only[Array.toList_map,Array.toList_range,fA,List.getElem?_range h1,dL];have alS:(i*size+j)%z.size=j:=by rw[hz,Nat.mul_comm,Nat.mul_add_mod,fi hj]
 rw[alS];simp[getElem!_pos,hz,hj];rw[aI hj,bS];simp[hz];omega
theorem Pt {E:Env}(hE:kJ P E.ty){o:Oper}{n c:Operand}(ho:o.op=.makeSlice T n c)(h:pT C st a w){K:AS->aC R}(hk:qs E o T n c st K=some r):ox P C o a w K r:=by
 obtain⟨g,hg⟩:=id h;have hnv:=hg.rd n;have hcv:=hg.rd c;unfold qs at hk;split at hk;rename_i e len cap hT hn hc;rw[hn]at hnv;rw[hc]at hcv;split at hk;rename_i hlc;unfold room at hk;split at hk;rename_i Hw;obtain⟨te,hu,⟨inf,z,DJ,wq,hby,hz,hzc⟩,_⟩:=Gq hE hT;have Jb:cap<=1073741824:=by omega
 have alG:(inf.bytes:Int)*cap<=281474976710656:=by have h1:(inf.bytes:Int)*cap<=65536*cap:=Int.mul_le_mul_of_nonneg_right (by omega) (by omega);omega
 have fG:=run_make (P:=P) w T te inf z hu DJ hz .i64 .i64 len cap hlc.1 hlc.2 alG (by omega);have Hy:(execOp a.eval o).run P w=.ok (.value (.slice (some ⟨w.heap.size,0,none⟩) len.toNat cap.toNat)) (w.alloc (.cells (madeCells z.cells (cap.toNat*inf.size)) te)):=by simp only[execOp,ho,kg hnv,kg hcv];show((Instr.makeSlice T (.int .i64 len) (.int .i64 cap))>>=λv=>pure (Next.value v)).run P w=_;rw[Sem.run_bind,fG];rfl
 have hzs:z.cells.size=e.size:=by rw[<-rh e,<-hzc];simp
 have hlen:(List.replicate len.toNat e.zero).length=len.toNat:=by simp
 have FV:md g.hw w e ((madeCells z.cells (cap.toNat*inf.size)).toList.take ((List.replicate len.toNat e.zero).length*e.size)) (List.replicate len.toNat e.zero) (List.replicate len.toNat []):=by
  refine Lg (o0:=0) (cap:=cap.toNat) (by rw[size_madeCells,wq,cP]) (by rw[hlen];omega) (by simp) (λi x f hx hf=>?_);have hi:i<len.toNat:=by have:=(aB.1 hx).1;simpa using this
  rw[eK,aJ hi]at hx hf;simp at hx hf;subst hx;subst hf;rw[wq,cP,ahA hzs (by omega),hzc];exact GI _ _ _
 refine⟨_,_,_,.inl Hy,?_,hk⟩;have:=hg.PC o.dst (T:=te) (fr:=(0,0)) (cap:=cap.toNat) (.inl rfl) (by intro j _;simp) (by rw[size_madeCells,wq]) (by rw[hlen];omega) FV (by simp) (by simp);rw[hlen]at this;exact this;cases hk;cases hk;cases hk
theorem N0 {lo hi:aC Operand}(hg:eX C g st a w []){n:Nat}(Jb:n<=cap){K:Int->Int->aC R}(hk:oA st lo hi n K=some r)(isS:Bool): ∃x y:Int,K x y=some r/\(0<=x->x<=y->y<=n->(Instr.sliceBounds isS n cap (lo.map a.eval) (hi.map a.eval) none).run P w=.ok (x.toNat,y.toNat,cap) w):=by
 unfold oA at hk;split at hk;rename_i h1 h2;have e1:lo=none:=by cases lo<;>simp at h1⊢
 have e2:hi=none:=by cases hi<;>simp at h2⊢
 subst e1;subst e2;exact⟨0,n,hk,λ_ _ _=>by simp[Instr.sliceBounds]⟩;rename_i k p h1 h2;have e2:hi=none:=by cases hi<;>simp at h2⊢
 subst e2;cases lo with|none=>simp at h1|some lo=>simp at h1;have hv:=hg.rd lo;rw[h1]at hv;refine⟨p,n,hk,λq1 q2 q3=>?_⟩;simp[Instr.sliceBounds,Instr.sliceBound,asIntOf,kg hv,q1,q2]
 rename_i k p h1 h2;have e1:lo=none:=by cases lo<;>simp at h1⊢
 subst e1;cases hi with|none=>simp at h2|some hi=>simp at h2;have hv:=hg.rd hi;rw[h2]at hv;refine⟨0,p,hk,λq1 q2 q3=>?_⟩;simp[Instr.sliceBounds,Instr.sliceBound,asIntOf,kg hv,show 0<=p by omega,show p<=(cap:Int) by omega]
 rename_i k p k' q h1 h2;cases lo with|none=>simp at h1|some lo=>cases hi with|none=>simp at h2|some hi=>simp at h1 h2;have hv:=hg.rd lo;have KR:=hg.rd hi;rw[h1]at hv;rw[h2]at KR;refine⟨p,q,hk,λq1 q2 q3=>?_⟩;simp[Instr.sliceBounds,Instr.sliceBound,asIntOf,kg hv,kg KR,q1,show 0<=q by omega,show q<=(cap:Int) by omega];intro iz;omega
 cases hk
theorem extract_mk (s:az UInt8)(x y:Nat):(ByteArray.mk s.toArray).extract x y=ByteArray.mk ((s.take y).drop x).toArray:=by apply ByteArray.ext;rw[ByteArray.data_extract];simp[List.extract_eq_take_drop,List.drop_take]
theorem Qr {α:Type}{xs ys:az α}{x y:Int}(h:sub xs x y=some ys):0<=x/\x<=y/\y<=(xs.length:Int)/\ys=(xs.take y.toNat).drop x.toNat:=by unfold sub at h;split at h;rename_i hc;simp at h;exact⟨hc.1,hc.2.1,hc.2.2,h.symm⟩;cases h
theorem acB {w:World}{S:Nat->Nat->Prop}{xs:az e.D}(h:kA w S (.sl e) [v] xs){x y:Nat}(hxy:x<=y)(hy:y<=xs.length): ∃bo cap,v=.slice bo xs.length cap/\xs.length<=cap/\kA w S (.sl e) [.slice (if cap=x then bo else bo.map (·.add (x*e.size))) (y-x) (cap-x)] ((xs.take y).drop x):=by
 obtain⟨u,hu,h⟩:=h;simp at hu;subst hu;rcases h with⟨⟨ad,rfl⟩,rfl⟩|⟨b,o,cap,rfl,hc,h⟩;simp at hy;subst hy;have hx:x=0:=by omega
 subst hx;exact⟨ad,0,rfl,by simp,⟨_,rfl,.inl ⟨⟨ad,by simp⟩,by simp⟩⟩⟩;have hl:((xs.take y).drop x).length=y-x:=by simp;omega
 refine⟨some ⟨b,o,none⟩,cap,rfl,hc,⟨_,rfl,.inr ?_⟩⟩;by_cases hcx:cap=x;refine⟨b,o,cap-x,by rw[aJ hcx,hl],by rw[hl];omega,λi z hz=>?_⟩;have:((xs.take y).drop x)=[]:=cp (by rw[hl];omega);rw[this]at hz;simp at hz;refine⟨b,o+x*e.size,cap-x,by rw[aI hcx,hl];simp[oP],by rw[hl];omega,λi z hz=>?_⟩;have hz':xs[x+i]?=some z:=by rw[bP,eD]at hz;split at hz;exact hz;cases hz
 obtain⟨cs,KN,hr⟩:=h (x+i) z hz';refine⟨cs,?_,hr⟩;have:o+x*e.size+i*e.size=o+(x+i)*e.size:=by rw[df];omega
 rw[this];exact KN
theorem ahS {w:World}{xs:az e.D}{fp:gk}(h:gG hw w (.sl e) [v] xs fp){n:Nat}(hn:n<=xs.length): ∃bo cap,v=.slice bo xs.length cap/\xs.length<=cap/\∃lT,gG hw w (.sl e) [.slice (if cap=n then bo else bo.map (·.add (n*e.size))) (xs.length-n) (cap-n)] (xs.drop n) lT/\(∀b∈lT,b∈fp)/\(fp.Nodup->lT.Nodup):=by
 obtain⟨u,hu,h⟩:=h;simp at hu;subst hu;rcases h with⟨⟨ad,rfl⟩,rfl,rfl⟩|⟨b,o0,cap,arr,T,fr,fps,rfl,hb,uj,hs,hc,hh,rfl,hl,hr⟩;simp at hn;subst hn;exact⟨ad,0,rfl,by simp,[],⟨_,rfl,.inl ⟨⟨ad,by simp⟩,rfl,rfl⟩⟩,by simp,by simp⟩;refine⟨some ⟨b,o0,none⟩,cap,rfl,hc,?_⟩;by_cases hcn:cap=n;have hx:xs.drop n=[]:=cx (by omega);refine⟨[],⟨_,rfl,.inl ⟨⟨some ⟨b,o0,none⟩,by rw[aJ hcn,show xs.length-n=0 by omega,show cap-n=0 by omega]⟩,hx,rfl⟩⟩,by simp,by simp⟩;have hm1:cap*e.size=n*e.size+(cap-n)*e.size:=by rw[<-df];congr 1;omega
 have hm2:xs.length*e.size=n*e.size+(xs.length-n)*e.size:=by rw[<-df];congr 1;omega
 refine⟨b::(fps.drop n).flatten,⟨_,rfl,.inr ⟨b,o0+n*e.size,cap-n,arr,T,fr,fps.drop n,by rw[aI hcn];simp[oP],hb,uj,by omega,by simp;omega,by simp;omega,rfl,by simp[hl],λi x f hx hf=>?_⟩⟩,?_,?_⟩;rw[bP]at hx hf;have:=hr (n+i) x f hx hf;rwa[df,<-gw]at this;intro c zV;rcases cD.1 zV with rfl|zV;simp;obtain⟨l,hl1,BD⟩:=List.mem_flatten.1 zV;exact dZ _ (List.mem_flatten.2 ⟨l,List.mem_of_mem_drop hl1,BD⟩);intro GW;have h1:=dK.1 GW;have e1:fps.flatten=(fps.take n).flatten++(fps.drop n).flatten:=by rw[<-eJ,cC]
 rw[e1]at h1;exact dK.2 ⟨λhm=>h1.1 (by simp[hm]),(aO.1 h1.2).2.1⟩
theorem aeH {an:An}{o:Oper}{ep:Nat}{pv:aC (mq×Nat)}{p:Int}:PJ an o (.loc ep pv) p=.loc ep none\/∃rt t,pv=some (rt,t)/\PJ an o (.loc ep pv) p=.part ep rt t p:=by
 unfold PJ;split;rename_i ep' r t d h _;cases h;cases an.nest.contains d with|false=>exact .inl rfl|true=>exact .inr ⟨_,_,rfl,rfl⟩
 exact .inl rfl
theorem Qe {E:Env}(hE:kJ P E.ty){o:Oper}{lo hi:aC Operand}(ho:o.op=.slice T x lo hi none)(h:pT C st a w){K:AS->aC R}(hk:yj E o T x lo hi st K=some r):ox P C o a w K r:=by
 obtain⟨g,hg⟩:=h;unfold yj at hk;split at hk;rename_i tag e xs cc kd p uz hlo;split at hk;rename_i hT;cases lo with
 |none=>simp at hlo
 |some lo=>
  simp at hlo;have hlv:=hg.rd lo;rw[hlo]at hlv;obtain⟨te,hu,⟨inf,z,DJ,wq,_⟩,_⟩:=Gq hE hT;obtain⟨g',pQ⟩:=hg.take x;rw[uz]at pQ;simp only[bX]at pQ;cases rE:sub xs p xs.length with
  |none=>rw[rE]at hk;cases hk
  |some QM=>
   rw[rE]at hk;simp only[aa]at hk;obtain⟨h1,h2,_,rfl⟩:=Qr rE;obtain⟨fp,ga,GW,hl⟩:=pQ.hands 0 _ _ rfl;have jl:=(fO ga).1;obtain⟨bo,cap,hv,Jb,lT,Jd,an5,Un⟩:=ahS jl (n:=p.toNat) (by omega);have fG:(execOp a.eval o).run P w=.ok (.value (.slice (if cap=p.toNat then bo else bo.map (·.add (p.toNat*e.size))) (xs.length-p.toNat) (cap-p.toNat))) w:=by
    have hb:(Instr.sliceBounds true xs.length cap (some (a.eval lo)) none none).run P w=.ok (p.toNat,xs.length,cap) w:=by have hp2:p<=(xs.length:Int):=h2;simp[Instr.sliceBounds,Instr.sliceBound,asIntOf,kg hlv,h1,hp2]
    simp only[execOp,ho,hv,Instr.sliceAt,Instr.slice,underlying,Option.map_none,dL,Sem.run_bind,run_program,hu,Result.andThen_ok,Sem.run_pure,hb,sizeOf,typeInfo,DJ,wq]
   have BE:(xs.take ((xs.length:Int).toNat)).drop p.toNat=xs.drop p.toNat:=by rw[ax,fg]
   rw[BE]at hk;refine⟨_,_,_,.inl fG,?_,hk⟩;refine pQ.PZ o.dst (hw':=g'.hw) (fp:=lT) (Fr.refl _ _) (λ_ _ _ _=>rfl) (λ_ _ _ ho hu=>⟨ho,hu⟩) Jd (Un GW) (λb hb=>?_);have:=hl b (an5 b hb);exact⟨(pQ.iw b _ this).1,.inl (by rw[this];rfl)⟩
 cases hk;cases hk
theorem abe {E:Env}(hE:kJ P E.ty){an:An}{o:Oper}{lo hi:aC Operand}(ho:o.op=.slice T x lo hi none)(h:pT C st a w){K:AS->aC R}(hk:Cf E an o T x lo hi st K=some r):ox P C o a w K r:=by
 obtain⟨g,hg⟩:=id h;have wu:=hg.fresh (hg.rd x);unfold Cf at hk;split at hk;exact Qe hE ho h hk;split at hk;rename_i s hx;rw[hx]at wu;split at hk;rename_i hT;have hu:=Vd hE hT;have hv:=(fO wu).1;obtain⟨p,q,Q2,fG⟩:=N0 (P:=P) (w:=w) hg (aX s.length) hk false;cases rE:sub s p q with|none=>rw[rE]at Q2;cases Q2|some s'=>rw[rE]at Q2;simp only[aa]at Q2;obtain⟨h1,h2,h3,rfl⟩:=Qr rE;have hb:=fG h1 h2 h3;refine wD h _ _ ?_ (NC _) Q2;simp only[execOp,ho,hv,Instr.sliceAt,Instr.slice,underlying,Option.map_none,Sem.run_bind,run_program,hu,Result.andThen_ok,Sem.run_pure,yV,hb,Option.isSome_none,bj,cy,extract_mk]
 cases hk;rename_i fl e xs hx;rw[hx]at wu;split at hk;rename_i hT;obtain⟨hT,qH⟩:=hT;obtain⟨te,hu,⟨inf,z,DJ,wq,_⟩,_⟩:=Gq hE hT;have hc:=fO wu
 have key:∀(S:Nat->Nat->Prop),kA w S (.sl e) [a.eval x] xs->(∀(p q:Int)(bo:aC Addr)(cap:Nat),0<=p->p<=q->q<=xs.length->xs.length<=cap->a.eval x=.slice bo xs.length cap->
  kA w S (.sl e) [.slice (if cap=p.toNat then bo else bo.map (·.add (p.toNat*e.size))) (q.toNat-p.toNat) (cap-p.toNat)] ((xs.take q.toNat).drop p.toNat)->
  jh (dp C g st w) (.slice (if cap=p.toNat then bo else bo.map (·.add (p.toNat*e.size))) (q.toNat-p.toNat) (cap-p.toNat)) (.sl (PJ an o fl p) e ((xs.take q.toNat).drop p.toNat)) [])->ox P C o a w K r:=by
  intro S Jf hmk
  have Jb:∃bo cap,a.eval x=.slice bo xs.length cap/\xs.length<=cap:=by obtain⟨bo,cap,hv,hc,_⟩:=acB Jf (x:=0) (y:=0) (aX _) (bM _);exact⟨bo,cap,hv,hc⟩
  obtain⟨bo,cap,hv,Jb⟩:=Jb
  obtain⟨p,q,Q2,fG⟩:=N0 (P:=P) (w:=w) hg Jb hk true
  cases rE:sub xs p q with
  |none=>rw[rE]at Q2;cases Q2
  |some QM=>
   rw[rE]at Q2
   simp only[aa]at Q2
   obtain⟨h1,h2,h3,rfl⟩:=Qr rE
   have hb:=fG h1 h2 h3
   obtain⟨bo',atg,KR,_,ag9⟩:=acB Jf (x:=p.toNat) (y:=q.toNat) (by omega) (by omega)
   rw[hv]at KR
   simp only[Value.slice.injEq,true_and]at KR
   obtain⟨rfl,rfl⟩:=KR
   refine⟨.slice (if cap=p.toNat then bo else bo.map (·.add (p.toNat*e.size))) (q.toNat-p.toNat) (cap-p.toNat),w,_,.inl ?_,⟨g,hg.quiet o.dst (oc (hmk p q _ _ h1 h2 h3 Jb hv ag9))⟩,Q2⟩
   simp only[execOp,ho,hv,Instr.sliceAt,Instr.slice,underlying,Option.map_none,Sem.run_bind,run_program,hu,Result.andThen_ok,Sem.run_pure,hb,sizeOf,typeInfo,DJ,wq]
 cases fl with
 |own t=>cases qH
 |nest _ _ _ _ _ _=>cases qH
 |part _ _ _ _=>cases qH
 |gH _ _ _=>cases qH
 |arg _=>exact key _ hc.2 (λp q bo cap _ _ _ _ _ hr=>by simp only[PJ,sC.bare];exact⟨rfl,hr⟩)
 |loc ep pv=>
  have Ae:ep=st.ep:=by simpa[sC.live]using qH
  refine key _ (hc.2.2.2.1 Ae) (λp q bo cap hp hpq hq Jb hv hr=>?_);have hlen:((xs.take q.toNat).drop p.toNat).length=q.toNat-p.toNat:=by simp;omega
  have plain:jh (dp C g st w) (.slice (if cap=p.toNat then bo else bo.map (·.add (p.toNat*e.size))) (q.toNat-p.toNat) (cap-p.toNat)) (.sl (.loc ep none) e ((xs.take q.toNat).drop p.toNat)) []:=⟨rfl,hc.2.1,⟨_,_,_,rfl,hlen.symm⟩,λ_=>hr,by simp⟩
  rcases aeH (an:=an) (o:=o) (ep:=ep) (pv:=pv) (p:=p)with hpf|⟨rt,t,rfl,hpf⟩;rw[hpf];exact plain;rw[hpf];refine⟨rfl,hc.2.1,⟨_,_,_,rfl,hlen.symm⟩,λ_=>?_⟩;have Hx:=hc.2.2.2.2 rt t rfl;refine⟨Hx.1,?_⟩;by_cases hz:q.toNat-p.toNat=0;exact .inl (cp (by rw[hlen];exact hz));right;obtain⟨u,hu,Jf⟩:=hc.2.2.2.1 Ae;simp at hu;rcases Jf with⟨_,rfl⟩|⟨b,o0,Zf,Ur,YD,_⟩;simp at hlen;omega;rw[<-hu,hv]at Ur;simp only[Value.slice.injEq,true_and]at Ur;obtain⟨rfl,rfl⟩:=Ur;refine⟨p.toNat,b,o0,xs.length,cap,cap-p.toNat,by omega,by rw[<-Hx.2,hv],by rw[hlen];omega,?_⟩;rw[kz,hlen];simp[oP]
 cases hk;cases hk
theorem VM {E:Env}(hE:kJ P E.ty)(h:E.bytes T=true):∃te,P.underlying T=some (.slice te)/\P.underlying te=some (.int .u8):=by unfold Env.bytes at h;split at h;rename_i te n hT;split at h;rename_i lD hte;obtain⟨te',hu,_,ho⟩:=(hE T _ hT).sl _ rfl rfl;have:=ho te n rfl;subst this;exact⟨te,hu,(hE te _ hte).int _ rfl rfl⟩;cases h;cases h
theorem aeR {w:World}{S:Nat->Nat->Prop}{xs:dA}(h:kA w S (.sl (.int .u8)) [v] xs): ((∃a,v=.slice a 0 0)/\xs=[])\/∃b o cap,v=.slice (some ⟨b,o,none⟩) xs.length cap/\∀i,i<xs.length->w.cell? ⟨b,o+i,none⟩=some (.int .u8 (xs.getD i 0)):=by obtain⟨u,hu,h⟩:=h;simp at hu;subst hu;rcases h with h|⟨b,o,cap,hv,_,h⟩;exact .inl h;refine .inr ⟨b,o,cap,hv,λi hi=>?_⟩;obtain⟨cs,KN,hr⟩:=h i xs[i] (aq hi);have hr':cs=[.int .u8 xs[i]]:=hr;subst hr';have:=(KN 0 _ rfl).2;simp only[CT.size,oQ,eE]at this;rw[this];simp[List.getD,aq hi]
theorem TG {E:Env}(hE:kJ P E.ty){o:Oper}{src dst:TypeId}(ho:o.op=.convert src dst x)(h:pT C st a w){K:AS->aC R}(hk:nw E o src dst x st K=some r):ox P C o a w K r:=by
 obtain⟨g,hg⟩:=id h;have wu:=hg.rd x;have fin:∀v w',(convert src dst (a.eval x)).run P w=.ok v w'->(execOp a.eval o).run P w=.ok (.value v) w':=by intro v w' hr;simp only[execOp,ho];show(convert src dst (a.eval x)>>=λv=>pure (Next.value v)).run P w=_;rw[Sem.run_bind,hr];rfl
 have under:∀(T:TypeId)(sh:Shape),kv E.ty T=some sh->∃d,P.underlying T=some d:=by
  intro T sh hT;have pR:=hE T sh hT;cases Nt:sh.agg with
  |true=>obtain⟨fs,hu,_⟩:=pR.agg Nt;exact⟨_,hu⟩
  |false=>
   cases L6:sh.ct with
   |int k=>exact⟨_,pR.int k L6 Nt⟩
   |bool=>exact⟨_,pR.bool L6 Nt⟩
   |str=>exact⟨_,pR.str L6 Nt⟩
   |sl e=>obtain⟨te,hu,_⟩:=pR.sl e L6 Nt;exact⟨_,hu⟩
   |pair p q=>have:=pR.pair p q L6;rw[Nt]at this;cases this
 unfold nw at hk;split at hk;rename_i ssh k lD k' n hs hd hx;rw[hx]at wu;obtain⟨ds,hus⟩:=under _ _ hs;have hud:=(hE dst _ hd).int k rfl rfl;refine wD h _ _ (fin (.int k (k.wrap n)) w ?_) (ma _ _) hk;rw[kg wu];simp only[convert,underlying,Sem.run_bind,run_program,hus,hud,Result.andThen_ok,Sem.run_pure];rfl;rename_i lD ate s hs hd hx;rw[hx]at wu;have hus:=(hE src _ hs).str rfl rfl;have hud:=(hE dst _ hd).str rfl rfl;refine wD h _ _ (fin (.string ⟨s.toArray⟩) w ?_) (NC _) hk;rw[(fO wu).1];simp only[convert,underlying,Sem.run_bind,run_program,hus,hud,Result.andThen_ok,Sem.run_pure];rename_i lD sh s M4 hs hd hx;rw[hx]at wu;split at hk;rename_i hb;unfold room at hk;split at hk;obtain⟨te,hu,hte⟩:=VM hE hb;have hus:=(hE src _ hs).str rfl rfl;have fG:=run_bytes_of_string (P:=P) w src dst te ⟨s.toArray⟩ hus hu hte;rw[<-(fO wu).1,yV]at fG;refine⟨_,_,_,.inl (fin _ _ fG),?_,hk⟩;have BC:=grownCap_ge w s.length 0 te;have wq:(bytesRow ⟨s.toArray⟩ (grownCap w s.length 0 te)).size=grownCap w s.length 0 te*CT.size (.int .u8):=by simp only[bytesRow,Array.size_append,Array.size_map,Array.size_replicate,yV,CT.size];simp;omega
 have uz:(bytesRow ⟨s.toArray⟩ (grownCap w s.length 0 te)).toList.take ((dQ s).length*CT.size (.int .u8))=(dQ s).map (Value.int .u8):=by simp only[bytesRow,dQ,CT.size,Array.toList_append,Array.toList_map];rw[List.take_append_of_le_length (by simp)];rw[bW (by simp)];simp
 have FV:md g.hw w (.int .u8) ((bytesRow ⟨s.toArray⟩ (grownCap w s.length 0 te)).toList.take ((dQ s).length*CT.size (.int .u8))) (dQ s) (List.replicate s.length []):=by
  rw[uz];refine⟨by simp[CT.size],by simp[dQ],λi y f hy hf=>?_⟩;have hi:i<(dQ s).length:=(aB.1 hy).1;have hf':f=[]:=by rw[eK]at hf;split at hf<;>simp at hf;exact hf
  subst hf';refine⟨?_,rfl⟩;apply de;intro j;rw[kE];simp only[CT.size,oQ];cases j with|zero=>simp[hy]|succ j=>simp
 have hlen:(dQ s).length=s.length:=by simp[dQ]
 have:=hg.PC o.dst (T:=te) (fr:=((bytesRow ⟨s.toArray⟩ (grownCap w s.length 0 te)).size,(bytesRow ⟨s.toArray⟩ (grownCap w s.length 0 te)).size+1)) (cap:=grownCap w s.length 0 te) (.inr rfl) (by intro j hj hc;simp only at hc;omega) wq (by rw[hlen];exact BC) FV (by simp) (by simp);rw[hlen]at this;exact this;cases hk;cases hk;rename_i ssh lD fl xs hs hd hx;rw[hx]at wu;split at hk;rename_i hb;obtain⟨hb,qH⟩:=hb;obtain⟨te,hu,hte⟩:=VM hE hb;have hud:=(hE dst _ hd).str rfl rfl;have hc:=fO wu;have Jf:∃S,kA w S (.sl (.int .u8)) [a.eval x] xs:=by
  cases fl with
  |own t=>cases qH
  |nest _ _ _ _ _ _=>cases qH
  |part _ _ _ _=>cases qH
  |gH _ _ _=>cases qH
  |arg _=>exact⟨_,hc.2⟩
  |loc ep pv=>
   have Ae:ep=st.ep:=by simpa[sC.live]using qH
   exact⟨_,hc.2.2.2.1 Ae⟩
 obtain⟨S,Jf⟩:=Jf;refine wD h _ _ (fin (.string ⟨(aR xs).toArray⟩) w ?_) (NC _) hk;rcases aeR Jf with⟨⟨ad,hv⟩,rfl⟩|⟨b,ob,cap,hv,DD⟩;cases ad with|none=>rw[hv,run_convert_bytes_nil w src te hu hte 0 0 dst hud];rfl|some ad=>rw[hv];exact run_convert_bytes_back w src dst te ad 0 [] hu hte hud (λj hj=>by simp at hj)
 rw[hv,run_convert_bytes_arg w src te hu hte b ob xs.length cap xs rfl DD dst hud];rfl;cases hk;cases hk
end Go.Dn
