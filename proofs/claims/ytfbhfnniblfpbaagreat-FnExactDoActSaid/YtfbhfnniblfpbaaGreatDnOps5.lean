import Derived.Test.YtfbhfnniblfpbaaGreatDnOps4
import Derived.Laws.MakeOwn
import Derived.Laws.IdiomStrings
import Derived.Laws.BytesArg
/- Part 5: tuples, parts of slices, conversions, structs and slices that are built. -/
namespace Go.Dn
open Go.RowKit
variable {P:Program} {C:Ctx} {st:AS} {a:Act} {w:World} {R:Type} {r:R}
variable {arr:Array Value} {e:CT} {g:Gh} {cap:Nat} {fr:Nat×Nat} {hw:Nat->Nat} {x:Operand} {T:TypeId} {hs:ar (Value×AV)} {fps:ar dV} {news:ic}
theorem qJ.at {c:RC}:∀{ws:ic}{ts:ar (Bool×ar AC)}{fp:dV},fL.qJ c ws ts fp->∀{i:Nat}{g:Bool}{cs:ar AC},ts[i]?=some (g,cs)->
 ∃v f1 f2 f3,ws[i]?=some v/\fp=f1++f2++f3/\(∃us,Cut g v us/\bn c us cs f2)/\
  ∀c':RC,c.Le c'->(∀b∈f1++f3,c'.w.heap[b]?=c.w.heap[b]?/\c'.hw b=c.hw b)->∀na,(∃us,Cut g v us/\bn c' us na [])->fL.qJ c' ws (ts.set i (g,na)) (f1++f3)
 |[],[],_,_,i,g,cs,h=>by simp at h
 |w::ws,t::ts,_,r,0,g,cs,h=>by obtain⟨f1,f2,rfl,r1,r2⟩:=r;simp at h;subst h;exact⟨w,[],f1,f2,rfl,by simp,r1,λc' hle hb na DX=>⟨[],f2,rfl,DX,qJ.mono hle r2 (λb gH=>hb b (by simpa using gH))⟩⟩
 |w::ws,t::ts,_,r,i+1,g,cs,h=>by obtain⟨f1,f2,rfl,r1,r2⟩:=r;obtain⟨v,g1,g2,g3,hv,rfl,hr,DG⟩:=qJ.at r2 (i:=i) (by simpa using h);refine⟨v,f1++g1,g2,g3,by simpa using hv,by simp,hr,λc' hle hb na DX=>?_⟩;obtain⟨us,ee,dC⟩:=r1;rw[aN];refine⟨f1,g1++g3,rfl,⟨us,ee,dC.mono hle (λb gH=>hb b (by simp[gH]))⟩,?_⟩;exact DG c' hle (λb gH=>hb b (by rcases az.1 gH with k|k<;>simp[k])) na DX
 |[],_::_,_,r,_,_,_,_=>r.elim
 |_::_,[],_,r,_,_,_,_=>r.elim
theorem SU {o:Oper}{t i:Nat}(ho:o.op=.extract (.tmp t) i)(h:nt C st a w){K:AS->aw R}(hk:ma o t i st K=some r):mZ P C o a w K r:=by
 obtain⟨g,h⟩:=h;unfold ma at hk;split at hk;rename_i ts hg;split at hk;rename_i gg cs hn;rw[dA]at hn;have htl:t<st.slots.length:=by
  rcases bQ t st.slots.length with gV|BD;exact gV;have:st.get t=.bot:=by simp[AS.get,dA,bH BD]
  rw[this]at hg;cases hg
 obtain⟨fp,hr,ES,hl⟩:=h.slot t;rw[hg]at hr;obtain⟨ws,hv,hr⟩:=hr;obtain⟨v,f1,f2,f3,hwv,rfl,Rk,DG⟩:=qJ.at hr hn;have dI:(execOp a.eval o).run P w=.ok (.value v) w:=by have he:a.eval (.tmp t)=.tuple ws.toArray:=hv;simp[execOp,ho,he,Instr.extract,hwv]
 have S6:=ES;rw[aN]at S6;have n1:=aB.1 S6;have n2:=aB.1 n1.2.1;let Qe:AV:=.vQ (gZ ts i (gg,aR 0 cs));let st':AS:=st.put (some t) Qe;let g':Gh:={g with dJ:=λb=>if b∈f2 then some (.hand 0) else g.dJ b}
 have hle:(cy C g st w).Le (cy C g' st' w):=by have:= @Tq C g st w (some t) Qe;exact⟨this.A,this.hdr,this.UK,this.ep,this.Ku,this.acw⟩
 have Xc:∀b y,g.dJ b=some y->b∉f2->g'.dJ b=some y:=by intro b y hb hm;show(if b∈f2 then _ else _)=_;rw[aF hm];exact hb
 have MU:∀b y,y≠ .slot t->g.dJ b=some y->b∉f2:=λb y hy hb hm=>hy (by have:=hl b (by simp[hm]);rw[hb]at this;simpa using this);have aid:dw C g' st' a w [(v,.val gg cs)]:=by
  refine h.step (λy=>y≠ .slot t) hle h.defers (by show _=(st.put (some t) Qe).slots.length;rw[fK,aH];exact h.size) (by show(st.put (some t) Qe).boxes.length=(st.put (some t) Qe).slots.length;rw[kO,fK,aH];exact h.bsize) h.frame ?_ (λb y hy hb=>⟨Xc b y hb (MU b y hy hb),rfl,rfl⟩) ?_ ?_ ?_ (.inl ⟨by simp,Lp⟩);intro b y hy;have Rn:(if b∈f2 then some (jc.hand 0) else g.dJ b)=some y:=hy;by_cases hm:b∈f2;exact h.fA b _ (hl b (by simp[hm]));rw[aF hm]at Rn;exact h.fA b y Rn;intro j bv hj;have hj':(st.slots.set t Qe)[j]?=some bv:=by rw[<-fK];exact hj
  by_cases hjt:j=t;subst hjt;rw[bk]at hj';simp only[bL,htl]at hj';simp at hj';subst hj';refine .inr ⟨f1++f3,⟨ws,hv,?_⟩,?_,?_⟩;rw[eV];obtain⟨us,ee,dC⟩:=Rk;refine DG _ hle (λb _=>⟨rfl,rfl⟩) _ ⟨us,ee,?_⟩;exact(dC.ZO).mono hle (by simp);refine aB.2 ⟨n1.1,n2.2.1,?_⟩;rintro b hb c hc rfl;exact n1.2.2 b hb b (ba _ hc) rfl;intro b hb;refine Xc b _ (hl b (by rcases az.1 hb with k|k<;>simp[k])) (λhm=>?_);rcases az.1 hb with k|k;exact n1.2.2 b k b (bg _ hm) rfl;exact n2.2.2 b hm b k rfl;rw[aO (cG hjt)]at hj';exact .inl ⟨by simpa using hjt,hj',rfl⟩;intro s na hb;have gH:st.boxes[s]?=some (some na):=by rw[<-kO (d:=some t) (v:=Qe)];exact hb
  exact .inl ⟨by simp,gH,rfl⟩;intro k u bv GV;cases k with
  |zero=>simp only[cq,aZ,Prod.mk.injEq]at GV;obtain⟨rfl,rfl⟩:=GV;obtain⟨us,ee,dC⟩:=Rk;refine .inr ⟨f2,⟨us,ee,dC.mono hle (λb _=>⟨rfl,rfl⟩)⟩,n2.1,λb hb=>?_⟩;show(if b∈f2 then _ else _)=_;rw[aG hb]
  |succ k=>simp at GV
 exact⟨v,w,_,.inl dI,dw.Fs aid o.dst,hk⟩;cases hk;cases hk
def kG (hw:Nat->Nat)(w:World)(e:CT)(news:ic)(ys:ar e.D)(fps:ar dV):Prop:=
 news.length=ys.length*e.size/\fps.length=ys.length/\∀(i:Nat)(y:e.D)(f:dV),ys[i]?=some y->fps[i]?=some f->eo hw w e ((news.drop (i*e.size)).take e.size) y f
theorem kG.append {w:World}{n1 n2:ic}{xs ys:ar e.D}{f1 f2:ar dV}(h1:kG hw w e n1 xs f1)(h2:kG hw w e n2 ys f2): kG hw w e (n1++n2) (xs++ys) (f1++f2):=by
 obtain⟨a1,a2,a3⟩:=h1;obtain⟨b1,b2,b3⟩:=h2;refine⟨by rw[au,au,a1,b1,cn],by simp[a2,b2],λi y f hy hf=>?_⟩;by_cases hi:i<xs.length;rw[bw hi]at hy;rw[bw (by omega)]at hf;have hm:(i+1)*e.size<=xs.length*e.size:=bZ _ hi;rw[cn,dN]at hm;have:=a3 i y f hy hf;have e1:((n1++n2).drop (i*e.size)).take e.size=(n1.drop (i*e.size)).take e.size:=by rw[List.drop_append_of_le_length (by omega),List.take_append_of_le_length (by rw[bf];omega)]
 rw[e1];exact this;rw[bq (by omega)]at hy;rw[bq (by omega),a2]at hf;have:=b3 _ y f hy hf;have BD:xs.length*e.size<=i*e.size:=bZ _ (by omega);have e1:(n1++n2).drop (i*e.size)=n2.drop ((i-xs.length)*e.size):=by rw[List.drop_append,cQ (by omega),bR,a1,Nat.sub_mul]
 rw[e1];exact this
theorem kG.mono {hw':Nat->Nat}{w w':World}{ys:ar e.D}(h:kG hw w e news ys fps)(hk:∀b∈fps.flatten,w'.heap[b]?=w.heap[b]?/\hw' b=hw b):kG hw' w' e news ys fps:=⟨h.1,h.2.1,λi y f hy hf=>eo.mono (h.2.2 i y f hy hf) λb hb=>hk b (List.mem_flatten.2 ⟨f,cR hf,hb⟩)⟩
theorem kG.nil (hw:Nat->Nat)(w:World)(e:CT):kG hw w e [] [] []:=⟨by simp,rfl,by simp⟩
theorem kG.nm {w:World}{ys:ar e.D}(h:kG hw w e news ys fps):∀v∈news,v.oneCell'=true:=by
 intro v hv;obtain⟨j,hj,hjv⟩:=List.mem_iff_getElem.1 hv;have abl:=e.size_pos;have hi:j/e.size<ys.length:=by rw[Nat.div_lt_iff_lt_mul abl];rw[<-h.1];exact hj
 have eR:=h.2.2 (j/e.size) _ _ (al hi) (al (by rw[h.2.1];exact hi));refine eo.nm eR v ?_;rw[List.mem_iff_getElem?];refine⟨j%e.size,?_⟩;rw[jh,aG (Nat.mod_lt _ abl),Nat.mul_comm,Nat.div_add_mod,al hj,hjv]
theorem YT {w:World}{b o0:Nat}{xs:ar e.D}(hb:w.heap[b]?=some (.cells arr T fr))(qS:qc arr fr)(hs:arr.size=o0+cap*e.size)(hc:xs.length<=cap)(hh:hw b=o0+xs.length*e.size)(GS:kG hw w e ((arr.toList.drop o0).take (xs.length*e.size)) xs fps): eo hw w (.sl e) [.slice (some ⟨b,o0,none⟩) xs.length cap] xs (b::fps.flatten):=by
 refine⟨_,rfl,.inr ⟨b,o0,cap,arr,T,fr,fps,rfl,hb,qS,hs,hc,hh,rfl,GS.2.1,λi x f hx hf=>?_⟩⟩;have:=GS.2.2 i x f hx hf;have hi:i<xs.length:=(aD.1 hx).1;have hm:(i+1)*e.size<=xs.length*e.size:=bZ _ hi;rw[cn,dN]at hm;have e1:(((arr.toList.drop o0).take (xs.length*e.size)).drop (i*e.size)).take e.size=(arr.toList.drop (o0+i*e.size)).take e.size:=by apply cL;intro j;rw[jh,jh,jh];by_cases hj:j<e.size;rw[aG hj,aG hj,zip,fE];rw[aF hj,aF hj]
 rw[e1]at this;exact this
theorem LF {w:World}{o0:Nat}{xs:ar e.D}(hs:arr.size=o0+cap*e.size)(hc:xs.length<=cap)(hl:fps.length=xs.length)(h:∀(i:Nat)(x:e.D)(f:dV),xs[i]?=some x->fps[i]?=some f->eo hw w e ((arr.toList.drop (o0+i*e.size)).take e.size) x f):kG hw w e ((arr.toList.drop o0).take (xs.length*e.size)) xs fps:=by
 refine⟨?_,hl,λi x f hx hf=>?_⟩;have hal:(arr.toList.drop o0).length=cap*e.size:=by rw[bf,Array.length_toList,hs];omega
 rw[bm,hal];exact iU (bZ _ hc);have hi:i<xs.length:=(aD.1 hx).1;have hm:(i+1)*e.size<=xs.length*e.size:=bZ _ hi;rw[cn,dN]at hm;have e1:(((arr.toList.drop o0).take (xs.length*e.size)).drop (i*e.size)).take e.size=(arr.toList.drop (o0+i*e.size)).take e.size:=by apply cL;intro j;rw[jh,jh,jh];by_cases hj:j<e.size;rw[aG hj,aG hj,zip,fE];rw[aF hj,aF hj]
 rw[e1];exact h i x f hx hf
theorem Of {w w':World}{S:Nat->Nat->Prop}:∀{e:CT}{vs:ic}{x:e.D},jd w' S e vs x->e.flat=true->eo hw w e vs x []
 | .int _,_,_,h,_=>⟨h,rfl⟩
 | .bool,_,_,h,_=>⟨h,rfl⟩
 | .str,_,_,h,_=>⟨h,rfl⟩
 | .sl _,_,_,_,hf=>by cases hf
 | .pair a b,_,_,h,hf=>by obtain⟨v1,v2,rfl,h1,h2⟩:=h;simp only[CT.flat,ah]at hf;exact⟨v1,v2,[],[],rfl,rfl,Of h1 hf.1,Of h2 hf.2⟩
def Oq (hdr:Nat->Value)(t:aw Nat)(v:Value):Nat->Value:=λu=>if t=some u then v else hdr u
theorem X4 {hdr:Nat->Value}{d:aw Nat}{v:Value}{t:Nat}(h:lI st t):Oq hdr (st.ik d 0) v t=hdr t:=by unfold Oq;rw[aF];intro e;exact(pT e).1 h
theorem dw.Pe (h:dw C g st a w hs)(d:aw Nat){xs:ar e.D}{v:Value}{fp:dV}{w':World}{hw':Nat->Nat}(gM:Fr (λb=>cX (g.dJ b)) w w')(BX:∀b x,g.dJ b=some x->¬cX (some x)->hw' b=g.hw b)(JY:∀b o u,o<g.hw b->w.cell? ⟨b,o,none⟩=some u->o<hw' b/\w'.cell? ⟨b,o,none⟩=some u)(eR:eo hw' w' (.sl e) [v] xs fp)(hn:fp.Nodup)(CP:∀b∈fp,b<w'.heap.size/\(cX (g.dJ b)\/w.heap.size<=b)): nt C (st.qa d e xs) (a.put d v) w':=by refine h.Pd d (st1:=st.fu d) (hdr':=Oq g.hdr (st.ik d 0) v) Kk vJ CX BO (λt ht=>⟨E3 ht,X4 ht⟩) gM BX JY (mN ⟨eR,λt ht=>?_⟩) hn CP;refine⟨(pT ht).2.1,?_⟩;show v=Oq g.hdr (st.ik d 0) v t;unfold Oq;rw[aG ht]
theorem dw.O2 (h:dw C g st a w hs)(d:aw Nat){xs:ar e.D}{w':World}(hw:w'=w.alloc (.cells arr T fr)\/w'=w.drew.alloc (.cells arr T fr))(qS:qc arr fr)(hs0:arr.size=cap*e.size)(hc:xs.length<=cap)(GS:kG g.hw w e (arr.toList.take (xs.length*e.size)) xs fps)(hn:fps.flatten.Nodup)(CP:∀b∈fps.flatten,cX (g.dJ b)): nt C (st.qa d e xs) (a.put d (.slice (some ⟨w.heap.size,0,none⟩) xs.length cap)) w':=by
 have gM:Fr (λb=>cX (g.dJ b)) w w':=by rcases hw with rfl|rfl;exact Fr.alloc _ _ _;exact(Fr.drew _ w).trans (Fr.alloc _ _ _) (λb _ hh=>hh)
 have Vj:w'.heap[w.heap.size]?=some (.cells arr T fr):=by rcases hw with rfl|rfl;exact heap_alloc_new w _;exact heap_alloc_new w.drew _
 have tu:w'.heap.size=w.heap.size+1:=by rcases hw with rfl|rfl<;>simp
 have hold:∀b,b<w.heap.size->w'.heap[b]?=w.heap[b]?:=by intro b hb;rcases hw with rfl|rfl;exact heap_alloc_old w _ b hb;exact heap_alloc_old w.drew _ b hb
 have gV:∀b∈fps.flatten,b<w.heap.size:=by intro b hb;have hh:=CP b hb;cases hx:g.dJ b with|none=>rw[hx]at hh;cases hh|some x=>exact(h.fA b x hx).1
 let hw':Nat->Nat:=λb=>if b=w.heap.size then xs.length*e.size else g.hw b
 have eR:eo hw' w' (.sl e) [.slice (some ⟨w.heap.size,0,none⟩) xs.length cap] xs (w.heap.size::fps.flatten):=by refine YT (o0:=0) Vj qS (by rw[cm];exact hs0) hc (by simp[hw']) (GS.mono λb hb=>?_);have gH:=gV b hb;exact⟨hold b gH,by simp[hw',gW gH]⟩
 refine h.Pe d (hw':=hw') (fp:=w.heap.size::fps.flatten) gM ?_ ?_ eR ?_ ?_;intro b x hx _;simp[hw',gW (h.fA b x hx).1];intro b o u ho hu;have hb:b<w.heap.size:=World.block_lt_of_cell? w _ hu;exact⟨by simp[hw',gW hb];exact ho,by rw[World.cell?_of_block (a:=⟨b,o,none⟩) (hold b hb)];exact hu⟩;exact cP.2 ⟨λhm=>nw _ (gV _ hm),hn⟩;intro b hb;rcases cv.1 hb with rfl|hb;exact⟨by omega,.inr (aU _)⟩;exact⟨by have:=gV b hb;omega,.inl (CP b hb)⟩
theorem aeP {z:Array Value}{c size i:Nat}(hz:z.size=size)(hi:i<c):((madeCells z (c*size)).toList.drop (i*size)).take size=z.toList:=by
 have hm:(i+1)*size<=c*size:=bZ _ hi;rw[cn,dN]at hm;apply cL;intro j;rw[jh];by_cases hj:j<size;rw[aG hj,madeCells];have h1:i*size+j<c*size:=by omega
 simp only[Array.toList_map,Array.toList_range,List.getElem?_map,List.getElem?_range h1,dg];have ah3:(i*size+j)%z.size=j:=by rw[hz,Nat.mul_comm,Nat.mul_add_mod,Nat.mod_eq_of_lt hj]
 rw[ah3];simp[getElem!_pos,hz,hj];rw[aF hj,bH];simp[hz];omega
theorem OU {E:Env}(hE:jm P E.ty){o:Oper}{n c:Operand}(ho:o.op=.makeSlice T n c)(h:nt C st a w){K:AS->aw R}(hk:oN E o T n c st K=some r):mZ P C o a w K r:=by
 obtain⟨g,hg⟩:=id h;have hnv:=hg.rd n;have hcv:=hg.rd c;unfold oN at hk;split at hk;rename_i e len cap hT hn hc;rw[hn]at hnv;rw[hc]at hcv;split at hk;rename_i hlc;unfold room at hk;split at hk;rename_i Iu;obtain⟨te,hu,⟨inf,z,Ea,tu,hby,hz,hzc⟩,_⟩:=Hj hE hT;have Ie:cap<=1073741824:=by omega
 have ahP:(inf.bytes:Int)*cap<=281474976710656:=by have h1:(inf.bytes:Int)*cap<=65536*cap:=Int.mul_le_mul_of_nonneg_right (by omega) (by omega);omega
 have dI:=run_make (P:=P) w T te inf z hu Ea hz .i64 .i64 len cap hlc.1 hlc.2 ahP (by omega);have Iw:(execOp a.eval o).run P w=.ok (.value (.slice (some ⟨w.heap.size,0,none⟩) len.toNat cap.toNat)) (w.alloc (.cells (madeCells z.cells (cap.toNat*inf.size)) te)):=by simp only[execOp,ho,iR hnv,iR hcv];show((Instr.makeSlice T (.int .i64 len) (.int .i64 cap))>>=λv=>pure (Next.value v)).run P w=_;rw[Sem.run_bind,dI];rfl
 have hzs:z.cells.size=e.size:=by rw[<-pH e,<-hzc];simp
 have hlen:(List.replicate len.toNat e.zero).length=len.toNat:=by simp
 have GS:kG g.hw w e ((madeCells z.cells (cap.toNat*inf.size)).toList.take ((List.replicate len.toNat e.zero).length*e.size)) (List.replicate len.toNat e.zero) (List.replicate len.toNat []):=by
  refine LF (o0:=0) (cap:=cap.toNat) (by rw[size_madeCells,tu,cm]) (by rw[hlen];omega) (by simp) (λi x f hx hf=>?_);have hi:i<len.toNat:=by have:=(aD.1 hx).1;simpa using this
  rw[dk,aG hi]at hx hf;simp at hx hf;subst hx;subst hf;rw[tu,cm,aeP hzs (by omega),hzc];exact Hw _ _ _
 refine⟨_,_,_,.inl Iw,?_,hk⟩;have:=hg.O2 o.dst (T:=te) (fr:=(0,0)) (cap:=cap.toNat) (.inl rfl) (by intro j _;simp) (by rw[size_madeCells,tu]) (by rw[hlen];omega) GS (by simp) (by simp);rw[hlen]at this;exact this;cases hk;cases hk;cases hk
theorem NP {lo hi:aw Operand}(hg:dw C g st a w []){n:Nat}(Ie:n<=cap){K:Int->Int->aw R}(hk:nd st lo hi n K=some r)(isS:Bool): ∃x y:Int,K x y=some r/\(0<=x->x<=y->y<=n->(Instr.sliceBounds isS n cap (lo.map a.eval) (hi.map a.eval) none).run P w=.ok (x.toNat,y.toNat,cap) w):=by
 unfold nd at hk;split at hk;rename_i h1 h2;have e1:lo=none:=by cases lo<;>simp at h1⊢
 have e2:hi=none:=by cases hi<;>simp at h2⊢
 subst e1;subst e2;exact⟨0,n,hk,λ_ _ _=>by simp[Instr.sliceBounds]⟩;rename_i k p h1 h2;have e2:hi=none:=by cases hi<;>simp at h2⊢
 subst e2;cases lo with|none=>simp at h1|some lo=>simp at h1;have hv:=hg.rd lo;rw[h1]at hv;refine⟨p,n,hk,λq1 q2 q3=>?_⟩;simp[Instr.sliceBounds,Instr.sliceBound,asIntOf,iR hv,q1,q2]
 rename_i k p h1 h2;have e1:lo=none:=by cases lo<;>simp at h1⊢
 subst e1;cases hi with|none=>simp at h2|some hi=>simp at h2;have hv:=hg.rd hi;rw[h2]at hv;refine⟨0,p,hk,λq1 q2 q3=>?_⟩;simp[Instr.sliceBounds,Instr.sliceBound,asIntOf,iR hv,show 0<=p by omega,show p<=(cap:Int) by omega]
 rename_i k p k' q h1 h2;cases lo with|none=>simp at h1|some lo=>cases hi with|none=>simp at h2|some hi=>simp at h1 h2;have hv:=hg.rd lo;have Td:=hg.rd hi;rw[h1]at hv;rw[h2]at Td;refine⟨p,q,hk,λq1 q2 q3=>?_⟩;simp[Instr.sliceBounds,Instr.sliceBound,asIntOf,iR hv,iR Td,q1,show 0<=q by omega,show q<=(cap:Int) by omega];intro gV;omega
 cases hk
theorem extract_mk (s:ar UInt8)(x y:Nat):(ByteArray.mk s.toArray).extract x y=ByteArray.mk ((s.take y).drop x).toArray:=by apply ByteArray.ext;rw[ByteArray.data_extract];simp[List.extract_eq_take_drop,List.drop_take]
theorem PG {α:Type}{xs ys:ar α}{x y:Int}(h:sub xs x y=some ys):0<=x/\x<=y/\y<=(xs.length:Int)/\ys=(xs.take y.toNat).drop x.toNat:=by unfold sub at h;split at h;rename_i hc;simp at h;exact⟨hc.1,hc.2.1,hc.2.2,h.symm⟩;cases h
theorem aas {w:World}{S:Nat->Nat->Prop}{v:Value}{xs:ar e.D}(h:jd w S (.sl e) [v] xs){x y:Nat}(hxy:x<=y)(hy:y<=xs.length): ∃bo cap,v=.slice bo xs.length cap/\xs.length<=cap/\jd w S (.sl e) [.slice (if cap=x then bo else bo.map (·.add (x*e.size))) (y-x) (cap-x)] ((xs.take y).drop x):=by
 obtain⟨u,hu,h⟩:=h;simp at hu;subst hu;rcases h with⟨⟨ad,rfl⟩,rfl⟩|⟨b,o,cap,rfl,hc,h⟩;simp at hy;subst hy;have hx:x=0:=by omega
 subst hx;exact⟨ad,0,rfl,by simp,⟨_,rfl,.inl ⟨⟨ad,by simp⟩,by simp⟩⟩⟩;have hl:((xs.take y).drop x).length=y-x:=by simp;omega
 refine⟨some ⟨b,o,none⟩,cap,rfl,hc,⟨_,rfl,.inr ?_⟩⟩;by_cases hcx:cap=x;refine⟨b,o,cap-x,by rw[aG hcx,hl],by rw[hl];omega,λi z hz=>?_⟩;have:((xs.take y).drop x)=[]:=cz (by rw[hl];omega);rw[this]at hz;simp at hz;refine⟨b,o+x*e.size,cap-x,by rw[aF hcx,hl];simp[nv],by rw[hl];omega,λi z hz=>?_⟩;have hz':xs[x+i]?=some z:=by rw[bJ,cU]at hz;split at hz;exact hz;cases hz
 obtain⟨cs,Li,hr⟩:=h (x+i) z hz';refine⟨cs,?_,hr⟩;have:o+x*e.size+i*e.size=o+(x+i)*e.size:=by rw[cn];omega
 rw[this];exact Li
theorem ae8 {w:World}{v:Value}{xs:ar e.D}{fp:dV}(h:eo hw w (.sl e) [v] xs fp){n:Nat}(hn:n<=xs.length): ∃bo cap,v=.slice bo xs.length cap/\xs.length<=cap/\∃iu,eo hw w (.sl e) [.slice (if cap=n then bo else bo.map (·.add (n*e.size))) (xs.length-n) (cap-n)] (xs.drop n) iu/\(∀b∈iu,b∈fp)/\(fp.Nodup->iu.Nodup):=by
 obtain⟨u,hu,h⟩:=h;simp at hu;subst hu;rcases h with⟨⟨ad,rfl⟩,rfl,rfl⟩|⟨b,o0,cap,arr,T,fr,fps,rfl,hb,qS,hs,hc,hh,rfl,hl,hr⟩;simp at hn;subst hn;exact⟨ad,0,rfl,by simp,[],⟨_,rfl,.inl ⟨⟨ad,by simp⟩,rfl,rfl⟩⟩,by simp,by simp⟩;refine⟨some ⟨b,o0,none⟩,cap,rfl,hc,?_⟩;by_cases hcn:cap=n;have hx:xs.drop n=[]:=cQ (by omega);refine⟨[],⟨_,rfl,.inl ⟨⟨some ⟨b,o0,none⟩,by rw[aG hcn,show xs.length-n=0 by omega,show cap-n=0 by omega]⟩,hx,rfl⟩⟩,by simp,by simp⟩;have hm1:cap*e.size=n*e.size+(cap-n)*e.size:=by rw[<-cn];congr 1;omega
 have Z9:xs.length*e.size=n*e.size+(xs.length-n)*e.size:=by rw[<-cn];congr 1;omega
 refine⟨b::(fps.drop n).flatten,⟨_,rfl,.inr ⟨b,o0+n*e.size,cap-n,arr,T,fr,fps.drop n,by rw[aF hcn];simp[nv],hb,qS,by omega,by simp;omega,by simp;omega,rfl,by simp[hl],λi x f hx hf=>?_⟩⟩,?_,?_⟩;rw[bJ]at hx hf;have:=hr (n+i) x f hx hf;rwa[cn,<-fE]at this;intro c DX;rcases cv.1 DX with rfl|DX;simp;obtain⟨l,hl1,Aq⟩:=List.mem_flatten.1 DX;exact ec _ (List.mem_flatten.2 ⟨l,List.mem_of_mem_drop hl1,Aq⟩);intro ES;have h1:=cP.1 ES;have e1:fps.flatten=(fps.take n).flatten++(fps.drop n).flatten:=by rw[<-dM,cp]
 rw[e1]at h1;exact cP.2 ⟨λhm=>h1.1 (by simp[hm]),(aB.1 h1.2).2.1⟩
theorem acs {an:An}{o:Oper}{ep:Nat}{pv:aw (kq×Nat)}{p:Int}:O5 an o (.loc ep pv) p=.loc ep none\/∃rt t,pv=some (rt,t)/\O5 an o (.loc ep pv) p=.part ep rt t p:=by
 unfold O5;split;rename_i ep' r t d h _;cases h;cases an.nest.contains d with|false=>exact .inl rfl|true=>exact .inr ⟨_,_,rfl,rfl⟩
 exact .inl rfl
theorem Pq {E:Env}(hE:jm P E.ty){o:Oper}{lo hi:aw Operand}(ho:o.op=.slice T x lo hi none)(h:nt C st a w){K:AS->aw R}(hk:yi E o T x lo hi st K=some r):mZ P C o a w K r:=by
 obtain⟨g,hg⟩:=h;unfold yi at hk;split at hk;rename_i tag e xs st' kd p tD hlo;split at hk;rename_i hT;cases lo with
 |none=>simp at hlo
 |some lo=>
  simp at hlo;have hlv:=hg.rd lo;rw[hlo]at hlv;obtain⟨te,hu,⟨inf,z,Ea,tu,_⟩,_⟩:=Hj hE hT;obtain⟨g',mY⟩:=hg.take x;rw[tD]at mY;simp only[bR]at mY;cases pZ:sub xs p xs.length with
  |none=>rw[pZ]at hk;cases hk
  |some Qc=>
   rw[pZ]at hk;simp only[aa]at hk;obtain⟨h1,h2,_,rfl⟩:=PG pZ;obtain⟨fp,dC,ES,hl⟩:=mY.hands 0 _ _ rfl;have eR:=(dQ dC).1;obtain⟨bo,cap,hv,Ie,iu,Eb,ajf,S6⟩:=ae8 eR (n:=p.toNat) (by omega);have dI:(execOp a.eval o).run P w=.ok (.value (.slice (if cap=p.toNat then bo else bo.map (·.add (p.toNat*e.size))) (xs.length-p.toNat) (cap-p.toNat))) w:=by
    have hb:(Instr.sliceBounds true xs.length cap (some (a.eval lo)) none none).run P w=.ok (p.toNat,xs.length,cap) w:=by have hp2:p<=(xs.length:Int):=h2;simp[Instr.sliceBounds,Instr.sliceBound,asIntOf,iR hlv,h1,hp2]
    simp only[execOp,ho,hv,Instr.sliceAt,Instr.slice,underlying,Option.map_none,dg,Sem.run_bind,run_program,hu,Result.andThen_ok,Sem.run_pure,hb,sizeOf,typeInfo,Ea,tu]
   have AJ:(xs.take ((xs.length:Int).toNat)).drop p.toNat=xs.drop p.toNat:=by rw[ay,df]
   rw[AJ]at hk;refine⟨_,_,_,.inl dI,?_,hk⟩;refine mY.Pe o.dst (hw':=g'.hw) (fp:=iu) (Fr.refl _ _) (λ_ _ _ _=>rfl) (λ_ _ _ ho hu=>⟨ho,hu⟩) Eb (S6 ES) (λb hb=>?_);have:=hl b (ajf b hb);exact⟨(mY.fA b _ this).1,.inl (by rw[this];rfl)⟩
 cases hk;cases hk
theorem Zc {E:Env}(hE:jm P E.ty){an:An}{o:Oper}{lo hi:aw Operand}(ho:o.op=.slice T x lo hi none)(h:nt C st a w){K:AS->aw R}(hk:CG E an o T x lo hi st K=some r):mZ P C o a w K r:=by
 obtain⟨g,hg⟩:=id h;have vP:=hg.fresh (hg.rd x);unfold CG at hk;split at hk;exact Pq hE ho h hk;split at hk;rename_i s hx;rw[hx]at vP;split at hk;rename_i hT;have hu:=Ua hE hT;have hv:=(dQ vP).1;obtain⟨p,q,S4,dI⟩:=NP (P:=P) (w:=w) hg (aU s.length) hk false;cases pZ:sub s p q with|none=>rw[pZ]at S4;cases S4|some s'=>rw[pZ]at S4;simp only[aa]at S4;obtain⟨h1,h2,h3,rfl⟩:=PG pZ;have hb:=dI h1 h2 h3;refine vW h _ _ ?_ (Nt _) S4;simp only[execOp,ho,hv,Instr.sliceAt,Instr.slice,underlying,Option.map_none,Sem.run_bind,run_program,hu,Result.andThen_ok,Sem.run_pure,yX,hb,Option.isSome_none,aY,cc,extract_mk]
 cases hk;rename_i fl e xs hx;rw[hx]at vP;split at hk;rename_i hT;obtain⟨hT,pg⟩:=hT;obtain⟨te,hu,⟨inf,z,Ea,tu,_⟩,_⟩:=Hj hE hT;have hc:=dQ vP
 have key:∀(S:Nat->Nat->Prop),jd w S (.sl e) [a.eval x] xs->(∀(p q:Int)(bo:aw Addr)(cap:Nat),0<=p->p<=q->q<=xs.length->xs.length<=cap->a.eval x=.slice bo xs.length cap->
  jd w S (.sl e) [.slice (if cap=p.toNat then bo else bo.map (·.add (p.toNat*e.size))) (q.toNat-p.toNat) (cap-p.toNat)] ((xs.take q.toNat).drop p.toNat)->
  gI (cy C g st w) (.slice (if cap=p.toNat then bo else bo.map (·.add (p.toNat*e.size))) (q.toNat-p.toNat) (cap-p.toNat)) (.sl (O5 an o fl p) e ((xs.take q.toNat).drop p.toNat)) [])->mZ P C o a w K r:=by
  intro S J0 hmk
  have Ie:∃bo cap,a.eval x=.slice bo xs.length cap/\xs.length<=cap:=by obtain⟨bo,cap,hv,hc,_⟩:=aas J0 (x:=0) (y:=0) (aU _) (eH _);exact⟨bo,cap,hv,hc⟩
  obtain⟨bo,cap,hv,Ie⟩:=Ie
  obtain⟨p,q,S4,dI⟩:=NP (P:=P) (w:=w) hg Ie hk true
  cases pZ:sub xs p q with
  |none=>rw[pZ]at S4;cases S4
  |some Qc=>
   rw[pZ]at S4
   simp only[aa]at S4
   obtain⟨h1,h2,h3,rfl⟩:=PG pZ
   have hb:=dI h1 h2 h3
   obtain⟨bo',aqH,Td,_,aek⟩:=aas J0 (x:=p.toNat) (y:=q.toNat) (by omega) (by omega)
   rw[hv]at Td
   simp only[Value.slice.injEq,true_and]at Td
   obtain⟨rfl,rfl⟩:=Td
   refine⟨.slice (if cap=p.toNat then bo else bo.map (·.add (p.toNat*e.size))) (q.toNat-p.toNat) (cap-p.toNat),w,_,.inl ?_,⟨g,hg.quiet o.dst (mN (hmk p q _ _ h1 h2 h3 Ie hv aek))⟩,S4⟩
   simp only[execOp,ho,hv,Instr.sliceAt,Instr.slice,underlying,Option.map_none,Sem.run_bind,run_program,hu,Result.andThen_ok,Sem.run_pure,hb,sizeOf,typeInfo,Ea,tu]
 cases fl with
 |own t=>cases pg
 |nest _ _ _ _ _ _=>cases pg
 |part _ _ _ _=>cases pg
 |fe _ _ _=>cases pg
 |arg _=>exact key _ hc.2 (λp q bo cap _ _ _ _ _ hr=>by simp only[O5,qI.bare];exact⟨rfl,hr⟩)
 |loc ep pv=>
  have xQ:ep=st.ep:=by simpa[qI.live]using pg
  refine key _ (hc.2.2.2.1 xQ) (λp q bo cap hp hpq hq Ie hv hr=>?_);have hlen:((xs.take q.toNat).drop p.toNat).length=q.toNat-p.toNat:=by simp;omega
  have plain:gI (cy C g st w) (.slice (if cap=p.toNat then bo else bo.map (·.add (p.toNat*e.size))) (q.toNat-p.toNat) (cap-p.toNat)) (.sl (.loc ep none) e ((xs.take q.toNat).drop p.toNat)) []:=⟨rfl,hc.2.1,⟨_,_,_,rfl,hlen.symm⟩,λ_=>hr,by simp⟩
  rcases acs (an:=an) (o:=o) (ep:=ep) (pv:=pv) (p:=p)with hpf|⟨rt,t,rfl,hpf⟩;rw[hpf];exact plain;rw[hpf];refine⟨rfl,hc.2.1,⟨_,_,_,rfl,hlen.symm⟩,λ_=>?_⟩;have Iv:=hc.2.2.2.2 rt t rfl;refine⟨Iv.1,?_⟩;by_cases hz:q.toNat-p.toNat=0;exact .inl (cz (by rw[hlen];exact hz));right;obtain⟨u,hu,J0⟩:=hc.2.2.2.1 xQ;simp at hu;rcases J0 with⟨_,rfl⟩|⟨b,o0,UJ,Mh,XZ,_⟩;simp at hlen;omega;rw[<-hu,hv]at Mh;simp only[Value.slice.injEq,true_and]at Mh;obtain⟨rfl,rfl⟩:=Mh;refine⟨p.toNat,b,o0,xs.length,cap,cap-p.toNat,by omega,by rw[<-Iv.2,hv],by rw[hlen];omega,?_⟩;rw[mG,hlen];simp[nv]
 cases hk;cases hk
theorem UI {E:Env}(hE:jm P E.ty)(h:E.bytes T=true):∃te,P.underlying T=some (.slice te)/\P.underlying te=some (.int .u8):=by unfold Env.bytes at h;split at h;rename_i te n hT;split at h;rename_i jV hte;obtain⟨te',hu,_,ho⟩:=(hE T _ hT).sl _ rfl rfl;have:=ho te n rfl;subst this;exact⟨te,hu,(hE te _ hte).int _ rfl rfl⟩;cases h;cases h
theorem acz {w:World}{S:Nat->Nat->Prop}{v:Value}{xs:eF}(h:jd w S (.sl (.int .u8)) [v] xs): ((∃a,v=.slice a 0 0)/\xs=[])\/∃b o cap,v=.slice (some ⟨b,o,none⟩) xs.length cap/\∀i,i<xs.length->w.cell? ⟨b,o+i,none⟩=some (.int .u8 (xs.getD i 0)):=by obtain⟨u,hu,h⟩:=h;simp at hu;subst hu;rcases h with h|⟨b,o,cap,hv,_,h⟩;exact .inl h;refine .inr ⟨b,o,cap,hv,λi hi=>?_⟩;obtain⟨cs,Li,hr⟩:=h i xs[i] (al hi);have hr':cs=[.int .u8 xs[i]]:=hr;subst hr';have:=(Li 0 _ rfl).2;simp only[CT.size,ny,dL]at this;rw[this];simp[List.getD,al hi]
theorem SK {E:Env}(hE:jm P E.ty){o:Oper}{src dst:TypeId}(ho:o.op=.convert src dst x)(h:nt C st a w){K:AS->aw R}(hk:lZ E o src dst x st K=some r):mZ P C o a w K r:=by
 obtain⟨g,hg⟩:=id h;have vP:=hg.rd x;have fin:∀v w',(convert src dst (a.eval x)).run P w=.ok v w'->(execOp a.eval o).run P w=.ok (.value v) w':=by intro v w' hr;simp only[execOp,ho];show(convert src dst (a.eval x)>>=λv=>pure (Next.value v)).run P w=_;rw[Sem.run_bind,hr];rfl
 have under:∀(T:TypeId)(sh:Shape),iT E.ty T=some sh->∃d,P.underlying T=some d:=by
  intro T sh hT;have ko:=hE T sh hT;cases Nm:sh.agg with
  |true=>obtain⟨fs,hu,_⟩:=ko.agg Nm;exact⟨_,hu⟩
  |false=>
   cases Mc:sh.ct with
   |int k=>exact⟨_,ko.int k Mc Nm⟩
   |bool=>exact⟨_,ko.bool Mc Nm⟩
   |str=>exact⟨_,ko.str Mc Nm⟩
   |sl e=>obtain⟨te,hu,_⟩:=ko.sl e Mc Nm;exact⟨_,hu⟩
   |pair p q=>have:=ko.pair p q Mc;rw[Nm]at this;cases this
 unfold lZ at hk;split at hk;rename_i ssh k jV k' n hs hd hx;rw[hx]at vP;obtain⟨ds,Qq⟩:=under _ _ hs;have hud:=(hE dst _ hd).int k rfl rfl;refine vW h _ _ (fin (.int k (k.wrap n)) w ?_) (kB _ _) hk;rw[iR vP];simp only[convert,underlying,Sem.run_bind,run_program,Qq,hud,Result.andThen_ok,Sem.run_pure];rfl;rename_i jV aqF s hs hd hx;rw[hx]at vP;have Qq:=(hE src _ hs).str rfl rfl;have hud:=(hE dst _ hd).str rfl rfl;refine vW h _ _ (fin (.string ⟨s.toArray⟩) w ?_) (Nt _) hk;rw[(dQ vP).1];simp only[convert,underlying,Sem.run_bind,run_program,Qq,hud,Result.andThen_ok,Sem.run_pure];rename_i jV sh s MU hs hd hx;rw[hx]at vP;split at hk;rename_i hb;unfold room at hk;split at hk;obtain⟨te,hu,hte⟩:=UI hE hb;have Qq:=(hE src _ hs).str rfl rfl;have dI:=run_bytes_of_string (P:=P) w src dst te ⟨s.toArray⟩ Qq hu hte;rw[<-(dQ vP).1,yX]at dI;refine⟨_,_,_,.inl (fin _ _ dI),?_,hk⟩;have BD:=grownCap_ge w s.length 0 te;have tu:(bytesRow ⟨s.toArray⟩ (grownCap w s.length 0 te)).size=grownCap w s.length 0 te*CT.size (.int .u8):=by simp only[bytesRow,Array.size_append,Array.size_map,Array.size_replicate,yX,CT.size];simp;omega
 have tD:(bytesRow ⟨s.toArray⟩ (grownCap w s.length 0 te)).toList.take ((dm s).length*CT.size (.int .u8))=(dm s).map (Value.int .u8):=by simp only[bytesRow,dm,CT.size,Array.toList_append,Array.toList_map];rw[List.take_append_of_le_length (by simp)];rw[bB (by simp)];simp
 have GS:kG g.hw w (.int .u8) ((bytesRow ⟨s.toArray⟩ (grownCap w s.length 0 te)).toList.take ((dm s).length*CT.size (.int .u8))) (dm s) (List.replicate s.length []):=by
  rw[tD];refine⟨by simp[CT.size],by simp[dm],λi y f hy hf=>?_⟩;have hi:i<(dm s).length:=(aD.1 hy).1;have hf':f=[]:=by rw[dk]at hf;split at hf<;>simp at hf;exact hf
  subst hf';refine⟨?_,rfl⟩;apply cL;intro j;rw[jh];simp only[CT.size,ny];cases j with|zero=>simp[hy]|succ j=>simp
 have hlen:(dm s).length=s.length:=by simp[dm]
 have:=hg.O2 o.dst (T:=te) (fr:=((bytesRow ⟨s.toArray⟩ (grownCap w s.length 0 te)).size,(bytesRow ⟨s.toArray⟩ (grownCap w s.length 0 te)).size+1)) (cap:=grownCap w s.length 0 te) (.inr rfl) (by intro j hj hc;simp only at hc;omega) tu (by rw[hlen];exact BD) GS (by simp) (by simp);rw[hlen]at this;exact this;cases hk;cases hk;rename_i ssh jV fl xs hs hd hx;rw[hx]at vP;split at hk;rename_i hb;obtain⟨hb,pg⟩:=hb;obtain⟨te,hu,hte⟩:=UI hE hb;have hud:=(hE dst _ hd).str rfl rfl;have hc:=dQ vP;have J0:∃S,jd w S (.sl (.int .u8)) [a.eval x] xs:=by
  cases fl with
  |own t=>cases pg
  |nest _ _ _ _ _ _=>cases pg
  |part _ _ _ _=>cases pg
  |fe _ _ _=>cases pg
  |arg _=>exact⟨_,hc.2⟩
  |loc ep pv=>
   have xQ:ep=st.ep:=by simpa[qI.live]using pg
   exact⟨_,hc.2.2.2.1 xQ⟩
 obtain⟨S,J0⟩:=J0;refine vW h _ _ (fin (.string ⟨(aM xs).toArray⟩) w ?_) (Nt _) hk;rcases acz J0 with⟨⟨ad,hv⟩,rfl⟩|⟨b,ob,cap,hv,AI⟩;cases ad with|none=>rw[hv,run_convert_bytes_nil w src te hu hte 0 0 dst hud];rfl|some ad=>rw[hv];exact run_convert_bytes_back w src dst te ad 0 [] hu hte hud (λj hj=>by simp at hj)
 rw[hv,run_convert_bytes_arg w src te hu hte b ob xs.length cap xs rfl AI dst hud];rfl;cases hk;cases hk
end Go.Dn
