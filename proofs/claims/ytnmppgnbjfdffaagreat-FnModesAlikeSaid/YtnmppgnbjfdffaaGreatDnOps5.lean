import Derived.Test.YtnmppgnbjfdffaaGreatDnOps4
import Derived.Laws.MakeOwn
import Derived.Laws.IdiomStrings
import Derived.Laws.BytesArg
/- Part 5: tuples, parts of slices, conversions, structs and slices that are built. -/
namespace Go.Dn
open Go.RowKit
variable {P:Program} {C:Ctx} {st:AS} {a:Act} {w:World} {R:Type} {r:R}
variable {arr:Array Value} {e:CT} {g:Gh} {cap:Nat} {fr:Nat×Nat} {hw:Nat->Nat} {x:Operand} {T:TypeId} {v:Value} {hs:ay (Value×AV)} {fps:ay fR} {news:jz}
theorem qM.at {c:RC}:∀{ws:jz}{ts:ay (Bool×ay AC)}{fp:fR},gW.qM c ws ts fp->∀{i:Nat}{g:Bool}{cs:ay AC},ts[i]?=some (g,cs)->
 ∃v f1 f2 f3,ws[i]?=some v/\fp=f1++f2++f3/\(∃us,Cut g v us/\bR c us cs f2)/\
  ∀c':RC,c.Le c'->(∀b∈f1++f3,c'.w.heap[b]?=c.w.heap[b]?/\c'.hw b=c.hw b)->∀qO,(∃us,Cut g v us/\bR c' us qO [])->gW.qM c' ws (ts.set i (g,qO)) (f1++f3)
 |[],[],_,_,i,g,cs,h=>by simp at h
 |w::ws,t::ts,_,r,0,g,cs,h=>by obtain⟨f1,f2,rfl,r1,r2⟩:=r;simp at h;subst h;exact⟨w,[],f1,f2,rfl,by simp,r1,λc' hle hb qO yd=>⟨[],f2,rfl,yd,qM.mono hle r2 (λb im=>hb b (by simpa using im))⟩⟩
 |w::ws,t::ts,_,r,i+1,g,cs,h=>by obtain⟨f1,f2,rfl,r1,r2⟩:=r;obtain⟨v,g1,g2,g3,hv,rfl,hr,Eh⟩:=qM.at r2 (i:=i) (by simpa using h);refine⟨v,f1++g1,g2,g3,by simpa using hv,by simp,hr,λc' hle hb qO yd=>?_⟩;obtain⟨us,gm,fJ⟩:=r1;rw[aD];refine⟨f1,g1++g3,rfl,⟨us,gm,fJ.mono hle (λb im=>hb b (by simp[im]))⟩,?_⟩;exact Eh c' hle (λb im=>hb b (by rcases ax.1 im with k|k<;>simp[k])) qO yd
 |[],_::_,_,r,_,_,_,_=>r.elim
 |_::_,[],_,r,_,_,_,_=>r.elim
theorem Rt {o:Oper}{t i:Nat}(ho:o.op=.extract (.tmp t) i)(h:oE C st a w){K:AS->aC R}(hk:mw o t i st K=some r):nm P C o a w K r:=by
 obtain⟨g,h⟩:=h;unfold mw at hk;split at hk;rename_i ts hg;split at hk;rename_i gg cs hn;rw[eH]at hn;have htl:t<st.slots.length:=by
  rcases bW t st.slots.length with ir|zH;exact ir;have:st.get t=.bot:=by simp[AS.get,eH,bM zH]
  rw[this]at hg;cases hg
 obtain⟨fp,hr,Fc,hl⟩:=h.slot t;rw[hg]at hr;obtain⟨ws,hv,hr⟩:=hr;obtain⟨v,f1,f2,f3,hwv,rfl,PF,Eh⟩:=qM.at hr hn;have fb:(execOp a.eval o).run P w=.ok (.value v) w:=by have he:a.eval (.tmp t)=.tuple ws.toArray:=hv;simp[execOp,ho,he,Instr.extract,hwv]
 have RM:=Fc;rw[aD]at RM;have n1:=aM.1 RM;have n2:=aM.1 n1.2.1;let Og:AV:=.wh (iR ts i (gg,bf 0 cs));let bX:AS:=st.put (some t) Og;let g':Gh:={g with fe:=λb=>if b∈f2 then some (.hand 0) else g.fe b}
 have hle:(dk C g st w).Le (dk C g' bX w):=by have:= @R1 C g st w (some t) Og;exact⟨this.A,this.hdr,this.Td,this.ep,this.H2,this.acb⟩
 have VX:∀b y,g.fe b=some y->b∉f2->g'.fe b=some y:=by intro b y hb hm;show(if b∈f2 then _ else _)=_;rw[aH hm];exact hb
 have KR:∀b y,y≠ .slot t->g.fe b=some y->b∉f2:=λb y hy hb hm=>hy (by have:=hl b (by simp[hm]);rw[hb]at this;simpa using this);have ajx:eK C g' bX a w [(v,.val gg cs)]:=by
  refine h.step (λy=>y≠ .slot t) hle h.defers (by show _=(st.put (some t) Og).slots.length;rw[gE,aK];exact h.size) (by show(st.put (some t) Og).boxes.length=(st.put (some t) Og).slots.length;rw[lr,gE,aK];exact h.bsize) h.frame ?_ (λb y hy hb=>⟨VX b y hb (KR b y hy hb),rfl,rfl⟩) ?_ ?_ ?_ (.inl ⟨by simp,I6⟩);intro b y hy;have SR:(if b∈f2 then some (kI.hand 0) else g.fe b)=some y:=hy;by_cases hm:b∈f2;exact h.gY b _ (hl b (by simp[hm]));rw[aH hm]at SR;exact h.gY b y SR;intro j bv hj;have hj':(st.slots.set t Og)[j]?=some bv:=by rw[<-gE];exact hj
  by_cases hjt:j=t;subst hjt;rw[bH]at hj';simp only[cc,htl]at hj';simp at hj';subst hj';refine .inr ⟨f1++f3,⟨ws,hv,?_⟩,?_,?_⟩;rw[gr];obtain⟨us,gm,fJ⟩:=PF;refine Eh _ hle (λb _=>⟨rfl,rfl⟩) _ ⟨us,gm,?_⟩;exact(fJ.YP).mono hle (by simp);refine aM.2 ⟨n1.1,n2.2.1,?_⟩;rintro b hb c hc rfl;exact n1.2.2 b hb b (bj _ hc) rfl;intro b hb;refine VX b _ (hl b (by rcases ax.1 hb with k|k<;>simp[k])) (λhm=>?_);rcases ax.1 hb with k|k;exact n1.2.2 b k b (aR _ hm) rfl;exact n2.2.2 b hm b k rfl;rw[aJ (cr hjt)]at hj';exact .inl ⟨by simpa using hjt,hj',rfl⟩;intro s qO hb;have im:st.boxes[s]?=some (some qO):=by rw[<-lr (d:=some t) (v:=Og)];exact hb
  exact .inl ⟨by simp,im,rfl⟩;intro k u bv Ee;cases k with
  |zero=>simp only[cM,bu,Prod.mk.injEq]at Ee;obtain⟨rfl,rfl⟩:=Ee;obtain⟨us,gm,fJ⟩:=PF;refine .inr ⟨f2,⟨us,gm,fJ.mono hle (λb _=>⟨rfl,rfl⟩)⟩,n2.1,λb hb=>?_⟩;show(if b∈f2 then _ else _)=_;rw[aF hb]
  |succ k=>simp at Ee
 exact⟨v,w,_,.inl fb,eK.C1 ajx o.dst,hk⟩;cases hk;cases hk
def lh (hw:Nat->Nat)(w:World)(e:CT)(news:jz)(ys:ay e.D)(fps:ay fR):Prop:=
 news.length=ys.length*e.size/\fps.length=ys.length/\∀(i:Nat)(y:e.D)(f:fR),ys[i]?=some y->fps[i]?=some f->gi hw w e ((news.drop (i*e.size)).take e.size) y f
theorem lh.append {w:World}{n1 n2:jz}{xs ys:ay e.D}{f1 f2:ay fR}(h1:lh hw w e n1 xs f1)(h2:lh hw w e n2 ys f2): lh hw w e (n1++n2) (xs++ys) (f1++f2):=by
 obtain⟨a1,a2,a3⟩:=h1;obtain⟨b1,b2,b3⟩:=h2;refine⟨by rw[aj,aj,a1,b1,cW],by simp[a2,b2],λi y f hy hf=>?_⟩;by_cases hi:i<xs.length;rw[bp hi]at hy;rw[bp (by omega)]at hf;have hm:(i+1)*e.size<=xs.length*e.size:=cO _ hi;rw[cW,fY]at hm;have:=a3 i y f hy hf;have e1:((n1++n2).drop (i*e.size)).take e.size=(n1.drop (i*e.size)).take e.size:=by rw[List.drop_append_of_le_length (by omega),List.take_append_of_le_length (by rw[aP];omega)]
 rw[e1];exact this;rw[bz (by omega)]at hy;rw[bz (by omega),a2]at hf;have:=b3 _ y f hy hf;have zH:xs.length*e.size<=i*e.size:=cO _ (by omega);have e1:(n1++n2).drop (i*e.size)=n2.drop ((i-xs.length)*e.size):=by rw[List.drop_append,cB (by omega),cC,a1,Nat.sub_mul]
 rw[e1];exact this
theorem lh.mono {hw':Nat->Nat}{w w':World}{ys:ay e.D}(h:lh hw w e news ys fps)(hk:∀b∈fps.flatten,w'.heap[b]?=w.heap[b]?/\hw' b=hw b):lh hw' w' e news ys fps:=⟨h.1,h.2.1,λi y f hy hf=>gi.mono (h.2.2 i y f hy hf) λb hb=>hk b (List.mem_flatten.2 ⟨f,aZ hf,hb⟩)⟩
theorem lh.nil (hw:Nat->Nat)(w:World)(e:CT):lh hw w e [] [] []:=⟨by simp,rfl,by simp⟩
theorem lh.nC {w:World}{ys:ay e.D}(h:lh hw w e news ys fps):∀v∈news,v.oneCell'=true:=by
 intro v hv;obtain⟨j,hj,hjv⟩:=List.mem_iff_getElem.1 hv;have aaU:=e.size_pos;have hi:j/e.size<ys.length:=by rw[Nat.div_lt_iff_lt_mul aaU];rw[<-h.1];exact hj
 have iL:=h.2.2 (j/e.size) _ _ (aw hi) (aw (by rw[h.2.1];exact hi));refine gi.nC iL v ?_;rw[List.mem_iff_getElem?];refine⟨j%e.size,?_⟩;rw[jU,aF (Nat.mod_lt _ aaU),Nat.mul_comm,Nat.div_add_mod,aw hj,hjv]
theorem X8 {w:World}{b o0:Nat}{xs:ay e.D}(hb:w.heap[b]?=some (.cells arr T fr))(sE:qh arr fr)(hs:arr.size=o0+cap*e.size)(hc:xs.length<=cap)(hh:hw b=o0+xs.length*e.size)(Ea:lh hw w e ((arr.toList.drop o0).take (xs.length*e.size)) xs fps): gi hw w (.sl e) [.slice (some ⟨b,o0,none⟩) xs.length cap] xs (b::fps.flatten):=by
 refine⟨_,rfl,.inr ⟨b,o0,cap,arr,T,fr,fps,rfl,hb,sE,hs,hc,hh,rfl,Ea.2.1,λi x f hx hf=>?_⟩⟩;have:=Ea.2.2 i x f hx hf;have hi:i<xs.length:=(aB.1 hx).1;have hm:(i+1)*e.size<=xs.length*e.size:=cO _ hi;rw[cW,fY]at hm;have e1:(((arr.toList.drop o0).take (xs.length*e.size)).drop (i*e.size)).take e.size=(arr.toList.drop (o0+i*e.size)).take e.size:=by apply dh;intro j;rw[jU,jU,jU];by_cases hj:j<e.size;rw[aF hj,aF hj,zip,fV];rw[aH hj,aH hj]
 rw[e1]at this;exact this
theorem Jm {w:World}{o0:Nat}{xs:ay e.D}(hs:arr.size=o0+cap*e.size)(hc:xs.length<=cap)(hl:fps.length=xs.length)(h:∀(i:Nat)(x:e.D)(f:fR),xs[i]?=some x->fps[i]?=some f->gi hw w e ((arr.toList.drop (o0+i*e.size)).take e.size) x f):lh hw w e ((arr.toList.drop o0).take (xs.length*e.size)) xs fps:=by
 refine⟨?_,hl,λi x f hx hf=>?_⟩;have hal:(arr.toList.drop o0).length=cap*e.size:=by rw[aP,Array.length_toList,hs];omega
 rw[aY,hal];exact iX (cO _ hc);have hi:i<xs.length:=(aB.1 hx).1;have hm:(i+1)*e.size<=xs.length*e.size:=cO _ hi;rw[cW,fY]at hm;have e1:(((arr.toList.drop o0).take (xs.length*e.size)).drop (i*e.size)).take e.size=(arr.toList.drop (o0+i*e.size)).take e.size:=by apply dh;intro j;rw[jU,jU,jU];by_cases hj:j<e.size;rw[aF hj,aF hj,zip,fV];rw[aH hj,aH hj]
 rw[e1];exact h i x f hx hf
theorem Mh {w w':World}{S:Nat->Nat->Prop}:∀{e:CT}{vs:jz}{x:e.D},jP w' S e vs x->e.flat=true->gi hw w e vs x []
 | .int _,_,_,h,_=>⟨h,rfl⟩
 | .bool,_,_,h,_=>⟨h,rfl⟩
 | .str,_,_,h,_=>⟨h,rfl⟩
 | .sl _,_,_,_,hf=>by cases hf
 | .pair a b,_,_,h,hf=>by obtain⟨v1,v2,rfl,h1,h2⟩:=h;simp only[CT.flat,ab]at hf;exact⟨v1,v2,[],[],rfl,rfl,Mh h1 hf.1,Mh h2 hf.2⟩
def Ms (hdr:Nat->Value)(t:aC Nat)(v:Value):Nat->Value:=λu=>if t=some u then v else hdr u
theorem Xd {hdr:Nat->Value}{d:aC Nat}{t:Nat}(h:nq st t):Ms hdr (st.je d 0) v t=hdr t:=by unfold Ms;rw[aH];intro e;exact(pX e).1 h
theorem eK.Nq (h:eK C g st a w hs)(d:aC Nat){xs:ay e.D}{fp:fR}{w':World}{hw':Nat->Nat}(jQ:Fr (λb=>eE (g.fe b)) w w')(Fb:∀b x,g.fe b=some x->¬eE (some x)->hw' b=g.hw b)(Hn:∀b o u,o<g.hw b->w.cell? ⟨b,o,none⟩=some u->o<hw' b/\w'.cell? ⟨b,o,none⟩=some u)(iL:gi hw' w' (.sl e) [v] xs fp)(hn:fp.Nodup)(Dw:∀b∈fp,b<w'.heap.size/\(eE (g.fe b)\/w.heap.size<=b)): oE C (st.qg d e xs) (a.put d v) w':=by refine h.Np d (st1:=st.gv d) (hdr':=Ms g.hdr (st.je d 0) v) HJ uC AN zS (λt ht=>⟨CU ht,Xd ht⟩) jQ Fb Hn (mZ ⟨iL,λt ht=>?_⟩) hn Dw;refine⟨(pX ht).2.1,?_⟩;show v=Ms g.hdr (st.je d 0) v t;unfold Ms;rw[aF ht]
theorem eK.M9 (h:eK C g st a w hs)(d:aC Nat){xs:ay e.D}{w':World}(hw:w'=w.alloc (.cells arr T fr)\/w'=w.drew.alloc (.cells arr T fr))(sE:qh arr fr)(hs0:arr.size=cap*e.size)(hc:xs.length<=cap)(Ea:lh g.hw w e (arr.toList.take (xs.length*e.size)) xs fps)(hn:fps.flatten.Nodup)(Dw:∀b∈fps.flatten,eE (g.fe b)): oE C (st.qg d e xs) (a.put d (.slice (some ⟨w.heap.size,0,none⟩) xs.length cap)) w':=by
 have jQ:Fr (λb=>eE (g.fe b)) w w':=by rcases hw with rfl|rfl;exact Fr.alloc _ _ _;exact(Fr.drew _ w).trans (Fr.alloc _ _ _) (λb _ hh=>hh)
 have T0:w'.heap[w.heap.size]?=some (.cells arr T fr):=by rcases hw with rfl|rfl;exact heap_alloc_new w _;exact heap_alloc_new w.drew _
 have uL:w'.heap.size=w.heap.size+1:=by rcases hw with rfl|rfl<;>simp
 have hold:∀b,b<w.heap.size->w'.heap[b]?=w.heap[b]?:=by intro b hb;rcases hw with rfl|rfl;exact heap_alloc_old w _ b hb;exact heap_alloc_old w.drew _ b hb
 have ir:∀b∈fps.flatten,b<w.heap.size:=by intro b hb;have hh:=Dw b hb;cases hx:g.fe b with|none=>rw[hx]at hh;cases hh|some x=>exact(h.gY b x hx).1
 let hw':Nat->Nat:=λb=>if b=w.heap.size then xs.length*e.size else g.hw b
 have iL:gi hw' w' (.sl e) [.slice (some ⟨w.heap.size,0,none⟩) xs.length cap] xs (w.heap.size::fps.flatten):=by refine X8 (o0:=0) T0 sE (by rw[cK];exact hs0) hc (by simp[hw']) (Ea.mono λb hb=>?_);have im:=ir b hb;exact⟨hold b im,by simp[hw',iO im]⟩
 refine h.Nq d (hw':=hw') (fp:=w.heap.size::fps.flatten) jQ ?_ ?_ iL ?_ ?_;intro b x hx _;simp[hw',iO (h.gY b x hx).1];intro b o u ho hu;have hb:b<w.heap.size:=World.block_lt_of_cell? w _ hu;exact⟨by simp[hw',iO hb];exact ho,by rw[World.cell?_of_block (a:=⟨b,o,none⟩) (hold b hb)];exact hu⟩;exact dI.2 ⟨λhm=>Nat.lt_irrefl _ (ir _ hm),hn⟩;intro b hb;rcases cw.1 hb with rfl|hb;exact⟨by omega,.inr (aV _)⟩;exact⟨by have:=ir b hb;omega,.inl (Dw b hb)⟩
theorem aeS {z:Array Value}{c size i:Nat}(hz:z.size=size)(hi:i<c):((madeCells z (c*size)).toList.drop (i*size)).take size=z.toList:=by
 have hm:(i+1)*size<=c*size:=cO _ hi;rw[cW,fY]at hm;apply dh;intro j;rw[jU];by_cases hj:j<size;rw[aF hj,madeCells];have h1:i*size+j<c*size:=by omega
 simp only[Array.toList_map,Array.toList_range,List.getElem?_map,List.getElem?_range h1,dJ];have ajm:(i*size+j)%z.size=j:=by rw[hz,Nat.mul_comm,Nat.mul_add_mod,eR hj]
 rw[ajm];simp[getElem!_pos,hz,hj];rw[aH hj,bM];simp[hz];omega
theorem MZ {E:Env}(hE:jX P E.ty){o:Oper}{n c:Operand}(ho:o.op=.makeSlice T n c)(h:oE C st a w){K:AS->aC R}(hk:oW E o T n c st K=some r):nm P C o a w K r:=by
 obtain⟨g,hg⟩:=id h;have hnv:=hg.rd n;have hcv:=hg.rd c;unfold oW at hk;split at hk;rename_i e len cap hT hn hc;rw[hn]at hnv;rw[hc]at hcv;split at hk;rename_i hlc;unfold room at hk;split at hk;rename_i FM;obtain⟨te,hu,⟨inf,z,Ca,uL,hby,hz,hzc⟩,_⟩:=ED hE hT;have Hk:cap<=1073741824:=by omega
 have aja:(inf.bytes:Int)*cap<=281474976710656:=by have h1:(inf.bytes:Int)*cap<=65536*cap:=Int.mul_le_mul_of_nonneg_right (by omega) (by omega);omega
 have fb:=run_make (P:=P) w T te inf z hu Ca hz .i64 .i64 len cap hlc.1 hlc.2 aja (by omega);have FO:(execOp a.eval o).run P w=.ok (.value (.slice (some ⟨w.heap.size,0,none⟩) len.toNat cap.toNat)) (w.alloc (.cells (madeCells z.cells (cap.toNat*inf.size)) te)):=by simp only[execOp,ho,jG hnv,jG hcv];show((Instr.makeSlice T (.int .i64 len) (.int .i64 cap))>>=λv=>pure (Next.value v)).run P w=_;rw[Sem.run_bind,fb];rfl
 have hzs:z.cells.size=e.size:=by rw[<-pO e,<-hzc];simp
 have hlen:(List.replicate len.toNat e.zero).length=len.toNat:=by simp
 have Ea:lh g.hw w e ((madeCells z.cells (cap.toNat*inf.size)).toList.take ((List.replicate len.toNat e.zero).length*e.size)) (List.replicate len.toNat e.zero) (List.replicate len.toNat []):=by
  refine Jm (o0:=0) (cap:=cap.toNat) (by rw[size_madeCells,uL,cK]) (by rw[hlen];omega) (by simp) (λi x f hx hf=>?_);have hi:i<len.toNat:=by have:=(aB.1 hx).1;simpa using this
  rw[eD,aF hi]at hx hf;simp at hx hf;subst hx;subst hf;rw[uL,cK,aeS hzs (by omega),hzc];exact EX _ _ _
 refine⟨_,_,_,.inl FO,?_,hk⟩;have:=hg.M9 o.dst (T:=te) (fr:=(0,0)) (cap:=cap.toNat) (.inl rfl) (by intro j _;simp) (by rw[size_madeCells,uL]) (by rw[hlen];omega) Ea (by simp) (by simp);rw[hlen]at this;exact this;cases hk;cases hk;cases hk
theorem LL {lo hi:aC Operand}(hg:eK C g st a w []){n:Nat}(Hk:n<=cap){K:Int->Int->aC R}(hk:nr st lo hi n K=some r)(isS:Bool): ∃x y:Int,K x y=some r/\(0<=x->x<=y->y<=n->(Instr.sliceBounds isS n cap (lo.map a.eval) (hi.map a.eval) none).run P w=.ok (x.toNat,y.toNat,cap) w):=by
 unfold nr at hk;split at hk;rename_i h1 h2;have e1:lo=none:=by cases lo<;>simp at h1⊢
 have e2:hi=none:=by cases hi<;>simp at h2⊢
 subst e1;subst e2;exact⟨0,n,hk,λ_ _ _=>by simp[Instr.sliceBounds]⟩;rename_i k p h1 h2;have e2:hi=none:=by cases hi<;>simp at h2⊢
 subst e2;cases lo with|none=>simp at h1|some lo=>simp at h1;have hv:=hg.rd lo;rw[h1]at hv;refine⟨p,n,hk,λq1 q2 q3=>?_⟩;simp[Instr.sliceBounds,Instr.sliceBound,asIntOf,jG hv,q1,q2]
 rename_i k p h1 h2;have e1:lo=none:=by cases lo<;>simp at h1⊢
 subst e1;cases hi with|none=>simp at h2|some hi=>simp at h2;have hv:=hg.rd hi;rw[h2]at hv;refine⟨0,p,hk,λq1 q2 q3=>?_⟩;simp[Instr.sliceBounds,Instr.sliceBound,asIntOf,jG hv,show 0<=p by omega,show p<=(cap:Int) by omega]
 rename_i k p k' q h1 h2;cases lo with|none=>simp at h1|some lo=>cases hi with|none=>simp at h2|some hi=>simp at h1 h2;have hv:=hg.rd lo;have SQ:=hg.rd hi;rw[h1]at hv;rw[h2]at SQ;refine⟨p,q,hk,λq1 q2 q3=>?_⟩;simp[Instr.sliceBounds,Instr.sliceBound,asIntOf,jG hv,jG SQ,q1,show 0<=q by omega,show q<=(cap:Int) by omega];intro ir;omega
 cases hk
theorem extract_mk (s:ay UInt8)(x y:Nat):(ByteArray.mk s.toArray).extract x y=ByteArray.mk ((s.take y).drop x).toArray:=by apply ByteArray.ext;rw[ByteArray.data_extract];simp[List.extract_eq_take_drop,List.drop_take]
theorem NS {α:Type}{xs ys:ay α}{x y:Int}(h:sub xs x y=some ys):0<=x/\x<=y/\y<=(xs.length:Int)/\ys=(xs.take y.toNat).drop x.toNat:=by unfold sub at h;split at h;rename_i hc;simp at h;exact⟨hc.1,hc.2.1,hc.2.2,h.symm⟩;cases h
theorem ZX {w:World}{S:Nat->Nat->Prop}{xs:ay e.D}(h:jP w S (.sl e) [v] xs){x y:Nat}(hxy:x<=y)(hy:y<=xs.length): ∃bo cap,v=.slice bo xs.length cap/\xs.length<=cap/\jP w S (.sl e) [.slice (if cap=x then bo else bo.map (·.add (x*e.size))) (y-x) (cap-x)] ((xs.take y).drop x):=by
 obtain⟨u,hu,h⟩:=h;simp at hu;subst hu;rcases h with⟨⟨ad,rfl⟩,rfl⟩|⟨b,o,cap,rfl,hc,h⟩;simp at hy;subst hy;have hx:x=0:=by omega
 subst hx;exact⟨ad,0,rfl,by simp,⟨_,rfl,.inl ⟨⟨ad,by simp⟩,by simp⟩⟩⟩;have hl:((xs.take y).drop x).length=y-x:=by simp;omega
 refine⟨some ⟨b,o,none⟩,cap,rfl,hc,⟨_,rfl,.inr ?_⟩⟩;by_cases hcx:cap=x;refine⟨b,o,cap-x,by rw[aF hcx,hl],by rw[hl];omega,λi z hz=>?_⟩;have:((xs.take y).drop x)=[]:=bZ (by rw[hl];omega);rw[this]at hz;simp at hz;refine⟨b,o+x*e.size,cap-x,by rw[aH hcx,hl];simp[nK],by rw[hl];omega,λi z hz=>?_⟩;have hz':xs[x+i]?=some z:=by rw[bK,dW]at hz;split at hz;exact hz;cases hz
 obtain⟨cs,IV,hr⟩:=h (x+i) z hz';refine⟨cs,?_,hr⟩;have:o+x*e.size+i*e.size=o+(x+i)*e.size:=by rw[cW];omega
 rw[this];exact IV
theorem ae9 {w:World}{xs:ay e.D}{fp:fR}(h:gi hw w (.sl e) [v] xs fp){n:Nat}(hn:n<=xs.length): ∃bo cap,v=.slice bo xs.length cap/\xs.length<=cap/\∃kS,gi hw w (.sl e) [.slice (if cap=n then bo else bo.map (·.add (n*e.size))) (xs.length-n) (cap-n)] (xs.drop n) kS/\(∀b∈kS,b∈fp)/\(fp.Nodup->kS.Nodup):=by
 obtain⟨u,hu,h⟩:=h;simp at hu;subst hu;rcases h with⟨⟨ad,rfl⟩,rfl,rfl⟩|⟨b,o0,cap,arr,T,fr,fps,rfl,hb,sE,hs,hc,hh,rfl,hl,hr⟩;simp at hn;subst hn;exact⟨ad,0,rfl,by simp,[],⟨_,rfl,.inl ⟨⟨ad,by simp⟩,rfl,rfl⟩⟩,by simp,by simp⟩;refine⟨some ⟨b,o0,none⟩,cap,rfl,hc,?_⟩;by_cases hcn:cap=n;have hx:xs.drop n=[]:=cB (by omega);refine⟨[],⟨_,rfl,.inl ⟨⟨some ⟨b,o0,none⟩,by rw[aF hcn,show xs.length-n=0 by omega,show cap-n=0 by omega]⟩,hx,rfl⟩⟩,by simp,by simp⟩;have hm1:cap*e.size=n*e.size+(cap-n)*e.size:=by rw[<-cW];congr 1;omega
 have hm2:xs.length*e.size=n*e.size+(xs.length-n)*e.size:=by rw[<-cW];congr 1;omega
 refine⟨b::(fps.drop n).flatten,⟨_,rfl,.inr ⟨b,o0+n*e.size,cap-n,arr,T,fr,fps.drop n,by rw[aH hcn];simp[nK],hb,sE,by omega,by simp;omega,by simp;omega,rfl,by simp[hl],λi x f hx hf=>?_⟩⟩,?_,?_⟩;rw[bK]at hx hf;have:=hr (n+i) x f hx hf;rwa[cW,<-fV]at this;intro c yd;rcases cw.1 yd with rfl|yd;simp;obtain⟨l,hl1,zI⟩:=List.mem_flatten.1 yd;exact dS _ (List.mem_flatten.2 ⟨l,List.mem_of_mem_drop hl1,zI⟩);intro Fc;have h1:=dI.1 Fc;have e1:fps.flatten=(fps.take n).flatten++(fps.drop n).flatten:=by rw[<-eo,cz]
 rw[e1]at h1;exact dI.2 ⟨λhm=>h1.1 (by simp[hm]),(aM.1 h1.2).2.1⟩
theorem ab3 {an:An}{o:Oper}{ep:Nat}{pv:aC (lq×Nat)}{p:Int}:Nd an o (.loc ep pv) p=.loc ep none\/∃rt t,pv=some (rt,t)/\Nd an o (.loc ep pv) p=.part ep rt t p:=by
 unfold Nd;split;rename_i ep' r t d h _;cases h;cases an.nest.contains d with|false=>exact .inl rfl|true=>exact .inr ⟨_,_,rfl,rfl⟩
 exact .inl rfl
theorem NF {E:Env}(hE:jX P E.ty){o:Oper}{lo hi:aC Operand}(ho:o.op=.slice T x lo hi none)(h:oE C st a w){K:AS->aC R}(hk:wM E o T x lo hi st K=some r):nm P C o a w K r:=by
 obtain⟨g,hg⟩:=h;unfold wM at hk;split at hk;rename_i tag e xs bX kd p sN hlo;split at hk;rename_i hT;cases lo with
 |none=>simp at hlo
 |some lo=>
  simp at hlo;have hlv:=hg.rd lo;rw[hlo]at hlv;obtain⟨te,hu,⟨inf,z,Ca,uL,_⟩,_⟩:=ED hE hT;obtain⟨g',oB⟩:=hg.take x;rw[sN]at oB;simp only[cC]at oB;cases qc:sub xs p xs.length with
  |none=>rw[qc]at hk;cases hk
  |some Oe=>
   rw[qc]at hk;simp only[aa]at hk;obtain⟨h1,h2,_,rfl⟩:=NS qc;obtain⟨fp,fJ,Fc,hl⟩:=oB.hands 0 _ _ rfl;have iL:=(fi fJ).1;obtain⟨bo,cap,hv,Hk,kS,Hm,alu,RM⟩:=ae9 iL (n:=p.toNat) (by omega);have fb:(execOp a.eval o).run P w=.ok (.value (.slice (if cap=p.toNat then bo else bo.map (·.add (p.toNat*e.size))) (xs.length-p.toNat) (cap-p.toNat))) w:=by
    have hb:(Instr.sliceBounds true xs.length cap (some (a.eval lo)) none none).run P w=.ok (p.toNat,xs.length,cap) w:=by have hp2:p<=(xs.length:Int):=h2;simp[Instr.sliceBounds,Instr.sliceBound,asIntOf,jG hlv,h1,hp2]
    simp only[execOp,ho,hv,Instr.sliceAt,Instr.slice,underlying,Option.map_none,dJ,Sem.run_bind,run_program,hu,Result.andThen_ok,Sem.run_pure,hb,sizeOf,typeInfo,Ca,uL]
   have AG:(xs.take ((xs.length:Int).toNat)).drop p.toNat=xs.drop p.toNat:=by rw[aA,eF]
   rw[AG]at hk;refine⟨_,_,_,.inl fb,?_,hk⟩;refine oB.Nq o.dst (hw':=g'.hw) (fp:=kS) (Fr.refl _ _) (λ_ _ _ _=>rfl) (λ_ _ _ ho hu=>⟨ho,hu⟩) Hm (RM Fc) (λb hb=>?_);have:=hl b (alu b hb);exact⟨(oB.gY b _ this).1,.inl (by rw[this];rfl)⟩
 cases hk;cases hk
theorem Yp {E:Env}(hE:jX P E.ty){an:An}{o:Oper}{lo hi:aC Operand}(ho:o.op=.slice T x lo hi none)(h:oE C st a w){K:AS->aC R}(hk:Av E an o T x lo hi st K=some r):nm P C o a w K r:=by
 obtain⟨g,hg⟩:=id h;have uM:=hg.fresh (hg.rd x);unfold Av at hk;split at hk;exact NF hE ho h hk;split at hk;rename_i s hx;rw[hx]at uM;split at hk;rename_i hT;have hu:=Sy hE hT;have hv:=(fi uM).1;obtain⟨p,q,Ou,fb⟩:=LL (P:=P) (w:=w) hg (aV s.length) hk false;cases qc:sub s p q with|none=>rw[qc]at Ou;cases Ou|some s'=>rw[qc]at Ou;simp only[aa]at Ou;obtain⟨h1,h2,h3,rfl⟩:=NS qc;have hb:=fb h1 h2 h3;refine uW h _ _ ?_ (Ln _) Ou;simp only[execOp,ho,hv,Instr.sliceAt,Instr.slice,underlying,Option.map_none,Sem.run_bind,run_program,hu,Result.andThen_ok,Sem.run_pure,xu,hb,Option.isSome_none,bh,cn,extract_mk]
 cases hk;rename_i fl e xs hx;rw[hx]at uM;split at hk;rename_i hT;obtain⟨hT,pw⟩:=hT;obtain⟨te,hu,⟨inf,z,Ca,uL,_⟩,_⟩:=ED hE hT;have hc:=fi uM
 have key:∀(S:Nat->Nat->Prop),jP w S (.sl e) [a.eval x] xs->(∀(p q:Int)(bo:aC Addr)(cap:Nat),0<=p->p<=q->q<=xs.length->xs.length<=cap->a.eval x=.slice bo xs.length cap->
  jP w S (.sl e) [.slice (if cap=p.toNat then bo else bo.map (·.add (p.toNat*e.size))) (q.toNat-p.toNat) (cap-p.toNat)] ((xs.take q.toNat).drop p.toNat)->
  iI (dk C g st w) (.slice (if cap=p.toNat then bo else bo.map (·.add (p.toNat*e.size))) (q.toNat-p.toNat) (cap-p.toNat)) (.sl (Nd an o fl p) e ((xs.take q.toNat).drop p.toNat)) [])->nm P C o a w K r:=by
  intro S Ho hmk
  have Hk:∃bo cap,a.eval x=.slice bo xs.length cap/\xs.length<=cap:=by obtain⟨bo,cap,hv,hc,_⟩:=ZX Ho (x:=0) (y:=0) (aV _) (cq _);exact⟨bo,cap,hv,hc⟩
  obtain⟨bo,cap,hv,Hk⟩:=Hk
  obtain⟨p,q,Ou,fb⟩:=LL (P:=P) (w:=w) hg Hk hk true
  cases qc:sub xs p q with
  |none=>rw[qc]at Ou;cases Ou
  |some Oe=>
   rw[qc]at Ou
   simp only[aa]at Ou
   obtain⟨h1,h2,h3,rfl⟩:=NS qc
   have hb:=fb h1 h2 h3
   obtain⟨bo',aqj,SQ,_,aen⟩:=ZX Ho (x:=p.toNat) (y:=q.toNat) (by omega) (by omega)
   rw[hv]at SQ
   simp only[Value.slice.injEq,true_and]at SQ
   obtain⟨rfl,rfl⟩:=SQ
   refine⟨.slice (if cap=p.toNat then bo else bo.map (·.add (p.toNat*e.size))) (q.toNat-p.toNat) (cap-p.toNat),w,_,.inl ?_,⟨g,hg.quiet o.dst (mZ (hmk p q _ _ h1 h2 h3 Hk hv aen))⟩,Ou⟩
   simp only[execOp,ho,hv,Instr.sliceAt,Instr.slice,underlying,Option.map_none,Sem.run_bind,run_program,hu,Result.andThen_ok,Sem.run_pure,hb,sizeOf,typeInfo,Ca,uL]
 cases fl with
 |own t=>cases pw
 |nest _ _ _ _ _ _=>cases pw
 |part _ _ _ _=>cases pw
 |gj _ _ _=>cases pw
 |arg _=>exact key _ hc.2 (λp q bo cap _ _ _ _ _ hr=>by simp only[Nd,qL.bare];exact⟨rfl,hr⟩)
 |loc ep pv=>
  have yi:ep=st.ep:=by simpa[qL.live]using pw
  refine key _ (hc.2.2.2.1 yi) (λp q bo cap hp hpq hq Hk hv hr=>?_);have hlen:((xs.take q.toNat).drop p.toNat).length=q.toNat-p.toNat:=by simp;omega
  have plain:iI (dk C g st w) (.slice (if cap=p.toNat then bo else bo.map (·.add (p.toNat*e.size))) (q.toNat-p.toNat) (cap-p.toNat)) (.sl (.loc ep none) e ((xs.take q.toNat).drop p.toNat)) []:=⟨rfl,hc.2.1,⟨_,_,_,rfl,hlen.symm⟩,λ_=>hr,by simp⟩
  rcases ab3 (an:=an) (o:=o) (ep:=ep) (pv:=pv) (p:=p)with hpf|⟨rt,t,rfl,hpf⟩;rw[hpf];exact plain;rw[hpf];refine⟨rfl,hc.2.1,⟨_,_,_,rfl,hlen.symm⟩,λ_=>?_⟩;have FN:=hc.2.2.2.2 rt t rfl;refine⟨FN.1,?_⟩;by_cases hz:q.toNat-p.toNat=0;exact .inl (bZ (by rw[hlen];exact hz));right;obtain⟨u,hu,Ho⟩:=hc.2.2.2.1 yi;simp at hu;rcases Ho with⟨_,rfl⟩|⟨b,o0,Wp,RQ,VW,_⟩;simp at hlen;omega;rw[<-hu,hv]at RQ;simp only[Value.slice.injEq,true_and]at RQ;obtain⟨rfl,rfl⟩:=RQ;refine⟨p.toNat,b,o0,xs.length,cap,cap-p.toNat,by omega,by rw[<-FN.2,hv],by rw[hlen];omega,?_⟩;rw[kl,hlen];simp[nK]
 cases hk;cases hk
theorem Tc {E:Env}(hE:jX P E.ty)(h:E.bytes T=true):∃te,P.underlying T=some (.slice te)/\P.underlying te=some (.int .u8):=by unfold Env.bytes at h;split at h;rename_i te n hT;split at h;rename_i kE hte;obtain⟨te',hu,_,ho⟩:=(hE T _ hT).sl _ rfl rfl;have:=ho te n rfl;subst this;exact⟨te,hu,(hE te _ hte).int _ rfl rfl⟩;cases h;cases h
theorem ach {w:World}{S:Nat->Nat->Prop}{xs:dB}(h:jP w S (.sl (.int .u8)) [v] xs): ((∃a,v=.slice a 0 0)/\xs=[])\/∃b o cap,v=.slice (some ⟨b,o,none⟩) xs.length cap/\∀i,i<xs.length->w.cell? ⟨b,o+i,none⟩=some (.int .u8 (xs.getD i 0)):=by obtain⟨u,hu,h⟩:=h;simp at hu;subst hu;rcases h with h|⟨b,o,cap,hv,_,h⟩;exact .inl h;refine .inr ⟨b,o,cap,hv,λi hi=>?_⟩;obtain⟨cs,IV,hr⟩:=h i xs[i] (aw hi);have hr':cs=[.int .u8 xs[i]]:=hr;subst hr';have:=(IV 0 _ rfl).2;simp only[CT.size,nL,dX]at this;rw[this];simp[List.getD,aw hi]
theorem Q4 {E:Env}(hE:jX P E.ty){o:Oper}{src dst:TypeId}(ho:o.op=.convert src dst x)(h:oE C st a w){K:AS->aC R}(hk:mr E o src dst x st K=some r):nm P C o a w K r:=by
 obtain⟨g,hg⟩:=id h;have uM:=hg.rd x;have fin:∀v w',(convert src dst (a.eval x)).run P w=.ok v w'->(execOp a.eval o).run P w=.ok (.value v) w':=by intro v w' hr;simp only[execOp,ho];show(convert src dst (a.eval x)>>=λv=>pure (Next.value v)).run P w=_;rw[Sem.run_bind,hr];rfl
 have under:∀(T:TypeId)(sh:Shape),jN E.ty T=some sh->∃d,P.underlying T=some d:=by
  intro T sh hT;have oC:=hE T sh hT;cases Lg:sh.agg with
  |true=>obtain⟨fs,hu,_⟩:=oC.agg Lg;exact⟨_,hu⟩
  |false=>
   cases J6:sh.ct with
   |int k=>exact⟨_,oC.int k J6 Lg⟩
   |bool=>exact⟨_,oC.bool J6 Lg⟩
   |str=>exact⟨_,oC.str J6 Lg⟩
   |sl e=>obtain⟨te,hu,_⟩:=oC.sl e J6 Lg;exact⟨_,hu⟩
   |pair p q=>have:=oC.pair p q J6;rw[Lg]at this;cases this
 unfold mr at hk;split at hk;rename_i ssh k kE k' n hs hd hx;rw[hx]at uM;obtain⟨ds,hus⟩:=under _ _ hs;have hud:=(hE dst _ hd).int k rfl rfl;refine uW h _ _ (fin (.int k (k.wrap n)) w ?_) (kY _ _) hk;rw[jG uM];simp only[convert,underlying,Sem.run_bind,run_program,hus,hud,Result.andThen_ok,Sem.run_pure];rfl;rename_i kE aqh s hs hd hx;rw[hx]at uM;have hus:=(hE src _ hs).str rfl rfl;have hud:=(hE dst _ hd).str rfl rfl;refine uW h _ _ (fin (.string ⟨s.toArray⟩) w ?_) (Ln _) hk;rw[(fi uM).1];simp only[convert,underlying,Sem.run_bind,run_program,hus,hud,Result.andThen_ok,Sem.run_pure];rename_i kE sh s KR hs hd hx;rw[hx]at uM;split at hk;rename_i hb;unfold room at hk;split at hk;obtain⟨te,hu,hte⟩:=Tc hE hb;have hus:=(hE src _ hs).str rfl rfl;have fb:=run_bytes_of_string (P:=P) w src dst te ⟨s.toArray⟩ hus hu hte;rw[<-(fi uM).1,xu]at fb;refine⟨_,_,_,.inl (fin _ _ fb),?_,hk⟩;have zH:=grownCap_ge w s.length 0 te;have uL:(bytesRow ⟨s.toArray⟩ (grownCap w s.length 0 te)).size=grownCap w s.length 0 te*CT.size (.int .u8):=by simp only[bytesRow,Array.size_append,Array.size_map,Array.size_replicate,xu,CT.size];simp;omega
 have sN:(bytesRow ⟨s.toArray⟩ (grownCap w s.length 0 te)).toList.take ((dL s).length*CT.size (.int .u8))=(dL s).map (Value.int .u8):=by simp only[bytesRow,dL,CT.size,Array.toList_append,Array.toList_map];rw[List.take_append_of_le_length (by simp)];rw[bU (by simp)];simp
 have Ea:lh g.hw w (.int .u8) ((bytesRow ⟨s.toArray⟩ (grownCap w s.length 0 te)).toList.take ((dL s).length*CT.size (.int .u8))) (dL s) (List.replicate s.length []):=by
  rw[sN];refine⟨by simp[CT.size],by simp[dL],λi y f hy hf=>?_⟩;have hi:i<(dL s).length:=(aB.1 hy).1;have hf':f=[]:=by rw[eD]at hf;split at hf<;>simp at hf;exact hf
  subst hf';refine⟨?_,rfl⟩;apply dh;intro j;rw[jU];simp only[CT.size,nL];cases j with|zero=>simp[hy]|succ j=>simp
 have hlen:(dL s).length=s.length:=by simp[dL]
 have:=hg.M9 o.dst (T:=te) (fr:=((bytesRow ⟨s.toArray⟩ (grownCap w s.length 0 te)).size,(bytesRow ⟨s.toArray⟩ (grownCap w s.length 0 te)).size+1)) (cap:=grownCap w s.length 0 te) (.inr rfl) (by intro j hj hc;simp only at hc;omega) uL (by rw[hlen];exact zH) Ea (by simp) (by simp);rw[hlen]at this;exact this;cases hk;cases hk;rename_i ssh kE fl xs hs hd hx;rw[hx]at uM;split at hk;rename_i hb;obtain⟨hb,pw⟩:=hb;obtain⟨te,hu,hte⟩:=Tc hE hb;have hud:=(hE dst _ hd).str rfl rfl;have hc:=fi uM;have Ho:∃S,jP w S (.sl (.int .u8)) [a.eval x] xs:=by
  cases fl with
  |own t=>cases pw
  |nest _ _ _ _ _ _=>cases pw
  |part _ _ _ _=>cases pw
  |gj _ _ _=>cases pw
  |arg _=>exact⟨_,hc.2⟩
  |loc ep pv=>
   have yi:ep=st.ep:=by simpa[qL.live]using pw
   exact⟨_,hc.2.2.2.1 yi⟩
 obtain⟨S,Ho⟩:=Ho;refine uW h _ _ (fin (.string ⟨(aO xs).toArray⟩) w ?_) (Ln _) hk;rcases ach Ho with⟨⟨ad,hv⟩,rfl⟩|⟨b,ob,cap,hv,B5⟩;cases ad with|none=>rw[hv,run_convert_bytes_nil w src te hu hte 0 0 dst hud];rfl|some ad=>rw[hv];exact run_convert_bytes_back w src dst te ad 0 [] hu hte hud (λj hj=>by simp at hj)
 rw[hv,run_convert_bytes_arg w src te hu hte b ob xs.length cap xs rfl B5 dst hud];rfl;cases hk;cases hk
end Go.Dn
