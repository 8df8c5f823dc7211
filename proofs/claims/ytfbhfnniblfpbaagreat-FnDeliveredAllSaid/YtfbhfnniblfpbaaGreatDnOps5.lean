import Derived.Test.YtfbhfnniblfpbaaGreatDnOps4
import Derived.Laws.MakeOwn
import Derived.Laws.IdiomStrings
import Derived.Laws.BytesArg
/- Part 5: tuples, parts of slices, conversions, structs and slices that are built. -/
namespace Go.Dn
open Go.RowKit
variable {P:Program} {C:Ctx} {st:AS} {a:Act} {w:World} {R:Type} {r:R}
variable {arr:Array Value} {e:CT} {g:Gh} {cap:Nat} {fr:Nat×Nat} {hw:Nat->Nat} {x:Operand} {T:TypeId} {hs:au (Value×AV)} {fps:au eo} {news:ie}
theorem rk.at {c:RC}:∀{ws:ie}{ts:au (Bool×au AC)}{fp:eo},fF.rk c ws ts fp->∀{i:Nat}{g:Bool}{cs:au AC},ts[i]?=some (g,cs)->
 ∃v f1 f2 f3,ws[i]?=some v/\fp=f1++f2++f3/\(∃us,Cut g v us/\bE c us cs f2)/\
  ∀c':RC,c.Le c'->(∀b∈f1++f3,c'.w.heap[b]?=c.w.heap[b]?/\c'.hw b=c.hw b)->∀rf,(∃us,Cut g v us/\bE c' us rf [])->fF.rk c' ws (ts.set i (g,rf)) (f1++f3)
 |[],[],_,_,i,g,cs,h=>by simp at h
 |w::ws,t::ts,_,r,0,g,cs,h=>by obtain⟨f1,f2,rfl,r1,r2⟩:=r;simp at h;subst h;exact⟨w,[],f1,f2,rfl,by simp,r1,λc' hle hb rf Bw=>⟨[],f2,rfl,Bw,rk.mono hle r2 (λb gQ=>hb b (by simpa using gQ))⟩⟩
 |w::ws,t::ts,_,r,i+1,g,cs,h=>by obtain⟨f1,f2,rfl,r1,r2⟩:=r;obtain⟨v,g1,g2,g3,hv,rfl,hr,Fv⟩:=rk.at r2 (i:=i) (by simpa using h);refine⟨v,f1++g1,g2,g3,by simpa using hv,by simp,hr,λc' hle hb rf Bw=>?_⟩;obtain⟨us,eR,ed⟩:=r1;rw[aZ];refine⟨f1,g1++g3,rfl,⟨us,eR,ed.mono hle (λb gQ=>hb b (by simp[gQ]))⟩,?_⟩;exact Fv c' hle (λb gQ=>hb b (by rcases aA.1 gQ with k|k<;>simp[k])) rf Bw
 |[],_::_,_,r,_,_,_,_=>r.elim
 |_::_,[],_,r,_,_,_,_=>r.elim
theorem R9 {o:Oper}{t i:Nat}(ho:o.op=.extract (.tmp t) i)(h:oz C st a w){K:AS->ax R}(hk:lS o t i st K=some r):mW P C o a w K r:=by
 obtain⟨g,h⟩:=h;unfold lS at hk;split at hk;rename_i ts hg;split at hk;rename_i gg cs hn;rw[dJ]at hn;have htl:t<st.slots.length:=by
  rcases bQ t st.slots.length with gB|Ae;exact gB;have:st.get t=.bot:=by simp[AS.get,dJ,bJ Ae]
  rw[this]at hg;cases hg
 obtain⟨fp,hr,Ft,hl⟩:=h.slot t;rw[hg]at hr;obtain⟨ws,hv,hr⟩:=hr;obtain⟨v,f1,f2,f3,hwv,rfl,QC,Fv⟩:=rk.at hr hn;have dX:(execOp a.eval o).run P w=.ok (.value v) w:=by have he:a.eval (.tmp t)=.tuple ws.toArray:=hv;simp[execOp,ho,he,Instr.extract,hwv]
 have Sp:=Ft;rw[aZ]at Sp;have n1:=aJ.1 Sp;have n2:=aJ.1 n1.2.1;let Pm:AV:=.xn (gN ts i (gg,aS 0 cs));let bM:AS:=st.put (some t) Pm;let g':Gh:={g with ej:=λb=>if b∈f2 then some (.hand 0) else g.ej b}
 have hle:(cQ C g st w).Le (cQ C g' bM w):=by have:= @SL C g st w (some t) Pm;exact⟨this.A,this.hdr,this.TZ,this.ep,this.Jm,this.abO⟩
 have Wy:∀b y,g.ej b=some y->b∉f2->g'.ej b=some y:=by intro b y hb hm;show(if b∈f2 then _ else _)=_;rw[aH hm];exact hb
 have L4:∀b y,y≠ .slot t->g.ej b=some y->b∉f2:=λb y hy hb hm=>hy (by have:=hl b (by simp[hm]);rw[hb]at this;simpa using this);have ahs:dN C g' bM a w [(v,.val gg cs)]:=by
  refine h.step (λy=>y≠ .slot t) hle h.defers (by show _=(st.put (some t) Pm).slots.length;rw[fD,aB];exact h.size) (by show(st.put (some t) Pm).boxes.length=(st.put (some t) Pm).slots.length;rw[kM,fD,aB];exact h.bsize) h.frame ?_ (λb y hy hb=>⟨Wy b y hb (L4 b y hy hb),rfl,rfl⟩) ?_ ?_ ?_ (.inl ⟨by simp,Kt⟩);intro b y hy;have QD:(if b∈f2 then some (jI.hand 0) else g.ej b)=some y:=hy;by_cases hm:b∈f2;exact h.fR b _ (hl b (by simp[hm]));rw[aH hm]at QD;exact h.fR b y QD;intro j bv hj;have hj':(st.slots.set t Pm)[j]?=some bv:=by rw[<-fD];exact hj
  by_cases hjt:j=t;subst hjt;rw[br]at hj';simp only[cp,htl]at hj';simp at hj';subst hj';refine .inr ⟨f1++f3,⟨ws,hv,?_⟩,?_,?_⟩;rw[fg];obtain⟨us,eR,ed⟩:=QC;refine Fv _ hle (λb _=>⟨rfl,rfl⟩) _ ⟨us,eR,?_⟩;exact(ed.Y6).mono hle (by simp);refine aJ.2 ⟨n1.1,n2.2.1,?_⟩;rintro b hb c hc rfl;exact n1.2.2 b hb b (bk _ hc) rfl;intro b hb;refine Wy b _ (hl b (by rcases aA.1 hb with k|k<;>simp[k])) (λhm=>?_);rcases aA.1 hb with k|k;exact n1.2.2 b k b (bt _ hm) rfl;exact n2.2.2 b hm b k rfl;rw[aR (cY hjt)]at hj';exact .inl ⟨by simpa using hjt,hj',rfl⟩;intro s rf hb;have gQ:st.boxes[s]?=some (some rf):=by rw[<-kM (d:=some t) (v:=Pm)];exact hb
  exact .inl ⟨by simp,gQ,rfl⟩;intro k u bv Fs;cases k with
  |zero=>simp only[cz,ba,Prod.mk.injEq]at Fs;obtain⟨rfl,rfl⟩:=Fs;obtain⟨us,eR,ed⟩:=QC;refine .inr ⟨f2,⟨us,eR,ed.mono hle (λb _=>⟨rfl,rfl⟩)⟩,n2.1,λb hb=>?_⟩;show(if b∈f2 then _ else _)=_;rw[aF hb]
  |succ k=>simp at Fs
 exact⟨v,w,_,.inl dX,dN.Ea ahs o.dst,hk⟩;cases hk;cases hk
def kH (hw:Nat->Nat)(w:World)(e:CT)(news:ie)(ys:au e.D)(fps:au eo):Prop:=
 news.length=ys.length*e.size/\fps.length=ys.length/\∀(i:Nat)(y:e.D)(f:eo),ys[i]?=some y->fps[i]?=some f->eP hw w e ((news.drop (i*e.size)).take e.size) y f
theorem kH.append {w:World}{n1 n2:ie}{xs ys:au e.D}{f1 f2:au eo}(h1:kH hw w e n1 xs f1)(h2:kH hw w e n2 ys f2): kH hw w e (n1++n2) (xs++ys) (f1++f2):=by
 obtain⟨a1,a2,a3⟩:=h1;obtain⟨b1,b2,b3⟩:=h2;refine⟨by rw[aq,aq,a1,b1,cB],by simp[a2,b2],λi y f hy hf=>?_⟩;by_cases hi:i<xs.length;rw[bH hi]at hy;rw[bH (by omega)]at hf;have hm:(i+1)*e.size<=xs.length*e.size:=cO _ hi;rw[cB,eI]at hm;have:=a3 i y f hy hf;have e1:((n1++n2).drop (i*e.size)).take e.size=(n1.drop (i*e.size)).take e.size:=by rw[List.drop_append_of_le_length (by omega),List.take_append_of_le_length (by rw[bh];omega)]
 rw[e1];exact this;rw[bz (by omega)]at hy;rw[bz (by omega),a2]at hf;have:=b3 _ y f hy hf;have Ae:xs.length*e.size<=i*e.size:=cO _ (by omega);have e1:(n1++n2).drop (i*e.size)=n2.drop ((i-xs.length)*e.size):=by rw[List.drop_append,df (by omega),bO,a1,Nat.sub_mul]
 rw[e1];exact this
theorem kH.mono {hw':Nat->Nat}{w w':World}{ys:au e.D}(h:kH hw w e news ys fps)(hk:∀b∈fps.flatten,w'.heap[b]?=w.heap[b]?/\hw' b=hw b):kH hw' w' e news ys fps:=⟨h.1,h.2.1,λi y f hy hf=>eP.mono (h.2.2 i y f hy hf) λb hb=>hk b (List.mem_flatten.2 ⟨f,bn hf,hb⟩)⟩
theorem kH.nil (hw:Nat->Nat)(w:World)(e:CT):kH hw w e [] [] []:=⟨by simp,rfl,by simp⟩
theorem kH.ni {w:World}{ys:au e.D}(h:kH hw w e news ys fps):∀v∈news,v.oneCell'=true:=by
 intro v hv;obtain⟨j,hj,hjv⟩:=List.mem_iff_getElem.1 hv;have aaG:=e.size_pos;have hi:j/e.size<ys.length:=by rw[Nat.div_lt_iff_lt_mul aaG];rw[<-h.1];exact hj
 have fU:=h.2.2 (j/e.size) _ _ (al hi) (al (by rw[h.2.1];exact hi));refine eP.ni fU v ?_;rw[List.mem_iff_getElem?];refine⟨j%e.size,?_⟩;rw[ju,aF (Nat.mod_lt _ aaG),Nat.mul_comm,Nat.div_add_mod,al hj,hjv]
theorem Ya {w:World}{b o0:Nat}{xs:au e.D}(hb:w.heap[b]?=some (.cells arr T fr))(tw:qw arr fr)(hs:arr.size=o0+cap*e.size)(hc:xs.length<=cap)(hh:hw b=o0+xs.length*e.size)(Fo:kH hw w e ((arr.toList.drop o0).take (xs.length*e.size)) xs fps): eP hw w (.sl e) [.slice (some ⟨b,o0,none⟩) xs.length cap] xs (b::fps.flatten):=by
 refine⟨_,rfl,.inr ⟨b,o0,cap,arr,T,fr,fps,rfl,hb,tw,hs,hc,hh,rfl,Fo.2.1,λi x f hx hf=>?_⟩⟩;have:=Fo.2.2 i x f hx hf;have hi:i<xs.length:=(aE.1 hx).1;have hm:(i+1)*e.size<=xs.length*e.size:=cO _ hi;rw[cB,eI]at hm;have e1:(((arr.toList.drop o0).take (xs.length*e.size)).drop (i*e.size)).take e.size=(arr.toList.drop (o0+i*e.size)).take e.size:=by apply cS;intro j;rw[ju,ju,ju];by_cases hj:j<e.size;rw[aF hj,aF hj,zip,fu];rw[aH hj,aH hj]
 rw[e1]at this;exact this
theorem KG {w:World}{o0:Nat}{xs:au e.D}(hs:arr.size=o0+cap*e.size)(hc:xs.length<=cap)(hl:fps.length=xs.length)(h:∀(i:Nat)(x:e.D)(f:eo),xs[i]?=some x->fps[i]?=some f->eP hw w e ((arr.toList.drop (o0+i*e.size)).take e.size) x f):kH hw w e ((arr.toList.drop o0).take (xs.length*e.size)) xs fps:=by
 refine⟨?_,hl,λi x f hx hf=>?_⟩;have hal:(arr.toList.drop o0).length=cap*e.size:=by rw[bh,Array.length_toList,hs];omega
 rw[bq,hal];exact ja (cO _ hc);have hi:i<xs.length:=(aE.1 hx).1;have hm:(i+1)*e.size<=xs.length*e.size:=cO _ hi;rw[cB,eI]at hm;have e1:(((arr.toList.drop o0).take (xs.length*e.size)).drop (i*e.size)).take e.size=(arr.toList.drop (o0+i*e.size)).take e.size:=by apply cS;intro j;rw[ju,ju,ju];by_cases hj:j<e.size;rw[aF hj,aF hj,zip,fu];rw[aH hj,aH hj]
 rw[e1];exact h i x f hx hf
theorem Nn {w w':World}{S:Nat->Nat->Prop}:∀{e:CT}{vs:ie}{x:e.D},jn w' S e vs x->e.flat=true->eP hw w e vs x []
 | .int _,_,_,h,_=>⟨h,rfl⟩
 | .bool,_,_,h,_=>⟨h,rfl⟩
 | .str,_,_,h,_=>⟨h,rfl⟩
 | .sl _,_,_,_,hf=>by cases hf
 | .pair a b,_,_,h,hf=>by obtain⟨v1,v2,rfl,h1,h2⟩:=h;simp only[CT.flat,ah]at hf;exact⟨v1,v2,[],[],rfl,rfl,Nn h1 hf.1,Nn h2 hf.2⟩
def Nw (hdr:Nat->Value)(t:ax Nat)(v:Value):Nat->Value:=λu=>if t=some u then v else hdr u
theorem Xo {hdr:Nat->Value}{d:ax Nat}{v:Value}{t:Nat}(h:mX st t):Nw hdr (st.gZ d 0) v t=hdr t:=by unfold Nw;rw[aH];intro e;exact(qj e).1 h
theorem dN.Oq (h:dN C g st a w hs)(d:ax Nat){xs:au e.D}{v:Value}{fp:eo}{w':World}{hw':Nat->Nat}(jz:Fr (λb=>dD (g.ej b)) w w')(Gs:∀b x,g.ej b=some x->¬dD (some x)->hw' b=g.hw b)(IK:∀b o u,o<g.hw b->w.cell? ⟨b,o,none⟩=some u->o<hw' b/\w'.cell? ⟨b,o,none⟩=some u)(fU:eP hw' w' (.sl e) [v] xs fp)(hn:fp.Nodup)(EI:∀b∈fp,b<w'.heap.size/\(dD (g.ej b)\/w.heap.size<=b)): oz C (st.qt d e xs) (a.put d v) w':=by refine h.On d (st1:=st.fi d) (hdr':=Nw g.hdr (st.gZ d 0) v) I8 vC Ca Bs (λt ht=>⟨D4 ht,Xo ht⟩) jz Gs IK (mH ⟨fU,λt ht=>?_⟩) hn EI;refine⟨(qj ht).2.1,?_⟩;show v=Nw g.hdr (st.gZ d 0) v t;unfold Nw;rw[aF ht]
theorem dN.Oc (h:dN C g st a w hs)(d:ax Nat){xs:au e.D}{w':World}(hw:w'=w.alloc (.cells arr T fr)\/w'=w.drew.alloc (.cells arr T fr))(tw:qw arr fr)(hs0:arr.size=cap*e.size)(hc:xs.length<=cap)(Fo:kH g.hw w e (arr.toList.take (xs.length*e.size)) xs fps)(hn:fps.flatten.Nodup)(EI:∀b∈fps.flatten,dD (g.ej b)): oz C (st.qt d e xs) (a.put d (.slice (some ⟨w.heap.size,0,none⟩) xs.length cap)) w':=by
 have jz:Fr (λb=>dD (g.ej b)) w w':=by rcases hw with rfl|rfl;exact Fr.alloc _ _ _;exact(Fr.drew _ w).trans (Fr.alloc _ _ _) (λb _ hh=>hh)
 have UD:w'.heap[w.heap.size]?=some (.cells arr T fr):=by rcases hw with rfl|rfl;exact heap_alloc_new w _;exact heap_alloc_new w.drew _
 have uq:w'.heap.size=w.heap.size+1:=by rcases hw with rfl|rfl<;>simp
 have hold:∀b,b<w.heap.size->w'.heap[b]?=w.heap[b]?:=by intro b hb;rcases hw with rfl|rfl;exact heap_alloc_old w _ b hb;exact heap_alloc_old w.drew _ b hb
 have gB:∀b∈fps.flatten,b<w.heap.size:=by intro b hb;have hh:=EI b hb;cases hx:g.ej b with|none=>rw[hx]at hh;cases hh|some x=>exact(h.fR b x hx).1
 let hw':Nat->Nat:=λb=>if b=w.heap.size then xs.length*e.size else g.hw b
 have fU:eP hw' w' (.sl e) [.slice (some ⟨w.heap.size,0,none⟩) xs.length cap] xs (w.heap.size::fps.flatten):=by refine Ya (o0:=0) UD tw (by rw[cl];exact hs0) hc (by simp[hw']) (Fo.mono λb hb=>?_);have gQ:=gB b hb;exact⟨hold b gQ,by simp[hw',gJ gQ]⟩
 refine h.Oq d (hw':=hw') (fp:=w.heap.size::fps.flatten) jz ?_ ?_ fU ?_ ?_;intro b x hx _;simp[hw',gJ (h.fR b x hx).1];intro b o u ho hu;have hb:b<w.heap.size:=World.block_lt_of_cell? w _ hu;exact⟨by simp[hw',gJ hb];exact ho,by rw[World.cell?_of_block (a:=⟨b,o,none⟩) (hold b hb)];exact hu⟩;exact dj.2 ⟨λhm=>nv _ (gB _ hm),hn⟩;intro b hb;rcases cg.1 hb with rfl|hb;exact⟨by omega,.inr (aU _)⟩;exact⟨by have:=gB b hb;omega,.inl (EI b hb)⟩
theorem adX {z:Array Value}{c size i:Nat}(hz:z.size=size)(hi:i<c):((madeCells z (c*size)).toList.drop (i*size)).take size=z.toList:=by
 have hm:(i+1)*size<=c*size:=cO _ hi;rw[cB,eI]at hm;apply cS;intro j;rw[ju];by_cases hj:j<size;rw[aF hj,madeCells];have h1:i*size+j<c*size:=by omega
 simp only[Array.toList_map,Array.toList_range,List.getElem?_map,List.getElem?_range h1,dk];have ahi:(i*size+j)%z.size=j:=by rw[hz,Nat.mul_comm,Nat.mul_add_mod,Nat.mod_eq_of_lt hj]
 rw[ahi];simp[getElem!_pos,hz,hj];rw[aH hj,bJ];simp[hz];omega
theorem N4 {E:Env}(hE:jA P E.ty){o:Oper}{n c:Operand}(ho:o.op=.makeSlice T n c)(h:oz C st a w){K:AS->ax R}(hk:oW E o T n c st K=some r):mW P C o a w K r:=by
 obtain⟨g,hg⟩:=id h;have hnv:=hg.rd n;have hcv:=hg.rd c;unfold oW at hk;split at hk;rename_i e len cap hT hn hc;rw[hn]at hnv;rw[hc]at hcv;split at hk;rename_i hlc;unfold room at hk;split at hk;rename_i G6;obtain⟨te,hu,⟨inf,z,Db,uq,hby,hz,hzc⟩,_⟩:=FU hE hT;have GS:cap<=1073741824:=by omega
 have ag5:(inf.bytes:Int)*cap<=281474976710656:=by have h1:(inf.bytes:Int)*cap<=65536*cap:=Int.mul_le_mul_of_nonneg_right (by omega) (by omega);omega
 have dX:=run_make (P:=P) w T te inf z hu Db hz .i64 .i64 len cap hlc.1 hlc.2 ag5 (by omega);have G9:(execOp a.eval o).run P w=.ok (.value (.slice (some ⟨w.heap.size,0,none⟩) len.toNat cap.toNat)) (w.alloc (.cells (madeCells z.cells (cap.toNat*inf.size)) te)):=by simp only[execOp,ho,iT hnv,iT hcv];show((Instr.makeSlice T (.int .i64 len) (.int .i64 cap))>>=λv=>pure (Next.value v)).run P w=_;rw[Sem.run_bind,dX];rfl
 have hzs:z.cells.size=e.size:=by rw[<-qb e,<-hzc];simp
 have hlen:(List.replicate len.toNat e.zero).length=len.toNat:=by simp
 have Fo:kH g.hw w e ((madeCells z.cells (cap.toNat*inf.size)).toList.take ((List.replicate len.toNat e.zero).length*e.size)) (List.replicate len.toNat e.zero) (List.replicate len.toNat []):=by
  refine KG (o0:=0) (cap:=cap.toNat) (by rw[size_madeCells,uq,cl]) (by rw[hlen];omega) (by simp) (λi x f hx hf=>?_);have hi:i<len.toNat:=by have:=(aE.1 hx).1;simpa using this
  rw[dp,aF hi]at hx hf;simp at hx hf;subst hx;subst hf;rw[uq,cl,adX hzs (by omega),hzc];exact F8 _ _ _
 refine⟨_,_,_,.inl G9,?_,hk⟩;have:=hg.Oc o.dst (T:=te) (fr:=(0,0)) (cap:=cap.toNat) (.inl rfl) (by intro j _;simp) (by rw[size_madeCells,uq]) (by rw[hlen];omega) Fo (by simp) (by simp);rw[hlen]at this;exact this;cases hk;cases hk;cases hk
theorem MU {lo hi:ax Operand}(hg:dN C g st a w []){n:Nat}(GS:n<=cap){K:Int->Int->ax R}(hk:mZ st lo hi n K=some r)(isS:Bool): ∃x y:Int,K x y=some r/\(0<=x->x<=y->y<=n->(Instr.sliceBounds isS n cap (lo.map a.eval) (hi.map a.eval) none).run P w=.ok (x.toNat,y.toNat,cap) w):=by
 unfold mZ at hk;split at hk;rename_i h1 h2;have e1:lo=none:=by cases lo<;>simp at h1⊢
 have e2:hi=none:=by cases hi<;>simp at h2⊢
 subst e1;subst e2;exact⟨0,n,hk,λ_ _ _=>by simp[Instr.sliceBounds]⟩;rename_i k p h1 h2;have e2:hi=none:=by cases hi<;>simp at h2⊢
 subst e2;cases lo with|none=>simp at h1|some lo=>simp at h1;have hv:=hg.rd lo;rw[h1]at hv;refine⟨p,n,hk,λq1 q2 q3=>?_⟩;simp[Instr.sliceBounds,Instr.sliceBound,asIntOf,iT hv,q1,q2]
 rename_i k p h1 h2;have e1:lo=none:=by cases lo<;>simp at h1⊢
 subst e1;cases hi with|none=>simp at h2|some hi=>simp at h2;have hv:=hg.rd hi;rw[h2]at hv;refine⟨0,p,hk,λq1 q2 q3=>?_⟩;simp[Instr.sliceBounds,Instr.sliceBound,asIntOf,iT hv,show 0<=p by omega,show p<=(cap:Int) by omega]
 rename_i k p k' q h1 h2;cases lo with|none=>simp at h1|some lo=>cases hi with|none=>simp at h2|some hi=>simp at h1 h2;have hv:=hg.rd lo;have Zq:=hg.rd hi;rw[h1]at hv;rw[h2]at Zq;refine⟨p,q,hk,λq1 q2 q3=>?_⟩;simp[Instr.sliceBounds,Instr.sliceBound,asIntOf,iT hv,iT Zq,q1,show 0<=q by omega,show q<=(cap:Int) by omega];intro gB;omega
 cases hk
theorem extract_mk (s:au UInt8)(x y:Nat):(ByteArray.mk s.toArray).extract x y=ByteArray.mk ((s.take y).drop x).toArray:=by apply ByteArray.ext;rw[ByteArray.data_extract];simp[List.extract_eq_take_drop,List.drop_take]
theorem OX {α:Type}{xs ys:au α}{x y:Int}(h:sub xs x y=some ys):0<=x/\x<=y/\y<=(xs.length:Int)/\ys=(xs.take y.toNat).drop x.toNat:=by unfold sub at h;split at h;rename_i hc;simp at h;exact⟨hc.1,hc.2.1,hc.2.2,h.symm⟩;cases h
theorem ZL {w:World}{S:Nat->Nat->Prop}{v:Value}{xs:au e.D}(h:jn w S (.sl e) [v] xs){x y:Nat}(hxy:x<=y)(hy:y<=xs.length): ∃bo cap,v=.slice bo xs.length cap/\xs.length<=cap/\jn w S (.sl e) [.slice (if cap=x then bo else bo.map (·.add (x*e.size))) (y-x) (cap-x)] ((xs.take y).drop x):=by
 obtain⟨u,hu,h⟩:=h;simp at hu;subst hu;rcases h with⟨⟨ad,rfl⟩,rfl⟩|⟨b,o,cap,rfl,hc,h⟩;simp at hy;subst hy;have hx:x=0:=by omega
 subst hx;exact⟨ad,0,rfl,by simp,⟨_,rfl,.inl ⟨⟨ad,by simp⟩,by simp⟩⟩⟩;have hl:((xs.take y).drop x).length=y-x:=by simp;omega
 refine⟨some ⟨b,o,none⟩,cap,rfl,hc,⟨_,rfl,.inr ?_⟩⟩;by_cases hcx:cap=x;refine⟨b,o,cap-x,by rw[aF hcx,hl],by rw[hl];omega,λi z hz=>?_⟩;have:((xs.take y).drop x)=[]:=ca (by rw[hl];omega);rw[this]at hz;simp at hz;refine⟨b,o+x*e.size,cap-x,by rw[aH hcx,hl];simp[nu],by rw[hl];omega,λi z hz=>?_⟩;have hz':xs[x+i]?=some z:=by rw[bV,dz]at hz;split at hz;exact hz;cases hz
 obtain⟨cs,Ki,hr⟩:=h (x+i) z hz';refine⟨cs,?_,hr⟩;have:o+x*e.size+i*e.size=o+(x+i)*e.size:=by rw[cB];omega
 rw[this];exact Ki
theorem aee {w:World}{v:Value}{xs:au e.D}{fp:eo}(h:eP hw w (.sl e) [v] xs fp){n:Nat}(hn:n<=xs.length): ∃bo cap,v=.slice bo xs.length cap/\xs.length<=cap/\∃jL,eP hw w (.sl e) [.slice (if cap=n then bo else bo.map (·.add (n*e.size))) (xs.length-n) (cap-n)] (xs.drop n) jL/\(∀b∈jL,b∈fp)/\(fp.Nodup->jL.Nodup):=by
 obtain⟨u,hu,h⟩:=h;simp at hu;subst hu;rcases h with⟨⟨ad,rfl⟩,rfl,rfl⟩|⟨b,o0,cap,arr,T,fr,fps,rfl,hb,tw,hs,hc,hh,rfl,hl,hr⟩;simp at hn;subst hn;exact⟨ad,0,rfl,by simp,[],⟨_,rfl,.inl ⟨⟨ad,by simp⟩,rfl,rfl⟩⟩,by simp,by simp⟩;refine⟨some ⟨b,o0,none⟩,cap,rfl,hc,?_⟩;by_cases hcn:cap=n;have hx:xs.drop n=[]:=df (by omega);refine⟨[],⟨_,rfl,.inl ⟨⟨some ⟨b,o0,none⟩,by rw[aF hcn,show xs.length-n=0 by omega,show cap-n=0 by omega]⟩,hx,rfl⟩⟩,by simp,by simp⟩;have hm1:cap*e.size=n*e.size+(cap-n)*e.size:=by rw[<-cB];congr 1;omega
 have hm2:xs.length*e.size=n*e.size+(xs.length-n)*e.size:=by rw[<-cB];congr 1;omega
 refine⟨b::(fps.drop n).flatten,⟨_,rfl,.inr ⟨b,o0+n*e.size,cap-n,arr,T,fr,fps.drop n,by rw[aH hcn];simp[nu],hb,tw,by omega,by simp;omega,by simp;omega,rfl,by simp[hl],λi x f hx hf=>?_⟩⟩,?_,?_⟩;rw[bV]at hx hf;have:=hr (n+i) x f hx hf;rwa[cB,<-fu]at this;intro c Bw;rcases cg.1 Bw with rfl|Bw;simp;obtain⟨l,hl1,Af⟩:=List.mem_flatten.1 Bw;exact dK _ (List.mem_flatten.2 ⟨l,List.mem_of_mem_drop hl1,Af⟩);intro Ft;have h1:=dj.1 Ft;have e1:fps.flatten=(fps.take n).flatten++(fps.drop n).flatten:=by rw[<-dR,bW]
 rw[e1]at h1;exact dj.2 ⟨λhm=>h1.1 (by simp[hm]),(aJ.1 h1.2).2.1⟩
theorem abJ {an:An}{o:Oper}{ep:Nat}{pv:ax (kL×Nat)}{p:Int}:Of an o (.loc ep pv) p=.loc ep none\/∃rt t,pv=some (rt,t)/\Of an o (.loc ep pv) p=.part ep rt t p:=by
 unfold Of;split;rename_i ep' r t d h _;cases h;cases an.nest.contains d with|false=>exact .inl rfl|true=>exact .inr ⟨_,_,rfl,rfl⟩
 exact .inl rfl
theorem OF {E:Env}(hE:jA P E.ty){o:Oper}{lo hi:ax Operand}(ho:o.op=.slice T x lo hi none)(h:oz C st a w){K:AS->ax R}(hk:xP E o T x lo hi st K=some r):mW P C o a w K r:=by
 obtain⟨g,hg⟩:=h;unfold xP at hk;split at hk;rename_i tag e xs bM kd p tI hlo;split at hk;rename_i hT;cases lo with
 |none=>simp at hlo
 |some lo=>
  simp at hlo;have hlv:=hg.rd lo;rw[hlo]at hlv;obtain⟨te,hu,⟨inf,z,Db,uq,_⟩,_⟩:=FU hE hT;obtain⟨g',oy⟩:=hg.take x;rw[tI]at oy;simp only[bO]at oy;cases qs:sub xs p xs.length with
  |none=>rw[qs]at hk;cases hk
  |some Pj=>
   rw[qs]at hk;simp only[aa]at hk;obtain⟨h1,h2,_,rfl⟩:=OX qs;obtain⟨fp,ed,Ft,hl⟩:=oy.hands 0 _ _ rfl;have fU:=(ew ed).1;obtain⟨bo,cap,hv,GS,jL,De,aiH,Sp⟩:=aee fU (n:=p.toNat) (by omega);have dX:(execOp a.eval o).run P w=.ok (.value (.slice (if cap=p.toNat then bo else bo.map (·.add (p.toNat*e.size))) (xs.length-p.toNat) (cap-p.toNat))) w:=by
    have hb:(Instr.sliceBounds true xs.length cap (some (a.eval lo)) none none).run P w=.ok (p.toNat,xs.length,cap) w:=by have hp2:p<=(xs.length:Int):=h2;simp[Instr.sliceBounds,Instr.sliceBound,asIntOf,iT hlv,h1,hp2]
    simp only[execOp,ho,hv,Instr.sliceAt,Instr.slice,underlying,Option.map_none,dk,Sem.run_bind,run_program,hu,Result.andThen_ok,Sem.run_pure,hb,sizeOf,typeInfo,Db,uq]
   have B7:(xs.take ((xs.length:Int).toNat)).drop p.toNat=xs.drop p.toNat:=by rw[az,cI]
   rw[B7]at hk;refine⟨_,_,_,.inl dX,?_,hk⟩;refine oy.Oq o.dst (hw':=g'.hw) (fp:=jL) (Fr.refl _ _) (λ_ _ _ _=>rfl) (λ_ _ _ ho hu=>⟨ho,hu⟩) De (Sp Ft) (λb hb=>?_);have:=hl b (aiH b hb);exact⟨(oy.fR b _ this).1,.inl (by rw[this];rfl)⟩
 cases hk;cases hk
theorem Yp {E:Env}(hE:jA P E.ty){an:An}{o:Oper}{lo hi:ax Operand}(ho:o.op=.slice T x lo hi none)(h:oz C st a w){K:AS->ax R}(hk:BQ E an o T x lo hi st K=some r):mW P C o a w K r:=by
 obtain⟨g,hg⟩:=id h;have vH:=hg.fresh (hg.rd x);unfold BQ at hk;split at hk;exact OF hE ho h hk;split at hk;rename_i s hx;rw[hx]at vH;split at hk;rename_i hT;have hu:=Tn hE hT;have hv:=(ew vH).1;obtain⟨p,q,So,dX⟩:=MU (P:=P) (w:=w) hg (aU s.length) hk false;cases qs:sub s p q with|none=>rw[qs]at So;cases So|some s'=>rw[qs]at So;simp only[aa]at So;obtain⟨h1,h2,h3,rfl⟩:=OX qs;have hb:=dX h1 h2 h3;refine vP h _ _ ?_ (Mx _) So;simp only[execOp,ho,hv,Instr.sliceAt,Instr.slice,underlying,Option.map_none,Sem.run_bind,run_program,hu,Result.andThen_ok,Sem.run_pure,yB,hb,Option.isSome_none,aX,cc,extract_mk]
 cases hk;rename_i fl e xs hx;rw[hx]at vH;split at hk;rename_i hT;obtain⟨hT,pB⟩:=hT;obtain⟨te,hu,⟨inf,z,Db,uq,_⟩,_⟩:=FU hE hT;have hc:=ew vH
 have key:∀(S:Nat->Nat->Prop),jn w S (.sl e) [a.eval x] xs->(∀(p q:Int)(bo:ax Addr)(cap:Nat),0<=p->p<=q->q<=xs.length->xs.length<=cap->a.eval x=.slice bo xs.length cap->
  jn w S (.sl e) [.slice (if cap=p.toNat then bo else bo.map (·.add (p.toNat*e.size))) (q.toNat-p.toNat) (cap-p.toNat)] ((xs.take q.toNat).drop p.toNat)->
  gE (cQ C g st w) (.slice (if cap=p.toNat then bo else bo.map (·.add (p.toNat*e.size))) (q.toNat-p.toNat) (cap-p.toNat)) (.sl (Of an o fl p) e ((xs.take q.toNat).drop p.toNat)) [])->mW P C o a w K r:=by
  intro S IL hmk
  have GS:∃bo cap,a.eval x=.slice bo xs.length cap/\xs.length<=cap:=by obtain⟨bo,cap,hv,hc,_⟩:=ZL IL (x:=0) (y:=0) (aU _) (cd _);exact⟨bo,cap,hv,hc⟩
  obtain⟨bo,cap,hv,GS⟩:=GS
  obtain⟨p,q,So,dX⟩:=MU (P:=P) (w:=w) hg GS hk true
  cases qs:sub xs p q with
  |none=>rw[qs]at So;cases So
  |some Pj=>
   rw[qs]at So
   simp only[aa]at So
   obtain⟨h1,h2,h3,rfl⟩:=OX qs
   have hb:=dX h1 h2 h3
   obtain⟨bo',aoV,Zq,_,adu⟩:=ZL IL (x:=p.toNat) (y:=q.toNat) (by omega) (by omega)
   rw[hv]at Zq
   simp only[Value.slice.injEq,true_and]at Zq
   obtain⟨rfl,rfl⟩:=Zq
   refine⟨.slice (if cap=p.toNat then bo else bo.map (·.add (p.toNat*e.size))) (q.toNat-p.toNat) (cap-p.toNat),w,_,.inl ?_,⟨g,hg.quiet o.dst (mH (hmk p q _ _ h1 h2 h3 GS hv adu))⟩,So⟩
   simp only[execOp,ho,hv,Instr.sliceAt,Instr.slice,underlying,Option.map_none,Sem.run_bind,run_program,hu,Result.andThen_ok,Sem.run_pure,hb,sizeOf,typeInfo,Db,uq]
 cases fl with
 |own t=>cases pB
 |nest _ _ _ _ _ _=>cases pB
 |part _ _ _ _=>cases pB
 |eY _ _ _=>cases pB
 |arg _=>exact key _ hc.2 (λp q bo cap _ _ _ _ _ hr=>by simp only[Of,rj.bare];exact⟨rfl,hr⟩)
 |loc ep pv=>
  have zM:ep=st.ep:=by simpa[rj.live]using pB
  refine key _ (hc.2.2.2.1 zM) (λp q bo cap hp hpq hq GS hv hr=>?_);have hlen:((xs.take q.toNat).drop p.toNat).length=q.toNat-p.toNat:=by simp;omega
  have plain:gE (cQ C g st w) (.slice (if cap=p.toNat then bo else bo.map (·.add (p.toNat*e.size))) (q.toNat-p.toNat) (cap-p.toNat)) (.sl (.loc ep none) e ((xs.take q.toNat).drop p.toNat)) []:=⟨rfl,hc.2.1,⟨_,_,_,rfl,hlen.symm⟩,λ_=>hr,by simp⟩
  rcases abJ (an:=an) (o:=o) (ep:=ep) (pv:=pv) (p:=p)with hpf|⟨rt,t,rfl,hpf⟩;rw[hpf];exact plain;rw[hpf];refine⟨rfl,hc.2.1,⟨_,_,_,rfl,hlen.symm⟩,λ_=>?_⟩;have G7:=hc.2.2.2.2 rt t rfl;refine⟨G7.1,?_⟩;by_cases hz:q.toNat-p.toNat=0;exact .inl (ca (by rw[hlen];exact hz));right;obtain⟨u,hu,IL⟩:=hc.2.2.2.1 zM;simp at hu;rcases IL with⟨_,rfl⟩|⟨b,o0,W2,Sv,Xn,_⟩;simp at hlen;omega;rw[<-hu,hv]at Sv;simp only[Value.slice.injEq,true_and]at Sv;obtain⟨rfl,rfl⟩:=Sv;refine⟨p.toNat,b,o0,xs.length,cap,cap-p.toNat,by omega,by rw[<-G7.2,hv],by rw[hlen];omega,?_⟩;rw[mQ,hlen];simp[nu]
 cases hk;cases hk
theorem TY {E:Env}(hE:jA P E.ty)(h:E.bytes T=true):∃te,P.underlying T=some (.slice te)/\P.underlying te=some (.int .u8):=by unfold Env.bytes at h;split at h;rename_i te n hT;split at h;rename_i kb hte;obtain⟨te',hu,_,ho⟩:=(hE T _ hT).sl _ rfl rfl;have:=ho te n rfl;subst this;exact⟨te,hu,(hE te _ hte).int _ rfl rfl⟩;cases h;cases h
theorem abR {w:World}{S:Nat->Nat->Prop}{v:Value}{xs:cL}(h:jn w S (.sl (.int .u8)) [v] xs): ((∃a,v=.slice a 0 0)/\xs=[])\/∃b o cap,v=.slice (some ⟨b,o,none⟩) xs.length cap/\∀i,i<xs.length->w.cell? ⟨b,o+i,none⟩=some (.int .u8 (xs.getD i 0)):=by obtain⟨u,hu,h⟩:=h;simp at hu;subst hu;rcases h with h|⟨b,o,cap,hv,_,h⟩;exact .inl h;refine .inr ⟨b,o,cap,hv,λi hi=>?_⟩;obtain⟨cs,Ki,hr⟩:=h i xs[i] (al hi);have hr':cs=[.int .u8 xs[i]]:=hr;subst hr';have:=(Ki 0 _ rfl).2;simp only[CT.size,nw,eh]at this;rw[this];simp[List.getD,al hi]
theorem R1 {E:Env}(hE:jA P E.ty){o:Oper}{src dst:TypeId}(ho:o.op=.convert src dst x)(h:oz C st a w){K:AS->ax R}(hk:lR E o src dst x st K=some r):mW P C o a w K r:=by
 obtain⟨g,hg⟩:=id h;have vH:=hg.rd x;have fin:∀v w',(convert src dst (a.eval x)).run P w=.ok v w'->(execOp a.eval o).run P w=.ok (.value v) w':=by intro v w' hr;simp only[execOp,ho];show(convert src dst (a.eval x)>>=λv=>pure (Next.value v)).run P w=_;rw[Sem.run_bind,hr];rfl
 have under:∀(T:TypeId)(sh:Shape),iY E.ty T=some sh->∃d,P.underlying T=some d:=by
  intro T sh hT;have jY:=hE T sh hT;cases Mr:sh.agg with
  |true=>obtain⟨fs,hu,_⟩:=jY.agg Mr;exact⟨_,hu⟩
  |false=>
   cases Li:sh.ct with
   |int k=>exact⟨_,jY.int k Li Mr⟩
   |bool=>exact⟨_,jY.bool Li Mr⟩
   |str=>exact⟨_,jY.str Li Mr⟩
   |sl e=>obtain⟨te,hu,_⟩:=jY.sl e Li Mr;exact⟨_,hu⟩
   |pair p q=>have:=jY.pair p q Li;rw[Mr]at this;cases this
 unfold lR at hk;split at hk;rename_i ssh k kb k' n hs hd hx;rw[hx]at vH;obtain⟨ds,hus⟩:=under _ _ hs;have hud:=(hE dst _ hd).int k rfl rfl;refine vP h _ _ (fin (.int k (k.wrap n)) w ?_) (kC _ _) hk;rw[iT vH];simp only[convert,underlying,Sem.run_bind,run_program,hus,hud,Result.andThen_ok,Sem.run_pure];rfl;rename_i kb aoT s hs hd hx;rw[hx]at vH;have hus:=(hE src _ hs).str rfl rfl;have hud:=(hE dst _ hd).str rfl rfl;refine vP h _ _ (fin (.string ⟨s.toArray⟩) w ?_) (Mx _) hk;rw[(ew vH).1];simp only[convert,underlying,Sem.run_bind,run_program,hus,hud,Result.andThen_ok,Sem.run_pure];rename_i kb sh s L4 hs hd hx;rw[hx]at vH;split at hk;rename_i hb;unfold room at hk;split at hk;obtain⟨te,hu,hte⟩:=TY hE hb;have hus:=(hE src _ hs).str rfl rfl;have dX:=run_bytes_of_string (P:=P) w src dst te ⟨s.toArray⟩ hus hu hte;rw[<-(ew vH).1,yB]at dX;refine⟨_,_,_,.inl (fin _ _ dX),?_,hk⟩;have Ae:=grownCap_ge w s.length 0 te;have uq:(bytesRow ⟨s.toArray⟩ (grownCap w s.length 0 te)).size=grownCap w s.length 0 te*CT.size (.int .u8):=by simp only[bytesRow,Array.size_append,Array.size_map,Array.size_replicate,yB,CT.size];simp;omega
 have tI:(bytesRow ⟨s.toArray⟩ (grownCap w s.length 0 te)).toList.take ((dq s).length*CT.size (.int .u8))=(dq s).map (Value.int .u8):=by simp only[bytesRow,dq,CT.size,Array.toList_append,Array.toList_map];rw[List.take_append_of_le_length (by simp)];rw[bL (by simp)];simp
 have Fo:kH g.hw w (.int .u8) ((bytesRow ⟨s.toArray⟩ (grownCap w s.length 0 te)).toList.take ((dq s).length*CT.size (.int .u8))) (dq s) (List.replicate s.length []):=by
  rw[tI];refine⟨by simp[CT.size],by simp[dq],λi y f hy hf=>?_⟩;have hi:i<(dq s).length:=(aE.1 hy).1;have hf':f=[]:=by rw[dp]at hf;split at hf<;>simp at hf;exact hf
  subst hf';refine⟨?_,rfl⟩;apply cS;intro j;rw[ju];simp only[CT.size,nw];cases j with|zero=>simp[hy]|succ j=>simp
 have hlen:(dq s).length=s.length:=by simp[dq]
 have:=hg.Oc o.dst (T:=te) (fr:=((bytesRow ⟨s.toArray⟩ (grownCap w s.length 0 te)).size,(bytesRow ⟨s.toArray⟩ (grownCap w s.length 0 te)).size+1)) (cap:=grownCap w s.length 0 te) (.inr rfl) (by intro j hj hc;simp only at hc;omega) uq (by rw[hlen];exact Ae) Fo (by simp) (by simp);rw[hlen]at this;exact this;cases hk;cases hk;rename_i ssh kb fl xs hs hd hx;rw[hx]at vH;split at hk;rename_i hb;obtain⟨hb,pB⟩:=hb;obtain⟨te,hu,hte⟩:=TY hE hb;have hud:=(hE dst _ hd).str rfl rfl;have hc:=ew vH;have IL:∃S,jn w S (.sl (.int .u8)) [a.eval x] xs:=by
  cases fl with
  |own t=>cases pB
  |nest _ _ _ _ _ _=>cases pB
  |part _ _ _ _=>cases pB
  |eY _ _ _=>cases pB
  |arg _=>exact⟨_,hc.2⟩
  |loc ep pv=>
   have zM:ep=st.ep:=by simpa[rj.live]using pB
   exact⟨_,hc.2.2.2.1 zM⟩
 obtain⟨S,IL⟩:=IL;refine vP h _ _ (fin (.string ⟨(aK xs).toArray⟩) w ?_) (Mx _) hk;rcases abR IL with⟨⟨ad,hv⟩,rfl⟩|⟨b,ob,cap,hv,C8⟩;cases ad with|none=>rw[hv,run_convert_bytes_nil w src te hu hte 0 0 dst hud];rfl|some ad=>rw[hv];exact run_convert_bytes_back w src dst te ad 0 [] hu hte hud (λj hj=>by simp at hj)
 rw[hv,run_convert_bytes_arg w src te hu hte b ob xs.length cap xs rfl C8 dst hud];rfl;cases hk;cases hk
end Go.Dn
