import Derived.Test.YtbebkmajekhclaaGreatDnOps4
import Derived.Laws.MakeOwn
import Derived.Laws.IdiomStrings
import Derived.Laws.BytesArg
/- Part 5: tuples, parts of slices, conversions, structs and slices that are built. -/
namespace Go.Dn
open Go.RowKit
variable {P:Program} {C:Ctx} {st:AS} {a:Act} {w:World} {R:Type} {r:R}
variable {arr:Array Value} {e:CT} {g:Gh} {cap:Nat} {fr:Nat×Nat} {hw:Nat->Nat} {x:Operand} {T:TypeId} {v:Value} {hs:aw (Value×AV)} {fps:aw fA} {news:jf}
theorem so.at {c:RC}:∀{ws:jf}{ts:aw (Bool×aw AC)}{fp:fA},gS.so c ws ts fp->∀{i:Nat}{g:Bool}{cs:aw AC},ts[i]?=some (g,cs)->
 ∃v f1 f2 f3,ws[i]?=some v/\fp=f1++f2++f3/\(∃us,Cut g v us/\ca c us cs f2)/\
  ∀c':RC,c.Le c'->(∀b∈f1++f3,c'.w.heap[b]?=c.w.heap[b]?/\c'.hw b=c.hw b)->∀sB,(∃us,Cut g v us/\ca c' us sB [])->gS.so c' ws (ts.set i (g,sB)) (f1++f3)
 |[],[],_,_,i,g,cs,h=>by simp at h
 |w::ws,t::ts,_,r,0,g,cs,h=>by obtain⟨f1,f2,rfl,r1,r2⟩:=r;simp at h;subst h;exact⟨w,[],f1,f2,rfl,by simp,r1,λc' hle hb sB Cy=>⟨[],f2,rfl,Cy,so.mono hle r2 (λb iz=>hb b (by simpa using iz))⟩⟩
 |w::ws,t::ts,_,r,i+1,g,cs,h=>by obtain⟨f1,f2,rfl,r1,r2⟩:=r;obtain⟨v,g1,g2,g3,hv,rfl,hr,Jf⟩:=so.at r2 (i:=i) (by simpa using h);refine⟨v,f1++g1,g2,g3,by simpa using hv,by simp,hr,λc' hle hb sB Cy=>?_⟩;obtain⟨us,fU,fO⟩:=r1;rw[bj];refine⟨f1,g1++g3,rfl,⟨us,fU,fO.mono hle (λb iz=>hb b (by simp[iz]))⟩,?_⟩;exact Jf c' hle (λb iz=>hb b (by rcases aA.1 iz with k|k<;>simp[k])) sB Cy
 |[],_::_,_,r,_,_,_,_=>r.elim
 |_::_,[],_,r,_,_,_,_=>r.elim
theorem Wt {o:Oper}{t i:Nat}(ho:o.op=.extract (.tmp t) i)(h:py C st a w){K:AS->az R}(hk:mJ o t i st K=some r):nG P C o a w K r:=by
 obtain⟨g,h⟩:=h;unfold mJ at hk;split at hk;rename_i ts hg;split at hk;rename_i gg cs hn;rw[ez]at hn;have htl:t<st.slots.length:=by
  rcases bT t st.slots.length with gr|BN;exact gr;have:st.get t=.bot:=by simp[AS.get,ez,bJ BN]
  rw[this]at hg;cases hg
 obtain⟨fp,hr,Jr,hl⟩:=h.slot t;rw[hg]at hr;obtain⟨ws,hv,hr⟩:=hr;obtain⟨v,f1,f2,f3,hwv,rfl,UE,Jf⟩:=so.at hr hn;have fg:(execOp a.eval o).run P w=.ok (.value v) w:=by have he:a.eval (.tmp t)=.tuple ws.toArray:=hv;simp[execOp,ho,he,Instr.extract,hwv]
 have WN:=Jr;rw[bj]at WN;have n1:=aQ.1 WN;have n2:=aQ.1 n1.2.1;let S2:AV:=.yC (iO ts i (gg,bl 0 cs));let cp:AS:=st.put (some t) S2;let g':Gh:={g with fj:=λb=>if b∈f2 then some (.hand 0) else g.fj b}
 have hle:(dq C g st w).Le (dq C g' cp w):=by have:= @W7 C g st w (some t) S2;exact⟨this.A,this.hdr,this.Yl,this.ep,this.LS,this.aic⟩
 have hlk:∀b y,g.fj b=some y->b∉f2->g'.fj b=some y:=by intro b y hb hm;show(if b∈f2 then _ else _)=_;rw[aK hm];exact hb
 have O6:∀b y,y≠ .slot t->g.fj b=some y->b∉f2:=λb y hy hb hm=>hy (by have:=hl b (by simp[hm]);rw[hb]at this;simpa using this);have aqD:eE C g' cp a w [(v,.val gg cs)]:=by
  refine h.step (λy=>y≠ .slot t) hle h.defers (by show _=(st.put (some t) S2).slots.length;rw[gx,ay];exact h.size) (by show(st.put (some t) S2).boxes.length=(st.put (some t) S2).slots.length;rw[ly,gx,ay];exact h.bsize) h.frame ?_ (λb y hy hb=>⟨hlk b y hb (O6 b y hy hb),rfl,rfl⟩) ?_ ?_ ?_ (.inl ⟨by simp,M0⟩);intro b y hy;have hy':(if b∈f2 then some (kK.hand 0) else g.fj b)=some y:=hy;by_cases hm:b∈f2;exact h.gN b _ (hl b (by simp[hm]));rw[aK hm]at hy';exact h.gN b y hy';intro j bv hj;have hj':(st.slots.set t S2)[j]?=some bv:=by rw[<-gx];exact hj
  by_cases hjt:j=t;subst hjt;rw[bO]at hj';simp only[cz,htl]at hj';simp at hj';subst hj';refine .inr ⟨f1++f3,⟨ws,hv,?_⟩,?_,?_⟩;rw[fV];obtain⟨us,fU,fO⟩:=UE;refine Jf _ hle (λb _=>⟨rfl,rfl⟩) _ ⟨us,fU,?_⟩;exact(fO.ae0).mono hle (by simp);refine aQ.2 ⟨n1.1,n2.2.1,?_⟩;rintro b hb c hc rfl;exact n1.2.2 b hb b (bD _ hc) rfl;intro b hb;refine hlk b _ (hl b (by rcases aA.1 hb with k|k<;>simp[k])) (λhm=>?_);rcases aA.1 hb with k|k;exact n1.2.2 b k b (bP _ hm) rfl;exact n2.2.2 b hm b k rfl;rw[aR (df hjt)]at hj';exact .inl ⟨by simpa using hjt,hj',rfl⟩;intro s sB hb;have iz:st.boxes[s]?=some (some sB):=by rw[<-ly (d:=some t) (v:=S2)];exact hb
  exact .inl ⟨by simp,iz,rfl⟩;intro k u bv HE;cases k with
  |zero=>simp only[cR,bq,Prod.mk.injEq]at HE;obtain⟨rfl,rfl⟩:=HE;obtain⟨us,fU,fO⟩:=UE;refine .inr ⟨f2,⟨us,fU,fO.mono hle (λb _=>⟨rfl,rfl⟩)⟩,n2.1,λb hb=>?_⟩;show(if b∈f2 then _ else _)=_;rw[aI hb]
  |succ k=>simp at HE
 exact⟨v,w,_,.inl fg,eE.Gj aqD o.dst,hk⟩;cases hk;cases hk
def lq (hw:Nat->Nat)(w:World)(e:CT)(news:jf)(ys:aw e.D)(fps:aw fA):Prop:=
 news.length=ys.length*e.size/\fps.length=ys.length/\∀(i:Nat)(y:e.D)(f:fA),ys[i]?=some y->fps[i]?=some f->fR hw w e ((news.drop (i*e.size)).take e.size) y f
theorem lq.append {w:World}{n1 n2:jf}{xs ys:aw e.D}{f1 f2:aw fA}(h1:lq hw w e n1 xs f1)(h2:lq hw w e n2 ys f2): lq hw w e (n1++n2) (xs++ys) (f1++f2):=by
 obtain⟨a1,a2,a3⟩:=h1;obtain⟨b1,b2,b3⟩:=h2;refine⟨by rw[ai,ai,a1,b1,dc],by simp[a2,b2],λi y f hy hf=>?_⟩;by_cases hi:i<xs.length;rw[bK hi]at hy;rw[bK (by omega)]at hf;have hm:(i+1)*e.size<=xs.length*e.size:=de _ hi;rw[dc,fJ]at hm;have:=a3 i y f hy hf;have e1:((n1++n2).drop (i*e.size)).take e.size=(n1.drop (i*e.size)).take e.size:=by rw[List.drop_append_of_le_length (by omega),List.take_append_of_le_length (by rw[aS];omega)]
 rw[e1];exact this;rw[bA (by omega)]at hy;rw[bA (by omega),a2]at hf;have:=b3 _ y f hy hf;have BN:xs.length*e.size<=i*e.size:=de _ (by omega);have e1:(n1++n2).drop (i*e.size)=n2.drop ((i-xs.length)*e.size):=by rw[List.drop_append,dP (by omega),bz,a1,Nat.sub_mul]
 rw[e1];exact this
theorem lq.mono {hw':Nat->Nat}{w w':World}{ys:aw e.D}(h:lq hw w e news ys fps)(hk:∀b∈fps.flatten,w'.heap[b]?=w.heap[b]?/\hw' b=hw b):lq hw' w' e news ys fps:=⟨h.1,h.2.1,λi y f hy hf=>fR.mono (h.2.2 i y f hy hf) λb hb=>hk b (List.mem_flatten.2 ⟨f,aU hf,hb⟩)⟩
theorem lq.nil (hw:Nat->Nat)(w:World)(e:CT):lq hw w e [] [] []:=⟨by simp,rfl,by simp⟩
theorem lq.nS {w:World}{ys:aw e.D}(h:lq hw w e news ys fps):∀v∈news,v.oneCell'=true:=by
 intro v hv;obtain⟨j,hj,hjv⟩:=List.mem_iff_getElem.1 hv;have ag8:=e.size_pos;have hi:j/e.size<ys.length:=by rw[Nat.div_lt_iff_lt_mul ag8];rw[<-h.1];exact hj
 have iG:=h.2.2 (j/e.size) _ _ (ak hi) (ak (by rw[h.2.1];exact hi));refine fR.nS iG v ?_;rw[List.mem_iff_getElem?];refine⟨j%e.size,?_⟩;rw[jS,aI (Nat.mod_lt _ ag8),Nat.mul_comm,Nat.div_add_mod,ak hj,hjv]
theorem ad0 {w:World}{b o0:Nat}{xs:aw e.D}(hb:w.heap[b]?=some (.cells arr T fr))(uO:rm arr fr)(hs:arr.size=o0+cap*e.size)(hc:xs.length<=cap)(hh:hw b=o0+xs.length*e.size)(IH:lq hw w e ((arr.toList.drop o0).take (xs.length*e.size)) xs fps): fR hw w (.sl e) [.slice (some ⟨b,o0,none⟩) xs.length cap] xs (b::fps.flatten):=by
 refine⟨_,rfl,.inr ⟨b,o0,cap,arr,T,fr,fps,rfl,hb,uO,hs,hc,hh,rfl,IH.2.1,λi x f hx hf=>?_⟩⟩;have:=IH.2.2 i x f hx hf;have hi:i<xs.length:=(aC.1 hx).1;have hm:(i+1)*e.size<=xs.length*e.size:=de _ hi;rw[dc,fJ]at hm;have e1:(((arr.toList.drop o0).take (xs.length*e.size)).drop (i*e.size)).take e.size=(arr.toList.drop (o0+i*e.size)).take e.size:=by apply dj;intro j;rw[jS,jS,jS];by_cases hj:j<e.size;rw[aI hj,aI hj,zip,gi];rw[aK hj,aK hj]
 rw[e1]at this;exact this
theorem Nc {w:World}{o0:Nat}{xs:aw e.D}(hs:arr.size=o0+cap*e.size)(hc:xs.length<=cap)(hl:fps.length=xs.length)(h:∀(i:Nat)(x:e.D)(f:fA),xs[i]?=some x->fps[i]?=some f->fR hw w e ((arr.toList.drop (o0+i*e.size)).take e.size) x f):lq hw w e ((arr.toList.drop o0).take (xs.length*e.size)) xs fps:=by
 refine⟨?_,hl,λi x f hx hf=>?_⟩;have hal:(arr.toList.drop o0).length=cap*e.size:=by rw[aS,Array.length_toList,hs];omega
 rw[aP,hal];exact ju (de _ hc);have hi:i<xs.length:=(aC.1 hx).1;have hm:(i+1)*e.size<=xs.length*e.size:=de _ hi;rw[dc,fJ]at hm;have e1:(((arr.toList.drop o0).take (xs.length*e.size)).drop (i*e.size)).take e.size=(arr.toList.drop (o0+i*e.size)).take e.size:=by apply dj;intro j;rw[jS,jS,jS];by_cases hj:j<e.size;rw[aI hj,aI hj,zip,gi];rw[aK hj,aK hj]
 rw[e1];exact h i x f hx hf
theorem QM {w w':World}{S:Nat->Nat->Prop}:∀{e:CT}{vs:jf}{x:e.D},jM w' S e vs x->e.flat=true->fR hw w e vs x []
 | .int _,_,_,h,_=>⟨h,rfl⟩
 | .bool,_,_,h,_=>⟨h,rfl⟩
 | .str,_,_,h,_=>⟨h,rfl⟩
 | .sl _,_,_,_,hf=>by cases hf
 | .pair a b,_,_,h,hf=>by obtain⟨v1,v2,rfl,h1,h2⟩:=h;simp only[CT.flat,af]at hf;exact⟨v1,v2,[],[],rfl,rfl,QM h1 hf.1,QM h2 hf.2⟩
def QZ (hdr:Nat->Value)(t:az Nat)(v:Value):Nat->Value:=λu=>if t=some u then v else hdr u
theorem adh {hdr:Nat->Value}{d:az Nat}{t:Nat}(h:nH st t):QZ hdr (st.iU d 0) v t=hdr t:=by unfold QZ;rw[aK];intro e;exact(qX e).1 h
theorem eE.RY (h:eE C g st a w hs)(d:az Nat){xs:aw e.D}{fp:fA}{w':World}{hw':Nat->Nat}(jt:Fr (λb=>ej (g.fj b)) w w')(II:∀b x,g.fj b=some x->¬ej (some x)->hw' b=g.hw b)(Lr:∀b o u,o<g.hw b->w.cell? ⟨b,o,none⟩=some u->o<hw' b/\w'.cell? ⟨b,o,none⟩=some u)(iG:fR hw' w' (.sl e) [v] xs fp)(hn:fp.Nodup)(GR:∀b∈fp,b<w'.heap.size/\(ej (g.fj b)\/w.heap.size<=b)): py C (st.ri d e xs) (a.put d v) w':=by refine h.RV d (st1:=st.fW d) (hdr':=QZ g.hdr (st.iU d 0) v) LB xa DL CN (λt ht=>⟨Ga ht,adh ht⟩) jt II Lr (nq ⟨iG,λt ht=>?_⟩) hn GR;refine⟨(qX ht).2.1,?_⟩;show v=QZ g.hdr (st.iU d 0) v t;unfold QZ;rw[aI ht]
theorem eE.RI (h:eE C g st a w hs)(d:az Nat){xs:aw e.D}{w':World}(hw:w'=w.alloc (.cells arr T fr)\/w'=w.drew.alloc (.cells arr T fr))(uO:rm arr fr)(hs0:arr.size=cap*e.size)(hc:xs.length<=cap)(IH:lq g.hw w e (arr.toList.take (xs.length*e.size)) xs fps)(hn:fps.flatten.Nodup)(GR:∀b∈fps.flatten,ej (g.fj b)): py C (st.ri d e xs) (a.put d (.slice (some ⟨w.heap.size,0,none⟩) xs.length cap)) w':=by
 have jt:Fr (λb=>ej (g.fj b)) w w':=by rcases hw with rfl|rfl;exact Fr.alloc _ _ _;exact(Fr.drew _ w).trans (Fr.alloc _ _ _) (λb _ hh=>hh)
 have ag7:w'.heap[w.heap.size]?=some (.cells arr T fr):=by rcases hw with rfl|rfl;exact heap_alloc_new w _;exact heap_alloc_new w.drew _
 have uU:w'.heap.size=w.heap.size+1:=by rcases hw with rfl|rfl<;>simp
 have hold:∀b,b<w.heap.size->w'.heap[b]?=w.heap[b]?:=by intro b hb;rcases hw with rfl|rfl;exact heap_alloc_old w _ b hb;exact heap_alloc_old w.drew _ b hb
 have gr:∀b∈fps.flatten,b<w.heap.size:=by intro b hb;have hh:=GR b hb;cases hx:g.fj b with|none=>rw[hx]at hh;cases hh|some x=>exact(h.gN b x hx).1
 let hw':Nat->Nat:=λb=>if b=w.heap.size then xs.length*e.size else g.hw b
 have iG:fR hw' w' (.sl e) [.slice (some ⟨w.heap.size,0,none⟩) xs.length cap] xs (w.heap.size::fps.flatten):=by refine ad0 (o0:=0) ag7 uO (by rw[cO];exact hs0) hc (by simp[hw']) (IH.mono λb hb=>?_);have iz:=gr b hb;exact⟨hold b iz,by simp[hw',iK iz]⟩
 refine h.RY d (hw':=hw') (fp:=w.heap.size::fps.flatten) jt ?_ ?_ iG ?_ ?_;intro b x hx _;simp[hw',iK (h.gN b x hx).1];intro b o u ho hu;have hb:b<w.heap.size:=World.block_lt_of_cell? w _ hu;exact⟨by simp[hw',iK hb];exact ho,by rw[World.cell?_of_block (a:=⟨b,o,none⟩) (hold b hb)];exact hu⟩;exact dC.2 ⟨λhm=>oo _ (gr _ hm),hn⟩;intro b hb;rcases bZ.1 hb with rfl|hb;exact⟨by omega,.inr (bt _)⟩;exact⟨by have:=gr b hb;omega,.inl (GR b hb)⟩
theorem als {z:Array Value}{c size i:Nat}(hz:z.size=size)(hi:i<c):((madeCells z (c*size)).toList.drop (i*size)).take size=z.toList:=by
 have hm:(i+1)*size<=c*size:=de _ hi;rw[dc,fJ]at hm;apply dj;intro j;rw[jS];by_cases hj:j<size;rw[aI hj,madeCells];have h1:i*size+j<c*size:=by omega
 simp only[Array.toList_map,Array.toList_range,List.getElem?_map,List.getElem?_range h1,dD];have aqs:(i*size+j)%z.size=j:=by rw[hz,Nat.mul_comm,Nat.mul_add_mod,eO hj]
 rw[aqs];simp[getElem!_pos,hz,hj];rw[aK hj,bJ];simp[hz];omega
theorem Ry {E:Env}(hE:ka P E.ty){o:Oper}{n c:Operand}(ho:o.op=.makeSlice T n c)(h:py C st a w){K:AS->az R}(hk:pK E o T n c st K=some r):nG P C o a w K r:=by
 obtain⟨g,hg⟩:=id h;have hnv:=hg.rd n;have hcv:=hg.rd c;unfold pK at hk;split at hk;rename_i e len cap hT hn hc;rw[hn]at hnv;rw[hc]at hcv;split at hk;rename_i hlc;unfold room at hk;split at hk;rename_i Ju;obtain⟨te,hu,⟨inf,z,Fa,uU,hby,hz,hzc⟩,_⟩:=H4 hE hT;have Jd:cap<=1073741824:=by omega
 have aqf:(inf.bytes:Int)*cap<=281474976710656:=by have h1:(inf.bytes:Int)*cap<=65536*cap:=Int.mul_le_mul_of_nonneg_right (by omega) (by omega);omega
 have fg:=run_make (P:=P) w T te inf z hu Fa hz .i64 .i64 len cap hlc.1 hlc.2 aqf (by omega);have Jw:(execOp a.eval o).run P w=.ok (.value (.slice (some ⟨w.heap.size,0,none⟩) len.toNat cap.toNat)) (w.alloc (.cells (madeCells z.cells (cap.toNat*inf.size)) te)):=by simp only[execOp,ho,jq hnv,jq hcv];show((Instr.makeSlice T (.int .i64 len) (.int .i64 cap))>>=λv=>pure (Next.value v)).run P w=_;rw[Sem.run_bind,fg];rfl
 have hzs:z.cells.size=e.size:=by rw[<-qN e,<-hzc];simp
 have hlen:(List.replicate len.toNat e.zero).length=len.toNat:=by simp
 have IH:lq g.hw w e ((madeCells z.cells (cap.toNat*inf.size)).toList.take ((List.replicate len.toNat e.zero).length*e.size)) (List.replicate len.toNat e.zero) (List.replicate len.toNat []):=by
  refine Nc (o0:=0) (cap:=cap.toNat) (by rw[size_madeCells,uU,cO]) (by rw[hlen];omega) (by simp) (λi x f hx hf=>?_);have hi:i<len.toNat:=by have:=(aC.1 hx).1;simpa using this
  rw[eS,aI hi]at hx hf;simp at hx hf;subst hx;subst hf;rw[uU,cO,als hzs (by omega),hzc];exact Iq _ _ _
 refine⟨_,_,_,.inl Jw,?_,hk⟩;have:=hg.RI o.dst (T:=te) (fr:=(0,0)) (cap:=cap.toNat) (.inl rfl) (by intro j _;simp) (by rw[size_madeCells,uU]) (by rw[hlen];omega) IH (by simp) (by simp);rw[hlen]at this;exact this;cases hk;cases hk;cases hk
theorem P7 {lo hi:az Operand}(hg:eE C g st a w []){n:Nat}(Jd:n<=cap){K:Int->Int->az R}(hk:nK st lo hi n K=some r)(isS:Bool): ∃x y:Int,K x y=some r/\(0<=x->x<=y->y<=n->(Instr.sliceBounds isS n cap (lo.map a.eval) (hi.map a.eval) none).run P w=.ok (x.toNat,y.toNat,cap) w):=by
 unfold nK at hk;split at hk;rename_i h1 h2;have e1:lo=none:=by cases lo<;>simp at h1⊢
 have e2:hi=none:=by cases hi<;>simp at h2⊢
 subst e1;subst e2;exact⟨0,n,hk,λ_ _ _=>by simp[Instr.sliceBounds]⟩;rename_i k p h1 h2;have e2:hi=none:=by cases hi<;>simp at h2⊢
 subst e2;cases lo with|none=>simp at h1|some lo=>simp at h1;have hv:=hg.rd lo;rw[h1]at hv;refine⟨p,n,hk,λq1 q2 q3=>?_⟩;simp[Instr.sliceBounds,Instr.sliceBound,asIntOf,jq hv,q1,q2]
 rename_i k p h1 h2;have e1:lo=none:=by cases lo<;>simp at h1⊢
 subst e1;cases hi with|none=>simp at h2|some hi=>simp at h2;have hv:=hg.rd hi;rw[h2]at hv;refine⟨0,p,hk,λq1 q2 q3=>?_⟩;simp[Instr.sliceBounds,Instr.sliceBound,asIntOf,jq hv,show 0<=p by omega,show p<=(cap:Int) by omega]
 rename_i k p k' q h1 h2;cases lo with|none=>simp at h1|some lo=>cases hi with|none=>simp at h2|some hi=>simp at h1 h2;have hv:=hg.rd lo;have hv':=hg.rd hi;rw[h1]at hv;rw[h2]at hv';refine⟨p,q,hk,λq1 q2 q3=>?_⟩;simp[Instr.sliceBounds,Instr.sliceBound,asIntOf,jq hv,jq hv',q1,show 0<=q by omega,show q<=(cap:Int) by omega];intro gr;omega
 cases hk
theorem extract_mk (s:aw UInt8)(x y:Nat):(ByteArray.mk s.toArray).extract x y=ByteArray.mk ((s.take y).drop x).toArray:=by apply ByteArray.ext;rw[ByteArray.data_extract];simp[List.extract_eq_take_drop,List.drop_take]
theorem Sx {α:Type}{xs ys:aw α}{x y:Int}(h:sub xs x y=some ys):0<=x/\x<=y/\y<=(xs.length:Int)/\ys=(xs.take y.toNat).drop x.toNat:=by unfold sub at h;split at h;rename_i hc;simp at h;exact⟨hc.1,hc.2.1,hc.2.2,h.symm⟩;cases h
theorem afP {w:World}{S:Nat->Nat->Prop}{xs:aw e.D}(h:jM w S (.sl e) [v] xs){x y:Nat}(hxy:x<=y)(hy:y<=xs.length): ∃bo cap,v=.slice bo xs.length cap/\xs.length<=cap/\jM w S (.sl e) [.slice (if cap=x then bo else bo.map (·.add (x*e.size))) (y-x) (cap-x)] ((xs.take y).drop x):=by
 obtain⟨u,hu,h⟩:=h;simp at hu;subst hu;rcases h with⟨⟨ad,rfl⟩,rfl⟩|⟨b,o,cap,rfl,hc,h⟩;simp at hy;subst hy;have hx:x=0:=by omega
 subst hx;exact⟨ad,0,rfl,by simp,⟨_,rfl,.inl ⟨⟨ad,by simp⟩,by simp⟩⟩⟩;have hl:((xs.take y).drop x).length=y-x:=by simp;omega
 refine⟨some ⟨b,o,none⟩,cap,rfl,hc,⟨_,rfl,.inr ?_⟩⟩;by_cases hcx:cap=x;refine⟨b,o,cap-x,by rw[aI hcx,hl],by rw[hl];omega,λi z hz=>?_⟩;have:((xs.take y).drop x)=[]:=cQ (by rw[hl];omega);rw[this]at hz;simp at hz;refine⟨b,o+x*e.size,cap-x,by rw[aK hcx,hl];simp[om],by rw[hl];omega,λi z hz=>?_⟩;have hz':xs[x+i]?=some z:=by rw[bS,dY]at hz;split at hz;exact hz;cases hz
 obtain⟨cs,MB,hr⟩:=h (x+i) z hz';refine⟨cs,?_,hr⟩;have:o+x*e.size+i*e.size=o+(x+i)*e.size:=by rw[dc];omega
 rw[this];exact MB
theorem alL {w:World}{xs:aw e.D}{fp:fA}(h:fR hw w (.sl e) [v] xs fp){n:Nat}(hn:n<=xs.length): ∃bo cap,v=.slice bo xs.length cap/\xs.length<=cap/\∃ld,fR hw w (.sl e) [.slice (if cap=n then bo else bo.map (·.add (n*e.size))) (xs.length-n) (cap-n)] (xs.drop n) ld/\(∀b∈ld,b∈fp)/\(fp.Nodup->ld.Nodup):=by
 obtain⟨u,hu,h⟩:=h;simp at hu;subst hu;rcases h with⟨⟨ad,rfl⟩,rfl,rfl⟩|⟨b,o0,cap,arr,T,fr,fps,rfl,hb,uO,hs,hc,hh,rfl,hl,hr⟩;simp at hn;subst hn;exact⟨ad,0,rfl,by simp,[],⟨_,rfl,.inl ⟨⟨ad,by simp⟩,rfl,rfl⟩⟩,by simp,by simp⟩;refine⟨some ⟨b,o0,none⟩,cap,rfl,hc,?_⟩;by_cases hcn:cap=n;have hx:xs.drop n=[]:=dP (by omega);refine⟨[],⟨_,rfl,.inl ⟨⟨some ⟨b,o0,none⟩,by rw[aI hcn,show xs.length-n=0 by omega,show cap-n=0 by omega]⟩,hx,rfl⟩⟩,by simp,by simp⟩;have hm1:cap*e.size=n*e.size+(cap-n)*e.size:=by rw[<-dc];congr 1;omega
 have hm2:xs.length*e.size=n*e.size+(xs.length-n)*e.size:=by rw[<-dc];congr 1;omega
 refine⟨b::(fps.drop n).flatten,⟨_,rfl,.inr ⟨b,o0+n*e.size,cap-n,arr,T,fr,fps.drop n,by rw[aK hcn];simp[om],hb,uO,by omega,by simp;omega,by simp;omega,rfl,by simp[hl],λi x f hx hf=>?_⟩⟩,?_,?_⟩;rw[bS]at hx hf;have:=hr (n+i) x f hx hf;rwa[dc,<-gi]at this;intro c Cy;rcases bZ.1 Cy with rfl|Cy;simp;obtain⟨l,hl1,Cz⟩:=List.mem_flatten.1 Cy;exact eY _ (List.mem_flatten.2 ⟨l,List.mem_of_mem_drop hl1,Cz⟩);intro Jr;have h1:=dC.1 Jr;have e1:fps.flatten=(fps.take n).flatten++(fps.drop n).flatten:=by rw[<-eP,cW]
 rw[e1]at h1;exact dC.2 ⟨λhm=>h1.1 (by simp[hm]),(aQ.1 h1.2).2.1⟩
theorem ah5 {an:An}{o:Oper}{ep:Nat}{pv:az (lx×Nat)}{p:Int}:RL an o (.loc ep pv) p=.loc ep none\/∃rt t,pv=some (rt,t)/\RL an o (.loc ep pv) p=.part ep rt t p:=by
 unfold RL;split;rename_i ep' r t d h _;cases h;cases an.nest.contains d with|false=>exact .inl rfl|true=>exact .inr ⟨_,_,rfl,rfl⟩
 exact .inl rfl
theorem Sd {E:Env}(hE:ka P E.ty){o:Oper}{lo hi:az Operand}(ho:o.op=.slice T x lo hi none)(h:py C st a w){K:AS->az R}(hk:zd E o T x lo hi st K=some r):nG P C o a w K r:=by
 obtain⟨g,hg⟩:=h;unfold zd at hk;split at hk;rename_i tag e xs cp kd p vd hlo;split at hk;rename_i hT;cases lo with
 |none=>simp at hlo
 |some lo=>
  simp at hlo;have hlv:=hg.rd lo;rw[hlo]at hlv;obtain⟨te,hu,⟨inf,z,Fa,uU,_⟩,_⟩:=H4 hE hT;obtain⟨g',pw⟩:=hg.take x;rw[vd]at pw;simp only[bz]at pw;cases sK:sub xs p xs.length with
  |none=>rw[sK]at hk;cases hk
  |some SY=>
   rw[sK]at hk;simp only[aa]at hk;obtain⟨h1,h2,_,rfl⟩:=Sx sK;obtain⟨fp,fO,Jr,hl⟩:=pw.hands 0 _ _ rfl;have iG:=(fu fO).1;obtain⟨bo,cap,hv,Jd,ld,Lq,asS,WN⟩:=alL iG (n:=p.toNat) (by omega);have fg:(execOp a.eval o).run P w=.ok (.value (.slice (if cap=p.toNat then bo else bo.map (·.add (p.toNat*e.size))) (xs.length-p.toNat) (cap-p.toNat))) w:=by
    have hb:(Instr.sliceBounds true xs.length cap (some (a.eval lo)) none none).run P w=.ok (p.toNat,xs.length,cap) w:=by have hp2:p<=(xs.length:Int):=h2;simp[Instr.sliceBounds,Instr.sliceBound,asIntOf,jq hlv,h1,hp2]
    simp only[execOp,ho,hv,Instr.sliceAt,Instr.slice,underlying,Option.map_none,dD,Sem.run_bind,run_program,hu,Result.andThen_ok,Sem.run_pure,hb,sizeOf,typeInfo,Fa,uU]
   have D6:(xs.take ((xs.length:Int).toNat)).drop p.toNat=xs.drop p.toNat:=by rw[ax,cf]
   rw[D6]at hk;refine⟨_,_,_,.inl fg,?_,hk⟩;refine pw.RY o.dst (hw':=g'.hw) (fp:=ld) (Fr.refl _ _) (λ_ _ _ _=>rfl) (λ_ _ _ ho hu=>⟨ho,hu⟩) Lq (WN Jr) (λb hb=>?_);have:=hl b (asS b hb);exact⟨(pw.gN b _ this).1,.inl (by rw[this];rfl)⟩
 cases hk;cases hk
theorem aen {E:Env}(hE:ka P E.ty){an:An}{o:Oper}{lo hi:az Operand}(ho:o.op=.slice T x lo hi none)(h:py C st a w){K:AS->az R}(hk:Dh E an o T x lo hi st K=some r):nG P C o a w K r:=by
 obtain⟨g,hg⟩:=id h;have xe:=hg.fresh (hg.rd x);unfold Dh at hk;split at hk;exact Sd hE ho h hk;split at hk;rename_i s hx;rw[hx]at xe;split at hk;rename_i hT;have hu:=XO hE hT;have hv:=(fu xe).1;obtain⟨p,q,WM,fg⟩:=P7 (P:=P) (w:=w) hg (bt s.length) hk false;cases sK:sub s p q with|none=>rw[sK]at WM;cases WM|some s'=>rw[sK]at WM;simp only[aa]at WM;obtain⟨h1,h2,h3,rfl⟩:=Sx sK;have hb:=fg h1 h2 h3;refine xm h _ _ ?_ (PH _) WM;simp only[execOp,ho,hv,Instr.sliceAt,Instr.slice,underlying,Option.map_none,Sem.run_bind,run_program,hu,Result.andThen_ok,Sem.run_pure,Ad,hb,Option.isSome_none,bn,cJ,extract_mk]
 cases hk;rename_i fl e xs hx;rw[hx]at xe;split at hk;rename_i hT;obtain⟨hT,qm⟩:=hT;obtain⟨te,hu,⟨inf,z,Fa,uU,_⟩,_⟩:=H4 hE hT;have hc:=fu xe
 have key:∀(S:Nat->Nat->Prop),jM w S (.sl e) [a.eval x] xs->(∀(p q:Int)(bo:az Addr)(cap:Nat),0<=p->p<=q->q<=xs.length->xs.length<=cap->a.eval x=.slice bo xs.length cap->
  jM w S (.sl e) [.slice (if cap=p.toNat then bo else bo.map (·.add (p.toNat*e.size))) (q.toNat-p.toNat) (cap-p.toNat)] ((xs.take q.toNat).drop p.toNat)->
  iy (dq C g st w) (.slice (if cap=p.toNat then bo else bo.map (·.add (p.toNat*e.size))) (q.toNat-p.toNat) (cap-p.toNat)) (.sl (RL an o fl p) e ((xs.take q.toNat).drop p.toNat)) [])->nG P C o a w K r:=by
  intro S Ls hmk
  have Jd:∃bo cap,a.eval x=.slice bo xs.length cap/\xs.length<=cap:=by obtain⟨bo,cap,hv,hc,_⟩:=afP Ls (x:=0) (y:=0) (bt _) (bC _);exact⟨bo,cap,hv,hc⟩
  obtain⟨bo,cap,hv,Jd⟩:=Jd
  obtain⟨p,q,WM,fg⟩:=P7 (P:=P) (w:=w) hg Jd hk true
  cases sK:sub xs p q with
  |none=>rw[sK]at WM;cases WM
  |some SY=>
   rw[sK]at WM
   simp only[aa]at WM
   obtain⟨h1,h2,h3,rfl⟩:=Sx sK
   have hb:=fg h1 h2 h3
   obtain⟨bo',ay7,hv',_,akZ⟩:=afP Ls (x:=p.toNat) (y:=q.toNat) (by omega) (by omega)
   rw[hv]at hv'
   simp only[Value.slice.injEq,true_and]at hv'
   obtain⟨rfl,rfl⟩:=hv'
   refine⟨.slice (if cap=p.toNat then bo else bo.map (·.add (p.toNat*e.size))) (q.toNat-p.toNat) (cap-p.toNat),w,_,.inl ?_,⟨g,hg.quiet o.dst (nq (hmk p q _ _ h1 h2 h3 Jd hv akZ))⟩,WM⟩
   simp only[execOp,ho,hv,Instr.sliceAt,Instr.slice,underlying,Option.map_none,Sem.run_bind,run_program,hu,Result.andThen_ok,Sem.run_pure,hb,sizeOf,typeInfo,Fa,uU]
 cases fl with
 |own t=>cases qm
 |nest _ _ _ _ _ _=>cases qm
 |part _ _ _ _=>cases qm
 |fS _ _ _=>cases qm
 |arg _=>exact key _ hc.2 (λp q bo cap _ _ _ _ _ hr=>by simp only[RL,sn.bare];exact⟨rfl,hr⟩)
 |loc ep pv=>
  have Bs:ep=st.ep:=by simpa[sn.live]using qm
  refine key _ (hc.2.2.2.1 Bs) (λp q bo cap hp hpq hq Jd hv hr=>?_);have hlen:((xs.take q.toNat).drop p.toNat).length=q.toNat-p.toNat:=by simp;omega
  have plain:iy (dq C g st w) (.slice (if cap=p.toNat then bo else bo.map (·.add (p.toNat*e.size))) (q.toNat-p.toNat) (cap-p.toNat)) (.sl (.loc ep none) e ((xs.take q.toNat).drop p.toNat)) []:=⟨rfl,hc.2.1,⟨_,_,_,rfl,hlen.symm⟩,λ_=>hr,by simp⟩
  rcases ah5 (an:=an) (o:=o) (ep:=ep) (pv:=pv) (p:=p)with hpf|⟨rt,t,rfl,hpf⟩;rw[hpf];exact plain;rw[hpf];refine⟨rfl,hc.2.1,⟨_,_,_,rfl,hlen.symm⟩,λ_=>?_⟩;have Jv:=hc.2.2.2.2 rt t rfl;refine⟨Jv.1,?_⟩;by_cases hz:q.toNat-p.toNat=0;exact .inl (cQ (by rw[hlen];exact hz));right;obtain⟨u,hu,Ls⟩:=hc.2.2.2.1 Bs;simp at hu;rcases Ls with⟨_,rfl⟩|⟨b,o0,abZ,WS,Zm,_⟩;simp at hlen;omega;rw[<-hu,hv]at WS;simp only[Value.slice.injEq,true_and]at WS;obtain⟨rfl,rfl⟩:=WS;refine⟨p.toNat,b,o0,xs.length,cap,cap-p.toNat,by omega,by rw[<-Jv.2,hv],by rw[hlen];omega,?_⟩;rw[nI,hlen];simp[om]
 cases hk;cases hk
theorem Yk {E:Env}(hE:ka P E.ty)(h:E.bytes T=true):∃te,P.underlying T=some (.slice te)/\P.underlying te=some (.int .u8):=by unfold Env.bytes at h;split at h;rename_i te n hT;split at h;rename_i kF hte;obtain⟨te',hu,_,ho⟩:=(hE T _ hT).sl _ rfl rfl;have:=ho te n rfl;subst this;exact⟨te,hu,(hE te _ hte).int _ rfl rfl⟩;cases h;cases h
theorem aii {w:World}{S:Nat->Nat->Prop}{xs:bQ}(h:jM w S (.sl (.int .u8)) [v] xs): ((∃a,v=.slice a 0 0)/\xs=[])\/∃b o cap,v=.slice (some ⟨b,o,none⟩) xs.length cap/\∀i,i<xs.length->w.cell? ⟨b,o+i,none⟩=some (.int .u8 (xs.getD i 0)):=by obtain⟨u,hu,h⟩:=h;simp at hu;subst hu;rcases h with h|⟨b,o,cap,hv,_,h⟩;exact .inl h;refine .inr ⟨b,o,cap,hv,λi hi=>?_⟩;obtain⟨cs,MB,hr⟩:=h i xs[i] (ak hi);have hr':cs=[.int .u8 xs[i]]:=hr;subst hr';have:=(MB 0 _ rfl).2;simp only[CT.size,oq,eN]at this;rw[this];simp[List.getD,ak hi]
theorem V0 {E:Env}(hE:ka P E.ty){o:Oper}{src dst:TypeId}(ho:o.op=.convert src dst x)(h:py C st a w){K:AS->az R}(hk:mI E o src dst x st K=some r):nG P C o a w K r:=by
 obtain⟨g,hg⟩:=id h;have xe:=hg.rd x;have fin:∀v w',(convert src dst (a.eval x)).run P w=.ok v w'->(execOp a.eval o).run P w=.ok (.value v) w':=by intro v w' hr;simp only[execOp,ho];show(convert src dst (a.eval x)>>=λv=>pure (Next.value v)).run P w=_;rw[Sem.run_bind,hr];rfl
 have under:∀(T:TypeId)(sh:Shape),jK E.ty T=some sh->∃d,P.underlying T=some d:=by
  intro T sh hT;have px:=hE T sh hT;cases Pw:sh.agg with
  |true=>obtain⟨fs,hu,_⟩:=px.agg Pw;exact⟨_,hu⟩
  |false=>
   cases N1:sh.ct with
   |int k=>exact⟨_,px.int k N1 Pw⟩
   |bool=>exact⟨_,px.bool N1 Pw⟩
   |str=>exact⟨_,px.str N1 Pw⟩
   |sl e=>obtain⟨te,hu,_⟩:=px.sl e N1 Pw;exact⟨_,hu⟩
   |pair p q=>have:=px.pair p q N1;rw[Pw]at this;cases this
 unfold mI at hk;split at hk;rename_i ssh k kF k' n hs hd hx;rw[hx]at xe;obtain⟨ds,hus⟩:=under _ _ hs;have hud:=(hE dst _ hd).int k rfl rfl;refine xm h _ _ (fin (.int k (k.wrap n)) w ?_) (lh _ _) hk;rw[jq xe];simp only[convert,underlying,Sem.run_bind,run_program,hus,hud,Result.andThen_ok,Sem.run_pure];rfl;rename_i kF ay5 s hs hd hx;rw[hx]at xe;have hus:=(hE src _ hs).str rfl rfl;have hud:=(hE dst _ hd).str rfl rfl;refine xm h _ _ (fin (.string ⟨s.toArray⟩) w ?_) (PH _) hk;rw[(fu xe).1];simp only[convert,underlying,Sem.run_bind,run_program,hus,hud,Result.andThen_ok,Sem.run_pure];rename_i kF sh s O6 hs hd hx;rw[hx]at xe;split at hk;rename_i hb;unfold room at hk;split at hk;obtain⟨te,hu,hte⟩:=Yk hE hb;have hus:=(hE src _ hs).str rfl rfl;have fg:=run_bytes_of_string (P:=P) w src dst te ⟨s.toArray⟩ hus hu hte;rw[<-(fu xe).1,Ad]at fg;refine⟨_,_,_,.inl (fin _ _ fg),?_,hk⟩;have BN:=grownCap_ge w s.length 0 te;have uU:(bytesRow ⟨s.toArray⟩ (grownCap w s.length 0 te)).size=grownCap w s.length 0 te*CT.size (.int .u8):=by simp only[bytesRow,Array.size_append,Array.size_map,Array.size_replicate,Ad,CT.size];simp;omega
 have vd:(bytesRow ⟨s.toArray⟩ (grownCap w s.length 0 te)).toList.take ((fX s).length*CT.size (.int .u8))=(fX s).map (Value.int .u8):=by simp only[bytesRow,fX,CT.size,Array.toList_append,Array.toList_map];rw[List.take_append_of_le_length (by simp)];rw[cx (by simp)];simp
 have IH:lq g.hw w (.int .u8) ((bytesRow ⟨s.toArray⟩ (grownCap w s.length 0 te)).toList.take ((fX s).length*CT.size (.int .u8))) (fX s) (List.replicate s.length []):=by
  rw[vd];refine⟨by simp[CT.size],by simp[fX],λi y f hy hf=>?_⟩;have hi:i<(fX s).length:=(aC.1 hy).1;have hf':f=[]:=by rw[eS]at hf;split at hf<;>simp at hf;exact hf
  subst hf';refine⟨?_,rfl⟩;apply dj;intro j;rw[jS];simp only[CT.size,oq];cases j with|zero=>simp[hy]|succ j=>simp
 have hlen:(fX s).length=s.length:=by simp[fX]
 have:=hg.RI o.dst (T:=te) (fr:=((bytesRow ⟨s.toArray⟩ (grownCap w s.length 0 te)).size,(bytesRow ⟨s.toArray⟩ (grownCap w s.length 0 te)).size+1)) (cap:=grownCap w s.length 0 te) (.inr rfl) (by intro j hj hc;simp only at hc;omega) uU (by rw[hlen];exact BN) IH (by simp) (by simp);rw[hlen]at this;exact this;cases hk;cases hk;rename_i ssh kF fl xs hs hd hx;rw[hx]at xe;split at hk;rename_i hb;obtain⟨hb,qm⟩:=hb;obtain⟨te,hu,hte⟩:=Yk hE hb;have hud:=(hE dst _ hd).str rfl rfl;have hc:=fu xe;have Ls:∃S,jM w S (.sl (.int .u8)) [a.eval x] xs:=by
  cases fl with
  |own t=>cases qm
  |nest _ _ _ _ _ _=>cases qm
  |part _ _ _ _=>cases qm
  |fS _ _ _=>cases qm
  |arg _=>exact⟨_,hc.2⟩
  |loc ep pv=>
   have Bs:ep=st.ep:=by simpa[sn.live]using qm
   exact⟨_,hc.2.2.2.1 Bs⟩
 obtain⟨S,Ls⟩:=Ls;refine xm h _ _ (fin (.string ⟨(bf xs).toArray⟩) w ?_) (PH _) hk;rcases aii Ls with⟨⟨ad,hv⟩,rfl⟩|⟨b,ob,cap,hv,E8⟩;cases ad with|none=>rw[hv,run_convert_bytes_nil w src te hu hte 0 0 dst hud];rfl|some ad=>rw[hv];exact run_convert_bytes_back w src dst te ad 0 [] hu hte hud (λj hj=>by simp at hj)
 rw[hv,run_convert_bytes_arg w src te hu hte b ob xs.length cap xs rfl E8 dst hud];rfl;cases hk;cases hk
end Go.Dn
