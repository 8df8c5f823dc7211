import Derived.Test.YtfbhfnniblfpbaaGreatDnOps4
import Derived.Laws.MakeOwn
import Derived.Laws.IdiomStrings
import Derived.Laws.BytesArg
/- Part 5: tuples, parts of slices, conversions, structs and slices that are built. -/
namespace Go.Dn
open Go.RowKit
variable {P:Program} {C:Ctx} {st:AS} {a:Act} {w:World} {R:Type} {r:R}
variable {arr:Array Value} {e:CT} {g:Gh} {cap:Nat} {fr:Nat×Nat} {hw:Nat->Nat} {x:Operand} {T:TypeId} {hs:aq (Value×AV)} {fps:aq dX} {news:ie}
theorem qM.at {c:RC}:∀{ws:ie}{ts:aq (Bool×aq AC)}{fp:dX},fL.qM c ws ts fp->∀{i:Nat}{g:Bool}{cs:aq AC},ts[i]?=some (g,cs)->
 ∃v f1 f2 f3,ws[i]?=some v/\fp=f1++f2++f3/\(∃us,Cut g v us/\bn c us cs f2)/\
  ∀c':RC,c.Le c'->(∀b∈f1++f3,c'.w.heap[b]?=c.w.heap[b]?/\c'.hw b=c.hw b)->∀nd,(∃us,Cut g v us/\bn c' us nd [])->fL.qM c' ws (ts.set i (g,nd)) (f1++f3)
 |[],[],_,_,i,g,cs,h=>by simp at h
 |w::ws,t::ts,_,r,0,g,cs,h=>by obtain⟨f1,f2,rfl,r1,r2⟩:=r;simp at h;subst h;exact⟨w,[],f1,f2,rfl,by simp,r1,λc' hle hb nd D9=>⟨[],f2,rfl,D9,qM.mono hle r2 (λb gL=>hb b (by simpa using gL))⟩⟩
 |w::ws,t::ts,_,r,i+1,g,cs,h=>by obtain⟨f1,f2,rfl,r1,r2⟩:=r;obtain⟨v,g1,g2,g3,hv,rfl,hr,DT⟩:=qM.at r2 (i:=i) (by simpa using h);refine⟨v,f1++g1,g2,g3,by simpa using hv,by simp,hr,λc' hle hb nd D9=>?_⟩;obtain⟨us,eh,dD⟩:=r1;rw[aN];refine⟨f1,g1++g3,rfl,⟨us,eh,dD.mono hle (λb gL=>hb b (by simp[gL]))⟩,?_⟩;exact DT c' hle (λb gL=>hb b (by rcases az.1 gL with k|k<;>simp[k])) nd D9
 |[],_::_,_,r,_,_,_,_=>r.elim
 |_::_,[],_,r,_,_,_,_=>r.elim
theorem Td {o:Oper}{t i:Nat}(ho:o.op=.extract (.tmp t) i)(h:nv C st a w){K:AS->au R}(hk:md o t i st K=some r):nb P C o a w K r:=by
 obtain⟨g,h⟩:=h;unfold md at hk;split at hk;rename_i ts hg;split at hk;rename_i gg cs hn;rw[dB]at hn;have htl:t<st.slots.length:=by
  rcases bS t st.slots.length with gV|BM;exact gV;have:st.get t=.bot:=by simp[AS.get,dB,bH BM]
  rw[this]at hg;cases hg
 obtain⟨fp,hr,E3,hl⟩:=h.slot t;rw[hg]at hr;obtain⟨ws,hv,hr⟩:=hr;obtain⟨v,f1,f2,f3,hwv,rfl,RG,DT⟩:=qM.at hr hn;have dJ:(execOp a.eval o).run P w=.ok (.value v) w:=by have he:a.eval (.tmp t)=.tuple ws.toArray:=hv;simp[execOp,ho,he,Instr.extract,hwv]
 have Tq:=E3;rw[aN]at Tq;have n1:=aB.1 Tq;have n2:=aB.1 n1.2.1;let Qy:AV:=.vU (gZ ts i (gg,aS 0 cs));let st':AS:=st.put (some t) Qy;let g':Gh:={g with dK:=λb=>if b∈f2 then some (.hand 0) else g.dK b}
 have hle:(cy C g st w).Le (cy C g' st' w):=by have:= @TM C g st w (some t) Qy;exact⟨this.A,this.hdr,this.U7,this.ep,this.KJ,this.acM⟩
 have XA:∀b y,g.dK b=some y->b∉f2->g'.dK b=some y:=by intro b y hb hm;show(if b∈f2 then _ else _)=_;rw[aF hm];exact hb
 have Ni:∀b y,y≠ .slot t->g.dK b=some y->b∉f2:=λb y hy hb hm=>hy (by have:=hl b (by simp[hm]);rw[hb]at this;simpa using this);have aiz:dx C g' st' a w [(v,.val gg cs)]:=by
  refine h.step (λy=>y≠ .slot t) hle h.defers (by show _=(st.put (some t) Qy).slots.length;rw[fK,aH];exact h.size) (by show(st.put (some t) Qy).boxes.length=(st.put (some t) Qy).slots.length;rw[kR,fK,aH];exact h.bsize) h.frame ?_ (λb y hy hb=>⟨XA b y hb (Ni b y hy hb),rfl,rfl⟩) ?_ ?_ ?_ (.inl ⟨by simp,LI⟩);intro b y hy;have RJ:(if b∈f2 then some (je.hand 0) else g.dK b)=some y:=hy;by_cases hm:b∈f2;exact h.fB b _ (hl b (by simp[hm]));rw[aF hm]at RJ;exact h.fB b y RJ;intro j bv hj;have hj':(st.slots.set t Qy)[j]?=some bv:=by rw[<-fK];exact hj
  by_cases hjt:j=t;subst hjt;rw[bl]at hj';simp only[bL,htl]at hj';simp at hj';subst hj';refine .inr ⟨f1++f3,⟨ws,hv,?_⟩,?_,?_⟩;rw[eV];obtain⟨us,eh,dD⟩:=RG;refine DT _ hle (λb _=>⟨rfl,rfl⟩) _ ⟨us,eh,?_⟩;exact(dD.Z9).mono hle (by simp);refine aB.2 ⟨n1.1,n2.2.1,?_⟩;rintro b hb c hc rfl;exact n1.2.2 b hb b (ba _ hc) rfl;intro b hb;refine XA b _ (hl b (by rcases az.1 hb with k|k<;>simp[k])) (λhm=>?_);rcases az.1 hb with k|k;exact n1.2.2 b k b (bk _ hm) rfl;exact n2.2.2 b hm b k rfl;rw[aO (cJ hjt)]at hj';exact .inl ⟨by simpa using hjt,hj',rfl⟩;intro s nd hb;have gL:st.boxes[s]?=some (some nd):=by rw[<-kR (d:=some t) (v:=Qy)];exact hb
  exact .inl ⟨by simp,gL,rfl⟩;intro k u bv Ha;cases k with
  |zero=>simp only[cq,aZ,Prod.mk.injEq]at Ha;obtain⟨rfl,rfl⟩:=Ha;obtain⟨us,eh,dD⟩:=RG;refine .inr ⟨f2,⟨us,eh,dD.mono hle (λb _=>⟨rfl,rfl⟩)⟩,n2.1,λb hb=>?_⟩;show(if b∈f2 then _ else _)=_;rw[aG hb]
  |succ k=>simp at Ha
 exact⟨v,w,_,.inl dJ,dx.FC aiz o.dst,hk⟩;cases hk;cases hk
def kI (hw:Nat->Nat)(w:World)(e:CT)(news:ie)(ys:aq e.D)(fps:aq dX):Prop:=
 news.length=ys.length*e.size/\fps.length=ys.length/\∀(i:Nat)(y:e.D)(f:dX),ys[i]?=some y->fps[i]?=some f->ez hw w e ((news.drop (i*e.size)).take e.size) y f
theorem kI.append {w:World}{n1 n2:ie}{xs ys:aq e.D}{f1 f2:aq dX}(h1:kI hw w e n1 xs f1)(h2:kI hw w e n2 ys f2): kI hw w e (n1++n2) (xs++ys) (f1++f2):=by
 obtain⟨a1,a2,a3⟩:=h1;obtain⟨b1,b2,b3⟩:=h2;refine⟨by rw[aw,aw,a1,b1,cn],by simp[a2,b2],λi y f hy hf=>?_⟩;by_cases hi:i<xs.length;rw[bw hi]at hy;rw[bw (by omega)]at hf;have hm:(i+1)*e.size<=xs.length*e.size:=bZ _ hi;rw[cn,dQ]at hm;have:=a3 i y f hy hf;have e1:((n1++n2).drop (i*e.size)).take e.size=(n1.drop (i*e.size)).take e.size:=by rw[List.drop_append_of_le_length (by omega),List.take_append_of_le_length (by rw[bj];omega)]
 rw[e1];exact this;rw[bq (by omega)]at hy;rw[bq (by omega),a2]at hf;have:=b3 _ y f hy hf;have BM:xs.length*e.size<=i*e.size:=bZ _ (by omega);have e1:(n1++n2).drop (i*e.size)=n2.drop ((i-xs.length)*e.size):=by rw[List.drop_append,cS (by omega),bU,a1,Nat.sub_mul]
 rw[e1];exact this
theorem kI.mono {hw':Nat->Nat}{w w':World}{ys:aq e.D}(h:kI hw w e news ys fps)(hk:∀b∈fps.flatten,w'.heap[b]?=w.heap[b]?/\hw' b=hw b):kI hw' w' e news ys fps:=⟨h.1,h.2.1,λi y f hy hf=>ez.mono (h.2.2 i y f hy hf) λb hb=>hk b (List.mem_flatten.2 ⟨f,cU hf,hb⟩)⟩
theorem kI.nil (hw:Nat->Nat)(w:World)(e:CT):kI hw w e [] [] []:=⟨by simp,rfl,by simp⟩
theorem kI.np {w:World}{ys:aq e.D}(h:kI hw w e news ys fps):∀v∈news,v.oneCell'=true:=by
 intro v hv;obtain⟨j,hj,hjv⟩:=List.mem_iff_getElem.1 hv;have abC:=e.size_pos;have hi:j/e.size<ys.length:=by rw[Nat.div_lt_iff_lt_mul abC];rw[<-h.1];exact hj
 have eR:=h.2.2 (j/e.size) _ _ (al hi) (al (by rw[h.2.1];exact hi));refine ez.np eR v ?_;rw[List.mem_iff_getElem?];refine⟨j%e.size,?_⟩;rw[jl,aG (Nat.mod_lt _ abC),Nat.mul_comm,Nat.div_add_mod,al hj,hjv]
theorem Zk {w:World}{b o0:Nat}{xs:aq e.D}(hb:w.heap[b]?=some (.cells arr T fr))(qV:qe arr fr)(hs:arr.size=o0+cap*e.size)(hc:xs.length<=cap)(hh:hw b=o0+xs.length*e.size)(G8:kI hw w e ((arr.toList.drop o0).take (xs.length*e.size)) xs fps): ez hw w (.sl e) [.slice (some ⟨b,o0,none⟩) xs.length cap] xs (b::fps.flatten):=by
 refine⟨_,rfl,.inr ⟨b,o0,cap,arr,T,fr,fps,rfl,hb,qV,hs,hc,hh,rfl,G8.2.1,λi x f hx hf=>?_⟩⟩;have:=G8.2.2 i x f hx hf;have hi:i<xs.length:=(aD.1 hx).1;have hm:(i+1)*e.size<=xs.length*e.size:=bZ _ hi;rw[cn,dQ]at hm;have e1:(((arr.toList.drop o0).take (xs.length*e.size)).drop (i*e.size)).take e.size=(arr.toList.drop (o0+i*e.size)).take e.size:=by apply cM;intro j;rw[jl,jl,jl];by_cases hj:j<e.size;rw[aG hj,aG hj,zip,fF];rw[aF hj,aF hj]
 rw[e1]at this;exact this
theorem L2 {w:World}{o0:Nat}{xs:aq e.D}(hs:arr.size=o0+cap*e.size)(hc:xs.length<=cap)(hl:fps.length=xs.length)(h:∀(i:Nat)(x:e.D)(f:dX),xs[i]?=some x->fps[i]?=some f->ez hw w e ((arr.toList.drop (o0+i*e.size)).take e.size) x f):kI hw w e ((arr.toList.drop o0).take (xs.length*e.size)) xs fps:=by
 refine⟨?_,hl,λi x f hx hf=>?_⟩;have hal:(arr.toList.drop o0).length=cap*e.size:=by rw[bj,Array.length_toList,hs];omega
 rw[bm,hal];exact iW (bZ _ hc);have hi:i<xs.length:=(aD.1 hx).1;have hm:(i+1)*e.size<=xs.length*e.size:=bZ _ hi;rw[cn,dQ]at hm;have e1:(((arr.toList.drop o0).take (xs.length*e.size)).drop (i*e.size)).take e.size=(arr.toList.drop (o0+i*e.size)).take e.size:=by apply cM;intro j;rw[jl,jl,jl];by_cases hj:j<e.size;rw[aG hj,aG hj,zip,fF];rw[aF hj,aF hj]
 rw[e1];exact h i x f hx hf
theorem OB {w w':World}{S:Nat->Nat->Prop}:∀{e:CT}{vs:ie}{x:e.D},jf w' S e vs x->e.flat=true->ez hw w e vs x []
 | .int _,_,_,h,_=>⟨h,rfl⟩
 | .bool,_,_,h,_=>⟨h,rfl⟩
 | .str,_,_,h,_=>⟨h,rfl⟩
 | .sl _,_,_,_,hf=>by cases hf
 | .pair a b,_,_,h,hf=>by obtain⟨v1,v2,rfl,h1,h2⟩:=h;simp only[CT.flat,ah]at hf;exact⟨v1,v2,[],[],rfl,rfl,OB h1 hf.1,OB h2 hf.2⟩
def OM (hdr:Nat->Value)(t:au Nat)(v:Value):Nat->Value:=λu=>if t=some u then v else hdr u
theorem Ys {hdr:Nat->Value}{d:au Nat}{v:Value}{t:Nat}(h:lL st t):OM hdr (st.il d 0) v t=hdr t:=by unfold OM;rw[aF];intro e;exact(pU e).1 h
theorem dx.PA (h:dx C g st a w hs)(d:au Nat){xs:aq e.D}{v:Value}{fp:dX}{w':World}{hw':Nat->Nat}(gP:Fr (λb=>cY (g.dK b)) w w')(Ca:∀b x,g.dK b=some x->¬cY (some x)->hw' b=g.hw b)(Kc:∀b o u,o<g.hw b->w.cell? ⟨b,o,none⟩=some u->o<hw' b/\w'.cell? ⟨b,o,none⟩=some u)(eR:ez hw' w' (.sl e) [v] xs fp)(hn:fp.Nodup)(C1:∀b∈fp,b<w'.heap.size/\(cY (g.dK b)\/w.heap.size<=b)): nv C (st.qb d e xs) (a.put d v) w':=by refine h.Pz d (st1:=st.fw d) (hdr':=OM g.hdr (st.il d 0) v) Kz vN C6 BX (λt ht=>⟨Fg ht,Ys ht⟩) gP Ca Kc (mO ⟨eR,λt ht=>?_⟩) hn C1;refine⟨(pU ht).2.1,?_⟩;show v=OM g.hdr (st.il d 0) v t;unfold OM;rw[aG ht]
theorem dx.Pn (h:dx C g st a w hs)(d:au Nat){xs:aq e.D}{w':World}(hw:w'=w.alloc (.cells arr T fr)\/w'=w.drew.alloc (.cells arr T fr))(qV:qe arr fr)(hs0:arr.size=cap*e.size)(hc:xs.length<=cap)(G8:kI g.hw w e (arr.toList.take (xs.length*e.size)) xs fps)(hn:fps.flatten.Nodup)(C1:∀b∈fps.flatten,cY (g.dK b)): nv C (st.qb d e xs) (a.put d (.slice (some ⟨w.heap.size,0,none⟩) xs.length cap)) w':=by
 have gP:Fr (λb=>cY (g.dK b)) w w':=by rcases hw with rfl|rfl;exact Fr.alloc _ _ _;exact(Fr.drew _ w).trans (Fr.alloc _ _ _) (λb _ hh=>hh)
 have VF:w'.heap[w.heap.size]?=some (.cells arr T fr):=by rcases hw with rfl|rfl;exact heap_alloc_new w _;exact heap_alloc_new w.drew _
 have tw:w'.heap.size=w.heap.size+1:=by rcases hw with rfl|rfl<;>simp
 have hold:∀b,b<w.heap.size->w'.heap[b]?=w.heap[b]?:=by intro b hb;rcases hw with rfl|rfl;exact heap_alloc_old w _ b hb;exact heap_alloc_old w.drew _ b hb
 have gV:∀b∈fps.flatten,b<w.heap.size:=by intro b hb;have hh:=C1 b hb;cases hx:g.dK b with|none=>rw[hx]at hh;cases hh|some x=>exact(h.fB b x hx).1
 let hw':Nat->Nat:=λb=>if b=w.heap.size then xs.length*e.size else g.hw b
 have eR:ez hw' w' (.sl e) [.slice (some ⟨w.heap.size,0,none⟩) xs.length cap] xs (w.heap.size::fps.flatten):=by refine Zk (o0:=0) VF qV (by rw[cm];exact hs0) hc (by simp[hw']) (G8.mono λb hb=>?_);have gL:=gV b hb;exact⟨hold b gL,by simp[hw',gW gL]⟩
 refine h.PA d (hw':=hw') (fp:=w.heap.size::fps.flatten) gP ?_ ?_ eR ?_ ?_;intro b x hx _;simp[hw',gW (h.fB b x hx).1];intro b o u ho hu;have hb:b<w.heap.size:=World.block_lt_of_cell? w _ hu;exact⟨by simp[hw',gW hb];exact ho,by rw[World.cell?_of_block (a:=⟨b,o,none⟩) (hold b hb)];exact hu⟩;exact cQ.2 ⟨λhm=>nz _ (gV _ hm),hn⟩;intro b hb;rcases cv.1 hb with rfl|hb;exact⟨by omega,.inr (aR _)⟩;exact⟨by have:=gV b hb;omega,.inl (C1 b hb)⟩
theorem ae4 {z:Array Value}{c size i:Nat}(hz:z.size=size)(hi:i<c):((madeCells z (c*size)).toList.drop (i*size)).take size=z.toList:=by
 have hm:(i+1)*size<=c*size:=bZ _ hi;rw[cn,dQ]at hm;apply cM;intro j;rw[jl];by_cases hj:j<size;rw[aG hj,madeCells];have h1:i*size+j<c*size:=by omega
 simp only[Array.toList_map,Array.toList_range,List.getElem?_map,List.getElem?_range h1,dg];have aip:(i*size+j)%z.size=j:=by rw[hz,Nat.mul_comm,Nat.mul_add_mod,Nat.mod_eq_of_lt hj]
 rw[aip];simp[getElem!_pos,hz,hj];rw[aF hj,bH];simp[hz];omega
theorem Pd {E:Env}(hE:js P E.ty){o:Oper}{n c:Operand}(ho:o.op=.makeSlice T n c)(h:nv C st a w){K:AS->au R}(hk:oP E o T n c st K=some r):nb P C o a w K r:=by
 obtain⟨g,hg⟩:=id h;have hnv:=hg.rd n;have hcv:=hg.rd c;unfold oP at hk;split at hk;rename_i e len cap hT hn hc;rw[hn]at hnv;rw[hc]at hcv;split at hk;rename_i hlc;unfold room at hk;split at hk;rename_i IL;obtain⟨te,hu,⟨inf,z,Em,tw,hby,hz,hzc⟩,_⟩:=HC hE hT;have Iz:cap<=1073741824:=by omega
 have aia:(inf.bytes:Int)*cap<=281474976710656:=by have h1:(inf.bytes:Int)*cap<=65536*cap:=Int.mul_le_mul_of_nonneg_right (by omega) (by omega);omega
 have dJ:=run_make (P:=P) w T te inf z hu Em hz .i64 .i64 len cap hlc.1 hlc.2 aia (by omega);have IP:(execOp a.eval o).run P w=.ok (.value (.slice (some ⟨w.heap.size,0,none⟩) len.toNat cap.toNat)) (w.alloc (.cells (madeCells z.cells (cap.toNat*inf.size)) te)):=by simp only[execOp,ho,iT hnv,iT hcv];show((Instr.makeSlice T (.int .i64 len) (.int .i64 cap))>>=λv=>pure (Next.value v)).run P w=_;rw[Sem.run_bind,dJ];rfl
 have hzs:z.cells.size=e.size:=by rw[<-pJ e,<-hzc];simp
 have hlen:(List.replicate len.toNat e.zero).length=len.toNat:=by simp
 have G8:kI g.hw w e ((madeCells z.cells (cap.toNat*inf.size)).toList.take ((List.replicate len.toNat e.zero).length*e.size)) (List.replicate len.toNat e.zero) (List.replicate len.toNat []):=by
  refine L2 (o0:=0) (cap:=cap.toNat) (by rw[size_madeCells,tw,cm]) (by rw[hlen];omega) (by simp) (λi x f hx hf=>?_);have hi:i<len.toNat:=by have:=(aD.1 hx).1;simpa using this
  rw[dk,aG hi]at hx hf;simp at hx hf;subst hx;subst hf;rw[tw,cm,ae4 hzs (by omega),hzc];exact HP _ _ _
 refine⟨_,_,_,.inl IP,?_,hk⟩;have:=hg.Pn o.dst (T:=te) (fr:=(0,0)) (cap:=cap.toNat) (.inl rfl) (by intro j _;simp) (by rw[size_madeCells,tw]) (by rw[hlen];omega) G8 (by simp) (by simp);rw[hlen]at this;exact this;cases hk;cases hk;cases hk
theorem N8 {lo hi:au Operand}(hg:dx C g st a w []){n:Nat}(Iz:n<=cap){K:Int->Int->au R}(hk:ng st lo hi n K=some r)(isS:Bool): ∃x y:Int,K x y=some r/\(0<=x->x<=y->y<=n->(Instr.sliceBounds isS n cap (lo.map a.eval) (hi.map a.eval) none).run P w=.ok (x.toNat,y.toNat,cap) w):=by
 unfold ng at hk;split at hk;rename_i h1 h2;have e1:lo=none:=by cases lo<;>simp at h1⊢
 have e2:hi=none:=by cases hi<;>simp at h2⊢
 subst e1;subst e2;exact⟨0,n,hk,λ_ _ _=>by simp[Instr.sliceBounds]⟩;rename_i k p h1 h2;have e2:hi=none:=by cases hi<;>simp at h2⊢
 subst e2;cases lo with|none=>simp at h1|some lo=>simp at h1;have hv:=hg.rd lo;rw[h1]at hv;refine⟨p,n,hk,λq1 q2 q3=>?_⟩;simp[Instr.sliceBounds,Instr.sliceBound,asIntOf,iT hv,q1,q2]
 rename_i k p h1 h2;have e1:lo=none:=by cases lo<;>simp at h1⊢
 subst e1;cases hi with|none=>simp at h2|some hi=>simp at h2;have hv:=hg.rd hi;rw[h2]at hv;refine⟨0,p,hk,λq1 q2 q3=>?_⟩;simp[Instr.sliceBounds,Instr.sliceBound,asIntOf,iT hv,show 0<=p by omega,show p<=(cap:Int) by omega]
 rename_i k p k' q h1 h2;cases lo with|none=>simp at h1|some lo=>cases hi with|none=>simp at h2|some hi=>simp at h1 h2;have hv:=hg.rd lo;have Tx:=hg.rd hi;rw[h1]at hv;rw[h2]at Tx;refine⟨p,q,hk,λq1 q2 q3=>?_⟩;simp[Instr.sliceBounds,Instr.sliceBound,asIntOf,iT hv,iT Tx,q1,show 0<=q by omega,show q<=(cap:Int) by omega];intro gV;omega
 cases hk
theorem extract_mk (s:aq UInt8)(x y:Nat):(ByteArray.mk s.toArray).extract x y=ByteArray.mk ((s.take y).drop x).toArray:=by apply ByteArray.ext;rw[ByteArray.data_extract];simp[List.extract_eq_take_drop,List.drop_take]
theorem P3 {α:Type}{xs ys:aq α}{x y:Int}(h:sub xs x y=some ys):0<=x/\x<=y/\y<=(xs.length:Int)/\ys=(xs.take y.toNat).drop x.toNat:=by unfold sub at h;split at h;rename_i hc;simp at h;exact⟨hc.1,hc.2.1,hc.2.2,h.symm⟩;cases h
theorem aaJ {w:World}{S:Nat->Nat->Prop}{v:Value}{xs:aq e.D}(h:jf w S (.sl e) [v] xs){x y:Nat}(hxy:x<=y)(hy:y<=xs.length): ∃bo cap,v=.slice bo xs.length cap/\xs.length<=cap/\jf w S (.sl e) [.slice (if cap=x then bo else bo.map (·.add (x*e.size))) (y-x) (cap-x)] ((xs.take y).drop x):=by
 obtain⟨u,hu,h⟩:=h;simp at hu;subst hu;rcases h with⟨⟨ad,rfl⟩,rfl⟩|⟨b,o,cap,rfl,hc,h⟩;simp at hy;subst hy;have hx:x=0:=by omega
 subst hx;exact⟨ad,0,rfl,by simp,⟨_,rfl,.inl ⟨⟨ad,by simp⟩,by simp⟩⟩⟩;have hl:((xs.take y).drop x).length=y-x:=by simp;omega
 refine⟨some ⟨b,o,none⟩,cap,rfl,hc,⟨_,rfl,.inr ?_⟩⟩;by_cases hcx:cap=x;refine⟨b,o,cap-x,by rw[aG hcx,hl],by rw[hl];omega,λi z hz=>?_⟩;have:((xs.take y).drop x)=[]:=cz (by rw[hl];omega);rw[this]at hz;simp at hz;refine⟨b,o+x*e.size,cap-x,by rw[aF hcx,hl];simp[ny],by rw[hl];omega,λi z hz=>?_⟩;have hz':xs[x+i]?=some z:=by rw[bJ,cW]at hz;split at hz;exact hz;cases hz
 obtain⟨cs,LA,hr⟩:=h (x+i) z hz';refine⟨cs,?_,hr⟩;have:o+x*e.size+i*e.size=o+(x+i)*e.size:=by rw[cn];omega
 rw[this];exact LA
theorem afn {w:World}{v:Value}{xs:aq e.D}{fp:dX}(h:ez hw w (.sl e) [v] xs fp){n:Nat}(hn:n<=xs.length): ∃bo cap,v=.slice bo xs.length cap/\xs.length<=cap/\∃iw,ez hw w (.sl e) [.slice (if cap=n then bo else bo.map (·.add (n*e.size))) (xs.length-n) (cap-n)] (xs.drop n) iw/\(∀b∈iw,b∈fp)/\(fp.Nodup->iw.Nodup):=by
 obtain⟨u,hu,h⟩:=h;simp at hu;subst hu;rcases h with⟨⟨ad,rfl⟩,rfl,rfl⟩|⟨b,o0,cap,arr,T,fr,fps,rfl,hb,qV,hs,hc,hh,rfl,hl,hr⟩;simp at hn;subst hn;exact⟨ad,0,rfl,by simp,[],⟨_,rfl,.inl ⟨⟨ad,by simp⟩,rfl,rfl⟩⟩,by simp,by simp⟩;refine⟨some ⟨b,o0,none⟩,cap,rfl,hc,?_⟩;by_cases hcn:cap=n;have hx:xs.drop n=[]:=cS (by omega);refine⟨[],⟨_,rfl,.inl ⟨⟨some ⟨b,o0,none⟩,by rw[aG hcn,show xs.length-n=0 by omega,show cap-n=0 by omega]⟩,hx,rfl⟩⟩,by simp,by simp⟩;have hm1:cap*e.size=n*e.size+(cap-n)*e.size:=by rw[<-cn];congr 1;omega
 have hm2:xs.length*e.size=n*e.size+(xs.length-n)*e.size:=by rw[<-cn];congr 1;omega
 refine⟨b::(fps.drop n).flatten,⟨_,rfl,.inr ⟨b,o0+n*e.size,cap-n,arr,T,fr,fps.drop n,by rw[aF hcn];simp[ny],hb,qV,by omega,by simp;omega,by simp;omega,rfl,by simp[hl],λi x f hx hf=>?_⟩⟩,?_,?_⟩;rw[bJ]at hx hf;have:=hr (n+i) x f hx hf;rwa[cn,<-fF]at this;intro c D9;rcases cv.1 D9 with rfl|D9;simp;obtain⟨l,hl1,AA⟩:=List.mem_flatten.1 D9;exact ee _ (List.mem_flatten.2 ⟨l,List.mem_of_mem_drop hl1,AA⟩);intro E3;have h1:=cQ.1 E3;have e1:fps.flatten=(fps.take n).flatten++(fps.drop n).flatten:=by rw[<-dN,cp]
 rw[e1]at h1;exact cQ.2 ⟨λhm=>h1.1 (by simp[hm]),(aB.1 h1.2).2.1⟩
theorem acJ {an:An}{o:Oper}{ep:Nat}{pv:au (kv×Nat)}{p:Int}:Pq an o (.loc ep pv) p=.loc ep none\/∃rt t,pv=some (rt,t)/\Pq an o (.loc ep pv) p=.part ep rt t p:=by
 unfold Pq;split;rename_i ep' r t d h _;cases h;cases an.nest.contains d with|false=>exact .inl rfl|true=>exact .inr ⟨_,_,rfl,rfl⟩
 exact .inl rfl
theorem PM {E:Env}(hE:js P E.ty){o:Oper}{lo hi:au Operand}(ho:o.op=.slice T x lo hi none)(h:nv C st a w){K:AS->au R}(hk:yr E o T x lo hi st K=some r):nb P C o a w K r:=by
 obtain⟨g,hg⟩:=h;unfold yr at hk;split at hk;rename_i tag e xs st' kd p tF hlo;split at hk;rename_i hT;cases lo with
 |none=>simp at hlo
 |some lo=>
  simp at hlo;have hlv:=hg.rd lo;rw[hlo]at hlv;obtain⟨te,hu,⟨inf,z,Em,tw,_⟩,_⟩:=HC hE hT;obtain⟨g',na⟩:=hg.take x;rw[tF]at na;simp only[bU]at na;cases qa:sub xs p xs.length with
  |none=>rw[qa]at hk;cases hk
  |some Qw=>
   rw[qa]at hk;simp only[aa]at hk;obtain⟨h1,h2,_,rfl⟩:=P3 qa;obtain⟨fp,dD,E3,hl⟩:=na.hands 0 _ _ rfl;have eR:=(dU dD).1;obtain⟨bo,cap,hv,Iz,iw,En,ajA,Tq⟩:=afn eR (n:=p.toNat) (by omega);have dJ:(execOp a.eval o).run P w=.ok (.value (.slice (if cap=p.toNat then bo else bo.map (·.add (p.toNat*e.size))) (xs.length-p.toNat) (cap-p.toNat))) w:=by
    have hb:(Instr.sliceBounds true xs.length cap (some (a.eval lo)) none none).run P w=.ok (p.toNat,xs.length,cap) w:=by have hp2:p<=(xs.length:Int):=h2;simp[Instr.sliceBounds,Instr.sliceBound,asIntOf,iT hlv,h1,hp2]
    simp only[execOp,ho,hv,Instr.sliceAt,Instr.slice,underlying,Option.map_none,dg,Sem.run_bind,run_program,hu,Result.andThen_ok,Sem.run_pure,hb,sizeOf,typeInfo,Em,tw]
   have AR:(xs.take ((xs.length:Int).toNat)).drop p.toNat=xs.drop p.toNat:=by rw[ay,cD]
   rw[AR]at hk;refine⟨_,_,_,.inl dJ,?_,hk⟩;refine na.PA o.dst (hw':=g'.hw) (fp:=iw) (Fr.refl _ _) (λ_ _ _ _=>rfl) (λ_ _ _ ho hu=>⟨ho,hu⟩) En (Tq E3) (λb hb=>?_);have:=hl b (ajA b hb);exact⟨(na.fB b _ this).1,.inl (by rw[this];rfl)⟩
 cases hk;cases hk
theorem Zx {E:Env}(hE:js P E.ty){an:An}{o:Oper}{lo hi:au Operand}(ho:o.op=.slice T x lo hi none)(h:nv C st a w){K:AS->au R}(hk:CQ E an o T x lo hi st K=some r):nb P C o a w K r:=by
 obtain⟨g,hg⟩:=id h;have vT:=hg.fresh (hg.rd x);unfold CQ at hk;split at hk;exact PM hE ho h hk;split at hk;rename_i s hx;rw[hx]at vT;split at hk;rename_i hT;have hu:=Uv hE hT;have hv:=(dU vT).1;obtain⟨p,q,To,dJ⟩:=N8 (P:=P) (w:=w) hg (aR s.length) hk false;cases qa:sub s p q with|none=>rw[qa]at To;cases To|some s'=>rw[qa]at To;simp only[aa]at To;obtain⟨h1,h2,h3,rfl⟩:=P3 qa;have hb:=dJ h1 h2 h3;refine wa h _ _ ?_ (NN _) To;simp only[execOp,ho,hv,Instr.sliceAt,Instr.slice,underlying,Option.map_none,Sem.run_bind,run_program,hu,Result.andThen_ok,Sem.run_pure,zj,hb,Option.isSome_none,aY,cc,extract_mk]
 cases hk;rename_i fl e xs hx;rw[hx]at vT;split at hk;rename_i hT;obtain⟨hT,ph⟩:=hT;obtain⟨te,hu,⟨inf,z,Em,tw,_⟩,_⟩:=HC hE hT;have hc:=dU vT
 have key:∀(S:Nat->Nat->Prop),jf w S (.sl e) [a.eval x] xs->(∀(p q:Int)(bo:au Addr)(cap:Nat),0<=p->p<=q->q<=xs.length->xs.length<=cap->a.eval x=.slice bo xs.length cap->
  jf w S (.sl e) [.slice (if cap=p.toNat then bo else bo.map (·.add (p.toNat*e.size))) (q.toNat-p.toNat) (cap-p.toNat)] ((xs.take q.toNat).drop p.toNat)->
  gM (cy C g st w) (.slice (if cap=p.toNat then bo else bo.map (·.add (p.toNat*e.size))) (q.toNat-p.toNat) (cap-p.toNat)) (.sl (Pq an o fl p) e ((xs.take q.toNat).drop p.toNat)) [])->nb P C o a w K r:=by
  intro S Ke hmk
  have Iz:∃bo cap,a.eval x=.slice bo xs.length cap/\xs.length<=cap:=by obtain⟨bo,cap,hv,hc,_⟩:=aaJ Ke (x:=0) (y:=0) (aR _) (dR _);exact⟨bo,cap,hv,hc⟩
  obtain⟨bo,cap,hv,Iz⟩:=Iz
  obtain⟨p,q,To,dJ⟩:=N8 (P:=P) (w:=w) hg Iz hk true
  cases qa:sub xs p q with
  |none=>rw[qa]at To;cases To
  |some Qw=>
   rw[qa]at To
   simp only[aa]at To
   obtain⟨h1,h2,h3,rfl⟩:=P3 qa
   have hb:=dJ h1 h2 h3
   obtain⟨bo',aq3,Tx,_,aez⟩:=aaJ Ke (x:=p.toNat) (y:=q.toNat) (by omega) (by omega)
   rw[hv]at Tx
   simp only[Value.slice.injEq,true_and]at Tx
   obtain⟨rfl,rfl⟩:=Tx
   refine⟨.slice (if cap=p.toNat then bo else bo.map (·.add (p.toNat*e.size))) (q.toNat-p.toNat) (cap-p.toNat),w,_,.inl ?_,⟨g,hg.quiet o.dst (mO (hmk p q _ _ h1 h2 h3 Iz hv aez))⟩,To⟩
   simp only[execOp,ho,hv,Instr.sliceAt,Instr.slice,underlying,Option.map_none,Sem.run_bind,run_program,hu,Result.andThen_ok,Sem.run_pure,hb,sizeOf,typeInfo,Em,tw]
 cases fl with
 |own t=>cases ph
 |nest _ _ _ _ _ _=>cases ph
 |part _ _ _ _=>cases ph
 |fe _ _ _=>cases ph
 |arg _=>exact key _ hc.2 (λp q bo cap _ _ _ _ _ hr=>by simp only[Pq,qL.bare];exact⟨rfl,hr⟩)
 |loc ep pv=>
  have xY:ep=st.ep:=by simpa[qL.live]using ph
  refine key _ (hc.2.2.2.1 xY) (λp q bo cap hp hpq hq Iz hv hr=>?_);have hlen:((xs.take q.toNat).drop p.toNat).length=q.toNat-p.toNat:=by simp;omega
  have plain:gM (cy C g st w) (.slice (if cap=p.toNat then bo else bo.map (·.add (p.toNat*e.size))) (q.toNat-p.toNat) (cap-p.toNat)) (.sl (.loc ep none) e ((xs.take q.toNat).drop p.toNat)) []:=⟨rfl,hc.2.1,⟨_,_,_,rfl,hlen.symm⟩,λ_=>hr,by simp⟩
  rcases acJ (an:=an) (o:=o) (ep:=ep) (pv:=pv) (p:=p)with hpf|⟨rt,t,rfl,hpf⟩;rw[hpf];exact plain;rw[hpf];refine⟨rfl,hc.2.1,⟨_,_,_,rfl,hlen.symm⟩,λ_=>?_⟩;have IM:=hc.2.2.2.2 rt t rfl;refine⟨IM.1,?_⟩;by_cases hz:q.toNat-p.toNat=0;exact .inl (cz (by rw[hlen];exact hz));right;obtain⟨u,hu,Ke⟩:=hc.2.2.2.1 xY;simp at hu;rcases Ke with⟨_,rfl⟩|⟨b,o0,U6,MB,Yn,_⟩;simp at hlen;omega;rw[<-hu,hv]at MB;simp only[Value.slice.injEq,true_and]at MB;obtain⟨rfl,rfl⟩:=MB;refine⟨p.toNat,b,o0,xs.length,cap,cap-p.toNat,by omega,by rw[<-IM.2,hv],by rw[hlen];omega,?_⟩;rw[mI,hlen];simp[ny]
 cases hk;cases hk
theorem U5 {E:Env}(hE:js P E.ty)(h:E.bytes T=true):∃te,P.underlying T=some (.slice te)/\P.underlying te=some (.int .u8):=by unfold Env.bytes at h;split at h;rename_i te n hT;split at h;rename_i jZ hte;obtain⟨te',hu,_,ho⟩:=(hE T _ hT).sl _ rfl rfl;have:=ho te n rfl;subst this;exact⟨te,hu,(hE te _ hte).int _ rfl rfl⟩;cases h;cases h
theorem acP {w:World}{S:Nat->Nat->Prop}{v:Value}{xs:ew}(h:jf w S (.sl (.int .u8)) [v] xs): ((∃a,v=.slice a 0 0)/\xs=[])\/∃b o cap,v=.slice (some ⟨b,o,none⟩) xs.length cap/\∀i,i<xs.length->w.cell? ⟨b,o+i,none⟩=some (.int .u8 (xs.getD i 0)):=by obtain⟨u,hu,h⟩:=h;simp at hu;subst hu;rcases h with h|⟨b,o,cap,hv,_,h⟩;exact .inl h;refine .inr ⟨b,o,cap,hv,λi hi=>?_⟩;obtain⟨cs,LA,hr⟩:=h i xs[i] (al hi);have hr':cs=[.int .u8 xs[i]]:=hr;subst hr';have:=(LA 0 _ rfl).2;simp only[CT.size,nA,dM]at this;rw[this];simp[List.getD,al hi]
theorem S4 {E:Env}(hE:js P E.ty){o:Oper}{src dst:TypeId}(ho:o.op=.convert src dst x)(h:nv C st a w){K:AS->au R}(hk:mc E o src dst x st K=some r):nb P C o a w K r:=by
 obtain⟨g,hg⟩:=id h;have vT:=hg.rd x;have fin:∀v w',(convert src dst (a.eval x)).run P w=.ok v w'->(execOp a.eval o).run P w=.ok (.value v) w':=by intro v w' hr;simp only[execOp,ho];show(convert src dst (a.eval x)>>=λv=>pure (Next.value v)).run P w=_;rw[Sem.run_bind,hr];rfl
 have under:∀(T:TypeId)(sh:Shape),iV E.ty T=some sh->∃d,P.underlying T=some d:=by
  intro T sh hT;have ku:=hE T sh hT;cases NG:sh.agg with
  |true=>obtain⟨fs,hu,_⟩:=ku.agg NG;exact⟨_,hu⟩
  |false=>
   cases Mw:sh.ct with
   |int k=>exact⟨_,ku.int k Mw NG⟩
   |bool=>exact⟨_,ku.bool Mw NG⟩
   |str=>exact⟨_,ku.str Mw NG⟩
   |sl e=>obtain⟨te,hu,_⟩:=ku.sl e Mw NG;exact⟨_,hu⟩
   |pair p q=>have:=ku.pair p q Mw;rw[NG]at this;cases this
 unfold mc at hk;split at hk;rename_i ssh k jZ k' n hs hd hx;rw[hx]at vT;obtain⟨ds,QJ⟩:=under _ _ hs;have hud:=(hE dst _ hd).int k rfl rfl;refine wa h _ _ (fin (.int k (k.wrap n)) w ?_) (kE _ _) hk;rw[iT vT];simp only[convert,underlying,Sem.run_bind,run_program,QJ,hud,Result.andThen_ok,Sem.run_pure];rfl;rename_i jZ aq1 s hs hd hx;rw[hx]at vT;have QJ:=(hE src _ hs).str rfl rfl;have hud:=(hE dst _ hd).str rfl rfl;refine wa h _ _ (fin (.string ⟨s.toArray⟩) w ?_) (NN _) hk;rw[(dU vT).1];simp only[convert,underlying,Sem.run_bind,run_program,QJ,hud,Result.andThen_ok,Sem.run_pure];rename_i jZ sh s Ni hs hd hx;rw[hx]at vT;split at hk;rename_i hb;unfold room at hk;split at hk;obtain⟨te,hu,hte⟩:=U5 hE hb;have QJ:=(hE src _ hs).str rfl rfl;have dJ:=run_bytes_of_string (P:=P) w src dst te ⟨s.toArray⟩ QJ hu hte;rw[<-(dU vT).1,zj]at dJ;refine⟨_,_,_,.inl (fin _ _ dJ),?_,hk⟩;have BM:=grownCap_ge w s.length 0 te;have tw:(bytesRow ⟨s.toArray⟩ (grownCap w s.length 0 te)).size=grownCap w s.length 0 te*CT.size (.int .u8):=by simp only[bytesRow,Array.size_append,Array.size_map,Array.size_replicate,zj,CT.size];simp;omega
 have tF:(bytesRow ⟨s.toArray⟩ (grownCap w s.length 0 te)).toList.take ((dp s).length*CT.size (.int .u8))=(dp s).map (Value.int .u8):=by simp only[bytesRow,dp,CT.size,Array.toList_append,Array.toList_map];rw[List.take_append_of_le_length (by simp)];rw[bB (by simp)];simp
 have G8:kI g.hw w (.int .u8) ((bytesRow ⟨s.toArray⟩ (grownCap w s.length 0 te)).toList.take ((dp s).length*CT.size (.int .u8))) (dp s) (List.replicate s.length []):=by
  rw[tF];refine⟨by simp[CT.size],by simp[dp],λi y f hy hf=>?_⟩;have hi:i<(dp s).length:=(aD.1 hy).1;have hf':f=[]:=by rw[dk]at hf;split at hf<;>simp at hf;exact hf
  subst hf';refine⟨?_,rfl⟩;apply cM;intro j;rw[jl];simp only[CT.size,nA];cases j with|zero=>simp[hy]|succ j=>simp
 have hlen:(dp s).length=s.length:=by simp[dp]
 have:=hg.Pn o.dst (T:=te) (fr:=((bytesRow ⟨s.toArray⟩ (grownCap w s.length 0 te)).size,(bytesRow ⟨s.toArray⟩ (grownCap w s.length 0 te)).size+1)) (cap:=grownCap w s.length 0 te) (.inr rfl) (by intro j hj hc;simp only at hc;omega) tw (by rw[hlen];exact BM) G8 (by simp) (by simp);rw[hlen]at this;exact this;cases hk;cases hk;rename_i ssh jZ fl xs hs hd hx;rw[hx]at vT;split at hk;rename_i hb;obtain⟨hb,ph⟩:=hb;obtain⟨te,hu,hte⟩:=U5 hE hb;have hud:=(hE dst _ hd).str rfl rfl;have hc:=dU vT;have Ke:∃S,jf w S (.sl (.int .u8)) [a.eval x] xs:=by
  cases fl with
  |own t=>cases ph
  |nest _ _ _ _ _ _=>cases ph
  |part _ _ _ _=>cases ph
  |fe _ _ _=>cases ph
  |arg _=>exact⟨_,hc.2⟩
  |loc ep pv=>
   have xY:ep=st.ep:=by simpa[qL.live]using ph
   exact⟨_,hc.2.2.2.1 xY⟩
 obtain⟨S,Ke⟩:=Ke;refine wa h _ _ (fin (.string ⟨(aM xs).toArray⟩) w ?_) (NN _) hk;rcases acP Ke with⟨⟨ad,hv⟩,rfl⟩|⟨b,ob,cap,hv,AQ⟩;cases ad with|none=>rw[hv,run_convert_bytes_nil w src te hu hte 0 0 dst hud];rfl|some ad=>rw[hv];exact run_convert_bytes_back w src dst te ad 0 [] hu hte hud (λj hj=>by simp at hj)
 rw[hv,run_convert_bytes_arg w src te hu hte b ob xs.length cap xs rfl AQ dst hud];rfl;cases hk;cases hk
end Go.Dn
