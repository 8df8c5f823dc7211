import Derived.Test.YtnmppgnbjfdffaaGreatDnOps4
import Derived.Laws.MakeOwn
import Derived.Laws.IdiomStrings
import Derived.Laws.BytesArg
/- Part 5: tuples, parts of slices, conversions, structs and slices that are built. -/
namespace Go.Dn
open Go.RowKit
variable {P:Program} {C:Ctx} {st:AS} {a:Act} {w:World} {R:Type} {r:R}
variable {arr:Array Value} {e:CT} {g:Gh} {cap:Nat} {fr:Nat×Nat} {hw:Nat->Nat} {x:Operand} {T:TypeId} {v:Value} {hs:aw (Value×AV)} {fps:aw fw} {news:iq}
theorem pF.at {c:RC}:∀{ws:iq}{ts:aw (Bool×aw AC)}{fp:fw},fR.pF c ws ts fp->∀{i:Nat}{g:Bool}{cs:aw AC},ts[i]?=some (g,cs)->
 ∃v f1 f2 f3,ws[i]?=some v/\fp=f1++f2++f3/\(∃us,Cut g v us/\bB c us cs f2)/\
  ∀c':RC,c.Le c'->(∀b∈f1++f3,c'.w.heap[b]?=c.w.heap[b]?/\c'.hw b=c.hw b)->∀pH,(∃us,Cut g v us/\bB c' us pH [])->fR.pF c' ws (ts.set i (g,pH)) (f1++f3)
 |[],[],_,_,i,g,cs,h=>by simp at h
 |w::ws,t::ts,_,r,0,g,cs,h=>by obtain⟨f1,f2,rfl,r1,r2⟩:=r;simp at h;subst h;exact⟨w,[],f1,f2,rfl,by simp,r1,λc' hle hb pH xg=>⟨[],f2,rfl,xg,pF.mono hle r2 (λb gM=>hb b (by simpa using gM))⟩⟩
 |w::ws,t::ts,_,r,i+1,g,cs,h=>by obtain⟨f1,f2,rfl,r1,r2⟩:=r;obtain⟨v,g1,g2,g3,hv,rfl,hr,Cy⟩:=pF.at r2 (i:=i) (by simpa using h);refine⟨v,f1++g1,g2,g3,by simpa using hv,by simp,hr,λc' hle hb pH xg=>?_⟩;obtain⟨us,fi,eL⟩:=r1;rw[aQ];refine⟨f1,g1++g3,rfl,⟨us,fi,eL.mono hle (λb gM=>hb b (by simp[gM]))⟩,?_⟩;exact Cy c' hle (λb gM=>hb b (by rcases ay.1 gM with k|k<;>simp[k])) pH xg
 |[],_::_,_,r,_,_,_,_=>r.elim
 |_::_,[],_,r,_,_,_,_=>r.elim
theorem O1 {o:Oper}{t i:Nat}(ho:o.op=.extract (.tmp t) i)(h:np C st a w){K:AS->ax R}(hk:ll o t i st K=some r):ma P C o a w K r:=by
 obtain⟨g,h⟩:=h;unfold ll at hk;split at hk;rename_i ts hg;split at hk;rename_i gg cs hn;rw[dJ]at hn;have htl:t<st.slots.length:=by
  rcases cc t st.slots.length with gQ|yP;exact gQ;have:st.get t=.bot:=by simp[AS.get,dJ,bh yP]
  rw[this]at hg;cases hg
 obtain⟨fp,hr,Dq,hl⟩:=h.slot t;rw[hg]at hr;obtain⟨ws,hv,hr⟩:=hr;obtain⟨v,f1,f2,f3,hwv,rfl,Nn,Cy⟩:=pF.at hr hn;have ee:(execOp a.eval o).run P w=.ok (.value v) w:=by have he:a.eval (.tmp t)=.tuple ws.toArray:=hv;simp[execOp,ho,he,Instr.extract,hwv]
 have Pj:=Dq;rw[aQ]at Pj;have n1:=aI.1 Pj;have n2:=aI.1 n1.2.1;let Mb:AV:=.uF (gK ts i (gg,aR 0 cs));let bH:AS:=st.put (some t) Mb;let g':Gh:={g with ej:=λb=>if b∈f2 then some (.hand 0) else g.ej b}
 have hle:(cH C g st w).Le (cH C g' bH w):=by have:= @PG C g st w (some t) Mb;exact⟨this.A,this.hdr,this.QT,this.ep,this.Gl,this.ZX⟩
 have TH:∀b y,g.ej b=some y->b∉f2->g'.ej b=some y:=by intro b y hb hm;show(if b∈f2 then _ else _)=_;rw[aH hm];exact hb
 have I8:∀b y,y≠ .slot t->g.ej b=some y->b∉f2:=λb y hy hb hm=>hy (by have:=hl b (by simp[hm]);rw[hb]at this;simpa using this);have ahj:dM C g' bH a w [(v,.val gg cs)]:=by
  refine h.step (λy=>y≠ .slot t) hle h.defers (by show _=(st.put (some t) Mb).slots.length;rw[fK,aC];exact h.size) (by show(st.put (some t) Mb).boxes.length=(st.put (some t) Mb).slots.length;rw[kb,fK,aC];exact h.bsize) h.frame ?_ (λb y hy hb=>⟨TH b y hb (I8 b y hy hb),rfl,rfl⟩) ?_ ?_ ?_ (.inl ⟨by simp,Hn⟩);intro b y hy;have Qz:(if b∈f2 then some (jy.hand 0) else g.ej b)=some y:=hy;by_cases hm:b∈f2;exact h.fS b _ (hl b (by simp[hm]));rw[aH hm]at Qz;exact h.fS b y Qz;intro j bv hj;have Yv:(st.slots.set t Mb)[j]?=some bv:=by rw[<-fK];exact hj
  by_cases hjt:j=t;subst hjt;rw[br]at Yv;simp only[bN,htl]at Yv;simp at Yv;subst Yv;refine .inr ⟨f1++f3,⟨ws,hv,?_⟩,?_,?_⟩;rw[ft];obtain⟨us,fi,eL⟩:=Nn;refine Cy _ hle (λb _=>⟨rfl,rfl⟩) _ ⟨us,fi,?_⟩;exact(eL.WH).mono hle (by simp);refine aI.2 ⟨n1.1,n2.2.1,?_⟩;rintro b hb c hc rfl;exact n1.2.2 b hb b (bj _ hc) rfl;intro b hb;refine TH b _ (hl b (by rcases ay.1 hb with k|k<;>simp[k])) (λhm=>?_);rcases ay.1 hb with k|k;exact n1.2.2 b k b (bt _ hm) rfl;exact n2.2.2 b hm b k rfl;rw[aO (cO hjt)]at Yv;exact .inl ⟨by simpa using hjt,Yv,rfl⟩;intro s pH hb;have gM:st.boxes[s]?=some (some pH):=by rw[<-kb (d:=some t) (v:=Mb)];exact hb
  exact .inl ⟨by simp,gM,rfl⟩;intro k u bv Cv;cases k with
  |zero=>simp only[cr,aZ,Prod.mk.injEq]at Cv;obtain⟨rfl,rfl⟩:=Cv;obtain⟨us,fi,eL⟩:=Nn;refine .inr ⟨f2,⟨us,fi,eL.mono hle (λb _=>⟨rfl,rfl⟩)⟩,n2.1,λb hb=>?_⟩;show(if b∈f2 then _ else _)=_;rw[aE hb]
  |succ k=>simp at Cv
 exact⟨v,w,_,.inl ee,dM.Bp ahj o.dst,hk⟩;cases hk;cases hk
def jV (hw:Nat->Nat)(w:World)(e:CT)(news:iq)(ys:aw e.D)(fps:aw fw):Prop:=
 news.length=ys.length*e.size/\fps.length=ys.length/\∀(i:Nat)(y:e.D)(f:fw),ys[i]?=some y->fps[i]?=some f->ff hw w e ((news.drop (i*e.size)).take e.size) y f
theorem jV.append {w:World}{n1 n2:iq}{xs ys:aw e.D}{f1 f2:aw fw}(h1:jV hw w e n1 xs f1)(h2:jV hw w e n2 ys f2): jV hw w e (n1++n2) (xs++ys) (f1++f2):=by
 obtain⟨a1,a2,a3⟩:=h1;obtain⟨b1,b2,b3⟩:=h2;refine⟨by rw[ai,ai,a1,b1,cy],by simp[a2,b2],λi y f hy hf=>?_⟩;by_cases hi:i<xs.length;rw[bz hi]at hy;rw[bz (by omega)]at hf;have hm:(i+1)*e.size<=xs.length*e.size:=cu _ hi;rw[cy,fb]at hm;have:=a3 i y f hy hf;have e1:((n1++n2).drop (i*e.size)).take e.size=(n1.drop (i*e.size)).take e.size:=by rw[List.drop_append_of_le_length (by omega),List.take_append_of_le_length (by rw[aM];omega)]
 rw[e1];exact this;rw[bq (by omega)]at hy;rw[bq (by omega),a2]at hf;have:=b3 _ y f hy hf;have yP:xs.length*e.size<=i*e.size:=cu _ (by omega);have e1:(n1++n2).drop (i*e.size)=n2.drop ((i-xs.length)*e.size):=by rw[List.drop_append,cK (by omega),cA,a1,Nat.sub_mul]
 rw[e1];exact this
theorem jV.mono {hw':Nat->Nat}{w w':World}{ys:aw e.D}(h:jV hw w e news ys fps)(hk:∀b∈fps.flatten,w'.heap[b]?=w.heap[b]?/\hw' b=hw b):jV hw' w' e news ys fps:=⟨h.1,h.2.1,λi y f hy hf=>ff.mono (h.2.2 i y f hy hf) λb hb=>hk b (List.mem_flatten.2 ⟨f,bn hf,hb⟩)⟩
theorem jV.nil (hw:Nat->Nat)(w:World)(e:CT):jV hw w e [] [] []:=⟨by simp,rfl,by simp⟩
theorem jV.my {w:World}{ys:aw e.D}(h:jV hw w e news ys fps):∀v∈news,v.oneCell'=true:=by
 intro v hv;obtain⟨j,hj,hjv⟩:=List.mem_iff_getElem.1 hv;have Yx:=e.size_pos;have hi:j/e.size<ys.length:=by rw[Nat.div_lt_iff_lt_mul Yx];rw[<-h.1];exact hj
 have gE:=h.2.2 (j/e.size) _ _ (al hi) (al (by rw[h.2.1];exact hi));refine ff.my gE v ?_;rw[List.mem_iff_getElem?];refine⟨j%e.size,?_⟩;rw[iW,aE (Nat.mod_lt _ Yx),Nat.mul_comm,Nat.div_add_mod,al hj,hjv]
theorem VO {w:World}{b o0:Nat}{xs:aw e.D}(hb:w.heap[b]?=some (.cells arr T fr))(qZ:oR arr fr)(hs:arr.size=o0+cap*e.size)(hc:xs.length<=cap)(hh:hw b=o0+xs.length*e.size)(Cr:jV hw w e ((arr.toList.drop o0).take (xs.length*e.size)) xs fps): ff hw w (.sl e) [.slice (some ⟨b,o0,none⟩) xs.length cap] xs (b::fps.flatten):=by
 refine⟨_,rfl,.inr ⟨b,o0,cap,arr,T,fr,fps,rfl,hb,qZ,hs,hc,hh,rfl,Cr.2.1,λi x f hx hf=>?_⟩⟩;have:=Cr.2.2 i x f hx hf;have hi:i<xs.length:=(aF.1 hx).1;have hm:(i+1)*e.size<=xs.length*e.size:=cu _ hi;rw[cy,fb]at hm;have e1:(((arr.toList.drop o0).take (xs.length*e.size)).drop (i*e.size)).take e.size=(arr.toList.drop (o0+i*e.size)).take e.size:=by apply cn;intro j;rw[iW,iW,iW];by_cases hj:j<e.size;rw[aE hj,aE hj,zip,fC];rw[aH hj,aH hj]
 rw[e1]at this;exact this
theorem HD {w:World}{o0:Nat}{xs:aw e.D}(hs:arr.size=o0+cap*e.size)(hc:xs.length<=cap)(hl:fps.length=xs.length)(h:∀(i:Nat)(x:e.D)(f:fw),xs[i]?=some x->fps[i]?=some f->ff hw w e ((arr.toList.drop (o0+i*e.size)).take e.size) x f):jV hw w e ((arr.toList.drop o0).take (xs.length*e.size)) xs fps:=by
 refine⟨?_,hl,λi x f hx hf=>?_⟩;have hal:(arr.toList.drop o0).length=cap*e.size:=by rw[aM,Array.length_toList,hs];omega
 rw[aY,hal];exact gL (cu _ hc);have hi:i<xs.length:=(aF.1 hx).1;have hm:(i+1)*e.size<=xs.length*e.size:=cu _ hi;rw[cy,fb]at hm;have e1:(((arr.toList.drop o0).take (xs.length*e.size)).drop (i*e.size)).take e.size=(arr.toList.drop (o0+i*e.size)).take e.size:=by apply cn;intro j;rw[iW,iW,iW];by_cases hj:j<e.size;rw[aE hj,aE hj,zip,fC];rw[aH hj,aH hj]
 rw[e1];exact h i x f hx hf
theorem Kf {w w':World}{S:Nat->Nat->Prop}:∀{e:CT}{vs:iq}{x:e.D},iT w' S e vs x->e.flat=true->ff hw w e vs x []
 | .int _,_,_,h,_=>⟨h,rfl⟩
 | .bool,_,_,h,_=>⟨h,rfl⟩
 | .str,_,_,h,_=>⟨h,rfl⟩
 | .sl _,_,_,_,hf=>by cases hf
 | .pair a b,_,_,h,hf=>by obtain⟨v1,v2,rfl,h1,h2⟩:=h;simp only[CT.flat,ae]at hf;exact⟨v1,v2,[],[],rfl,rfl,Kf h1 hf.1,Kf h2 hf.2⟩
def Ko (hdr:Nat->Value)(t:ax Nat)(v:Value):Nat->Value:=λu=>if t=some u then v else hdr u
theorem UU {hdr:Nat->Value}{d:ax Nat}{t:Nat}(h:md st t):Ko hdr (st.gS d 0) v t=hdr t:=by unfold Ko;rw[aH];intro e;exact(oK e).1 h
theorem dM.Ln (h:dM C g st a w hs)(d:ax Nat){xs:aw e.D}{fp:fw}{w':World}{hw':Nat->Nat}(jf:Fr (λb=>dE (g.ej b)) w w')(Dp:∀b x,g.ej b=some x->¬dE (some x)->hw' b=g.hw b)(FJ:∀b o u,o<g.hw b->w.cell? ⟨b,o,none⟩=some u->o<hw' b/\w'.cell? ⟨b,o,none⟩=some u)(gE:ff hw' w' (.sl e) [v] xs fp)(hn:fp.Nodup)(BM:∀b∈fp,b<w'.heap.size/\(dE (g.ej b)\/w.heap.size<=b)): np C (st.oQ d e xs) (a.put d v) w':=by refine h.Ll d (st1:=st.fz d) (hdr':=Ko g.hdr (st.gS d 0) v) F7 sZ yW yl (λt ht=>⟨Bj ht,UU ht⟩) jf Dp FJ (lT ⟨gE,λt ht=>?_⟩) hn BM;refine⟨(oK ht).2.1,?_⟩;show v=Ko g.hdr (st.gS d 0) v t;unfold Ko;rw[aE ht]
theorem dM.K4 (h:dM C g st a w hs)(d:ax Nat){xs:aw e.D}{w':World}(hw:w'=w.alloc (.cells arr T fr)\/w'=w.drew.alloc (.cells arr T fr))(qZ:oR arr fr)(hs0:arr.size=cap*e.size)(hc:xs.length<=cap)(Cr:jV g.hw w e (arr.toList.take (xs.length*e.size)) xs fps)(hn:fps.flatten.Nodup)(BM:∀b∈fps.flatten,dE (g.ej b)): np C (st.oQ d e xs) (a.put d (.slice (some ⟨w.heap.size,0,none⟩) xs.length cap)) w':=by
 have jf:Fr (λb=>dE (g.ej b)) w w':=by rcases hw with rfl|rfl;exact Fr.alloc _ _ _;exact(Fr.drew _ w).trans (Fr.alloc _ _ _) (λb _ hh=>hh)
 have RH:w'.heap[w.heap.size]?=some (.cells arr T fr):=by rcases hw with rfl|rfl;exact heap_alloc_new w _;exact heap_alloc_new w.drew _
 have ti:w'.heap.size=w.heap.size+1:=by rcases hw with rfl|rfl<;>simp
 have hold:∀b,b<w.heap.size->w'.heap[b]?=w.heap[b]?:=by intro b hb;rcases hw with rfl|rfl;exact heap_alloc_old w _ b hb;exact heap_alloc_old w.drew _ b hb
 have gQ:∀b∈fps.flatten,b<w.heap.size:=by intro b hb;have hh:=BM b hb;cases hx:g.ej b with|none=>rw[hx]at hh;cases hh|some x=>exact(h.fS b x hx).1
 let hw':Nat->Nat:=λb=>if b=w.heap.size then xs.length*e.size else g.hw b
 have gE:ff hw' w' (.sl e) [.slice (some ⟨w.heap.size,0,none⟩) xs.length cap] xs (w.heap.size::fps.flatten):=by refine VO (o0:=0) RH qZ (by rw[ca];exact hs0) hc (by simp[hw']) (Cr.mono λb hb=>?_);have gM:=gQ b hb;exact⟨hold b gM,by simp[hw',gH gM]⟩
 refine h.Ln d (hw':=hw') (fp:=w.heap.size::fps.flatten) jf ?_ ?_ gE ?_ ?_;intro b x hx _;simp[hw',gH (h.fS b x hx).1];intro b o u ho hu;have hb:b<w.heap.size:=World.block_lt_of_cell? w _ hu;exact⟨by simp[hw',gH hb];exact ho,by rw[World.cell?_of_block (a:=⟨b,o,none⟩) (hold b hb)];exact hu⟩;exact db.2 ⟨λhm=>Nat.lt_irrefl _ (gQ _ hm),hn⟩;intro b hb;rcases bO.1 hb with rfl|hb;exact⟨by omega,.inr (aU _)⟩;exact⟨by have:=gQ b hb;omega,.inl (BM b hb)⟩
theorem acP {z:Array Value}{c size i:Nat}(hz:z.size=size)(hi:i<c):((madeCells z (c*size)).toList.drop (i*size)).take size=z.toList:=by
 have hm:(i+1)*size<=c*size:=cu _ hi;rw[cy,fb]at hm;apply cn;intro j;rw[iW];by_cases hj:j<size;rw[aE hj,madeCells];have h1:i*size+j<c*size:=by omega
 simp only[Array.toList_map,Array.toList_range,List.getElem?_map,List.getElem?_range h1,dc];have ag8:(i*size+j)%z.size=j:=by rw[hz,Nat.mul_comm,Nat.mul_add_mod,dU hj]
 rw[ag8];simp[getElem!_pos,hz,hj];rw[aH hj,bh];simp[hz];omega
theorem KX {E:Env}(hE:ja P E.ty){o:Oper}{n c:Operand}(ho:o.op=.makeSlice T n c)(h:np C st a w){K:AS->ax R}(hk:nJ E o T n c st K=some r):ma P C o a w K r:=by
 obtain⟨g,hg⟩:=id h;have hnv:=hg.rd n;have hcv:=hg.rd c;unfold nJ at hk;split at hk;rename_i e len cap hT hn hc;rw[hn]at hnv;rw[hc]at hcv;split at hk;rename_i hlc;unfold room at hk;split at hk;rename_i DZ;obtain⟨te,hu,⟨inf,z,Al,ti,hby,hz,hzc⟩,_⟩:=CR hE hT;have FG:cap<=1073741824:=by omega
 have agS:(inf.bytes:Int)*cap<=281474976710656:=by have h1:(inf.bytes:Int)*cap<=65536*cap:=Int.mul_le_mul_of_nonneg_right (by omega) (by omega);omega
 have ee:=run_make (P:=P) w T te inf z hu Al hz .i64 .i64 len cap hlc.1 hlc.2 agS (by omega);have D1:(execOp a.eval o).run P w=.ok (.value (.slice (some ⟨w.heap.size,0,none⟩) len.toNat cap.toNat)) (w.alloc (.cells (madeCells z.cells (cap.toNat*inf.size)) te)):=by simp only[execOp,ho,iE hnv,iE hcv];show((Instr.makeSlice T (.int .i64 len) (.int .i64 cap))>>=λv=>pure (Next.value v)).run P w=_;rw[Sem.run_bind,ee];rfl
 have hzs:z.cells.size=e.size:=by rw[<-oB e,<-hzc];simp
 have hlen:(List.replicate len.toNat e.zero).length=len.toNat:=by simp
 have Cr:jV g.hw w e ((madeCells z.cells (cap.toNat*inf.size)).toList.take ((List.replicate len.toNat e.zero).length*e.size)) (List.replicate len.toNat e.zero) (List.replicate len.toNat []):=by
  refine HD (o0:=0) (cap:=cap.toNat) (by rw[size_madeCells,ti,ca]) (by rw[hlen];omega) (by simp) (λi x f hx hf=>?_);have hi:i<len.toNat:=by have:=(aF.1 hx).1;simpa using this
  rw[dX,aE hi]at hx hf;simp at hx hf;subst hx;subst hf;rw[ti,ca,acP hzs (by omega),hzc];exact C9 _ _ _
 refine⟨_,_,_,.inl D1,?_,hk⟩;have:=hg.K4 o.dst (T:=te) (fr:=(0,0)) (cap:=cap.toNat) (.inl rfl) (by intro j _;simp) (by rw[size_madeCells,ti]) (by rw[hlen];omega) Cr (by simp) (by simp);rw[hlen]at this;exact this;cases hk;cases hk;cases hk
theorem JP {lo hi:ax Operand}(hg:dM C g st a w []){n:Nat}(FG:n<=cap){K:Int->Int->ax R}(hk:me st lo hi n K=some r)(isS:Bool): ∃x y:Int,K x y=some r/\(0<=x->x<=y->y<=n->(Instr.sliceBounds isS n cap (lo.map a.eval) (hi.map a.eval) none).run P w=.ok (x.toNat,y.toNat,cap) w):=by
 unfold me at hk;split at hk;rename_i h1 h2;have e1:lo=none:=by cases lo<;>simp at h1⊢
 have e2:hi=none:=by cases hi<;>simp at h2⊢
 subst e1;subst e2;exact⟨0,n,hk,λ_ _ _=>by simp[Instr.sliceBounds]⟩;rename_i k p h1 h2;have e2:hi=none:=by cases hi<;>simp at h2⊢
 subst e2;cases lo with|none=>simp at h1|some lo=>simp at h1;have hv:=hg.rd lo;rw[h1]at hv;refine⟨p,n,hk,λq1 q2 q3=>?_⟩;simp[Instr.sliceBounds,Instr.sliceBound,asIntOf,iE hv,q1,q2]
 rename_i k p h1 h2;have e1:lo=none:=by cases lo<;>simp at h1⊢
 subst e1;cases hi with|none=>simp at h2|some hi=>simp at h2;have hv:=hg.rd hi;rw[h2]at hv;refine⟨0,p,hk,λq1 q2 q3=>?_⟩;simp[Instr.sliceBounds,Instr.sliceBound,asIntOf,iE hv,show 0<=p by omega,show p<=(cap:Int) by omega]
 rename_i k p k' q h1 h2;cases lo with|none=>simp at h1|some lo=>cases hi with|none=>simp at h2|some hi=>simp at h1 h2;have hv:=hg.rd lo;have Po:=hg.rd hi;rw[h1]at hv;rw[h2]at Po;refine⟨p,q,hk,λq1 q2 q3=>?_⟩;simp[Instr.sliceBounds,Instr.sliceBound,asIntOf,iE hv,iE Po,q1,show 0<=q by omega,show q<=(cap:Int) by omega];intro gQ;omega
 cases hk
theorem extract_mk (s:aw UInt8)(x y:Nat):(ByteArray.mk s.toArray).extract x y=ByteArray.mk ((s.take y).drop x).toArray:=by apply ByteArray.ext;rw[ByteArray.data_extract];simp[List.extract_eq_take_drop,List.drop_take]
theorem LP {α:Type}{xs ys:aw α}{x y:Int}(h:sub xs x y=some ys):0<=x/\x<=y/\y<=(xs.length:Int)/\ys=(xs.take y.toNat).drop x.toNat:=by unfold sub at h;split at h;rename_i hc;simp at h;exact⟨hc.1,hc.2.1,hc.2.2,h.symm⟩;cases h
theorem Xx {w:World}{S:Nat->Nat->Prop}{xs:aw e.D}(h:iT w S (.sl e) [v] xs){x y:Nat}(hxy:x<=y)(hy:y<=xs.length): ∃bo cap,v=.slice bo xs.length cap/\xs.length<=cap/\iT w S (.sl e) [.slice (if cap=x then bo else bo.map (·.add (x*e.size))) (y-x) (cap-x)] ((xs.take y).drop x):=by
 obtain⟨u,hu,h⟩:=h;simp at hu;subst hu;rcases h with⟨⟨ad,rfl⟩,rfl⟩|⟨b,o,cap,rfl,hc,h⟩;simp at hy;subst hy;have hx:x=0:=by omega
 subst hx;exact⟨ad,0,rfl,by simp,⟨_,rfl,.inl ⟨⟨ad,by simp⟩,by simp⟩⟩⟩;have hl:((xs.take y).drop x).length=y-x:=by simp;omega
 refine⟨some ⟨b,o,none⟩,cap,rfl,hc,⟨_,rfl,.inr ?_⟩⟩;by_cases hcx:cap=x;refine⟨b,o,cap-x,by rw[aE hcx,hl],by rw[hl];omega,λi z hz=>?_⟩;have:((xs.take y).drop x)=[]:=bS (by rw[hl];omega);rw[this]at hz;simp at hz;refine⟨b,o+x*e.size,cap-x,by rw[aH hcx,hl];simp[mF],by rw[hl];omega,λi z hz=>?_⟩;have hz':xs[x+i]?=some z:=by rw[bI,dA]at hz;split at hz;exact hz;cases hz
 obtain⟨cs,Hd,hr⟩:=h (x+i) z hz';refine⟨cs,?_,hr⟩;have:o+x*e.size+i*e.size=o+(x+i)*e.size:=by rw[cy];omega
 rw[this];exact Hd
theorem ac5 {w:World}{xs:aw e.D}{fp:fw}(h:ff hw w (.sl e) [v] xs fp){n:Nat}(hn:n<=xs.length): ∃bo cap,v=.slice bo xs.length cap/\xs.length<=cap/\∃jK,ff hw w (.sl e) [.slice (if cap=n then bo else bo.map (·.add (n*e.size))) (xs.length-n) (cap-n)] (xs.drop n) jK/\(∀b∈jK,b∈fp)/\(fp.Nodup->jK.Nodup):=by
 obtain⟨u,hu,h⟩:=h;simp at hu;subst hu;rcases h with⟨⟨ad,rfl⟩,rfl,rfl⟩|⟨b,o0,cap,arr,T,fr,fps,rfl,hb,qZ,hs,hc,hh,rfl,hl,hr⟩;simp at hn;subst hn;exact⟨ad,0,rfl,by simp,[],⟨_,rfl,.inl ⟨⟨ad,by simp⟩,rfl,rfl⟩⟩,by simp,by simp⟩;refine⟨some ⟨b,o0,none⟩,cap,rfl,hc,?_⟩;by_cases hcn:cap=n;have hx:xs.drop n=[]:=cK (by omega);refine⟨[],⟨_,rfl,.inl ⟨⟨some ⟨b,o0,none⟩,by rw[aE hcn,show xs.length-n=0 by omega,show cap-n=0 by omega]⟩,hx,rfl⟩⟩,by simp,by simp⟩;have hm1:cap*e.size=n*e.size+(cap-n)*e.size:=by rw[<-cy];congr 1;omega
 have hm2:xs.length*e.size=n*e.size+(xs.length-n)*e.size:=by rw[<-cy];congr 1;omega
 refine⟨b::(fps.drop n).flatten,⟨_,rfl,.inr ⟨b,o0+n*e.size,cap-n,arr,T,fr,fps.drop n,by rw[aH hcn];simp[mF],hb,qZ,by omega,by simp;omega,by simp;omega,rfl,by simp[hl],λi x f hx hf=>?_⟩⟩,?_,?_⟩;rw[bI]at hx hf;have:=hr (n+i) x f hx hf;rwa[cy,<-fC]at this;intro c xg;rcases bO.1 xg with rfl|xg;simp;obtain⟨l,hl1,xY⟩:=List.mem_flatten.1 xg;exact ec _ (List.mem_flatten.2 ⟨l,List.mem_of_mem_drop hl1,xY⟩);intro Dq;have h1:=db.1 Dq;have e1:fps.flatten=(fps.take n).flatten++(fps.drop n).flatten:=by rw[<-dV,cl]
 rw[e1]at h1;exact db.2 ⟨λhm=>h1.1 (by simp[hm]),(aI.1 h1.2).2.1⟩
theorem ZS {an:An}{o:Oper}{ep:Nat}{pv:ax (ka×Nat)}{p:Int}:Lc an o (.loc ep pv) p=.loc ep none\/∃rt t,pv=some (rt,t)/\Lc an o (.loc ep pv) p=.part ep rt t p:=by
 unfold Lc;split;rename_i ep' r t d h _;cases h;cases an.nest.contains d with|false=>exact .inl rfl|true=>exact .inr ⟨_,_,rfl,rfl⟩
 exact .inl rfl
theorem LA {E:Env}(hE:ja P E.ty){o:Oper}{lo hi:ax Operand}(ho:o.op=.slice T x lo hi none)(h:np C st a w){K:AS->ax R}(hk:uX E o T x lo hi st K=some r):ma P C o a w K r:=by
 obtain⟨g,hg⟩:=h;unfold uX at hk;split at hk;rename_i tag e xs bH kd p rk hlo;split at hk;rename_i hT;cases lo with
 |none=>simp at hlo
 |some lo=>
  simp at hlo;have hlv:=hg.rd lo;rw[hlo]at hlv;obtain⟨te,hu,⟨inf,z,Al,ti,_⟩,_⟩:=CR hE hT;obtain⟨g',nm⟩:=hg.take x;rw[rk]at nm;simp only[cA]at nm;cases oP:sub xs p xs.length with
  |none=>rw[oP]at hk;cases hk
  |some Ma=>
   rw[oP]at hk;simp only[aa]at hk;obtain⟨h1,h2,_,rfl⟩:=LP oP;obtain⟨fp,eL,Dq,hl⟩:=nm.hands 0 _ _ rfl;have gE:=(ew eL).1;obtain⟨bo,cap,hv,FG,jK,FI,ajj,Pj⟩:=ac5 gE (n:=p.toNat) (by omega);have ee:(execOp a.eval o).run P w=.ok (.value (.slice (if cap=p.toNat then bo else bo.map (·.add (p.toNat*e.size))) (xs.length-p.toNat) (cap-p.toNat))) w:=by
    have hb:(Instr.sliceBounds true xs.length cap (some (a.eval lo)) none none).run P w=.ok (p.toNat,xs.length,cap) w:=by have hp2:p<=(xs.length:Int):=h2;simp[Instr.sliceBounds,Instr.sliceBound,asIntOf,iE hlv,h1,hp2]
    simp only[execOp,ho,hv,Instr.sliceAt,Instr.slice,underlying,Option.map_none,dc,Sem.run_bind,run_program,hu,Result.andThen_ok,Sem.run_pure,hb,sizeOf,typeInfo,Al,ti]
   have zQ:(xs.take ((xs.length:Int).toNat)).drop p.toNat=xs.drop p.toNat:=by rw[az,eR]
   rw[zQ]at hk;refine⟨_,_,_,.inl ee,?_,hk⟩;refine nm.Ln o.dst (hw':=g'.hw) (fp:=jK) (Fr.refl _ _) (λ_ _ _ _=>rfl) (λ_ _ _ ho hu=>⟨ho,hu⟩) FI (Pj Dq) (λb hb=>?_);have:=hl b (ajj b hb);exact⟨(nm.fS b _ this).1,.inl (by rw[this];rfl)⟩
 cases hk;cases hk
theorem V9 {E:Env}(hE:ja P E.ty){an:An}{o:Oper}{lo hi:ax Operand}(ho:o.op=.slice T x lo hi none)(h:np C st a w){K:AS->ax R}(hk:yJ E an o T x lo hi st K=some r):ma P C o a w K r:=by
 obtain⟨g,hg⟩:=id h;have tj:=hg.fresh (hg.rd x);unfold yJ at hk;split at hk;exact LA hE ho h hk;split at hk;rename_i s hx;rw[hx]at tj;split at hk;rename_i hT;have hu:=Qj hE hT;have hv:=(ew tj).1;obtain⟨p,q,Ph,ee⟩:=JP (P:=P) (w:=w) hg (aU s.length) hk false;cases oP:sub s p q with|none=>rw[oP]at Ph;cases Ph|some s'=>rw[oP]at Ph;simp only[aa]at Ph;obtain⟨h1,h2,h3,rfl⟩:=LP oP;have hb:=ee h1 h2 h3;refine tu h _ _ ?_ (Jw _) Ph;simp only[execOp,ho,hv,Instr.sliceAt,Instr.slice,underlying,Option.map_none,Sem.run_bind,run_program,hu,Result.andThen_ok,Sem.run_pure,vO,hb,Option.isSome_none,aW,bU,extract_mk]
 cases hk;rename_i fl e xs hx;rw[hx]at tj;split at hk;rename_i hT;obtain⟨hT,nX⟩:=hT;obtain⟨te,hu,⟨inf,z,Al,ti,_⟩,_⟩:=CR hE hT;have hc:=ew tj
 have key:∀(S:Nat->Nat->Prop),iT w S (.sl e) [a.eval x] xs->(∀(p q:Int)(bo:ax Addr)(cap:Nat),0<=p->p<=q->q<=xs.length->xs.length<=cap->a.eval x=.slice bo xs.length cap->
  iT w S (.sl e) [.slice (if cap=p.toNat then bo else bo.map (·.add (p.toNat*e.size))) (q.toNat-p.toNat) (cap-p.toNat)] ((xs.take q.toNat).drop p.toNat)->
  gA (cH C g st w) (.slice (if cap=p.toNat then bo else bo.map (·.add (p.toNat*e.size))) (q.toNat-p.toNat) (cap-p.toNat)) (.sl (Lc an o fl p) e ((xs.take q.toNat).drop p.toNat)) [])->ma P C o a w K r:=by
  intro S FL hmk
  have FG:∃bo cap,a.eval x=.slice bo xs.length cap/\xs.length<=cap:=by obtain⟨bo,cap,hv,hc,_⟩:=Xx FL (x:=0) (y:=0) (aU _) (bW _);exact⟨bo,cap,hv,hc⟩
  obtain⟨bo,cap,hv,FG⟩:=FG
  obtain⟨p,q,Ph,ee⟩:=JP (P:=P) (w:=w) hg FG hk true
  cases oP:sub xs p q with
  |none=>rw[oP]at Ph;cases Ph
  |some Ma=>
   rw[oP]at Ph
   simp only[aa]at Ph
   obtain⟨h1,h2,h3,rfl⟩:=LP oP
   have hb:=ee h1 h2 h3
   obtain⟨bo',an9,Po,_,acd⟩:=Xx FL (x:=p.toNat) (y:=q.toNat) (by omega) (by omega)
   rw[hv]at Po
   simp only[Value.slice.injEq,true_and]at Po
   obtain⟨rfl,rfl⟩:=Po
   refine⟨.slice (if cap=p.toNat then bo else bo.map (·.add (p.toNat*e.size))) (q.toNat-p.toNat) (cap-p.toNat),w,_,.inl ?_,⟨g,hg.quiet o.dst (lT (hmk p q _ _ h1 h2 h3 FG hv acd))⟩,Ph⟩
   simp only[execOp,ho,hv,Instr.sliceAt,Instr.slice,underlying,Option.map_none,Sem.run_bind,run_program,hu,Result.andThen_ok,Sem.run_pure,hb,sizeOf,typeInfo,Al,ti]
 cases fl with
 |own t=>cases nX
 |nest _ _ _ _ _ _=>cases nX
 |part _ _ _ _=>cases nX
 |fg _ _ _=>cases nX
 |arg _=>exact key _ hc.2 (λp q bo cap _ _ _ _ _ hr=>by simp only[Lc,pE.bare];exact⟨rfl,hr⟩)
 |loc ep pv=>
  have wN:ep=st.ep:=by simpa[pE.live]using nX
  refine key _ (hc.2.2.2.1 wN) (λp q bo cap hp hpq hq FG hv hr=>?_);have hlen:((xs.take q.toNat).drop p.toNat).length=q.toNat-p.toNat:=by simp;omega
  have plain:gA (cH C g st w) (.slice (if cap=p.toNat then bo else bo.map (·.add (p.toNat*e.size))) (q.toNat-p.toNat) (cap-p.toNat)) (.sl (.loc ep none) e ((xs.take q.toNat).drop p.toNat)) []:=⟨rfl,hc.2.1,⟨_,_,_,rfl,hlen.symm⟩,λ_=>hr,by simp⟩
  rcases ZS (an:=an) (o:=o) (ep:=ep) (pv:=pv) (p:=p)with hpf|⟨rt,t,rfl,hpf⟩;rw[hpf];exact plain;rw[hpf];refine⟨rfl,hc.2.1,⟨_,_,_,rfl,hlen.symm⟩,λ_=>?_⟩;have D0:=hc.2.2.2.2 rt t rfl;refine⟨D0.1,?_⟩;by_cases hz:q.toNat-p.toNat=0;exact .inl (bS (by rw[hlen];exact hz));right;obtain⟨u,hu,FL⟩:=hc.2.2.2.1 wN;simp at hu;rcases FL with⟨_,rfl⟩|⟨b,o0,T6,Pp,UT,_⟩;simp at hlen;omega;rw[<-hu,hv]at Pp;simp only[Value.slice.injEq,true_and]at Pp;obtain⟨rfl,rfl⟩:=Pp;refine⟨p.toNat,b,o0,xs.length,cap,cap-p.toNat,by omega,by rw[<-D0.2,hv],by rw[hlen];omega,?_⟩;rw[lZ,hlen];simp[mF]
 cases hk;cases hk
theorem QS {E:Env}(hE:ja P E.ty)(h:E.bytes T=true):∃te,P.underlying T=some (.slice te)/\P.underlying te=some (.int .u8):=by unfold Env.bytes at h;split at h;rename_i te n hT;split at h;rename_i jw hte;obtain⟨te',hu,_,ho⟩:=(hE T _ hT).sl _ rfl rfl;have:=ho te n rfl;subst this;exact⟨te,hu,(hE te _ hte).int _ rfl rfl⟩;cases h;cases h
theorem Z4 {w:World}{S:Nat->Nat->Prop}{xs:cw}(h:iT w S (.sl (.int .u8)) [v] xs): ((∃a,v=.slice a 0 0)/\xs=[])\/∃b o cap,v=.slice (some ⟨b,o,none⟩) xs.length cap/\∀i,i<xs.length->w.cell? ⟨b,o+i,none⟩=some (.int .u8 (xs.getD i 0)):=by obtain⟨u,hu,h⟩:=h;simp at hu;subst hu;rcases h with h|⟨b,o,cap,hv,_,h⟩;exact .inl h;refine .inr ⟨b,o,cap,hv,λi hi=>?_⟩;obtain⟨cs,Hd,hr⟩:=h i xs[i] (al hi);have hr':cs=[.int .u8 xs[i]]:=hr;subst hr';have:=(Hd 0 _ rfl).2;simp only[CT.size,mG,dT]at this;rw[this];simp[List.getD,al hi]
theorem OB {E:Env}(hE:ja P E.ty){o:Oper}{src dst:TypeId}(ho:o.op=.convert src dst x)(h:np C st a w){K:AS->ax R}(hk:lh E o src dst x st K=some r):ma P C o a w K r:=by
 obtain⟨g,hg⟩:=id h;have tj:=hg.rd x;have fin:∀v w',(convert src dst (a.eval x)).run P w=.ok v w'->(execOp a.eval o).run P w=.ok (.value v) w':=by intro v w' hr;simp only[execOp,ho];show(convert src dst (a.eval x)>>=λv=>pure (Next.value v)).run P w=_;rw[Sem.run_bind,hr];rfl
 have under:∀(T:TypeId)(sh:Shape),iR E.ty T=some sh->∃d,P.underlying T=some d:=by
  intro T sh hT;have nn:=hE T sh hT;cases Jr:sh.agg with
  |true=>obtain⟨fs,hu,_⟩:=nn.agg Jr;exact⟨_,hu⟩
  |false=>
   cases Ik:sh.ct with
   |int k=>exact⟨_,nn.int k Ik Jr⟩
   |bool=>exact⟨_,nn.bool Ik Jr⟩
   |str=>exact⟨_,nn.str Ik Jr⟩
   |sl e=>obtain⟨te,hu,_⟩:=nn.sl e Ik Jr;exact⟨_,hu⟩
   |pair p q=>have:=nn.pair p q Ik;rw[Jr]at this;cases this
 unfold lh at hk;split at hk;rename_i ssh k jw k' n hs hd hx;rw[hx]at tj;obtain⟨ds,hus⟩:=under _ _ hs;have hud:=(hE dst _ hd).int k rfl rfl;refine tu h _ _ (fin (.int k (k.wrap n)) w ?_) (jO _ _) hk;rw[iE tj];simp only[convert,underlying,Sem.run_bind,run_program,hus,hud,Result.andThen_ok,Sem.run_pure];rfl;rename_i jw an7 s hs hd hx;rw[hx]at tj;have hus:=(hE src _ hs).str rfl rfl;have hud:=(hE dst _ hd).str rfl rfl;refine tu h _ _ (fin (.string ⟨s.toArray⟩) w ?_) (Jw _) hk;rw[(ew tj).1];simp only[convert,underlying,Sem.run_bind,run_program,hus,hud,Result.andThen_ok,Sem.run_pure];rename_i jw sh s I8 hs hd hx;rw[hx]at tj;split at hk;rename_i hb;unfold room at hk;split at hk;obtain⟨te,hu,hte⟩:=QS hE hb;have hus:=(hE src _ hs).str rfl rfl;have ee:=run_bytes_of_string (P:=P) w src dst te ⟨s.toArray⟩ hus hu hte;rw[<-(ew tj).1,vO]at ee;refine⟨_,_,_,.inl (fin _ _ ee),?_,hk⟩;have yP:=grownCap_ge w s.length 0 te;have ti:(bytesRow ⟨s.toArray⟩ (grownCap w s.length 0 te)).size=grownCap w s.length 0 te*CT.size (.int .u8):=by simp only[bytesRow,Array.size_append,Array.size_map,Array.size_replicate,vO,CT.size];simp;omega
 have rk:(bytesRow ⟨s.toArray⟩ (grownCap w s.length 0 te)).toList.take ((dj s).length*CT.size (.int .u8))=(dj s).map (Value.int .u8):=by simp only[bytesRow,dj,CT.size,Array.toList_append,Array.toList_map];rw[List.take_append_of_le_length (by simp)];rw[bK (by simp)];simp
 have Cr:jV g.hw w (.int .u8) ((bytesRow ⟨s.toArray⟩ (grownCap w s.length 0 te)).toList.take ((dj s).length*CT.size (.int .u8))) (dj s) (List.replicate s.length []):=by
  rw[rk];refine⟨by simp[CT.size],by simp[dj],λi y f hy hf=>?_⟩;have hi:i<(dj s).length:=(aF.1 hy).1;have hf':f=[]:=by rw[dX]at hf;split at hf<;>simp at hf;exact hf
  subst hf';refine⟨?_,rfl⟩;apply cn;intro j;rw[iW];simp only[CT.size,mG];cases j with|zero=>simp[hy]|succ j=>simp
 have hlen:(dj s).length=s.length:=by simp[dj]
 have:=hg.K4 o.dst (T:=te) (fr:=((bytesRow ⟨s.toArray⟩ (grownCap w s.length 0 te)).size,(bytesRow ⟨s.toArray⟩ (grownCap w s.length 0 te)).size+1)) (cap:=grownCap w s.length 0 te) (.inr rfl) (by intro j hj hc;simp only at hc;omega) ti (by rw[hlen];exact yP) Cr (by simp) (by simp);rw[hlen]at this;exact this;cases hk;cases hk;rename_i ssh jw fl xs hs hd hx;rw[hx]at tj;split at hk;rename_i hb;obtain⟨hb,nX⟩:=hb;obtain⟨te,hu,hte⟩:=QS hE hb;have hud:=(hE dst _ hd).str rfl rfl;have hc:=ew tj;have FL:∃S,iT w S (.sl (.int .u8)) [a.eval x] xs:=by
  cases fl with
  |own t=>cases nX
  |nest _ _ _ _ _ _=>cases nX
  |part _ _ _ _=>cases nX
  |fg _ _ _=>cases nX
  |arg _=>exact⟨_,hc.2⟩
  |loc ep pv=>
   have wN:ep=st.ep:=by simpa[pE.live]using nX
   exact⟨_,hc.2.2.2.1 wN⟩
 obtain⟨S,FL⟩:=FL;refine tu h _ _ (fin (.string ⟨(aJ xs).toArray⟩) w ?_) (Jw _) hk;rcases Z4 FL with⟨⟨ad,hv⟩,rfl⟩|⟨b,ob,cap,hv,Ai⟩;cases ad with|none=>rw[hv,run_convert_bytes_nil w src te hu hte 0 0 dst hud];rfl|some ad=>rw[hv];exact run_convert_bytes_back w src dst te ad 0 [] hu hte hud (λj hj=>by simp at hj)
 rw[hv,run_convert_bytes_arg w src te hu hte b ob xs.length cap xs rfl Ai dst hud];rfl;cases hk;cases hk
end Go.Dn
