import Derived.Test.YtainmjjkipbciaaGreatDnOps4
import Derived.Laws.MakeOwn
import Derived.Laws.IdiomStrings
import Derived.Laws.BytesArg
/- Part 5: tuples, parts of slices, conversions, structs and slices that are built. -/
namespace Go.Dn
open Go.RowKit
variable {P:Program} {C:Ctx} {st:AS} {a:Act} {w:World} {R:Type} {r:R}
variable {arr:Array Value} {e:CT} {g:Gh} {cap:Nat} {fr:Nat×Nat} {hw:Nat->Nat} {x:Operand} {T:TypeId} {v:Value} {hs:aw (Value×AV)} {fps:aw fg} {news:ir}
theorem pk.at {c:RC}:∀{ws:ir}{ts:aw (Bool×aw AC)}{fp:fg},fR.pk c ws ts fp->∀{i:Nat}{g:Bool}{cs:aw AC},ts[i]?=some (g,cs)->
 ∃v f1 f2 f3,ws[i]?=some v/\fp=f1++f2++f3/\(∃us,Cut g v us/\bE c us cs f2)/\
  ∀c':RC,c.Le c'->(∀b∈f1++f3,c'.w.heap[b]?=c.w.heap[b]?/\c'.hw b=c.hw b)->∀po,(∃us,Cut g v us/\bE c' us po [])->fR.pk c' ws (ts.set i (g,po)) (f1++f3)
 |[],[],_,_,i,g,cs,h=>by simp at h
 |w::ws,t::ts,_,r,0,g,cs,h=>by obtain⟨f1,f2,rfl,r1,r2⟩:=r;simp at h;subst h;exact⟨w,[],f1,f2,rfl,by simp,r1,λc' hle hb po wQ=>⟨[],f2,rfl,wQ,pk.mono hle r2 (λb gM=>hb b (by simpa using gM))⟩⟩
 |w::ws,t::ts,_,r,i+1,g,cs,h=>by obtain⟨f1,f2,rfl,r1,r2⟩:=r;obtain⟨v,g1,g2,g3,hv,rfl,hr,Cj⟩:=pk.at r2 (i:=i) (by simpa using h);refine⟨v,f1++g1,g2,g3,by simpa using hv,by simp,hr,λc' hle hb po wQ=>?_⟩;obtain⟨us,fE,eK⟩:=r1;rw[aP];refine⟨f1,g1++g3,rfl,⟨us,fE,eK.mono hle (λb gM=>hb b (by simp[gM]))⟩,?_⟩;exact Cj c' hle (λb gM=>hb b (by rcases ay.1 gM with k|k<;>simp[k])) po wQ
 |[],_::_,_,r,_,_,_,_=>r.elim
 |_::_,[],_,r,_,_,_,_=>r.elim
theorem O9 {o:Oper}{t i:Nat}(ho:o.op=.extract (.tmp t) i)(h:mZ C st a w){K:AS->ax R}(hk:kZ o t i st K=some r):lS P C o a w K r:=by
 obtain⟨g,h⟩:=h;unfold kZ at hk;split at hk;rename_i ts hg;split at hk;rename_i gg cs hn;rw[dI]at hn;have htl:t<st.slots.length:=by
  rcases cf t st.slots.length with gW|yt;exact gW;have:st.get t=.bot:=by simp[AS.get,dI,br yt]
  rw[this]at hg;cases hg
 obtain⟨fp,hr,C7,hl⟩:=h.slot t;rw[hg]at hr;obtain⟨ws,hv,hr⟩:=hr;obtain⟨v,f1,f2,f3,hwv,rfl,M8,Cj⟩:=pk.at hr hn;have ec:(execOp a.eval o).run P w=.ok (.value v) w:=by have he:a.eval (.tmp t)=.tuple ws.toArray:=hv;simp[execOp,ho,he,Instr.extract,hwv]
 have Pr:=C7;rw[aP]at Pr;have n1:=aI.1 Pr;have n2:=aI.1 n1.2.1;let LW:AV:=.uw (gK ts i (gg,aQ 0 cs));let bK:AS:=st.put (some t) LW;let g':Gh:={g with ef:=λb=>if b∈f2 then some (.hand 0) else g.ef b}
 have hle:(cG C g st w).Le (cG C g' bK w):=by have:= @PN C g st w (some t) LW;exact⟨this.A,this.hdr,this.QZ,this.ep,this.FQ,this.Z5⟩
 have T1:∀b y,g.ef b=some y->b∉f2->g'.ef b=some y:=by intro b y hb hm;show(if b∈f2 then _ else _)=_;rw[aH hm];exact hb
 have It:∀b y,y≠ .slot t->g.ef b=some y->b∉f2:=λb y hy hb hm=>hy (by have:=hl b (by simp[hm]);rw[hb]at this;simpa using this);have ah7:dP C g' bK a w [(v,.val gg cs)]:=by
  refine h.step (λy=>y≠ .slot t) hle h.defers (by show _=(st.put (some t) LW).slots.length;rw[fH,aC];exact h.size) (by show(st.put (some t) LW).boxes.length=(st.put (some t) LW).slots.length;rw[jX,fH,aC];exact h.bsize) h.frame ?_ (λb y hy hb=>⟨T1 b y hb (It b y hy hb),rfl,rfl⟩) ?_ ?_ ?_ (.inl ⟨by simp,GO⟩);intro b y hy;have QE:(if b∈f2 then some (jx.hand 0) else g.ef b)=some y:=hy;by_cases hm:b∈f2;exact h.fS b _ (hl b (by simp[hm]));rw[aH hm]at QE;exact h.fS b y QE;intro j bv hj;have YA:(st.slots.set t LW)[j]?=some bv:=by rw[<-fH];exact hj
  by_cases hjt:j=t;subst hjt;rw[bu]at YA;simp only[bP,htl]at YA;simp at YA;subst YA;refine .inr ⟨f1++f3,⟨ws,hv,?_⟩,?_,?_⟩;rw[fe];obtain⟨us,fE,eK⟩:=M8;refine Cj _ hle (λb _=>⟨rfl,rfl⟩) _ ⟨us,fE,?_⟩;exact(eK.Wy).mono hle (by simp);refine aI.2 ⟨n1.1,n2.2.1,?_⟩;rintro b hb c hc rfl;exact n1.2.2 b hb b (bj _ hc) rfl;intro b hb;refine T1 b _ (hl b (by rcases ay.1 hb with k|k<;>simp[k])) (λhm=>?_);rcases ay.1 hb with k|k;exact n1.2.2 b k b (bw _ hm) rfl;exact n2.2.2 b hm b k rfl;rw[aR (cM hjt)]at YA;exact .inl ⟨by simpa using hjt,YA,rfl⟩;intro s po hb;have gM:st.boxes[s]?=some (some po):=by rw[<-jX (d:=some t) (v:=LW)];exact hb
  exact .inl ⟨by simp,gM,rfl⟩;intro k u bv Cg;cases k with
  |zero=>simp only[cr,ba,Prod.mk.injEq]at Cg;obtain⟨rfl,rfl⟩:=Cg;obtain⟨us,fE,eK⟩:=M8;refine .inr ⟨f2,⟨us,fE,eK.mono hle (λb _=>⟨rfl,rfl⟩)⟩,n2.1,λb hb=>?_⟩;show(if b∈f2 then _ else _)=_;rw[aF hb]
  |succ k=>simp at Cg
 exact⟨v,w,_,.inl ec,dP.AW ah7 o.dst,hk⟩;cases hk;cases hk
def jS (hw:Nat->Nat)(w:World)(e:CT)(news:ir)(ys:aw e.D)(fps:aw fg):Prop:=
 news.length=ys.length*e.size/\fps.length=ys.length/\∀(i:Nat)(y:e.D)(f:fg),ys[i]?=some y->fps[i]?=some f->eZ hw w e ((news.drop (i*e.size)).take e.size) y f
theorem jS.append {w:World}{n1 n2:ir}{xs ys:aw e.D}{f1 f2:aw fg}(h1:jS hw w e n1 xs f1)(h2:jS hw w e n2 ys f2): jS hw w e (n1++n2) (xs++ys) (f1++f2):=by
 obtain⟨a1,a2,a3⟩:=h1;obtain⟨b1,b2,b3⟩:=h2;refine⟨by rw[ai,ai,a1,b1,cA],by simp[a2,b2],λi y f hy hf=>?_⟩;by_cases hi:i<xs.length;rw[bD hi]at hy;rw[bD (by omega)]at hf;have hm:(i+1)*e.size<=xs.length*e.size:=cv _ hi;rw[cA,eY]at hm;have:=a3 i y f hy hf;have e1:((n1++n2).drop (i*e.size)).take e.size=(n1.drop (i*e.size)).take e.size:=by rw[List.drop_append_of_le_length (by omega),List.take_append_of_le_length (by rw[aL];omega)]
 rw[e1];exact this;rw[bq (by omega)]at hy;rw[bq (by omega),a2]at hf;have:=b3 _ y f hy hf;have yt:xs.length*e.size<=i*e.size:=cv _ (by omega);have e1:(n1++n2).drop (i*e.size)=n2.drop ((i-xs.length)*e.size):=by rw[List.drop_append,cW (by omega),cu,a1,Nat.sub_mul]
 rw[e1];exact this
theorem jS.mono {hw':Nat->Nat}{w w':World}{ys:aw e.D}(h:jS hw w e news ys fps)(hk:∀b∈fps.flatten,w'.heap[b]?=w.heap[b]?/\hw' b=hw b):jS hw' w' e news ys fps:=⟨h.1,h.2.1,λi y f hy hf=>eZ.mono (h.2.2 i y f hy hf) λb hb=>hk b (List.mem_flatten.2 ⟨f,bp hf,hb⟩)⟩
theorem jS.nil (hw:Nat->Nat)(w:World)(e:CT):jS hw w e [] [] []:=⟨by simp,rfl,by simp⟩
theorem jS.mh {w:World}{ys:aw e.D}(h:jS hw w e news ys fps):∀v∈news,v.oneCell'=true:=by
 intro v hv;obtain⟨j,hj,hjv⟩:=List.mem_iff_getElem.1 hv;have YC:=e.size_pos;have hi:j/e.size<ys.length:=by rw[Nat.div_lt_iff_lt_mul YC];rw[<-h.1];exact hj
 have gE:=h.2.2 (j/e.size) _ _ (al hi) (al (by rw[h.2.1];exact hi));refine eZ.mh gE v ?_;rw[List.mem_iff_getElem?];refine⟨j%e.size,?_⟩;rw[iX,aF (Nat.mod_lt _ YC),Nat.mul_comm,Nat.div_add_mod,al hj,hjv]
theorem VJ {w:World}{b o0:Nat}{xs:aw e.D}(hb:w.heap[b]?=some (.cells arr T fr))(qM:oF arr fr)(hs:arr.size=o0+cap*e.size)(hc:xs.length<=cap)(hh:hw b=o0+xs.length*e.size)(Cd:jS hw w e ((arr.toList.drop o0).take (xs.length*e.size)) xs fps): eZ hw w (.sl e) [.slice (some ⟨b,o0,none⟩) xs.length cap] xs (b::fps.flatten):=by
 refine⟨_,rfl,.inr ⟨b,o0,cap,arr,T,fr,fps,rfl,hb,qM,hs,hc,hh,rfl,Cd.2.1,λi x f hx hf=>?_⟩⟩;have:=Cd.2.2 i x f hx hf;have hi:i<xs.length:=(aG.1 hx).1;have hm:(i+1)*e.size<=xs.length*e.size:=cv _ hi;rw[cA,eY]at hm;have e1:(((arr.toList.drop o0).take (xs.length*e.size)).drop (i*e.size)).take e.size=(arr.toList.drop (o0+i*e.size)).take e.size:=by apply cz;intro j;rw[iX,iX,iX];by_cases hj:j<e.size;rw[aF hj,aF hj,zip,ft];rw[aH hj,aH hj]
 rw[e1]at this;exact this
theorem G4 {w:World}{o0:Nat}{xs:aw e.D}(hs:arr.size=o0+cap*e.size)(hc:xs.length<=cap)(hl:fps.length=xs.length)(h:∀(i:Nat)(x:e.D)(f:fg),xs[i]?=some x->fps[i]?=some f->eZ hw w e ((arr.toList.drop (o0+i*e.size)).take e.size) x f):jS hw w e ((arr.toList.drop o0).take (xs.length*e.size)) xs fps:=by
 refine⟨?_,hl,λi x f hx hf=>?_⟩;have hal:(arr.toList.drop o0).length=cap*e.size:=by rw[aL,Array.length_toList,hs];omega
 rw[aZ,hal];exact gL (cv _ hc);have hi:i<xs.length:=(aG.1 hx).1;have hm:(i+1)*e.size<=xs.length*e.size:=cv _ hi;rw[cA,eY]at hm;have e1:(((arr.toList.drop o0).take (xs.length*e.size)).drop (i*e.size)).take e.size=(arr.toList.drop (o0+i*e.size)).take e.size:=by apply cz;intro j;rw[iX,iX,iX];by_cases hj:j<e.size;rw[aF hj,aF hj,zip,ft];rw[aH hj,aH hj]
 rw[e1];exact h i x f hx hf
theorem J5 {w w':World}{S:Nat->Nat->Prop}:∀{e:CT}{vs:ir}{x:e.D},iS w' S e vs x->e.flat=true->eZ hw w e vs x []
 | .int _,_,_,h,_=>⟨h,rfl⟩
 | .bool,_,_,h,_=>⟨h,rfl⟩
 | .str,_,_,h,_=>⟨h,rfl⟩
 | .sl _,_,_,_,hf=>by cases hf
 | .pair a b,_,_,h,hf=>by obtain⟨v1,v2,rfl,h1,h2⟩:=h;simp only[CT.flat,ae]at hf;exact⟨v1,v2,[],[],rfl,rfl,J5 h1 hf.1,J5 h2 hf.2⟩
def Ke (hdr:Nat->Value)(t:ax Nat)(v:Value):Nat->Value:=λu=>if t=some u then v else hdr u
theorem UQ {hdr:Nat->Value}{d:ax Nat}{t:Nat}(h:lT st t):Ke hdr (st.gR d 0) v t=hdr t:=by unfold Ke;rw[aH];intro e;exact(oy e).1 h
theorem dP.K9 (h:dP C g st a w hs)(d:ax Nat){xs:aw e.D}{fp:fg}{w':World}{hw':Nat->Nat}(jf:Fr (λb=>dE (g.ef b)) w w')(C6:∀b x,g.ef b=some x->¬dE (some x)->hw' b=g.hw b)(Fg:∀b o u,o<g.hw b->w.cell? ⟨b,o,none⟩=some u->o<hw' b/\w'.cell? ⟨b,o,none⟩=some u)(gE:eZ hw' w' (.sl e) [v] xs fp)(hn:fp.Nodup)(Bw:∀b∈fp,b<w'.heap.size/\(dE (g.ef b)\/w.heap.size<=b)): mZ C (st.oE d e xs) (a.put d v) w':=by refine h.K7 d (st1:=st.fi d) (hdr':=Ke g.hdr (st.gR d 0) v) FD sP yB xQ (λt ht=>⟨AN ht,UQ ht⟩) jf C6 Fg (lK ⟨gE,λt ht=>?_⟩) hn Bw;refine⟨(oy ht).2.1,?_⟩;show v=Ke g.hdr (st.gR d 0) v t;unfold Ke;rw[aF ht]
theorem dP.KV (h:dP C g st a w hs)(d:ax Nat){xs:aw e.D}{w':World}(hw:w'=w.alloc (.cells arr T fr)\/w'=w.drew.alloc (.cells arr T fr))(qM:oF arr fr)(hs0:arr.size=cap*e.size)(hc:xs.length<=cap)(Cd:jS g.hw w e (arr.toList.take (xs.length*e.size)) xs fps)(hn:fps.flatten.Nodup)(Bw:∀b∈fps.flatten,dE (g.ef b)): mZ C (st.oE d e xs) (a.put d (.slice (some ⟨w.heap.size,0,none⟩) xs.length cap)) w':=by
 have jf:Fr (λb=>dE (g.ef b)) w w':=by rcases hw with rfl|rfl;exact Fr.alloc _ _ _;exact(Fr.drew _ w).trans (Fr.alloc _ _ _) (λb _ hh=>hh)
 have R5:w'.heap[w.heap.size]?=some (.cells arr T fr):=by rcases hw with rfl|rfl;exact heap_alloc_new w _;exact heap_alloc_new w.drew _
 have sV:w'.heap.size=w.heap.size+1:=by rcases hw with rfl|rfl<;>simp
 have hold:∀b,b<w.heap.size->w'.heap[b]?=w.heap[b]?:=by intro b hb;rcases hw with rfl|rfl;exact heap_alloc_old w _ b hb;exact heap_alloc_old w.drew _ b hb
 have gW:∀b∈fps.flatten,b<w.heap.size:=by intro b hb;have hh:=Bw b hb;cases hx:g.ef b with|none=>rw[hx]at hh;cases hh|some x=>exact(h.fS b x hx).1
 let hw':Nat->Nat:=λb=>if b=w.heap.size then xs.length*e.size else g.hw b
 have gE:eZ hw' w' (.sl e) [.slice (some ⟨w.heap.size,0,none⟩) xs.length cap] xs (w.heap.size::fps.flatten):=by refine VJ (o0:=0) R5 qM (by rw[cp];exact hs0) hc (by simp[hw']) (Cd.mono λb hb=>?_);have gM:=gW b hb;exact⟨hold b gM,by simp[hw',gH gM]⟩
 refine h.K9 d (hw':=hw') (fp:=w.heap.size::fps.flatten) jf ?_ ?_ gE ?_ ?_;intro b x hx _;simp[hw',gH (h.fS b x hx).1];intro b o u ho hu;have hb:b<w.heap.size:=World.block_lt_of_cell? w _ hu;exact⟨by simp[hw',gH hb];exact ho,by rw[World.cell?_of_block (a:=⟨b,o,none⟩) (hold b hb)];exact hu⟩;exact db.2 ⟨λhm=>Nat.lt_irrefl _ (gW _ hm),hn⟩;intro b hb;rcases cm.1 hb with rfl|hb;exact⟨by omega,.inr (aU _)⟩;exact⟨by have:=gW b hb;omega,.inl (Bw b hb)⟩
theorem acg {z:Array Value}{c size i:Nat}(hz:z.size=size)(hi:i<c):((madeCells z (c*size)).toList.drop (i*size)).take size=z.toList:=by
 have hm:(i+1)*size<=c*size:=cv _ hi;rw[cA,eY]at hm;apply cz;intro j;rw[iX];by_cases hj:j<size;rw[aF hj,madeCells];have h1:i*size+j<c*size:=by omega
 simp only[Array.toList_map,Array.toList_range,List.getElem?_map,List.getElem?_range h1,dc];have ahW:(i*size+j)%z.size=j:=by rw[hz,Nat.mul_comm,Nat.mul_add_mod,dU hj]
 rw[ahW];simp[getElem!_pos,hz,hj];rw[aH hj,br];simp[hz];omega
theorem KO {E:Env}(hE:ja P E.ty){o:Oper}{n c:Operand}(ho:o.op=.makeSlice T n c)(h:mZ C st a w){K:AS->ax R}(hk:nt E o T n c st K=some r):lS P C o a w K r:=by
 obtain⟨g,hg⟩:=id h;have hnv:=hg.rd n;have hcv:=hg.rd c;unfold nt at hk;split at hk;rename_i e len cap hT hn hc;rw[hn]at hnv;rw[hc]at hcv;split at hk;rename_i hlc;unfold room at hk;split at hk;rename_i DE;obtain⟨te,hu,⟨inf,z,zO,sV,hby,hz,hzc⟩,_⟩:=CD hE hT;have Fc:cap<=1073741824:=by omega
 have ahJ:(inf.bytes:Int)*cap<=281474976710656:=by have h1:(inf.bytes:Int)*cap<=65536*cap:=Int.mul_le_mul_of_nonneg_right (by omega) (by omega);omega
 have ec:=run_make (P:=P) w T te inf z hu zO hz .i64 .i64 len cap hlc.1 hlc.2 ahJ (by omega);have DG:(execOp a.eval o).run P w=.ok (.value (.slice (some ⟨w.heap.size,0,none⟩) len.toNat cap.toNat)) (w.alloc (.cells (madeCells z.cells (cap.toNat*inf.size)) te)):=by simp only[execOp,ho,iD hnv,iD hcv];show((Instr.makeSlice T (.int .i64 len) (.int .i64 cap))>>=λv=>pure (Next.value v)).run P w=_;rw[Sem.run_bind,ec];rfl
 have hzs:z.cells.size=e.size:=by rw[<-oh e,<-hzc];simp
 have hlen:(List.replicate len.toNat e.zero).length=len.toNat:=by simp
 have Cd:jS g.hw w e ((madeCells z.cells (cap.toNat*inf.size)).toList.take ((List.replicate len.toNat e.zero).length*e.size)) (List.replicate len.toNat e.zero) (List.replicate len.toNat []):=by
  refine G4 (o0:=0) (cap:=cap.toNat) (by rw[size_madeCells,sV,cp]) (by rw[hlen];omega) (by simp) (λi x f hx hf=>?_);have hi:i<len.toNat:=by have:=(aG.1 hx).1;simpa using this
  rw[dX,aF hi]at hx hf;simp at hx hf;subst hx;subst hf;rw[sV,cp,acg hzs (by omega),hzc];exact CR _ _ _
 refine⟨_,_,_,.inl DG,?_,hk⟩;have:=hg.KV o.dst (T:=te) (fr:=(0,0)) (cap:=cap.toNat) (.inl rfl) (by intro j _;simp) (by rw[size_madeCells,sV]) (by rw[hlen];omega) Cd (by simp) (by simp);rw[hlen]at this;exact this;cases hk;cases hk;cases hk
theorem Jh {lo hi:ax Operand}(hg:dP C g st a w []){n:Nat}(Fc:n<=cap){K:Int->Int->ax R}(hk:lU st lo hi n K=some r)(isS:Bool): ∃x y:Int,K x y=some r/\(0<=x->x<=y->y<=n->(Instr.sliceBounds isS n cap (lo.map a.eval) (hi.map a.eval) none).run P w=.ok (x.toNat,y.toNat,cap) w):=by
 unfold lU at hk;split at hk;rename_i h1 h2;have e1:lo=none:=by cases lo<;>simp at h1⊢
 have e2:hi=none:=by cases hi<;>simp at h2⊢
 subst e1;subst e2;exact⟨0,n,hk,λ_ _ _=>by simp[Instr.sliceBounds]⟩;rename_i k p h1 h2;have e2:hi=none:=by cases hi<;>simp at h2⊢
 subst e2;cases lo with|none=>simp at h1|some lo=>simp at h1;have hv:=hg.rd lo;rw[h1]at hv;refine⟨p,n,hk,λq1 q2 q3=>?_⟩;simp[Instr.sliceBounds,Instr.sliceBound,asIntOf,iD hv,q1,q2]
 rename_i k p h1 h2;have e1:lo=none:=by cases lo<;>simp at h1⊢
 subst e1;cases hi with|none=>simp at h2|some hi=>simp at h2;have hv:=hg.rd hi;rw[h2]at hv;refine⟨0,p,hk,λq1 q2 q3=>?_⟩;simp[Instr.sliceBounds,Instr.sliceBound,asIntOf,iD hv,show 0<=p by omega,show p<=(cap:Int) by omega]
 rename_i k p k' q h1 h2;cases lo with|none=>simp at h1|some lo=>cases hi with|none=>simp at h2|some hi=>simp at h1 h2;have hv:=hg.rd lo;have Pw:=hg.rd hi;rw[h1]at hv;rw[h2]at Pw;refine⟨p,q,hk,λq1 q2 q3=>?_⟩;simp[Instr.sliceBounds,Instr.sliceBound,asIntOf,iD hv,iD Pw,q1,show 0<=q by omega,show q<=(cap:Int) by omega];intro gW;omega
 cases hk
theorem extract_mk (s:aw UInt8)(x y:Nat):(ByteArray.mk s.toArray).extract x y=ByteArray.mk ((s.take y).drop x).toArray:=by apply ByteArray.ext;rw[ByteArray.data_extract];simp[List.extract_eq_take_drop,List.drop_take]
theorem Lz {α:Type}{xs ys:aw α}{x y:Int}(h:sub xs x y=some ys):0<=x/\x<=y/\y<=(xs.length:Int)/\ys=(xs.take y.toNat).drop x.toNat:=by unfold sub at h;split at h;rename_i hc;simp at h;exact⟨hc.1,hc.2.1,hc.2.2,h.symm⟩;cases h
theorem Xy {w:World}{S:Nat->Nat->Prop}{xs:aw e.D}(h:iS w S (.sl e) [v] xs){x y:Nat}(hxy:x<=y)(hy:y<=xs.length): ∃bo cap,v=.slice bo xs.length cap/\xs.length<=cap/\iS w S (.sl e) [.slice (if cap=x then bo else bo.map (·.add (x*e.size))) (y-x) (cap-x)] ((xs.take y).drop x):=by
 obtain⟨u,hu,h⟩:=h;simp at hu;subst hu;rcases h with⟨⟨ad,rfl⟩,rfl⟩|⟨b,o,cap,rfl,hc,h⟩;simp at hy;subst hy;have hx:x=0:=by omega
 subst hx;exact⟨ad,0,rfl,by simp,⟨_,rfl,.inl ⟨⟨ad,by simp⟩,by simp⟩⟩⟩;have hl:((xs.take y).drop x).length=y-x:=by simp;omega
 refine⟨some ⟨b,o,none⟩,cap,rfl,hc,⟨_,rfl,.inr ?_⟩⟩;by_cases hcx:cap=x;refine⟨b,o,cap-x,by rw[aF hcx,hl],by rw[hl];omega,λi z hz=>?_⟩;have:((xs.take y).drop x)=[]:=bV (by rw[hl];omega);rw[this]at hz;simp at hz;refine⟨b,o+x*e.size,cap-x,by rw[aH hcx,hl];simp[mx],by rw[hl];omega,λi z hz=>?_⟩;have hz':xs[x+i]?=some z:=by rw[bM,dA]at hz;split at hz;exact hz;cases hz
 obtain⟨cs,GD,hr⟩:=h (x+i) z hz';refine⟨cs,?_,hr⟩;have:o+x*e.size+i*e.size=o+(x+i)*e.size:=by rw[cA];omega
 rw[this];exact GD
theorem acA {w:World}{xs:aw e.D}{fp:fg}(h:eZ hw w (.sl e) [v] xs fp){n:Nat}(hn:n<=xs.length): ∃bo cap,v=.slice bo xs.length cap/\xs.length<=cap/\∃jI,eZ hw w (.sl e) [.slice (if cap=n then bo else bo.map (·.add (n*e.size))) (xs.length-n) (cap-n)] (xs.drop n) jI/\(∀b∈jI,b∈fp)/\(fp.Nodup->jI.Nodup):=by
 obtain⟨u,hu,h⟩:=h;simp at hu;subst hu;rcases h with⟨⟨ad,rfl⟩,rfl,rfl⟩|⟨b,o0,cap,arr,T,fr,fps,rfl,hb,qM,hs,hc,hh,rfl,hl,hr⟩;simp at hn;subst hn;exact⟨ad,0,rfl,by simp,[],⟨_,rfl,.inl ⟨⟨ad,by simp⟩,rfl,rfl⟩⟩,by simp,by simp⟩;refine⟨some ⟨b,o0,none⟩,cap,rfl,hc,?_⟩;by_cases hcn:cap=n;have hx:xs.drop n=[]:=cW (by omega);refine⟨[],⟨_,rfl,.inl ⟨⟨some ⟨b,o0,none⟩,by rw[aF hcn,show xs.length-n=0 by omega,show cap-n=0 by omega]⟩,hx,rfl⟩⟩,by simp,by simp⟩;have hm1:cap*e.size=n*e.size+(cap-n)*e.size:=by rw[<-cA];congr 1;omega
 have hm2:xs.length*e.size=n*e.size+(xs.length-n)*e.size:=by rw[<-cA];congr 1;omega
 refine⟨b::(fps.drop n).flatten,⟨_,rfl,.inr ⟨b,o0+n*e.size,cap-n,arr,T,fr,fps.drop n,by rw[aH hcn];simp[mx],hb,qM,by omega,by simp;omega,by simp;omega,rfl,by simp[hl],λi x f hx hf=>?_⟩⟩,?_,?_⟩;rw[bM]at hx hf;have:=hr (n+i) x f hx hf;rwa[cA,<-ft]at this;intro c wQ;rcases cm.1 wQ with rfl|wQ;simp;obtain⟨l,hl1,xE⟩:=List.mem_flatten.1 wQ;exact eO _ (List.mem_flatten.2 ⟨l,List.mem_of_mem_drop hl1,xE⟩);intro C7;have h1:=db.1 C7;have e1:fps.flatten=(fps.take n).flatten++(fps.drop n).flatten:=by rw[<-dV,cb]
 rw[e1]at h1;exact db.2 ⟨λhm=>h1.1 (by simp[hm]),(aI.1 h1.2).2.1⟩
theorem Z0 {an:An}{o:Oper}{ep:Nat}{pv:ax (jW×Nat)}{p:Int}:KZ an o (.loc ep pv) p=.loc ep none\/∃rt t,pv=some (rt,t)/\KZ an o (.loc ep pv) p=.part ep rt t p:=by
 unfold KZ;split;rename_i ep' r t d h _;cases h;cases an.nest.contains d with|false=>exact .inl rfl|true=>exact .inr ⟨_,_,rfl,rfl⟩
 exact .inl rfl
theorem Lm {E:Env}(hE:ja P E.ty){o:Oper}{lo hi:ax Operand}(ho:o.op=.slice T x lo hi none)(h:mZ C st a w){K:AS->ax R}(hk:uN E o T x lo hi st K=some r):lS P C o a w K r:=by
 obtain⟨g,hg⟩:=h;unfold uN at hk;split at hk;rename_i tag e xs bK kd p qT hlo;split at hk;rename_i hT;cases lo with
 |none=>simp at hlo
 |some lo=>
  simp at hlo;have hlv:=hg.rd lo;rw[hlo]at hlv;obtain⟨te,hu,⟨inf,z,zO,sV,_⟩,_⟩:=CD hE hT;obtain⟨g',mX⟩:=hg.take x;rw[qT]at mX;simp only[cu]at mX;cases oD:sub xs p xs.length with
  |none=>rw[oD]at hk;cases hk
  |some LV=>
   rw[oD]at hk;simp only[aa]at hk;obtain⟨h1,h2,_,rfl⟩:=Lz oD;obtain⟨fp,eK,C7,hl⟩:=mX.hands 0 _ _ rfl;have gE:=(ej eK).1;obtain⟨bo,cap,hv,Fc,jI,Ff,amZ,Pr⟩:=acA gE (n:=p.toNat) (by omega);have ec:(execOp a.eval o).run P w=.ok (.value (.slice (if cap=p.toNat then bo else bo.map (·.add (p.toNat*e.size))) (xs.length-p.toNat) (cap-p.toNat))) w:=by
    have hb:(Instr.sliceBounds true xs.length cap (some (a.eval lo)) none none).run P w=.ok (p.toNat,xs.length,cap) w:=by have hp2:p<=(xs.length:Int):=h2;simp[Instr.sliceBounds,Instr.sliceBound,asIntOf,iD hlv,h1,hp2]
    simp only[execOp,ho,hv,Instr.sliceAt,Instr.slice,underlying,Option.map_none,dc,Sem.run_bind,run_program,hu,Result.andThen_ok,Sem.run_pure,hb,sizeOf,typeInfo,zO,sV]
   have zt:(xs.take ((xs.length:Int).toNat)).drop p.toNat=xs.drop p.toNat:=by rw[az,dS]
   rw[zt]at hk;refine⟨_,_,_,.inl ec,?_,hk⟩;refine mX.K9 o.dst (hw':=g'.hw) (fp:=jI) (Fr.refl _ _) (λ_ _ _ _=>rfl) (λ_ _ _ ho hu=>⟨ho,hu⟩) Ff (Pr C7) (λb hb=>?_);have:=hl b (amZ b hb);exact⟨(mX.fS b _ this).1,.inl (by rw[this];rfl)⟩
 cases hk;cases hk
theorem V3 {E:Env}(hE:ja P E.ty){an:An}{o:Oper}{lo hi:ax Operand}(ho:o.op=.slice T x lo hi none)(h:mZ C st a w){K:AS->ax R}(hk:yn E an o T x lo hi st K=some r):lS P C o a w K r:=by
 obtain⟨g,hg⟩:=id h;have sW:=hg.fresh (hg.rd x);unfold yn at hk;split at hk;exact Lm hE ho h hk;split at hk;rename_i s hx;rw[hx]at sW;split at hk;rename_i hT;have hu:=Qp hE hT;have hv:=(ej sW).1;obtain⟨p,q,Pq,ec⟩:=Jh (P:=P) (w:=w) hg (aU s.length) hk false;cases oD:sub s p q with|none=>rw[oD]at Pq;cases Pq|some s'=>rw[oD]at Pq;simp only[aa]at Pq;obtain⟨h1,h2,h3,rfl⟩:=Lz oD;have hb:=ec h1 h2 h3;refine th h _ _ ?_ (IY _) Pq;simp only[execOp,ho,hv,Instr.sliceAt,Instr.slice,underlying,Option.map_none,Sem.run_bind,run_program,hu,Result.andThen_ok,Sem.run_pure,vD,hb,Option.isSome_none,aW,bX,extract_mk]
 cases hk;rename_i fl e xs hx;rw[hx]at sW;split at hk;rename_i hT;obtain⟨hT,nL⟩:=hT;obtain⟨te,hu,⟨inf,z,zO,sV,_⟩,_⟩:=CD hE hT;have hc:=ej sW
 have key:∀(S:Nat->Nat->Prop),iS w S (.sl e) [a.eval x] xs->(∀(p q:Int)(bo:ax Addr)(cap:Nat),0<=p->p<=q->q<=xs.length->xs.length<=cap->a.eval x=.slice bo xs.length cap->
  iS w S (.sl e) [.slice (if cap=p.toNat then bo else bo.map (·.add (p.toNat*e.size))) (q.toNat-p.toNat) (cap-p.toNat)] ((xs.take q.toNat).drop p.toNat)->
  gB (cG C g st w) (.slice (if cap=p.toNat then bo else bo.map (·.add (p.toNat*e.size))) (q.toNat-p.toNat) (cap-p.toNat)) (.sl (KZ an o fl p) e ((xs.take q.toNat).drop p.toNat)) [])->lS P C o a w K r:=by
  intro S Fh hmk
  have Fc:∃bo cap,a.eval x=.slice bo xs.length cap/\xs.length<=cap:=by obtain⟨bo,cap,hv,hc,_⟩:=Xy Fh (x:=0) (y:=0) (aU _) (bO _);exact⟨bo,cap,hv,hc⟩
  obtain⟨bo,cap,hv,Fc⟩:=Fc
  obtain⟨p,q,Pq,ec⟩:=Jh (P:=P) (w:=w) hg Fc hk true
  cases oD:sub xs p q with
  |none=>rw[oD]at Pq;cases Pq
  |some LV=>
   rw[oD]at Pq
   simp only[aa]at Pq
   obtain⟨h1,h2,h3,rfl⟩:=Lz oD
   have hb:=ec h1 h2 h3
   obtain⟨bo',auf,Pw,_,abH⟩:=Xy Fh (x:=p.toNat) (y:=q.toNat) (by omega) (by omega)
   rw[hv]at Pw
   simp only[Value.slice.injEq,true_and]at Pw
   obtain⟨rfl,rfl⟩:=Pw
   refine⟨.slice (if cap=p.toNat then bo else bo.map (·.add (p.toNat*e.size))) (q.toNat-p.toNat) (cap-p.toNat),w,_,.inl ?_,⟨g,hg.quiet o.dst (lK (hmk p q _ _ h1 h2 h3 Fc hv abH))⟩,Pq⟩
   simp only[execOp,ho,hv,Instr.sliceAt,Instr.slice,underlying,Option.map_none,Sem.run_bind,run_program,hu,Result.andThen_ok,Sem.run_pure,hb,sizeOf,typeInfo,zO,sV]
 cases fl with
 |own t=>cases nL
 |nest _ _ _ _ _ _=>cases nL
 |part _ _ _ _=>cases nL
 |fa _ _ _=>cases nL
 |arg _=>exact key _ hc.2 (λp q bo cap _ _ _ _ _ hr=>by simp only[KZ,pj.bare];exact⟨rfl,hr⟩)
 |loc ep pv=>
  have wB:ep=st.ep:=by simpa[pj.live]using nL
  refine key _ (hc.2.2.2.1 wB) (λp q bo cap hp hpq hq Fc hv hr=>?_);have hlen:((xs.take q.toNat).drop p.toNat).length=q.toNat-p.toNat:=by simp;omega
  have plain:gB (cG C g st w) (.slice (if cap=p.toNat then bo else bo.map (·.add (p.toNat*e.size))) (q.toNat-p.toNat) (cap-p.toNat)) (.sl (.loc ep none) e ((xs.take q.toNat).drop p.toNat)) []:=⟨rfl,hc.2.1,⟨_,_,_,rfl,hlen.symm⟩,λ_=>hr,by simp⟩
  rcases Z0 (an:=an) (o:=o) (ep:=ep) (pv:=pv) (p:=p)with hpf|⟨rt,t,rfl,hpf⟩;rw[hpf];exact plain;rw[hpf];refine⟨rfl,hc.2.1,⟨_,_,_,rfl,hlen.symm⟩,λ_=>?_⟩;have DF:=hc.2.2.2.2 rt t rfl;refine⟨DF.1,?_⟩;by_cases hz:q.toNat-p.toNat=0;exact .inl (bV (by rw[hlen];exact hz));right;obtain⟨u,hu,Fh⟩:=hc.2.2.2.1 wB;simp at hu;rcases Fh with⟨_,rfl⟩|⟨b,o0,Uq,Px,UP,_⟩;simp at hlen;omega;rw[<-hu,hv]at Px;simp only[Value.slice.injEq,true_and]at Px;obtain⟨rfl,rfl⟩:=Px;refine⟨p.toNat,b,o0,xs.length,cap,cap-p.toNat,by omega,by rw[<-DF.2,hv],by rw[hlen];omega,?_⟩;rw[lR,hlen];simp[mx]
 cases hk;cases hk
theorem QY {E:Env}(hE:ja P E.ty)(h:E.bytes T=true):∃te,P.underlying T=some (.slice te)/\P.underlying te=some (.int .u8):=by unfold Env.bytes at h;split at h;rename_i te n hT;split at h;rename_i jv hte;obtain⟨te',hu,_,ho⟩:=(hE T _ hT).sl _ rfl rfl;have:=ho te n rfl;subst this;exact⟨te,hu,(hE te _ hte).int _ rfl rfl⟩;cases h;cases h
theorem aac {w:World}{S:Nat->Nat->Prop}{xs:cL}(h:iS w S (.sl (.int .u8)) [v] xs): ((∃a,v=.slice a 0 0)/\xs=[])\/∃b o cap,v=.slice (some ⟨b,o,none⟩) xs.length cap/\∀i,i<xs.length->w.cell? ⟨b,o+i,none⟩=some (.int .u8 (xs.getD i 0)):=by obtain⟨u,hu,h⟩:=h;simp at hu;subst hu;rcases h with h|⟨b,o,cap,hv,_,h⟩;exact .inl h;refine .inr ⟨b,o,cap,hv,λi hi=>?_⟩;obtain⟨cs,GD,hr⟩:=h i xs[i] (al hi);have hr':cs=[.int .u8 xs[i]]:=hr;subst hr';have:=(GD 0 _ rfl).2;simp only[CT.size,my,dT]at this;rw[this];simp[List.getD,al hi]
theorem Oh {E:Env}(hE:ja P E.ty){o:Oper}{src dst:TypeId}(ho:o.op=.convert src dst x)(h:mZ C st a w){K:AS->ax R}(hk:kX E o src dst x st K=some r):lS P C o a w K r:=by
 obtain⟨g,hg⟩:=id h;have sW:=hg.rd x;have fin:∀v w',(convert src dst (a.eval x)).run P w=.ok v w'->(execOp a.eval o).run P w=.ok (.value v) w':=by intro v w' hr;simp only[execOp,ho];show(convert src dst (a.eval x)>>=λv=>pure (Next.value v)).run P w=_;rw[Sem.run_bind,hr];rfl
 have under:∀(T:TypeId)(sh:Shape),iQ E.ty T=some sh->∃d,P.underlying T=some d:=by
  intro T sh hT;have mY:=hE T sh hT;cases IS:sh.agg with
  |true=>obtain⟨fs,hu,_⟩:=mY.agg IS;exact⟨_,hu⟩
  |false=>
   cases HH:sh.ct with
   |int k=>exact⟨_,mY.int k HH IS⟩
   |bool=>exact⟨_,mY.bool HH IS⟩
   |str=>exact⟨_,mY.str HH IS⟩
   |sl e=>obtain⟨te,hu,_⟩:=mY.sl e HH IS;exact⟨_,hu⟩
   |pair p q=>have:=mY.pair p q HH;rw[IS]at this;cases this
 unfold kX at hk;split at hk;rename_i ssh k jv k' n hs hd hx;rw[hx]at sW;obtain⟨ds,hus⟩:=under _ _ hs;have hud:=(hE dst _ hd).int k rfl rfl;refine th h _ _ (fin (.int k (k.wrap n)) w ?_) (jM _ _) hk;rw[iD sW];simp only[convert,underlying,Sem.run_bind,run_program,hus,hud,Result.andThen_ok,Sem.run_pure];rfl;rename_i jv aud s hs hd hx;rw[hx]at sW;have hus:=(hE src _ hs).str rfl rfl;have hud:=(hE dst _ hd).str rfl rfl;refine th h _ _ (fin (.string ⟨s.toArray⟩) w ?_) (IY _) hk;rw[(ej sW).1];simp only[convert,underlying,Sem.run_bind,run_program,hus,hud,Result.andThen_ok,Sem.run_pure];rename_i jv sh s It hs hd hx;rw[hx]at sW;split at hk;rename_i hb;unfold room at hk;split at hk;obtain⟨te,hu,hte⟩:=QY hE hb;have hus:=(hE src _ hs).str rfl rfl;have ec:=run_bytes_of_string (P:=P) w src dst te ⟨s.toArray⟩ hus hu hte;rw[<-(ej sW).1,vD]at ec;refine⟨_,_,_,.inl (fin _ _ ec),?_,hk⟩;have yt:=grownCap_ge w s.length 0 te;have sV:(bytesRow ⟨s.toArray⟩ (grownCap w s.length 0 te)).size=grownCap w s.length 0 te*CT.size (.int .u8):=by simp only[bytesRow,Array.size_append,Array.size_map,Array.size_replicate,vD,CT.size];simp;omega
 have qT:(bytesRow ⟨s.toArray⟩ (grownCap w s.length 0 te)).toList.take ((di s).length*CT.size (.int .u8))=(di s).map (Value.int .u8):=by simp only[bytesRow,di,CT.size,Array.toList_append,Array.toList_map];rw[List.take_append_of_le_length (by simp)];rw[bN (by simp)];simp
 have Cd:jS g.hw w (.int .u8) ((bytesRow ⟨s.toArray⟩ (grownCap w s.length 0 te)).toList.take ((di s).length*CT.size (.int .u8))) (di s) (List.replicate s.length []):=by
  rw[qT];refine⟨by simp[CT.size],by simp[di],λi y f hy hf=>?_⟩;have hi:i<(di s).length:=(aG.1 hy).1;have hf':f=[]:=by rw[dX]at hf;split at hf<;>simp at hf;exact hf
  subst hf';refine⟨?_,rfl⟩;apply cz;intro j;rw[iX];simp only[CT.size,my];cases j with|zero=>simp[hy]|succ j=>simp
 have hlen:(di s).length=s.length:=by simp[di]
 have:=hg.KV o.dst (T:=te) (fr:=((bytesRow ⟨s.toArray⟩ (grownCap w s.length 0 te)).size,(bytesRow ⟨s.toArray⟩ (grownCap w s.length 0 te)).size+1)) (cap:=grownCap w s.length 0 te) (.inr rfl) (by intro j hj hc;simp only at hc;omega) sV (by rw[hlen];exact yt) Cd (by simp) (by simp);rw[hlen]at this;exact this;cases hk;cases hk;rename_i ssh jv fl xs hs hd hx;rw[hx]at sW;split at hk;rename_i hb;obtain⟨hb,nL⟩:=hb;obtain⟨te,hu,hte⟩:=QY hE hb;have hud:=(hE dst _ hd).str rfl rfl;have hc:=ej sW;have Fh:∃S,iS w S (.sl (.int .u8)) [a.eval x] xs:=by
  cases fl with
  |own t=>cases nL
  |nest _ _ _ _ _ _=>cases nL
  |part _ _ _ _=>cases nL
  |fa _ _ _=>cases nL
  |arg _=>exact⟨_,hc.2⟩
  |loc ep pv=>
   have wB:ep=st.ep:=by simpa[pj.live]using nL
   exact⟨_,hc.2.2.2.1 wB⟩
 obtain⟨S,Fh⟩:=Fh;refine th h _ _ (fin (.string ⟨(aJ xs).toArray⟩) w ?_) (IY _) hk;rcases aac Fh with⟨⟨ad,hv⟩,rfl⟩|⟨b,ob,cap,hv,zM⟩;cases ad with|none=>rw[hv,run_convert_bytes_nil w src te hu hte 0 0 dst hud];rfl|some ad=>rw[hv];exact run_convert_bytes_back w src dst te ad 0 [] hu hte hud (λj hj=>by simp at hj)
 rw[hv,run_convert_bytes_arg w src te hu hte b ob xs.length cap xs rfl zM dst hud];rfl;cases hk;cases hk
end Go.Dn
