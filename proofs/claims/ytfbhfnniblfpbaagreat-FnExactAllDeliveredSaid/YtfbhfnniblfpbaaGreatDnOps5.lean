import Derived.Test.YtfbhfnniblfpbaaGreatDnOps4
import Derived.Laws.MakeOwn
import Derived.Laws.IdiomStrings
import Derived.Laws.BytesArg
/- Part 5: tuples, parts of slices, conversions, structs and slices that are built. -/
namespace Go.Dn
open Go.RowKit
variable {P:Program} {C:Ctx} {st:AS} {a:Act} {w:World} {R:Type} {r:R}
variable {arr:Array Value} {e:CT} {g:Gh} {cap:Nat} {fr:Nat×Nat} {hw:Nat->Nat} {x:Operand} {T:TypeId} {hs:au (Value×AV)} {fps:au dI} {news:gP}
theorem qu.at {c:RC}:∀{ws:gP}{ts:au (Bool×au AC)}{fp:dI},fy.qu c ws ts fp->∀{i:Nat}{g:Bool}{cs:au AC},ts[i]?=some (g,cs)->
 ∃v f1 f2 f3,ws[i]?=some v/\fp=f1++f2++f3/\(∃us,Cut g v us/\bp c us cs f2)/\
  ∀c':RC,c.Le c'->(∀b∈f1++f3,c'.w.heap[b]?=c.w.heap[b]?/\c'.hw b=c.hw b)->∀mK,(∃us,Cut g v us/\bp c' us mK [])->fy.qu c' ws (ts.set i (g,mK)) (f1++f3)
 |[],[],_,_,i,g,cs,h=>by simp at h
 |w::ws,t::ts,_,r,0,g,cs,h=>by obtain⟨f1,f2,rfl,r1,r2⟩:=r;simp at h;subst h;exact⟨w,[],f1,f2,rfl,by simp,r1,λc' hle hb mK Dg=>⟨[],f2,rfl,Dg,qu.mono hle r2 (λb gn=>hb b (by simpa using gn))⟩⟩
 |w::ws,t::ts,_,r,i+1,g,cs,h=>by obtain⟨f1,f2,rfl,r1,r2⟩:=r;obtain⟨v,g1,g2,g3,hv,rfl,hr,Eb⟩:=qu.at r2 (i:=i) (by simpa using h);refine⟨v,f1++g1,g2,g3,by simpa using hv,by simp,hr,λc' hle hb mK Dg=>?_⟩;obtain⟨us,dM,dx⟩:=r1;rw[aP];refine⟨f1,g1++g3,rfl,⟨us,dM,dx.mono hle (λb gn=>hb b (by simp[gn]))⟩,?_⟩;exact Eb c' hle (λb gn=>hb b (by rcases ay.1 gn with k|k<;>simp[k])) mK Dg
 |[],_::_,_,r,_,_,_,_=>r.elim
 |_::_,[],_,r,_,_,_,_=>r.elim
theorem Su {o:Oper}{t i:Nat}(ho:o.op=.extract (.tmp t) i)(h:nb C st a w){K:AS->aw R}(hk:lG o t i st K=some r):mJ P C o a w K r:=by
 obtain⟨g,h⟩:=h;unfold lG at hk;split at hk;rename_i ts hg;split at hk;rename_i gg cs hn;rw[dv]at hn;have htl:t<st.slots.length:=by
  rcases bL t st.slots.length with gq|zX;exact gq;have:st.get t=.bot:=by simp[AS.get,dv,bE zX]
  rw[this]at hg;cases hg
 obtain⟨fp,hr,D9,hl⟩:=h.slot t;rw[hg]at hr;obtain⟨ws,hv,hr⟩:=hr;obtain⟨v,f1,f2,f3,hwv,rfl,QZ,Eb⟩:=qu.at hr hn;have dA:(execOp a.eval o).run P w=.ok (.value v) w:=by have he:a.eval (.tmp t)=.tuple ws.toArray:=hv;simp[execOp,ho,he,Instr.extract,hwv]
 have SI:=D9;rw[aP]at SI;have n1:=aB.1 SI;have n2:=aB.1 n1.2.1;let PV:AV:=.vq (gG ts i (gg,aS 0 cs));let st':AS:=st.put (some t) PV;let g':Gh:={g with dB:=λb=>if b∈f2 then some (.hand 0) else g.dB b}
 have hle:(cq C g st w).Le (cq C g' st' w):=by have:= @S2 C g st w (some t) PV;exact⟨this.A,this.hdr,this.Uh,this.ep,this.JW,this.abQ⟩
 have WL:∀b y,g.dB b=some y->b∉f2->g'.dB b=some y:=by intro b y hb hm;show(if b∈f2 then _ else _)=_;rw[aE hm];exact hb
 have ME:∀b y,y≠ .slot t->g.dB b=some y->b∉f2:=λb y hy hb hm=>hy (by have:=hl b (by simp[hm]);rw[hb]at this;simpa using this);have ahm:dk C g' st' a w [(v,.val gg cs)]:=by
  refine h.step (λy=>y≠ .slot t) hle h.defers (by show _=(st.put (some t) PV).slots.length;rw[fw,aJ];exact h.size) (by show(st.put (some t) PV).boxes.length=(st.put (some t) PV).slots.length;rw[kx,fw,aJ];exact h.bsize) h.frame ?_ (λb y hy hb=>⟨WL b y hb (ME b y hy hb),rfl,rfl⟩) ?_ ?_ ?_ (.inl ⟨by simp,KZ⟩);intro b y hy;have Q1:(if b∈f2 then some (iT.hand 0) else g.dB b)=some y:=hy;by_cases hm:b∈f2;exact h.fa b _ (hl b (by simp[hm]));rw[aE hm]at Q1;exact h.fa b y Q1;intro j bv hj;have hj':(st.slots.set t PV)[j]?=some bv:=by rw[<-fw];exact hj
  by_cases hjt:j=t;subst hjt;rw[bk]at hj';simp only[bN,htl]at hj';simp at hj';subst hj';refine .inr ⟨f1++f3,⟨ws,hv,?_⟩,?_,?_⟩;rw[eJ];obtain⟨us,dM,dx⟩:=QZ;refine Eb _ hle (λb _=>⟨rfl,rfl⟩) _ ⟨us,dM,?_⟩;exact(dx.Zd).mono hle (by simp);refine aB.2 ⟨n1.1,n2.2.1,?_⟩;rintro b hb c hc rfl;exact n1.2.2 b hb b (ba _ hc) rfl;intro b hb;refine WL b _ (hl b (by rcases ay.1 hb with k|k<;>simp[k])) (λhm=>?_);rcases ay.1 hb with k|k;exact n1.2.2 b k b (bj _ hm) rfl;exact n2.2.2 b hm b k rfl;rw[aN (cD hjt)]at hj';exact .inl ⟨by simpa using hjt,hj',rfl⟩;intro s mK hb;have gn:st.boxes[s]?=some (some mK):=by rw[<-kx (d:=some t) (v:=PV)];exact hb
  exact .inl ⟨by simp,gn,rfl⟩;intro k u bv Gf;cases k with
  |zero=>simp only[ch,aZ,Prod.mk.injEq]at Gf;obtain⟨rfl,rfl⟩:=Gf;obtain⟨us,dM,dx⟩:=QZ;refine .inr ⟨f2,⟨us,dM,dx.mono hle (λb _=>⟨rfl,rfl⟩)⟩,n2.1,λb hb=>?_⟩;show(if b∈f2 then _ else _)=_;rw[aF hb]
  |succ k=>simp at Gf
 exact⟨v,w,_,.inl dA,dk.EI ahm o.dst,hk⟩;cases hk;cases hk
def ko (hw:Nat->Nat)(w:World)(e:CT)(news:gP)(ys:au e.D)(fps:au dI):Prop:=
 news.length=ys.length*e.size/\fps.length=ys.length/\∀(i:Nat)(y:e.D)(f:dI),ys[i]?=some y->fps[i]?=some f->dW hw w e ((news.drop (i*e.size)).take e.size) y f
theorem ko.append {w:World}{n1 n2:gP}{xs ys:au e.D}{f1 f2:au dI}(h1:ko hw w e n1 xs f1)(h2:ko hw w e n2 ys f2): ko hw w e (n1++n2) (xs++ys) (f1++f2):=by
 obtain⟨a1,a2,a3⟩:=h1;obtain⟨b1,b2,b3⟩:=h2;refine⟨by rw[ar,ar,a1,b1,cl],by simp[a2,b2],λi y f hy hf=>?_⟩;by_cases hi:i<xs.length;rw[bA hi]at hy;rw[bA (by omega)]at hf;have hm:(i+1)*e.size<=xs.length*e.size:=cA _ hi;rw[cl,ei]at hm;have:=a3 i y f hy hf;have e1:((n1++n2).drop (i*e.size)).take e.size=(n1.drop (i*e.size)).take e.size:=by rw[List.drop_append_of_le_length (by omega),List.take_append_of_le_length (by rw[bh];omega)]
 rw[e1];exact this;rw[bq (by omega)]at hy;rw[bq (by omega),a2]at hf;have:=b3 _ y f hy hf;have zX:xs.length*e.size<=i*e.size:=cA _ (by omega);have e1:(n1++n2).drop (i*e.size)=n2.drop ((i-xs.length)*e.size):=by rw[List.drop_append,cK (by omega),bK,a1,Nat.sub_mul]
 rw[e1];exact this
theorem ko.mono {hw':Nat->Nat}{w w':World}{ys:au e.D}(h:ko hw w e news ys fps)(hk:∀b∈fps.flatten,w'.heap[b]?=w.heap[b]?/\hw' b=hw b):ko hw' w' e news ys fps:=⟨h.1,h.2.1,λi y f hy hf=>dW.mono (h.2.2 i y f hy hf) λb hb=>hk b (List.mem_flatten.2 ⟨f,cL hf,hb⟩)⟩
theorem ko.nil (hw:Nat->Nat)(w:World)(e:CT):ko hw w e [] [] []:=⟨by simp,rfl,by simp⟩
theorem ko.mU {w:World}{ys:au e.D}(h:ko hw w e news ys fps):∀v∈news,v.oneCell'=true:=by
 intro v hv;obtain⟨j,hj,hjv⟩:=List.mem_iff_getElem.1 hv;have aaN:=e.size_pos;have hi:j/e.size<ys.length:=by rw[Nat.div_lt_iff_lt_mul aaN];rw[<-h.1];exact hj
 have eE:=h.2.2 (j/e.size) _ _ (al hi) (al (by rw[h.2.1];exact hi));refine dW.mU eE v ?_;rw[List.mem_iff_getElem?];refine⟨j%e.size,?_⟩;rw[ja,aF (Nat.mod_lt _ aaN),Nat.mul_comm,Nat.div_add_mod,al hj,hjv]
theorem Yk {w:World}{b o0:Nat}{xs:au e.D}(hb:w.heap[b]?=some (.cells arr T fr))(qG:pL arr fr)(hs:arr.size=o0+cap*e.size)(hc:xs.length<=cap)(hh:hw b=o0+xs.length*e.size)(Gd:ko hw w e ((arr.toList.drop o0).take (xs.length*e.size)) xs fps): dW hw w (.sl e) [.slice (some ⟨b,o0,none⟩) xs.length cap] xs (b::fps.flatten):=by
 refine⟨_,rfl,.inr ⟨b,o0,cap,arr,T,fr,fps,rfl,hb,qG,hs,hc,hh,rfl,Gd.2.1,λi x f hx hf=>?_⟩⟩;have:=Gd.2.2 i x f hx hf;have hi:i<xs.length:=(aD.1 hx).1;have hm:(i+1)*e.size<=xs.length*e.size:=cA _ hi;rw[cl,ei]at hm;have e1:(((arr.toList.drop o0).take (xs.length*e.size)).drop (i*e.size)).take e.size=(arr.toList.drop (o0+i*e.size)).take e.size:=by apply cI;intro j;rw[ja,ja,ja];by_cases hj:j<e.size;rw[aF hj,aF hj,zip,fb];rw[aE hj,aE hj]
 rw[e1]at this;exact this
theorem Lc {w:World}{o0:Nat}{xs:au e.D}(hs:arr.size=o0+cap*e.size)(hc:xs.length<=cap)(hl:fps.length=xs.length)(h:∀(i:Nat)(x:e.D)(f:dI),xs[i]?=some x->fps[i]?=some f->dW hw w e ((arr.toList.drop (o0+i*e.size)).take e.size) x f):ko hw w e ((arr.toList.drop o0).take (xs.length*e.size)) xs fps:=by
 refine⟨?_,hl,λi x f hx hf=>?_⟩;have hal:(arr.toList.drop o0).length=cap*e.size:=by rw[bh,Array.length_toList,hs];omega
 rw[bn,hal];exact iI (cA _ hc);have hi:i<xs.length:=(aD.1 hx).1;have hm:(i+1)*e.size<=xs.length*e.size:=cA _ hi;rw[cl,ei]at hm;have e1:(((arr.toList.drop o0).take (xs.length*e.size)).drop (i*e.size)).take e.size=(arr.toList.drop (o0+i*e.size)).take e.size:=by apply cI;intro j;rw[ja,ja,ja];by_cases hj:j<e.size;rw[aF hj,aF hj,zip,fb];rw[aE hj,aE hj]
 rw[e1];exact h i x f hx hf
theorem NW {w w':World}{S:Nat->Nat->Prop}:∀{e:CT}{vs:gP}{x:e.D},iU w' S e vs x->e.flat=true->dW hw w e vs x []
 | .int _,_,_,h,_=>⟨h,rfl⟩
 | .bool,_,_,h,_=>⟨h,rfl⟩
 | .str,_,_,h,_=>⟨h,rfl⟩
 | .sl _,_,_,_,hf=>by cases hf
 | .pair a b,_,_,h,hf=>by obtain⟨v1,v2,rfl,h1,h2⟩:=h;simp only[CT.flat,ah]at hf;exact⟨v1,v2,[],[],rfl,rfl,NW h1 hf.1,NW h2 hf.2⟩
def N6 (hdr:Nat->Value)(t:aw Nat)(v:Value):Nat->Value:=λu=>if t=some u then v else hdr u
theorem Xz {hdr:Nat->Value}{d:aw Nat}{v:Value}{t:Nat}(h:ll st t):N6 hdr (st.gV d 0) v t=hdr t:=by unfold N6;rw[aE];intro e;exact(py e).1 h
theorem dk.OV (h:dk C g st a w hs)(d:aw Nat){xs:au e.D}{v:Value}{fp:dI}{w':World}{hw':Nat->Nat}(gw:Fr (λb=>cQ (g.dB b)) w w')(Bl:∀b x,g.dB b=some x->¬cQ (some x)->hw' b=g.hw b)(Jq:∀b o u,o<g.hw b->w.cell? ⟨b,o,none⟩=some u->o<hw' b/\w'.cell? ⟨b,o,none⟩=some u)(eE:dW hw' w' (.sl e) [v] xs fp)(hn:fp.Nodup)(B7:∀b∈fp,b<w'.heap.size/\(cQ (g.dB b)\/w.heap.size<=b)): nb C (st.pH d e xs) (a.put d v) w':=by refine h.OU d (st1:=st.eX d) (hdr':=N6 g.hdr (st.gV d 0) v) JN vj Cd Bc (λt ht=>⟨Em ht,Xz ht⟩) gw Bl Jq (mu ⟨eE,λt ht=>?_⟩) hn B7;refine⟨(py ht).2.1,?_⟩;show v=N6 g.hdr (st.gV d 0) v t;unfold N6;rw[aF ht]
theorem dk.OI (h:dk C g st a w hs)(d:aw Nat){xs:au e.D}{w':World}(hw:w'=w.alloc (.cells arr T fr)\/w'=w.drew.alloc (.cells arr T fr))(qG:pL arr fr)(hs0:arr.size=cap*e.size)(hc:xs.length<=cap)(Gd:ko g.hw w e (arr.toList.take (xs.length*e.size)) xs fps)(hn:fps.flatten.Nodup)(B7:∀b∈fps.flatten,cQ (g.dB b)): nb C (st.pH d e xs) (a.put d (.slice (some ⟨w.heap.size,0,none⟩) xs.length cap)) w':=by
 have gw:Fr (λb=>cQ (g.dB b)) w w':=by rcases hw with rfl|rfl;exact Fr.alloc _ _ _;exact(Fr.drew _ w).trans (Fr.alloc _ _ _) (λb _ hh=>hh)
 have UN:w'.heap[w.heap.size]?=some (.cells arr T fr):=by rcases hw with rfl|rfl;exact heap_alloc_new w _;exact heap_alloc_new w.drew _
 have sR:w'.heap.size=w.heap.size+1:=by rcases hw with rfl|rfl<;>simp
 have hold:∀b,b<w.heap.size->w'.heap[b]?=w.heap[b]?:=by intro b hb;rcases hw with rfl|rfl;exact heap_alloc_old w _ b hb;exact heap_alloc_old w.drew _ b hb
 have gq:∀b∈fps.flatten,b<w.heap.size:=by intro b hb;have hh:=B7 b hb;cases hx:g.dB b with|none=>rw[hx]at hh;cases hh|some x=>exact(h.fa b x hx).1
 let hw':Nat->Nat:=λb=>if b=w.heap.size then xs.length*e.size else g.hw b
 have eE:dW hw' w' (.sl e) [.slice (some ⟨w.heap.size,0,none⟩) xs.length cap] xs (w.heap.size::fps.flatten):=by refine Yk (o0:=0) UN qG (by rw[cc];exact hs0) hc (by simp[hw']) (Gd.mono λb hb=>?_);have gn:=gq b hb;exact⟨hold b gn,by simp[hw',gD gn]⟩
 refine h.OV d (hw':=hw') (fp:=w.heap.size::fps.flatten) gw ?_ ?_ eE ?_ ?_;intro b x hx _;simp[hw',gD (h.fa b x hx).1];intro b o u ho hu;have hb:b<w.heap.size:=World.block_lt_of_cell? w _ hu;exact⟨by simp[hw',gD hb];exact ho,by rw[World.cell?_of_block (a:=⟨b,o,none⟩) (hold b hb)];exact hu⟩;exact cJ.2 ⟨λhm=>ng _ (gq _ hm),hn⟩;intro b hb;rcases cg.1 hb with rfl|hb;exact⟨by omega,.inr (aX _)⟩;exact⟨by have:=gq b hb;omega,.inl (B7 b hb)⟩
theorem ad2 {z:Array Value}{c size i:Nat}(hz:z.size=size)(hi:i<c):((madeCells z (c*size)).toList.drop (i*size)).take size=z.toList:=by
 have hm:(i+1)*size<=c*size:=cA _ hi;rw[cl,ei]at hm;apply cI;intro j;rw[ja];by_cases hj:j<size;rw[aF hj,madeCells];have h1:i*size+j<c*size:=by omega
 simp only[Array.toList_map,Array.toList_range,List.getElem?_map,List.getElem?_range h1,cY];have ahc:(i*size+j)%z.size=j:=by rw[hz,Nat.mul_comm,Nat.mul_add_mod,Nat.mod_eq_of_lt hj]
 rw[ahc];simp[getElem!_pos,hz,hj];rw[aE hj,bE];simp[hz];omega
theorem OB {E:Env}(hE:jf P E.ty){o:Oper}{n c:Operand}(ho:o.op=.makeSlice T n c)(h:nb C st a w){K:AS->aw R}(hk:oy E o T n c st K=some r):mJ P C o a w K r:=by
 obtain⟨g,hg⟩:=id h;have hnv:=hg.rd n;have hcv:=hg.rd c;unfold oy at hk;split at hk;rename_i e len cap hT hn hc;rw[hn]at hnv;rw[hc]at hcv;split at hk;rename_i hlc;unfold room at hk;split at hk;rename_i HS;obtain⟨te,hu,⟨inf,z,Dv,sR,hby,hz,hzc⟩,_⟩:=GK hE hT;have HH:cap<=1073741824:=by omega
 have agV:(inf.bytes:Int)*cap<=281474976710656:=by have h1:(inf.bytes:Int)*cap<=65536*cap:=Int.mul_le_mul_of_nonneg_right (by omega) (by omega);omega
 have dA:=run_make (P:=P) w T te inf z hu Dv hz .i64 .i64 len cap hlc.1 hlc.2 agV (by omega);have HU:(execOp a.eval o).run P w=.ok (.value (.slice (some ⟨w.heap.size,0,none⟩) len.toNat cap.toNat)) (w.alloc (.cells (madeCells z.cells (cap.toNat*inf.size)) te)):=by simp only[execOp,ho,iE hnv,iE hcv];show((Instr.makeSlice T (.int .i64 len) (.int .i64 cap))>>=λv=>pure (Next.value v)).run P w=_;rw[Sem.run_bind,dA];rfl
 have hzs:z.cells.size=e.size:=by rw[<-pg e,<-hzc];simp
 have hlen:(List.replicate len.toNat e.zero).length=len.toNat:=by simp
 have Gd:ko g.hw w e ((madeCells z.cells (cap.toNat*inf.size)).toList.take ((List.replicate len.toNat e.zero).length*e.size)) (List.replicate len.toNat e.zero) (List.replicate len.toNat []):=by
  refine Lc (o0:=0) (cap:=cap.toNat) (by rw[size_madeCells,sR,cc]) (by rw[hlen];omega) (by simp) (λi x f hx hf=>?_);have hi:i<len.toNat:=by have:=(aD.1 hx).1;simpa using this
  rw[db,aF hi]at hx hf;simp at hx hf;subst hx;subst hf;rw[sR,cc,ad2 hzs (by omega),hzc];exact GY _ _ _
 refine⟨_,_,_,.inl HU,?_,hk⟩;have:=hg.OI o.dst (T:=te) (fr:=(0,0)) (cap:=cap.toNat) (.inl rfl) (by intro j _;simp) (by rw[size_madeCells,sR]) (by rw[hlen];omega) Gd (by simp) (by simp);rw[hlen]at this;exact this;cases hk;cases hk;cases hk
theorem Nt {lo hi:aw Operand}(hg:dk C g st a w []){n:Nat}(HH:n<=cap){K:Int->Int->aw R}(hk:mM st lo hi n K=some r)(isS:Bool): ∃x y:Int,K x y=some r/\(0<=x->x<=y->y<=n->(Instr.sliceBounds isS n cap (lo.map a.eval) (hi.map a.eval) none).run P w=.ok (x.toNat,y.toNat,cap) w):=by
 unfold mM at hk;split at hk;rename_i h1 h2;have e1:lo=none:=by cases lo<;>simp at h1⊢
 have e2:hi=none:=by cases hi<;>simp at h2⊢
 subst e1;subst e2;exact⟨0,n,hk,λ_ _ _=>by simp[Instr.sliceBounds]⟩;rename_i k p h1 h2;have e2:hi=none:=by cases hi<;>simp at h2⊢
 subst e2;cases lo with|none=>simp at h1|some lo=>simp at h1;have hv:=hg.rd lo;rw[h1]at hv;refine⟨p,n,hk,λq1 q2 q3=>?_⟩;simp[Instr.sliceBounds,Instr.sliceBound,asIntOf,iE hv,q1,q2]
 rename_i k p h1 h2;have e1:lo=none:=by cases lo<;>simp at h1⊢
 subst e1;cases hi with|none=>simp at h2|some hi=>simp at h2;have hv:=hg.rd hi;rw[h2]at hv;refine⟨0,p,hk,λq1 q2 q3=>?_⟩;simp[Instr.sliceBounds,Instr.sliceBound,asIntOf,iE hv,show 0<=p by omega,show p<=(cap:Int) by omega]
 rename_i k p k' q h1 h2;cases lo with|none=>simp at h1|some lo=>cases hi with|none=>simp at h2|some hi=>simp at h1 h2;have hv:=hg.rd lo;have SO:=hg.rd hi;rw[h1]at hv;rw[h2]at SO;refine⟨p,q,hk,λq1 q2 q3=>?_⟩;simp[Instr.sliceBounds,Instr.sliceBound,asIntOf,iE hv,iE SO,q1,show 0<=q by omega,show q<=(cap:Int) by omega];intro gq;omega
 cases hk
theorem extract_mk (s:au UInt8)(x y:Nat):(ByteArray.mk s.toArray).extract x y=ByteArray.mk ((s.take y).drop x).toArray:=by apply ByteArray.ext;rw[ByteArray.data_extract];simp[List.extract_eq_take_drop,List.drop_take]
theorem Pn {α:Type}{xs ys:au α}{x y:Int}(h:sub xs x y=some ys):0<=x/\x<=y/\y<=(xs.length:Int)/\ys=(xs.take y.toNat).drop x.toNat:=by unfold sub at h;split at h;rename_i hc;simp at h;exact⟨hc.1,hc.2.1,hc.2.2,h.symm⟩;cases h
theorem ZV {w:World}{S:Nat->Nat->Prop}{v:Value}{xs:au e.D}(h:iU w S (.sl e) [v] xs){x y:Nat}(hxy:x<=y)(hy:y<=xs.length): ∃bo cap,v=.slice bo xs.length cap/\xs.length<=cap/\iU w S (.sl e) [.slice (if cap=x then bo else bo.map (·.add (x*e.size))) (y-x) (cap-x)] ((xs.take y).drop x):=by
 obtain⟨u,hu,h⟩:=h;simp at hu;subst hu;rcases h with⟨⟨ad,rfl⟩,rfl⟩|⟨b,o,cap,rfl,hc,h⟩;simp at hy;subst hy;have hx:x=0:=by omega
 subst hx;exact⟨ad,0,rfl,by simp,⟨_,rfl,.inl ⟨⟨ad,by simp⟩,by simp⟩⟩⟩;have hl:((xs.take y).drop x).length=y-x:=by simp;omega
 refine⟨some ⟨b,o,none⟩,cap,rfl,hc,⟨_,rfl,.inr ?_⟩⟩;by_cases hcx:cap=x;refine⟨b,o,cap-x,by rw[aF hcx,hl],by rw[hl];omega,λi z hz=>?_⟩;have:((xs.take y).drop x)=[]:=cr (by rw[hl];omega);rw[this]at hz;simp at hz;refine⟨b,o+x*e.size,cap-x,by rw[aE hcx,hl];simp[nf],by rw[hl];omega,λi z hz=>?_⟩;have hz':xs[x+i]?=some z:=by rw[bH,cP]at hz;split at hz;exact hz;cases hz
 obtain⟨cs,KS,hr⟩:=h (x+i) z hz';refine⟨cs,?_,hr⟩;have:o+x*e.size+i*e.size=o+(x+i)*e.size:=by rw[cl];omega
 rw[this];exact KS
theorem aeg {w:World}{v:Value}{xs:au e.D}{fp:dI}(h:dW hw w (.sl e) [v] xs fp){n:Nat}(hn:n<=xs.length): ∃bo cap,v=.slice bo xs.length cap/\xs.length<=cap/\∃hY,dW hw w (.sl e) [.slice (if cap=n then bo else bo.map (·.add (n*e.size))) (xs.length-n) (cap-n)] (xs.drop n) hY/\(∀b∈hY,b∈fp)/\(fp.Nodup->hY.Nodup):=by
 obtain⟨u,hu,h⟩:=h;simp at hu;subst hu;rcases h with⟨⟨ad,rfl⟩,rfl,rfl⟩|⟨b,o0,cap,arr,T,fr,fps,rfl,hb,qG,hs,hc,hh,rfl,hl,hr⟩;simp at hn;subst hn;exact⟨ad,0,rfl,by simp,[],⟨_,rfl,.inl ⟨⟨ad,by simp⟩,rfl,rfl⟩⟩,by simp,by simp⟩;refine⟨some ⟨b,o0,none⟩,cap,rfl,hc,?_⟩;by_cases hcn:cap=n;have hx:xs.drop n=[]:=cK (by omega);refine⟨[],⟨_,rfl,.inl ⟨⟨some ⟨b,o0,none⟩,by rw[aF hcn,show xs.length-n=0 by omega,show cap-n=0 by omega]⟩,hx,rfl⟩⟩,by simp,by simp⟩;have hm1:cap*e.size=n*e.size+(cap-n)*e.size:=by rw[<-cl];congr 1;omega
 have Zx:xs.length*e.size=n*e.size+(xs.length-n)*e.size:=by rw[<-cl];congr 1;omega
 refine⟨b::(fps.drop n).flatten,⟨_,rfl,.inr ⟨b,o0+n*e.size,cap-n,arr,T,fr,fps.drop n,by rw[aE hcn];simp[nf],hb,qG,by omega,by simp;omega,by simp;omega,rfl,by simp[hl],λi x f hx hf=>?_⟩⟩,?_,?_⟩;rw[bH]at hx hf;have:=hr (n+i) x f hx hf;rwa[cl,<-fb]at this;intro c Dg;rcases cg.1 Dg with rfl|Dg;simp;obtain⟨l,hl1,zH⟩:=List.mem_flatten.1 Dg;exact dK _ (List.mem_flatten.2 ⟨l,List.mem_of_mem_drop hl1,zH⟩);intro D9;have h1:=cJ.1 D9;have e1:fps.flatten=(fps.take n).flatten++(fps.drop n).flatten:=by rw[<-dD,cf]
 rw[e1]at h1;exact cJ.2 ⟨λhm=>h1.1 (by simp[hm]),(aB.1 h1.2).2.1⟩
theorem abN {an:An}{o:Oper}{ep:Nat}{pv:aw (ka×Nat)}{p:Int}:OM an o (.loc ep pv) p=.loc ep none\/∃rt t,pv=some (rt,t)/\OM an o (.loc ep pv) p=.part ep rt t p:=by
 unfold OM;split;rename_i ep' r t d h _;cases h;cases an.nest.contains d with|false=>exact .inl rfl|true=>exact .inr ⟨_,_,rfl,rfl⟩
 exact .inl rfl
theorem O6 {E:Env}(hE:jf P E.ty){o:Oper}{lo hi:aw Operand}(ho:o.op=.slice T x lo hi none)(h:nb C st a w){K:AS->aw R}(hk:xB E o T x lo hi st K=some r):mJ P C o a w K r:=by
 obtain⟨g,hg⟩:=h;unfold xB at hk;split at hk;rename_i tag e xs st' kd p sX hlo;split at hk;rename_i hT;cases lo with
 |none=>simp at hlo
 |some lo=>
  simp at hlo;have hlv:=hg.rd lo;rw[hlo]at hlv;obtain⟨te,hu,⟨inf,z,Dv,sR,_⟩,_⟩:=GK hE hT;obtain⟨g',mI⟩:=hg.take x;rw[sX]at mI;simp only[bK]at mI;cases pG:sub xs p xs.length with
  |none=>rw[pG]at hk;cases hk
  |some PR=>
   rw[pG]at hk;simp only[aa]at hk;obtain⟨h1,h2,_,rfl⟩:=Pn pG;obtain⟨fp,dx,D9,hl⟩:=mI.hands 0 _ _ rfl;have eE:=(dE dx).1;obtain⟨bo,cap,hv,HH,hY,Dw,aio,SI⟩:=aeg eE (n:=p.toNat) (by omega);have dA:(execOp a.eval o).run P w=.ok (.value (.slice (if cap=p.toNat then bo else bo.map (·.add (p.toNat*e.size))) (xs.length-p.toNat) (cap-p.toNat))) w:=by
    have hb:(Instr.sliceBounds true xs.length cap (some (a.eval lo)) none none).run P w=.ok (p.toNat,xs.length,cap) w:=by have hp2:p<=(xs.length:Int):=h2;simp[Instr.sliceBounds,Instr.sliceBound,asIntOf,iE hlv,h1,hp2]
    simp only[execOp,ho,hv,Instr.sliceAt,Instr.slice,underlying,Option.map_none,cY,Sem.run_bind,run_program,hu,Result.andThen_ok,Sem.run_pure,hb,sizeOf,typeInfo,Dv,sR]
   have zY:(xs.take ((xs.length:Int).toNat)).drop p.toNat=xs.drop p.toNat:=by rw[az,cw]
   rw[zY]at hk;refine⟨_,_,_,.inl dA,?_,hk⟩;refine mI.OV o.dst (hw':=g'.hw) (fp:=hY) (Fr.refl _ _) (λ_ _ _ _=>rfl) (λ_ _ _ ho hu=>⟨ho,hu⟩) Dw (SI D9) (λb hb=>?_);have:=hl b (aio b hb);exact⟨(mI.fa b _ this).1,.inl (by rw[this];rfl)⟩
 cases hk;cases hk
theorem Yy {E:Env}(hE:jf P E.ty){an:An}{o:Oper}{lo hi:aw Operand}(ho:o.op=.slice T x lo hi none)(h:nb C st a w){K:AS->aw R}(hk:BR E an o T x lo hi st K=some r):mJ P C o a w K r:=by
 obtain⟨g,hg⟩:=id h;have vp:=hg.fresh (hg.rd x);unfold BR at hk;split at hk;exact O6 hE ho h hk;split at hk;rename_i s hx;rw[hx]at vp;split at hk;rename_i hT;have hu:=TF hE hT;have hv:=(dE vp).1;obtain⟨p,q,SF,dA⟩:=Nt (P:=P) (w:=w) hg (aX s.length) hk false;cases pG:sub s p q with|none=>rw[pG]at SF;cases SF|some s'=>rw[pG]at SF;simp only[aa]at SF;obtain⟨h1,h2,h3,rfl⟩:=Pn pG;have hb:=dA h1 h2 h3;refine vB h _ _ ?_ (M6 _) SF;simp only[execOp,ho,hv,Instr.sliceAt,Instr.slice,underlying,Option.map_none,Sem.run_bind,run_program,hu,Result.andThen_ok,Sem.run_pure,yn,hb,Option.isSome_none,aY,bV,extract_mk]
 cases hk;rename_i fl e xs hx;rw[hx]at vp;split at hk;rename_i hT;obtain⟨hT,oM⟩:=hT;obtain⟨te,hu,⟨inf,z,Dv,sR,_⟩,_⟩:=GK hE hT;have hc:=dE vp
 have key:∀(S:Nat->Nat->Prop),iU w S (.sl e) [a.eval x] xs->(∀(p q:Int)(bo:aw Addr)(cap:Nat),0<=p->p<=q->q<=xs.length->xs.length<=cap->a.eval x=.slice bo xs.length cap->
  iU w S (.sl e) [.slice (if cap=p.toNat then bo else bo.map (·.add (p.toNat*e.size))) (q.toNat-p.toNat) (cap-p.toNat)] ((xs.take q.toNat).drop p.toNat)->
  gr (cq C g st w) (.slice (if cap=p.toNat then bo else bo.map (·.add (p.toNat*e.size))) (q.toNat-p.toNat) (cap-p.toNat)) (.sl (OM an o fl p) e ((xs.take q.toNat).drop p.toNat)) [])->mJ P C o a w K r:=by
  intro S Js hmk
  have HH:∃bo cap,a.eval x=.slice bo xs.length cap/\xs.length<=cap:=by obtain⟨bo,cap,hv,hc,_⟩:=ZV Js (x:=0) (y:=0) (aX _) (cC _);exact⟨bo,cap,hv,hc⟩
  obtain⟨bo,cap,hv,HH⟩:=HH
  obtain⟨p,q,SF,dA⟩:=Nt (P:=P) (w:=w) hg HH hk true
  cases pG:sub xs p q with
  |none=>rw[pG]at SF;cases SF
  |some PR=>
   rw[pG]at SF
   simp only[aa]at SF
   obtain⟨h1,h2,h3,rfl⟩:=Pn pG
   have hb:=dA h1 h2 h3
   obtain⟨bo',apo,SO,_,ady⟩:=ZV Js (x:=p.toNat) (y:=q.toNat) (by omega) (by omega)
   rw[hv]at SO
   simp only[Value.slice.injEq,true_and]at SO
   obtain⟨rfl,rfl⟩:=SO
   refine⟨.slice (if cap=p.toNat then bo else bo.map (·.add (p.toNat*e.size))) (q.toNat-p.toNat) (cap-p.toNat),w,_,.inl ?_,⟨g,hg.quiet o.dst (mu (hmk p q _ _ h1 h2 h3 HH hv ady))⟩,SF⟩
   simp only[execOp,ho,hv,Instr.sliceAt,Instr.slice,underlying,Option.map_none,Sem.run_bind,run_program,hu,Result.andThen_ok,Sem.run_pure,hb,sizeOf,typeInfo,Dv,sR]
 cases fl with
 |own t=>cases oM
 |nest _ _ _ _ _ _=>cases oM
 |part _ _ _ _=>cases oM
 |eQ _ _ _=>cases oM
 |arg _=>exact key _ hc.2 (λp q bo cap _ _ _ _ _ hr=>by simp only[OM,qt.bare];exact⟨rfl,hr⟩)
 |loc ep pv=>
  have xl:ep=st.ep:=by simpa[qt.live]using oM
  refine key _ (hc.2.2.2.1 xl) (λp q bo cap hp hpq hq HH hv hr=>?_);have hlen:((xs.take q.toNat).drop p.toNat).length=q.toNat-p.toNat:=by simp;omega
  have plain:gr (cq C g st w) (.slice (if cap=p.toNat then bo else bo.map (·.add (p.toNat*e.size))) (q.toNat-p.toNat) (cap-p.toNat)) (.sl (.loc ep none) e ((xs.take q.toNat).drop p.toNat)) []:=⟨rfl,hc.2.1,⟨_,_,_,rfl,hlen.symm⟩,λ_=>hr,by simp⟩
  rcases abN (an:=an) (o:=o) (ep:=ep) (pv:=pv) (p:=p)with hpf|⟨rt,t,rfl,hpf⟩;rw[hpf];exact plain;rw[hpf];refine⟨rfl,hc.2.1,⟨_,_,_,rfl,hlen.symm⟩,λ_=>?_⟩;have HT:=hc.2.2.2.2 rt t rfl;refine⟨HT.1,?_⟩;by_cases hz:q.toNat-p.toNat=0;exact .inl (cr (by rw[hlen];exact hz));right;obtain⟨u,hu,Js⟩:=hc.2.2.2.1 xl;simp at hu;rcases Js with⟨_,rfl⟩|⟨b,o0,Ug,LV,Xw,_⟩;simp at hlen;omega;rw[<-hu,hv]at LV;simp only[Value.slice.injEq,true_and]at LV;obtain⟨rfl,rfl⟩:=LV;refine⟨p.toNat,b,o0,xs.length,cap,cap-p.toNat,by omega,by rw[<-HT.2,hv],by rw[hlen];omega,?_⟩;rw[mG,hlen];simp[nf]
 cases hk;cases hk
theorem Uf {E:Env}(hE:jf P E.ty)(h:E.bytes T=true):∃te,P.underlying T=some (.slice te)/\P.underlying te=some (.int .u8):=by unfold Env.bytes at h;split at h;rename_i te n hT;split at h;rename_i jJ hte;obtain⟨te',hu,_,ho⟩:=(hE T _ hT).sl _ rfl rfl;have:=ho te n rfl;subst this;exact⟨te,hu,(hE te _ hte).int _ rfl rfl⟩;cases h;cases h
theorem abT {w:World}{S:Nat->Nat->Prop}{v:Value}{xs:dR}(h:iU w S (.sl (.int .u8)) [v] xs): ((∃a,v=.slice a 0 0)/\xs=[])\/∃b o cap,v=.slice (some ⟨b,o,none⟩) xs.length cap/\∀i,i<xs.length->w.cell? ⟨b,o+i,none⟩=some (.int .u8 (xs.getD i 0)):=by obtain⟨u,hu,h⟩:=h;simp at hu;subst hu;rcases h with h|⟨b,o,cap,hv,_,h⟩;exact .inl h;refine .inr ⟨b,o,cap,hv,λi hi=>?_⟩;obtain⟨cs,KS,hr⟩:=h i xs[i] (al hi);have hr':cs=[.int .u8 xs[i]]:=hr;subst hr';have:=(KS 0 _ rfl).2;simp only[CT.size,nh,dC]at this;rw[this];simp[List.getD,al hi]
theorem Sl {E:Env}(hE:jf P E.ty){o:Oper}{src dst:TypeId}(ho:o.op=.convert src dst x)(h:nb C st a w){K:AS->aw R}(hk:lF E o src dst x st K=some r):mJ P C o a w K r:=by
 obtain⟨g,hg⟩:=id h;have vp:=hg.rd x;have fin:∀v w',(convert src dst (a.eval x)).run P w=.ok v w'->(execOp a.eval o).run P w=.ok (.value v) w':=by intro v w' hr;simp only[execOp,ho];show(convert src dst (a.eval x)>>=λv=>pure (Next.value v)).run P w=_;rw[Sem.run_bind,hr];rfl
 have under:∀(T:TypeId)(sh:Shape),iH E.ty T=some sh->∃d,P.underlying T=some d:=by
  intro T sh hT;have jZ:=hE T sh hT;cases MY:sh.agg with
  |true=>obtain⟨fs,hu,_⟩:=jZ.agg MY;exact⟨_,hu⟩
  |false=>
   cases LO:sh.ct with
   |int k=>exact⟨_,jZ.int k LO MY⟩
   |bool=>exact⟨_,jZ.bool LO MY⟩
   |str=>exact⟨_,jZ.str LO MY⟩
   |sl e=>obtain⟨te,hu,_⟩:=jZ.sl e LO MY;exact⟨_,hu⟩
   |pair p q=>have:=jZ.pair p q LO;rw[MY]at this;cases this
 unfold lF at hk;split at hk;rename_i ssh k jJ k' n hs hd hx;rw[hx]at vp;obtain⟨ds,P6⟩:=under _ _ hs;have hud:=(hE dst _ hd).int k rfl rfl;refine vB h _ _ (fin (.int k (k.wrap n)) w ?_) (kj _ _) hk;rw[iE vp];simp only[convert,underlying,Sem.run_bind,run_program,P6,hud,Result.andThen_ok,Sem.run_pure];rfl;rename_i jJ apm s hs hd hx;rw[hx]at vp;have P6:=(hE src _ hs).str rfl rfl;have hud:=(hE dst _ hd).str rfl rfl;refine vB h _ _ (fin (.string ⟨s.toArray⟩) w ?_) (M6 _) hk;rw[(dE vp).1];simp only[convert,underlying,Sem.run_bind,run_program,P6,hud,Result.andThen_ok,Sem.run_pure];rename_i jJ sh s ME hs hd hx;rw[hx]at vp;split at hk;rename_i hb;unfold room at hk;split at hk;obtain⟨te,hu,hte⟩:=Uf hE hb;have P6:=(hE src _ hs).str rfl rfl;have dA:=run_bytes_of_string (P:=P) w src dst te ⟨s.toArray⟩ P6 hu hte;rw[<-(dE vp).1,yn]at dA;refine⟨_,_,_,.inl (fin _ _ dA),?_,hk⟩;have zX:=grownCap_ge w s.length 0 te;have sR:(bytesRow ⟨s.toArray⟩ (grownCap w s.length 0 te)).size=grownCap w s.length 0 te*CT.size (.int .u8):=by simp only[bytesRow,Array.size_append,Array.size_map,Array.size_replicate,yn,CT.size];simp;omega
 have sX:(bytesRow ⟨s.toArray⟩ (grownCap w s.length 0 te)).toList.take ((dc s).length*CT.size (.int .u8))=(dc s).map (Value.int .u8):=by simp only[bytesRow,dc,CT.size,Array.toList_append,Array.toList_map];rw[List.take_append_of_le_length (by simp)];rw[bB (by simp)];simp
 have Gd:ko g.hw w (.int .u8) ((bytesRow ⟨s.toArray⟩ (grownCap w s.length 0 te)).toList.take ((dc s).length*CT.size (.int .u8))) (dc s) (List.replicate s.length []):=by
  rw[sX];refine⟨by simp[CT.size],by simp[dc],λi y f hy hf=>?_⟩;have hi:i<(dc s).length:=(aD.1 hy).1;have hf':f=[]:=by rw[db]at hf;split at hf<;>simp at hf;exact hf
  subst hf';refine⟨?_,rfl⟩;apply cI;intro j;rw[ja];simp only[CT.size,nh];cases j with|zero=>simp[hy]|succ j=>simp
 have hlen:(dc s).length=s.length:=by simp[dc]
 have:=hg.OI o.dst (T:=te) (fr:=((bytesRow ⟨s.toArray⟩ (grownCap w s.length 0 te)).size,(bytesRow ⟨s.toArray⟩ (grownCap w s.length 0 te)).size+1)) (cap:=grownCap w s.length 0 te) (.inr rfl) (by intro j hj hc;simp only at hc;omega) sR (by rw[hlen];exact zX) Gd (by simp) (by simp);rw[hlen]at this;exact this;cases hk;cases hk;rename_i ssh jJ fl xs hs hd hx;rw[hx]at vp;split at hk;rename_i hb;obtain⟨hb,oM⟩:=hb;obtain⟨te,hu,hte⟩:=Uf hE hb;have hud:=(hE dst _ hd).str rfl rfl;have hc:=dE vp;have Js:∃S,iU w S (.sl (.int .u8)) [a.eval x] xs:=by
  cases fl with
  |own t=>cases oM
  |nest _ _ _ _ _ _=>cases oM
  |part _ _ _ _=>cases oM
  |eQ _ _ _=>cases oM
  |arg _=>exact⟨_,hc.2⟩
  |loc ep pv=>
   have xl:ep=st.ep:=by simpa[qt.live]using oM
   exact⟨_,hc.2.2.2.1 xl⟩
 obtain⟨S,Js⟩:=Js;refine vB h _ _ (fin (.string ⟨(aM xs).toArray⟩) w ?_) (M6 _) hk;rcases abT Js with⟨⟨ad,hv⟩,rfl⟩|⟨b,ob,cap,hv,zW⟩;cases ad with|none=>rw[hv,run_convert_bytes_nil w src te hu hte 0 0 dst hud];rfl|some ad=>rw[hv];exact run_convert_bytes_back w src dst te ad 0 [] hu hte hud (λj hj=>by simp at hj)
 rw[hv,run_convert_bytes_arg w src te hu hte b ob xs.length cap xs rfl zW dst hud];rfl;cases hk;cases hk
end Go.Dn
