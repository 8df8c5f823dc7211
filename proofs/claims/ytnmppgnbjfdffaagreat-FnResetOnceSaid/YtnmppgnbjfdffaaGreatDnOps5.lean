import Derived.Test.YtnmppgnbjfdffaaGreatDnOps4
import Derived.Laws.MakeOwn
import Derived.Laws.IdiomStrings
import Derived.Laws.BytesArg
/- Part 5: tuples, parts of slices, conversions, structs and slices that are built. -/
namespace Go.Dn
open Go.RowKit
variable {P:Program} {C:Ctx} {st:AS} {a:Act} {w:World} {R:Type} {r:R}
variable {arr:Array Value} {e:CT} {g:Gh} {cap:Nat} {fr:Nat×Nat} {hw:Nat->Nat} {x:Operand} {T:TypeId} {v:Value} {hs:aw (Value×AV)} {fps:aw ff} {news:ir}
theorem oQ.at {c:RC}:∀{ws:ir}{ts:aw (Bool×aw AC)}{fp:ff},fP.oQ c ws ts fp->∀{i:Nat}{g:Bool}{cs:aw AC},ts[i]?=some (g,cs)->
 ∃v f1 f2 f3,ws[i]?=some v/\fp=f1++f2++f3/\(∃us,Cut g v us/\bA c us cs f2)/\
  ∀c':RC,c.Le c'->(∀b∈f1++f3,c'.w.heap[b]?=c.w.heap[b]?/\c'.hw b=c.hw b)->∀oS,(∃us,Cut g v us/\bA c' us oS [])->fP.oQ c' ws (ts.set i (g,oS)) (f1++f3)
 |[],[],_,_,i,g,cs,h=>by simp at h
 |w::ws,t::ts,_,r,0,g,cs,h=>by obtain⟨f1,f2,rfl,r1,r2⟩:=r;simp at h;subst h;exact⟨w,[],f1,f2,rfl,by simp,r1,λc' hle hb oS wx=>⟨[],f2,rfl,wx,oQ.mono hle r2 (λb gK=>hb b (by simpa using gK))⟩⟩
 |w::ws,t::ts,_,r,i+1,g,cs,h=>by obtain⟨f1,f2,rfl,r1,r2⟩:=r;obtain⟨v,g1,g2,g3,hv,rfl,hr,BN⟩:=oQ.at r2 (i:=i) (by simpa using h);refine⟨v,f1++g1,g2,g3,by simpa using hv,by simp,hr,λc' hle hb oS wx=>?_⟩;obtain⟨us,eY,eI⟩:=r1;rw[aJ];refine⟨f1,g1++g3,rfl,⟨us,eY,eI.mono hle (λb gK=>hb b (by simp[gK]))⟩,?_⟩;exact BN c' hle (λb gK=>hb b (by rcases ax.1 gK with k|k<;>simp[k])) oS wx
 |[],_::_,_,r,_,_,_,_=>r.elim
 |_::_,[],_,r,_,_,_,_=>r.elim
theorem NZ {o:Oper}{t i:Nat}(ho:o.op=.extract (.tmp t) i)(h:mP C st a w){K:AS->ay R}(hk:kS o t i st K=some r):lH P C o a w K r:=by
 obtain⟨g,h⟩:=h;unfold kS at hk;split at hk;rename_i ts hg;split at hk;rename_i gg cs hn;rw[dF]at hn;have htl:t<st.slots.length:=by
  rcases bW t st.slots.length with hG|yc;exact hG;have:st.get t=.bot:=by simp[AS.get,dF,bu yc]
  rw[this]at hg;cases hg
 obtain⟨fp,hr,CI,hl⟩:=h.slot t;rw[hg]at hr;obtain⟨ws,hv,hr⟩:=hr;obtain⟨v,f1,f2,f3,hwv,rfl,Ms,BN⟩:=oQ.at hr hn;have dV:(execOp a.eval o).run P w=.ok (.value v) w:=by have he:a.eval (.tmp t)=.tuple ws.toArray:=hv;simp[execOp,ho,he,Instr.extract,hwv]
 have Of:=CI;rw[aJ]at Of;have n1:=aH.1 Of;have n2:=aH.1 n1.2.1;let Ld:AV:=.tS (gI ts i (gg,aQ 0 cs));let bI:AS:=st.put (some t) Ld;let g':Gh:={g with dX:=λb=>if b∈f2 then some (.hand 0) else g.dX b}
 have hle:(cH C g st w).Le (cH C g' bI w):=by have:= @OA C g st w (some t) Ld;exact⟨this.A,this.hdr,this.PO,this.ep,this.FA,this.Yo⟩
 have Sw:∀b y,g.dX b=some y->b∉f2->g'.dX b=some y:=by intro b y hb hm;show(if b∈f2 then _ else _)=_;rw[aG hm];exact hb
 have Ic:∀b y,y≠ .slot t->g.dX b=some y->b∉f2:=λb y hy hb hm=>hy (by have:=hl b (by simp[hm]);rw[hb]at this;simpa using this);have afC:dH C g' bI a w [(v,.val gg cs)]:=by
  refine h.step (λy=>y≠ .slot t) hle h.defers (by show _=(st.put (some t) Ld).slots.length;rw[fG,aB];exact h.size) (by show(st.put (some t) Ld).boxes.length=(st.put (some t) Ld).slots.length;rw[jV,fG,aB];exact h.bsize) h.frame ?_ (λb y hy hb=>⟨Sw b y hb (Ic b y hy hb),rfl,rfl⟩) ?_ ?_ ?_ (.inl ⟨by simp,Gw⟩);intro b y hy;have Ps:(if b∈f2 then some (jy.hand 0) else g.dX b)=some y:=hy;by_cases hm:b∈f2;exact h.fQ b _ (hl b (by simp[hm]));rw[aG hm]at Ps;exact h.fQ b y Ps;intro j bv hj;have Xa:(st.slots.set t Ld)[j]?=some bv:=by rw[<-fG];exact hj
  by_cases hjt:j=t;subst hjt;rw[bm]at Xa;simp only[bM,htl]at Xa;simp at Xa;subst Xa;refine .inr ⟨f1++f3,⟨ws,hv,?_⟩,?_,?_⟩;rw[fb];obtain⟨us,eY,eI⟩:=Ms;refine BN _ hle (λb _=>⟨rfl,rfl⟩) _ ⟨us,eY,?_⟩;exact(eI.Vo).mono hle (by simp);refine aH.2 ⟨n1.1,n2.2.1,?_⟩;rintro b hb c hc rfl;exact n1.2.2 b hb b (ba _ hc) rfl;intro b hb;refine Sw b _ (hl b (by rcases ax.1 hb with k|k<;>simp[k])) (λhm=>?_);rcases ax.1 hb with k|k;exact n1.2.2 b k b (bn _ hm) rfl;exact n2.2.2 b hm b k rfl;rw[aP (cL hjt)]at Xa;exact .inl ⟨by simpa using hjt,Xa,rfl⟩;intro s oS hb;have gK:st.boxes[s]?=some (some oS):=by rw[<-jV (d:=some t) (v:=Ld)];exact hb
  exact .inl ⟨by simp,gK,rfl⟩;intro k u bv BK;cases k with
  |zero=>simp only[cn,aZ,Prod.mk.injEq]at BK;obtain⟨rfl,rfl⟩:=BK;obtain⟨us,eY,eI⟩:=Ms;refine .inr ⟨f2,⟨us,eY,eI.mono hle (λb _=>⟨rfl,rfl⟩)⟩,n2.1,λb hb=>?_⟩;show(if b∈f2 then _ else _)=_;rw[aF hb]
  |succ k=>simp at BK
 exact⟨v,w,_,.inl dV,dH.Av afC o.dst,hk⟩;cases hk;cases hk
def jQ (hw:Nat->Nat)(w:World)(e:CT)(news:ir)(ys:aw e.D)(fps:aw ff):Prop:=
 news.length=ys.length*e.size/\fps.length=ys.length/\∀(i:Nat)(y:e.D)(f:ff),ys[i]?=some y->fps[i]?=some f->eV hw w e ((news.drop (i*e.size)).take e.size) y f
theorem jQ.append {w:World}{n1 n2:ir}{xs ys:aw e.D}{f1 f2:aw ff}(h1:jQ hw w e n1 xs f1)(h2:jQ hw w e n2 ys f2): jQ hw w e (n1++n2) (xs++ys) (f1++f2):=by
 obtain⟨a1,a2,a3⟩:=h1;obtain⟨b1,b2,b3⟩:=h2;refine⟨by rw[ai,ai,a1,b1,cw],by simp[a2,b2],λi y f hy hf=>?_⟩;by_cases hi:i<xs.length;rw[br hi]at hy;rw[br (by omega)]at hf;have hm:(i+1)*e.size<=xs.length*e.size:=cq _ hi;rw[cw,eT]at hm;have:=a3 i y f hy hf;have e1:((n1++n2).drop (i*e.size)).take e.size=(n1.drop (i*e.size)).take e.size:=by rw[List.drop_append_of_le_length (by omega),List.take_append_of_le_length (by rw[aN];omega)]
 rw[e1];exact this;rw[bl (by omega)]at hy;rw[bl (by omega),a2]at hf;have:=b3 _ y f hy hf;have yc:xs.length*e.size<=i*e.size:=cq _ (by omega);have e1:(n1++n2).drop (i*e.size)=n2.drop ((i-xs.length)*e.size):=by rw[List.drop_append,cy (by omega),cA,a1,Nat.sub_mul]
 rw[e1];exact this
theorem jQ.mono {hw':Nat->Nat}{w w':World}{ys:aw e.D}(h:jQ hw w e news ys fps)(hk:∀b∈fps.flatten,w'.heap[b]?=w.heap[b]?/\hw' b=hw b):jQ hw' w' e news ys fps:=⟨h.1,h.2.1,λi y f hy hf=>eV.mono (h.2.2 i y f hy hf) λb hb=>hk b (List.mem_flatten.2 ⟨f,bj hf,hb⟩)⟩
theorem jQ.nil (hw:Nat->Nat)(w:World)(e:CT):jQ hw w e [] [] []:=⟨by simp,rfl,by simp⟩
theorem jQ.lV {w:World}{ys:aw e.D}(h:jQ hw w e news ys fps):∀v∈news,v.oneCell'=true:=by
 intro v hv;obtain⟨j,hj,hjv⟩:=List.mem_iff_getElem.1 hv;have Xc:=e.size_pos;have hi:j/e.size<ys.length:=by rw[Nat.div_lt_iff_lt_mul Xc];rw[<-h.1];exact hj
 have gC:=h.2.2 (j/e.size) _ _ (al hi) (al (by rw[h.2.1];exact hi));refine eV.lV gC v ?_;rw[List.mem_iff_getElem?];refine⟨j%e.size,?_⟩;rw[iU,aF (Nat.mod_lt _ Xc),Nat.mul_comm,Nat.div_add_mod,al hj,hjv]
theorem UA {w:World}{b o0:Nat}{xs:aw e.D}(hb:w.heap[b]?=some (.cells arr T fr))(qv:oo arr fr)(hs:arr.size=o0+cap*e.size)(hc:xs.length<=cap)(hh:hw b=o0+xs.length*e.size)(BH:jQ hw w e ((arr.toList.drop o0).take (xs.length*e.size)) xs fps): eV hw w (.sl e) [.slice (some ⟨b,o0,none⟩) xs.length cap] xs (b::fps.flatten):=by
 refine⟨_,rfl,.inr ⟨b,o0,cap,arr,T,fr,fps,rfl,hb,qv,hs,hc,hh,rfl,BH.2.1,λi x f hx hf=>?_⟩⟩;have:=BH.2.2 i x f hx hf;have hi:i<xs.length:=(aE.1 hx).1;have hm:(i+1)*e.size<=xs.length*e.size:=cq _ hi;rw[cw,eT]at hm;have e1:(((arr.toList.drop o0).take (xs.length*e.size)).drop (i*e.size)).take e.size=(arr.toList.drop (o0+i*e.size)).take e.size:=by apply cE;intro j;rw[iU,iU,iU];by_cases hj:j<e.size;rw[aF hj,aF hj,zip,fu];rw[aG hj,aG hj]
 rw[e1]at this;exact this
theorem GN {w:World}{o0:Nat}{xs:aw e.D}(hs:arr.size=o0+cap*e.size)(hc:xs.length<=cap)(hl:fps.length=xs.length)(h:∀(i:Nat)(x:e.D)(f:ff),xs[i]?=some x->fps[i]?=some f->eV hw w e ((arr.toList.drop (o0+i*e.size)).take e.size) x f):jQ hw w e ((arr.toList.drop o0).take (xs.length*e.size)) xs fps:=by
 refine⟨?_,hl,λi x f hx hf=>?_⟩;have hal:(arr.toList.drop o0).length=cap*e.size:=by rw[aN,Array.length_toList,hs];omega
 rw[aX,hal];exact gJ (cq _ hc);have hi:i<xs.length:=(aE.1 hx).1;have hm:(i+1)*e.size<=xs.length*e.size:=cq _ hi;rw[cw,eT]at hm;have e1:(((arr.toList.drop o0).take (xs.length*e.size)).drop (i*e.size)).take e.size=(arr.toList.drop (o0+i*e.size)).take e.size:=by apply cE;intro j;rw[iU,iU,iU];by_cases hj:j<e.size;rw[aF hj,aF hj,zip,fu];rw[aG hj,aG hj]
 rw[e1];exact h i x f hx hf
theorem Jq {w w':World}{S:Nat->Nat->Prop}:∀{e:CT}{vs:ir}{x:e.D},iR w' S e vs x->e.flat=true->eV hw w e vs x []
 | .int _,_,_,h,_=>⟨h,rfl⟩
 | .bool,_,_,h,_=>⟨h,rfl⟩
 | .str,_,_,h,_=>⟨h,rfl⟩
 | .sl _,_,_,_,hf=>by cases hf
 | .pair a b,_,_,h,hf=>by obtain⟨v1,v2,rfl,h1,h2⟩:=h;simp only[CT.flat,ae]at hf;exact⟨v1,v2,[],[],rfl,rfl,Jq h1 hf.1,Jq h2 hf.2⟩
def JA (hdr:Nat->Value)(t:ay Nat)(v:Value):Nat->Value:=λu=>if t=some u then v else hdr u
theorem TI {hdr:Nat->Value}{d:ay Nat}{t:Nat}(h:lJ st t):JA hdr (st.gS d 0) v t=hdr t:=by unfold JA;rw[aG];intro e;exact(oc e).1 h
theorem dH.Kv (h:dH C g st a w hs)(d:ay Nat){xs:aw e.D}{fp:ff}{w':World}{hw':Nat->Nat}(je:Fr (λb=>dD (g.dX b)) w w')(CH:∀b x,g.dX b=some x->¬dD (some x)->hw' b=g.hw b)(EY:∀b o u,o<g.hw b->w.cell? ⟨b,o,none⟩=some u->o<hw' b/\w'.cell? ⟨b,o,none⟩=some u)(gC:eV hw' w' (.sl e) [v] xs fp)(hn:fp.Nodup)(AU:∀b∈fp,b<w'.heap.size/\(dD (g.dX b)\/w.heap.size<=b)): mP C (st.om d e xs) (a.put d v) w':=by refine h.Kt d (st1:=st.fg d) (hdr':=JA g.hdr (st.gS d 0) v) Fk sq yj xB (λt ht=>⟨Ap ht,TI ht⟩) je CH EY (ly ⟨gC,λt ht=>?_⟩) hn AU;refine⟨(oc ht).2.1,?_⟩;show v=JA g.hdr (st.gS d 0) v t;unfold JA;rw[aF ht]
theorem dH.Kf (h:dH C g st a w hs)(d:ay Nat){xs:aw e.D}{w':World}(hw:w'=w.alloc (.cells arr T fr)\/w'=w.drew.alloc (.cells arr T fr))(qv:oo arr fr)(hs0:arr.size=cap*e.size)(hc:xs.length<=cap)(BH:jQ g.hw w e (arr.toList.take (xs.length*e.size)) xs fps)(hn:fps.flatten.Nodup)(AU:∀b∈fps.flatten,dD (g.dX b)): mP C (st.om d e xs) (a.put d (.slice (some ⟨w.heap.size,0,none⟩) xs.length cap)) w':=by
 have je:Fr (λb=>dD (g.dX b)) w w':=by rcases hw with rfl|rfl;exact Fr.alloc _ _ _;exact(Fr.drew _ w).trans (Fr.alloc _ _ _) (λb _ hh=>hh)
 have Qz:w'.heap[w.heap.size]?=some (.cells arr T fr):=by rcases hw with rfl|rfl;exact heap_alloc_new w _;exact heap_alloc_new w.drew _
 have sB:w'.heap.size=w.heap.size+1:=by rcases hw with rfl|rfl<;>simp
 have hold:∀b,b<w.heap.size->w'.heap[b]?=w.heap[b]?:=by intro b hb;rcases hw with rfl|rfl;exact heap_alloc_old w _ b hb;exact heap_alloc_old w.drew _ b hb
 have hG:∀b∈fps.flatten,b<w.heap.size:=by intro b hb;have hh:=AU b hb;cases hx:g.dX b with|none=>rw[hx]at hh;cases hh|some x=>exact(h.fQ b x hx).1
 let hw':Nat->Nat:=λb=>if b=w.heap.size then xs.length*e.size else g.hw b
 have gC:eV hw' w' (.sl e) [.slice (some ⟨w.heap.size,0,none⟩) xs.length cap] xs (w.heap.size::fps.flatten):=by refine UA (o0:=0) Qz qv (by rw[cl];exact hs0) hc (by simp[hw']) (BH.mono λb hb=>?_);have gK:=hG b hb;exact⟨hold b gK,by simp[hw',gF gK]⟩
 refine h.Kv d (hw':=hw') (fp:=w.heap.size::fps.flatten) je ?_ ?_ gC ?_ ?_;intro b x hx _;simp[hw',gF (h.fQ b x hx).1];intro b o u ho hu;have hb:b<w.heap.size:=World.block_lt_of_cell? w _ hu;exact⟨by simp[hw',gF hb];exact ho,by rw[World.cell?_of_block (a:=⟨b,o,none⟩) (hold b hb)];exact hu⟩;exact cZ.2 ⟨λhm=>Nat.lt_irrefl _ (hG _ hm),hn⟩;intro b hb;rcases cg.1 hb with rfl|hb;exact⟨by omega,.inr (aS _)⟩;exact⟨by have:=hG b hb;omega,.inl (AU b hb)⟩
theorem abi {z:Array Value}{c size i:Nat}(hz:z.size=size)(hi:i<c):((madeCells z (c*size)).toList.drop (i*size)).take size=z.toList:=by
 have hm:(i+1)*size<=c*size:=cq _ hi;rw[cw,eT]at hm;apply cE;intro j;rw[iU];by_cases hj:j<size;rw[aF hj,madeCells];have h1:i*size+j<c*size:=by omega
 simp only[Array.toList_map,Array.toList_range,List.getElem?_map,List.getElem?_range h1,da];have afr:(i*size+j)%z.size=j:=by rw[hz,Nat.mul_comm,Nat.mul_add_mod,dL hj]
 rw[afr];simp[getElem!_pos,hz,hj];rw[aG hj,bu];simp[hz];omega
theorem J7 {E:Env}(hE:iY P E.ty){o:Oper}{n c:Operand}(ho:o.op=.makeSlice T n c)(h:mP C st a w){K:AS->ay R}(hk:ni E o T n c st K=some r):lH P C o a w K r:=by
 obtain⟨g,hg⟩:=id h;have hnv:=hg.rd n;have hcv:=hg.rd c;unfold ni at hk;split at hk;rename_i e len cap hT hn hc;rw[hn]at hnv;rw[hc]at hcv;split at hk;rename_i hlc;unfold room at hk;split at hk;rename_i Dd;obtain⟨te,hu,⟨inf,z,zv,sB,hby,hz,hzc⟩,_⟩:=Cc hE hT;have EV:cap<=1073741824:=by omega
 have afe:(inf.bytes:Int)*cap<=281474976710656:=by have h1:(inf.bytes:Int)*cap<=65536*cap:=Int.mul_le_mul_of_nonneg_right (by omega) (by omega);omega
 have dV:=run_make (P:=P) w T te inf z hu zv hz .i64 .i64 len cap hlc.1 hlc.2 afe (by omega);have Df:(execOp a.eval o).run P w=.ok (.value (.slice (some ⟨w.heap.size,0,none⟩) len.toNat cap.toNat)) (w.alloc (.cells (madeCells z.cells (cap.toNat*inf.size)) te)):=by simp only[execOp,ho,iD hnv,iD hcv];show((Instr.makeSlice T (.int .i64 len) (.int .i64 cap))>>=λv=>pure (Next.value v)).run P w=_;rw[Sem.run_bind,dV];rfl
 have hzs:z.cells.size=e.size:=by rw[<-nV e,<-hzc];simp
 have hlen:(List.replicate len.toNat e.zero).length=len.toNat:=by simp
 have BH:jQ g.hw w e ((madeCells z.cells (cap.toNat*inf.size)).toList.take ((List.replicate len.toNat e.zero).length*e.size)) (List.replicate len.toNat e.zero) (List.replicate len.toNat []):=by
  refine GN (o0:=0) (cap:=cap.toNat) (by rw[size_madeCells,sB,cl]) (by rw[hlen];omega) (by simp) (λi x f hx hf=>?_);have hi:i<len.toNat:=by have:=(aE.1 hx).1;simpa using this
  rw[dQ,aF hi]at hx hf;simp at hx hf;subst hx;subst hf;rw[sB,cl,abi hzs (by omega),hzc];exact Cr _ _ _
 refine⟨_,_,_,.inl Df,?_,hk⟩;have:=hg.Kf o.dst (T:=te) (fr:=(0,0)) (cap:=cap.toNat) (.inl rfl) (by intro j _;simp) (by rw[size_madeCells,sB]) (by rw[hlen];omega) BH (by simp) (by simp);rw[hlen]at this;exact this;cases hk;cases hk;cases hk
theorem I0 {lo hi:ay Operand}(hg:dH C g st a w []){n:Nat}(EV:n<=cap){K:Int->Int->ay R}(hk:lK st lo hi n K=some r)(isS:Bool): ∃x y:Int,K x y=some r/\(0<=x->x<=y->y<=n->(Instr.sliceBounds isS n cap (lo.map a.eval) (hi.map a.eval) none).run P w=.ok (x.toNat,y.toNat,cap) w):=by
 unfold lK at hk;split at hk;rename_i h1 h2;have e1:lo=none:=by cases lo<;>simp at h1⊢
 have e2:hi=none:=by cases hi<;>simp at h2⊢
 subst e1;subst e2;exact⟨0,n,hk,λ_ _ _=>by simp[Instr.sliceBounds]⟩;rename_i k p h1 h2;have e2:hi=none:=by cases hi<;>simp at h2⊢
 subst e2;cases lo with|none=>simp at h1|some lo=>simp at h1;have hv:=hg.rd lo;rw[h1]at hv;refine⟨p,n,hk,λq1 q2 q3=>?_⟩;simp[Instr.sliceBounds,Instr.sliceBound,asIntOf,iD hv,q1,q2]
 rename_i k p h1 h2;have e1:lo=none:=by cases lo<;>simp at h1⊢
 subst e1;cases hi with|none=>simp at h2|some hi=>simp at h2;have hv:=hg.rd hi;rw[h2]at hv;refine⟨0,p,hk,λq1 q2 q3=>?_⟩;simp[Instr.sliceBounds,Instr.sliceBound,asIntOf,iD hv,show 0<=p by omega,show p<=(cap:Int) by omega]
 rename_i k p k' q h1 h2;cases lo with|none=>simp at h1|some lo=>cases hi with|none=>simp at h2|some hi=>simp at h1 h2;have hv:=hg.rd lo;have Zn:=hg.rd hi;rw[h1]at hv;rw[h2]at Zn;refine⟨p,q,hk,λq1 q2 q3=>?_⟩;simp[Instr.sliceBounds,Instr.sliceBound,asIntOf,iD hv,iD Zn,q1,show 0<=q by omega,show q<=(cap:Int) by omega];intro hG;omega
 cases hk
theorem extract_mk (s:aw UInt8)(x y:Nat):(ByteArray.mk s.toArray).extract x y=ByteArray.mk ((s.take y).drop x).toArray:=by apply ByteArray.ext;rw[ByteArray.data_extract];simp[List.extract_eq_take_drop,List.drop_take]
theorem KT {α:Type}{xs ys:aw α}{x y:Int}(h:sub xs x y=some ys):0<=x/\x<=y/\y<=(xs.length:Int)/\ys=(xs.take y.toNat).drop x.toNat:=by unfold sub at h;split at h;rename_i hc;simp at h;exact⟨hc.1,hc.2.1,hc.2.2,h.symm⟩;cases h
theorem We {w:World}{S:Nat->Nat->Prop}{xs:aw e.D}(h:iR w S (.sl e) [v] xs){x y:Nat}(hxy:x<=y)(hy:y<=xs.length): ∃bo cap,v=.slice bo xs.length cap/\xs.length<=cap/\iR w S (.sl e) [.slice (if cap=x then bo else bo.map (·.add (x*e.size))) (y-x) (cap-x)] ((xs.take y).drop x):=by
 obtain⟨u,hu,h⟩:=h;simp at hu;subst hu;rcases h with⟨⟨ad,rfl⟩,rfl⟩|⟨b,o,cap,rfl,hc,h⟩;simp at hy;subst hy;have hx:x=0:=by omega
 subst hx;exact⟨ad,0,rfl,by simp,⟨_,rfl,.inl ⟨⟨ad,by simp⟩,by simp⟩⟩⟩;have hl:((xs.take y).drop x).length=y-x:=by simp;omega
 refine⟨some ⟨b,o,none⟩,cap,rfl,hc,⟨_,rfl,.inr ?_⟩⟩;by_cases hcx:cap=x;refine⟨b,o,cap-x,by rw[aF hcx,hl],by rw[hl];omega,λi z hz=>?_⟩;have:((xs.take y).drop x)=[]:=bO (by rw[hl];omega);rw[this]at hz;simp at hz;refine⟨b,o+x*e.size,cap-x,by rw[aG hcx,hl];simp[md],by rw[hl];omega,λi z hz=>?_⟩;have hz':xs[x+i]?=some z:=by rw[bJ,dz]at hz;split at hz;exact hz;cases hz
 obtain⟨cs,Gl,hr⟩:=h (x+i) z hz';refine⟨cs,?_,hr⟩;have:o+x*e.size+i*e.size=o+(x+i)*e.size:=by rw[cw];omega
 rw[this];exact Gl
theorem abx {w:World}{xs:aw e.D}{fp:ff}(h:eV hw w (.sl e) [v] xs fp){n:Nat}(hn:n<=xs.length): ∃bo cap,v=.slice bo xs.length cap/\xs.length<=cap/\∃jJ,eV hw w (.sl e) [.slice (if cap=n then bo else bo.map (·.add (n*e.size))) (xs.length-n) (cap-n)] (xs.drop n) jJ/\(∀b∈jJ,b∈fp)/\(fp.Nodup->jJ.Nodup):=by
 obtain⟨u,hu,h⟩:=h;simp at hu;subst hu;rcases h with⟨⟨ad,rfl⟩,rfl,rfl⟩|⟨b,o0,cap,arr,T,fr,fps,rfl,hb,qv,hs,hc,hh,rfl,hl,hr⟩;simp at hn;subst hn;exact⟨ad,0,rfl,by simp,[],⟨_,rfl,.inl ⟨⟨ad,by simp⟩,rfl,rfl⟩⟩,by simp,by simp⟩;refine⟨some ⟨b,o0,none⟩,cap,rfl,hc,?_⟩;by_cases hcn:cap=n;have hx:xs.drop n=[]:=cy (by omega);refine⟨[],⟨_,rfl,.inl ⟨⟨some ⟨b,o0,none⟩,by rw[aF hcn,show xs.length-n=0 by omega,show cap-n=0 by omega]⟩,hx,rfl⟩⟩,by simp,by simp⟩;have hm1:cap*e.size=n*e.size+(cap-n)*e.size:=by rw[<-cw];congr 1;omega
 have hm2:xs.length*e.size=n*e.size+(xs.length-n)*e.size:=by rw[<-cw];congr 1;omega
 refine⟨b::(fps.drop n).flatten,⟨_,rfl,.inr ⟨b,o0+n*e.size,cap-n,arr,T,fr,fps.drop n,by rw[aG hcn];simp[md],hb,qv,by omega,by simp;omega,by simp;omega,rfl,by simp[hl],λi x f hx hf=>?_⟩⟩,?_,?_⟩;rw[bJ]at hx hf;have:=hr (n+i) x f hx hf;rwa[cw,<-fu]at this;intro c wx;rcases cg.1 wx with rfl|wx;simp;obtain⟨l,hl1,xo⟩:=List.mem_flatten.1 wx;exact eL _ (List.mem_flatten.2 ⟨l,List.mem_of_mem_drop hl1,xo⟩);intro CI;have h1:=cZ.1 CI;have e1:fps.flatten=(fps.take n).flatten++(fps.drop n).flatten:=by rw[<-dN,bU]
 rw[e1]at h1;exact cZ.2 ⟨λhm=>h1.1 (by simp[hm]),(aH.1 h1.2).2.1⟩
theorem Yj {an:An}{o:Oper}{ep:Nat}{pv:ay (jU×Nat)}{p:Int}:Kk an o (.loc ep pv) p=.loc ep none\/∃rt t,pv=some (rt,t)/\Kk an o (.loc ep pv) p=.part ep rt t p:=by
 unfold Kk;split;rename_i ep' r t d h _;cases h;cases an.nest.contains d with|false=>exact .inl rfl|true=>exact .inr ⟨_,_,rfl,rfl⟩
 exact .inl rfl
theorem KH {E:Env}(hE:iY P E.ty){o:Oper}{lo hi:ay Operand}(ho:o.op=.slice T x lo hi none)(h:mP C st a w){K:AS->ay R}(hk:uu E o T x lo hi st K=some r):lH P C o a w K r:=by
 obtain⟨g,hg⟩:=h;unfold uu at hk;split at hk;rename_i tag e xs bI kd p qD hlo;split at hk;rename_i hT;cases lo with
 |none=>simp at hlo
 |some lo=>
  simp at hlo;have hlv:=hg.rd lo;rw[hlo]at hlv;obtain⟨te,hu,⟨inf,z,zv,sB,_⟩,_⟩:=Cc hE hT;obtain⟨g',mO⟩:=hg.take x;rw[qD]at mO;simp only[cA]at mO;cases oh:sub xs p xs.length with
  |none=>rw[oh]at hk;cases hk
  |some Lc=>
   rw[oh]at hk;simp only[aa]at hk;obtain⟨h1,h2,_,rfl⟩:=KT oh;obtain⟨fp,eI,CI,hl⟩:=mO.hands 0 _ _ rfl;have gC:=(ee eI).1;obtain⟨bo,cap,hv,EV,jJ,EX,ahD,Of⟩:=abx gC (n:=p.toNat) (by omega);have dV:(execOp a.eval o).run P w=.ok (.value (.slice (if cap=p.toNat then bo else bo.map (·.add (p.toNat*e.size))) (xs.length-p.toNat) (cap-p.toNat))) w:=by
    have hb:(Instr.sliceBounds true xs.length cap (some (a.eval lo)) none none).run P w=.ok (p.toNat,xs.length,cap) w:=by have hp2:p<=(xs.length:Int):=h2;simp[Instr.sliceBounds,Instr.sliceBound,asIntOf,iD hlv,h1,hp2]
    simp only[execOp,ho,hv,Instr.sliceAt,Instr.slice,underlying,Option.map_none,da,Sem.run_bind,run_program,hu,Result.andThen_ok,Sem.run_pure,hb,sizeOf,typeInfo,zv,sB]
   have yT:(xs.take ((xs.length:Int).toNat)).drop p.toNat=xs.drop p.toNat:=by rw[az,dZ]
   rw[yT]at hk;refine⟨_,_,_,.inl dV,?_,hk⟩;refine mO.Kv o.dst (hw':=g'.hw) (fp:=jJ) (Fr.refl _ _) (λ_ _ _ _=>rfl) (λ_ _ _ ho hu=>⟨ho,hu⟩) EX (Of CI) (λb hb=>?_);have:=hl b (ahD b hb);exact⟨(mO.fQ b _ this).1,.inl (by rw[this];rfl)⟩
 cases hk;cases hk
theorem US {E:Env}(hE:iY P E.ty){an:An}{o:Oper}{lo hi:ay Operand}(ho:o.op=.slice T x lo hi none)(h:mP C st a w){K:AS->ay R}(hk:xX E an o T x lo hi st K=some r):lH P C o a w K r:=by
 obtain⟨g,hg⟩:=id h;have sC:=hg.fresh (hg.rd x);unfold xX at hk;split at hk;exact KH hE ho h hk;split at hk;rename_i s hx;rw[hx]at sC;split at hk;rename_i hT;have hu:=Pa hE hT;have hv:=(ee sC).1;obtain⟨p,q,Oe,dV⟩:=I0 (P:=P) (w:=w) hg (aS s.length) hk false;cases oh:sub s p q with|none=>rw[oh]at Oe;cases Oe|some s'=>rw[oh]at Oe;simp only[aa]at Oe;obtain⟨h1,h2,h3,rfl⟩:=KT oh;have hb:=dV h1 h2 h3;refine sJ h _ _ ?_ (IG _) Oe;simp only[execOp,ho,hv,Instr.sliceAt,Instr.slice,underlying,Option.map_none,Sem.run_bind,run_program,hu,Result.andThen_ok,Sem.run_pure,vc,hb,Option.isSome_none,aU,bQ,extract_mk]
 cases hk;rename_i fl e xs hx;rw[hx]at sC;split at hk;rename_i hT;obtain⟨hT,nA⟩:=hT;obtain⟨te,hu,⟨inf,z,zv,sB,_⟩,_⟩:=Cc hE hT;have hc:=ee sC
 have key:∀(S:Nat->Nat->Prop),iR w S (.sl e) [a.eval x] xs->(∀(p q:Int)(bo:ay Addr)(cap:Nat),0<=p->p<=q->q<=xs.length->xs.length<=cap->a.eval x=.slice bo xs.length cap->
  iR w S (.sl e) [.slice (if cap=p.toNat then bo else bo.map (·.add (p.toNat*e.size))) (q.toNat-p.toNat) (cap-p.toNat)] ((xs.take q.toNat).drop p.toNat)->
  gy (cH C g st w) (.slice (if cap=p.toNat then bo else bo.map (·.add (p.toNat*e.size))) (q.toNat-p.toNat) (cap-p.toNat)) (.sl (Kk an o fl p) e ((xs.take q.toNat).drop p.toNat)) [])->lH P C o a w K r:=by
  intro S EZ hmk
  have EV:∃bo cap,a.eval x=.slice bo xs.length cap/\xs.length<=cap:=by obtain⟨bo,cap,hv,hc,_⟩:=We EZ (x:=0) (y:=0) (aS _) (bP _);exact⟨bo,cap,hv,hc⟩
  obtain⟨bo,cap,hv,EV⟩:=EV
  obtain⟨p,q,Oe,dV⟩:=I0 (P:=P) (w:=w) hg EV hk true
  cases oh:sub xs p q with
  |none=>rw[oh]at Oe;cases Oe
  |some Lc=>
   rw[oh]at Oe
   simp only[aa]at Oe
   obtain⟨h1,h2,h3,rfl⟩:=KT oh
   have hb:=dV h1 h2 h3
   obtain⟨bo',amp,Zn,_,aaM⟩:=We EZ (x:=p.toNat) (y:=q.toNat) (by omega) (by omega)
   rw[hv]at Zn
   simp only[Value.slice.injEq,true_and]at Zn
   obtain⟨rfl,rfl⟩:=Zn
   refine⟨.slice (if cap=p.toNat then bo else bo.map (·.add (p.toNat*e.size))) (q.toNat-p.toNat) (cap-p.toNat),w,_,.inl ?_,⟨g,hg.quiet o.dst (ly (hmk p q _ _ h1 h2 h3 EV hv aaM))⟩,Oe⟩
   simp only[execOp,ho,hv,Instr.sliceAt,Instr.slice,underlying,Option.map_none,Sem.run_bind,run_program,hu,Result.andThen_ok,Sem.run_pure,hb,sizeOf,typeInfo,zv,sB]
 cases fl with
 |own t=>cases nA
 |nest _ _ _ _ _ _=>cases nA
 |part _ _ _ _=>cases nA
 |eX _ _ _=>cases nA
 |arg _=>exact key _ hc.2 (λp q bo cap _ _ _ _ _ hr=>by simp only[Kk,oP.bare];exact⟨rfl,hr⟩)
 |loc ep pv=>
  have vY:ep=st.ep:=by simpa[oP.live]using nA
  refine key _ (hc.2.2.2.1 vY) (λp q bo cap hp hpq hq EV hv hr=>?_);have hlen:((xs.take q.toNat).drop p.toNat).length=q.toNat-p.toNat:=by simp;omega
  have plain:gy (cH C g st w) (.slice (if cap=p.toNat then bo else bo.map (·.add (p.toNat*e.size))) (q.toNat-p.toNat) (cap-p.toNat)) (.sl (.loc ep none) e ((xs.take q.toNat).drop p.toNat)) []:=⟨rfl,hc.2.1,⟨_,_,_,rfl,hlen.symm⟩,λ_=>hr,by simp⟩
  rcases Yj (an:=an) (o:=o) (ep:=ep) (pv:=pv) (p:=p)with hpf|⟨rt,t,rfl,hpf⟩;rw[hpf];exact plain;rw[hpf];refine⟨rfl,hc.2.1,⟨_,_,_,rfl,hlen.symm⟩,λ_=>?_⟩;have De:=hc.2.2.2.2 rt t rfl;refine⟨De.1,?_⟩;by_cases hz:q.toNat-p.toNat=0;exact .inl (bO (by rw[hlen];exact hz));right;obtain⟨u,hu,EZ⟩:=hc.2.2.2.1 vY;simp at hu;rcases EZ with⟨_,rfl⟩|⟨b,o0,SZ,Oj,TH,_⟩;simp at hlen;omega;rw[<-hu,hv]at Oj;simp only[Value.slice.injEq,true_and]at Oj;obtain⟨rfl,rfl⟩:=Oj;refine⟨p.toNat,b,o0,xs.length,cap,cap-p.toNat,by omega,by rw[<-De.2,hv],by rw[hlen];omega,?_⟩;rw[lF,hlen];simp[md]
 cases hk;cases hk
theorem PN {E:Env}(hE:iY P E.ty)(h:E.bytes T=true):∃te,P.underlying T=some (.slice te)/\P.underlying te=some (.int .u8):=by unfold Env.bytes at h;split at h;rename_i te n hT;split at h;rename_i jv hte;obtain⟨te',hu,_,ho⟩:=(hE T _ hT).sl _ rfl rfl;have:=ho te n rfl;subst this;exact⟨te,hu,(hE te _ hte).int _ rfl rfl⟩;cases h;cases h
theorem Yu {w:World}{S:Nat->Nat->Prop}{xs:cP}(h:iR w S (.sl (.int .u8)) [v] xs): ((∃a,v=.slice a 0 0)/\xs=[])\/∃b o cap,v=.slice (some ⟨b,o,none⟩) xs.length cap/\∀i,i<xs.length->w.cell? ⟨b,o+i,none⟩=some (.int .u8 (xs.getD i 0)):=by obtain⟨u,hu,h⟩:=h;simp at hu;subst hu;rcases h with h|⟨b,o,cap,hv,_,h⟩;exact .inl h;refine .inr ⟨b,o,cap,hv,λi hi=>?_⟩;obtain⟨cs,Gl,hr⟩:=h i xs[i] (al hi);have hr':cs=[.int .u8 xs[i]]:=hr;subst hr';have:=(Gl 0 _ rfl).2;simp only[CT.size,me,dK]at this;rw[this];simp[List.getD,al hi]
theorem Nz {E:Env}(hE:iY P E.ty){o:Oper}{src dst:TypeId}(ho:o.op=.convert src dst x)(h:mP C st a w){K:AS->ay R}(hk:kR E o src dst x st K=some r):lH P C o a w K r:=by
 obtain⟨g,hg⟩:=id h;have sC:=hg.rd x;have fin:∀v w',(convert src dst (a.eval x)).run P w=.ok v w'->(execOp a.eval o).run P w=.ok (.value v) w':=by intro v w' hr;simp only[execOp,ho];show(convert src dst (a.eval x)>>=λv=>pure (Next.value v)).run P w=_;rw[Sem.run_bind,hr];rfl
 have under:∀(T:TypeId)(sh:Shape),iP E.ty T=some sh->∃d,P.underlying T=some d:=by
  intro T sh hT;have lI:=hE T sh hT;cases IA:sh.agg with
  |true=>obtain⟨fs,hu,_⟩:=lI.agg IA;exact⟨_,hu⟩
  |false=>
   cases Hu:sh.ct with
   |int k=>exact⟨_,lI.int k Hu IA⟩
   |bool=>exact⟨_,lI.bool Hu IA⟩
   |str=>exact⟨_,lI.str Hu IA⟩
   |sl e=>obtain⟨te,hu,_⟩:=lI.sl e Hu IA;exact⟨_,hu⟩
   |pair p q=>have:=lI.pair p q Hu;rw[IA]at this;cases this
 unfold kR at hk;split at hk;rename_i ssh k jv k' n hs hd hx;rw[hx]at sC;obtain⟨ds,hus⟩:=under _ _ hs;have hud:=(hE dst _ hd).int k rfl rfl;refine sJ h _ _ (fin (.int k (k.wrap n)) w ?_) (jN _ _) hk;rw[iD sC];simp only[convert,underlying,Sem.run_bind,run_program,hus,hud,Result.andThen_ok,Sem.run_pure];rfl;rename_i jv amn s hs hd hx;rw[hx]at sC;have hus:=(hE src _ hs).str rfl rfl;have hud:=(hE dst _ hd).str rfl rfl;refine sJ h _ _ (fin (.string ⟨s.toArray⟩) w ?_) (IG _) hk;rw[(ee sC).1];simp only[convert,underlying,Sem.run_bind,run_program,hus,hud,Result.andThen_ok,Sem.run_pure];rename_i jv sh s Ic hs hd hx;rw[hx]at sC;split at hk;rename_i hb;unfold room at hk;split at hk;obtain⟨te,hu,hte⟩:=PN hE hb;have hus:=(hE src _ hs).str rfl rfl;have dV:=run_bytes_of_string (P:=P) w src dst te ⟨s.toArray⟩ hus hu hte;rw[<-(ee sC).1,vc]at dV;refine⟨_,_,_,.inl (fin _ _ dV),?_,hk⟩;have yc:=grownCap_ge w s.length 0 te;have sB:(bytesRow ⟨s.toArray⟩ (grownCap w s.length 0 te)).size=grownCap w s.length 0 te*CT.size (.int .u8):=by simp only[bytesRow,Array.size_append,Array.size_map,Array.size_replicate,vc,CT.size];simp;omega
 have qD:(bytesRow ⟨s.toArray⟩ (grownCap w s.length 0 te)).toList.take ((di s).length*CT.size (.int .u8))=(di s).map (Value.int .u8):=by simp only[bytesRow,di,CT.size,Array.toList_append,Array.toList_map];rw[List.take_append_of_le_length (by simp)];rw[bL (by simp)];simp
 have BH:jQ g.hw w (.int .u8) ((bytesRow ⟨s.toArray⟩ (grownCap w s.length 0 te)).toList.take ((di s).length*CT.size (.int .u8))) (di s) (List.replicate s.length []):=by
  rw[qD];refine⟨by simp[CT.size],by simp[di],λi y f hy hf=>?_⟩;have hi:i<(di s).length:=(aE.1 hy).1;have hf':f=[]:=by rw[dQ]at hf;split at hf<;>simp at hf;exact hf
  subst hf';refine⟨?_,rfl⟩;apply cE;intro j;rw[iU];simp only[CT.size,me];cases j with|zero=>simp[hy]|succ j=>simp
 have hlen:(di s).length=s.length:=by simp[di]
 have:=hg.Kf o.dst (T:=te) (fr:=((bytesRow ⟨s.toArray⟩ (grownCap w s.length 0 te)).size,(bytesRow ⟨s.toArray⟩ (grownCap w s.length 0 te)).size+1)) (cap:=grownCap w s.length 0 te) (.inr rfl) (by intro j hj hc;simp only at hc;omega) sB (by rw[hlen];exact yc) BH (by simp) (by simp);rw[hlen]at this;exact this;cases hk;cases hk;rename_i ssh jv fl xs hs hd hx;rw[hx]at sC;split at hk;rename_i hb;obtain⟨hb,nA⟩:=hb;obtain⟨te,hu,hte⟩:=PN hE hb;have hud:=(hE dst _ hd).str rfl rfl;have hc:=ee sC;have EZ:∃S,iR w S (.sl (.int .u8)) [a.eval x] xs:=by
  cases fl with
  |own t=>cases nA
  |nest _ _ _ _ _ _=>cases nA
  |part _ _ _ _=>cases nA
  |eX _ _ _=>cases nA
  |arg _=>exact⟨_,hc.2⟩
  |loc ep pv=>
   have vY:ep=st.ep:=by simpa[oP.live]using nA
   exact⟨_,hc.2.2.2.1 vY⟩
 obtain⟨S,EZ⟩:=EZ;refine sJ h _ _ (fin (.string ⟨(aK xs).toArray⟩) w ?_) (IG _) hk;rcases Yu EZ with⟨⟨ad,hv⟩,rfl⟩|⟨b,ob,cap,hv,zt⟩;cases ad with|none=>rw[hv,run_convert_bytes_nil w src te hu hte 0 0 dst hud];rfl|some ad=>rw[hv];exact run_convert_bytes_back w src dst te ad 0 [] hu hte hud (λj hj=>by simp at hj)
 rw[hv,run_convert_bytes_arg w src te hu hte b ob xs.length cap xs rfl zt dst hud];rfl;cases hk;cases hk
end Go.Dn
