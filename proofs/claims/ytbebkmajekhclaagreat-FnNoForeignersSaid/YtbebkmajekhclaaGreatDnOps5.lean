import Derived.Test.YtbebkmajekhclaaGreatDnOps4
import Derived.Laws.MakeOwn
import Derived.Laws.IdiomStrings
import Derived.Laws.BytesArg
/- Part 5: tuples, parts of slices, conversions, structs and slices that are built. -/
namespace Go.Dn
open Go.RowKit
variable {P:Program} {C:Ctx} {st:AS} {a:Act} {w:World} {R:Type} {r:R}
variable {arr:Array Value} {e:CT} {g:Gh} {cap:Nat} {fr:Nat×Nat} {hw:Nat->Nat} {x:Operand} {T:TypeId} {v:Value} {hs:ax (Value×AV)} {fps:ax fK} {news:jt}
theorem sk.at {c:RC}:∀{ws:jt}{ts:ax (Bool×ax AC)}{fp:fK},gU.sk c ws ts fp->∀{i:Nat}{g:Bool}{cs:ax AC},ts[i]?=some (g,cs)->
 ∃v f1 f2 f3,ws[i]?=some v/\fp=f1++f2++f3/\(∃us,Cut g v us/\bU c us cs f2)/\
  ∀c':RC,c.Le c'->(∀b∈f1++f3,c'.w.heap[b]?=c.w.heap[b]?/\c'.hw b=c.hw b)->∀sq,(∃us,Cut g v us/\bU c' us sq [])->gU.sk c' ws (ts.set i (g,sq)) (f1++f3)
 |[],[],_,_,i,g,cs,h=>by simp at h
 |w::ws,t::ts,_,r,0,g,cs,h=>by obtain⟨f1,f2,rfl,r1,r2⟩:=r;simp at h;subst h;exact⟨w,[],f1,f2,rfl,by simp,r1,λc' hle hb sq CJ=>⟨[],f2,rfl,CJ,sk.mono hle r2 (λb iI=>hb b (by simpa using iI))⟩⟩
 |w::ws,t::ts,_,r,i+1,g,cs,h=>by obtain⟨f1,f2,rfl,r1,r2⟩:=r;obtain⟨v,g1,g2,g3,hv,rfl,hr,Gq⟩:=sk.at r2 (i:=i) (by simpa using h);refine⟨v,f1++g1,g2,g3,by simpa using hv,by simp,hr,λc' hle hb sq CJ=>?_⟩;obtain⟨us,gb,fM⟩:=r1;rw[aL];refine⟨f1,g1++g3,rfl,⟨us,gb,fM.mono hle (λb iI=>hb b (by simp[iI]))⟩,?_⟩;exact Gq c' hle (λb iI=>hb b (by rcases ay.1 iI with k|k<;>simp[k])) sq CJ
 |[],_::_,_,r,_,_,_,_=>r.elim
 |_::_,[],_,r,_,_,_,_=>r.elim
theorem U4 {o:Oper}{t i:Nat}(ho:o.op=.extract (.tmp t) i)(h:pL C st a w){K:AS->az R}(hk:ng o t i st K=some r):oa P C o a w K r:=by
 obtain⟨g,h⟩:=h;unfold ng at hk;split at hk;rename_i ts hg;split at hk;rename_i gg cs hn;rw[eH]at hn;have htl:t<st.slots.length:=by
  rcases cr t st.slots.length with gH|Cg;exact gH;have:st.get t=.bot:=by simp[AS.get,eH,bI Cg]
  rw[this]at hg;cases hg
 obtain⟨fp,hr,Hs,hl⟩:=h.slot t;rw[hg]at hr;obtain⟨ws,hv,hr⟩:=hr;obtain⟨v,f1,f2,f3,hwv,rfl,S3,Gq⟩:=sk.at hr hn;have fg:(execOp a.eval o).run P w=.ok (.value v) w:=by have he:a.eval (.tmp t)=.tuple ws.toArray:=hv;simp[execOp,ho,he,Instr.extract,hwv]
 have Vm:=Hs;rw[aL]at Vm;have n1:=aQ.1 Vm;have n2:=aQ.1 n1.2.1;let RG:AV:=.yh (iS ts i (gg,bf 0 cs));let bZ:AS:=st.put (some t) RG;let g':Gh:={g with ft:=λb=>if b∈f2 then some (.hand 0) else g.ft b}
 have hle:(df C g st w).Le (df C g' bZ w):=by have:= @VJ C g st w (some t) RG;exact⟨this.A,this.hdr,this.WU,this.ep,this.KI,this.agO⟩
 have hlk:∀b y,g.ft b=some y->b∉f2->g'.ft b=some y:=by intro b y hb hm;show(if b∈f2 then _ else _)=_;rw[aG hm];exact hb
 have NX:∀b y,y≠ .slot t->g.ft b=some y->b∉f2:=λb y hy hb hm=>hy (by have:=hl b (by simp[hm]);rw[hb]at this;simpa using this);have aoC:eJ C g' bZ a w [(v,.val gg cs)]:=by
  refine h.step (λy=>y≠ .slot t) hle h.defers (by show _=(st.put (some t) RG).slots.length;rw[gG,aC];exact h.size) (by show(st.put (some t) RG).boxes.length=(st.put (some t) RG).slots.length;rw[lR,gG,aC];exact h.bsize) h.frame ?_ (λb y hy hb=>⟨hlk b y hb (NX b y hy hb),rfl,rfl⟩) ?_ ?_ ?_ (.inl ⟨by simp,LP⟩);intro b y hy;have Ww:(if b∈f2 then some (kZ.hand 0) else g.ft b)=some y:=hy;by_cases hm:b∈f2;exact h.gW b _ (hl b (by simp[hm]));rw[aG hm]at Ww;exact h.gW b y Ww;intro j bv hj;have hj':(st.slots.set t RG)[j]?=some bv:=by rw[<-gG];exact hj
  by_cases hjt:j=t;subst hjt;rw[bJ]at hj';simp only[ch,htl]at hj';simp at hj';subst hj';refine .inr ⟨f1++f3,⟨ws,hv,?_⟩,?_,?_⟩;rw[gj];obtain⟨us,gb,fM⟩:=S3;refine Gq _ hle (λb _=>⟨rfl,rfl⟩) _ ⟨us,gb,?_⟩;exact(fM.adm).mono hle (by simp);refine aQ.2 ⟨n1.1,n2.2.1,?_⟩;rintro b hb c hc rfl;exact n1.2.2 b hb b (bw _ hc) rfl;intro b hb;refine hlk b _ (hl b (by rcases ay.1 hb with k|k<;>simp[k])) (λhm=>?_);rcases ay.1 hb with k|k;exact n1.2.2 b k b (bK _ hm) rfl;exact n2.2.2 b hm b k rfl;rw[aP (cZ hjt)]at hj';exact .inl ⟨by simpa using hjt,hj',rfl⟩;intro s sq hb;have iI:st.boxes[s]?=some (some sq):=by rw[<-lR (d:=some t) (v:=RG)];exact hb
  exact .inl ⟨by simp,iI,rfl⟩;intro k u bv Gm;cases k with
  |zero=>simp only[cD,bq,Prod.mk.injEq]at Gm;obtain⟨rfl,rfl⟩:=Gm;obtain⟨us,gb,fM⟩:=S3;refine .inr ⟨f2,⟨us,gb,fM.mono hle (λb _=>⟨rfl,rfl⟩)⟩,n2.1,λb hb=>?_⟩;show(if b∈f2 then _ else _)=_;rw[aI hb]
  |succ k=>simp at Gm
 exact⟨v,w,_,.inl fg,eJ.E5 aoC o.dst,hk⟩;cases hk;cases hk
def lH (hw:Nat->Nat)(w:World)(e:CT)(news:jt)(ys:ax e.D)(fps:ax fK):Prop:=
 news.length=ys.length*e.size/\fps.length=ys.length/\∀(i:Nat)(y:e.D)(f:fK),ys[i]?=some y->fps[i]?=some f->fZ hw w e ((news.drop (i*e.size)).take e.size) y f
theorem lH.append {w:World}{n1 n2:jt}{xs ys:ax e.D}{f1 f2:ax fK}(h1:lH hw w e n1 xs f1)(h2:lH hw w e n2 ys f2): lH hw w e (n1++n2) (xs++ys) (f1++f2):=by
 obtain⟨a1,a2,a3⟩:=h1;obtain⟨b1,b2,b3⟩:=h2;refine⟨by rw[ai,ai,a1,b1,cU],by simp[a2,b2],λi y f hy hf=>?_⟩;by_cases hi:i<xs.length;rw[bF hi]at hy;rw[bF (by omega)]at hf;have hm:(i+1)*e.size<=xs.length*e.size:=cK _ hi;rw[cU,fX]at hm;have:=a3 i y f hy hf;have e1:((n1++n2).drop (i*e.size)).take e.size=(n1.drop (i*e.size)).take e.size:=by rw[List.drop_append_of_le_length (by omega),List.take_append_of_le_length (by rw[aJ];omega)]
 rw[e1];exact this;rw[bA (by omega)]at hy;rw[bA (by omega),a2]at hf;have:=b3 _ y f hy hf;have Cg:xs.length*e.size<=i*e.size:=cK _ (by omega);have e1:(n1++n2).drop (i*e.size)=n2.drop ((i-xs.length)*e.size):=by rw[List.drop_append,di (by omega),cd,a1,Nat.sub_mul]
 rw[e1];exact this
theorem lH.mono {hw':Nat->Nat}{w w':World}{ys:ax e.D}(h:lH hw w e news ys fps)(hk:∀b∈fps.flatten,w'.heap[b]?=w.heap[b]?/\hw' b=hw b):lH hw' w' e news ys fps:=⟨h.1,h.2.1,λi y f hy hf=>fZ.mono (h.2.2 i y f hy hf) λb hb=>hk b (List.mem_flatten.2 ⟨f,aY hf,hb⟩)⟩
theorem lH.nil (hw:Nat->Nat)(w:World)(e:CT):lH hw w e [] [] []:=⟨by simp,rfl,by simp⟩
theorem lH.oy {w:World}{ys:ax e.D}(h:lH hw w e news ys fps):∀v∈news,v.oneCell'=true:=by
 intro v hv;obtain⟨j,hj,hjv⟩:=List.mem_iff_getElem.1 hv;have afx:=e.size_pos;have hi:j/e.size<ys.length:=by rw[Nat.div_lt_iff_lt_mul afx];rw[<-h.1];exact hj
 have iz:=h.2.2 (j/e.size) _ _ (al hi) (al (by rw[h.2.1];exact hi));refine fZ.oy iz v ?_;rw[List.mem_iff_getElem?];refine⟨j%e.size,?_⟩;rw[kl,aI (Nat.mod_lt _ afx),Nat.mul_comm,Nat.div_add_mod,al hj,hjv]
theorem acy {w:World}{b o0:Nat}{xs:ax e.D}(hb:w.heap[b]?=some (.cells arr T fr))(uv:ru arr fr)(hs:arr.size=o0+cap*e.size)(hc:xs.length<=cap)(hh:hw b=o0+xs.length*e.size)(Gj:lH hw w e ((arr.toList.drop o0).take (xs.length*e.size)) xs fps): fZ hw w (.sl e) [.slice (some ⟨b,o0,none⟩) xs.length cap] xs (b::fps.flatten):=by
 refine⟨_,rfl,.inr ⟨b,o0,cap,arr,T,fr,fps,rfl,hb,uv,hs,hc,hh,rfl,Gj.2.1,λi x f hx hf=>?_⟩⟩;have:=Gj.2.2 i x f hx hf;have hi:i<xs.length:=(aA.1 hx).1;have hm:(i+1)*e.size<=xs.length*e.size:=cK _ hi;rw[cU,fX]at hm;have e1:(((arr.toList.drop o0).take (xs.length*e.size)).drop (i*e.size)).take e.size=(arr.toList.drop (o0+i*e.size)).take e.size:=by apply cS;intro j;rw[kl,kl,kl];by_cases hj:j<e.size;rw[aI hj,aI hj,zip,gy];rw[aG hj,aG hj]
 rw[e1]at this;exact this
theorem L6 {w:World}{o0:Nat}{xs:ax e.D}(hs:arr.size=o0+cap*e.size)(hc:xs.length<=cap)(hl:fps.length=xs.length)(h:∀(i:Nat)(x:e.D)(f:fK),xs[i]?=some x->fps[i]?=some f->fZ hw w e ((arr.toList.drop (o0+i*e.size)).take e.size) x f):lH hw w e ((arr.toList.drop o0).take (xs.length*e.size)) xs fps:=by
 refine⟨?_,hl,λi x f hx hf=>?_⟩;have hal:(arr.toList.drop o0).length=cap*e.size:=by rw[aJ,Array.length_toList,hs];omega
 rw[aV,hal];exact iW (cK _ hc);have hi:i<xs.length:=(aA.1 hx).1;have hm:(i+1)*e.size<=xs.length*e.size:=cK _ hi;rw[cU,fX]at hm;have e1:(((arr.toList.drop o0).take (xs.length*e.size)).drop (i*e.size)).take e.size=(arr.toList.drop (o0+i*e.size)).take e.size:=by apply cS;intro j;rw[kl,kl,kl];by_cases hj:j<e.size;rw[aI hj,aI hj,zip,gy];rw[aG hj,aG hj]
 rw[e1];exact h i x f hx hf
theorem Ps {w w':World}{S:Nat->Nat->Prop}:∀{e:CT}{vs:jt}{x:e.D},jX w' S e vs x->e.flat=true->fZ hw w e vs x []
 | .int _,_,_,h,_=>⟨h,rfl⟩
 | .bool,_,_,h,_=>⟨h,rfl⟩
 | .str,_,_,h,_=>⟨h,rfl⟩
 | .sl _,_,_,_,hf=>by cases hf
 | .pair a b,_,_,h,hf=>by obtain⟨v1,v2,rfl,h1,h2⟩:=h;simp only[CT.flat,ae]at hf;exact⟨v1,v2,[],[],rfl,rfl,Ps h1 hf.1,Ps h2 hf.2⟩
def PK (hdr:Nat->Value)(t:az Nat)(v:Value):Nat->Value:=λu=>if t=some u then v else hdr u
theorem aby {hdr:Nat->Value}{d:az Nat}{t:Nat}(h:oc st t):PK hdr (st.ja d 0) v t=hdr t:=by unfold PK;rw[aG];intro e;exact(rf e).1 h
theorem eJ.QF (h:eJ C g st a w hs)(d:az Nat){xs:ax e.D}{fp:fK}{w':World}{hw':Nat->Nat}(kb:Fr (λb=>eE (g.ft b)) w w')(Hr:∀b x,g.ft b=some x->¬eE (some x)->hw' b=g.hw b)(JY:∀b o u,o<g.hw b->w.cell? ⟨b,o,none⟩=some u->o<hw' b/\w'.cell? ⟨b,o,none⟩=some u)(iz:fZ hw' w' (.sl e) [v] xs fp)(hn:fp.Nodup)(FC:∀b∈fp,b<w'.heap.size/\(eE (g.ft b)\/w.heap.size<=b)): pL C (st.rn d e xs) (a.put d v) w':=by refine h.QE d (st1:=st.gn d) (hdr':=PK g.hdr (st.ja d 0) v) Kn wF CV B6 (λt ht=>⟨E0 ht,aby ht⟩) kb Hr JY (nP ⟨iz,λt ht=>?_⟩) hn FC;refine⟨(rf ht).2.1,?_⟩;show v=PK g.hdr (st.ja d 0) v t;unfold PK;rw[aI ht]
theorem eJ.Qs (h:eJ C g st a w hs)(d:az Nat){xs:ax e.D}{w':World}(hw:w'=w.alloc (.cells arr T fr)\/w'=w.drew.alloc (.cells arr T fr))(uv:ru arr fr)(hs0:arr.size=cap*e.size)(hc:xs.length<=cap)(Gj:lH g.hw w e (arr.toList.take (xs.length*e.size)) xs fps)(hn:fps.flatten.Nodup)(FC:∀b∈fps.flatten,eE (g.ft b)): pL C (st.rn d e xs) (a.put d (.slice (some ⟨w.heap.size,0,none⟩) xs.length cap)) w':=by
 have kb:Fr (λb=>eE (g.ft b)) w w':=by rcases hw with rfl|rfl;exact Fr.alloc _ _ _;exact(Fr.drew _ w).trans (Fr.alloc _ _ _) (λb _ hh=>hh)
 have afw:w'.heap[w.heap.size]?=some (.cells arr T fr):=by rcases hw with rfl|rfl;exact heap_alloc_new w _;exact heap_alloc_new w.drew _
 have vZ:w'.heap.size=w.heap.size+1:=by rcases hw with rfl|rfl<;>simp
 have hold:∀b,b<w.heap.size->w'.heap[b]?=w.heap[b]?:=by intro b hb;rcases hw with rfl|rfl;exact heap_alloc_old w _ b hb;exact heap_alloc_old w.drew _ b hb
 have gH:∀b∈fps.flatten,b<w.heap.size:=by intro b hb;have hh:=FC b hb;cases hx:g.ft b with|none=>rw[hx]at hh;cases hh|some x=>exact(h.gW b x hx).1
 let hw':Nat->Nat:=λb=>if b=w.heap.size then xs.length*e.size else g.hw b
 have iz:fZ hw' w' (.sl e) [.slice (some ⟨w.heap.size,0,none⟩) xs.length cap] xs (w.heap.size::fps.flatten):=by refine acy (o0:=0) afw uv (by rw[cy];exact hs0) hc (by simp[hw']) (Gj.mono λb hb=>?_);have iI:=gH b hb;exact⟨hold b iI,by simp[hw',iP iI]⟩
 refine h.QF d (hw':=hw') (fp:=w.heap.size::fps.flatten) kb ?_ ?_ iz ?_ ?_;intro b x hx _;simp[hw',iP (h.gW b x hx).1];intro b o u ho hu;have hb:b<w.heap.size:=World.block_lt_of_cell? w _ hu;exact⟨by simp[hw',iP hb];exact ho,by rw[World.cell?_of_block (a:=⟨b,o,none⟩) (hold b hb)];exact hu⟩;exact dG.2 ⟨λhm=>Nat.lt_irrefl _ (gH _ hm),hn⟩;intro b hb;rcases bS.1 hb with rfl|hb;exact⟨by omega,.inr (bj _)⟩;exact⟨by have:=gH b hb;omega,.inl (FC b hb)⟩
theorem ajL {z:Array Value}{c size i:Nat}(hz:z.size=size)(hi:i<c):((madeCells z (c*size)).toList.drop (i*size)).take size=z.toList:=by
 have hm:(i+1)*size<=c*size:=cK _ hi;rw[cU,fX]at hm;apply cS;intro j;rw[kl];by_cases hj:j<size;rw[aI hj,madeCells];have h1:i*size+j<c*size:=by omega
 simp only[Array.toList_map,Array.toList_range,eU,List.getElem?_range h1,dH];have aor:(i*size+j)%z.size=j:=by rw[hz,Nat.mul_comm,Nat.mul_add_mod,eQ hj]
 rw[aor];simp[getElem!_pos,hz,hj];rw[aG hj,bI];simp[hz];omega
theorem Ql {E:Env}(hE:kq P E.ty){o:Oper}{n c:Operand}(ho:o.op=.makeSlice T n c)(h:pL C st a w){K:AS->az R}(hk:qj E o T n c st K=some r):oa P C o a w K r:=by
 obtain⟨g,hg⟩:=id h;have hnv:=hg.rd n;have hcv:=hg.rd c;unfold qj at hk;split at hk;rename_i e len cap hT hn hc;rw[hn]at hnv;rw[hc]at hcv;split at hk;rename_i hlc;unfold room at hk;split at hk;rename_i H5;obtain⟨te,hu,⟨inf,z,D6,vZ,hby,hz,hzc⟩,_⟩:=GP hE hT;have JU:cap<=1073741824:=by omega
 have aoe:(inf.bytes:Int)*cap<=281474976710656:=by have h1:(inf.bytes:Int)*cap<=65536*cap:=Int.mul_le_mul_of_nonneg_right (by omega) (by omega);omega
 have fg:=run_make (P:=P) w T te inf z hu D6 hz .i64 .i64 len cap hlc.1 hlc.2 aoe (by omega);have H7:(execOp a.eval o).run P w=.ok (.value (.slice (some ⟨w.heap.size,0,none⟩) len.toNat cap.toNat)) (w.alloc (.cells (madeCells z.cells (cap.toNat*inf.size)) te)):=by simp only[execOp,ho,jD hnv,jD hcv];show((Instr.makeSlice T (.int .i64 len) (.int .i64 cap))>>=λv=>pure (Next.value v)).run P w=_;rw[Sem.run_bind,fg];rfl
 have hzs:z.cells.size=e.size:=by rw[<-qW e,<-hzc];simp
 have hlen:(List.replicate len.toNat e.zero).length=len.toNat:=by simp
 have Gj:lH g.hw w e ((madeCells z.cells (cap.toNat*inf.size)).toList.take ((List.replicate len.toNat e.zero).length*e.size)) (List.replicate len.toNat e.zero) (List.replicate len.toNat []):=by
  refine L6 (o0:=0) (cap:=cap.toNat) (by rw[size_madeCells,vZ,cy]) (by rw[hlen];omega) (by simp) (λi x f hx hf=>?_);have hi:i<len.toNat:=by have:=(aA.1 hx).1;simpa using this
  rw[eV,aI hi]at hx hf;simp at hx hf;subst hx;subst hf;rw[vZ,cy,ajL hzs (by omega),hzc];exact G6 _ _ _
 refine⟨_,_,_,.inl H7,?_,hk⟩;have:=hg.Qs o.dst (T:=te) (fr:=(0,0)) (cap:=cap.toNat) (.inl rfl) (by intro j _;simp) (by rw[size_madeCells,vZ]) (by rw[hlen];omega) Gj (by simp) (by simp);rw[hlen]at this;exact this;cases hk;cases hk;cases hk
theorem OV {lo hi:az Operand}(hg:eJ C g st a w []){n:Nat}(JU:n<=cap){K:Int->Int->az R}(hk:od st lo hi n K=some r)(isS:Bool): ∃x y:Int,K x y=some r/\(0<=x->x<=y->y<=n->(Instr.sliceBounds isS n cap (lo.map a.eval) (hi.map a.eval) none).run P w=.ok (x.toNat,y.toNat,cap) w):=by
 unfold od at hk;split at hk;rename_i h1 h2;have e1:lo=none:=by cases lo<;>simp at h1⊢
 have e2:hi=none:=by cases hi<;>simp at h2⊢
 subst e1;subst e2;exact⟨0,n,hk,λ_ _ _=>by simp[Instr.sliceBounds]⟩;rename_i k p h1 h2;have e2:hi=none:=by cases hi<;>simp at h2⊢
 subst e2;cases lo with|none=>simp at h1|some lo=>simp at h1;have hv:=hg.rd lo;rw[h1]at hv;refine⟨p,n,hk,λq1 q2 q3=>?_⟩;simp[Instr.sliceBounds,Instr.sliceBound,asIntOf,jD hv,q1,q2]
 rename_i k p h1 h2;have e1:lo=none:=by cases lo<;>simp at h1⊢
 subst e1;cases hi with|none=>simp at h2|some hi=>simp at h2;have hv:=hg.rd hi;rw[h2]at hv;refine⟨0,p,hk,λq1 q2 q3=>?_⟩;simp[Instr.sliceBounds,Instr.sliceBound,asIntOf,jD hv,show 0<=p by omega,show p<=(cap:Int) by omega]
 rename_i k p k' q h1 h2;cases lo with|none=>simp at h1|some lo=>cases hi with|none=>simp at h2|some hi=>simp at h1 h2;have hv:=hg.rd lo;have hv':=hg.rd hi;rw[h1]at hv;rw[h2]at hv';refine⟨p,q,hk,λq1 q2 q3=>?_⟩;simp[Instr.sliceBounds,Instr.sliceBound,asIntOf,jD hv,jD hv',q1,show 0<=q by omega,show q<=(cap:Int) by omega];intro gH;omega
 cases hk
theorem extract_mk (s:ax UInt8)(x y:Nat):(ByteArray.mk s.toArray).extract x y=ByteArray.mk ((s.take y).drop x).toArray:=by apply ByteArray.ext;rw[ByteArray.data_extract];simp[List.extract_eq_take_drop,List.drop_take]
theorem Rd {α:Type}{xs ys:ax α}{x y:Int}(h:sub xs x y=some ys):0<=x/\x<=y/\y<=(xs.length:Int)/\ys=(xs.take y.toNat).drop x.toNat:=by unfold sub at h;split at h;rename_i hc;simp at h;exact⟨hc.1,hc.2.1,hc.2.2,h.symm⟩;cases h
theorem aej {w:World}{S:Nat->Nat->Prop}{xs:ax e.D}(h:jX w S (.sl e) [v] xs){x y:Nat}(hxy:x<=y)(hy:y<=xs.length): ∃bo cap,v=.slice bo xs.length cap/\xs.length<=cap/\jX w S (.sl e) [.slice (if cap=x then bo else bo.map (·.add (x*e.size))) (y-x) (cap-x)] ((xs.take y).drop x):=by
 obtain⟨u,hu,h⟩:=h;simp at hu;subst hu;rcases h with⟨⟨ad,rfl⟩,rfl⟩|⟨b,o,cap,rfl,hc,h⟩;simp at hy;subst hy;have hx:x=0:=by omega
 subst hx;exact⟨ad,0,rfl,by simp,⟨_,rfl,.inl ⟨⟨ad,by simp⟩,by simp⟩⟩⟩;have hl:((xs.take y).drop x).length=y-x:=by simp;omega
 refine⟨some ⟨b,o,none⟩,cap,rfl,hc,⟨_,rfl,.inr ?_⟩⟩;by_cases hcx:cap=x;refine⟨b,o,cap-x,by rw[aI hcx,hl],by rw[hl];omega,λi z hz=>?_⟩;have:((xs.take y).drop x)=[]:=cq (by rw[hl];omega);rw[this]at hz;simp at hz;refine⟨b,o+x*e.size,cap-x,by rw[aG hcx,hl];simp[oF],by rw[hl];omega,λi z hz=>?_⟩;have hz':xs[x+i]?=some z:=by rw[bQ,ej]at hz;split at hz;exact hz;cases hz
 obtain⟨cs,Lz,hr⟩:=h (x+i) z hz';refine⟨cs,?_,hr⟩;have:o+x*e.size+i*e.size=o+(x+i)*e.size:=by rw[cU];omega
 rw[this];exact Lz
theorem aj4 {w:World}{xs:ax e.D}{fp:fK}(h:fZ hw w (.sl e) [v] xs fp){n:Nat}(hn:n<=xs.length): ∃bo cap,v=.slice bo xs.length cap/\xs.length<=cap/\∃lx,fZ hw w (.sl e) [.slice (if cap=n then bo else bo.map (·.add (n*e.size))) (xs.length-n) (cap-n)] (xs.drop n) lx/\(∀b∈lx,b∈fp)/\(fp.Nodup->lx.Nodup):=by
 obtain⟨u,hu,h⟩:=h;simp at hu;subst hu;rcases h with⟨⟨ad,rfl⟩,rfl,rfl⟩|⟨b,o0,cap,arr,T,fr,fps,rfl,hb,uv,hs,hc,hh,rfl,hl,hr⟩;simp at hn;subst hn;exact⟨ad,0,rfl,by simp,[],⟨_,rfl,.inl ⟨⟨ad,by simp⟩,rfl,rfl⟩⟩,by simp,by simp⟩;refine⟨some ⟨b,o0,none⟩,cap,rfl,hc,?_⟩;by_cases hcn:cap=n;have hx:xs.drop n=[]:=di (by omega);refine⟨[],⟨_,rfl,.inl ⟨⟨some ⟨b,o0,none⟩,by rw[aI hcn,show xs.length-n=0 by omega,show cap-n=0 by omega]⟩,hx,rfl⟩⟩,by simp,by simp⟩;have hm1:cap*e.size=n*e.size+(cap-n)*e.size:=by rw[<-cU];congr 1;omega
 have hm2:xs.length*e.size=n*e.size+(xs.length-n)*e.size:=by rw[<-cU];congr 1;omega
 refine⟨b::(fps.drop n).flatten,⟨_,rfl,.inr ⟨b,o0+n*e.size,cap-n,arr,T,fr,fps.drop n,by rw[aG hcn];simp[oF],hb,uv,by omega,by simp;omega,by simp;omega,rfl,by simp[hl],λi x f hx hf=>?_⟩⟩,?_,?_⟩;rw[bQ]at hx hf;have:=hr (n+i) x f hx hf;rwa[cU,<-gy]at this;intro c CJ;rcases bS.1 CJ with rfl|CJ;simp;obtain⟨l,hl1,BK⟩:=List.mem_flatten.1 CJ;exact dY _ (List.mem_flatten.2 ⟨l,List.mem_of_mem_drop hl1,BK⟩);intro Hs;have h1:=dG.1 Hs;have e1:fps.flatten=(fps.take n).flatten++(fps.drop n).flatten:=by rw[<-eR,cI]
 rw[e1]at h1;exact dG.2 ⟨λhm=>h1.1 (by simp[hm]),(aQ.1 h1.2).2.1⟩
theorem agH {an:An}{o:Oper}{ep:Nat}{pv:az (lQ×Nat)}{p:Int}:Qw an o (.loc ep pv) p=.loc ep none\/∃rt t,pv=some (rt,t)/\Qw an o (.loc ep pv) p=.part ep rt t p:=by
 unfold Qw;split;rename_i ep' r t d h _;cases h;cases an.nest.contains d with|false=>exact .inl rfl|true=>exact .inr ⟨_,_,rfl,rfl⟩
 exact .inl rfl
theorem QT {E:Env}(hE:kq P E.ty){o:Oper}{lo hi:az Operand}(ho:o.op=.slice T x lo hi none)(h:pL C st a w){K:AS->az R}(hk:yF E o T x lo hi st K=some r):oa P C o a w K r:=by
 obtain⟨g,hg⟩:=h;unfold yF at hk;split at hk;rename_i tag e xs bZ kd p uH hlo;split at hk;rename_i hT;cases lo with
 |none=>simp at hlo
 |some lo=>
  simp at hlo;have hlv:=hg.rd lo;rw[hlo]at hlv;obtain⟨te,hu,⟨inf,z,D6,vZ,_⟩,_⟩:=GP hE hT;obtain⟨g',pJ⟩:=hg.take x;rw[uH]at pJ;simp only[cd]at pJ;cases rm:sub xs p xs.length with
  |none=>rw[rm]at hk;cases hk
  |some RD=>
   rw[rm]at hk;simp only[aa]at hk;obtain⟨h1,h2,_,rfl⟩:=Rd rm;obtain⟨fp,fM,Hs,hl⟩:=pJ.hands 0 _ _ rfl;have iz:=(fw fM).1;obtain⟨bo,cap,hv,JU,lx,JX,aqP,Vm⟩:=aj4 iz (n:=p.toNat) (by omega);have fg:(execOp a.eval o).run P w=.ok (.value (.slice (if cap=p.toNat then bo else bo.map (·.add (p.toNat*e.size))) (xs.length-p.toNat) (cap-p.toNat))) w:=by
    have hb:(Instr.sliceBounds true xs.length cap (some (a.eval lo)) none none).run P w=.ok (p.toNat,xs.length,cap) w:=by have hp2:p<=(xs.length:Int):=h2;simp[Instr.sliceBounds,Instr.sliceBound,asIntOf,jD hlv,h1,hp2]
    simp only[execOp,ho,hv,Instr.sliceAt,Instr.slice,underlying,Option.map_none,dH,Sem.run_bind,run_program,hu,Result.andThen_ok,Sem.run_pure,hb,sizeOf,typeInfo,D6,vZ]
   have DE:(xs.take ((xs.length:Int).toNat)).drop p.toNat=xs.drop p.toNat:=by rw[aw,cE]
   rw[DE]at hk;refine⟨_,_,_,.inl fg,?_,hk⟩;refine pJ.QF o.dst (hw':=g'.hw) (fp:=lx) (Fr.refl _ _) (λ_ _ _ _=>rfl) (λ_ _ _ ho hu=>⟨ho,hu⟩) JX (Vm Hs) (λb hb=>?_);have:=hl b (aqP b hb);exact⟨(pJ.gW b _ this).1,.inl (by rw[this];rfl)⟩
 cases hk;cases hk
theorem acW {E:Env}(hE:kq P E.ty){an:An}{o:Oper}{lo hi:az Operand}(ho:o.op=.slice T x lo hi none)(h:pL C st a w){K:AS->az R}(hk:Cz E an o T x lo hi st K=some r):oa P C o a w K r:=by
 obtain⟨g,hg⟩:=id h;have wN:=hg.fresh (hg.rd x);unfold Cz at hk;split at hk;exact QT hE ho h hk;split at hk;rename_i s hx;rw[hx]at wN;split at hk;rename_i hT;have hu:=Wh hE hT;have hv:=(fw wN).1;obtain⟨p,q,Vl,fg⟩:=OV (P:=P) (w:=w) hg (bj s.length) hk false;cases rm:sub s p q with|none=>rw[rm]at Vl;cases Vl|some s'=>rw[rm]at Vl;simp only[aa]at Vl;obtain⟨h1,h2,h3,rfl⟩:=Rd rm;have hb:=fg h1 h2 h3;refine wV h _ _ ?_ (Ov _) Vl;simp only[execOp,ho,hv,Instr.sliceAt,Instr.slice,underlying,Option.map_none,Sem.run_bind,run_program,hu,Result.andThen_ok,Sem.run_pure,zB,hb,Option.isSome_none,bm,cw,extract_mk]
 cases hk;rename_i fl e xs hx;rw[hx]at wN;split at hk;rename_i hT;obtain⟨hT,qB⟩:=hT;obtain⟨te,hu,⟨inf,z,D6,vZ,_⟩,_⟩:=GP hE hT;have hc:=fw wN
 have key:∀(S:Nat->Nat->Prop),jX w S (.sl e) [a.eval x] xs->(∀(p q:Int)(bo:az Addr)(cap:Nat),0<=p->p<=q->q<=xs.length->xs.length<=cap->a.eval x=.slice bo xs.length cap->
  jX w S (.sl e) [.slice (if cap=p.toNat then bo else bo.map (·.add (p.toNat*e.size))) (q.toNat-p.toNat) (cap-p.toNat)] ((xs.take q.toNat).drop p.toNat)->
  iC (df C g st w) (.slice (if cap=p.toNat then bo else bo.map (·.add (p.toNat*e.size))) (q.toNat-p.toNat) (cap-p.toNat)) (.sl (Qw an o fl p) e ((xs.take q.toNat).drop p.toNat)) [])->oa P C o a w K r:=by
  intro S JZ hmk
  have JU:∃bo cap,a.eval x=.slice bo xs.length cap/\xs.length<=cap:=by obtain⟨bo,cap,hv,hc,_⟩:=aej JZ (x:=0) (y:=0) (bj _) (cg _);exact⟨bo,cap,hv,hc⟩
  obtain⟨bo,cap,hv,JU⟩:=JU
  obtain⟨p,q,Vl,fg⟩:=OV (P:=P) (w:=w) hg JU hk true
  cases rm:sub xs p q with
  |none=>rw[rm]at Vl;cases Vl
  |some RD=>
   rw[rm]at Vl
   simp only[aa]at Vl
   obtain⟨h1,h2,h3,rfl⟩:=Rd rm
   have hb:=fg h1 h2 h3
   obtain⟨bo',awm,hv',_,aje⟩:=aej JZ (x:=p.toNat) (y:=q.toNat) (by omega) (by omega)
   rw[hv]at hv'
   simp only[Value.slice.injEq,true_and]at hv'
   obtain⟨rfl,rfl⟩:=hv'
   refine⟨.slice (if cap=p.toNat then bo else bo.map (·.add (p.toNat*e.size))) (q.toNat-p.toNat) (cap-p.toNat),w,_,.inl ?_,⟨g,hg.quiet o.dst (nP (hmk p q _ _ h1 h2 h3 JU hv aje))⟩,Vl⟩
   simp only[execOp,ho,hv,Instr.sliceAt,Instr.slice,underlying,Option.map_none,Sem.run_bind,run_program,hu,Result.andThen_ok,Sem.run_pure,hb,sizeOf,typeInfo,D6,vZ]
 cases fl with
 |own t=>cases qB
 |nest _ _ _ _ _ _=>cases qB
 |part _ _ _ _=>cases qB
 |ga _ _ _=>cases qB
 |arg _=>exact key _ hc.2 (λp q bo cap _ _ _ _ _ hr=>by simp only[Qw,sj.bare];exact⟨rfl,hr⟩)
 |loc ep pv=>
  have Aw:ep=st.ep:=by simpa[sj.live]using qB
  refine key _ (hc.2.2.2.1 Aw) (λp q bo cap hp hpq hq JU hv hr=>?_);have hlen:((xs.take q.toNat).drop p.toNat).length=q.toNat-p.toNat:=by simp;omega
  have plain:iC (df C g st w) (.slice (if cap=p.toNat then bo else bo.map (·.add (p.toNat*e.size))) (q.toNat-p.toNat) (cap-p.toNat)) (.sl (.loc ep none) e ((xs.take q.toNat).drop p.toNat)) []:=⟨rfl,hc.2.1,⟨_,_,_,rfl,hlen.symm⟩,λ_=>hr,by simp⟩
  rcases agH (an:=an) (o:=o) (ep:=ep) (pv:=pv) (p:=p)with hpf|⟨rt,t,rfl,hpf⟩;rw[hpf];exact plain;rw[hpf];refine⟨rfl,hc.2.1,⟨_,_,_,rfl,hlen.symm⟩,λ_=>?_⟩;have H6:=hc.2.2.2.2 rt t rfl;refine⟨H6.1,?_⟩;by_cases hz:q.toNat-p.toNat=0;exact .inl (cq (by rw[hlen];exact hz));right;obtain⟨u,hu,JZ⟩:=hc.2.2.2.1 Aw;simp at hu;rcases JZ with⟨_,rfl⟩|⟨b,o0,aav,Vq,hc2,_⟩;simp at hlen;omega;rw[<-hu,hv]at Vq;simp only[Value.slice.injEq,true_and]at Vq;obtain⟨rfl,rfl⟩:=Vq;refine⟨p.toNat,b,o0,xs.length,cap,cap-p.toNat,by omega,by rw[<-H6.2,hv],by rw[hlen];omega,?_⟩;rw[nU,hlen];simp[oF]
 cases hk;cases hk
theorem WT {E:Env}(hE:kq P E.ty)(h:E.bytes T=true):∃te,P.underlying T=some (.slice te)/\P.underlying te=some (.int .u8):=by unfold Env.bytes at h;split at h;rename_i te n hT;split at h;rename_i kU hte;obtain⟨te',hu,_,ho⟩:=(hE T _ hT).sl _ rfl rfl;have:=ho te n rfl;subst this;exact⟨te,hu,(hE te _ hte).int _ rfl rfl⟩;cases h;cases h
theorem agS {w:World}{S:Nat->Nat->Prop}{xs:bW}(h:jX w S (.sl (.int .u8)) [v] xs): ((∃a,v=.slice a 0 0)/\xs=[])\/∃b o cap,v=.slice (some ⟨b,o,none⟩) xs.length cap/\∀i,i<xs.length->w.cell? ⟨b,o+i,none⟩=some (.int .u8 (xs.getD i 0)):=by obtain⟨u,hu,h⟩:=h;simp at hu;subst hu;rcases h with h|⟨b,o,cap,hv,_,h⟩;exact .inl h;refine .inr ⟨b,o,cap,hv,λi hi=>?_⟩;obtain⟨cs,Lz,hr⟩:=h i xs[i] (al hi);have hr':cs=[.int .u8 xs[i]]:=hr;subst hr';have:=(Lz 0 _ rfl).2;simp only[CT.size,oG,eP]at this;rw[this];simp[List.getD,al hi]
theorem Ux {E:Env}(hE:kq P E.ty){o:Oper}{src dst:TypeId}(ho:o.op=.convert src dst x)(h:pL C st a w){K:AS->az R}(hk:nb E o src dst x st K=some r):oa P C o a w K r:=by
 obtain⟨g,hg⟩:=id h;have wN:=hg.rd x;have fin:∀v w',(convert src dst (a.eval x)).run P w=.ok v w'->(execOp a.eval o).run P w=.ok (.value v) w':=by intro v w' hr;simp only[execOp,ho];show(convert src dst (a.eval x)>>=λv=>pure (Next.value v)).run P w=_;rw[Sem.run_bind,hr];rfl
 have under:∀(T:TypeId)(sh:Shape),jU E.ty T=some sh->∃d,P.underlying T=some d:=by
  intro T sh hT;have pK:=hE T sh hT;cases Om:sh.agg with
  |true=>obtain⟨fs,hu,_⟩:=pK.agg Om;exact⟨_,hu⟩
  |false=>
   cases MU:sh.ct with
   |int k=>exact⟨_,pK.int k MU Om⟩
   |bool=>exact⟨_,pK.bool MU Om⟩
   |str=>exact⟨_,pK.str MU Om⟩
   |sl e=>obtain⟨te,hu,_⟩:=pK.sl e MU Om;exact⟨_,hu⟩
   |pair p q=>have:=pK.pair p q MU;rw[Om]at this;cases this
 unfold nb at hk;split at hk;rename_i ssh k kU k' n hs hd hx;rw[hx]at wN;obtain⟨ds,hus⟩:=under _ _ hs;have hud:=(hE dst _ hd).int k rfl rfl;refine wV h _ _ (fin (.int k (k.wrap n)) w ?_) (lD _ _) hk;rw[jD wN];simp only[convert,underlying,Sem.run_bind,run_program,hus,hud,Result.andThen_ok,Sem.run_pure];rfl;rename_i kU awk s hs hd hx;rw[hx]at wN;have hus:=(hE src _ hs).str rfl rfl;have hud:=(hE dst _ hd).str rfl rfl;refine wV h _ _ (fin (.string ⟨s.toArray⟩) w ?_) (Ov _) hk;rw[(fw wN).1];simp only[convert,underlying,Sem.run_bind,run_program,hus,hud,Result.andThen_ok,Sem.run_pure];rename_i kU sh s NX hs hd hx;rw[hx]at wN;split at hk;rename_i hb;unfold room at hk;split at hk;obtain⟨te,hu,hte⟩:=WT hE hb;have hus:=(hE src _ hs).str rfl rfl;have fg:=run_bytes_of_string (P:=P) w src dst te ⟨s.toArray⟩ hus hu hte;rw[<-(fw wN).1,zB]at fg;refine⟨_,_,_,.inl (fin _ _ fg),?_,hk⟩;have Cg:=grownCap_ge w s.length 0 te;have vZ:(bytesRow ⟨s.toArray⟩ (grownCap w s.length 0 te)).size=grownCap w s.length 0 te*CT.size (.int .u8):=by simp only[bytesRow,Array.size_append,Array.size_map,Array.size_replicate,zB,CT.size];simp;omega
 have uH:(bytesRow ⟨s.toArray⟩ (grownCap w s.length 0 te)).toList.take ((dy s).length*CT.size (.int .u8))=(dy s).map (Value.int .u8):=by simp only[bytesRow,dy,CT.size,Array.toList_append,Array.toList_map];rw[List.take_append_of_le_length (by simp)];rw[cf (by simp)];simp
 have Gj:lH g.hw w (.int .u8) ((bytesRow ⟨s.toArray⟩ (grownCap w s.length 0 te)).toList.take ((dy s).length*CT.size (.int .u8))) (dy s) (List.replicate s.length []):=by
  rw[uH];refine⟨by simp[CT.size],by simp[dy],λi y f hy hf=>?_⟩;have hi:i<(dy s).length:=(aA.1 hy).1;have hf':f=[]:=by rw[eV]at hf;split at hf<;>simp at hf;exact hf
  subst hf';refine⟨?_,rfl⟩;apply cS;intro j;rw[kl];simp only[CT.size,oG];cases j with|zero=>simp[hy]|succ j=>simp
 have hlen:(dy s).length=s.length:=by simp[dy]
 have:=hg.Qs o.dst (T:=te) (fr:=((bytesRow ⟨s.toArray⟩ (grownCap w s.length 0 te)).size,(bytesRow ⟨s.toArray⟩ (grownCap w s.length 0 te)).size+1)) (cap:=grownCap w s.length 0 te) (.inr rfl) (by intro j hj hc;simp only at hc;omega) vZ (by rw[hlen];exact Cg) Gj (by simp) (by simp);rw[hlen]at this;exact this;cases hk;cases hk;rename_i ssh kU fl xs hs hd hx;rw[hx]at wN;split at hk;rename_i hb;obtain⟨hb,qB⟩:=hb;obtain⟨te,hu,hte⟩:=WT hE hb;have hud:=(hE dst _ hd).str rfl rfl;have hc:=fw wN;have JZ:∃S,jX w S (.sl (.int .u8)) [a.eval x] xs:=by
  cases fl with
  |own t=>cases qB
  |nest _ _ _ _ _ _=>cases qB
  |part _ _ _ _=>cases qB
  |ga _ _ _=>cases qB
  |arg _=>exact⟨_,hc.2⟩
  |loc ep pv=>
   have Aw:ep=st.ep:=by simpa[sj.live]using qB
   exact⟨_,hc.2.2.2.1 Aw⟩
 obtain⟨S,JZ⟩:=JZ;refine wV h _ _ (fin (.string ⟨(aO xs).toArray⟩) w ?_) (Ov _) hk;rcases agS JZ with⟨⟨ad,hv⟩,rfl⟩|⟨b,ob,cap,hv,D3⟩;cases ad with|none=>rw[hv,run_convert_bytes_nil w src te hu hte 0 0 dst hud];rfl|some ad=>rw[hv];exact run_convert_bytes_back w src dst te ad 0 [] hu hte hud (λj hj=>by simp at hj)
 rw[hv,run_convert_bytes_arg w src te hu hte b ob xs.length cap xs rfl D3 dst hud];rfl;cases hk;cases hk
end Go.Dn
