import Derived.Test.YthllnaiaikjelaaGreatDnOps4
import Derived.Laws.MakeOwn
import Derived.Laws.IdiomStrings
import Derived.Laws.BytesArg
/- Part 5: tuples, parts of slices, conversions, structs and slices that are built. -/
namespace Go.Dn
open Go.RowKit
variable {P:Program} {C:Ctx} {st:AS} {a:Act} {w:World} {R:Type} {r:R}
variable {arr:Array Value} {e:CT} {g:Gh} {cap:Nat} {fr:Nat×Nat} {hw:Nat->Nat} {x:Operand} {T:TypeId} {hs:ar (Value×AV)} {fps:ar ec} {news:iU}
theorem uw.at {c:RC}:∀{ws:iU}{ts:ar (Bool×ar AC)}{fp:ec},gi.uw c ws ts fp->∀{i:Nat}{g:Bool}{cs:ar AC},ts[i]?=some (g,cs)->
 ∃v f1 f2 f3,ws[i]?=some v/\fp=f1++f2++f3/\(∃us,Cut g v us/\bD c us cs f2)/\
  ∀c':RC,c.Le c'->(∀b∈f1++f3,c'.w.heap[b]?=c.w.heap[b]?/\c'.hw b=c.hw b)->∀oY,(∃us,Cut g v us/\bD c' us oY [])->gi.uw c' ws (ts.set i (g,oY)) (f1++f3)
 |[],[],_,_,i,g,cs,h=>by simp at h
 |w::ws,t::ts,_,r,0,g,cs,h=>by obtain⟨f1,f2,rfl,r1,r2⟩:=r;simp at h;subst h;exact⟨w,[],f1,f2,rfl,by simp,r1,λc' hle hb oY IB=>⟨[],f2,rfl,IB,uw.mono hle r2 (λb ib=>hb b (by simpa using ib))⟩⟩
 |w::ws,t::ts,_,r,i+1,g,cs,h=>by obtain⟨f1,f2,rfl,r1,r2⟩:=r;obtain⟨v,g1,g2,g3,hv,rfl,hr,Ih⟩:=uw.at r2 (i:=i) (by simpa using h);refine⟨v,f1++g1,g2,g3,by simpa using hv,by simp,hr,λc' hle hb oY IB=>?_⟩;obtain⟨us,eM,dY⟩:=r1;rw[aW];refine⟨f1,g1++g3,rfl,⟨us,eM,dY.mono hle (λb ib=>hb b (by simp[ib]))⟩,?_⟩;exact Ih c' hle (λb ib=>hb b (by rcases aA.1 ib with k|k<;>simp[k])) oY IB
 |[],_::_,_,r,_,_,_,_=>r.elim
 |_::_,[],_,r,_,_,_,_=>r.elim
theorem ZJ {o:Oper}{t i:Nat}(ho:o.op=.extract (.tmp t) i)(h:pF C st a w){K:AS->au R}(hk:nN o t i st K=some r):oX P C o a w K r:=by
 obtain⟨g,h⟩:=h;unfold nN at hk;split at hk;rename_i ts hg;split at hk;rename_i gg cs hn;rw[dV]at hn;have htl:t<st.slots.length:=by
  rcases bS t st.slots.length with iG|Fe;exact iG;have:st.get t=.bot:=by simp[AS.get,dV,bJ Fe]
  rw[this]at hg;cases hg
 obtain⟨fp,hr,JK,hl⟩:=h.slot t;rw[hg]at hr;obtain⟨ws,hv,hr⟩:=hr;obtain⟨v,f1,f2,f3,hwv,rfl,X3,Ih⟩:=uw.at hr hn;have ej:(execOp a.eval o).run P w=.ok (.value v) w:=by have he:a.eval (.tmp t)=.tuple ws.toArray:=hv;simp[execOp,ho,he,Instr.extract,hwv]
 have ZV:=JK;rw[aW]at ZV;have n1:=aG.1 ZV;have n2:=aG.1 n1.2.1;let WL:AV:=.zU (iO ts i (gg,bc 0 cs));let st':AS:=st.put (some t) WL;let g':Gh:={g with eo:=λb=>if b∈f2 then some (.hand 0) else g.eo b}
 have hle:(cO C g st w).Le (cO C g' st' w):=by have:= @aad C g st w (some t) WL;exact⟨this.A,this.hdr,this.abm,this.ep,this.Qn,this.ajV⟩
 have hlk:∀b y,g.eo b=some y->b∉f2->g'.eo b=some y:=by intro b y hb hm;show(if b∈f2 then _ else _)=_;rw[aK hm];exact hb
 have Tk:∀b y,y≠ .slot t->g.eo b=some y->b∉f2:=λb y hy hb hm=>hy (by have:=hl b (by simp[hm]);rw[hb]at this;simpa using this);have aqk:dM C g' st' a w [(v,.val gg cs)]:=by
  refine h.step (λy=>y≠ .slot t) hle h.defers (by show _=(st.put (some t) WL).slots.length;rw[gh,aL];exact h.size) (by show(st.put (some t) WL).boxes.length=(st.put (some t) WL).slots.length;rw[mm,gh,aL];exact h.bsize) h.frame ?_ (λb y hy hb=>⟨hlk b y hb (Tk b y hy hb),rfl,rfl⟩) ?_ ?_ ?_ (.inl ⟨by simp,Rz⟩);intro b y hy;have X5:(if b∈f2 then some (kb.hand 0) else g.eo b)=some y:=hy;by_cases hm:b∈f2;exact h.fV b _ (hl b (by simp[hm]));rw[aK hm]at X5;exact h.fV b y X5;intro j bv hj;have hj':(st.slots.set t WL)[j]?=some bv:=by rw[<-gh];exact hj
  by_cases hjt:j=t;subst hjt;rw[bt]at hj';simp only[cd,htl]at hj';simp at hj';subst hj';refine .inr ⟨f1++f3,⟨ws,hv,?_⟩,?_,?_⟩;rw[fD];obtain⟨us,eM,dY⟩:=X3;refine Ih _ hle (λb _=>⟨rfl,rfl⟩) _ ⟨us,eM,?_⟩;exact(dY.ag3).mono hle (by simp);refine aG.2 ⟨n1.1,n2.2.1,?_⟩;rintro b hb c hc rfl;exact n1.2.2 b hb b (bh _ hc) rfl;intro b hb;refine hlk b _ (hl b (by rcases aA.1 hb with k|k<;>simp[k])) (λhm=>?_);rcases aA.1 hb with k|k;exact n1.2.2 b k b (br _ hm) rfl;exact n2.2.2 b hm b k rfl;rw[aZ (cW hjt)]at hj';exact .inl ⟨by simpa using hjt,hj',rfl⟩;intro s oY hb;have ib:st.boxes[s]?=some (some oY):=by rw[<-mm (d:=some t) (v:=WL)];exact hb
  exact .inl ⟨by simp,ib,rfl⟩;intro k u bv LY;cases k with
  |zero=>simp only[cL,bf,Prod.mk.injEq]at LY;obtain⟨rfl,rfl⟩:=LY;obtain⟨us,eM,dY⟩:=X3;refine .inr ⟨f2,⟨us,eM,dY.mono hle (λb _=>⟨rfl,rfl⟩)⟩,n2.1,λb hb=>?_⟩;show(if b∈f2 then _ else _)=_;rw[aM hb]
  |succ k=>simp at LY
 exact⟨v,w,_,.inl ej,dM.Kj aqk o.dst,hk⟩;cases hk;cases hk
def me (hw:Nat->Nat)(w:World)(e:CT)(news:iU)(ys:ar e.D)(fps:ar ec):Prop:=
 news.length=ys.length*e.size/\fps.length=ys.length/\∀(i:Nat)(y:e.D)(f:ec),ys[i]?=some y->fps[i]?=some f->eS hw w e ((news.drop (i*e.size)).take e.size) y f
theorem me.append {w:World}{n1 n2:iU}{xs ys:ar e.D}{f1 f2:ar ec}(h1:me hw w e n1 xs f1)(h2:me hw w e n2 ys f2): me hw w e (n1++n2) (xs++ys) (f1++f2):=by
 obtain⟨a1,a2,a3⟩:=h1;obtain⟨b1,b2,b3⟩:=h2;refine⟨by rw[ay,ay,a1,b1,cw],by simp[a2,b2],λi y f hy hf=>?_⟩;by_cases hi:i<xs.length;rw[bF hi]at hy;rw[bF (by omega)]at hf;have hm:(i+1)*e.size<=xs.length*e.size:=cC _ hi;rw[cw,eF]at hm;have:=a3 i y f hy hf;have e1:((n1++n2).drop (i*e.size)).take e.size=(n1.drop (i*e.size)).take e.size:=by rw[List.drop_append_of_le_length (by omega),List.take_append_of_le_length (by rw[bl];omega)]
 rw[e1];exact this;rw[bw (by omega)]at hy;rw[bw (by omega),a2]at hf;have:=b3 _ y f hy hf;have Fe:xs.length*e.size<=i*e.size:=cC _ (by omega);have e1:(n1++n2).drop (i*e.size)=n2.drop ((i-xs.length)*e.size):=by rw[List.drop_append,dj (by omega),bE,a1,Nat.sub_mul]
 rw[e1];exact this
theorem me.mono {hw':Nat->Nat}{w w':World}{ys:ar e.D}(h:me hw w e news ys fps)(hk:∀b∈fps.flatten,w'.heap[b]?=w.heap[b]?/\hw' b=hw b):me hw' w' e news ys fps:=⟨h.1,h.2.1,λi y f hy hf=>eS.mono (h.2.2 i y f hy hf) λb hb=>hk b (List.mem_flatten.2 ⟨f,bK hf,hb⟩)⟩
theorem me.nil (hw:Nat->Nat)(w:World)(e:CT):me hw w e [] [] []:=⟨by simp,rfl,by simp⟩
theorem me.pt {w:World}{ys:ar e.D}(h:me hw w e news ys fps):∀v∈news,v.oneCell'=true:=by
 intro v hv;obtain⟨j,hj,hjv⟩:=List.mem_iff_getElem.1 hv;have aiO:=e.size_pos;have hi:j/e.size<ys.length:=by rw[Nat.div_lt_iff_lt_mul aiO];rw[<-h.1];exact hj
 have fA:=h.2.2 (j/e.size) _ _ (al hi) (al (by rw[h.2.1];exact hi));refine eS.pt fA v ?_;rw[List.mem_iff_getElem?];refine⟨j%e.size,?_⟩;rw[kq,aM (Nat.mod_lt _ aiO),Nat.mul_comm,Nat.div_add_mod,al hj,hjv]
theorem af1 {w:World}{b o0:Nat}{xs:ar e.D}(hb:w.heap[b]?=some (.cells arr T fr))(uG:tk arr fr)(hs:arr.size=o0+cap*e.size)(hc:xs.length<=cap)(hh:hw b=o0+xs.length*e.size)(LW:me hw w e ((arr.toList.drop o0).take (xs.length*e.size)) xs fps): eS hw w (.sl e) [.slice (some ⟨b,o0,none⟩) xs.length cap] xs (b::fps.flatten):=by
 refine⟨_,rfl,.inr ⟨b,o0,cap,arr,T,fr,fps,rfl,hb,uG,hs,hc,hh,rfl,LW.2.1,λi x f hx hf=>?_⟩⟩;have:=LW.2.2 i x f hx hf;have hi:i<xs.length:=(aJ.1 hx).1;have hm:(i+1)*e.size<=xs.length*e.size:=cC _ hi;rw[cw,eF]at hm;have e1:(((arr.toList.drop o0).take (xs.length*e.size)).drop (i*e.size)).take e.size=(arr.toList.drop (o0+i*e.size)).take e.size:=by apply cU;intro j;rw[kq,kq,kq];by_cases hj:j<e.size;rw[aM hj,aM hj,zip,fY];rw[aK hj,aK hj]
 rw[e1]at this;exact this
theorem RQ {w:World}{o0:Nat}{xs:ar e.D}(hs:arr.size=o0+cap*e.size)(hc:xs.length<=cap)(hl:fps.length=xs.length)(h:∀(i:Nat)(x:e.D)(f:ec),xs[i]?=some x->fps[i]?=some f->eS hw w e ((arr.toList.drop (o0+i*e.size)).take e.size) x f):me hw w e ((arr.toList.drop o0).take (xs.length*e.size)) xs fps:=by
 refine⟨?_,hl,λi x f hx hf=>?_⟩;have hal:(arr.toList.drop o0).length=cap*e.size:=by rw[bl,Array.length_toList,hs];omega
 rw[bm,hal];exact gX (cC _ hc);have hi:i<xs.length:=(aJ.1 hx).1;have hm:(i+1)*e.size<=xs.length*e.size:=cC _ hi;rw[cw,eF]at hm;have e1:(((arr.toList.drop o0).take (xs.length*e.size)).drop (i*e.size)).take e.size=(arr.toList.drop (o0+i*e.size)).take e.size:=by apply cU;intro j;rw[kq,kq,kq];by_cases hj:j<e.size;rw[aM hj,aM hj,zip,fY];rw[aK hj,aK hj]
 rw[e1];exact h i x f hx hf
theorem UQ {w w':World}{S:Nat->Nat->Prop}:∀{e:CT}{vs:iU}{x:e.D},kg w' S e vs x->e.flat=true->eS hw w e vs x []
 | .int _,_,_,h,_=>⟨h,rfl⟩
 | .bool,_,_,h,_=>⟨h,rfl⟩
 | .str,_,_,h,_=>⟨h,rfl⟩
 | .sl _,_,_,_,hf=>by cases hf
 | .pair a b,_,_,h,hf=>by obtain⟨v1,v2,rfl,h1,h2⟩:=h;simp only[CT.flat,ah]at hf;exact⟨v1,v2,[],[],rfl,rfl,UQ h1 hf.1,UQ h2 hf.2⟩
def U3 (hdr:Nat->Value)(t:au Nat)(v:Value):Nat->Value:=λu=>if t=some u then v else hdr u
theorem afb {hdr:Nat->Value}{d:au Nat}{v:Value}{t:Nat}(h:nm st t):U3 hdr (st.iZ d 0) v t=hdr t:=by unfold U3;rw[aK];intro e;exact(sU e).1 h
theorem dM.VO (h:dM C g st a w hs)(d:au Nat){xs:ar e.D}{v:Value}{fp:ec}{w':World}{hw':Nat->Nat}(iw:Fr (λb=>dm (g.eo b)) w w')(Gz:∀b x,g.eo b=some x->¬dm (some x)->hw' b=g.hw b)(PL:∀b o u,o<g.hw b->w.cell? ⟨b,o,none⟩=some u->o<hw' b/\w'.cell? ⟨b,o,none⟩=some u)(fA:eS hw' w' (.sl e) [v] xs fp)(hn:fp.Nodup)(Hp:∀b∈fp,b<w'.heap.size/\(dm (g.eo b)\/w.heap.size<=b)): pF C (st.ti d e xs) (a.put d v) w':=by refine h.VN d (st1:=st.fQ d) (hdr':=U3 g.hdr (st.iZ d 0) v) Qe zN Hv Gm (λt ht=>⟨JS ht,afb ht⟩) iw Gz PL (oM ⟨fA,λt ht=>?_⟩) hn Hp;refine⟨(sU ht).2.1,?_⟩;show v=U3 g.hdr (st.iZ d 0) v t;unfold U3;rw[aM ht]
theorem dM.VB (h:dM C g st a w hs)(d:au Nat){xs:ar e.D}{w':World}(hw:w'=w.alloc (.cells arr T fr)\/w'=w.drew.alloc (.cells arr T fr))(uG:tk arr fr)(hs0:arr.size=cap*e.size)(hc:xs.length<=cap)(LW:me g.hw w e (arr.toList.take (xs.length*e.size)) xs fps)(hn:fps.flatten.Nodup)(Hp:∀b∈fps.flatten,dm (g.eo b)): pF C (st.ti d e xs) (a.put d (.slice (some ⟨w.heap.size,0,none⟩) xs.length cap)) w':=by
 have iw:Fr (λb=>dm (g.eo b)) w w':=by rcases hw with rfl|rfl;exact Fr.alloc _ _ _;exact(Fr.drew _ w).trans (Fr.alloc _ _ _) (λb _ hh=>hh)
 have ab5:w'.heap[w.heap.size]?=some (.cells arr T fr):=by rcases hw with rfl|rfl;exact heap_alloc_new w _;exact heap_alloc_new w.drew _
 have xp:w'.heap.size=w.heap.size+1:=by rcases hw with rfl|rfl<;>simp
 have hold:∀b,b<w.heap.size->w'.heap[b]?=w.heap[b]?:=by intro b hb;rcases hw with rfl|rfl;exact heap_alloc_old w _ b hb;exact heap_alloc_old w.drew _ b hb
 have iG:∀b∈fps.flatten,b<w.heap.size:=by intro b hb;have hh:=Hp b hb;cases hx:g.eo b with|none=>rw[hx]at hh;cases hh|some x=>exact(h.fV b x hx).1
 let hw':Nat->Nat:=λb=>if b=w.heap.size then xs.length*e.size else g.hw b
 have fA:eS hw' w' (.sl e) [.slice (some ⟨w.heap.size,0,none⟩) xs.length cap] xs (w.heap.size::fps.flatten):=by refine af1 (o0:=0) ab5 uG (by rw[cr];exact hs0) hc (by simp[hw']) (LW.mono λb hb=>?_);have ib:=iG b hb;exact⟨hold b ib,by simp[hw',iK ib]⟩
 refine h.VO d (hw':=hw') (fp:=w.heap.size::fps.flatten) iw ?_ ?_ fA ?_ ?_;intro b x hx _;simp[hw',iK (h.fV b x hx).1];intro b o u ho hu;have hb:b<w.heap.size:=World.block_lt_of_cell? w _ hu;exact⟨by simp[hw',iK hb];exact ho,by rw[World.cell?_of_block (a:=⟨b,o,none⟩) (hold b hb)];exact hu⟩;exact dg.2 ⟨λhm=>pL _ (iG _ hm),hn⟩;intro b hb;rcases cp.1 hb with rfl|hb;exact⟨by omega,.inr (ba _)⟩;exact⟨by have:=iG b hb;omega,.inl (Hp b hb)⟩
theorem amw {z:Array Value}{c size i:Nat}(hz:z.size=size)(hi:i<c):((madeCells z (c*size)).toList.drop (i*size)).take size=z.toList:=by
 have hm:(i+1)*size<=c*size:=cC _ hi;rw[cw,eF]at hm;apply cU;intro j;rw[kq];by_cases hj:j<size;rw[aM hj,madeCells];have h1:i*size+j<c*size:=by omega
 simp only[Array.toList_map,Array.toList_range,List.getElem?_map,List.getElem?_range h1,dz];have aqa:(i*size+j)%z.size=j:=by rw[hz,Nat.mul_comm,Nat.mul_add_mod,Nat.mod_eq_of_lt hj]
 rw[aqa];simp[getElem!_pos,hz,hj];rw[aK hj,bJ];simp[hz];omega
theorem Vv {E:Env}(hE:kA P E.ty){o:Oper}{n c:Operand}(ho:o.op=.makeSlice T n c)(h:pF C st a w){K:AS->au R}(hk:rF E o T n c st K=some r):oX P C o a w K r:=by
 obtain⟨g,hg⟩:=id h;have hnv:=hg.rd n;have hcv:=hg.rd c;unfold rF at hk;split at hk;rename_i e len cap hT hn hc;rw[hn]at hnv;rw[hc]at hcv;split at hk;rename_i hlc;unfold room at hk;split at hk;rename_i NR;obtain⟨te,hu,⟨inf,z,IT,xp,hby,hz,hzc⟩,_⟩:=Mu hE hT;have NA:cap<=1073741824:=by omega
 have apW:(inf.bytes:Int)*cap<=281474976710656:=by have h1:(inf.bytes:Int)*cap<=65536*cap:=Int.mul_le_mul_of_nonneg_right (by omega) (by omega);omega
 have ej:=run_make (P:=P) w T te inf z hu IT hz .i64 .i64 len cap hlc.1 hlc.2 apW (by omega);have NT:(execOp a.eval o).run P w=.ok (.value (.slice (some ⟨w.heap.size,0,none⟩) len.toNat cap.toNat)) (w.alloc (.cells (madeCells z.cells (cap.toNat*inf.size)) te)):=by simp only[execOp,ho,jN hnv,jN hcv];show((Instr.makeSlice T (.int .i64 len) (.int .i64 cap))>>=λv=>pure (Next.value v)).run P w=_;rw[Sem.run_bind,ej];rfl
 have hzs:z.cells.size=e.size:=by rw[<-sL e,<-hzc];simp
 have hlen:(List.replicate len.toNat e.zero).length=len.toNat:=by simp
 have LW:me g.hw w e ((madeCells z.cells (cap.toNat*inf.size)).toList.take ((List.replicate len.toNat e.zero).length*e.size)) (List.replicate len.toNat e.zero) (List.replicate len.toNat []):=by
  refine RQ (o0:=0) (cap:=cap.toNat) (by rw[size_madeCells,xp,cr]) (by rw[hlen];omega) (by simp) (λi x f hx hf=>?_);have hi:i<len.toNat:=by have:=(aJ.1 hx).1;simpa using this
  rw[dC,aM hi]at hx hf;simp at hx hf;subst hx;subst hf;rw[xp,cr,amw hzs (by omega),hzc];exact MM _ _ _
 refine⟨_,_,_,.inl NT,?_,hk⟩;have:=hg.VB o.dst (T:=te) (fr:=(0,0)) (cap:=cap.toNat) (.inl rfl) (by intro j _;simp) (by rw[size_madeCells,xp]) (by rw[hlen];omega) LW (by simp) (by simp);rw[hlen]at this;exact this;cases hk;cases hk;cases hk
theorem Uo {lo hi:au Operand}(hg:dM C g st a w []){n:Nat}(NA:n<=cap){K:Int->Int->au R}(hk:pa st lo hi n K=some r)(isS:Bool): ∃x y:Int,K x y=some r/\(0<=x->x<=y->y<=n->(Instr.sliceBounds isS n cap (lo.map a.eval) (hi.map a.eval) none).run P w=.ok (x.toNat,y.toNat,cap) w):=by
 unfold pa at hk;split at hk;rename_i h1 h2;have e1:lo=none:=by cases lo<;>simp at h1⊢
 have e2:hi=none:=by cases hi<;>simp at h2⊢
 subst e1;subst e2;exact⟨0,n,hk,λ_ _ _=>by simp[Instr.sliceBounds]⟩;rename_i k p h1 h2;have e2:hi=none:=by cases hi<;>simp at h2⊢
 subst e2;cases lo with|none=>simp at h1|some lo=>simp at h1;have hv:=hg.rd lo;rw[h1]at hv;refine⟨p,n,hk,λq1 q2 q3=>?_⟩;simp[Instr.sliceBounds,Instr.sliceBound,asIntOf,jN hv,q1,q2]
 rename_i k p h1 h2;have e1:lo=none:=by cases lo<;>simp at h1⊢
 subst e1;cases hi with|none=>simp at h2|some hi=>simp at h2;have hv:=hg.rd hi;rw[h2]at hv;refine⟨0,p,hk,λq1 q2 q3=>?_⟩;simp[Instr.sliceBounds,Instr.sliceBound,asIntOf,jN hv,show 0<=p by omega,show p<=(cap:Int) by omega]
 rename_i k p k' q h1 h2;cases lo with|none=>simp at h1|some lo=>cases hi with|none=>simp at h2|some hi=>simp at h1 h2;have hv:=hg.rd lo;have Z1:=hg.rd hi;rw[h1]at hv;rw[h2]at Z1;refine⟨p,q,hk,λq1 q2 q3=>?_⟩;simp[Instr.sliceBounds,Instr.sliceBound,asIntOf,jN hv,jN Z1,q1,show 0<=q by omega,show q<=(cap:Int) by omega];intro iG;omega
 cases hk
theorem extract_mk (s:ar UInt8)(x y:Nat):(ByteArray.mk s.toArray).extract x y=ByteArray.mk ((s.take y).drop x).toArray:=by apply ByteArray.ext;rw[ByteArray.data_extract];simp[List.extract_eq_take_drop,List.drop_take]
theorem Wh {α:Type}{xs ys:ar α}{x y:Int}(h:sub xs x y=some ys):0<=x/\x<=y/\y<=(xs.length:Int)/\ys=(xs.take y.toNat).drop x.toNat:=by unfold sub at h;split at h;rename_i hc;simp at h;exact⟨hc.1,hc.2.1,hc.2.2,h.symm⟩;cases h
theorem ahM {w:World}{S:Nat->Nat->Prop}{v:Value}{xs:ar e.D}(h:kg w S (.sl e) [v] xs){x y:Nat}(hxy:x<=y)(hy:y<=xs.length): ∃bo cap,v=.slice bo xs.length cap/\xs.length<=cap/\kg w S (.sl e) [.slice (if cap=x then bo else bo.map (·.add (x*e.size))) (y-x) (cap-x)] ((xs.take y).drop x):=by
 obtain⟨u,hu,h⟩:=h;simp at hu;subst hu;rcases h with⟨⟨ad,rfl⟩,rfl⟩|⟨b,o,cap,rfl,hc,h⟩;simp at hy;subst hy;have hx:x=0:=by omega
 subst hx;exact⟨ad,0,rfl,by simp,⟨_,rfl,.inl ⟨⟨ad,by simp⟩,by simp⟩⟩⟩;have hl:((xs.take y).drop x).length=y-x:=by simp;omega
 refine⟨some ⟨b,o,none⟩,cap,rfl,hc,⟨_,rfl,.inr ?_⟩⟩;by_cases hcx:cap=x;refine⟨b,o,cap-x,by rw[aM hcx,hl],by rw[hl];omega,λi z hz=>?_⟩;have:((xs.take y).drop x)=[]:=cP (by rw[hl];omega);rw[this]at hz;simp at hz;refine⟨b,o+x*e.size,cap-x,by rw[aK hcx,hl];simp[pJ],by rw[hl];omega,λi z hz=>?_⟩;have hz':xs[x+i]?=some z:=by rw[bQ,dk]at hz;split at hz;exact hz;cases hz
 obtain⟨cs,Rn,hr⟩:=h (x+i) z hz';refine⟨cs,?_,hr⟩;have:o+x*e.size+i*e.size=o+(x+i)*e.size:=by rw[cw];omega
 rw[this];exact Rn
theorem amR {w:World}{v:Value}{xs:ar e.D}{fp:ec}(h:eS hw w (.sl e) [v] xs fp){n:Nat}(hn:n<=xs.length): ∃bo cap,v=.slice bo xs.length cap/\xs.length<=cap/\∃jg,eS hw w (.sl e) [.slice (if cap=n then bo else bo.map (·.add (n*e.size))) (xs.length-n) (cap-n)] (xs.drop n) jg/\(∀b∈jg,b∈fp)/\(fp.Nodup->jg.Nodup):=by
 obtain⟨u,hu,h⟩:=h;simp at hu;subst hu;rcases h with⟨⟨ad,rfl⟩,rfl,rfl⟩|⟨b,o0,cap,arr,T,fr,fps,rfl,hb,uG,hs,hc,hh,rfl,hl,hr⟩;simp at hn;subst hn;exact⟨ad,0,rfl,by simp,[],⟨_,rfl,.inl ⟨⟨ad,by simp⟩,rfl,rfl⟩⟩,by simp,by simp⟩;refine⟨some ⟨b,o0,none⟩,cap,rfl,hc,?_⟩;by_cases hcn:cap=n;have hx:xs.drop n=[]:=dj (by omega);refine⟨[],⟨_,rfl,.inl ⟨⟨some ⟨b,o0,none⟩,by rw[aM hcn,show xs.length-n=0 by omega,show cap-n=0 by omega]⟩,hx,rfl⟩⟩,by simp,by simp⟩;have hm1:cap*e.size=n*e.size+(cap-n)*e.size:=by rw[<-cw];congr 1;omega
 have hm2:xs.length*e.size=n*e.size+(xs.length-n)*e.size:=by rw[<-cw];congr 1;omega
 refine⟨b::(fps.drop n).flatten,⟨_,rfl,.inr ⟨b,o0+n*e.size,cap-n,arr,T,fr,fps.drop n,by rw[aK hcn];simp[pJ],hb,uG,by omega,by simp;omega,by simp;omega,rfl,by simp[hl],λi x f hx hf=>?_⟩⟩,?_,?_⟩;rw[bQ]at hx hf;have:=hr (n+i) x f hx hf;rwa[cw,<-fY]at this;intro c IB;rcases cp.1 IB with rfl|IB;simp;obtain⟨l,hl1,EH⟩:=List.mem_flatten.1 IB;exact dJ _ (List.mem_flatten.2 ⟨l,List.mem_of_mem_drop hl1,EH⟩);intro JK;have h1:=dg.1 JK;have e1:fps.flatten=(fps.take n).flatten++(fps.drop n).flatten:=by rw[<-ew,cK]
 rw[e1]at h1;exact dg.2 ⟨λhm=>h1.1 (by simp[hm]),(aG.1 h1.2).2.1⟩
theorem ajS {an:An}{o:Oper}{ep:Nat}{pv:au (lS×Nat)}{p:Int}:VE an o (.loc ep pv) p=.loc ep none\/∃rt t,pv=some (rt,t)/\VE an o (.loc ep pv) p=.part ep rt t p:=by
 unfold VE;split;rename_i ep' r t d h _;cases h;cases an.nest.contains d with|false=>exact .inl rfl|true=>exact .inr ⟨_,_,rfl,rfl⟩
 exact .inl rfl
theorem V1 {E:Env}(hE:kA P E.ty){o:Oper}{lo hi:au Operand}(ho:o.op=.slice T x lo hi none)(h:pF C st a w){K:AS->au R}(hk:CI E o T x lo hi st K=some r):oX P C o a w K r:=by
 obtain⟨g,hg⟩:=h;unfold CI at hk;split at hk;rename_i tag e xs st' kd p xv hlo;split at hk;rename_i hT;cases lo with
 |none=>simp at hlo
 |some lo=>
  simp at hlo;have hlv:=hg.rd lo;rw[hlo]at hlv;obtain⟨te,hu,⟨inf,z,IT,xp,_⟩,_⟩:=Mu hE hT;obtain⟨g',oV⟩:=hg.take x;rw[xv]at oV;simp only[bE]at oV;cases th:sub xs p xs.length with
  |none=>rw[th]at hk;cases hk
  |some WI=>
   rw[th]at hk;simp only[aa]at hk;obtain⟨h1,h2,_,rfl⟩:=Wh th;obtain⟨fp,dY,JK,hl⟩:=oV.hands 0 _ _ rfl;have fA:=(eG dY).1;obtain⟨bo,cap,hv,NA,jg,IU,aru,ZV⟩:=amR fA (n:=p.toNat) (by omega);have ej:(execOp a.eval o).run P w=.ok (.value (.slice (if cap=p.toNat then bo else bo.map (·.add (p.toNat*e.size))) (xs.length-p.toNat) (cap-p.toNat))) w:=by
    have hb:(Instr.sliceBounds true xs.length cap (some (a.eval lo)) none none).run P w=.ok (p.toNat,xs.length,cap) w:=by have hp2:p<=(xs.length:Int):=h2;simp[Instr.sliceBounds,Instr.sliceBound,asIntOf,jN hlv,h1,hp2]
    simp only[execOp,ho,hv,Instr.sliceAt,Instr.slice,underlying,Option.map_none,dz,Sem.run_bind,run_program,hu,Result.andThen_ok,Sem.run_pure,hb,sizeOf,typeInfo,IT,xp]
   have E2:(xs.take ((xs.length:Int).toNat)).drop p.toNat=xs.drop p.toNat:=by rw[aw,bN]
   rw[E2]at hk;refine⟨_,_,_,.inl ej,?_,hk⟩;refine oV.VO o.dst (hw':=g'.hw) (fp:=jg) (Fr.refl _ _) (λ_ _ _ _=>rfl) (λ_ _ _ ho hu=>⟨ho,hu⟩) IU (ZV JK) (λb hb=>?_);have:=hl b (aru b hb);exact⟨(oV.fV b _ this).1,.inl (by rw[this];rfl)⟩
 cases hk;cases hk
theorem agf {E:Env}(hE:kA P E.ty){an:An}{o:Oper}{lo hi:au Operand}(ho:o.op=.slice T x lo hi none)(h:pF C st a w){K:AS->au R}(hk:Hg E an o T x lo hi st K=some r):oX P C o a w K r:=by
 obtain⟨g,hg⟩:=id h;have zR:=hg.fresh (hg.rd x);unfold Hg at hk;split at hk;exact V1 hE ho h hk;split at hk;rename_i s hx;rw[hx]at zR;split at hk;rename_i hT;have hu:=aaT hE hT;have hv:=(eG zR).1;obtain⟨p,q,ZT,ej⟩:=Uo (P:=P) (w:=w) hg (ba s.length) hk false;cases th:sub s p q with|none=>rw[th]at ZT;cases ZT|some s'=>rw[th]at ZT;simp only[aa]at ZT;obtain⟨h1,h2,h3,rfl⟩:=Wh th;have hb:=ej h1 h2 h3;refine Ae h _ _ ?_ (TW _) ZT;simp only[execOp,ho,hv,Instr.sliceAt,Instr.slice,underlying,Option.map_none,Sem.run_bind,run_program,hu,Result.andThen_ok,Sem.run_pure,Du,hb,Option.isSome_none,bg,cD,extract_mk]
 cases hk;rename_i fl e xs hx;rw[hx]at zR;split at hk;rename_i hT;obtain⟨hT,se⟩:=hT;obtain⟨te,hu,⟨inf,z,IT,xp,_⟩,_⟩:=Mu hE hT;have hc:=eG zR
 have key:∀(S:Nat->Nat->Prop),kg w S (.sl e) [a.eval x] xs->(∀(p q:Int)(bo:au Addr)(cap:Nat),0<=p->p<=q->q<=xs.length->xs.length<=cap->a.eval x=.slice bo xs.length cap->
  kg w S (.sl e) [.slice (if cap=p.toNat then bo else bo.map (·.add (p.toNat*e.size))) (q.toNat-p.toNat) (cap-p.toNat)] ((xs.take q.toNat).drop p.toNat)->
  iA (cO C g st w) (.slice (if cap=p.toNat then bo else bo.map (·.add (p.toNat*e.size))) (q.toNat-p.toNat) (cap-p.toNat)) (.sl (VE an o fl p) e ((xs.take q.toNat).drop p.toNat)) [])->oX P C o a w K r:=by
  intro S PN hmk
  have NA:∃bo cap,a.eval x=.slice bo xs.length cap/\xs.length<=cap:=by obtain⟨bo,cap,hv,hc,_⟩:=ahM PN (x:=0) (y:=0) (ba _) (eT _);exact⟨bo,cap,hv,hc⟩
  obtain⟨bo,cap,hv,NA⟩:=NA
  obtain⟨p,q,ZT,ej⟩:=Uo (P:=P) (w:=w) hg NA hk true
  cases th:sub xs p q with
  |none=>rw[th]at ZT;cases ZT
  |some WI=>
   rw[th]at ZT
   simp only[aa]at ZT
   obtain⟨h1,h2,h3,rfl⟩:=Wh th
   have hb:=ej h1 h2 h3
   obtain⟨bo',aAi,Z1,_,al0⟩:=ahM PN (x:=p.toNat) (y:=q.toNat) (by omega) (by omega)
   rw[hv]at Z1
   simp only[Value.slice.injEq,true_and]at Z1
   obtain⟨rfl,rfl⟩:=Z1
   refine⟨.slice (if cap=p.toNat then bo else bo.map (·.add (p.toNat*e.size))) (q.toNat-p.toNat) (cap-p.toNat),w,_,.inl ?_,⟨g,hg.quiet o.dst (oM (hmk p q _ _ h1 h2 h3 NA hv al0))⟩,ZT⟩
   simp only[execOp,ho,hv,Instr.sliceAt,Instr.slice,underlying,Option.map_none,Sem.run_bind,run_program,hu,Result.andThen_ok,Sem.run_pure,hb,sizeOf,typeInfo,IT,xp]
 cases fl with
 |own t=>cases se
 |nest _ _ _ _ _ _=>cases se
 |part _ _ _ _=>cases se
 |fK _ _ _=>cases se
 |arg _=>exact key _ hc.2 (λp q bo cap _ _ _ _ _ hr=>by simp only[VE,uv.bare];exact⟨rfl,hr⟩)
 |loc ep pv=>
  have Ck:ep=st.ep:=by simpa[uv.live]using se
  refine key _ (hc.2.2.2.1 Ck) (λp q bo cap hp hpq hq NA hv hr=>?_);have hlen:((xs.take q.toNat).drop p.toNat).length=q.toNat-p.toNat:=by simp;omega
  have plain:iA (cO C g st w) (.slice (if cap=p.toNat then bo else bo.map (·.add (p.toNat*e.size))) (q.toNat-p.toNat) (cap-p.toNat)) (.sl (.loc ep none) e ((xs.take q.toNat).drop p.toNat)) []:=⟨rfl,hc.2.1,⟨_,_,_,rfl,hlen.symm⟩,λ_=>hr,by simp⟩
  rcases ajS (an:=an) (o:=o) (ep:=ep) (pv:=pv) (p:=p)with hpf|⟨rt,t,rfl,hpf⟩;rw[hpf];exact plain;rw[hpf];refine⟨rfl,hc.2.1,⟨_,_,_,rfl,hlen.symm⟩,λ_=>?_⟩;have NS:=hc.2.2.2.2 rt t rfl;refine⟨NS.1,?_⟩;by_cases hz:q.toNat-p.toNat=0;exact .inl (cP (by rw[hlen];exact hz));right;obtain⟨u,hu,PN⟩:=hc.2.2.2.1 Ck;simp at hu;rcases PN with⟨_,rfl⟩|⟨b,o0,abk,SA,hc2,_⟩;simp at hlen;omega;rw[<-hu,hv]at SA;simp only[Value.slice.injEq,true_and]at SA;obtain⟨rfl,rfl⟩:=SA;refine⟨p.toNat,b,o0,xs.length,cap,cap-p.toNat,by omega,by rw[<-NS.2,hv],by rw[hlen];omega,?_⟩;rw[nt,hlen];simp[pJ]
 cases hk;cases hk
theorem abj {E:Env}(hE:kA P E.ty)(h:E.bytes T=true):∃te,P.underlying T=some (.slice te)/\P.underlying te=some (.int .u8):=by unfold Env.bytes at h;split at h;rename_i te n hT;split at h;rename_i lA hte;obtain⟨te',hu,_,ho⟩:=(hE T _ hT).sl _ rfl rfl;have:=ho te n rfl;subst this;exact⟨te,hu,(hE te _ hte).int _ rfl rfl⟩;cases h;cases h
theorem ajY {w:World}{S:Nat->Nat->Prop}{v:Value}{xs:cI}(h:kg w S (.sl (.int .u8)) [v] xs): ((∃a,v=.slice a 0 0)/\xs=[])\/∃b o cap,v=.slice (some ⟨b,o,none⟩) xs.length cap/\∀i,i<xs.length->w.cell? ⟨b,o+i,none⟩=some (.int .u8 (xs.getD i 0)):=by obtain⟨u,hu,h⟩:=h;simp at hu;subst hu;rcases h with h|⟨b,o,cap,hv,_,h⟩;exact .inl h;refine .inr ⟨b,o,cap,hv,λi hi=>?_⟩;obtain⟨cs,Rn,hr⟩:=h i xs[i] (al hi);have hr':cs=[.int .u8 xs[i]]:=hr;subst hr';have:=(Rn 0 _ rfl).2;simp only[CT.size,pM,dW]at this;rw[this];simp[List.getD,al hi]
theorem ZA {E:Env}(hE:kA P E.ty){o:Oper}{src dst:TypeId}(ho:o.op=.convert src dst x)(h:pF C st a w){K:AS->au R}(hk:nL E o src dst x st K=some r):oX P C o a w K r:=by
 obtain⟨g,hg⟩:=id h;have zR:=hg.rd x;have fin:∀v w',(convert src dst (a.eval x)).run P w=.ok v w'->(execOp a.eval o).run P w=.ok (.value v) w':=by intro v w' hr;simp only[execOp,ho];show(convert src dst (a.eval x)>>=λv=>pure (Next.value v)).run P w=_;rw[Sem.run_bind,hr];rfl
 have under:∀(T:TypeId)(sh:Shape),jR E.ty T=some sh->∃d,P.underlying T=some d:=by
  intro T sh hT;have kX:=hE T sh hT;cases TL:sh.agg with
  |true=>obtain⟨fs,hu,_⟩:=kX.agg TL;exact⟨_,hu⟩
  |false=>
   cases Sv:sh.ct with
   |int k=>exact⟨_,kX.int k Sv TL⟩
   |bool=>exact⟨_,kX.bool Sv TL⟩
   |str=>exact⟨_,kX.str Sv TL⟩
   |sl e=>obtain⟨te,hu,_⟩:=kX.sl e Sv TL;exact⟨_,hu⟩
   |pair p q=>have:=kX.pair p q Sv;rw[TL]at this;cases this
 unfold nL at hk;split at hk;rename_i ssh k lA k' n hs hd hx;rw[hx]at zR;obtain⟨ds,WX⟩:=under _ _ hs;have hud:=(hE dst _ hd).int k rfl rfl;refine Ae h _ _ (fin (.int k (k.wrap n)) w ?_) (ma _ _) hk;rw[jN zR];simp only[convert,underlying,Sem.run_bind,run_program,WX,hud,Result.andThen_ok,Sem.run_pure];rfl;rename_i lA aAg s hs hd hx;rw[hx]at zR;have WX:=(hE src _ hs).str rfl rfl;have hud:=(hE dst _ hd).str rfl rfl;refine Ae h _ _ (fin (.string ⟨s.toArray⟩) w ?_) (TW _) hk;rw[(eG zR).1];simp only[convert,underlying,Sem.run_bind,run_program,WX,hud,Result.andThen_ok,Sem.run_pure];rename_i lA sh s Tk hs hd hx;rw[hx]at zR;split at hk;rename_i hb;unfold room at hk;split at hk;obtain⟨te,hu,hte⟩:=abj hE hb;have WX:=(hE src _ hs).str rfl rfl;have ej:=run_bytes_of_string (P:=P) w src dst te ⟨s.toArray⟩ WX hu hte;rw[<-(eG zR).1,Du]at ej;refine⟨_,_,_,.inl (fin _ _ ej),?_,hk⟩;have Fe:=grownCap_ge w s.length 0 te;have xp:(bytesRow ⟨s.toArray⟩ (grownCap w s.length 0 te)).size=grownCap w s.length 0 te*CT.size (.int .u8):=by simp only[bytesRow,Array.size_append,Array.size_map,Array.size_replicate,Du,CT.size];simp;omega
 have xv:(bytesRow ⟨s.toArray⟩ (grownCap w s.length 0 te)).toList.take ((da s).length*CT.size (.int .u8))=(da s).map (Value.int .u8):=by simp only[bytesRow,da,CT.size,Array.toList_append,Array.toList_map];rw[List.take_append_of_le_length (by simp)];rw[bL (by simp)];simp
 have LW:me g.hw w (.int .u8) ((bytesRow ⟨s.toArray⟩ (grownCap w s.length 0 te)).toList.take ((da s).length*CT.size (.int .u8))) (da s) (List.replicate s.length []):=by
  rw[xv];refine⟨by simp[CT.size],by simp[da],λi y f hy hf=>?_⟩;have hi:i<(da s).length:=(aJ.1 hy).1;have hf':f=[]:=by rw[dC]at hf;split at hf<;>simp at hf;exact hf
  subst hf';refine⟨?_,rfl⟩;apply cU;intro j;rw[kq];simp only[CT.size,pM];cases j with|zero=>simp[hy]|succ j=>simp
 have hlen:(da s).length=s.length:=by simp[da]
 have:=hg.VB o.dst (T:=te) (fr:=((bytesRow ⟨s.toArray⟩ (grownCap w s.length 0 te)).size,(bytesRow ⟨s.toArray⟩ (grownCap w s.length 0 te)).size+1)) (cap:=grownCap w s.length 0 te) (.inr rfl) (by intro j hj hc;simp only at hc;omega) xp (by rw[hlen];exact Fe) LW (by simp) (by simp);rw[hlen]at this;exact this;cases hk;cases hk;rename_i ssh lA fl xs hs hd hx;rw[hx]at zR;split at hk;rename_i hb;obtain⟨hb,se⟩:=hb;obtain⟨te,hu,hte⟩:=abj hE hb;have hud:=(hE dst _ hd).str rfl rfl;have hc:=eG zR;have PN:∃S,kg w S (.sl (.int .u8)) [a.eval x] xs:=by
  cases fl with
  |own t=>cases se
  |nest _ _ _ _ _ _=>cases se
  |part _ _ _ _=>cases se
  |fK _ _ _=>cases se
  |arg _=>exact⟨_,hc.2⟩
  |loc ep pv=>
   have Ck:ep=st.ep:=by simpa[uv.live]using se
   exact⟨_,hc.2.2.2.1 Ck⟩
 obtain⟨S,PN⟩:=PN;refine Ae h _ _ (fin (.string ⟨(aS xs).toArray⟩) w ?_) (TW _) hk;rcases ajY PN with⟨⟨ad,hv⟩,rfl⟩|⟨b,ob,cap,hv,E1⟩;cases ad with|none=>rw[hv,run_convert_bytes_nil w src te hu hte 0 0 dst hud];rfl|some ad=>rw[hv];exact run_convert_bytes_back w src dst te ad 0 [] hu hte hud (λj hj=>by simp at hj)
 rw[hv,run_convert_bytes_arg w src te hu hte b ob xs.length cap xs rfl E1 dst hud];rfl;cases hk;cases hk
end Go.Dn
