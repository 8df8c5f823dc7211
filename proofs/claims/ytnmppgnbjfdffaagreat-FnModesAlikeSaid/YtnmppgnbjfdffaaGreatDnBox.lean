import Derived.Test.YtnmppgnbjfdffaaGreatDnPut
/- A box is made or written; an element of an owned slice is written. -/
namespace Go.Dn
open Go.RowKit
variable {C:Ctx} {g:Gh} {st:AS} {a:Act} {w:World} {hs:ay (Value×AV)}
variable {x0:AC} {fp:fR}
theorem kQ {s:Nat}{b:aC (ay AC)}:(st.fD s b).boxes=st.boxes.set s b:=by simp[AS.fD,gr]
theorem PX {s:Nat}{cs:ay AC}{g':Gh}{w':World}(Oo:g'.hdr=g.hdr)(hcA:∀k b o u,C.A k b o->w.cell? ⟨b,o,none⟩=some u->w'.cell? ⟨b,o,none⟩=some u)(IZ:∀t,jO st t->g'.β t=g.β t)(Hn:∀b o u,o<g.hw b->w.cell? ⟨b,o,none⟩=some u->o<g'.hw b/\w'.cell? ⟨b,o,none⟩=some u): (dk C g st w).Le (dk C g' (st.fD s (some cs)) w'):=by refine⟨rfl,λt ht=>⟨ht,by show g'.hdr t=g.hdr t;rw[Oo]⟩,hcA,aV _,λt ht=>⟨?_,IZ t ht⟩,λ_ b o u ho hu=>Hn b o u ho hu⟩;obtain⟨qO,hc⟩:=ht;show∃aoY,(st.fD s (some cs)).boxes[t]?=some (some aoY);rw[kQ];by_cases tz:s=t;subst tz;have ir:s<st.boxes.length:=(aB.1 hc).1;exact⟨cs,by simp[ir]⟩;exact⟨qO,by rw[aJ tz];exact hc⟩
theorem eK.Wj (h:eK C g st a w hs)(s:Nat){cs:ay AC}{arr:Array Value}{T:TypeId}{fr:Nat×Nat}{w':World}{bnew:Nat}{hw':Nat->Nat}(hbn:(bnew=g.β s/\g.fe bnew=some (.box s))\/(w.heap.size<=bnew/\st.boxes[s]?=some none))(jQ:Fr (λb=>eE (g.fe b)\/b=bnew) w w')(kU:w'.heap[bnew]?=some (.cells arr T fr))(sE:qh arr fr)(ir:bnew<w'.heap.size)(apu:hw' bnew=0)(Fb:∀b x,g.fe b=some x->¬eE (some x)->b≠bnew->hw' b=g.hw b)(Hn:∀b o u,o<g.hw b->w.cell? ⟨b,o,none⟩=some u->o<hw' b/\w'.cell? ⟨b,o,none⟩=some u)(hr:bR ⟨hw',λt=>if t=s then bnew else g.β t,C.A,g.hdr,nq st,st.ep,jO st,w'⟩ arr.toList cs fp)(hn:fp.Nodup)(wA:bnew∉fp)(Dw:∀b∈fp,b<w'.heap.size/\(eE (g.fe b)\/g.fe b=some (.box s)\/w.heap.size<=b)): ∃g',g'.β s=bnew/\eK C g' (st.fD s (some cs)) a w' []:=by
 have hcA:∀k b o u,C.A k b o->w.cell? ⟨b,o,none⟩=some u->w'.cell? ⟨b,o,none⟩=some u:=by
  intro k b o u hA hu;have hb:b<w.heap.size:=World.block_lt_of_cell? w _ hu;have J8:¬(eE (g.fe b)\/b=bnew):=by
   rintro(hh|rfl);cases hx:g.fe b with|none=>rw[hx]at hh;cases hh|some x=>exact h.MU hx k o hA
   rcases hbn with⟨_,h2⟩|h2;exact h.MU h2 k o hA;omega
  rw[World.cell?_of_block (a:=⟨b,o,none⟩) (jQ.block b hb J8)];exact hu
 have Cy:∀b x,g.fe b=some x->x≠ .box s->b≠bnew:=by rintro b x hx hxs rfl;rcases hbn with⟨_,h2⟩|h2;rw[hx]at h2;exact hxs (by simpa using h2);have:=(h.gY b x hx).1;omega
 have hkp:∀b x,g.fe b=some x->¬eE (some x)->x≠ .box s->w'.heap[b]?=w.heap[b]?:=λb x hx hh hxs=>
  jQ.block b (h.gY b x hx).1 (by rintro(k|k);rw[hx]at k;exact hh k;exact Cy b x hx hxs k)
 let β':Nat->Nat:=λt=>if t=s then bnew else g.β t
 let abn:Nat->aC kI:=λb=>if b=bnew\/b∈fp then some (.box s) else if eE (g.fe b) then none else g.fe b
 let g':Gh:=⟨hw',β',abn,g.hdr⟩
 have RK:Fr C.M C.w0 w':=h.frame.trans jQ (λb hb hh=>by
  rcases hh with hh|rfl;cases hx:g.fe b with|none=>rw[hx]at hh;cases hh|some x=>rcases(h.gY b x hx).2 with h2|h2;omega;exact h2
  rcases hbn with⟨_,h2⟩|h2;rcases(h.gY b _ h2).2 with h3|h3;omega;exact h3;have:=h.frame.size;omega)
 have IZ:∀t,jO st t->β' t=g.β t:=by rintro t ⟨qO,hc⟩;show(if t=s then bnew else g.β t)=g.β t;by_cases tz:t=s;subst tz;rcases hbn with⟨h2,_⟩|⟨_,h2⟩;simp[h2];rw[h2]at hc;cases hc;simp[tz]
 have hle:(dk C g st w).Le (dk C g' (st.fD s (some cs)) w'):=PX rfl hcA IZ Hn;have ajh:(RC.mk hw' β' C.A g.hdr (nq st) st.ep (jO st) w').Le (dk C g' (st.fD s (some cs)) w'):=⟨rfl,λ_ ht=>⟨ht,rfl⟩,λ_ _ _ _ _ hu=>hu,aV _,λt ht=>⟨(hle.H2 t ht).1,rfl⟩,λ_ b o u ho hu=>⟨ho,hu⟩⟩
 refine⟨g',by show(if s=s then bnew else g.β s)=bnew;simp,h.step (λx=>¬eE (some x)/\x≠ .box s) hle h.defers h.size ?_ RK ?_ ?_ ?_ ?_ ?_ (.inl ⟨⟨by simp[kW],by simp⟩,rfl⟩)⟩;show(st.fD s (some cs)).boxes.length=st.slots.length;rw[kQ,aK];exact h.bsize;intro b x hx;have AG:(if b=bnew\/b∈fp then some (kI.box s) else if eE (g.fe b) then none else g.fe b)=some x:=hx;by_cases hm:b=bnew\/b∈fp;rcases hm with rfl|hm;refine⟨ir,?_⟩;rcases hbn with⟨_,h2⟩|h2;exact(h.gY b _ h2).2;exact .inl (bT h.frame.size h2.1);refine⟨(Dw b hm).1,?_⟩;rcases(Dw b hm).2 with h2|h2|h2;cases hy:g.fe b with|none=>rw[hy]at h2;cases h2|some y=>exact(h.gY b y hy).2
 exact(h.gY b _ h2).2;exact .inl (bT h.frame.size h2);rw[aH hm]at AG;split at AG;cases AG;have hl:=h.gY b x AG;have hz:=jQ.size;exact⟨by omega,hl.2⟩;intro b x hk hx;have hb1:=Cy b x hx hk.2;refine⟨?_,hkp b x hx hk.1 hk.2,Fb b x hx hk.1 hb1⟩;show(if b=bnew\/b∈fp then some (kI.box s) else if eE (g.fe b) then none else g.fe b)=some x;have Xh:¬(b=bnew\/b∈fp):=by rintro(hm|hm);exact hb1 hm;rcases(Dw b hm).2 with h2|h2|h2;rw[hx]at h2;exact hk.1 h2;rw[hx]at h2;exact hk.2 (by simpa using h2);have:=(h.gY b x hx).1;omega
 rw[aH Xh,aH (by rw[hx];exact hk.1),hx];intro i av hi;exact .inl ⟨⟨by simp[kW],by simp⟩,hi,rfl⟩;intro t qO hb;have im:(st.boxes.set s (some cs))[t]?=some (some qO):=by rw[<-kQ];exact hb
 by_cases tz:t=s;subst tz;rw[bH]at im;simp only[cc]at im;split at im;simp at im;subst im;have agO:β' t=bnew:=by show(if t=t then bnew else g.β t)=bnew;simp
 refine .inr ⟨arr,T,fr,fp,?_,sE,hr.mono ajh (λb _=>⟨rfl,rfl⟩),hn,?_,?_,?_,?_⟩;show w'.heap[β' t]?=_;rw[agO];exact kU;show β' t∉fp;rw[agO];exact wA;intro b hb;show(if b=bnew\/b∈fp then _ else _)=_;rw[aF (.inr hb)];show(if β' t=bnew\/β' t∈fp then _ else _)=_;rw[aF (.inl agO)];show hw' (β' t)=0;rw[agO];exact apu;cases im;rw[aJ (cr tz)]at im;exact .inl ⟨⟨by simp[kW],by simpa using tz⟩,im,by show(if t=s then bnew else g.β t)=_;simp[tz]⟩;intro k u bv hk;simp at hk
def lq.owner:lq->kI
 | .slot s _=> .slot s
 | .box s _=> .box s
 | .io _=> .io
theorem bR.aiv {c:RC}{vs:jz}{cs:ay AC}(hr:bR c vs cs fp){j:Nat}{x:AC}(hx:cs[j]?=some x): ∃v f1 f2 f3,vs[j]?=some v/\fp=f1++f2++f3/\iI c v x f2/\ ∀(c':RC),c.Le c'->∀x' f2',iI c' v x' f2'->(∀b∈f1++f3,c'.w.heap[b]?=c.w.heap[b]?/\c'.hw b=c.hw b)-> bR c' vs (cs.set j x') (f1++f2'++f3):=by
 have hj:j<cs.length:=(aB.1 hx).1;obtain⟨f1,fr,rfl,r1,r2⟩:=hr.split j;have hlen:=hr.length;have hjv:j<vs.length:=by omega
 have ecs:cs.drop j=x::cs.drop (j+1):=by rw[ca hj];congr 1;rw[aw hj]at hx;simpa using hx
 have evs:vs.drop j=vs[j]::vs.drop (j+1):=ca hjv;rw[ecs,evs]at r2;obtain⟨f2,f3,rfl,r2,r3⟩:=r2;refine⟨vs[j],f1,f2,f3,aw hjv,by simp,r2,λc' hle x' f2' AG hb=>?_⟩;have e1:vs=vs.take j++(vs[j]::vs.drop (j+1)):=by rw[<-evs,cz]
 have e2:cs.set j x'=cs.take j++(x'::cs.drop (j+1)):=by rw[List.set_eq_take_append_cons_drop,aF hj]
 rw[e1,e2,aD];refine bR.append (r1.mono hle (λb im=>hb b (aR _ im))) ⟨f2',f3,rfl,AG,?_⟩;exact r3.mono hle (λb im=>hb b (bj _ im))
def Gh.wrote (g:Gh)(o:kI)(fp:fR)(hw':Nat->Nat):Gh:=
 ⟨hw',g.β,λb=>if b∈fp then some o else if eE (g.fe b) then none else g.fe b,g.hdr⟩
theorem eK.Jy (h:eK C g st a w hs)(o:kI)(Ob:¬eE (some o)){vs:jz}{cs:ay AC}{j:Nat}(fJ:bR (dk C g st w) vs cs fp)(hn:fp.Nodup)(hl:∀b∈fp,g.fe b=some o)(hx:cs[j]?=some x0): ∃v f1 f2 f3,vs[j]?=some v/\fp=f1++f2++f3/\iI (dk C g st w) v x0 f2/\f2.Nodup/\(∀b∈f2,g.fe b=some o)/\ ∀(w':World)(hw':Nat->Nat)(bX:AS)(x1:AC)(rp:fR),bX.ep=st.ep+1->bX.iss=st.iss->(∀s,jO st s->jO bX s)-> (∀c',(dk C g st w).Le c'->c'.w=w'->c'.hw=hw'->iI c' v x1 rp)->rp.Nodup->(∀b∈rp,b<w'.heap.size/\(b∈f2\/eE (g.fe b)))-> Fr (λb=>eE (g.fe b)\/b∈f2) w w'->(∀b x,g.fe b=some x->¬eE (some x)->b∉f2->hw' b=g.hw b)-> (dk C g st w).Le (dk C (g.wrote o (f1++rp++f3) hw') bX w')/\ bR (dk C (g.wrote o (f1++rp++f3) hw') bX w') vs (cs.set j x1) (f1++rp++f3)/\(f1++rp++f3).Nodup/\ (∀b∈f1++rp++f3,(g.wrote o (f1++rp++f3) hw').fe b=some o)/\ (∀b x,¬eE (some x)->x≠o->g.fe b=some x->(g.wrote o (f1++rp++f3) hw').fe b=some x/\w'.heap[b]?=w.heap[b]?/\hw' b=g.hw b)/\ (∀b,g.fe b=some o->b∉fp->(g.wrote o (f1++rp++f3) hw').fe b=some o/\w'.heap[b]?=w.heap[b]?/\hw' b=g.hw b)/\ Fr C.M C.w0 w'/\(∀b x,(g.wrote o (f1++rp++f3) hw').fe b=some x->b<w'.heap.size/\(C.w0.heap.size<=b\/C.M b)):=by
 obtain⟨v,f1,f2,f3,hv,rfl,Ow,Eh⟩:=fJ.aiv hx;have Cx:=hn;rw[aD]at Cx;have n1:=aM.1 Cx;have n2:=aM.1 n1.2.1;have B6:∀b∈f1++f3,b∉f2:=by intro b hb h2;rcases ax.1 hb with hb|hb;exact n1.2.2 b hb b (aR _ h2) rfl;exact n2.2.2 b h2 b hb rfl
 refine⟨v,f1,f2,f3,hv,rfl,Ow,n2.1,λb hb=>hl b (by simp[hb]),?_⟩;intro w' hw' bX x1 rp yi KQ uY iL IX Ae jQ Fb;have hcA:∀k b o u,C.A k b o->w.cell? ⟨b,o,none⟩=some u->w'.cell? ⟨b,o,none⟩=some u:=by
  intro k b o u hA hu;have hb:b<w.heap.size:=World.block_lt_of_cell? w _ hu;have J8:¬(eE (g.fe b)\/b∈f2):=by
   rintro(hh|hm);cases hx:g.fe b with|none=>rw[hx]at hh;cases hh|some x=>exact h.MU hx k o hA
   exact h.MU (hl b (by simp[hm])) k o hA
  rw[World.cell?_of_block (a:=⟨b,o,none⟩) (jQ.block b hb J8)];exact hu
 have hle:(dk C g st w).Le (dk C (g.wrote o (f1++rp++f3) hw') bX w'):=⟨rfl,λt ht=>⟨by show nq bX t;have V1:nq st t:=ht;simpa[nq,KQ]using V1,rfl⟩,hcA,by show st.ep<=bX.ep;omega,λs hs=>⟨uY s hs,rfl⟩,λhe=>absurd he (by show bX.ep≠st.ep;omega)⟩
 have sM:∀b x,¬eE (some x)->g.fe b=some x->b∉f2->w'.heap[b]?=w.heap[b]?/\hw' b=g.hw b:=by intro b x hh hb hm;exact⟨jQ.block b (h.gY b _ hb).1 (by rintro(k|k);rw[hb]at k;exact hh k;exact hm k),Fb b _ hb hh hm⟩
 have hd1:∀b∈f1++f3,b∉rp:=by intro b hb hm;rcases(Ae b hm).2 with h2|h2;exact B6 b hb h2;have PC:g.fe b=some o:=hl b (by rcases ax.1 hb with hb|hb<;>simp[hb]);rw[PC]at h2;exact Ob h2
 refine⟨hle,?_,?_,?_,?_,?_,?_,?_⟩;refine Eh _ hle _ rp (iL _ hle rfl rfl) (λb hb=>?_);exact sM b o Ob (hl b (by rcases ax.1 hb with hb|hb<;>simp[hb])) (B6 b hb);rw[aD];refine aM.2 ⟨n1.1,aM.2 ⟨IX,n2.2.1,?_⟩,?_⟩;rintro b hb c hc rfl;exact hd1 b (by simp[hc]) hb;rintro b hb c hc rfl;rcases ax.1 hc with hc|hc;exact hd1 b (by simp[hb]) hc;exact n1.2.2 b hb b (bj _ hc) rfl;intro b hb;show(if b∈f1++rp++f3 then _ else _)=_;rw[aF hb];intro b x hh hxo hb;have hm2:b∉f2:=λhm=>hxo (by have:=hl b (by simp[hm]);rw[hb]at this;simpa using this);refine⟨?_,sM b x hh hb hm2⟩;show(if b∈f1++rp++f3 then _ else if eE (g.fe b) then none else g.fe b)=_;have Xh:b∉f1++rp++f3:=by intro hm;simp only[ax]at hm;rcases hm with(hm|hm)|hm;exact hxo (by have:=hl b (by simp[hm]);rw[hb]at this;simpa using this);rcases(Ae b hm).2 with h2|h2;exact hm2 h2;rw[hb]at h2;exact hh h2;exact hxo (by have:=hl b (by simp[hm]);rw[hb]at this;simpa using this)
 rw[aH Xh,aH (by rw[hb];exact hh),hb];intro b hb hm;have hm2:b∉f2:=λk=>hm (by simp[k]);refine⟨?_,sM b o Ob hb hm2⟩;show(if b∈f1++rp++f3 then _ else if eE (g.fe b) then none else g.fe b)=_;rw[aH (c:=eE (g.fe b)) (by rw[hb];exact Ob),hb];split<;>rfl;refine h.frame.trans jQ (λb hb hh=>?_);rcases hh with hh|hm;cases hx:g.fe b with|none=>rw[hx]at hh;cases hh|some x=>rcases(h.gY b x hx).2 with h2|h2;omega;exact h2
 rcases(h.gY b o (hl b (by simp[hm]))).2 with h2|h2;omega;exact h2;intro b x hx;have AG:(if b∈f1++rp++f3 then some o else if eE (g.fe b) then none else g.fe b)=some x:=hx;have hz:=jQ.size;have R8:∀y,g.fe b=some y->b<w'.heap.size/\(C.w0.heap.size<=b\/C.M b):=λy hy=>⟨Nat.lt_of_lt_of_le (h.gY b y hy).1 hz,(h.gY b y hy).2⟩
 split at AG;rename_i hm;simp only[ax]at hm;rcases hm with(hm|hm)|hm;exact R8 o (hl b (by simp[hm]));rcases(Ae b hm).2 with h2|h2;exact R8 o (hl b (by simp[h2]));cases hy:g.fe b with|none=>rw[hy]at h2;cases h2|some y=>exact R8 y hy
 exact R8 o (hl b (by simp[hm]));split at AG;cases AG;exact R8 x AG
theorem eK.afn (h:eK C g st a w hs)(s j:Nat)(Cy:x0≠ .bot)(iP:st.fK (.slot s j)=some x0): ∃v f2,iI (dk C g st w) v x0 f2/\f2.Nodup/\(∀b∈f2,g.fe b=some (.slot s))/\ ∀(w':World)(hw':Nat->Nat)(x1:AC)(rp:fR),(∀c',(dk C g st w).Le c'->c'.w=w'->c'.hw=hw'->iI c' v x1 rp)->rp.Nodup->(∀b∈rp,b<w'.heap.size/\(b∈f2\/eE (g.fe b)))-> Fr (λb=>eE (g.fe b)\/b∈f2) w w'->(∀b x,g.fe b=some x->¬eE (some x)->b∉f2->hw' b=g.hw b)-> ∃g',eK C g' {st.fQ (.slot s j) x1 with ep:=st.ep+1} a w' []:=by
 have yL:s<st.slots.length:=by
  rcases bW s st.slots.length with ir|zH;exact ir;have:st.get s=.bot:=by simp[AS.get,eH,bM zH]
  rw[AS.fK,this]at iP;cases j with|zero=>simp[nth]at iP;exact absurd iP.symm Cy|succ j=>simp[nth]at iP
 have ZB:st.slots[s]?=some (st.get s):=by rw[get_eq (aw yL)];exact aw yL
 obtain⟨fp,hr,hn,hl⟩:=h.slots s _ ZB;cases hg:st.get s with
 |wh ts=>rw[AS.fK,hg]at iP;cases iP
 |val gg cs=>
  have hgx:cs[j]?=some x0:=by rw[AS.fK,hg]at iP;simpa[eH]using iP
  rw[hg]at hr;obtain⟨vs,gm,hr⟩:=hr;obtain⟨v,f1,f2,f3,hv,rfl,iL,DJ,zI,qJ⟩:=h.Jy (.slot s) (by simp[kW]) hr hn hl hgx;refine⟨v,f2,iL,DJ,zI,?_⟩;intro w' hw' x1 rp Hm IX Ae jQ Fb;let bX:AS:={st.fQ (.slot s j) x1 with ep:=st.ep+1}
  have wx:bX={st with slots:=st.slots.set s (.val gg (cs.set j x1)),ep:=st.ep+1}:=by show({st.fQ (.slot s j) x1 with ep:=st.ep+1}:AS)=_;simp only[AS.fQ,hg,AS.put,gr]
  obtain⟨hle,fJ,Mv,hll,hk1,Zy,RK,TW⟩:=qJ w' hw' bX x1 rp rfl (by rw[wx]) (λs hs=>by rw[wx];exact hs) Hm IX Ae jQ Fb;refine⟨_,h.step (λx=>¬eE (some x)/\x≠ .slot s) hle h.defers ?_ ?_ RK TW (λb x hk hx=>hk1 b x hk.1 hk.2 hx) ?_ ?_ (λk u bv hk=>by simp at hk) (.inl ⟨⟨by simp[kW],by simp⟩,by show bX.io=st.io;rw[wx]⟩)⟩;show _=bX.slots.length;rw[wx];simpa using h.size;show bX.boxes.length=bX.slots.length;rw[wx];simpa using h.bsize;intro i av hi;have wk:(st.slots.set s (.val gg (cs.set j x1)))[i]?=some av:=by have:bX.slots[i]?=some av:=hi;rw[wx]at this;exact this
  by_cases his:i=s;subst his;rw[bH]at wk;simp only[cc,yL]at wk;simp at wk;subst wk;exact .inr ⟨_,⟨vs,gm,fJ⟩,Mv,hll⟩;rw[aJ (cr his)]at wk;exact .inl ⟨⟨by simp[kW],by simpa using his⟩,wk,rfl⟩;intro t qO hb;have im:st.boxes[t]?=some (some qO):=by have:bX.boxes[t]?=some (some qO):=hb;rw[wx]at this;exact this
  exact .inl ⟨⟨by simp[kW],by simp⟩,im,rfl⟩
theorem eK.ahw (h:eK C g st a w hs)(s j:Nat)(iP:st.fK (.box s j)=some x0): ∃v f2,iI (dk C g st w) v x0 f2/\f2.Nodup/\(∀b∈f2,g.fe b=some (.box s))/\ ∀(w':World)(hw':Nat->Nat)(x1:AC)(rp:fR),(∀c',(dk C g st w).Le c'->c'.w=w'->c'.hw=hw'->iI c' v x1 rp)->rp.Nodup->(∀b∈rp,b<w'.heap.size/\(b∈f2\/eE (g.fe b)))-> Fr (λb=>eE (g.fe b)\/b∈f2) w w'->(∀b x,g.fe b=some x->¬eE (some x)->b∉f2->hw' b=g.hw b)-> ∃g',eK C g' {st.fQ (.box s j) x1 with ep:=st.ep+1} a w' []:=by
 have kC:∃cs,st.boxes[s]?=some (some cs)/\cs[j]?=some x0:=by rw[AS.fK,eH]at iP;cases hb:st.boxes[s]? with|none=>simp[hb]at iP|some o=>cases o with|none=>simp[hb]at iP|some cs=>exact⟨cs,rfl,by simpa[hb,eH]using iP⟩
 obtain⟨cs,kC,hgx⟩:=kC;have yL:s<st.boxes.length:=(aB.1 kC).1;obtain⟨arr,T,fr,fp,kU,sE,hr,hn,wA,hl,GQ,GS⟩:=h.boxes s cs kC;obtain⟨v,f1,f2,f3,hv,rfl,iL,DJ,zI,qJ⟩:=h.Jy (.box s) (by simp[kW]) hr hn hl hgx;refine⟨v,f2,iL,DJ,zI,?_⟩;intro w' hw' x1 rp Hm IX Ae jQ Fb;let bX:AS:={st.fQ (.box s j) x1 with ep:=st.ep+1}
 have wx:bX={st with boxes:=st.boxes.set s (some (cs.set j x1)),ep:=st.ep+1}:=by show({st.fQ (.box s j) x1 with ep:=st.ep+1}:AS)=_;simp only[AS.fQ,eH,kC,gy,AS.fD,gr]
 obtain⟨hle,fJ,Mv,hll,hk1,Zy,RK,TW⟩:=qJ w' hw' bX x1 rp rfl (by rw[wx]) (λt ht=>by rw[wx];obtain⟨c0,SO⟩:=ht;by_cases tz:s=t;subst tz;exact⟨cs.set j x1,by simp[yL]⟩;exact⟨c0,by rw[aJ tz];exact SO⟩) Hm IX Ae jQ Fb;have IZ:=Zy (g.β s) GQ wA;refine⟨_,h.step (λx=>¬eE (some x)/\x≠ .box s) hle h.defers ?_ ?_ RK TW (λb x hk hx=>hk1 b x hk.1 hk.2 hx) ?_ ?_ (λk u bv hk=>by simp at hk) (.inl ⟨⟨by simp[kW],by simp⟩,by show bX.io=st.io;rw[wx]⟩)⟩;show _=bX.slots.length;rw[wx];exact h.size;show bX.boxes.length=bX.slots.length;rw[wx];simpa using h.bsize;intro i av hi;have wk:st.slots[i]?=some av:=by have:bX.slots[i]?=some av:=hi;rw[wx]at this;exact this
 exact .inl ⟨⟨by simp[kW],by simp⟩,wk,rfl⟩;intro t qO hb;have im:(st.boxes.set s (some (cs.set j x1)))[t]?=some (some qO):=by have:bX.boxes[t]?=some (some qO):=hb;rw[wx]at this;exact this
 by_cases tz:t=s;subst tz;rw[bH]at im;simp only[cc,yL]at im;simp at im;subst im;have Hl:g.β t∉f1++rp++f3:=by intro hm;simp only[ax]at hm;rcases hm with(hm|hm)|hm;exact wA (by simp[hm]);rcases(Ae _ hm).2 with h2|h2;exact wA (by simp[h2]);rw[GQ]at h2;cases h2;exact wA (by simp[hm])
 exact .inr ⟨arr,T,fr,_,IZ.2.1.trans kU,sE,fJ,Mv,Hl,hll,IZ.1,IZ.2.2.trans GS⟩;rw[aJ (cr tz)]at im;exact .inl ⟨⟨by simp[kW],by simpa using tz⟩,im,rfl⟩
theorem eK.aki (h:eK C g st a w hs)(j:Nat)(iP:st.fK (.io j)=some x0): ∃v f2,iI (dk C g st w) v x0 f2/\f2.Nodup/\(∀b∈f2,g.fe b=some .io)/\ ∀(w':World)(hw':Nat->Nat)(x1:AC)(rp:fR),(∀c',(dk C g st w).Le c'->c'.w=w'->c'.hw=hw'->iI c' v x1 rp)->rp.Nodup->(∀b∈rp,b<w'.heap.size/\(b∈f2\/eE (g.fe b)))-> Fr (λb=>eE (g.fe b)\/b∈f2) w w'->(∀b x,g.fe b=some x->¬eE (some x)->b∉f2->hw' b=g.hw b)-> ∃g',eK C g' {st.fQ (.io j) x1 with ep:=st.ep+1} a w' []:=by
 have hgx:st.io[j]?=some x0:=by rw[AS.fK,eH]at iP;exact iP
 obtain⟨fp,hr,hn,hl⟩:=h.io;obtain⟨v,f1,f2,f3,hv,rfl,iL,DJ,zI,qJ⟩:=h.Jy .io (by simp[kW]) hr hn hl hgx;refine⟨v,f2,iL,DJ,zI,?_⟩;intro w' hw' x1 rp Hm IX Ae jQ Fb;let bX:AS:={st.fQ (.io j) x1 with ep:=st.ep+1}
 have wx:bX={st with io:=st.io.set j x1,ep:=st.ep+1}:=by show({st.fQ (.io j) x1 with ep:=st.ep+1}:AS)=_;simp only[AS.fQ,gr]
 obtain⟨hle,fJ,Mv,hll,hk1,Zy,RK,TW⟩:=qJ w' hw' bX x1 rp rfl (by rw[wx]) (λs hs=>by rw[wx];exact hs) Hm IX Ae jQ Fb
 refine⟨_,h.step (λx=>¬eE (some x)/\x≠ .io) hle h.defers ?_ ?_ RK TW (λb x hk hx=>hk1 b x hk.1 hk.2 hx) ?_ ?_ (λk u bv hk=>by simp at hk) (.inr ⟨_,by
  have:bX.io=st.io.set j x1:=by rw[wx]
  show bR _ _ bX.io _;rw[this];exact fJ,Mv,hll⟩)⟩
 show _=bX.slots.length;rw[wx];exact h.size;show bX.boxes.length=bX.slots.length;rw[wx];exact h.bsize;intro i av hi;have wk:st.slots[i]?=some av:=by have:bX.slots[i]?=some av:=hi;rw[wx]at this;exact this
 exact .inl ⟨⟨by simp[kW],by simp⟩,wk,rfl⟩;intro t qO hb;have im:st.boxes[t]?=some (some qO):=by have:bX.boxes[t]?=some (some qO):=hb;rw[wx]at this;exact this
 exact .inl ⟨⟨by simp[kW],by simp⟩,im,rfl⟩
theorem eK.Si (h:eK C g st a w hs)(r:lq)(Cy:x0≠ .bot)(iP:st.fK r=some x0): ∃v f2,iI (dk C g st w) v x0 f2/\f2.Nodup/\(∀b∈f2,g.fe b=some r.owner)/\ ∀(w':World)(hw':Nat->Nat)(x1:AC)(rp:fR),(∀c',(dk C g st w).Le c'->c'.w=w'->c'.hw=hw'->iI c' v x1 rp)->rp.Nodup->(∀b∈rp,b<w'.heap.size/\(b∈f2\/eE (g.fe b)))-> Fr (λb=>eE (g.fe b)\/b∈f2) w w'->(∀b x,g.fe b=some x->¬eE (some x)->b∉f2->hw' b=g.hw b)-> ∃g',eK C g' {st.fQ r x1 with ep:=st.ep+1} a w' []:=by cases r with|slot s j=>exact h.afn s j Cy iP|box s j=>exact h.ahw s j iP|io j=>exact h.aki j iP
theorem eK.Sj (h:eK C g st a w hs)(r:lq){tag:aC Nat}{e:CT}{xs:ay e.D}(iP:st.fK r=some (.sl (.own tag) e xs)): ∃v f2,(∀t,tag=some t->v=g.hdr t)/\gi g.hw w (.sl e) [v] xs f2/\f2.Nodup/\(∀b∈f2,g.fe b=some r.owner)/\ ∀(w':World)(hw':Nat->Nat)(Oe:ay e.D)(rp:fR),gi hw' w' (.sl e) [v] Oe rp->rp.Nodup->(∀b∈rp,b<w'.heap.size/\(b∈f2\/eE (g.fe b)))-> Fr (λb=>eE (g.fe b)\/b∈f2) w w'->(∀b x,g.fe b=some x->¬eE (some x)->b∉f2->hw' b=g.hw b)-> ∃g',eK C g' {st.fQ r (.sl (.own tag) e Oe)with ep:=st.ep+1} a w' []:=by obtain⟨v,f2,fJ,DJ,zI,qJ⟩:=h.Si r (by simp) iP;refine⟨v,f2,λt ht=>(fJ.2 t ht).2,fJ.1,DJ,zI,λw' hw' Oe rp iL IX Ae jQ Fb=>qJ w' hw' (.sl (.own tag) e Oe) rp (λc' hle SP FC=>⟨?_,λt ht=>?_⟩) IX Ae jQ Fb⟩;rw[SP,FC];exact iL;have h1:=fJ.2 t ht;exact⟨(hle.hdr t h1.1).1,by rw[(hle.hdr t h1.1).2];exact h1.2⟩
theorem eK.afo (h:eK C g st a w [])(r:lq)(Cy:x0≠ .bot)(iP:st.fK r=some x0): ∃v f2,iI (dk C g st w) v x0 f2/\f2.Nodup/\(∀b∈f2,g.fe b=some r.owner)/\ ∀(x1:AC)(rp fh:fR)(u:Value)(av:AV),(∀c',(dk C g st w).Le c'->c'.w=w->c'.hw=g.hw->c'.ep=st.ep->iI c' v x1 rp)->rp.Nodup->fh.Nodup->(∀b∈rp,b∈f2/\b∉fh)->(∀b∈fh,b∈f2)-> gW (dk C g st w) u av fh->∃g',eK C g' (st.fQ r x1) a w [(u,av)]:=by
 have core:∀(o:kI){vs:jz}{cs:ay AC}{fp:fR}{j:Nat},bR (dk C g st w) vs cs fp->fp.Nodup->(∀b∈fp,g.fe b=some o)->cs[j]?=some x0->
  ∃v f2,iI (dk C g st w) v x0 f2/\f2.Nodup/\(∀b∈f2,g.fe b=some o/\b∈fp)/\
   ∀(bX:AS)(x1:AC)(rp fh:fR)(u:Value)(av:AV),bX.ep=st.ep->bX.iss=st.iss->(∀s,jO st s->jO bX s)->(∀c',(dk C g st w).Le c'->c'.w=w->c'.hw=g.hw->c'.ep=st.ep->iI c' v x1 rp)->rp.Nodup->fh.Nodup->(∀b∈rp,b∈f2/\b∉fh)->(∀b∈fh,b∈f2)->gW (dk C g st w) u av fh->
    (dk C g st w).Le (dk C {g with fe:=λb=>if b∈fh then some (.hand 0) else g.fe b} bX w)/\
    ∃kS,bR (dk C {g with fe:=λb=>if b∈fh then some (.hand 0) else g.fe b} bX w) vs (cs.set j x1) kS/\kS.Nodup/\(∀b∈kS,b∉fh/\b∈fp)/\
    IC C {g with fe:=λb=>if b∈fh then some (.hand 0) else g.fe b} bX w 0 u av:=by
  intro o vs cs fp j fJ hn hl hx
  obtain⟨v,f1,f2,f3,hv,rfl,Ow,Eh⟩:=fJ.aiv hx
  have Cx:=hn
  rw[aD]at Cx
  have n1:=aM.1 Cx
  have n2:=aM.1 n1.2.1
  refine⟨v,f2,Ow,n2.1,λb hb=>⟨hl b (by simp[hb]),by simp[hb]⟩,?_⟩
  intro bX x1 rp fh u av yi KQ uY hx1 IX Ob Ae Om hu
  have hle:(dk C g st w).Le (dk C {g with fe:=λb=>if b∈fh then some (.hand 0) else g.fe b} bX w):=
   ⟨rfl,λt ht=>⟨by show nq bX t;have V1:nq st t:=ht;simpa[nq,KQ]using V1,rfl⟩,λ_ _ _ _ _ hu=>hu,by show st.ep<=bX.ep;omega,λs hs=>⟨uY s hs,rfl⟩,λ_ b o u ho hu=>⟨ho,hu⟩⟩
  have B6:∀b∈f1++f3,b∉f2:=by intro b hb h2;rcases ax.1 hb with hb|hb;exact n1.2.2 b hb b (aR _ h2) rfl;exact n2.2.2 b h2 b hb rfl
  refine⟨hle,f1++rp++f3,Eh _ hle _ rp (hx1 _ hle rfl rfl yi) (λ_ _=>⟨rfl,rfl⟩),?_,?_,fh,hu.mono hle (λ_ _=>⟨rfl,rfl⟩),Ob,λb hb=>?_⟩
  ·rw[aD]
   refine aM.2 ⟨n1.1,aM.2 ⟨IX,n2.2.1,?_⟩,?_⟩
   ·rintro b hb c hc rfl;exact B6 b (by simp[hc]) (Ae b hb).1
   ·rintro b hb c hc rfl
    rcases ax.1 hc with hc|hc
    ·exact B6 b (by simp[hb]) (Ae b hc).1
    ·exact n1.2.2 b hb b (bj _ hc) rfl
  ·intro b hb
   simp only[ax]at hb
   rcases hb with(hb|hb)|hb
   ·exact⟨λhm=>B6 b (by simp[hb]) (Om b hm),by simp[hb]⟩
   ·exact⟨(Ae b hb).2,by simp[(Ae b hb).1]⟩
   ·exact⟨λhm=>B6 b (by simp[hb]) (Om b hm),by simp[hb]⟩
  ·show(if b∈fh then _ else _)=_
   rw[aF hb]
 have MV:∀(fh:fR),∀b x,(if b∈fh then some (kI.hand 0) else g.fe b)=some x->(b∈fh->∃y,g.fe b=some y)->b<w.heap.size/\(C.w0.heap.size<=b\/C.M b):=by intro fh b x hx hy;by_cases hm:b∈fh;obtain⟨y,hy⟩:=hy hm;exact h.gY b y hy;rw[aH hm]at hx;exact h.gY b x hx
 have XM:∀(fh:fR)(o:kI),(∀b∈fh,g.fe b=some o)->∀b x,x≠o->g.fe b=some x->(if b∈fh then some (kI.hand 0) else g.fe b)=some x:=by intro fh o Om b x hxo hb;rw[aH (λhm=>hxo (by have:=Om b hm;rw[hb]at this;simpa using this))];exact hb
 cases r with
 |slot s j=>
  have yL:s<st.slots.length:=by
   rcases bW s st.slots.length with ir|zH;exact ir;have:st.get s=.bot:=by simp[AS.get,eH,bM zH]
   rw[AS.fK,this]at iP;cases j with|zero=>simp[nth]at iP;exact absurd iP.symm Cy|succ j=>simp[nth]at iP
  have ZB:st.slots[s]?=some (st.get s):=by rw[get_eq (aw yL)];exact aw yL
  obtain⟨fp,hr,hn,hl⟩:=h.slots s _ ZB;cases hg:st.get s with
  |wh ts=>rw[AS.fK,hg]at iP;cases iP
  |val gg cs=>
   have hgx:cs[j]?=some x0:=by rw[AS.fK,hg]at iP;simpa[eH]using iP
   rw[hg]at hr;obtain⟨vs,gm,hr⟩:=hr;have nt:∀x1,st.fQ (.slot s j) x1={st with slots:=st.slots.set s (.val gg (cs.set j x1))}:=λx1=>by simp only[AS.fQ,hg,AS.put,gr]
   obtain⟨v,f2,PF,DJ,zI,qJ⟩:=core (.slot s) hr hn hl hgx;refine⟨v,f2,PF,DJ,λb hb=>(zI b hb).1,?_⟩;intro x1 rp fh u av hx1 IX Ob Ae Om hu;obtain⟨hle,kS,fJ,Mv,AF,Ec⟩:=qJ (st.fQ (.slot s j) x1) x1 rp fh u av (by rw[nt]) (by rw[nt]) (λ_ q=>by rw[nt];exact q) hx1 IX Ob Ae Om hu;have hfo:∀b∈fh,g.fe b=some (.slot s):=λb hb=>(zI b (Om b hb)).1;refine⟨_,h.step (λx=>x≠ .slot s) hle h.defers ?_ ?_ h.frame (λb x hx=>MV fh b x hx (λhm=>⟨_,hfo b hm⟩)) (λb x hk hb=>⟨XM fh _ hfo b x hk hb,rfl,rfl⟩) ?_ ?_ ?_ (.inl ⟨by simp,by rw[nt]⟩)⟩;rw[nt];simpa using h.size;rw[nt];simpa using h.bsize;intro i bv hi;rw[nt]at hi;have wk:(st.slots.set s (.val gg (cs.set j x1)))[i]?=some bv:=hi;by_cases his:i=s;subst his;rw[bH]at wk;simp only[cc,yL]at wk;simp at wk;subst wk;refine .inr ⟨kS,⟨vs,gm,fJ⟩,Mv,λb hb=>?_⟩;show(if b∈fh then _ else _)=_;rw[aH (AF b hb).1];exact hl b (AF b hb).2;rw[aJ (cr his)]at wk;exact .inl ⟨by simpa using his,wk,rfl⟩;intro t qO hb;rw[nt]at hb;exact .inl ⟨by simp,hb,rfl⟩;intro k u' bv hk;cases k with
   |zero=>simp only[cM,bu,Prod.mk.injEq]at hk;obtain⟨rfl,rfl⟩:=hk;exact .inr Ec
   |succ k=>simp at hk
 |box s j=>
  have kC:∃cs,st.boxes[s]?=some (some cs)/\cs[j]?=some x0:=by rw[AS.fK,eH]at iP;cases hb:st.boxes[s]? with|none=>simp[hb]at iP|some o=>cases o with|none=>simp[hb]at iP|some cs=>exact⟨cs,rfl,by simpa[hb,eH]using iP⟩
  obtain⟨cs,kC,hgx⟩:=kC;have yL:s<st.boxes.length:=(aB.1 kC).1;obtain⟨arr,T,fr,fp,kU,sE,hr,hn,wA,hl,GQ,GS⟩:=h.boxes s cs kC;have nt:∀x1,st.fQ (.box s j) x1={st with boxes:=st.boxes.set s (some (cs.set j x1))}:=λx1=>by simp only[AS.fQ,eH,kC,gy,AS.fD,gr]
  obtain⟨v,f2,PF,DJ,zI,qJ⟩:=core (.box s) hr hn hl hgx;refine⟨v,f2,PF,DJ,λb hb=>(zI b hb).1,?_⟩;intro x1 rp fh u av hx1 IX Ob Ae Om hu;obtain⟨hle,kS,fJ,Mv,AF,Ec⟩:=qJ (st.fQ (.box s j) x1) x1 rp fh u av (by rw[nt]) (by rw[nt]) (λt ht=>by rw[nt];obtain⟨c0,SO⟩:=ht;by_cases tz:s=t;subst tz;exact⟨cs.set j x1,by simp[yL]⟩;exact⟨c0,by rw[aJ tz];exact SO⟩) hx1 IX Ob Ae Om hu;have hfo:∀b∈fh,g.fe b=some (.box s):=λb hb=>(zI b (Om b hb)).1;refine⟨_,h.step (λx=>x≠ .box s) hle h.defers ?_ ?_ h.frame (λb x hx=>MV fh b x hx (λhm=>⟨_,hfo b hm⟩)) (λb x hk hb=>⟨XM fh _ hfo b x hk hb,rfl,rfl⟩) ?_ ?_ ?_ (.inl ⟨by simp,by rw[nt]⟩)⟩;rw[nt];exact h.size;rw[nt];simpa using h.bsize;intro i bv hi;rw[nt]at hi;exact .inl ⟨by simp,hi,rfl⟩;intro t qO hb;rw[nt]at hb;have im:(st.boxes.set s (some (cs.set j x1)))[t]?=some (some qO):=hb;by_cases tz:t=s;subst tz;rw[bH]at im;simp only[cc,yL]at im;simp at im;subst im;have IZ:g.β t∉fh:=λhm=>wA (zI _ (Om _ hm)).2;refine .inr ⟨arr,T,fr,kS,kU,sE,fJ,Mv,λhm=>wA (AF _ hm).2,λb hb=>?_,?_,GS⟩;show(if b∈fh then _ else _)=_;rw[aH (AF b hb).1];exact hl b (AF b hb).2;show(if g.β t∈fh then _ else _)=_;rw[aH IZ];exact GQ;rw[aJ (cr tz)]at im;exact .inl ⟨by simpa using tz,im,rfl⟩;intro k u' bv hk;cases k with
  |zero=>simp only[cM,bu,Prod.mk.injEq]at hk;obtain⟨rfl,rfl⟩:=hk;exact .inr Ec
  |succ k=>simp at hk
 |io j=>
  have hgx:st.io[j]?=some x0:=by rw[AS.fK,eH]at iP;exact iP
  obtain⟨fp,hr,hn,hl⟩:=h.io;have nt:∀x1,st.fQ (.io j) x1={st with io:=st.io.set j x1}:=λx1=>by simp only[AS.fQ,gr]
  obtain⟨v,f2,PF,DJ,zI,qJ⟩:=core .io hr hn hl hgx;refine⟨v,f2,PF,DJ,λb hb=>(zI b hb).1,?_⟩;intro x1 rp fh u av hx1 IX Ob Ae Om hu;obtain⟨hle,kS,fJ,Mv,AF,Ec⟩:=qJ (st.fQ (.io j) x1) x1 rp fh u av (by rw[nt]) (by rw[nt]) (λ_ q=>by rw[nt];exact q) hx1 IX Ob Ae Om hu;have hfo:∀b∈fh,g.fe b=some .io:=λb hb=>(zI b (Om b hb)).1;refine⟨_,h.step (λx=>x≠ .io) hle h.defers ?_ ?_ h.frame (λb x hx=>MV fh b x hx (λhm=>⟨_,hfo b hm⟩)) (λb x hk hb=>⟨XM fh _ hfo b x hk hb,rfl,rfl⟩) ?_ ?_ ?_ (.inr ⟨kS,?_,Mv,λb hb=>?_⟩)⟩;rw[nt];exact h.size;rw[nt];exact h.bsize;intro i bv hi;rw[nt]at hi;exact .inl ⟨by simp,hi,rfl⟩;intro t qO hb;rw[nt]at hb;exact .inl ⟨by simp,hb,rfl⟩;intro k u' bv hk;cases k with
  |zero=>simp only[cM,bu,Prod.mk.injEq]at hk;obtain⟨rfl,rfl⟩:=hk;exact .inr Ec
  |succ k=>simp at hk
  have:(st.fQ (.io j) x1).io=st.io.set j x1:=by rw[nt]
  rw[this];exact fJ;show(if b∈fh then _ else _)=_;rw[aH (AF b hb).1];exact hl b (AF b hb).2
theorem eK.W9 (h:eK C g st a w hs){v:Value}{x:AC}(r:iI (dk C g st w) v x []):iI (dk C g st w) v (st.fresh x) []:=by
 unfold AS.fresh;split;rename_i ep rt t e xs;cases yi:(ep==st.ep)with
 |true=>exact r
 |false=>
  simp only[af];split;rename_i t' e' ys iP;split;rename_i he;subst he;cases ht:(t'==t)with
  |false=>exact r
  |true=>
   have:t'=t:=by simpa using ht
   subst this;simp only[ah];obtain⟨v0,f2,hh,iL,_,_,_⟩:=h.Sj rt iP;obtain⟨h1,h2,h3,h4,h5⟩:=r;obtain⟨k1,k2⟩:=h5 rt t' rfl;have hv:v0=v:=(hh t' rfl).trans k2.symm;subst hv;exact⟨h1,aV _,Na iL,λ_=>gi.rep (λb o ho=> .inr ho) iL,λr1 t1 hp=>by simp at hp;obtain⟨_,rfl⟩:=hp;exact⟨k1,k2⟩⟩
  exact r;exact r
 exact r
theorem eK.J1 (h:eK C g st a w hs):∀{vs:jz}{xs:ay AC},bR (dk C g st w) vs xs []->bR (dk C g st w) vs (xs.map st.fresh) []
 |[],[],r=>r
 |_::_,_::_,r=>by
  obtain⟨f1,f2,he,r1,r2⟩:=r;have h1:f1=[]:=by have:=he.symm;simp at this;exact this.1
  have h2:f2=[]:=by have:=he.symm;simp at this;exact this.2
  subst h1;subst h2;exact⟨[],[],rfl,h.W9 r1,h.J1 r2⟩
 |[],_::_,r=>r.elim
 |_::_,[],r=>r.elim
theorem eK.fresh (h:eK C g st a w hs){v:Value}{x:AV}(r:gW (dk C g st w) v x []):gW (dk C g st w) v (x.fresh st) []:=by
 cases x with
 |val gg cs=>obtain⟨vs,hv,r⟩:=r;exact⟨vs,hv,h.J1 r⟩
 |wh ts=>exact r
end Go.Dn
