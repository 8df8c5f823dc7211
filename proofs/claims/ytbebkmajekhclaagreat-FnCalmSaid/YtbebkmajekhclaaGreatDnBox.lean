import Derived.Test.YtbebkmajekhclaaGreatDnPut
/- A box is made or written; an element of an owned slice is written. -/
namespace Go.Dn
open Go.RowKit
variable {C:Ctx} {g:Gh} {st:AS} {a:Act} {w:World} {hs:aw (Value×AV)}
variable {x0:AC} {fp:fM}
theorem lM {s:Nat}{b:aB (aw AC)}:(st.fO s b).boxes=st.boxes.set s b:=by simp[AS.fO,gH]
theorem UF {s:Nat}{cs:aw AC}{g':Gh}{w':World}(S2:g'.hdr=g.hdr)(hcA:∀k b o u,C.A k b o->w.cell? ⟨b,o,none⟩=some u->w'.cell? ⟨b,o,none⟩=some u)(Mo:∀t,ku st t->g'.β t=g.β t)(KF:∀b o u,o<g.hw b->w.cell? ⟨b,o,none⟩=some u->o<g'.hw b/\w'.cell? ⟨b,o,none⟩=some u): (dz C g st w).Le (dz C g' (st.fO s (some cs)) w'):=by refine⟨rfl,λt ht=>⟨ht,by show g'.hdr t=g.hdr t;rw[S2]⟩,hcA,bc _,λt ht=>⟨?_,Mo t ht⟩,λ_ b o u ho hu=>KF b o u ho hu⟩;obtain⟨sU,hc⟩:=ht;show∃awU,(st.fO s (some cs)).boxes[t]?=some (some awU);rw[lM];by_cases vS:s=t;subst vS;have hG:s<st.boxes.length:=(ay.1 hc).1;exact⟨cs,by simp[hG]⟩;exact⟨sU,by rw[aE vS];exact hc⟩
theorem fb.abN (h:fb C g st a w hs)(s:Nat){cs:aw AC}{arr:Array Value}{T:TypeId}{fr:Nat×Nat}{w':World}{bnew:Nat}{hw':Nat->Nat}(hbn:(bnew=g.β s/\g.fE bnew=some (.box s))\/(w.heap.size<=bnew/\st.boxes[s]?=some none))(jZ:Fr (λb=>eQ (g.fE b)\/b=bnew) w w')(lQ:w'.heap[bnew]?=some (.cells arr T fr))(uR:rU arr fr)(hG:bnew<w'.heap.size)(axl:hw' bnew=0)(HY:∀b x,g.fE b=some x->¬eQ (some x)->b≠bnew->hw' b=g.hw b)(KF:∀b o u,o<g.hw b->w.cell? ⟨b,o,none⟩=some u->o<hw' b/\w'.cell? ⟨b,o,none⟩=some u)(hr:bV ⟨hw',λt=>if t=s then bnew else g.β t,C.A,g.hdr,oA st,st.ep,ku st,w'⟩ arr.toList cs fp)(hn:fp.Nodup)(yJ:bnew∉fp)(F5:∀b∈fp,b<w'.heap.size/\(eQ (g.fE b)\/g.fE b=some (.box s)\/w.heap.size<=b)): ∃g',g'.β s=bnew/\fb C g' (st.fO s (some cs)) a w' []:=by
 have hcA:∀k b o u,C.A k b o->w.cell? ⟨b,o,none⟩=some u->w'.cell? ⟨b,o,none⟩=some u:=by
  intro k b o u hA hu;have hb:b<w.heap.size:=World.block_lt_of_cell? w _ hu;have NL:¬(eQ (g.fE b)\/b=bnew):=by
   rintro(hh|rfl);cases hx:g.fE b with|none=>rw[hx]at hh;cases hh|some x=>exact h.Re hx k o hA
   rcases hbn with⟨_,h2⟩|h2;exact h.Re h2 k o hA;omega
  rw[World.cell?_of_block (a:=⟨b,o,none⟩) (jZ.block b hb NL)];exact hu
 have Eo:∀b x,g.fE b=some x->x≠ .box s->b≠bnew:=by rintro b x hx hxs rfl;rcases hbn with⟨_,h2⟩|h2;rw[hx]at h2;exact hxs (by simpa using h2);have:=(h.im b x hx).1;omega
 have hkp:∀b x,g.fE b=some x->¬eQ (some x)->x≠ .box s->w'.heap[b]?=w.heap[b]?:=λb x hx hh hxs=>
  jZ.block b (h.im b x hx).1 (by rintro(k|k);rw[hx]at k;exact hh k;exact Eo b x hx hxs k)
 let β':Nat->Nat:=λt=>if t=s then bnew else g.β t
 let ahB:Nat->aB lz:=λb=>if b=bnew\/b∈fp then some (.box s) else if eQ (g.fE b) then none else g.fE b
 let g':Gh:=⟨hw',β',ahB,g.hdr⟩
 have WL:Fr C.M C.w0 w':=h.frame.trans jZ (λb hb hh=>by
  rcases hh with hh|rfl;cases hx:g.fE b with|none=>rw[hx]at hh;cases hh|some x=>rcases(h.im b x hx).2 with h2|h2;omega;exact h2
  rcases hbn with⟨_,h2⟩|h2;rcases(h.im b _ h2).2 with h3|h3;omega;exact h3;have:=h.frame.size;omega)
 have Mo:∀t,ku st t->β' t=g.β t:=by rintro t ⟨sU,hc⟩;show(if t=s then bnew else g.β t)=g.β t;by_cases vS:t=s;subst vS;rcases hbn with⟨h2,_⟩|⟨_,h2⟩;simp[h2];rw[h2]at hc;cases hc;simp[vS]
 have hle:(dz C g st w).Le (dz C g' (st.fO s (some cs)) w'):=UF rfl hcA Mo KF;have aqb:(RC.mk hw' β' C.A g.hdr (oA st) st.ep (ku st) w').Le (dz C g' (st.fO s (some cs)) w'):=⟨rfl,λ_ ht=>⟨ht,rfl⟩,λ_ _ _ _ _ hu=>hu,bc _,λt ht=>⟨(hle.Lp t ht).1,rfl⟩,λ_ b o u ho hu=>⟨ho,hu⟩⟩
 refine⟨g',by show(if s=s then bnew else g.β s)=bnew;simp,h.step (λx=>¬eQ (some x)/\x≠ .box s) hle h.defers h.size ?_ WL ?_ ?_ ?_ ?_ ?_ (.inl ⟨⟨by simp[lS],by simp⟩,rfl⟩)⟩;show(st.fO s (some cs)).boxes.length=st.slots.length;rw[lM,az];exact h.bsize;intro b x hx;have Dd:(if b=bnew\/b∈fp then some (lz.box s) else if eQ (g.fE b) then none else g.fE b)=some x:=hx;by_cases hm:b=bnew\/b∈fp;rcases hm with rfl|hm;refine⟨hG,?_⟩;rcases hbn with⟨_,h2⟩|h2;exact(h.im b _ h2).2;exact .inl (bq h.frame.size h2.1);refine⟨(F5 b hm).1,?_⟩;rcases(F5 b hm).2 with h2|h2|h2;cases hy:g.fE b with|none=>rw[hy]at h2;cases h2|some y=>exact(h.im b y hy).2
 exact(h.im b _ h2).2;exact .inl (bq h.frame.size h2);rw[aG hm]at Dd;split at Dd;cases Dd;have hl:=h.im b x Dd;have hz:=jZ.size;exact⟨by omega,hl.2⟩;intro b x hk hx;have hb1:=Eo b x hx hk.2;refine⟨?_,hkp b x hx hk.1 hk.2,HY b x hx hk.1 hb1⟩;show(if b=bnew\/b∈fp then some (lz.box s) else if eQ (g.fE b) then none else g.fE b)=some x;have ac3:¬(b=bnew\/b∈fp):=by rintro(hm|hm);exact hb1 hm;rcases(F5 b hm).2 with h2|h2|h2;rw[hx]at h2;exact hk.1 h2;rw[hx]at h2;exact hk.2 (by simpa using h2);have:=(h.im b x hx).1;omega
 rw[aG ac3,aG (by rw[hx];exact hk.1),hx];intro i av hi;exact .inl ⟨⟨by simp[lS],by simp⟩,hi,rfl⟩;intro t sU hb;have iy:(st.boxes.set s (some cs))[t]?=some (some sU):=by rw[<-lM];exact hb
 by_cases vS:t=s;subst vS;rw[bJ]at iy;simp only[cw]at iy;split at iy;simp at iy;subst iy;have anC:β' t=bnew:=by show(if t=t then bnew else g.β t)=bnew;simp
 refine .inr ⟨arr,T,fr,fp,?_,uR,hr.mono aqb (λb _=>⟨rfl,rfl⟩),hn,?_,?_,?_,?_⟩;show w'.heap[β' t]?=_;rw[anC];exact lQ;show β' t∉fp;rw[anC];exact yJ;intro b hb;show(if b=bnew\/b∈fp then _ else _)=_;rw[aH (.inr hb)];show(if β' t=bnew\/β' t∈fp then _ else _)=_;rw[aH (.inl anC)];show hw' (β' t)=0;rw[anC];exact axl;cases iy;rw[aE (cl vS)]at iy;exact .inl ⟨⟨by simp[lS],by simpa using vS⟩,iy,by show(if t=s then bnew else g.β t)=_;simp[vS]⟩;intro k u bv hk;simp at hk
def mi.owner:mi->lz
 | .slot s _=> .slot s
 | .box s _=> .box s
 | .io _=> .io
theorem bV.apd {c:RC}{vs:jJ}{cs:aw AC}(hr:bV c vs cs fp){j:Nat}{x:AC}(hx:cs[j]?=some x): ∃v f1 f2 f3,vs[j]?=some v/\fp=f1++f2++f3/\iV c v x f2/\ ∀(c':RC),c.Le c'->∀x' f2',iV c' v x' f2'->(∀b∈f1++f3,c'.w.heap[b]?=c.w.heap[b]?/\c'.hw b=c.hw b)-> bV c' vs (cs.set j x') (f1++f2'++f3):=by
 have hj:j<cs.length:=(ay.1 hx).1;obtain⟨f1,fr,rfl,r1,r2⟩:=hr.split j;have hlen:=hr.length;have hjv:j<vs.length:=by omega
 have ecs:cs.drop j=x::cs.drop (j+1):=by rw[bW hj];congr 1;rw[al hj]at hx;simpa using hx
 have evs:vs.drop j=vs[j]::vs.drop (j+1):=bW hjv;rw[ecs,evs]at r2;obtain⟨f2,f3,rfl,r2,r3⟩:=r2;refine⟨vs[j],f1,f2,f3,al hjv,by simp,r2,λc' hle x' f2' Dd hb=>?_⟩;have e1:vs=vs.take j++(vs[j]::vs.drop (j+1)):=by rw[<-evs,cR]
 have e2:cs.set j x'=cs.take j++(x'::cs.drop (j+1)):=by rw[List.set_eq_take_append_cons_drop,aH hj]
 rw[e1,e2,aR];refine bV.append (r1.mono hle (λb iy=>hb b (bH _ iy))) ⟨f2',f3,rfl,Dd,?_⟩;exact r3.mono hle (λb iy=>hb b (bz _ iy))
def Gh.wrote (g:Gh)(o:lz)(fp:fM)(hw':Nat->Nat):Gh:=
 ⟨hw',g.β,λb=>if b∈fp then some o else if eQ (g.fE b) then none else g.fE b,g.hdr⟩
theorem fb.M7 (h:fb C g st a w hs)(o:lz)(SJ:¬eQ (some o)){vs:jJ}{cs:aw AC}{j:Nat}(fZ:bV (dz C g st w) vs cs fp)(hn:fp.Nodup)(hl:∀b∈fp,g.fE b=some o)(hx:cs[j]?=some x0): ∃v f1 f2 f3,vs[j]?=some v/\fp=f1++f2++f3/\iV (dz C g st w) v x0 f2/\f2.Nodup/\(∀b∈f2,g.fE b=some o)/\ ∀(w':World)(hw':Nat->Nat)(cj:AS)(x1:AC)(tK:fM),cj.ep=st.ep+1->cj.iss=st.iss->(∀s,ku st s->ku cj s)-> (∀c',(dz C g st w).Le c'->c'.w=w'->c'.hw=hw'->iV c' v x1 tK)->tK.Nodup->(∀b∈tK,b<w'.heap.size/\(b∈f2\/eQ (g.fE b)))-> Fr (λb=>eQ (g.fE b)\/b∈f2) w w'->(∀b x,g.fE b=some x->¬eQ (some x)->b∉f2->hw' b=g.hw b)-> (dz C g st w).Le (dz C (g.wrote o (f1++tK++f3) hw') cj w')/\ bV (dz C (g.wrote o (f1++tK++f3) hw') cj w') vs (cs.set j x1) (f1++tK++f3)/\(f1++tK++f3).Nodup/\ (∀b∈f1++tK++f3,(g.wrote o (f1++tK++f3) hw').fE b=some o)/\ (∀b x,¬eQ (some x)->x≠o->g.fE b=some x->(g.wrote o (f1++tK++f3) hw').fE b=some x/\w'.heap[b]?=w.heap[b]?/\hw' b=g.hw b)/\ (∀b,g.fE b=some o->b∉fp->(g.wrote o (f1++tK++f3) hw').fE b=some o/\w'.heap[b]?=w.heap[b]?/\hw' b=g.hw b)/\ Fr C.M C.w0 w'/\(∀b x,(g.wrote o (f1++tK++f3) hw').fE b=some x->b<w'.heap.size/\(C.w0.heap.size<=b\/C.M b)):=by
 obtain⟨v,f1,f2,f3,hv,rfl,SK,GU⟩:=fZ.apd hx;have En:=hn;rw[aR]at En;have n1:=aS.1 En;have n2:=aS.1 n1.2.1;have Ge:∀b∈f1++f3,b∉f2:=by intro b hb h2;rcases aA.1 hb with hb|hb;exact n1.2.2 b hb b (bH _ h2) rfl;exact n2.2.2 b h2 b hb rfl
 refine⟨v,f1,f2,f3,hv,rfl,SK,n2.1,λb hb=>hl b (by simp[hb]),?_⟩;intro w' hw' cj x1 tK AY OO xy ja J4 CE jZ HY;have hcA:∀k b o u,C.A k b o->w.cell? ⟨b,o,none⟩=some u->w'.cell? ⟨b,o,none⟩=some u:=by
  intro k b o u hA hu;have hb:b<w.heap.size:=World.block_lt_of_cell? w _ hu;have NL:¬(eQ (g.fE b)\/b∈f2):=by
   rintro(hh|hm);cases hx:g.fE b with|none=>rw[hx]at hh;cases hh|some x=>exact h.Re hx k o hA
   exact h.Re (hl b (by simp[hm])) k o hA
  rw[World.cell?_of_block (a:=⟨b,o,none⟩) (jZ.block b hb NL)];exact hu
 have hle:(dz C g st w).Le (dz C (g.wrote o (f1++tK++f3) hw') cj w'):=⟨rfl,λt ht=>⟨by show oA cj t;have ht':oA st t:=ht;simpa[oA,OO]using ht',rfl⟩,hcA,by show st.ep<=cj.ep;omega,λs hs=>⟨xy s hs,rfl⟩,λhe=>absurd he (by show cj.ep≠st.ep;omega)⟩
 have vj:∀b x,¬eQ (some x)->g.fE b=some x->b∉f2->w'.heap[b]?=w.heap[b]?/\hw' b=g.hw b:=by intro b x hh hb hm;exact⟨jZ.block b (h.im b _ hb).1 (by rintro(k|k);rw[hb]at k;exact hh k;exact hm k),HY b _ hb hh hm⟩
 have hd1:∀b∈f1++f3,b∉tK:=by intro b hb hm;rcases(CE b hm).2 with h2|h2;exact Ge b hb h2;have Uj:g.fE b=some o:=hl b (by rcases aA.1 hb with hb|hb<;>simp[hb]);rw[Uj]at h2;exact SJ h2
 refine⟨hle,?_,?_,?_,?_,?_,?_,?_⟩;refine GU _ hle _ tK (ja _ hle rfl rfl) (λb hb=>?_);exact vj b o SJ (hl b (by rcases aA.1 hb with hb|hb<;>simp[hb])) (Ge b hb);rw[aR];refine aS.2 ⟨n1.1,aS.2 ⟨J4,n2.2.1,?_⟩,?_⟩;rintro b hb c hc rfl;exact hd1 b (by simp[hc]) hb;rintro b hb c hc rfl;rcases aA.1 hc with hc|hc;exact hd1 b (by simp[hb]) hc;exact n1.2.2 b hb b (bz _ hc) rfl;intro b hb;show(if b∈f1++tK++f3 then _ else _)=_;rw[aH hb];intro b x hh hxo hb;have hm2:b∉f2:=λhm=>hxo (by have:=hl b (by simp[hm]);rw[hb]at this;simpa using this);refine⟨?_,vj b x hh hb hm2⟩;show(if b∈f1++tK++f3 then _ else if eQ (g.fE b) then none else g.fE b)=_;have ac3:b∉f1++tK++f3:=by intro hm;simp only[aA]at hm;rcases hm with(hm|hm)|hm;exact hxo (by have:=hl b (by simp[hm]);rw[hb]at this;simpa using this);rcases(CE b hm).2 with h2|h2;exact hm2 h2;rw[hb]at h2;exact hh h2;exact hxo (by have:=hl b (by simp[hm]);rw[hb]at this;simpa using this)
 rw[aG ac3,aG (by rw[hb];exact hh),hb];intro b hb hm;have hm2:b∉f2:=λk=>hm (by simp[k]);refine⟨?_,vj b o SJ hb hm2⟩;show(if b∈f1++tK++f3 then _ else if eQ (g.fE b) then none else g.fE b)=_;rw[aG (c:=eQ (g.fE b)) (by rw[hb];exact SJ),hb];split<;>rfl;refine h.frame.trans jZ (λb hb hh=>?_);rcases hh with hh|hm;cases hx:g.fE b with|none=>rw[hx]at hh;cases hh|some x=>rcases(h.im b x hx).2 with h2|h2;omega;exact h2
 rcases(h.im b o (hl b (by simp[hm]))).2 with h2|h2;omega;exact h2;intro b x hx;have Dd:(if b∈f1++tK++f3 then some o else if eQ (g.fE b) then none else g.fE b)=some x:=hx;have hz:=jZ.size;have Xh:∀y,g.fE b=some y->b<w'.heap.size/\(C.w0.heap.size<=b\/C.M b):=λy hy=>⟨Nat.lt_of_lt_of_le (h.im b y hy).1 hz,(h.im b y hy).2⟩
 split at Dd;rename_i hm;simp only[aA]at hm;rcases hm with(hm|hm)|hm;exact Xh o (hl b (by simp[hm]));rcases(CE b hm).2 with h2|h2;exact Xh o (hl b (by simp[h2]));cases hy:g.fE b with|none=>rw[hy]at h2;cases h2|some y=>exact Xh y hy
 exact Xh o (hl b (by simp[hm]));split at Dd;cases Dd;exact Xh x Dd
theorem fb.alW (h:fb C g st a w hs)(s j:Nat)(Eo:x0≠ .bot)(jh:st.ga (.slot s j)=some x0): ∃v f2,iV (dz C g st w) v x0 f2/\f2.Nodup/\(∀b∈f2,g.fE b=some (.slot s))/\ ∀(w':World)(hw':Nat->Nat)(x1:AC)(tK:fM),(∀c',(dz C g st w).Le c'->c'.w=w'->c'.hw=hw'->iV c' v x1 tK)->tK.Nodup->(∀b∈tK,b<w'.heap.size/\(b∈f2\/eQ (g.fE b)))-> Fr (λb=>eQ (g.fE b)\/b∈f2) w w'->(∀b x,g.fE b=some x->¬eQ (some x)->b∉f2->hw' b=g.hw b)-> ∃g',fb C g' {st.gq (.slot s j) x1 with ep:=st.ep+1} a w' []:=by
 have Bt:s<st.slots.length:=by
  rcases cg s st.slots.length with hG|CF;exact hG;have:st.get s=.bot:=by simp[AS.get,eU,bI CF]
  rw[AS.ga,this]at jh;cases j with|zero=>simp[nth]at jh;exact absurd jh.symm Eo|succ j=>simp[nth]at jh
 have hsl:st.slots[s]?=some (st.get s):=by rw[get_eq (al Bt)];exact al Bt
 obtain⟨fp,hr,hn,hl⟩:=h.slots s _ hsl;cases hg:st.get s with
 |yE ts=>rw[AS.ga,hg]at jh;cases jh
 |val gg cs=>
  have hgx:cs[j]?=some x0:=by rw[AS.ga,hg]at jh;simpa[eU]using jh
  rw[hg]at hr;obtain⟨vs,gD,hr⟩:=hr;obtain⟨v,f1,f2,f3,hv,rfl,ja,EA,Cg,sM⟩:=h.M7 (.slot s) (by simp[lS]) hr hn hl hgx;refine⟨v,f2,ja,EA,Cg,?_⟩;intro w' hw' x1 tK KE J4 CE jZ HY;let cj:AS:={st.gq (.slot s j) x1 with ep:=st.ep+1}
  have yH:cj={st with slots:=st.slots.set s (.val gg (cs.set j x1)),ep:=st.ep+1}:=by show({st.gq (.slot s j) x1 with ep:=st.ep+1}:AS)=_;simp only[AS.gq,hg,AS.put,gH]
  obtain⟨hle,fZ,QK,hll,hk1,hk2,WL,Zj⟩:=sM w' hw' cj x1 tK rfl (by rw[yH]) (λs hs=>by rw[yH];exact hs) KE J4 CE jZ HY;refine⟨_,h.step (λx=>¬eQ (some x)/\x≠ .slot s) hle h.defers ?_ ?_ WL Zj (λb x hk hx=>hk1 b x hk.1 hk.2 hx) ?_ ?_ (λk u bv hk=>by simp at hk) (.inl ⟨⟨by simp[lS],by simp⟩,by show cj.io=st.io;rw[yH]⟩)⟩;show _=cj.slots.length;rw[yH];simpa using h.size;show cj.boxes.length=cj.slots.length;rw[yH];simpa using h.bsize;intro i av hi;have xk:(st.slots.set s (.val gg (cs.set j x1)))[i]?=some av:=by have:cj.slots[i]?=some av:=hi;rw[yH]at this;exact this
  by_cases his:i=s;subst his;rw[bJ]at xk;simp only[cw,Bt]at xk;simp at xk;subst xk;exact .inr ⟨_,⟨vs,gD,fZ⟩,QK,hll⟩;rw[aE (cl his)]at xk;exact .inl ⟨⟨by simp[lS],by simpa using his⟩,xk,rfl⟩;intro t sU hb;have iy:st.boxes[t]?=some (some sU):=by have:cj.boxes[t]?=some (some sU):=hb;rw[yH]at this;exact this
  exact .inl ⟨⟨by simp[lS],by simp⟩,iy,rfl⟩
theorem fb.aob (h:fb C g st a w hs)(s j:Nat)(jh:st.ga (.box s j)=some x0): ∃v f2,iV (dz C g st w) v x0 f2/\f2.Nodup/\(∀b∈f2,g.fE b=some (.box s))/\ ∀(w':World)(hw':Nat->Nat)(x1:AC)(tK:fM),(∀c',(dz C g st w).Le c'->c'.w=w'->c'.hw=hw'->iV c' v x1 tK)->tK.Nodup->(∀b∈tK,b<w'.heap.size/\(b∈f2\/eQ (g.fE b)))-> Fr (λb=>eQ (g.fE b)\/b∈f2) w w'->(∀b x,g.fE b=some x->¬eQ (some x)->b∉f2->hw' b=g.hw b)-> ∃g',fb C g' {st.gq (.box s j) x1 with ep:=st.ep+1} a w' []:=by
 have lj:∃cs,st.boxes[s]?=some (some cs)/\cs[j]?=some x0:=by rw[AS.ga,eU]at jh;cases hb:st.boxes[s]? with|none=>simp[hb]at jh|some o=>cases o with|none=>simp[hb]at jh|some cs=>exact⟨cs,rfl,by simpa[hb,eU]using jh⟩
 obtain⟨cs,lj,hgx⟩:=lj;have Bt:s<st.boxes.length:=(ay.1 lj).1;obtain⟨arr,T,fr,fp,lQ,uR,hr,hn,yJ,hl,J2,J5⟩:=h.boxes s cs lj;obtain⟨v,f1,f2,f3,hv,rfl,ja,EA,Cg,sM⟩:=h.M7 (.box s) (by simp[lS]) hr hn hl hgx;refine⟨v,f2,ja,EA,Cg,?_⟩;intro w' hw' x1 tK KE J4 CE jZ HY;let cj:AS:={st.gq (.box s j) x1 with ep:=st.ep+1}
 have yH:cj={st with boxes:=st.boxes.set s (some (cs.set j x1)),ep:=st.ep+1}:=by show({st.gq (.box s j) x1 with ep:=st.ep+1}:AS)=_;simp only[AS.gq,eU,lj,gO,AS.fO,gH]
 obtain⟨hle,fZ,QK,hll,hk1,hk2,WL,Zj⟩:=sM w' hw' cj x1 tK rfl (by rw[yH]) (λt ht=>by rw[yH];obtain⟨c0,hc0⟩:=ht;by_cases vS:s=t;subst vS;exact⟨cs.set j x1,by simp[Bt]⟩;exact⟨c0,by rw[aE vS];exact hc0⟩) KE J4 CE jZ HY;have Mo:=hk2 (g.β s) J2 yJ;refine⟨_,h.step (λx=>¬eQ (some x)/\x≠ .box s) hle h.defers ?_ ?_ WL Zj (λb x hk hx=>hk1 b x hk.1 hk.2 hx) ?_ ?_ (λk u bv hk=>by simp at hk) (.inl ⟨⟨by simp[lS],by simp⟩,by show cj.io=st.io;rw[yH]⟩)⟩;show _=cj.slots.length;rw[yH];exact h.size;show cj.boxes.length=cj.slots.length;rw[yH];simpa using h.bsize;intro i av hi;have xk:st.slots[i]?=some av:=by have:cj.slots[i]?=some av:=hi;rw[yH]at this;exact this
 exact .inl ⟨⟨by simp[lS],by simp⟩,xk,rfl⟩;intro t sU hb;have iy:(st.boxes.set s (some (cs.set j x1)))[t]?=some (some sU):=by have:cj.boxes[t]?=some (some sU):=hb;rw[yH]at this;exact this
 by_cases vS:t=s;subst vS;rw[bJ]at iy;simp only[cw,Bt]at iy;simp at iy;subst iy;have KC:g.β t∉f1++tK++f3:=by intro hm;simp only[aA]at hm;rcases hm with(hm|hm)|hm;exact yJ (by simp[hm]);rcases(CE _ hm).2 with h2|h2;exact yJ (by simp[h2]);rw[J2]at h2;cases h2;exact yJ (by simp[hm])
 exact .inr ⟨arr,T,fr,_,Mo.2.1.trans lQ,uR,fZ,QK,KC,hll,Mo.1,Mo.2.2.trans J5⟩;rw[aE (cl vS)]at iy;exact .inl ⟨⟨by simp[lS],by simpa using vS⟩,iy,rfl⟩
theorem fb.arl (h:fb C g st a w hs)(j:Nat)(jh:st.ga (.io j)=some x0): ∃v f2,iV (dz C g st w) v x0 f2/\f2.Nodup/\(∀b∈f2,g.fE b=some .io)/\ ∀(w':World)(hw':Nat->Nat)(x1:AC)(tK:fM),(∀c',(dz C g st w).Le c'->c'.w=w'->c'.hw=hw'->iV c' v x1 tK)->tK.Nodup->(∀b∈tK,b<w'.heap.size/\(b∈f2\/eQ (g.fE b)))-> Fr (λb=>eQ (g.fE b)\/b∈f2) w w'->(∀b x,g.fE b=some x->¬eQ (some x)->b∉f2->hw' b=g.hw b)-> ∃g',fb C g' {st.gq (.io j) x1 with ep:=st.ep+1} a w' []:=by
 have hgx:st.io[j]?=some x0:=by rw[AS.ga,eU]at jh;exact jh
 obtain⟨fp,hr,hn,hl⟩:=h.io;obtain⟨v,f1,f2,f3,hv,rfl,ja,EA,Cg,sM⟩:=h.M7 .io (by simp[lS]) hr hn hl hgx;refine⟨v,f2,ja,EA,Cg,?_⟩;intro w' hw' x1 tK KE J4 CE jZ HY;let cj:AS:={st.gq (.io j) x1 with ep:=st.ep+1}
 have yH:cj={st with io:=st.io.set j x1,ep:=st.ep+1}:=by show({st.gq (.io j) x1 with ep:=st.ep+1}:AS)=_;simp only[AS.gq,gH]
 obtain⟨hle,fZ,QK,hll,hk1,hk2,WL,Zj⟩:=sM w' hw' cj x1 tK rfl (by rw[yH]) (λs hs=>by rw[yH];exact hs) KE J4 CE jZ HY
 refine⟨_,h.step (λx=>¬eQ (some x)/\x≠ .io) hle h.defers ?_ ?_ WL Zj (λb x hk hx=>hk1 b x hk.1 hk.2 hx) ?_ ?_ (λk u bv hk=>by simp at hk) (.inr ⟨_,by
  have:cj.io=st.io.set j x1:=by rw[yH]
  show bV _ _ cj.io _;rw[this];exact fZ,QK,hll⟩)⟩
 show _=cj.slots.length;rw[yH];exact h.size;show cj.boxes.length=cj.slots.length;rw[yH];exact h.bsize;intro i av hi;have xk:st.slots[i]?=some av:=by have:cj.slots[i]?=some av:=hi;rw[yH]at this;exact this
 exact .inl ⟨⟨by simp[lS],by simp⟩,xk,rfl⟩;intro t sU hb;have iy:st.boxes[t]?=some (some sU):=by have:cj.boxes[t]?=some (some sU):=hb;rw[yH]at this;exact this
 exact .inl ⟨⟨by simp[lS],by simp⟩,iy,rfl⟩
theorem fb.Xw (h:fb C g st a w hs)(r:mi)(Eo:x0≠ .bot)(jh:st.ga r=some x0): ∃v f2,iV (dz C g st w) v x0 f2/\f2.Nodup/\(∀b∈f2,g.fE b=some r.owner)/\ ∀(w':World)(hw':Nat->Nat)(x1:AC)(tK:fM),(∀c',(dz C g st w).Le c'->c'.w=w'->c'.hw=hw'->iV c' v x1 tK)->tK.Nodup->(∀b∈tK,b<w'.heap.size/\(b∈f2\/eQ (g.fE b)))-> Fr (λb=>eQ (g.fE b)\/b∈f2) w w'->(∀b x,g.fE b=some x->¬eQ (some x)->b∉f2->hw' b=g.hw b)-> ∃g',fb C g' {st.gq r x1 with ep:=st.ep+1} a w' []:=by cases r with|slot s j=>exact h.alW s j Eo jh|box s j=>exact h.aob s j jh|io j=>exact h.arl j jh
theorem fb.Xx (h:fb C g st a w hs)(r:mi){tag:aB Nat}{e:CT}{xs:aw e.D}(jh:st.ga r=some (.sl (.own tag) e xs)): ∃v f2,(∀t,tag=some t->v=g.hdr t)/\gA g.hw w (.sl e) [v] xs f2/\f2.Nodup/\(∀b∈f2,g.fE b=some r.owner)/\ ∀(w':World)(hw':Nat->Nat)(SM:aw e.D)(tK:fM),gA hw' w' (.sl e) [v] SM tK->tK.Nodup->(∀b∈tK,b<w'.heap.size/\(b∈f2\/eQ (g.fE b)))-> Fr (λb=>eQ (g.fE b)\/b∈f2) w w'->(∀b x,g.fE b=some x->¬eQ (some x)->b∉f2->hw' b=g.hw b)-> ∃g',fb C g' {st.gq r (.sl (.own tag) e SM)with ep:=st.ep+1} a w' []:=by obtain⟨v,f2,fZ,EA,Cg,sM⟩:=h.Xw r (by simp) jh;refine⟨v,f2,λt ht=>(fZ.2 t ht).2,fZ.1,EA,Cg,λw' hw' SM tK ja J4 CE jZ HY=>sM w' hw' (.sl (.own tag) e SM) tK (λc' hle XV It=>⟨?_,λt ht=>?_⟩) J4 CE jZ HY⟩;rw[XV,It];exact ja;have h1:=fZ.2 t ht;exact⟨(hle.hdr t h1.1).1,by rw[(hle.hdr t h1.1).2];exact h1.2⟩
theorem fb.alX (h:fb C g st a w [])(r:mi)(Eo:x0≠ .bot)(jh:st.ga r=some x0): ∃v f2,iV (dz C g st w) v x0 f2/\f2.Nodup/\(∀b∈f2,g.fE b=some r.owner)/\ ∀(x1:AC)(tK fh:fM)(u:Value)(av:AV),(∀c',(dz C g st w).Le c'->c'.w=w->c'.hw=g.hw->c'.ep=st.ep->iV c' v x1 tK)->tK.Nodup->fh.Nodup->(∀b∈tK,b∈f2/\b∉fh)->(∀b∈fh,b∈f2)-> il (dz C g st w) u av fh->∃g',fb C g' (st.gq r x1) a w [(u,av)]:=by
 have core:∀(o:lz){vs:jJ}{cs:aw AC}{fp:fM}{j:Nat},bV (dz C g st w) vs cs fp->fp.Nodup->(∀b∈fp,g.fE b=some o)->cs[j]?=some x0->
  ∃v f2,iV (dz C g st w) v x0 f2/\f2.Nodup/\(∀b∈f2,g.fE b=some o/\b∈fp)/\
   ∀(cj:AS)(x1:AC)(tK fh:fM)(u:Value)(av:AV),cj.ep=st.ep->cj.iss=st.iss->(∀s,ku st s->ku cj s)->(∀c',(dz C g st w).Le c'->c'.w=w->c'.hw=g.hw->c'.ep=st.ep->iV c' v x1 tK)->tK.Nodup->fh.Nodup->(∀b∈tK,b∈f2/\b∉fh)->(∀b∈fh,b∈f2)->il (dz C g st w) u av fh->
    (dz C g st w).Le (dz C {g with fE:=λb=>if b∈fh then some (.hand 0) else g.fE b} cj w)/\
    ∃lO,bV (dz C {g with fE:=λb=>if b∈fh then some (.hand 0) else g.fE b} cj w) vs (cs.set j x1) lO/\lO.Nodup/\(∀b∈lO,b∉fh/\b∈fp)/\
    L2 C {g with fE:=λb=>if b∈fh then some (.hand 0) else g.fE b} cj w 0 u av:=by
  intro o vs cs fp j fZ hn hl hx
  obtain⟨v,f1,f2,f3,hv,rfl,SK,GU⟩:=fZ.apd hx
  have En:=hn
  rw[aR]at En
  have n1:=aS.1 En
  have n2:=aS.1 n1.2.1
  refine⟨v,f2,SK,n2.1,λb hb=>⟨hl b (by simp[hb]),by simp[hb]⟩,?_⟩
  intro cj x1 tK fh u av AY OO xy hx1 J4 SJ CE S0 hu
  have hle:(dz C g st w).Le (dz C {g with fE:=λb=>if b∈fh then some (.hand 0) else g.fE b} cj w):=
   ⟨rfl,λt ht=>⟨by show oA cj t;have ht':oA st t:=ht;simpa[oA,OO]using ht',rfl⟩,λ_ _ _ _ _ hu=>hu,by show st.ep<=cj.ep;omega,λs hs=>⟨xy s hs,rfl⟩,λ_ b o u ho hu=>⟨ho,hu⟩⟩
  have Ge:∀b∈f1++f3,b∉f2:=by intro b hb h2;rcases aA.1 hb with hb|hb;exact n1.2.2 b hb b (bH _ h2) rfl;exact n2.2.2 b h2 b hb rfl
  refine⟨hle,f1++tK++f3,GU _ hle _ tK (hx1 _ hle rfl rfl AY) (λ_ _=>⟨rfl,rfl⟩),?_,?_,fh,hu.mono hle (λ_ _=>⟨rfl,rfl⟩),SJ,λb hb=>?_⟩
  ·rw[aR]
   refine aS.2 ⟨n1.1,aS.2 ⟨J4,n2.2.1,?_⟩,?_⟩
   ·rintro b hb c hc rfl;exact Ge b (by simp[hc]) (CE b hb).1
   ·rintro b hb c hc rfl
    rcases aA.1 hc with hc|hc
    ·exact Ge b (by simp[hb]) (CE b hc).1
    ·exact n1.2.2 b hb b (bz _ hc) rfl
  ·intro b hb
   simp only[aA]at hb
   rcases hb with(hb|hb)|hb
   ·exact⟨λhm=>Ge b (by simp[hb]) (S0 b hm),by simp[hb]⟩
   ·exact⟨(CE b hb).2,by simp[(CE b hb).1]⟩
   ·exact⟨λhm=>Ge b (by simp[hb]) (S0 b hm),by simp[hb]⟩
  ·show(if b∈fh then _ else _)=_
   rw[aH hb]
 have Rf:∀(fh:fM),∀b x,(if b∈fh then some (lz.hand 0) else g.fE b)=some x->(b∈fh->∃y,g.fE b=some y)->b<w.heap.size/\(C.w0.heap.size<=b\/C.M b):=by intro fh b x hx hy;by_cases hm:b∈fh;obtain⟨y,hy⟩:=hy hm;exact h.im b y hy;rw[aG hm]at hx;exact h.im b x hx
 have adA:∀(fh:fM)(o:lz),(∀b∈fh,g.fE b=some o)->∀b x,x≠o->g.fE b=some x->(if b∈fh then some (lz.hand 0) else g.fE b)=some x:=by intro fh o S0 b x hxo hb;rw[aG (λhm=>hxo (by have:=S0 b hm;rw[hb]at this;simpa using this))];exact hb
 cases r with
 |slot s j=>
  have Bt:s<st.slots.length:=by
   rcases cg s st.slots.length with hG|CF;exact hG;have:st.get s=.bot:=by simp[AS.get,eU,bI CF]
   rw[AS.ga,this]at jh;cases j with|zero=>simp[nth]at jh;exact absurd jh.symm Eo|succ j=>simp[nth]at jh
  have hsl:st.slots[s]?=some (st.get s):=by rw[get_eq (al Bt)];exact al Bt
  obtain⟨fp,hr,hn,hl⟩:=h.slots s _ hsl;cases hg:st.get s with
  |yE ts=>rw[AS.ga,hg]at jh;cases jh
  |val gg cs=>
   have hgx:cs[j]?=some x0:=by rw[AS.ga,hg]at jh;simpa[eU]using jh
   rw[hg]at hr;obtain⟨vs,gD,hr⟩:=hr;have ow:∀x1,st.gq (.slot s j) x1={st with slots:=st.slots.set s (.val gg (cs.set j x1))}:=λx1=>by simp only[AS.gq,hg,AS.put,gH]
   obtain⟨v,f2,Um,EA,Cg,sM⟩:=core (.slot s) hr hn hl hgx;refine⟨v,f2,Um,EA,λb hb=>(Cg b hb).1,?_⟩;intro x1 tK fh u av hx1 J4 SJ CE S0 hu;obtain⟨hle,lO,fZ,QK,D8,GO⟩:=sM (st.gq (.slot s j) x1) x1 tK fh u av (by rw[ow]) (by rw[ow]) (λ_ q=>by rw[ow];exact q) hx1 J4 SJ CE S0 hu;have hfo:∀b∈fh,g.fE b=some (.slot s):=λb hb=>(Cg b (S0 b hb)).1;refine⟨_,h.step (λx=>x≠ .slot s) hle h.defers ?_ ?_ h.frame (λb x hx=>Rf fh b x hx (λhm=>⟨_,hfo b hm⟩)) (λb x hk hb=>⟨adA fh _ hfo b x hk hb,rfl,rfl⟩) ?_ ?_ ?_ (.inl ⟨by simp,by rw[ow]⟩)⟩;rw[ow];simpa using h.size;rw[ow];simpa using h.bsize;intro i bv hi;rw[ow]at hi;have xk:(st.slots.set s (.val gg (cs.set j x1)))[i]?=some bv:=hi;by_cases his:i=s;subst his;rw[bJ]at xk;simp only[cw,Bt]at xk;simp at xk;subst xk;refine .inr ⟨lO,⟨vs,gD,fZ⟩,QK,λb hb=>?_⟩;show(if b∈fh then _ else _)=_;rw[aG (D8 b hb).1];exact hl b (D8 b hb).2;rw[aE (cl his)]at xk;exact .inl ⟨by simpa using his,xk,rfl⟩;intro t sU hb;rw[ow]at hb;exact .inl ⟨by simp,hb,rfl⟩;intro k u' bv hk;cases k with
   |zero=>simp only[cM,bu,Prod.mk.injEq]at hk;obtain⟨rfl,rfl⟩:=hk;exact .inr GO
   |succ k=>simp at hk
 |box s j=>
  have lj:∃cs,st.boxes[s]?=some (some cs)/\cs[j]?=some x0:=by rw[AS.ga,eU]at jh;cases hb:st.boxes[s]? with|none=>simp[hb]at jh|some o=>cases o with|none=>simp[hb]at jh|some cs=>exact⟨cs,rfl,by simpa[hb,eU]using jh⟩
  obtain⟨cs,lj,hgx⟩:=lj;have Bt:s<st.boxes.length:=(ay.1 lj).1;obtain⟨arr,T,fr,fp,lQ,uR,hr,hn,yJ,hl,J2,J5⟩:=h.boxes s cs lj;have ow:∀x1,st.gq (.box s j) x1={st with boxes:=st.boxes.set s (some (cs.set j x1))}:=λx1=>by simp only[AS.gq,eU,lj,gO,AS.fO,gH]
  obtain⟨v,f2,Um,EA,Cg,sM⟩:=core (.box s) hr hn hl hgx;refine⟨v,f2,Um,EA,λb hb=>(Cg b hb).1,?_⟩;intro x1 tK fh u av hx1 J4 SJ CE S0 hu;obtain⟨hle,lO,fZ,QK,D8,GO⟩:=sM (st.gq (.box s j) x1) x1 tK fh u av (by rw[ow]) (by rw[ow]) (λt ht=>by rw[ow];obtain⟨c0,hc0⟩:=ht;by_cases vS:s=t;subst vS;exact⟨cs.set j x1,by simp[Bt]⟩;exact⟨c0,by rw[aE vS];exact hc0⟩) hx1 J4 SJ CE S0 hu;have hfo:∀b∈fh,g.fE b=some (.box s):=λb hb=>(Cg b (S0 b hb)).1;refine⟨_,h.step (λx=>x≠ .box s) hle h.defers ?_ ?_ h.frame (λb x hx=>Rf fh b x hx (λhm=>⟨_,hfo b hm⟩)) (λb x hk hb=>⟨adA fh _ hfo b x hk hb,rfl,rfl⟩) ?_ ?_ ?_ (.inl ⟨by simp,by rw[ow]⟩)⟩;rw[ow];exact h.size;rw[ow];simpa using h.bsize;intro i bv hi;rw[ow]at hi;exact .inl ⟨by simp,hi,rfl⟩;intro t sU hb;rw[ow]at hb;have iy:(st.boxes.set s (some (cs.set j x1)))[t]?=some (some sU):=hb;by_cases vS:t=s;subst vS;rw[bJ]at iy;simp only[cw,Bt]at iy;simp at iy;subst iy;have Mo:g.β t∉fh:=λhm=>yJ (Cg _ (S0 _ hm)).2;refine .inr ⟨arr,T,fr,lO,lQ,uR,fZ,QK,λhm=>yJ (D8 _ hm).2,λb hb=>?_,?_,J5⟩;show(if b∈fh then _ else _)=_;rw[aG (D8 b hb).1];exact hl b (D8 b hb).2;show(if g.β t∈fh then _ else _)=_;rw[aG Mo];exact J2;rw[aE (cl vS)]at iy;exact .inl ⟨by simpa using vS,iy,rfl⟩;intro k u' bv hk;cases k with
  |zero=>simp only[cM,bu,Prod.mk.injEq]at hk;obtain⟨rfl,rfl⟩:=hk;exact .inr GO
  |succ k=>simp at hk
 |io j=>
  have hgx:st.io[j]?=some x0:=by rw[AS.ga,eU]at jh;exact jh
  obtain⟨fp,hr,hn,hl⟩:=h.io;have ow:∀x1,st.gq (.io j) x1={st with io:=st.io.set j x1}:=λx1=>by simp only[AS.gq,gH]
  obtain⟨v,f2,Um,EA,Cg,sM⟩:=core .io hr hn hl hgx;refine⟨v,f2,Um,EA,λb hb=>(Cg b hb).1,?_⟩;intro x1 tK fh u av hx1 J4 SJ CE S0 hu;obtain⟨hle,lO,fZ,QK,D8,GO⟩:=sM (st.gq (.io j) x1) x1 tK fh u av (by rw[ow]) (by rw[ow]) (λ_ q=>by rw[ow];exact q) hx1 J4 SJ CE S0 hu;have hfo:∀b∈fh,g.fE b=some .io:=λb hb=>(Cg b (S0 b hb)).1;refine⟨_,h.step (λx=>x≠ .io) hle h.defers ?_ ?_ h.frame (λb x hx=>Rf fh b x hx (λhm=>⟨_,hfo b hm⟩)) (λb x hk hb=>⟨adA fh _ hfo b x hk hb,rfl,rfl⟩) ?_ ?_ ?_ (.inr ⟨lO,?_,QK,λb hb=>?_⟩)⟩;rw[ow];exact h.size;rw[ow];exact h.bsize;intro i bv hi;rw[ow]at hi;exact .inl ⟨by simp,hi,rfl⟩;intro t sU hb;rw[ow]at hb;exact .inl ⟨by simp,hb,rfl⟩;intro k u' bv hk;cases k with
  |zero=>simp only[cM,bu,Prod.mk.injEq]at hk;obtain⟨rfl,rfl⟩:=hk;exact .inr GO
  |succ k=>simp at hk
  have:(st.gq (.io j) x1).io=st.io.set j x1:=by rw[ow]
  rw[this];exact fZ;show(if b∈fh then _ else _)=_;rw[aG (D8 b hb).1];exact hl b (D8 b hb).2
theorem fb.acV (h:fb C g st a w hs){v:Value}{x:AC}(r:iV (dz C g st w) v x []):iV (dz C g st w) v (st.fresh x) []:=by
 unfold AS.fresh;split;rename_i ep rt t e xs;cases AY:(ep==st.ep)with
 |true=>exact r
 |false=>
  simp only[af];split;rename_i t' e' ys jh;split;rename_i he;subst he;cases ht:(t'==t)with
  |false=>exact r
  |true=>
   have:t'=t:=by simpa using ht
   subst this;simp only[ah];obtain⟨v0,f2,hh,ja,_,_,_⟩:=h.Xx rt jh;obtain⟨h1,h2,h3,h4,h5⟩:=r;obtain⟨k1,k2⟩:=h5 rt t' rfl;have hv:v0=v:=(hh t' rfl).trans k2.symm;subst hv;exact⟨h1,bc _,Rx ja,λ_=>gA.rep (λb o ho=> .inr ho) ja,λr1 t1 hp=>by simp at hp;obtain⟨_,rfl⟩:=hp;exact⟨k1,k2⟩⟩
  exact r;exact r
 exact r
theorem fb.NA (h:fb C g st a w hs):∀{vs:jJ}{xs:aw AC},bV (dz C g st w) vs xs []->bV (dz C g st w) vs (xs.map st.fresh) []
 |[],[],r=>r
 |_::_,_::_,r=>by
  obtain⟨f1,f2,he,r1,r2⟩:=r;have h1:f1=[]:=by have:=he.symm;simp at this;exact this.1
  have h2:f2=[]:=by have:=he.symm;simp at this;exact this.2
  subst h1;subst h2;exact⟨[],[],rfl,h.acV r1,h.NA r2⟩
 |[],_::_,r=>r.elim
 |_::_,[],r=>r.elim
theorem fb.fresh (h:fb C g st a w hs){v:Value}{x:AV}(r:il (dz C g st w) v x []):il (dz C g st w) v (x.fresh st) []:=by
 cases x with
 |val gg cs=>obtain⟨vs,hv,r⟩:=r;exact⟨vs,hv,h.NA r⟩
 |yE ts=>exact r
end Go.Dn
