import Derived.Test.YtbebkmajekhclaaGreatDnPut
/- A box is made or written; an element of an owned slice is written. -/
namespace Go.Dn
open Go.RowKit
variable {C:Ctx} {g:Gh} {st:AS} {a:Act} {w:World} {hs:aw (Value×AV)}
variable {x0:AC} {fp:fA}
theorem kZ {s:Nat}{b:az (aw AC)}:(st.fD s b).boxes=st.boxes.set s b:=by simp[AS.fD,fV]
theorem UP {s:Nat}{cs:aw AC}{g':Gh}{w':World}(Te:g'.hdr=g.hdr)(hcA:∀k b o u,C.A k b o->w.cell? ⟨b,o,none⟩=some u->w'.cell? ⟨b,o,none⟩=some u)(MU:∀t,jL st t->g'.β t=g.β t)(Lr:∀b o u,o<g.hw b->w.cell? ⟨b,o,none⟩=some u->o<g'.hw b/\w'.cell? ⟨b,o,none⟩=some u): (dq C g st w).Le (dq C g' (st.fD s (some cs)) w'):=by refine⟨rfl,λt ht=>⟨ht,by show g'.hdr t=g.hdr t;rw[Te]⟩,hcA,bt _,λt ht=>⟨?_,MU t ht⟩,λ_ b o u ho hu=>Lr b o u ho hu⟩;obtain⟨sB,hc⟩:=ht;show∃axT,(st.fD s (some cs)).boxes[t]?=some (some axT);rw[kZ];by_cases vK:s=t;subst vK;have gr:s<st.boxes.length:=(aC.1 hc).1;exact⟨cs,by simp[gr]⟩;exact⟨sB,by rw[aR vK];exact hc⟩
theorem eE.abT (h:eE C g st a w hs)(s:Nat){cs:aw AC}{arr:Array Value}{T:TypeId}{fr:Nat×Nat}{w':World}{bnew:Nat}{hw':Nat->Nat}(hbn:(bnew=g.β s/\g.fj bnew=some (.box s))\/(w.heap.size<=bnew/\st.boxes[s]?=some none))(jt:Fr (λb=>ej (g.fj b)\/b=bnew) w w')(lf:w'.heap[bnew]?=some (.cells arr T fr))(uO:rm arr fr)(gr:bnew<w'.heap.size)(ayj:hw' bnew=0)(II:∀b x,g.fj b=some x->¬ej (some x)->b≠bnew->hw' b=g.hw b)(Lr:∀b o u,o<g.hw b->w.cell? ⟨b,o,none⟩=some u->o<hw' b/\w'.cell? ⟨b,o,none⟩=some u)(hr:ca ⟨hw',λt=>if t=s then bnew else g.β t,C.A,g.hdr,nH st,st.ep,jL st,w'⟩ arr.toList cs fp)(hn:fp.Nodup)(yL:bnew∉fp)(GR:∀b∈fp,b<w'.heap.size/\(ej (g.fj b)\/g.fj b=some (.box s)\/w.heap.size<=b)): ∃g',g'.β s=bnew/\eE C g' (st.fD s (some cs)) a w' []:=by
 have hcA:∀k b o u,C.A k b o->w.cell? ⟨b,o,none⟩=some u->w'.cell? ⟨b,o,none⟩=some u:=by
  intro k b o u hA hu;have hb:b<w.heap.size:=World.block_lt_of_cell? w _ hu;have N3:¬(ej (g.fj b)\/b=bnew):=by
   rintro(hh|rfl);cases hx:g.fj b with|none=>rw[hx]at hh;cases hh|some x=>exact h.Rq hx k o hA
   rcases hbn with⟨_,h2⟩|h2;exact h.Rq h2 k o hA;omega
  rw[World.cell?_of_block (a:=⟨b,o,none⟩) (jt.block b hb N3)];exact hu
 have Fe:∀b x,g.fj b=some x->x≠ .box s->b≠bnew:=by rintro b x hx hxs rfl;rcases hbn with⟨_,h2⟩|h2;rw[hx]at h2;exact hxs (by simpa using h2);have:=(h.gN b x hx).1;omega
 have hkp:∀b x,g.fj b=some x->¬ej (some x)->x≠ .box s->w'.heap[b]?=w.heap[b]?:=λb x hx hh hxs=>
  jt.block b (h.gN b x hx).1 (by rintro(k|k);rw[hx]at k;exact hh k;exact Fe b x hx hxs k)
 let β':Nat->Nat:=λt=>if t=s then bnew else g.β t
 let ahv:Nat->az kK:=λb=>if b=bnew\/b∈fp then some (.box s) else if ej (g.fj b) then none else g.fj b
 let g':Gh:=⟨hw',β',ahv,g.hdr⟩
 have WK:Fr C.M C.w0 w':=h.frame.trans jt (λb hb hh=>by
  rcases hh with hh|rfl;cases hx:g.fj b with|none=>rw[hx]at hh;cases hh|some x=>rcases(h.gN b x hx).2 with h2|h2;omega;exact h2
  rcases hbn with⟨_,h2⟩|h2;rcases(h.gN b _ h2).2 with h3|h3;omega;exact h3;have:=h.frame.size;omega)
 have MU:∀t,jL st t->β' t=g.β t:=by rintro t ⟨sB,hc⟩;show(if t=s then bnew else g.β t)=g.β t;by_cases vK:t=s;subst vK;rcases hbn with⟨h2,_⟩|⟨_,h2⟩;simp[h2];rw[h2]at hc;cases hc;simp[vK]
 have hle:(dq C g st w).Le (dq C g' (st.fD s (some cs)) w'):=UP rfl hcA MU Lr;have aqm:(RC.mk hw' β' C.A g.hdr (nH st) st.ep (jL st) w').Le (dq C g' (st.fD s (some cs)) w'):=⟨rfl,λ_ ht=>⟨ht,rfl⟩,λ_ _ _ _ _ hu=>hu,bt _,λt ht=>⟨(hle.LS t ht).1,rfl⟩,λ_ b o u ho hu=>⟨ho,hu⟩⟩
 refine⟨g',by show(if s=s then bnew else g.β s)=bnew;simp,h.step (λx=>¬ej (some x)/\x≠ .box s) hle h.defers h.size ?_ WK ?_ ?_ ?_ ?_ ?_ (.inl ⟨⟨by simp[lg],by simp⟩,rfl⟩)⟩;show(st.fD s (some cs)).boxes.length=st.slots.length;rw[kZ,ay];exact h.bsize;intro b x hx;have D6:(if b=bnew\/b∈fp then some (kK.box s) else if ej (g.fj b) then none else g.fj b)=some x:=hx;by_cases hm:b=bnew\/b∈fp;rcases hm with rfl|hm;refine⟨gr,?_⟩;rcases hbn with⟨_,h2⟩|h2;exact(h.gN b _ h2).2;exact .inl (bp h.frame.size h2.1);refine⟨(GR b hm).1,?_⟩;rcases(GR b hm).2 with h2|h2|h2;cases hy:g.fj b with|none=>rw[hy]at h2;cases h2|some y=>exact(h.gN b y hy).2
 exact(h.gN b _ h2).2;exact .inl (bp h.frame.size h2);rw[aK hm]at D6;split at D6;cases D6;have hl:=h.gN b x D6;have hz:=jt.size;exact⟨by omega,hl.2⟩;intro b x hk hx;have hb1:=Fe b x hx hk.2;refine⟨?_,hkp b x hx hk.1 hk.2,II b x hx hk.1 hb1⟩;show(if b=bnew\/b∈fp then some (kK.box s) else if ej (g.fj b) then none else g.fj b)=some x;have adj:¬(b=bnew\/b∈fp):=by rintro(hm|hm);exact hb1 hm;rcases(GR b hm).2 with h2|h2|h2;rw[hx]at h2;exact hk.1 h2;rw[hx]at h2;exact hk.2 (by simpa using h2);have:=(h.gN b x hx).1;omega
 rw[aK adj,aK (by rw[hx];exact hk.1),hx];intro i av hi;exact .inl ⟨⟨by simp[lg],by simp⟩,hi,rfl⟩;intro t sB hb;have iz:(st.boxes.set s (some cs))[t]?=some (some sB):=by rw[<-kZ];exact hb
 by_cases vK:t=s;subst vK;rw[bO]at iz;simp only[cz]at iz;split at iz;simp at iz;subst iz;have anM:β' t=bnew:=by show(if t=t then bnew else g.β t)=bnew;simp
 refine .inr ⟨arr,T,fr,fp,?_,uO,hr.mono aqm (λb _=>⟨rfl,rfl⟩),hn,?_,?_,?_,?_⟩;show w'.heap[β' t]?=_;rw[anM];exact lf;show β' t∉fp;rw[anM];exact yL;intro b hb;show(if b=bnew\/b∈fp then _ else _)=_;rw[aI (.inr hb)];show(if β' t=bnew\/β' t∈fp then _ else _)=_;rw[aI (.inl anM)];show hw' (β' t)=0;rw[anM];exact ayj;cases iz;rw[aR (df vK)]at iz;exact .inl ⟨⟨by simp[lg],by simpa using vK⟩,iz,by show(if t=s then bnew else g.β t)=_;simp[vK]⟩;intro k u bv hk;simp at hk
def lx.owner:lx->kK
 | .slot s _=> .slot s
 | .box s _=> .box s
 | .io _=> .io
theorem ca.apj {c:RC}{vs:jf}{cs:aw AC}(hr:ca c vs cs fp){j:Nat}{x:AC}(hx:cs[j]?=some x): ∃v f1 f2 f3,vs[j]?=some v/\fp=f1++f2++f3/\iy c v x f2/\ ∀(c':RC),c.Le c'->∀x' f2',iy c' v x' f2'->(∀b∈f1++f3,c'.w.heap[b]?=c.w.heap[b]?/\c'.hw b=c.hw b)-> ca c' vs (cs.set j x') (f1++f2'++f3):=by
 have hj:j<cs.length:=(aC.1 hx).1;obtain⟨f1,fr,rfl,r1,r2⟩:=hr.split j;have hlen:=hr.length;have hjv:j<vs.length:=by omega
 have ecs:cs.drop j=x::cs.drop (j+1):=by rw[cv hj];congr 1;rw[ak hj]at hx;simpa using hx
 have evs:vs.drop j=vs[j]::vs.drop (j+1):=cv hjv;rw[ecs,evs]at r2;obtain⟨f2,f3,rfl,r2,r3⟩:=r2;refine⟨vs[j],f1,f2,f3,ak hjv,by simp,r2,λc' hle x' f2' D6 hb=>?_⟩;have e1:vs=vs.take j++(vs[j]::vs.drop (j+1)):=by rw[<-evs,cW]
 have e2:cs.set j x'=cs.take j++(x'::cs.drop (j+1)):=by rw[List.set_eq_take_append_cons_drop,aI hj]
 rw[e1,e2,bj];refine ca.append (r1.mono hle (λb iz=>hb b (bP _ iz))) ⟨f2',f3,rfl,D6,?_⟩;exact r3.mono hle (λb iz=>hb b (bD _ iz))
def Gh.wrote (g:Gh)(o:kK)(fp:fA)(hw':Nat->Nat):Gh:=
 ⟨hw',g.β,λb=>if b∈fp then some o else if ej (g.fj b) then none else g.fj b,g.hdr⟩
theorem eE.Nk (h:eE C g st a w hs)(o:kK)(SR:¬ej (some o)){vs:jf}{cs:aw AC}{j:Nat}(fO:ca (dq C g st w) vs cs fp)(hn:fp.Nodup)(hl:∀b∈fp,g.fj b=some o)(hx:cs[j]?=some x0): ∃v f1 f2 f3,vs[j]?=some v/\fp=f1++f2++f3/\iy (dq C g st w) v x0 f2/\f2.Nodup/\(∀b∈f2,g.fj b=some o)/\ ∀(w':World)(hw':Nat->Nat)(cp:AS)(x1:AC)(tt:fA),cp.ep=st.ep+1->cp.iss=st.iss->(∀s,jL st s->jL cp s)-> (∀c',(dq C g st w).Le c'->c'.w=w'->c'.hw=hw'->iy c' v x1 tt)->tt.Nodup->(∀b∈tt,b<w'.heap.size/\(b∈f2\/ej (g.fj b)))-> Fr (λb=>ej (g.fj b)\/b∈f2) w w'->(∀b x,g.fj b=some x->¬ej (some x)->b∉f2->hw' b=g.hw b)-> (dq C g st w).Le (dq C (g.wrote o (f1++tt++f3) hw') cp w')/\ ca (dq C (g.wrote o (f1++tt++f3) hw') cp w') vs (cs.set j x1) (f1++tt++f3)/\(f1++tt++f3).Nodup/\ (∀b∈f1++tt++f3,(g.wrote o (f1++tt++f3) hw').fj b=some o)/\ (∀b x,¬ej (some x)->x≠o->g.fj b=some x->(g.wrote o (f1++tt++f3) hw').fj b=some x/\w'.heap[b]?=w.heap[b]?/\hw' b=g.hw b)/\ (∀b,g.fj b=some o->b∉fp->(g.wrote o (f1++tt++f3) hw').fj b=some o/\w'.heap[b]?=w.heap[b]?/\hw' b=g.hw b)/\ Fr C.M C.w0 w'/\(∀b x,(g.wrote o (f1++tt++f3) hw').fj b=some x->b<w'.heap.size/\(C.w0.heap.size<=b\/C.M b)):=by
 obtain⟨v,f1,f2,f3,hv,rfl,Th,Jf⟩:=fO.apj hx;have Fb:=hn;rw[bj]at Fb;have n1:=aQ.1 Fb;have n2:=aQ.1 n1.2.1;have G9:∀b∈f1++f3,b∉f2:=by intro b hb h2;rcases aA.1 hb with hb|hb;exact n1.2.2 b hb b (bP _ h2) rfl;exact n2.2.2 b h2 b hb rfl
 refine⟨v,f1,f2,f3,hv,rfl,Th,n2.1,λb hb=>hl b (by simp[hb]),?_⟩;intro w' hw' cp x1 tt Bs O5 xo iG KQ CW jt II;have hcA:∀k b o u,C.A k b o->w.cell? ⟨b,o,none⟩=some u->w'.cell? ⟨b,o,none⟩=some u:=by
  intro k b o u hA hu;have hb:b<w.heap.size:=World.block_lt_of_cell? w _ hu;have N3:¬(ej (g.fj b)\/b∈f2):=by
   rintro(hh|hm);cases hx:g.fj b with|none=>rw[hx]at hh;cases hh|some x=>exact h.Rq hx k o hA
   exact h.Rq (hl b (by simp[hm])) k o hA
  rw[World.cell?_of_block (a:=⟨b,o,none⟩) (jt.block b hb N3)];exact hu
 have hle:(dq C g st w).Le (dq C (g.wrote o (f1++tt++f3) hw') cp w'):=⟨rfl,λt ht=>⟨by show nH cp t;have ht':nH st t:=ht;simpa[nH,O5]using ht',rfl⟩,hcA,by show st.ep<=cp.ep;omega,λs hs=>⟨xo s hs,rfl⟩,λhe=>absurd he (by show cp.ep≠st.ep;omega)⟩
 have vc:∀b x,¬ej (some x)->g.fj b=some x->b∉f2->w'.heap[b]?=w.heap[b]?/\hw' b=g.hw b:=by intro b x hh hb hm;exact⟨jt.block b (h.gN b _ hb).1 (by rintro(k|k);rw[hb]at k;exact hh k;exact hm k),II b _ hb hh hm⟩
 have hd1:∀b∈f1++f3,b∉tt:=by intro b hb hm;rcases(CW b hm).2 with h2|h2;exact G9 b hb h2;have Uz:g.fj b=some o:=hl b (by rcases aA.1 hb with hb|hb<;>simp[hb]);rw[Uz]at h2;exact SR h2
 refine⟨hle,?_,?_,?_,?_,?_,?_,?_⟩;refine Jf _ hle _ tt (iG _ hle rfl rfl) (λb hb=>?_);exact vc b o SR (hl b (by rcases aA.1 hb with hb|hb<;>simp[hb])) (G9 b hb);rw[bj];refine aQ.2 ⟨n1.1,aQ.2 ⟨KQ,n2.2.1,?_⟩,?_⟩;rintro b hb c hc rfl;exact hd1 b (by simp[hc]) hb;rintro b hb c hc rfl;rcases aA.1 hc with hc|hc;exact hd1 b (by simp[hb]) hc;exact n1.2.2 b hb b (bD _ hc) rfl;intro b hb;show(if b∈f1++tt++f3 then _ else _)=_;rw[aI hb];intro b x hh hxo hb;have hm2:b∉f2:=λhm=>hxo (by have:=hl b (by simp[hm]);rw[hb]at this;simpa using this);refine⟨?_,vc b x hh hb hm2⟩;show(if b∈f1++tt++f3 then _ else if ej (g.fj b) then none else g.fj b)=_;have adj:b∉f1++tt++f3:=by intro hm;simp only[aA]at hm;rcases hm with(hm|hm)|hm;exact hxo (by have:=hl b (by simp[hm]);rw[hb]at this;simpa using this);rcases(CW b hm).2 with h2|h2;exact hm2 h2;rw[hb]at h2;exact hh h2;exact hxo (by have:=hl b (by simp[hm]);rw[hb]at this;simpa using this)
 rw[aK adj,aK (by rw[hb];exact hh),hb];intro b hb hm;have hm2:b∉f2:=λk=>hm (by simp[k]);refine⟨?_,vc b o SR hb hm2⟩;show(if b∈f1++tt++f3 then _ else if ej (g.fj b) then none else g.fj b)=_;rw[aK (c:=ej (g.fj b)) (by rw[hb];exact SR),hb];split<;>rfl;refine h.frame.trans jt (λb hb hh=>?_);rcases hh with hh|hm;cases hx:g.fj b with|none=>rw[hx]at hh;cases hh|some x=>rcases(h.gN b x hx).2 with h2|h2;omega;exact h2
 rcases(h.gN b o (hl b (by simp[hm]))).2 with h2|h2;omega;exact h2;intro b x hx;have D6:(if b∈f1++tt++f3 then some o else if ej (g.fj b) then none else g.fj b)=some x:=hx;have hz:=jt.size;have old:∀y,g.fj b=some y->b<w'.heap.size/\(C.w0.heap.size<=b\/C.M b):=λy hy=>⟨Nat.lt_of_lt_of_le (h.gN b y hy).1 hz,(h.gN b y hy).2⟩
 split at D6;rename_i hm;simp only[aA]at hm;rcases hm with(hm|hm)|hm;exact old o (hl b (by simp[hm]));rcases(CW b hm).2 with h2|h2;exact old o (hl b (by simp[h2]));cases hy:g.fj b with|none=>rw[hy]at h2;cases h2|some y=>exact old y hy
 exact old o (hl b (by simp[hm]));split at D6;cases D6;exact old x D6
theorem eE.alZ (h:eE C g st a w hs)(s j:Nat)(Fe:x0≠ .bot)(iL:st.fL (.slot s j)=some x0): ∃v f2,iy (dq C g st w) v x0 f2/\f2.Nodup/\(∀b∈f2,g.fj b=some (.slot s))/\ ∀(w':World)(hw':Nat->Nat)(x1:AC)(tt:fA),(∀c',(dq C g st w).Le c'->c'.w=w'->c'.hw=hw'->iy c' v x1 tt)->tt.Nodup->(∀b∈tt,b<w'.heap.size/\(b∈f2\/ej (g.fj b)))-> Fr (λb=>ej (g.fj b)\/b∈f2) w w'->(∀b x,g.fj b=some x->¬ej (some x)->b∉f2->hw' b=g.hw b)-> ∃g',eE C g' {st.fP (.slot s j) x1 with ep:=st.ep+1} a w' []:=by
 have BO:s<st.slots.length:=by
  rcases bT s st.slots.length with gr|BN;exact gr;have:st.get s=.bot:=by simp[AS.get,ez,bJ BN]
  rw[AS.fL,this]at iL;cases j with|zero=>simp[nth]at iL;exact absurd iL.symm Fe|succ j=>simp[nth]at iL
 have hsl:st.slots[s]?=some (st.get s):=by rw[get_eq (ak BO)];exact ak BO
 obtain⟨fp,hr,hn,hl⟩:=h.slots s _ hsl;cases hg:st.get s with
 |yC ts=>rw[AS.fL,hg]at iL;cases iL
 |val gg cs=>
  have hgx:cs[j]?=some x0:=by rw[AS.fL,hg]at iL;simpa[ez]using iL
  rw[hg]at hr;obtain⟨vs,fU,hr⟩:=hr;obtain⟨v,f1,f2,f3,hv,rfl,iG,Fc,Cz,pB⟩:=h.Nk (.slot s) (by simp[lg]) hr hn hl hgx;refine⟨v,f2,iG,Fc,Cz,?_⟩;intro w' hw' x1 tt Lq KQ CW jt II;let cp:AS:={st.fP (.slot s j) x1 with ep:=st.ep+1}
  have yF:cp={st with slots:=st.slots.set s (.val gg (cs.set j x1)),ep:=st.ep+1}:=by show({st.fP (.slot s j) x1 with ep:=st.ep+1}:AS)=_;simp only[AS.fP,hg,AS.put,fV]
  obtain⟨hle,fO,Q3,hll,hk1,Uy,WK,Zr⟩:=pB w' hw' cp x1 tt rfl (by rw[yF]) (λs hs=>by rw[yF];exact hs) Lq KQ CW jt II;refine⟨_,h.step (λx=>¬ej (some x)/\x≠ .slot s) hle h.defers ?_ ?_ WK Zr (λb x hk hx=>hk1 b x hk.1 hk.2 hx) ?_ ?_ (λk u bv hk=>by simp at hk) (.inl ⟨⟨by simp[lg],by simp⟩,by show cp.io=st.io;rw[yF]⟩)⟩;show _=cp.slots.length;rw[yF];simpa using h.size;show cp.boxes.length=cp.slots.length;rw[yF];simpa using h.bsize;intro i av hi;have wV:(st.slots.set s (.val gg (cs.set j x1)))[i]?=some av:=by have:cp.slots[i]?=some av:=hi;rw[yF]at this;exact this
  by_cases his:i=s;subst his;rw[bO]at wV;simp only[cz,BO]at wV;simp at wV;subst wV;exact .inr ⟨_,⟨vs,fU,fO⟩,Q3,hll⟩;rw[aR (df his)]at wV;exact .inl ⟨⟨by simp[lg],by simpa using his⟩,wV,rfl⟩;intro t sB hb;have iz:st.boxes[t]?=some (some sB):=by have:cp.boxes[t]?=some (some sB):=hb;rw[yF]at this;exact this
  exact .inl ⟨⟨by simp[lg],by simp⟩,iz,rfl⟩
theorem eE.aoq (h:eE C g st a w hs)(s j:Nat)(iL:st.fL (.box s j)=some x0): ∃v f2,iy (dq C g st w) v x0 f2/\f2.Nodup/\(∀b∈f2,g.fj b=some (.box s))/\ ∀(w':World)(hw':Nat->Nat)(x1:AC)(tt:fA),(∀c',(dq C g st w).Le c'->c'.w=w'->c'.hw=hw'->iy c' v x1 tt)->tt.Nodup->(∀b∈tt,b<w'.heap.size/\(b∈f2\/ej (g.fj b)))-> Fr (λb=>ej (g.fj b)\/b∈f2) w w'->(∀b x,g.fj b=some x->¬ej (some x)->b∉f2->hw' b=g.hw b)-> ∃g',eE C g' {st.fP (.box s j) x1 with ep:=st.ep+1} a w' []:=by
 have kD:∃cs,st.boxes[s]?=some (some cs)/\cs[j]?=some x0:=by rw[AS.fL,ez]at iL;cases hb:st.boxes[s]? with|none=>simp[hb]at iL|some o=>cases o with|none=>simp[hb]at iL|some cs=>exact⟨cs,rfl,by simpa[hb,ez]using iL⟩
 obtain⟨cs,kD,hgx⟩:=kD;have BO:s<st.boxes.length:=(aC.1 kD).1;obtain⟨arr,T,fr,fp,lf,uO,hr,hn,yL,hl,KO,KR⟩:=h.boxes s cs kD;obtain⟨v,f1,f2,f3,hv,rfl,iG,Fc,Cz,pB⟩:=h.Nk (.box s) (by simp[lg]) hr hn hl hgx;refine⟨v,f2,iG,Fc,Cz,?_⟩;intro w' hw' x1 tt Lq KQ CW jt II;let cp:AS:={st.fP (.box s j) x1 with ep:=st.ep+1}
 have yF:cp={st with boxes:=st.boxes.set s (some (cs.set j x1)),ep:=st.ep+1}:=by show({st.fP (.box s j) x1 with ep:=st.ep+1}:AS)=_;simp only[AS.fP,ez,kD,fY,AS.fD,fV]
 obtain⟨hle,fO,Q3,hll,hk1,Uy,WK,Zr⟩:=pB w' hw' cp x1 tt rfl (by rw[yF]) (λt ht=>by rw[yF];obtain⟨c0,hc0⟩:=ht;by_cases vK:s=t;subst vK;exact⟨cs.set j x1,by simp[BO]⟩;exact⟨c0,by rw[aR vK];exact hc0⟩) Lq KQ CW jt II;have MU:=Uy (g.β s) KO yL;refine⟨_,h.step (λx=>¬ej (some x)/\x≠ .box s) hle h.defers ?_ ?_ WK Zr (λb x hk hx=>hk1 b x hk.1 hk.2 hx) ?_ ?_ (λk u bv hk=>by simp at hk) (.inl ⟨⟨by simp[lg],by simp⟩,by show cp.io=st.io;rw[yF]⟩)⟩;show _=cp.slots.length;rw[yF];exact h.size;show cp.boxes.length=cp.slots.length;rw[yF];simpa using h.bsize;intro i av hi;have wV:st.slots[i]?=some av:=by have:cp.slots[i]?=some av:=hi;rw[yF]at this;exact this
 exact .inl ⟨⟨by simp[lg],by simp⟩,wV,rfl⟩;intro t sB hb;have iz:(st.boxes.set s (some (cs.set j x1)))[t]?=some (some sB):=by have:cp.boxes[t]?=some (some sB):=hb;rw[yF]at this;exact this
 by_cases vK:t=s;subst vK;rw[bO]at iz;simp only[cz,BO]at iz;simp at iz;subst iz;have Lp:g.β t∉f1++tt++f3:=by intro hm;simp only[aA]at hm;rcases hm with(hm|hm)|hm;exact yL (by simp[hm]);rcases(CW _ hm).2 with h2|h2;exact yL (by simp[h2]);rw[KO]at h2;cases h2;exact yL (by simp[hm])
 exact .inr ⟨arr,T,fr,_,MU.2.1.trans lf,uO,fO,Q3,Lp,hll,MU.1,MU.2.2.trans KR⟩;rw[aR (df vK)]at iz;exact .inl ⟨⟨by simp[lg],by simpa using vK⟩,iz,rfl⟩
theorem eE.arA (h:eE C g st a w hs)(j:Nat)(iL:st.fL (.io j)=some x0): ∃v f2,iy (dq C g st w) v x0 f2/\f2.Nodup/\(∀b∈f2,g.fj b=some .io)/\ ∀(w':World)(hw':Nat->Nat)(x1:AC)(tt:fA),(∀c',(dq C g st w).Le c'->c'.w=w'->c'.hw=hw'->iy c' v x1 tt)->tt.Nodup->(∀b∈tt,b<w'.heap.size/\(b∈f2\/ej (g.fj b)))-> Fr (λb=>ej (g.fj b)\/b∈f2) w w'->(∀b x,g.fj b=some x->¬ej (some x)->b∉f2->hw' b=g.hw b)-> ∃g',eE C g' {st.fP (.io j) x1 with ep:=st.ep+1} a w' []:=by
 have hgx:st.io[j]?=some x0:=by rw[AS.fL,ez]at iL;exact iL
 obtain⟨fp,hr,hn,hl⟩:=h.io;obtain⟨v,f1,f2,f3,hv,rfl,iG,Fc,Cz,pB⟩:=h.Nk .io (by simp[lg]) hr hn hl hgx;refine⟨v,f2,iG,Fc,Cz,?_⟩;intro w' hw' x1 tt Lq KQ CW jt II;let cp:AS:={st.fP (.io j) x1 with ep:=st.ep+1}
 have yF:cp={st with io:=st.io.set j x1,ep:=st.ep+1}:=by show({st.fP (.io j) x1 with ep:=st.ep+1}:AS)=_;simp only[AS.fP,fV]
 obtain⟨hle,fO,Q3,hll,hk1,Uy,WK,Zr⟩:=pB w' hw' cp x1 tt rfl (by rw[yF]) (λs hs=>by rw[yF];exact hs) Lq KQ CW jt II
 refine⟨_,h.step (λx=>¬ej (some x)/\x≠ .io) hle h.defers ?_ ?_ WK Zr (λb x hk hx=>hk1 b x hk.1 hk.2 hx) ?_ ?_ (λk u bv hk=>by simp at hk) (.inr ⟨_,by
  have:cp.io=st.io.set j x1:=by rw[yF]
  show ca _ _ cp.io _;rw[this];exact fO,Q3,hll⟩)⟩
 show _=cp.slots.length;rw[yF];exact h.size;show cp.boxes.length=cp.slots.length;rw[yF];exact h.bsize;intro i av hi;have wV:st.slots[i]?=some av:=by have:cp.slots[i]?=some av:=hi;rw[yF]at this;exact this
 exact .inl ⟨⟨by simp[lg],by simp⟩,wV,rfl⟩;intro t sB hb;have iz:st.boxes[t]?=some (some sB):=by have:cp.boxes[t]?=some (some sB):=hb;rw[yF]at this;exact this
 exact .inl ⟨⟨by simp[lg],by simp⟩,iz,rfl⟩
theorem eE.Xu (h:eE C g st a w hs)(r:lx)(Fe:x0≠ .bot)(iL:st.fL r=some x0): ∃v f2,iy (dq C g st w) v x0 f2/\f2.Nodup/\(∀b∈f2,g.fj b=some r.owner)/\ ∀(w':World)(hw':Nat->Nat)(x1:AC)(tt:fA),(∀c',(dq C g st w).Le c'->c'.w=w'->c'.hw=hw'->iy c' v x1 tt)->tt.Nodup->(∀b∈tt,b<w'.heap.size/\(b∈f2\/ej (g.fj b)))-> Fr (λb=>ej (g.fj b)\/b∈f2) w w'->(∀b x,g.fj b=some x->¬ej (some x)->b∉f2->hw' b=g.hw b)-> ∃g',eE C g' {st.fP r x1 with ep:=st.ep+1} a w' []:=by cases r with|slot s j=>exact h.alZ s j Fe iL|box s j=>exact h.aoq s j iL|io j=>exact h.arA j iL
theorem eE.Xv (h:eE C g st a w hs)(r:lx){tag:az Nat}{e:CT}{xs:aw e.D}(iL:st.fL r=some (.sl (.own tag) e xs)): ∃v f2,(∀t,tag=some t->v=g.hdr t)/\fR g.hw w (.sl e) [v] xs f2/\f2.Nodup/\(∀b∈f2,g.fj b=some r.owner)/\ ∀(w':World)(hw':Nat->Nat)(SY:aw e.D)(tt:fA),fR hw' w' (.sl e) [v] SY tt->tt.Nodup->(∀b∈tt,b<w'.heap.size/\(b∈f2\/ej (g.fj b)))-> Fr (λb=>ej (g.fj b)\/b∈f2) w w'->(∀b x,g.fj b=some x->¬ej (some x)->b∉f2->hw' b=g.hw b)-> ∃g',eE C g' {st.fP r (.sl (.own tag) e SY)with ep:=st.ep+1} a w' []:=by obtain⟨v,f2,fO,Fc,Cz,pB⟩:=h.Xu r (by simp) iL;refine⟨v,f2,λt ht=>(fO.2 t ht).2,fO.1,Fc,Cz,λw' hw' SY tt iG KQ CW jt II=>pB w' hw' (.sl (.own tag) e SY) tt (λc' hle XZ Je=>⟨?_,λt ht=>?_⟩) KQ CW jt II⟩;rw[XZ,Je];exact iG;have h1:=fO.2 t ht;exact⟨(hle.hdr t h1.1).1,by rw[(hle.hdr t h1.1).2];exact h1.2⟩
theorem eE.al0 (h:eE C g st a w [])(r:lx)(Fe:x0≠ .bot)(iL:st.fL r=some x0): ∃v f2,iy (dq C g st w) v x0 f2/\f2.Nodup/\(∀b∈f2,g.fj b=some r.owner)/\ ∀(x1:AC)(tt fh:fA)(u:Value)(av:AV),(∀c',(dq C g st w).Le c'->c'.w=w->c'.hw=g.hw->c'.ep=st.ep->iy c' v x1 tt)->tt.Nodup->fh.Nodup->(∀b∈tt,b∈f2/\b∉fh)->(∀b∈fh,b∈f2)-> gS (dq C g st w) u av fh->∃g',eE C g' (st.fP r x1) a w [(u,av)]:=by
 have core:∀(o:kK){vs:jf}{cs:aw AC}{fp:fA}{j:Nat},ca (dq C g st w) vs cs fp->fp.Nodup->(∀b∈fp,g.fj b=some o)->cs[j]?=some x0->
  ∃v f2,iy (dq C g st w) v x0 f2/\f2.Nodup/\(∀b∈f2,g.fj b=some o/\b∈fp)/\
   ∀(cp:AS)(x1:AC)(tt fh:fA)(u:Value)(av:AV),cp.ep=st.ep->cp.iss=st.iss->(∀s,jL st s->jL cp s)->(∀c',(dq C g st w).Le c'->c'.w=w->c'.hw=g.hw->c'.ep=st.ep->iy c' v x1 tt)->tt.Nodup->fh.Nodup->(∀b∈tt,b∈f2/\b∉fh)->(∀b∈fh,b∈f2)->gS (dq C g st w) u av fh->
    (dq C g st w).Le (dq C {g with fj:=λb=>if b∈fh then some (.hand 0) else g.fj b} cp w)/\
    ∃ld,ca (dq C {g with fj:=λb=>if b∈fh then some (.hand 0) else g.fj b} cp w) vs (cs.set j x1) ld/\ld.Nodup/\(∀b∈ld,b∉fh/\b∈fp)/\
    ME C {g with fj:=λb=>if b∈fh then some (.hand 0) else g.fj b} cp w 0 u av:=by
  intro o vs cs fp j fO hn hl hx
  obtain⟨v,f1,f2,f3,hv,rfl,Th,Jf⟩:=fO.apj hx
  have Fb:=hn
  rw[bj]at Fb
  have n1:=aQ.1 Fb
  have n2:=aQ.1 n1.2.1
  refine⟨v,f2,Th,n2.1,λb hb=>⟨hl b (by simp[hb]),by simp[hb]⟩,?_⟩
  intro cp x1 tt fh u av Bs O5 xo hx1 KQ SR CW Tb hu
  have hle:(dq C g st w).Le (dq C {g with fj:=λb=>if b∈fh then some (.hand 0) else g.fj b} cp w):=
   ⟨rfl,λt ht=>⟨by show nH cp t;have ht':nH st t:=ht;simpa[nH,O5]using ht',rfl⟩,λ_ _ _ _ _ hu=>hu,by show st.ep<=cp.ep;omega,λs hs=>⟨xo s hs,rfl⟩,λ_ b o u ho hu=>⟨ho,hu⟩⟩
  have G9:∀b∈f1++f3,b∉f2:=by intro b hb h2;rcases aA.1 hb with hb|hb;exact n1.2.2 b hb b (bP _ h2) rfl;exact n2.2.2 b h2 b hb rfl
  refine⟨hle,f1++tt++f3,Jf _ hle _ tt (hx1 _ hle rfl rfl Bs) (λ_ _=>⟨rfl,rfl⟩),?_,?_,fh,hu.mono hle (λ_ _=>⟨rfl,rfl⟩),SR,λb hb=>?_⟩
  ·rw[bj]
   refine aQ.2 ⟨n1.1,aQ.2 ⟨KQ,n2.2.1,?_⟩,?_⟩
   ·rintro b hb c hc rfl;exact G9 b (by simp[hc]) (CW b hb).1
   ·rintro b hb c hc rfl
    rcases aA.1 hc with hc|hc
    ·exact G9 b (by simp[hb]) (CW b hc).1
    ·exact n1.2.2 b hb b (bD _ hc) rfl
  ·intro b hb
   simp only[aA]at hb
   rcases hb with(hb|hb)|hb
   ·exact⟨λhm=>G9 b (by simp[hb]) (Tb b hm),by simp[hb]⟩
   ·exact⟨(CW b hb).2,by simp[(CW b hb).1]⟩
   ·exact⟨λhm=>G9 b (by simp[hb]) (Tb b hm),by simp[hb]⟩
  ·show(if b∈fh then _ else _)=_
   rw[aI hb]
 have Rr:∀(fh:fA),∀b x,(if b∈fh then some (kK.hand 0) else g.fj b)=some x->(b∈fh->∃y,g.fj b=some y)->b<w.heap.size/\(C.w0.heap.size<=b\/C.M b):=by intro fh b x hx hy;by_cases hm:b∈fh;obtain⟨y,hy⟩:=hy hm;exact h.gN b y hy;rw[aK hm]at hx;exact h.gN b x hx
 have adG:∀(fh:fA)(o:kK),(∀b∈fh,g.fj b=some o)->∀b x,x≠o->g.fj b=some x->(if b∈fh then some (kK.hand 0) else g.fj b)=some x:=by intro fh o Tb b x hxo hb;rw[aK (λhm=>hxo (by have:=Tb b hm;rw[hb]at this;simpa using this))];exact hb
 cases r with
 |slot s j=>
  have BO:s<st.slots.length:=by
   rcases bT s st.slots.length with gr|BN;exact gr;have:st.get s=.bot:=by simp[AS.get,ez,bJ BN]
   rw[AS.fL,this]at iL;cases j with|zero=>simp[nth]at iL;exact absurd iL.symm Fe|succ j=>simp[nth]at iL
  have hsl:st.slots[s]?=some (st.get s):=by rw[get_eq (ak BO)];exact ak BO
  obtain⟨fp,hr,hn,hl⟩:=h.slots s _ hsl;cases hg:st.get s with
  |yC ts=>rw[AS.fL,hg]at iL;cases iL
  |val gg cs=>
   have hgx:cs[j]?=some x0:=by rw[AS.fL,hg]at iL;simpa[ez]using iL
   rw[hg]at hr;obtain⟨vs,fU,hr⟩:=hr;have nD:∀x1,st.fP (.slot s j) x1={st with slots:=st.slots.set s (.val gg (cs.set j x1))}:=λx1=>by simp only[AS.fP,hg,AS.put,fV]
   obtain⟨v,f2,UE,Fc,Cz,pB⟩:=core (.slot s) hr hn hl hgx;refine⟨v,f2,UE,Fc,λb hb=>(Cz b hb).1,?_⟩;intro x1 tt fh u av hx1 KQ SR CW Tb hu;obtain⟨hle,ld,fO,Q3,EB,HC⟩:=pB (st.fP (.slot s j) x1) x1 tt fh u av (by rw[nD]) (by rw[nD]) (λ_ q=>by rw[nD];exact q) hx1 KQ SR CW Tb hu;have hfo:∀b∈fh,g.fj b=some (.slot s):=λb hb=>(Cz b (Tb b hb)).1;refine⟨_,h.step (λx=>x≠ .slot s) hle h.defers ?_ ?_ h.frame (λb x hx=>Rr fh b x hx (λhm=>⟨_,hfo b hm⟩)) (λb x hk hb=>⟨adG fh _ hfo b x hk hb,rfl,rfl⟩) ?_ ?_ ?_ (.inl ⟨by simp,by rw[nD]⟩)⟩;rw[nD];simpa using h.size;rw[nD];simpa using h.bsize;intro i bv hi;rw[nD]at hi;have wV:(st.slots.set s (.val gg (cs.set j x1)))[i]?=some bv:=hi;by_cases his:i=s;subst his;rw[bO]at wV;simp only[cz,BO]at wV;simp at wV;subst wV;refine .inr ⟨ld,⟨vs,fU,fO⟩,Q3,λb hb=>?_⟩;show(if b∈fh then _ else _)=_;rw[aK (EB b hb).1];exact hl b (EB b hb).2;rw[aR (df his)]at wV;exact .inl ⟨by simpa using his,wV,rfl⟩;intro t sB hb;rw[nD]at hb;exact .inl ⟨by simp,hb,rfl⟩;intro k u' bv hk;cases k with
   |zero=>simp only[cR,bq,Prod.mk.injEq]at hk;obtain⟨rfl,rfl⟩:=hk;exact .inr HC
   |succ k=>simp at hk
 |box s j=>
  have kD:∃cs,st.boxes[s]?=some (some cs)/\cs[j]?=some x0:=by rw[AS.fL,ez]at iL;cases hb:st.boxes[s]? with|none=>simp[hb]at iL|some o=>cases o with|none=>simp[hb]at iL|some cs=>exact⟨cs,rfl,by simpa[hb,ez]using iL⟩
  obtain⟨cs,kD,hgx⟩:=kD;have BO:s<st.boxes.length:=(aC.1 kD).1;obtain⟨arr,T,fr,fp,lf,uO,hr,hn,yL,hl,KO,KR⟩:=h.boxes s cs kD;have nD:∀x1,st.fP (.box s j) x1={st with boxes:=st.boxes.set s (some (cs.set j x1))}:=λx1=>by simp only[AS.fP,ez,kD,fY,AS.fD,fV]
  obtain⟨v,f2,UE,Fc,Cz,pB⟩:=core (.box s) hr hn hl hgx;refine⟨v,f2,UE,Fc,λb hb=>(Cz b hb).1,?_⟩;intro x1 tt fh u av hx1 KQ SR CW Tb hu;obtain⟨hle,ld,fO,Q3,EB,HC⟩:=pB (st.fP (.box s j) x1) x1 tt fh u av (by rw[nD]) (by rw[nD]) (λt ht=>by rw[nD];obtain⟨c0,hc0⟩:=ht;by_cases vK:s=t;subst vK;exact⟨cs.set j x1,by simp[BO]⟩;exact⟨c0,by rw[aR vK];exact hc0⟩) hx1 KQ SR CW Tb hu;have hfo:∀b∈fh,g.fj b=some (.box s):=λb hb=>(Cz b (Tb b hb)).1;refine⟨_,h.step (λx=>x≠ .box s) hle h.defers ?_ ?_ h.frame (λb x hx=>Rr fh b x hx (λhm=>⟨_,hfo b hm⟩)) (λb x hk hb=>⟨adG fh _ hfo b x hk hb,rfl,rfl⟩) ?_ ?_ ?_ (.inl ⟨by simp,by rw[nD]⟩)⟩;rw[nD];exact h.size;rw[nD];simpa using h.bsize;intro i bv hi;rw[nD]at hi;exact .inl ⟨by simp,hi,rfl⟩;intro t sB hb;rw[nD]at hb;have iz:(st.boxes.set s (some (cs.set j x1)))[t]?=some (some sB):=hb;by_cases vK:t=s;subst vK;rw[bO]at iz;simp only[cz,BO]at iz;simp at iz;subst iz;have MU:g.β t∉fh:=λhm=>yL (Cz _ (Tb _ hm)).2;refine .inr ⟨arr,T,fr,ld,lf,uO,fO,Q3,λhm=>yL (EB _ hm).2,λb hb=>?_,?_,KR⟩;show(if b∈fh then _ else _)=_;rw[aK (EB b hb).1];exact hl b (EB b hb).2;show(if g.β t∈fh then _ else _)=_;rw[aK MU];exact KO;rw[aR (df vK)]at iz;exact .inl ⟨by simpa using vK,iz,rfl⟩;intro k u' bv hk;cases k with
  |zero=>simp only[cR,bq,Prod.mk.injEq]at hk;obtain⟨rfl,rfl⟩:=hk;exact .inr HC
  |succ k=>simp at hk
 |io j=>
  have hgx:st.io[j]?=some x0:=by rw[AS.fL,ez]at iL;exact iL
  obtain⟨fp,hr,hn,hl⟩:=h.io;have nD:∀x1,st.fP (.io j) x1={st with io:=st.io.set j x1}:=λx1=>by simp only[AS.fP,fV]
  obtain⟨v,f2,UE,Fc,Cz,pB⟩:=core .io hr hn hl hgx;refine⟨v,f2,UE,Fc,λb hb=>(Cz b hb).1,?_⟩;intro x1 tt fh u av hx1 KQ SR CW Tb hu;obtain⟨hle,ld,fO,Q3,EB,HC⟩:=pB (st.fP (.io j) x1) x1 tt fh u av (by rw[nD]) (by rw[nD]) (λ_ q=>by rw[nD];exact q) hx1 KQ SR CW Tb hu;have hfo:∀b∈fh,g.fj b=some .io:=λb hb=>(Cz b (Tb b hb)).1;refine⟨_,h.step (λx=>x≠ .io) hle h.defers ?_ ?_ h.frame (λb x hx=>Rr fh b x hx (λhm=>⟨_,hfo b hm⟩)) (λb x hk hb=>⟨adG fh _ hfo b x hk hb,rfl,rfl⟩) ?_ ?_ ?_ (.inr ⟨ld,?_,Q3,λb hb=>?_⟩)⟩;rw[nD];exact h.size;rw[nD];exact h.bsize;intro i bv hi;rw[nD]at hi;exact .inl ⟨by simp,hi,rfl⟩;intro t sB hb;rw[nD]at hb;exact .inl ⟨by simp,hb,rfl⟩;intro k u' bv hk;cases k with
  |zero=>simp only[cR,bq,Prod.mk.injEq]at hk;obtain⟨rfl,rfl⟩:=hk;exact .inr HC
  |succ k=>simp at hk
  have:(st.fP (.io j) x1).io=st.io.set j x1:=by rw[nD]
  rw[this];exact fO;show(if b∈fh then _ else _)=_;rw[aK (EB b hb).1];exact hl b (EB b hb).2
theorem eE.ac3 (h:eE C g st a w hs){v:Value}{x:AC}(r:iy (dq C g st w) v x []):iy (dq C g st w) v (st.fresh x) []:=by
 unfold AS.fresh;split;rename_i ep rt t e xs;cases Bs:(ep==st.ep)with
 |true=>exact r
 |false=>
  simp only[ae];split;rename_i t' e' ys iL;split;rename_i he;subst he;cases ht:(t'==t)with
  |false=>exact r
  |true=>
   have:t'=t:=by simpa using ht
   subst this;simp only[ah];obtain⟨v0,f2,hh,iG,_,_,_⟩:=h.Xv rt iL;obtain⟨h1,h2,h3,h4,h5⟩:=r;obtain⟨k1,k2⟩:=h5 rt t' rfl;have hv:v0=v:=(hh t' rfl).trans k2.symm;subst hv;exact⟨h1,bt _,RJ iG,λ_=>fR.rep (λb o ho=> .inr ho) iG,λr1 t1 hp=>by simp at hp;obtain⟨_,rfl⟩:=hp;exact⟨k1,k2⟩⟩
  exact r;exact r
 exact r
theorem eE.NW (h:eE C g st a w hs):∀{vs:jf}{xs:aw AC},ca (dq C g st w) vs xs []->ca (dq C g st w) vs (xs.map st.fresh) []
 |[],[],r=>r
 |_::_,_::_,r=>by
  obtain⟨f1,f2,he,r1,r2⟩:=r;have h1:f1=[]:=by have:=he.symm;simp at this;exact this.1
  have h2:f2=[]:=by have:=he.symm;simp at this;exact this.2
  subst h1;subst h2;exact⟨[],[],rfl,h.ac3 r1,h.NW r2⟩
 |[],_::_,r=>r.elim
 |_::_,[],r=>r.elim
theorem eE.fresh (h:eE C g st a w hs){v:Value}{x:AV}(r:gS (dq C g st w) v x []):gS (dq C g st w) v (x.fresh st) []:=by
 cases x with
 |val gg cs=>obtain⟨vs,hv,r⟩:=r;exact⟨vs,hv,h.NW r⟩
 |yC ts=>exact r
end Go.Dn
