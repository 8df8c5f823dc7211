import Derived.Test.YtinkcmefgciifaaGreatDnPut
/- A box is made or written; an element of an owned slice is written. -/
namespace Go.Dn
open Go.RowKit
variable {C:Ctx} {g:Gh} {st:AS} {a:Act} {w:World} {hs:az (Value×AV)}
variable {x0:AC} {fp:gk}
theorem lS {s:Nat}{b:aC (az AC)}:(st.fU s b).boxes=st.boxes.set s b:=by simp[AS.fU,gL]
theorem Sr {s:Nat}{cs:az AC}{g':Gh}{w':World}(QZ:g'.hdr=g.hdr)(hcA:∀k b o u,C.A k b o->w.cell? ⟨b,o,none⟩=some u->w'.cell? ⟨b,o,none⟩=some u)(KS:∀t,ky st t->g'.β t=g.β t)(Je:∀b o u,o<g.hw b->w.cell? ⟨b,o,none⟩=some u->o<g'.hw b/\w'.cell? ⟨b,o,none⟩=some u): (dp C g st w).Le (dp C g' (st.fU s (some cs)) w'):=by refine⟨rfl,λt ht=>⟨ht,by show g'.hdr t=g.hdr t;rw[QZ]⟩,hcA,aX _,λt ht=>⟨?_,KS t ht⟩,λ_ b o u ho hu=>Je b o u ho hu⟩;obtain⟨sF,hc⟩:=ht;show∃arT,(st.fU s (some cs)).boxes[t]?=some (some arT);rw[lS];by_cases uW:s=t;subst uW;have iz:s<st.boxes.length:=(aB.1 hc).1;exact⟨cs,by simp[iz]⟩;exact⟨sF,by rw[aF uW];exact hc⟩
theorem eX.YZ (h:eX C g st a w hs)(s:Nat){cs:az AC}{arr:Array Value}{T:TypeId}{fr:Nat×Nat}{w':World}{bnew:Nat}{hw':Nat->Nat}(hbn:(bnew=g.β s/\g.fL bnew=some (.box s))\/(w.heap.size<=bnew/\st.boxes[s]?=some none))(kB:Fr (λb=>eM (g.fL b)\/b=bnew) w w')(lV:w'.heap[bnew]?=some (.cells arr T fr))(uj:rH arr fr)(iz:bnew<w'.heap.size)(asr:hw' bnew=0)(GV:∀b x,g.fL b=some x->¬eM (some x)->b≠bnew->hw' b=g.hw b)(Je:∀b o u,o<g.hw b->w.cell? ⟨b,o,none⟩=some u->o<hw' b/\w'.cell? ⟨b,o,none⟩=some u)(hr:bT ⟨hw',λt=>if t=s then bnew else g.β t,C.A,g.hdr,oz st,st.ep,ky st,w'⟩ arr.toList cs fp)(hn:fp.Nodup)(xY:bnew∉fp)(Fh:∀b∈fp,b<w'.heap.size/\(eM (g.fL b)\/g.fL b=some (.box s)\/w.heap.size<=b)): ∃g',g'.β s=bnew/\eX C g' (st.fU s (some cs)) a w' []:=by
 have hcA:∀k b o u,C.A k b o->w.cell? ⟨b,o,none⟩=some u->w'.cell? ⟨b,o,none⟩=some u:=by
  intro k b o u hA hu;have hb:b<w.heap.size:=World.block_lt_of_cell? w _ hu;have L8:¬(eM (g.fL b)\/b=bnew):=by
   rintro(hh|rfl);cases hx:g.fL b with|none=>rw[hx]at hh;cases hh|some x=>exact h.Pn hx k o hA
   rcases hbn with⟨_,h2⟩|h2;exact h.Pn h2 k o hA;omega
  rw[World.cell?_of_block (a:=⟨b,o,none⟩) (kB.block b hb L8)];exact hu
 have Ec:∀b x,g.fL b=some x->x≠ .box s->b≠bnew:=by rintro b x hx hxs rfl;rcases hbn with⟨_,h2⟩|h2;rw[hx]at h2;exact hxs (by simpa using h2);have:=(h.iw b x hx).1;omega
 have hkp:∀b x,g.fL b=some x->¬eM (some x)->x≠ .box s->w'.heap[b]?=w.heap[b]?:=λb x hx hh hxs=>
  kB.block b (h.iw b x hx).1 (by rintro(k|k);rw[hx]at k;exact hh k;exact Ec b x hx hxs k)
 let β':Nat->Nat:=λt=>if t=s then bnew else g.β t
 let ad3:Nat->aC lI:=λb=>if b=bnew\/b∈fp then some (.box s) else if eM (g.fL b) then none else g.fL b
 let g':Gh:=⟨hw',β',ad3,g.hdr⟩
 have Um:Fr C.M C.w0 w':=h.frame.trans kB (λb hb hh=>by
  rcases hh with hh|rfl;cases hx:g.fL b with|none=>rw[hx]at hh;cases hh|some x=>rcases(h.iw b x hx).2 with h2|h2;omega;exact h2
  rcases hbn with⟨_,h2⟩|h2;rcases(h.iw b _ h2).2 with h3|h3;omega;exact h3;have:=h.frame.size;omega)
 have KS:∀t,ky st t->β' t=g.β t:=by rintro t ⟨sF,hc⟩;show(if t=s then bnew else g.β t)=g.β t;by_cases uW:t=s;subst uW;rcases hbn with⟨h2,_⟩|⟨_,h2⟩;simp[h2];rw[h2]at hc;cases hc;simp[uW]
 have hle:(dp C g st w).Le (dp C g' (st.fU s (some cs)) w'):=Sr rfl hcA KS Je;have alN:(RC.mk hw' β' C.A g.hdr (oz st) st.ep (ky st) w').Le (dp C g' (st.fU s (some cs)) w'):=⟨rfl,λ_ ht=>⟨ht,rfl⟩,λ_ _ _ _ _ hu=>hu,aX _,λt ht=>⟨(hle.JT t ht).1,rfl⟩,λ_ b o u ho hu=>⟨ho,hu⟩⟩
 refine⟨g',by show(if s=s then bnew else g.β s)=bnew;simp,h.step (λx=>¬eM (some x)/\x≠ .box s) hle h.defers h.size ?_ Um ?_ ?_ ?_ ?_ ?_ (.inl ⟨⟨by simp[lX],by simp⟩,rfl⟩)⟩;show(st.fU s (some cs)).boxes.length=st.slots.length;rw[lS,aD];exact h.bsize;intro b x hx;have BE:(if b=bnew\/b∈fp then some (lI.box s) else if eM (g.fL b) then none else g.fL b)=some x:=hx;by_cases hm:b=bnew\/b∈fp;rcases hm with rfl|hm;refine⟨iz,?_⟩;rcases hbn with⟨_,h2⟩|h2;exact(h.iw b _ h2).2;exact .inl (bH h.frame.size h2.1);refine⟨(Fh b hm).1,?_⟩;rcases(Fh b hm).2 with h2|h2|h2;cases hy:g.fL b with|none=>rw[hy]at h2;cases h2|some y=>exact(h.iw b y hy).2
 exact(h.iw b _ h2).2;exact .inl (bH h.frame.size h2);rw[aI hm]at BE;split at BE;cases BE;have hl:=h.iw b x BE;have hz:=kB.size;exact⟨by omega,hl.2⟩;intro b x hk hx;have hb1:=Ec b x hx hk.2;refine⟨?_,hkp b x hx hk.1 hk.2,GV b x hx hk.1 hb1⟩;show(if b=bnew\/b∈fp then some (lI.box s) else if eM (g.fL b) then none else g.fL b)=some x;have Z6:¬(b=bnew\/b∈fp):=by rintro(hm|hm);exact hb1 hm;rcases(Fh b hm).2 with h2|h2|h2;rw[hx]at h2;exact hk.1 h2;rw[hx]at h2;exact hk.2 (by simpa using h2);have:=(h.iw b x hx).1;omega
 rw[aI Z6,aI (by rw[hx];exact hk.1),hx];intro i av hi;exact .inl ⟨⟨by simp[lX],by simp⟩,hi,rfl⟩;intro t sF hb;have iB:(st.boxes.set s (some cs))[t]?=some (some sF):=by rw[<-lS];exact hb
 by_cases uW:t=s;subst uW;rw[bL]at iB;simp only[cr]at iB;split at iB;simp at iB;subst iB;have ajB:β' t=bnew:=by show(if t=t then bnew else g.β t)=bnew;simp
 refine .inr ⟨arr,T,fr,fp,?_,uj,hr.mono alN (λb _=>⟨rfl,rfl⟩),hn,?_,?_,?_,?_⟩;show w'.heap[β' t]?=_;rw[ajB];exact lV;show β' t∉fp;rw[ajB];exact xY;intro b hb;show(if b=bnew\/b∈fp then _ else _)=_;rw[aJ (.inr hb)];show(if β' t=bnew\/β' t∈fp then _ else _)=_;rw[aJ (.inl ajB)];show hw' (β' t)=0;rw[ajB];exact asr;cases iB;rw[aF (cd uW)]at iB;exact .inl ⟨⟨by simp[lX],by simpa using uW⟩,iB,by show(if t=s then bnew else g.β t)=_;simp[uW]⟩;intro k u bv hk;simp at hk
def mq.owner:mq->lI
 | .slot s _=> .slot s
 | .box s _=> .box s
 | .io _=> .io
theorem bT.ak3 {c:RC}{vs:jT}{cs:az AC}(hr:bT c vs cs fp){j:Nat}{x:AC}(hx:cs[j]?=some x): ∃v f1 f2 f3,vs[j]?=some v/\fp=f1++f2++f3/\jh c v x f2/\ ∀(c':RC),c.Le c'->∀x' f2',jh c' v x' f2'->(∀b∈f1++f3,c'.w.heap[b]?=c.w.heap[b]?/\c'.hw b=c.hw b)-> bT c' vs (cs.set j x') (f1++f2'++f3):=by
 have hj:j<cs.length:=(aB.1 hx).1;obtain⟨f1,fr,rfl,r1,r2⟩:=hr.split j;have hlen:=hr.length;have hjv:j<vs.length:=by omega
 have ecs:cs.drop j=x::cs.drop (j+1):=by rw[bV hj];congr 1;rw[aq hj]at hx;simpa using hx
 have evs:vs.drop j=vs[j]::vs.drop (j+1):=bV hjv;rw[ecs,evs]at r2;obtain⟨f2,f3,rfl,r2,r3⟩:=r2;refine⟨vs[j],f1,f2,f3,aq hjv,by simp,r2,λc' hle x' f2' BE hb=>?_⟩;have e1:vs=vs.take j++(vs[j]::vs.drop (j+1)):=by rw[<-evs,cC]
 have e2:cs.set j x'=cs.take j++(x'::cs.drop (j+1)):=by rw[List.set_eq_take_append_cons_drop,aJ hj]
 rw[e1,e2,aE];refine bT.append (r1.mono hle (λb iB=>hb b (aU _ iB))) ⟨f2',f3,rfl,BE,?_⟩;exact r3.mono hle (λb iB=>hb b (bm _ iB))
def Gh.wrote (g:Gh)(o:lI)(fp:gk)(hw':Nat->Nat):Gh:=
 ⟨hw',g.β,λb=>if b∈fp then some o else if eM (g.fL b) then none else g.fL b,g.hdr⟩
theorem eX.Ls (h:eX C g st a w hs)(o:lI)(QK:¬eM (some o)){vs:jT}{cs:az AC}{j:Nat}(ga:bT (dp C g st w) vs cs fp)(hn:fp.Nodup)(hl:∀b∈fp,g.fL b=some o)(hx:cs[j]?=some x0): ∃v f1 f2 f3,vs[j]?=some v/\fp=f1++f2++f3/\jh (dp C g st w) v x0 f2/\f2.Nodup/\(∀b∈f2,g.fL b=some o)/\ ∀(w':World)(hw':Nat->Nat)(cc:AS)(x1:AC)(td:gk),cc.ep=st.ep+1->cc.iss=st.iss->(∀s,ky st s->ky cc s)-> (∀c',(dp C g st w).Le c'->c'.w=w'->c'.hw=hw'->jh c' v x1 td)->td.Nodup->(∀b∈td,b<w'.heap.size/\(b∈f2\/eM (g.fL b)))-> Fr (λb=>eM (g.fL b)\/b∈f2) w w'->(∀b x,g.fL b=some x->¬eM (some x)->b∉f2->hw' b=g.hw b)-> (dp C g st w).Le (dp C (g.wrote o (f1++td++f3) hw') cc w')/\ bT (dp C (g.wrote o (f1++td++f3) hw') cc w') vs (cs.set j x1) (f1++td++f3)/\(f1++td++f3).Nodup/\ (∀b∈f1++td++f3,(g.wrote o (f1++td++f3) hw').fL b=some o)/\ (∀b x,¬eM (some x)->x≠o->g.fL b=some x->(g.wrote o (f1++td++f3) hw').fL b=some x/\w'.heap[b]?=w.heap[b]?/\hw' b=g.hw b)/\ (∀b,g.fL b=some o->b∉fp->(g.wrote o (f1++td++f3) hw').fL b=some o/\w'.heap[b]?=w.heap[b]?/\hw' b=g.hw b)/\ Fr C.M C.w0 w'/\(∀b x,(g.wrote o (f1++td++f3) hw').fL b=some x->b<w'.heap.size/\(C.w0.heap.size<=b\/C.M b)):=by
 obtain⟨v,f1,f2,f3,hv,rfl,Q4,F1⟩:=ga.ak3 hx;have Eb:=hn;rw[aE]at Eb;have n1:=aO.1 Eb;have n2:=aO.1 n1.2.1;have DE:∀b∈f1++f3,b∉f2:=by intro b hb h2;rcases ay.1 hb with hb|hb;exact n1.2.2 b hb b (aU _ h2) rfl;exact n2.2.2 b h2 b hb rfl
 refine⟨v,f1,f2,f3,hv,rfl,Q4,n2.1,λb hb=>hl b (by simp[hb]),?_⟩;intro w' hw' cc x1 td Ae M0 wG jl KP BX kB GV;have hcA:∀k b o u,C.A k b o->w.cell? ⟨b,o,none⟩=some u->w'.cell? ⟨b,o,none⟩=some u:=by
  intro k b o u hA hu;have hb:b<w.heap.size:=World.block_lt_of_cell? w _ hu;have L8:¬(eM (g.fL b)\/b∈f2):=by
   rintro(hh|hm);cases hx:g.fL b with|none=>rw[hx]at hh;cases hh|some x=>exact h.Pn hx k o hA
   exact h.Pn (hl b (by simp[hm])) k o hA
  rw[World.cell?_of_block (a:=⟨b,o,none⟩) (kB.block b hb L8)];exact hu
 have hle:(dp C g st w).Le (dp C (g.wrote o (f1++td++f3) hw') cc w'):=⟨rfl,λt ht=>⟨by show oz cc t;have YI:oz st t:=ht;simpa[oz,M0]using YI,rfl⟩,hcA,by show st.ep<=cc.ep;omega,λs hs=>⟨wG s hs,rfl⟩,λhe=>absurd he (by show cc.ep≠st.ep;omega)⟩
 have uy:∀b x,¬eM (some x)->g.fL b=some x->b∉f2->w'.heap[b]?=w.heap[b]?/\hw' b=g.hw b:=by intro b x hh hb hm;exact⟨kB.block b (h.iw b _ hb).1 (by rintro(k|k);rw[hb]at k;exact hh k;exact hm k),GV b _ hb hh hm⟩
 have hd1:∀b∈f1++f3,b∉td:=by intro b hb hm;rcases(BX b hm).2 with h2|h2;exact DE b hb h2;have R8:g.fL b=some o:=hl b (by rcases ay.1 hb with hb|hb<;>simp[hb]);rw[R8]at h2;exact QK h2
 refine⟨hle,?_,?_,?_,?_,?_,?_,?_⟩;refine F1 _ hle _ td (jl _ hle rfl rfl) (λb hb=>?_);exact uy b o QK (hl b (by rcases ay.1 hb with hb|hb<;>simp[hb])) (DE b hb);rw[aE];refine aO.2 ⟨n1.1,aO.2 ⟨KP,n2.2.1,?_⟩,?_⟩;rintro b hb c hc rfl;exact hd1 b (by simp[hc]) hb;rintro b hb c hc rfl;rcases ay.1 hc with hc|hc;exact hd1 b (by simp[hb]) hc;exact n1.2.2 b hb b (bm _ hc) rfl;intro b hb;show(if b∈f1++td++f3 then _ else _)=_;rw[aJ hb];intro b x hh hxo hb;have hm2:b∉f2:=λhm=>hxo (by have:=hl b (by simp[hm]);rw[hb]at this;simpa using this);refine⟨?_,uy b x hh hb hm2⟩;show(if b∈f1++td++f3 then _ else if eM (g.fL b) then none else g.fL b)=_;have Z6:b∉f1++td++f3:=by intro hm;simp only[ay]at hm;rcases hm with(hm|hm)|hm;exact hxo (by have:=hl b (by simp[hm]);rw[hb]at this;simpa using this);rcases(BX b hm).2 with h2|h2;exact hm2 h2;rw[hb]at h2;exact hh h2;exact hxo (by have:=hl b (by simp[hm]);rw[hb]at this;simpa using this)
 rw[aI Z6,aI (by rw[hb];exact hh),hb];intro b hb hm;have hm2:b∉f2:=λk=>hm (by simp[k]);refine⟨?_,uy b o QK hb hm2⟩;show(if b∈f1++td++f3 then _ else if eM (g.fL b) then none else g.fL b)=_;rw[aI (c:=eM (g.fL b)) (by rw[hb];exact QK),hb];split<;>rfl;refine h.frame.trans kB (λb hb hh=>?_);rcases hh with hh|hm;cases hx:g.fL b with|none=>rw[hx]at hh;cases hh|some x=>rcases(h.iw b x hx).2 with h2|h2;omega;exact h2
 rcases(h.iw b o (hl b (by simp[hm]))).2 with h2|h2;omega;exact h2;intro b x hx;have BE:(if b∈f1++td++f3 then some o else if eM (g.fL b) then none else g.fL b)=some x:=hx;have hz:=kB.size;have PE:∀y,g.fL b=some y->b<w'.heap.size/\(C.w0.heap.size<=b\/C.M b):=λy hy=>⟨Nat.lt_of_lt_of_le (h.iw b y hy).1 hz,(h.iw b y hy).2⟩
 split at BE;rename_i hm;simp only[ay]at hm;rcases hm with(hm|hm)|hm;exact PE o (hl b (by simp[hm]));rcases(BX b hm).2 with h2|h2;exact PE o (hl b (by simp[h2]));cases hy:g.fL b with|none=>rw[hy]at h2;cases h2|some y=>exact PE y hy
 exact PE o (hl b (by simp[hm]));split at BE;cases BE;exact PE x BE
theorem eX.ah5 (h:eX C g st a w hs)(s j:Nat)(Ec:x0≠ .bot)(jq:st.gh (.slot s j)=some x0): ∃v f2,jh (dp C g st w) v x0 f2/\f2.Nodup/\(∀b∈f2,g.fL b=some (.slot s))/\ ∀(w':World)(hw':Nat->Nat)(x1:AC)(td:gk),(∀c',(dp C g st w).Le c'->c'.w=w'->c'.hw=hw'->jh c' v x1 td)->td.Nodup->(∀b∈td,b<w'.heap.size/\(b∈f2\/eM (g.fL b)))-> Fr (λb=>eM (g.fL b)\/b∈f2) w w'->(∀b x,g.fL b=some x->¬eM (some x)->b∉f2->hw' b=g.hw b)-> ∃g',eX C g' {st.gq (.slot s j) x1 with ep:=st.ep+1} a w' []:=by
 have AL:s<st.slots.length:=by
  rcases ca s st.slots.length with iz|BC;exact iz;have:st.get s=.bot:=by simp[AS.get,eT,bS BC]
  rw[AS.gh,this]at jq;cases j with|zero=>simp[nth]at jq;exact absurd jq.symm Ec|succ j=>simp[nth]at jq
 have hsl:st.slots[s]?=some (st.get s):=by rw[get_eq (aq AL)];exact aq AL
 obtain⟨fp,hr,hn,hl⟩:=h.slots s _ hsl;cases hg:st.get s with
 |xN ts=>rw[AS.gh,hg]at jq;cases jq
 |val gg cs=>
  have hgx:cs[j]?=some x0:=by rw[AS.gh,hg]at jq;simpa[eT]using jq
  rw[hg]at hr;obtain⟨vs,gJ,hr⟩:=hr;obtain⟨v,f1,f2,f3,hv,rfl,jl,Fv,BD,qb⟩:=h.Ls (.slot s) (by simp[lX]) hr hn hl hgx;refine⟨v,f2,jl,Fv,BD,?_⟩;intro w' hw' x1 td Jd KP BX kB GV;let cc:AS:={st.gq (.slot s j) x1 with ep:=st.ep+1}
  have xT:cc={st with slots:=st.slots.set s (.val gg (cs.set j x1)),ep:=st.ep+1}:=by show({st.gq (.slot s j) x1 with ep:=st.ep+1}:AS)=_;simp only[AS.gq,hg,AS.put,gL]
  obtain⟨hle,ga,OV,hll,hk1,hk2,Um,Wu⟩:=qb w' hw' cc x1 td rfl (by rw[xT]) (λs hs=>by rw[xT];exact hs) Jd KP BX kB GV;refine⟨_,h.step (λx=>¬eM (some x)/\x≠ .slot s) hle h.defers ?_ ?_ Um Wu (λb x hk hx=>hk1 b x hk.1 hk.2 hx) ?_ ?_ (λk u bv hk=>by simp at hk) (.inl ⟨⟨by simp[lX],by simp⟩,by show cc.io=st.io;rw[xT]⟩)⟩;show _=cc.slots.length;rw[xT];simpa using h.size;show cc.boxes.length=cc.slots.length;rw[xT];simpa using h.bsize;intro i av hi;have wF:(st.slots.set s (.val gg (cs.set j x1)))[i]?=some av:=by have:cc.slots[i]?=some av:=hi;rw[xT]at this;exact this
  by_cases his:i=s;subst his;rw[bL]at wF;simp only[cr,AL]at wF;simp at wF;subst wF;exact .inr ⟨_,⟨vs,gJ,ga⟩,OV,hll⟩;rw[aF (cd his)]at wF;exact .inl ⟨⟨by simp[lX],by simpa using his⟩,wF,rfl⟩;intro t sF hb;have iB:st.boxes[t]?=some (some sF):=by have:cc.boxes[t]?=some (some sF):=hb;rw[xT]at this;exact this
  exact .inl ⟨⟨by simp[lX],by simp⟩,iB,rfl⟩
theorem eX.aj8 (h:eX C g st a w hs)(s j:Nat)(jq:st.gh (.box s j)=some x0): ∃v f2,jh (dp C g st w) v x0 f2/\f2.Nodup/\(∀b∈f2,g.fL b=some (.box s))/\ ∀(w':World)(hw':Nat->Nat)(x1:AC)(td:gk),(∀c',(dp C g st w).Le c'->c'.w=w'->c'.hw=hw'->jh c' v x1 td)->td.Nodup->(∀b∈td,b<w'.heap.size/\(b∈f2\/eM (g.fL b)))-> Fr (λb=>eM (g.fL b)\/b∈f2) w w'->(∀b x,g.fL b=some x->¬eM (some x)->b∉f2->hw' b=g.hw b)-> ∃g',eX C g' {st.gq (.box s j) x1 with ep:=st.ep+1} a w' []:=by
 have lB:∃cs,st.boxes[s]?=some (some cs)/\cs[j]?=some x0:=by rw[AS.gh,eT]at jq;cases hb:st.boxes[s]? with|none=>simp[hb]at jq|some o=>cases o with|none=>simp[hb]at jq|some cs=>exact⟨cs,rfl,by simpa[hb,eT]using jq⟩
 obtain⟨cs,lB,hgx⟩:=lB;have AL:s<st.boxes.length:=(aB.1 lB).1;obtain⟨arr,T,fr,fp,lV,uj,hr,hn,xY,hl,IE,IH⟩:=h.boxes s cs lB;obtain⟨v,f1,f2,f3,hv,rfl,jl,Fv,BD,qb⟩:=h.Ls (.box s) (by simp[lX]) hr hn hl hgx;refine⟨v,f2,jl,Fv,BD,?_⟩;intro w' hw' x1 td Jd KP BX kB GV;let cc:AS:={st.gq (.box s j) x1 with ep:=st.ep+1}
 have xT:cc={st with boxes:=st.boxes.set s (some (cs.set j x1)),ep:=st.ep+1}:=by show({st.gq (.box s j) x1 with ep:=st.ep+1}:AS)=_;simp only[AS.gq,eT,lB,gR,AS.fU,gL]
 obtain⟨hle,ga,OV,hll,hk1,hk2,Um,Wu⟩:=qb w' hw' cc x1 td rfl (by rw[xT]) (λt ht=>by rw[xT];obtain⟨c0,Vq⟩:=ht;by_cases uW:s=t;subst uW;exact⟨cs.set j x1,by simp[AL]⟩;exact⟨c0,by rw[aF uW];exact Vq⟩) Jd KP BX kB GV;have KS:=hk2 (g.β s) IE xY;refine⟨_,h.step (λx=>¬eM (some x)/\x≠ .box s) hle h.defers ?_ ?_ Um Wu (λb x hk hx=>hk1 b x hk.1 hk.2 hx) ?_ ?_ (λk u bv hk=>by simp at hk) (.inl ⟨⟨by simp[lX],by simp⟩,by show cc.io=st.io;rw[xT]⟩)⟩;show _=cc.slots.length;rw[xT];exact h.size;show cc.boxes.length=cc.slots.length;rw[xT];simpa using h.bsize;intro i av hi;have wF:st.slots[i]?=some av:=by have:cc.slots[i]?=some av:=hi;rw[xT]at this;exact this
 exact .inl ⟨⟨by simp[lX],by simp⟩,wF,rfl⟩;intro t sF hb;have iB:(st.boxes.set s (some (cs.set j x1)))[t]?=some (some sF):=by have:cc.boxes[t]?=some (some sF):=hb;rw[xT]at this;exact this
 by_cases uW:t=s;subst uW;rw[bL]at iB;simp only[cr,AL]at iB;simp at iB;subst iB;have Jc:g.β t∉f1++td++f3:=by intro hm;simp only[ay]at hm;rcases hm with(hm|hm)|hm;exact xY (by simp[hm]);rcases(BX _ hm).2 with h2|h2;exact xY (by simp[h2]);rw[IE]at h2;cases h2;exact xY (by simp[hm])
 exact .inr ⟨arr,T,fr,_,KS.2.1.trans lV,uj,ga,OV,Jc,hll,KS.1,KS.2.2.trans IH⟩;rw[aF (cd uW)]at iB;exact .inl ⟨⟨by simp[lX],by simpa using uW⟩,iB,rfl⟩
theorem eX.amQ (h:eX C g st a w hs)(j:Nat)(jq:st.gh (.io j)=some x0): ∃v f2,jh (dp C g st w) v x0 f2/\f2.Nodup/\(∀b∈f2,g.fL b=some .io)/\ ∀(w':World)(hw':Nat->Nat)(x1:AC)(td:gk),(∀c',(dp C g st w).Le c'->c'.w=w'->c'.hw=hw'->jh c' v x1 td)->td.Nodup->(∀b∈td,b<w'.heap.size/\(b∈f2\/eM (g.fL b)))-> Fr (λb=>eM (g.fL b)\/b∈f2) w w'->(∀b x,g.fL b=some x->¬eM (some x)->b∉f2->hw' b=g.hw b)-> ∃g',eX C g' {st.gq (.io j) x1 with ep:=st.ep+1} a w' []:=by
 have hgx:st.io[j]?=some x0:=by rw[AS.gh,eT]at jq;exact jq
 obtain⟨fp,hr,hn,hl⟩:=h.io;obtain⟨v,f1,f2,f3,hv,rfl,jl,Fv,BD,qb⟩:=h.Ls .io (by simp[lX]) hr hn hl hgx;refine⟨v,f2,jl,Fv,BD,?_⟩;intro w' hw' x1 td Jd KP BX kB GV;let cc:AS:={st.gq (.io j) x1 with ep:=st.ep+1}
 have xT:cc={st with io:=st.io.set j x1,ep:=st.ep+1}:=by show({st.gq (.io j) x1 with ep:=st.ep+1}:AS)=_;simp only[AS.gq,gL]
 obtain⟨hle,ga,OV,hll,hk1,hk2,Um,Wu⟩:=qb w' hw' cc x1 td rfl (by rw[xT]) (λs hs=>by rw[xT];exact hs) Jd KP BX kB GV
 refine⟨_,h.step (λx=>¬eM (some x)/\x≠ .io) hle h.defers ?_ ?_ Um Wu (λb x hk hx=>hk1 b x hk.1 hk.2 hx) ?_ ?_ (λk u bv hk=>by simp at hk) (.inr ⟨_,by
  have:cc.io=st.io.set j x1:=by rw[xT]
  show bT _ _ cc.io _;rw[this];exact ga,OV,hll⟩)⟩
 show _=cc.slots.length;rw[xT];exact h.size;show cc.boxes.length=cc.slots.length;rw[xT];exact h.bsize;intro i av hi;have wF:st.slots[i]?=some av:=by have:cc.slots[i]?=some av:=hi;rw[xT]at this;exact this
 exact .inl ⟨⟨by simp[lX],by simp⟩,wF,rfl⟩;intro t sF hb;have iB:st.boxes[t]?=some (some sF):=by have:cc.boxes[t]?=some (some sF):=hb;rw[xT]at this;exact this
 exact .inl ⟨⟨by simp[lX],by simp⟩,iB,rfl⟩
theorem eX.US (h:eX C g st a w hs)(r:mq)(Ec:x0≠ .bot)(jq:st.gh r=some x0): ∃v f2,jh (dp C g st w) v x0 f2/\f2.Nodup/\(∀b∈f2,g.fL b=some r.owner)/\ ∀(w':World)(hw':Nat->Nat)(x1:AC)(td:gk),(∀c',(dp C g st w).Le c'->c'.w=w'->c'.hw=hw'->jh c' v x1 td)->td.Nodup->(∀b∈td,b<w'.heap.size/\(b∈f2\/eM (g.fL b)))-> Fr (λb=>eM (g.fL b)\/b∈f2) w w'->(∀b x,g.fL b=some x->¬eM (some x)->b∉f2->hw' b=g.hw b)-> ∃g',eX C g' {st.gq r x1 with ep:=st.ep+1} a w' []:=by cases r with|slot s j=>exact h.ah5 s j Ec jq|box s j=>exact h.aj8 s j jq|io j=>exact h.amQ j jq
theorem eX.UT (h:eX C g st a w hs)(r:mq){tag:aC Nat}{e:CT}{xs:az e.D}(jq:st.gh r=some (.sl (.own tag) e xs)): ∃v f2,(∀t,tag=some t->v=g.hdr t)/\gG g.hw w (.sl e) [v] xs f2/\f2.Nodup/\(∀b∈f2,g.fL b=some r.owner)/\ ∀(w':World)(hw':Nat->Nat)(QM:az e.D)(td:gk),gG hw' w' (.sl e) [v] QM td->td.Nodup->(∀b∈td,b<w'.heap.size/\(b∈f2\/eM (g.fL b)))-> Fr (λb=>eM (g.fL b)\/b∈f2) w w'->(∀b x,g.fL b=some x->¬eM (some x)->b∉f2->hw' b=g.hw b)-> ∃g',eX C g' {st.gq r (.sl (.own tag) e QM)with ep:=st.ep+1} a w' []:=by obtain⟨v,f2,ga,Fv,BD,qb⟩:=h.US r (by simp) jq;refine⟨v,f2,λt ht=>(ga.2 t ht).2,ga.1,Fv,BD,λw' hw' QM td jl KP BX kB GV=>qb w' hw' (.sl (.own tag) e QM) td (λc' hle Vr Hl=>⟨?_,λt ht=>?_⟩) KP BX kB GV⟩;rw[Vr,Hl];exact jl;have h1:=ga.2 t ht;exact⟨(hle.hdr t h1.1).1,by rw[(hle.hdr t h1.1).2];exact h1.2⟩
theorem eX.ah6 (h:eX C g st a w [])(r:mq)(Ec:x0≠ .bot)(jq:st.gh r=some x0): ∃v f2,jh (dp C g st w) v x0 f2/\f2.Nodup/\(∀b∈f2,g.fL b=some r.owner)/\ ∀(x1:AC)(td fh:gk)(u:Value)(av:AV),(∀c',(dp C g st w).Le c'->c'.w=w->c'.hw=g.hw->c'.ep=st.ep->jh c' v x1 td)->td.Nodup->fh.Nodup->(∀b∈td,b∈f2/\b∉fh)->(∀b∈fh,b∈f2)-> iu (dp C g st w) u av fh->∃g',eX C g' (st.gq r x1) a w [(u,av)]:=by
 have core:∀(o:lI){vs:jT}{cs:az AC}{fp:gk}{j:Nat},bT (dp C g st w) vs cs fp->fp.Nodup->(∀b∈fp,g.fL b=some o)->cs[j]?=some x0->
  ∃v f2,jh (dp C g st w) v x0 f2/\f2.Nodup/\(∀b∈f2,g.fL b=some o/\b∈fp)/\
   ∀(cc:AS)(x1:AC)(td fh:gk)(u:Value)(av:AV),cc.ep=st.ep->cc.iss=st.iss->(∀s,ky st s->ky cc s)->(∀c',(dp C g st w).Le c'->c'.w=w->c'.hw=g.hw->c'.ep=st.ep->jh c' v x1 td)->td.Nodup->fh.Nodup->(∀b∈td,b∈f2/\b∉fh)->(∀b∈fh,b∈f2)->iu (dp C g st w) u av fh->
    (dp C g st w).Le (dp C {g with fL:=λb=>if b∈fh then some (.hand 0) else g.fL b} cc w)/\
    ∃lT,bT (dp C {g with fL:=λb=>if b∈fh then some (.hand 0) else g.fL b} cc w) vs (cs.set j x1) lT/\lT.Nodup/\(∀b∈lT,b∉fh/\b∈fp)/\
    Kv C {g with fL:=λb=>if b∈fh then some (.hand 0) else g.fL b} cc w 0 u av:=by
  intro o vs cs fp j ga hn hl hx
  obtain⟨v,f1,f2,f3,hv,rfl,Q4,F1⟩:=ga.ak3 hx
  have Eb:=hn
  rw[aE]at Eb
  have n1:=aO.1 Eb
  have n2:=aO.1 n1.2.1
  refine⟨v,f2,Q4,n2.1,λb hb=>⟨hl b (by simp[hb]),by simp[hb]⟩,?_⟩
  intro cc x1 td fh u av Ae M0 wG hx1 KP QK BX QX hu
  have hle:(dp C g st w).Le (dp C {g with fL:=λb=>if b∈fh then some (.hand 0) else g.fL b} cc w):=
   ⟨rfl,λt ht=>⟨by show oz cc t;have YI:oz st t:=ht;simpa[oz,M0]using YI,rfl⟩,λ_ _ _ _ _ hu=>hu,by show st.ep<=cc.ep;omega,λs hs=>⟨wG s hs,rfl⟩,λ_ b o u ho hu=>⟨ho,hu⟩⟩
  have DE:∀b∈f1++f3,b∉f2:=by intro b hb h2;rcases ay.1 hb with hb|hb;exact n1.2.2 b hb b (aU _ h2) rfl;exact n2.2.2 b h2 b hb rfl
  refine⟨hle,f1++td++f3,F1 _ hle _ td (hx1 _ hle rfl rfl Ae) (λ_ _=>⟨rfl,rfl⟩),?_,?_,fh,hu.mono hle (λ_ _=>⟨rfl,rfl⟩),QK,λb hb=>?_⟩
  ·rw[aE]
   refine aO.2 ⟨n1.1,aO.2 ⟨KP,n2.2.1,?_⟩,?_⟩
   ·rintro b hb c hc rfl;exact DE b (by simp[hc]) (BX b hb).1
   ·rintro b hb c hc rfl
    rcases ay.1 hc with hc|hc
    ·exact DE b (by simp[hb]) (BX b hc).1
    ·exact n1.2.2 b hb b (bm _ hc) rfl
  ·intro b hb
   simp only[ay]at hb
   rcases hb with(hb|hb)|hb
   ·exact⟨λhm=>DE b (by simp[hb]) (QX b hm),by simp[hb]⟩
   ·exact⟨(BX b hb).2,by simp[(BX b hb).1]⟩
   ·exact⟨λhm=>DE b (by simp[hb]) (QX b hm),by simp[hb]⟩
  ·show(if b∈fh then _ else _)=_
   rw[aJ hb]
 have Po:∀(fh:gk),∀b x,(if b∈fh then some (lI.hand 0) else g.fL b)=some x->(b∈fh->∃y,g.fL b=some y)->b<w.heap.size/\(C.w0.heap.size<=b\/C.M b):=by intro fh b x hx hy;by_cases hm:b∈fh;obtain⟨y,hy⟩:=hy hm;exact h.iw b y hy;rw[aI hm]at hx;exact h.iw b x hx
 have aaw:∀(fh:gk)(o:lI),(∀b∈fh,g.fL b=some o)->∀b x,x≠o->g.fL b=some x->(if b∈fh then some (lI.hand 0) else g.fL b)=some x:=by intro fh o QX b x hxo hb;rw[aI (λhm=>hxo (by have:=QX b hm;rw[hb]at this;simpa using this))];exact hb
 cases r with
 |slot s j=>
  have AL:s<st.slots.length:=by
   rcases ca s st.slots.length with iz|BC;exact iz;have:st.get s=.bot:=by simp[AS.get,eT,bS BC]
   rw[AS.gh,this]at jq;cases j with|zero=>simp[nth]at jq;exact absurd jq.symm Ec|succ j=>simp[nth]at jq
  have hsl:st.slots[s]?=some (st.get s):=by rw[get_eq (aq AL)];exact aq AL
  obtain⟨fp,hr,hn,hl⟩:=h.slots s _ hsl;cases hg:st.get s with
  |xN ts=>rw[AS.gh,hg]at jq;cases jq
  |val gg cs=>
   have hgx:cs[j]?=some x0:=by rw[AS.gh,hg]at jq;simpa[eT]using jq
   rw[hg]at hr;obtain⟨vs,gJ,hr⟩:=hr;have oB:∀x1,st.gq (.slot s j) x1={st with slots:=st.slots.set s (.val gg (cs.set j x1))}:=λx1=>by simp only[AS.gq,hg,AS.put,gL]
   obtain⟨v,f2,Sa,Fv,BD,qb⟩:=core (.slot s) hr hn hl hgx;refine⟨v,f2,Sa,Fv,λb hb=>(BD b hb).1,?_⟩;intro x1 td fh u av hx1 KP QK BX QX hu;obtain⟨hle,lT,ga,OV,Ep,FW⟩:=qb (st.gq (.slot s j) x1) x1 td fh u av (by rw[oB]) (by rw[oB]) (λ_ q=>by rw[oB];exact q) hx1 KP QK BX QX hu;have hfo:∀b∈fh,g.fL b=some (.slot s):=λb hb=>(BD b (QX b hb)).1;refine⟨_,h.step (λx=>x≠ .slot s) hle h.defers ?_ ?_ h.frame (λb x hx=>Po fh b x hx (λhm=>⟨_,hfo b hm⟩)) (λb x hk hb=>⟨aaw fh _ hfo b x hk hb,rfl,rfl⟩) ?_ ?_ ?_ (.inl ⟨by simp,by rw[oB]⟩)⟩;rw[oB];simpa using h.size;rw[oB];simpa using h.bsize;intro i bv hi;rw[oB]at hi;have wF:(st.slots.set s (.val gg (cs.set j x1)))[i]?=some bv:=hi;by_cases his:i=s;subst his;rw[bL]at wF;simp only[cr,AL]at wF;simp at wF;subst wF;refine .inr ⟨lT,⟨vs,gJ,ga⟩,OV,λb hb=>?_⟩;show(if b∈fh then _ else _)=_;rw[aI (Ep b hb).1];exact hl b (Ep b hb).2;rw[aF (cd his)]at wF;exact .inl ⟨by simpa using his,wF,rfl⟩;intro t sF hb;rw[oB]at hb;exact .inl ⟨by simp,hb,rfl⟩;intro k u' bv hk;cases k with
   |zero=>simp only[cR,bw,Prod.mk.injEq]at hk;obtain⟨rfl,rfl⟩:=hk;exact .inr FW
   |succ k=>simp at hk
 |box s j=>
  have lB:∃cs,st.boxes[s]?=some (some cs)/\cs[j]?=some x0:=by rw[AS.gh,eT]at jq;cases hb:st.boxes[s]? with|none=>simp[hb]at jq|some o=>cases o with|none=>simp[hb]at jq|some cs=>exact⟨cs,rfl,by simpa[hb,eT]using jq⟩
  obtain⟨cs,lB,hgx⟩:=lB;have AL:s<st.boxes.length:=(aB.1 lB).1;obtain⟨arr,T,fr,fp,lV,uj,hr,hn,xY,hl,IE,IH⟩:=h.boxes s cs lB;have oB:∀x1,st.gq (.box s j) x1={st with boxes:=st.boxes.set s (some (cs.set j x1))}:=λx1=>by simp only[AS.gq,eT,lB,gR,AS.fU,gL]
  obtain⟨v,f2,Sa,Fv,BD,qb⟩:=core (.box s) hr hn hl hgx;refine⟨v,f2,Sa,Fv,λb hb=>(BD b hb).1,?_⟩;intro x1 td fh u av hx1 KP QK BX QX hu;obtain⟨hle,lT,ga,OV,Ep,FW⟩:=qb (st.gq (.box s j) x1) x1 td fh u av (by rw[oB]) (by rw[oB]) (λt ht=>by rw[oB];obtain⟨c0,Vq⟩:=ht;by_cases uW:s=t;subst uW;exact⟨cs.set j x1,by simp[AL]⟩;exact⟨c0,by rw[aF uW];exact Vq⟩) hx1 KP QK BX QX hu;have hfo:∀b∈fh,g.fL b=some (.box s):=λb hb=>(BD b (QX b hb)).1;refine⟨_,h.step (λx=>x≠ .box s) hle h.defers ?_ ?_ h.frame (λb x hx=>Po fh b x hx (λhm=>⟨_,hfo b hm⟩)) (λb x hk hb=>⟨aaw fh _ hfo b x hk hb,rfl,rfl⟩) ?_ ?_ ?_ (.inl ⟨by simp,by rw[oB]⟩)⟩;rw[oB];exact h.size;rw[oB];simpa using h.bsize;intro i bv hi;rw[oB]at hi;exact .inl ⟨by simp,hi,rfl⟩;intro t sF hb;rw[oB]at hb;have iB:(st.boxes.set s (some (cs.set j x1)))[t]?=some (some sF):=hb;by_cases uW:t=s;subst uW;rw[bL]at iB;simp only[cr,AL]at iB;simp at iB;subst iB;have KS:g.β t∉fh:=λhm=>xY (BD _ (QX _ hm)).2;refine .inr ⟨arr,T,fr,lT,lV,uj,ga,OV,λhm=>xY (Ep _ hm).2,λb hb=>?_,?_,IH⟩;show(if b∈fh then _ else _)=_;rw[aI (Ep b hb).1];exact hl b (Ep b hb).2;show(if g.β t∈fh then _ else _)=_;rw[aI KS];exact IE;rw[aF (cd uW)]at iB;exact .inl ⟨by simpa using uW,iB,rfl⟩;intro k u' bv hk;cases k with
  |zero=>simp only[cR,bw,Prod.mk.injEq]at hk;obtain⟨rfl,rfl⟩:=hk;exact .inr FW
  |succ k=>simp at hk
 |io j=>
  have hgx:st.io[j]?=some x0:=by rw[AS.gh,eT]at jq;exact jq
  obtain⟨fp,hr,hn,hl⟩:=h.io;have oB:∀x1,st.gq (.io j) x1={st with io:=st.io.set j x1}:=λx1=>by simp only[AS.gq,gL]
  obtain⟨v,f2,Sa,Fv,BD,qb⟩:=core .io hr hn hl hgx;refine⟨v,f2,Sa,Fv,λb hb=>(BD b hb).1,?_⟩;intro x1 td fh u av hx1 KP QK BX QX hu;obtain⟨hle,lT,ga,OV,Ep,FW⟩:=qb (st.gq (.io j) x1) x1 td fh u av (by rw[oB]) (by rw[oB]) (λ_ q=>by rw[oB];exact q) hx1 KP QK BX QX hu;have hfo:∀b∈fh,g.fL b=some .io:=λb hb=>(BD b (QX b hb)).1;refine⟨_,h.step (λx=>x≠ .io) hle h.defers ?_ ?_ h.frame (λb x hx=>Po fh b x hx (λhm=>⟨_,hfo b hm⟩)) (λb x hk hb=>⟨aaw fh _ hfo b x hk hb,rfl,rfl⟩) ?_ ?_ ?_ (.inr ⟨lT,?_,OV,λb hb=>?_⟩)⟩;rw[oB];exact h.size;rw[oB];exact h.bsize;intro i bv hi;rw[oB]at hi;exact .inl ⟨by simp,hi,rfl⟩;intro t sF hb;rw[oB]at hb;exact .inl ⟨by simp,hb,rfl⟩;intro k u' bv hk;cases k with
  |zero=>simp only[cR,bw,Prod.mk.injEq]at hk;obtain⟨rfl,rfl⟩:=hk;exact .inr FW
  |succ k=>simp at hk
  have:(st.gq (.io j) x1).io=st.io.set j x1:=by rw[oB]
  rw[this];exact ga;show(if b∈fh then _ else _)=_;rw[aI (Ep b hb).1];exact hl b (Ep b hb).2
theorem eX.ZX (h:eX C g st a w hs){v:Value}{x:AC}(r:jh (dp C g st w) v x []):jh (dp C g st w) v (st.fresh x) []:=by
 unfold AS.fresh;split;rename_i ep rt t e xs;cases Ae:(ep==st.ep)with
 |true=>exact r
 |false=>
  simp only[af];split;rename_i t' e' ys jq;split;rename_i he;subst he;cases ht:(t'==t)with
  |false=>exact r
  |true=>
   have:t'=t:=by simpa using ht
   subst this;simp only[ah];obtain⟨v0,f2,hh,jl,_,_,_⟩:=h.UT rt jq;obtain⟨h1,h2,h3,h4,h5⟩:=r;obtain⟨k1,k2⟩:=h5 rt t' rfl;have hv:v0=v:=(hh t' rfl).trans k2.symm;subst hv;exact⟨h1,aX _,PG jl,λ_=>gG.rep (λb o ho=> .inr ho) jl,λr1 t1 hp=>by simp at hp;obtain⟨_,rfl⟩:=hp;exact⟨k1,k2⟩⟩
  exact r;exact r
 exact r
theorem eX.L0 (h:eX C g st a w hs):∀{vs:jT}{xs:az AC},bT (dp C g st w) vs xs []->bT (dp C g st w) vs (xs.map st.fresh) []
 |[],[],r=>r
 |_::_,_::_,r=>by
  obtain⟨f1,f2,he,r1,r2⟩:=r;have h1:f1=[]:=by have:=he.symm;simp at this;exact this.1
  have h2:f2=[]:=by have:=he.symm;simp at this;exact this.2
  subst h1;subst h2;exact⟨[],[],rfl,h.ZX r1,h.L0 r2⟩
 |[],_::_,r=>r.elim
 |_::_,[],r=>r.elim
theorem eX.fresh (h:eX C g st a w hs){v:Value}{x:AV}(r:iu (dp C g st w) v x []):iu (dp C g st w) v (x.fresh st) []:=by
 cases x with
 |val gg cs=>obtain⟨vs,hv,r⟩:=r;exact⟨vs,hv,h.L0 r⟩
 |xN ts=>exact r
end Go.Dn
