import Derived.Test.YtgbaemfepmabgaaGreatDnPut
/- A box is made or written; an element of an owned slice is written. -/
namespace Go.Dn
open Go.RowKit
variable {C:Ctx} {g:Gh} {st:AS} {a:Act} {w:World} {hs:aw (Value×AV)}
variable {x0:AC} {fp:fu}
theorem kl {s:Nat}{b:az (aw AC)}:(st.eZ s b).boxes=st.boxes.set s b:=by simp[AS.eZ,fP]
theorem OS {s:Nat}{cs:aw AC}{g':Gh}{w':World}(hhdr:g'.hdr=g.hdr)(hcA:∀k b o u,C.A k b o->w.cell? ⟨b,o,none⟩=some u->w'.cell? ⟨b,o,none⟩=some u)(hβ:∀t,jq st t->g'.β t=g.β t)(hprot:∀b o u,o<g.hw b->w.cell? ⟨b,o,none⟩=some u->o<g'.hw b/\w'.cell? ⟨b,o,none⟩=some u): (dc C g st w).Le (dc C g' (st.eZ s (some cs)) w'):=by refine⟨rfl,λt ht=>⟨ht,by show g'.hdr t=g.hdr t;rw[hhdr]⟩,hcA,bh _,λt ht=>⟨?_,hβ t ht⟩,λ_ b o u ho hu=>hprot b o u ho hu⟩;obtain⟨cs',hc⟩:=ht;show∃cs'',(st.eZ s (some cs)).boxes[t]?=some (some cs'');rw[kl];by_cases hts:s=t;subst hts;have hlt:s<st.boxes.length:=(aC.1 hc).1;exact⟨cs,by simp[hlt]⟩;exact⟨cs',by rw[aP hts];exact hc⟩
theorem ez.Wf (h:ez C g st a w hs)(s:Nat){cs:aw AC}{arr:Array Value}{T:TypeId}{fr:Nat×Nat}{w':World}{bnew:Nat}{hw':Nat->Nat}(hbn:(bnew=g.β s/\g.lab bnew=some (.box s))\/(w.heap.size<=bnew/\st.boxes[s]?=some none))(hfr:Fr (λb=>ed (g.lab b)\/b=bnew) w w')(hblk:w'.heap[bnew]?=some (.cells arr T fr))(hth:pS arr fr)(hlt:bnew<w'.heap.size)(hhw0:hw' bnew=0)(hhw:∀b x,g.lab b=some x->¬ed (some x)->b≠bnew->hw' b=g.hw b)(hprot:∀b o u,o<g.hw b->w.cell? ⟨b,o,none⟩=some u->o<hw' b/\w'.cell? ⟨b,o,none⟩=some u)(hr:bR ⟨hw',λt=>if t=s then bnew else g.β t,C.A,g.hdr,mM st,st.ep,jq st,w'⟩ arr.toList cs fp)(hn:fp.Nodup)(hnb:bnew∉fp)(hfp:∀b∈fp,b<w'.heap.size/\(ed (g.lab b)\/g.lab b=some (.box s)\/w.heap.size<=b)): ∃g',g'.β s=bnew/\ez C g' (st.eZ s (some cs)) a w' []:=by
 have hcA:∀k b o u,C.A k b o->w.cell? ⟨b,o,none⟩=some u->w'.cell? ⟨b,o,none⟩=some u:=by
  intro k b o u hA hu;have hb:b<w.heap.size:=World.block_lt_of_cell? w _ hu;have hnl:¬(ed (g.lab b)\/b=bnew):=by
   rintro(hh|rfl);cases hx:g.lab b with|none=>rw[hx]at hh;cases hh|some x=>exact h.Me hx k o hA
   rcases hbn with⟨_,h2⟩|h2;exact h.Me h2 k o hA;omega
  rw[World.cell?_of_block (a:=⟨b,o,none⟩) (hfr.block b hb hnl)];exact hu
 have hne:∀b x,g.lab b=some x->x≠ .box s->b≠bnew:=by rintro b x hx hxs rfl;rcases hbn with⟨_,h2⟩|h2;rw[hx]at h2;exact hxs (by simpa using h2);have:=(h.labs b x hx).1;omega
 have hkp:∀b x,g.lab b=some x->¬ed (some x)->x≠ .box s->w'.heap[b]?=w.heap[b]?:=λb x hx hh hxs=>
  hfr.block b (h.labs b x hx).1 (by rintro(k|k);rw[hx]at k;exact hh k;exact hne b x hx hxs k)
 let β':Nat->Nat:=λt=>if t=s then bnew else g.β t
 let lab':Nat->az jX:=λb=>if b=bnew\/b∈fp then some (.box s) else if ed (g.lab b) then none else g.lab b
 let g':Gh:=⟨hw',β',lab',g.hdr⟩
 have hfrC:Fr C.M C.w0 w':=h.frame.trans hfr (λb hb hh=>by
  rcases hh with hh|rfl;cases hx:g.lab b with|none=>rw[hx]at hh;cases hh|some x=>rcases(h.labs b x hx).2 with h2|h2;omega;exact h2
  rcases hbn with⟨_,h2⟩|h2;rcases(h.labs b _ h2).2 with h3|h3;omega;exact h3;have:=h.frame.size;omega)
 have hβ:∀t,jq st t->β' t=g.β t:=by rintro t ⟨cs',hc⟩;show(if t=s then bnew else g.β t)=g.β t;by_cases hts:t=s;subst hts;rcases hbn with⟨h2,_⟩|⟨_,h2⟩;simp[h2];rw[h2]at hc;cases hc;simp[hts]
 have hle:(dc C g st w).Le (dc C g' (st.eZ s (some cs)) w'):=OS rfl hcA hβ hprot;have hle1:(RC.mk hw' β' C.A g.hdr (mM st) st.ep (jq st) w').Le (dc C g' (st.eZ s (some cs)) w'):=⟨rfl,λ_ ht=>⟨ht,rfl⟩,λ_ _ _ _ _ hu=>hu,bh _,λt ht=>⟨(hle.pres t ht).1,rfl⟩,λ_ b o u ho hu=>⟨ho,hu⟩⟩
 refine⟨g',by show(if s=s then bnew else g.β s)=bnew;simp,h.step (λx=>¬ed (some x)/\x≠ .box s) hle h.defers h.size ?_ hfrC ?_ ?_ ?_ ?_ ?_ (.inl ⟨⟨by simp[ko],by simp⟩,rfl⟩)⟩;show(st.eZ s (some cs)).boxes.length=st.slots.length;rw[kl,aB];exact h.bsize;intro b x hx;have hx':(if b=bnew\/b∈fp then some (jX.box s) else if ed (g.lab b) then none else g.lab b)=some x:=hx;by_cases hm:b=bnew\/b∈fp;rcases hm with rfl|hm;refine⟨hlt,?_⟩;rcases hbn with⟨_,h2⟩|h2;exact(h.labs b _ h2).2;exact .inl (bt h.frame.size h2.1);refine⟨(hfp b hm).1,?_⟩;rcases(hfp b hm).2 with h2|h2|h2;cases hy:g.lab b with|none=>rw[hy]at h2;cases h2|some y=>exact(h.labs b y hy).2
 exact(h.labs b _ h2).2;exact .inl (bt h.frame.size h2);rw[aD hm]at hx';split at hx';cases hx';have hl:=h.labs b x hx';have hz:=hfr.size;exact⟨by omega,hl.2⟩;intro b x hk hx;have hb1:=hne b x hx hk.2;refine⟨?_,hkp b x hx hk.1 hk.2,hhw b x hx hk.1 hb1⟩;show(if b=bnew\/b∈fp then some (jX.box s) else if ed (g.lab b) then none else g.lab b)=some x;have hnin:¬(b=bnew\/b∈fp):=by rintro(hm|hm);exact hb1 hm;rcases(hfp b hm).2 with h2|h2|h2;rw[hx]at h2;exact hk.1 h2;rw[hx]at h2;exact hk.2 (by simpa using h2);have:=(h.labs b x hx).1;omega
 rw[aD hnin,aD (by rw[hx];exact hk.1),hx];intro i av hi;exact .inl ⟨⟨by simp[ko],by simp⟩,hi,rfl⟩;intro t cs' hb;have hb':(st.boxes.set s (some cs))[t]?=some (some cs'):=by rw[<-kl];exact hb
 by_cases hts:t=s;subst hts;rw[bH]at hb';simp only[cg]at hb';split at hb';simp at hb';subst hb';have hβs:β' t=bnew:=by show(if t=t then bnew else g.β t)=bnew;simp
 refine .inr ⟨arr,T,fr,fp,?_,hth,hr.mono hle1 (λb _=>⟨rfl,rfl⟩),hn,?_,?_,?_,?_⟩;show w'.heap[β' t]?=_;rw[hβs];exact hblk;show β' t∉fp;rw[hβs];exact hnb;intro b hb;show(if b=bnew\/b∈fp then _ else _)=_;rw[aE (.inr hb)];show(if β' t=bnew\/β' t∈fp then _ else _)=_;rw[aE (.inl hβs)];show hw' (β' t)=0;rw[hβs];exact hhw0;cases hb';rw[aP (cR hts)]at hb';exact .inl ⟨⟨by simp[ko],by simpa using hts⟩,hb',by show(if t=s then bnew else g.β t)=_;simp[hts]⟩;intro k u bv hk;simp at hk
def kG.owner:kG->jX
 | .slot s _=> .slot s
 | .box s _=> .box s
 | .io _=> .io
theorem bR.ait {c:RC}{vs:iS}{cs:aw AC}(hr:bR c vs cs fp){j:Nat}{x:AC}(hx:cs[j]?=some x): ∃v f1 f2 f3,vs[j]?=some v/\fp=f1++f2++f3/\hY c v x f2/\ ∀(c':RC),c.Le c'->∀x' f2',hY c' v x' f2'->(∀b∈f1++f3,c'.w.heap[b]?=c.w.heap[b]?/\c'.hw b=c.hw b)-> bR c' vs (cs.set j x') (f1++f2'++f3):=by
 have hj:j<cs.length:=(aC.1 hx).1;obtain⟨f1,fr,rfl,r1,r2⟩:=hr.split j;have hlen:=hr.length;have hjv:j<vs.length:=by omega
 have ecs:cs.drop j=x::cs.drop (j+1):=by rw[ca hj];congr 1;rw[al hj]at hx;simpa using hx
 have evs:vs.drop j=vs[j]::vs.drop (j+1):=ca hjv;rw[ecs,evs]at r2;obtain⟨f2,f3,rfl,r2,r3⟩:=r2;refine⟨vs[j],f1,f2,f3,al hjv,by simp,r2,λc' hle x' f2' hx' hb=>?_⟩;have e1:vs=vs.take j++(vs[j]::vs.drop (j+1)):=by rw[<-evs,cD]
 have e2:cs.set j x'=cs.take j++(x'::cs.drop (j+1)):=by rw[List.set_eq_take_append_cons_drop,aE hj]
 rw[e1,e2,aZ];refine bR.append (r1.mono hle (λb hb'=>hb b (bI _ hb'))) ⟨f2',f3,rfl,hx',?_⟩;exact r3.mono hle (λb hb'=>hb b (bw _ hb'))
def Gh.wrote (g:Gh)(o:jX)(fp:fu)(hw':Nat->Nat):Gh:=
 ⟨hw',g.β,λb=>if b∈fp then some o else if ed (g.lab b) then none else g.lab b,g.hdr⟩
theorem ez.IH (h:ez C g st a w hs)(o:jX)(hnh:¬ed (some o)){vs:iS}{cs:aw AC}{j:Nat}(hrel:bR (dc C g st w) vs cs fp)(hn:fp.Nodup)(hl:∀b∈fp,g.lab b=some o)(hx:cs[j]?=some x0): ∃v f1 f2 f3,vs[j]?=some v/\fp=f1++f2++f3/\hY (dc C g st w) v x0 f2/\f2.Nodup/\(∀b∈f2,g.lab b=some o)/\ ∀(w':World)(hw':Nat->Nat)(st':AS)(x1:AC)(fp1:fu),st'.ep=st.ep+1->st'.iss=st.iss->(∀s,jq st s->jq st' s)-> (∀c',(dc C g st w).Le c'->c'.w=w'->c'.hw=hw'->hY c' v x1 fp1)->fp1.Nodup->(∀b∈fp1,b<w'.heap.size/\(b∈f2\/ed (g.lab b)))-> Fr (λb=>ed (g.lab b)\/b∈f2) w w'->(∀b x,g.lab b=some x->¬ed (some x)->b∉f2->hw' b=g.hw b)-> (dc C g st w).Le (dc C (g.wrote o (f1++fp1++f3) hw') st' w')/\ bR (dc C (g.wrote o (f1++fp1++f3) hw') st' w') vs (cs.set j x1) (f1++fp1++f3)/\(f1++fp1++f3).Nodup/\ (∀b∈f1++fp1++f3,(g.wrote o (f1++fp1++f3) hw').lab b=some o)/\ (∀b x,¬ed (some x)->x≠o->g.lab b=some x->(g.wrote o (f1++fp1++f3) hw').lab b=some x/\w'.heap[b]?=w.heap[b]?/\hw' b=g.hw b)/\ (∀b,g.lab b=some o->b∉fp->(g.wrote o (f1++fp1++f3) hw').lab b=some o/\w'.heap[b]?=w.heap[b]?/\hw' b=g.hw b)/\ Fr C.M C.w0 w'/\(∀b x,(g.wrote o (f1++fp1++f3) hw').lab b=some x->b<w'.heap.size/\(C.w0.heap.size<=b\/C.M b)):=by
 obtain⟨v,f1,f2,f3,hv,rfl,hr2,hset⟩:=hrel.ait hx;have hn':=hn;rw[aZ]at hn';have n1:=aO.1 hn';have n2:=aO.1 n1.2.1;have hdis:∀b∈f1++f3,b∉f2:=by intro b hb h2;rcases ay.1 hb with hb|hb;exact n1.2.2 b hb b (bI _ h2) rfl;exact n2.2.2 b h2 b hb rfl
 refine⟨v,f1,f2,f3,hv,rfl,hr2,n2.1,λb hb=>hl b (by simp[hb]),?_⟩;intro w' hw' st' x1 fp1 hep hiss hpres hown hn1 hfp1 hfr hhw;have hcA:∀k b o u,C.A k b o->w.cell? ⟨b,o,none⟩=some u->w'.cell? ⟨b,o,none⟩=some u:=by
  intro k b o u hA hu;have hb:b<w.heap.size:=World.block_lt_of_cell? w _ hu;have hnl:¬(ed (g.lab b)\/b∈f2):=by
   rintro(hh|hm);cases hx:g.lab b with|none=>rw[hx]at hh;cases hh|some x=>exact h.Me hx k o hA
   exact h.Me (hl b (by simp[hm])) k o hA
  rw[World.cell?_of_block (a:=⟨b,o,none⟩) (hfr.block b hb hnl)];exact hu
 have hle:(dc C g st w).Le (dc C (g.wrote o (f1++fp1++f3) hw') st' w'):=⟨rfl,λt ht=>⟨by show mM st' t;have ht':mM st t:=ht;simpa[mM,hiss]using ht',rfl⟩,hcA,by show st.ep<=st'.ep;omega,λs hs=>⟨hpres s hs,rfl⟩,λhe=>absurd he (by show st'.ep≠st.ep;omega)⟩
 have hkeep:∀b x,¬ed (some x)->g.lab b=some x->b∉f2->w'.heap[b]?=w.heap[b]?/\hw' b=g.hw b:=by intro b x hh hb hm;exact⟨hfr.block b (h.labs b _ hb).1 (by rintro(k|k);rw[hb]at k;exact hh k;exact hm k),hhw b _ hb hh hm⟩
 have hd1:∀b∈f1++f3,b∉fp1:=by intro b hb hm;rcases(hfp1 b hm).2 with h2|h2;exact hdis b hb h2;have hlb:g.lab b=some o:=hl b (by rcases ay.1 hb with hb|hb<;>simp[hb]);rw[hlb]at h2;exact hnh h2
 refine⟨hle,?_,?_,?_,?_,?_,?_,?_⟩;refine hset _ hle _ fp1 (hown _ hle rfl rfl) (λb hb=>?_);exact hkeep b o hnh (hl b (by rcases ay.1 hb with hb|hb<;>simp[hb])) (hdis b hb);rw[aZ];refine aO.2 ⟨n1.1,aO.2 ⟨hn1,n2.2.1,?_⟩,?_⟩;rintro b hb c hc rfl;exact hd1 b (by simp[hc]) hb;rintro b hb c hc rfl;rcases ay.1 hc with hc|hc;exact hd1 b (by simp[hb]) hc;exact n1.2.2 b hb b (bw _ hc) rfl;intro b hb;show(if b∈f1++fp1++f3 then _ else _)=_;rw[aE hb];intro b x hh hxo hb;have hm2:b∉f2:=λhm=>hxo (by have:=hl b (by simp[hm]);rw[hb]at this;simpa using this);refine⟨?_,hkeep b x hh hb hm2⟩;show(if b∈f1++fp1++f3 then _ else if ed (g.lab b) then none else g.lab b)=_;have hnin:b∉f1++fp1++f3:=by intro hm;simp only[ay]at hm;rcases hm with(hm|hm)|hm;exact hxo (by have:=hl b (by simp[hm]);rw[hb]at this;simpa using this);rcases(hfp1 b hm).2 with h2|h2;exact hm2 h2;rw[hb]at h2;exact hh h2;exact hxo (by have:=hl b (by simp[hm]);rw[hb]at this;simpa using this)
 rw[aD hnin,aD (by rw[hb];exact hh),hb];intro b hb hm;have hm2:b∉f2:=λk=>hm (by simp[k]);refine⟨?_,hkeep b o hnh hb hm2⟩;show(if b∈f1++fp1++f3 then _ else if ed (g.lab b) then none else g.lab b)=_;rw[aD (c:=ed (g.lab b)) (by rw[hb];exact hnh),hb];split<;>rfl;refine h.frame.trans hfr (λb hb hh=>?_);rcases hh with hh|hm;cases hx:g.lab b with|none=>rw[hx]at hh;cases hh|some x=>rcases(h.labs b x hx).2 with h2|h2;omega;exact h2
 rcases(h.labs b o (hl b (by simp[hm]))).2 with h2|h2;omega;exact h2;intro b x hx;have hx':(if b∈f1++fp1++f3 then some o else if ed (g.lab b) then none else g.lab b)=some x:=hx;have hz:=hfr.size;have old:∀y,g.lab b=some y->b<w'.heap.size/\(C.w0.heap.size<=b\/C.M b):=λy hy=>⟨Nat.lt_of_lt_of_le (h.labs b y hy).1 hz,(h.labs b y hy).2⟩
 split at hx';rename_i hm;simp only[ay]at hm;rcases hm with(hm|hm)|hm;exact old o (hl b (by simp[hm]));rcases(hfp1 b hm).2 with h2|h2;exact old o (hl b (by simp[h2]));cases hy:g.lab b with|none=>rw[hy]at h2;cases h2|some y=>exact old y hy
 exact old o (hl b (by simp[hm]));split at hx';cases hx';exact old x hx'
theorem ez.aeF (h:ez C g st a w hs)(s j:Nat)(hne:x0≠ .bot)(hget:st.fD (.slot s j)=some x0): ∃v f2,hY (dc C g st w) v x0 f2/\f2.Nodup/\(∀b∈f2,g.lab b=some (.slot s))/\ ∀(w':World)(hw':Nat->Nat)(x1:AC)(fp1:fu),(∀c',(dc C g st w).Le c'->c'.w=w'->c'.hw=hw'->hY c' v x1 fp1)->fp1.Nodup->(∀b∈fp1,b<w'.heap.size/\(b∈f2\/ed (g.lab b)))-> Fr (λb=>ed (g.lab b)\/b∈f2) w w'->(∀b x,g.lab b=some x->¬ed (some x)->b∉f2->hw' b=g.hw b)-> ∃g',ez C g' {st.fH (.slot s j) x1 with ep:=st.ep+1} a w' []:=by
 have hslt:s<st.slots.length:=by
  rcases cq s st.slots.length with hlt|hge;exact hlt;have:st.get s=.bot:=by simp[AS.get,ei,bG hge]
  rw[AS.fD,this]at hget;cases j with|zero=>simp[nth]at hget;exact absurd hget.symm hne|succ j=>simp[nth]at hget
 have hsl:st.slots[s]?=some (st.get s):=by rw[get_eq (al hslt)];exact al hslt
 obtain⟨fp,hr,hn,hl⟩:=h.slots s _ hsl;cases hg:st.get s with
 |tup ts=>rw[AS.fD,hg]at hget;cases hget
 |val gg cs=>
  have hgx:cs[j]?=some x0:=by rw[AS.fD,hg]at hget;simpa[ei]using hget
  rw[hg]at hr;obtain⟨vs,hcut,hr⟩:=hr;obtain⟨v,f1,f2,f3,hv,rfl,hown,hn2,hl2,hfin⟩:=h.IH (.slot s) (by simp[ko]) hr hn hl hgx;refine⟨v,f2,hown,hn2,hl2,?_⟩;intro w' hw' x1 fp1 hown' hn1 hfp1 hfr hhw;let st':AS:={st.fH (.slot s j) x1 with ep:=st.ep+1}
  have hst':st'={st with slots:=st.slots.set s (.val gg (cs.set j x1)),ep:=st.ep+1}:=by show({st.fH (.slot s j) x1 with ep:=st.ep+1}:AS)=_;simp only[AS.fH,hg,AS.put,fP]
  obtain⟨hle,hrel,hnn,hll,hk1,hk2,hfrC,hlabs⟩:=hfin w' hw' st' x1 fp1 rfl (by rw[hst']) (λs hs=>by rw[hst'];exact hs) hown' hn1 hfp1 hfr hhw;refine⟨_,h.step (λx=>¬ed (some x)/\x≠ .slot s) hle h.defers ?_ ?_ hfrC hlabs (λb x hk hx=>hk1 b x hk.1 hk.2 hx) ?_ ?_ (λk u bv hk=>by simp at hk) (.inl ⟨⟨by simp[ko],by simp⟩,by show st'.io=st.io;rw[hst']⟩)⟩;show _=st'.slots.length;rw[hst'];simpa using h.size;show st'.boxes.length=st'.slots.length;rw[hst'];simpa using h.bsize;intro i av hi;have hi':(st.slots.set s (.val gg (cs.set j x1)))[i]?=some av:=by have:st'.slots[i]?=some av:=hi;rw[hst']at this;exact this
  by_cases his:i=s;subst his;rw[bH]at hi';simp only[cg,hslt]at hi';simp at hi';subst hi';exact .inr ⟨_,⟨vs,hcut,hrel⟩,hnn,hll⟩;rw[aP (cR his)]at hi';exact .inl ⟨⟨by simp[ko],by simpa using his⟩,hi',rfl⟩;intro t cs' hb;have hb':st.boxes[t]?=some (some cs'):=by have:st'.boxes[t]?=some (some cs'):=hb;rw[hst']at this;exact this
  exact .inl ⟨⟨by simp[ko],by simp⟩,hb',rfl⟩
theorem ez.ahP (h:ez C g st a w hs)(s j:Nat)(hget:st.fD (.box s j)=some x0): ∃v f2,hY (dc C g st w) v x0 f2/\f2.Nodup/\(∀b∈f2,g.lab b=some (.box s))/\ ∀(w':World)(hw':Nat->Nat)(x1:AC)(fp1:fu),(∀c',(dc C g st w).Le c'->c'.w=w'->c'.hw=hw'->hY c' v x1 fp1)->fp1.Nodup->(∀b∈fp1,b<w'.heap.size/\(b∈f2\/ed (g.lab b)))-> Fr (λb=>ed (g.lab b)\/b∈f2) w w'->(∀b x,g.lab b=some x->¬ed (some x)->b∉f2->hw' b=g.hw b)-> ∃g',ez C g' {st.fH (.box s j) x1 with ep:=st.ep+1} a w' []:=by
 have hbx:∃cs,st.boxes[s]?=some (some cs)/\cs[j]?=some x0:=by rw[AS.fD,ei]at hget;cases hb:st.boxes[s]? with|none=>simp[hb]at hget|some o=>cases o with|none=>simp[hb]at hget|some cs=>exact⟨cs,rfl,by simpa[hb,ei]using hget⟩
 obtain⟨cs,hbx,hgx⟩:=hbx;have hslt:s<st.boxes.length:=(aC.1 hbx).1;obtain⟨arr,T,fr,fp,hblk,hth,hr,hn,hnb,hl,hl0,hw0⟩:=h.boxes s cs hbx;obtain⟨v,f1,f2,f3,hv,rfl,hown,hn2,hl2,hfin⟩:=h.IH (.box s) (by simp[ko]) hr hn hl hgx;refine⟨v,f2,hown,hn2,hl2,?_⟩;intro w' hw' x1 fp1 hown' hn1 hfp1 hfr hhw;let st':AS:={st.fH (.box s j) x1 with ep:=st.ep+1}
 have hst':st'={st with boxes:=st.boxes.set s (some (cs.set j x1)),ep:=st.ep+1}:=by show({st.fH (.box s j) x1 with ep:=st.ep+1}:AS)=_;simp only[AS.fH,ei,hbx,fT,AS.eZ,fP]
 obtain⟨hle,hrel,hnn,hll,hk1,hk2,hfrC,hlabs⟩:=hfin w' hw' st' x1 fp1 rfl (by rw[hst']) (λt ht=>by rw[hst'];obtain⟨c0,hc0⟩:=ht;by_cases hts:s=t;subst hts;exact⟨cs.set j x1,by simp[hslt]⟩;exact⟨c0,by rw[aP hts];exact hc0⟩) hown' hn1 hfp1 hfr hhw;have hβ:=hk2 (g.β s) hl0 hnb;refine⟨_,h.step (λx=>¬ed (some x)/\x≠ .box s) hle h.defers ?_ ?_ hfrC hlabs (λb x hk hx=>hk1 b x hk.1 hk.2 hx) ?_ ?_ (λk u bv hk=>by simp at hk) (.inl ⟨⟨by simp[ko],by simp⟩,by show st'.io=st.io;rw[hst']⟩)⟩;show _=st'.slots.length;rw[hst'];exact h.size;show st'.boxes.length=st'.slots.length;rw[hst'];simpa using h.bsize;intro i av hi;have hi':st.slots[i]?=some av:=by have:st'.slots[i]?=some av:=hi;rw[hst']at this;exact this
 exact .inl ⟨⟨by simp[ko],by simp⟩,hi',rfl⟩;intro t cs' hb;have hb':(st.boxes.set s (some (cs.set j x1)))[t]?=some (some cs'):=by have:st'.boxes[t]?=some (some cs'):=hb;rw[hst']at this;exact this
 by_cases hts:t=s;subst hts;rw[bH]at hb';simp only[cg,hslt]at hb';simp at hb';subst hb';have hnb':g.β t∉f1++fp1++f3:=by intro hm;simp only[ay]at hm;rcases hm with(hm|hm)|hm;exact hnb (by simp[hm]);rcases(hfp1 _ hm).2 with h2|h2;exact hnb (by simp[h2]);rw[hl0]at h2;cases h2;exact hnb (by simp[hm])
 exact .inr ⟨arr,T,fr,_,hβ.2.1.trans hblk,hth,hrel,hnn,hnb',hll,hβ.1,hβ.2.2.trans hw0⟩;rw[aP (cR hts)]at hb';exact .inl ⟨⟨by simp[ko],by simpa using hts⟩,hb',rfl⟩
theorem ez.am2 (h:ez C g st a w hs)(j:Nat)(hget:st.fD (.io j)=some x0): ∃v f2,hY (dc C g st w) v x0 f2/\f2.Nodup/\(∀b∈f2,g.lab b=some .io)/\ ∀(w':World)(hw':Nat->Nat)(x1:AC)(fp1:fu),(∀c',(dc C g st w).Le c'->c'.w=w'->c'.hw=hw'->hY c' v x1 fp1)->fp1.Nodup->(∀b∈fp1,b<w'.heap.size/\(b∈f2\/ed (g.lab b)))-> Fr (λb=>ed (g.lab b)\/b∈f2) w w'->(∀b x,g.lab b=some x->¬ed (some x)->b∉f2->hw' b=g.hw b)-> ∃g',ez C g' {st.fH (.io j) x1 with ep:=st.ep+1} a w' []:=by
 have hgx:st.io[j]?=some x0:=by rw[AS.fD,ei]at hget;exact hget
 obtain⟨fp,hr,hn,hl⟩:=h.io;obtain⟨v,f1,f2,f3,hv,rfl,hown,hn2,hl2,hfin⟩:=h.IH .io (by simp[ko]) hr hn hl hgx;refine⟨v,f2,hown,hn2,hl2,?_⟩;intro w' hw' x1 fp1 hown' hn1 hfp1 hfr hhw;let st':AS:={st.fH (.io j) x1 with ep:=st.ep+1}
 have hst':st'={st with io:=st.io.set j x1,ep:=st.ep+1}:=by show({st.fH (.io j) x1 with ep:=st.ep+1}:AS)=_;simp only[AS.fH,fP]
 obtain⟨hle,hrel,hnn,hll,hk1,hk2,hfrC,hlabs⟩:=hfin w' hw' st' x1 fp1 rfl (by rw[hst']) (λs hs=>by rw[hst'];exact hs) hown' hn1 hfp1 hfr hhw
 refine⟨_,h.step (λx=>¬ed (some x)/\x≠ .io) hle h.defers ?_ ?_ hfrC hlabs (λb x hk hx=>hk1 b x hk.1 hk.2 hx) ?_ ?_ (λk u bv hk=>by simp at hk) (.inr ⟨_,by
  have:st'.io=st.io.set j x1:=by rw[hst']
  show bR _ _ st'.io _;rw[this];exact hrel,hnn,hll⟩)⟩
 show _=st'.slots.length;rw[hst'];exact h.size;show st'.boxes.length=st'.slots.length;rw[hst'];exact h.bsize;intro i av hi;have hi':st.slots[i]?=some av:=by have:st'.slots[i]?=some av:=hi;rw[hst']at this;exact this
 exact .inl ⟨⟨by simp[ko],by simp⟩,hi',rfl⟩;intro t cs' hb;have hb':st.boxes[t]?=some (some cs'):=by have:st'.boxes[t]?=some (some cs'):=hb;rw[hst']at this;exact this
 exact .inl ⟨⟨by simp[ko],by simp⟩,hb',rfl⟩
theorem ez.RQ (h:ez C g st a w hs)(r:kG)(hne:x0≠ .bot)(hget:st.fD r=some x0): ∃v f2,hY (dc C g st w) v x0 f2/\f2.Nodup/\(∀b∈f2,g.lab b=some r.owner)/\ ∀(w':World)(hw':Nat->Nat)(x1:AC)(fp1:fu),(∀c',(dc C g st w).Le c'->c'.w=w'->c'.hw=hw'->hY c' v x1 fp1)->fp1.Nodup->(∀b∈fp1,b<w'.heap.size/\(b∈f2\/ed (g.lab b)))-> Fr (λb=>ed (g.lab b)\/b∈f2) w w'->(∀b x,g.lab b=some x->¬ed (some x)->b∉f2->hw' b=g.hw b)-> ∃g',ez C g' {st.fH r x1 with ep:=st.ep+1} a w' []:=by cases r with|slot s j=>exact h.aeF s j hne hget|box s j=>exact h.ahP s j hget|io j=>exact h.am2 j hget
theorem ez.RR (h:ez C g st a w hs)(r:kG){tag:az Nat}{e:CT}{xs:aw e.D}(hget:st.fD r=some (.sl (.own tag) e xs)): ∃v f2,(∀t,tag=some t->v=g.hdr t)/\fM g.hw w (.sl e) [v] xs f2/\f2.Nodup/\(∀b∈f2,g.lab b=some r.owner)/\ ∀(w':World)(hw':Nat->Nat)(xs':aw e.D)(fp1:fu),fM hw' w' (.sl e) [v] xs' fp1->fp1.Nodup->(∀b∈fp1,b<w'.heap.size/\(b∈f2\/ed (g.lab b)))-> Fr (λb=>ed (g.lab b)\/b∈f2) w w'->(∀b x,g.lab b=some x->¬ed (some x)->b∉f2->hw' b=g.hw b)-> ∃g',ez C g' {st.fH r (.sl (.own tag) e xs')with ep:=st.ep+1} a w' []:=by obtain⟨v,f2,hrel,hn2,hl2,hfin⟩:=h.RQ r (by simp) hget;refine⟨v,f2,λt ht=>(hrel.2 t ht).2,hrel.1,hn2,hl2,λw' hw' xs' fp1 hown hn1 hfp1 hfr hhw=>hfin w' hw' (.sl (.own tag) e xs') fp1 (λc' hle hcw hchw=>⟨?_,λt ht=>?_⟩) hn1 hfp1 hfr hhw⟩;rw[hcw,hchw];exact hown;have h1:=hrel.2 t ht;exact⟨(hle.hdr t h1.1).1,by rw[(hle.hdr t h1.1).2];exact h1.2⟩
theorem ez.aeG (h:ez C g st a w [])(r:kG)(hne:x0≠ .bot)(hget:st.fD r=some x0): ∃v f2,hY (dc C g st w) v x0 f2/\f2.Nodup/\(∀b∈f2,g.lab b=some r.owner)/\ ∀(x1:AC)(fp1 fh:fu)(u:Value)(av:AV),(∀c',(dc C g st w).Le c'->c'.w=w->c'.hw=g.hw->c'.ep=st.ep->hY c' v x1 fp1)->fp1.Nodup->fh.Nodup->(∀b∈fp1,b∈f2/\b∉fh)->(∀b∈fh,b∈f2)-> gE (dc C g st w) u av fh->∃g',ez C g' (st.fH r x1) a w [(u,av)]:=by
 have core:∀(o:jX){vs:iS}{cs:aw AC}{fp:fu}{j:Nat},bR (dc C g st w) vs cs fp->fp.Nodup->(∀b∈fp,g.lab b=some o)->cs[j]?=some x0->
  ∃v f2,hY (dc C g st w) v x0 f2/\f2.Nodup/\(∀b∈f2,g.lab b=some o/\b∈fp)/\
   ∀(st':AS)(x1:AC)(fp1 fh:fu)(u:Value)(av:AV),st'.ep=st.ep->st'.iss=st.iss->(∀s,jq st s->jq st' s)->(∀c',(dc C g st w).Le c'->c'.w=w->c'.hw=g.hw->c'.ep=st.ep->hY c' v x1 fp1)->fp1.Nodup->fh.Nodup->(∀b∈fp1,b∈f2/\b∉fh)->(∀b∈fh,b∈f2)->gE (dc C g st w) u av fh->
    (dc C g st w).Le (dc C {g with lab:=λb=>if b∈fh then some (.hand 0) else g.lab b} st' w)/\
    ∃fp',bR (dc C {g with lab:=λb=>if b∈fh then some (.hand 0) else g.lab b} st' w) vs (cs.set j x1) fp'/\fp'.Nodup/\(∀b∈fp',b∉fh/\b∈fp)/\
    HH C {g with lab:=λb=>if b∈fh then some (.hand 0) else g.lab b} st' w 0 u av:=by
  intro o vs cs fp j hrel hn hl hx
  obtain⟨v,f1,f2,f3,hv,rfl,hr2,hset⟩:=hrel.ait hx
  have hn':=hn
  rw[aZ]at hn'
  have n1:=aO.1 hn'
  have n2:=aO.1 n1.2.1
  refine⟨v,f2,hr2,n2.1,λb hb=>⟨hl b (by simp[hb]),by simp[hb]⟩,?_⟩
  intro st' x1 fp1 fh u av hep hiss hpres hx1 hn1 hnh hfp1 hfh hu
  have hle:(dc C g st w).Le (dc C {g with lab:=λb=>if b∈fh then some (.hand 0) else g.lab b} st' w):=
   ⟨rfl,λt ht=>⟨by show mM st' t;have ht':mM st t:=ht;simpa[mM,hiss]using ht',rfl⟩,λ_ _ _ _ _ hu=>hu,by show st.ep<=st'.ep;omega,λs hs=>⟨hpres s hs,rfl⟩,λ_ b o u ho hu=>⟨ho,hu⟩⟩
  have hdis:∀b∈f1++f3,b∉f2:=by intro b hb h2;rcases ay.1 hb with hb|hb;exact n1.2.2 b hb b (bI _ h2) rfl;exact n2.2.2 b h2 b hb rfl
  refine⟨hle,f1++fp1++f3,hset _ hle _ fp1 (hx1 _ hle rfl rfl hep) (λ_ _=>⟨rfl,rfl⟩),?_,?_,fh,hu.mono hle (λ_ _=>⟨rfl,rfl⟩),hnh,λb hb=>?_⟩
  ·rw[aZ]
   refine aO.2 ⟨n1.1,aO.2 ⟨hn1,n2.2.1,?_⟩,?_⟩
   ·rintro b hb c hc rfl;exact hdis b (by simp[hc]) (hfp1 b hb).1
   ·rintro b hb c hc rfl
    rcases ay.1 hc with hc|hc
    ·exact hdis b (by simp[hb]) (hfp1 b hc).1
    ·exact n1.2.2 b hb b (bw _ hc) rfl
  ·intro b hb
   simp only[ay]at hb
   rcases hb with(hb|hb)|hb
   ·exact⟨λhm=>hdis b (by simp[hb]) (hfh b hm),by simp[hb]⟩
   ·exact⟨(hfp1 b hb).2,by simp[(hfp1 b hb).1]⟩
   ·exact⟨λhm=>hdis b (by simp[hb]) (hfh b hm),by simp[hb]⟩
  ·show(if b∈fh then _ else _)=_
   rw[aE hb]
 have labs':∀(fh:fu),∀b x,(if b∈fh then some (jX.hand 0) else g.lab b)=some x->(b∈fh->∃y,g.lab b=some y)->b<w.heap.size/\(C.w0.heap.size<=b\/C.M b):=by intro fh b x hx hy;by_cases hm:b∈fh;obtain⟨y,hy⟩:=hy hm;exact h.labs b y hy;rw[aD hm]at hx;exact h.labs b x hx
 have labk:∀(fh:fu)(o:jX),(∀b∈fh,g.lab b=some o)->∀b x,x≠o->g.lab b=some x->(if b∈fh then some (jX.hand 0) else g.lab b)=some x:=by intro fh o hfh b x hxo hb;rw[aD (λhm=>hxo (by have:=hfh b hm;rw[hb]at this;simpa using this))];exact hb
 cases r with
 |slot s j=>
  have hslt:s<st.slots.length:=by
   rcases cq s st.slots.length with hlt|hge;exact hlt;have:st.get s=.bot:=by simp[AS.get,ei,bG hge]
   rw[AS.fD,this]at hget;cases j with|zero=>simp[nth]at hget;exact absurd hget.symm hne|succ j=>simp[nth]at hget
  have hsl:st.slots[s]?=some (st.get s):=by rw[get_eq (al hslt)];exact al hslt
  obtain⟨fp,hr,hn,hl⟩:=h.slots s _ hsl;cases hg:st.get s with
  |tup ts=>rw[AS.fD,hg]at hget;cases hget
  |val gg cs=>
   have hgx:cs[j]?=some x0:=by rw[AS.fD,hg]at hget;simpa[ei]using hget
   rw[hg]at hr;obtain⟨vs,hcut,hr⟩:=hr;have hst:∀x1,st.fH (.slot s j) x1={st with slots:=st.slots.set s (.val gg (cs.set j x1))}:=λx1=>by simp only[AS.fH,hg,AS.put,fP]
   obtain⟨v,f2,hrv,hn2,hl2,hfin⟩:=core (.slot s) hr hn hl hgx;refine⟨v,f2,hrv,hn2,λb hb=>(hl2 b hb).1,?_⟩;intro x1 fp1 fh u av hx1 hn1 hnh hfp1 hfh hu;obtain⟨hle,fp',hrel,hnn,hmem,hhand⟩:=hfin (st.fH (.slot s j) x1) x1 fp1 fh u av (by rw[hst]) (by rw[hst]) (λ_ q=>by rw[hst];exact q) hx1 hn1 hnh hfp1 hfh hu;have hfo:∀b∈fh,g.lab b=some (.slot s):=λb hb=>(hl2 b (hfh b hb)).1;refine⟨_,h.step (λx=>x≠ .slot s) hle h.defers ?_ ?_ h.frame (λb x hx=>labs' fh b x hx (λhm=>⟨_,hfo b hm⟩)) (λb x hk hb=>⟨labk fh _ hfo b x hk hb,rfl,rfl⟩) ?_ ?_ ?_ (.inl ⟨by simp,by rw[hst]⟩)⟩;rw[hst];simpa using h.size;rw[hst];simpa using h.bsize;intro i bv hi;rw[hst]at hi;have hi':(st.slots.set s (.val gg (cs.set j x1)))[i]?=some bv:=hi;by_cases his:i=s;subst his;rw[bH]at hi';simp only[cg,hslt]at hi';simp at hi';subst hi';refine .inr ⟨fp',⟨vs,hcut,hrel⟩,hnn,λb hb=>?_⟩;show(if b∈fh then _ else _)=_;rw[aD (hmem b hb).1];exact hl b (hmem b hb).2;rw[aP (cR his)]at hi';exact .inl ⟨by simpa using his,hi',rfl⟩;intro t cs' hb;rw[hst]at hb;exact .inl ⟨by simp,hb,rfl⟩;intro k u' bv hk;cases k with
   |zero=>simp only[cA,br,Prod.mk.injEq]at hk;obtain⟨rfl,rfl⟩:=hk;exact .inr hhand
   |succ k=>simp at hk
 |box s j=>
  have hbx:∃cs,st.boxes[s]?=some (some cs)/\cs[j]?=some x0:=by rw[AS.fD,ei]at hget;cases hb:st.boxes[s]? with|none=>simp[hb]at hget|some o=>cases o with|none=>simp[hb]at hget|some cs=>exact⟨cs,rfl,by simpa[hb,ei]using hget⟩
  obtain⟨cs,hbx,hgx⟩:=hbx;have hslt:s<st.boxes.length:=(aC.1 hbx).1;obtain⟨arr,T,fr,fp,hblk,hth,hr,hn,hnb,hl,hl0,hw0⟩:=h.boxes s cs hbx;have hst:∀x1,st.fH (.box s j) x1={st with boxes:=st.boxes.set s (some (cs.set j x1))}:=λx1=>by simp only[AS.fH,ei,hbx,fT,AS.eZ,fP]
  obtain⟨v,f2,hrv,hn2,hl2,hfin⟩:=core (.box s) hr hn hl hgx;refine⟨v,f2,hrv,hn2,λb hb=>(hl2 b hb).1,?_⟩;intro x1 fp1 fh u av hx1 hn1 hnh hfp1 hfh hu;obtain⟨hle,fp',hrel,hnn,hmem,hhand⟩:=hfin (st.fH (.box s j) x1) x1 fp1 fh u av (by rw[hst]) (by rw[hst]) (λt ht=>by rw[hst];obtain⟨c0,hc0⟩:=ht;by_cases hts:s=t;subst hts;exact⟨cs.set j x1,by simp[hslt]⟩;exact⟨c0,by rw[aP hts];exact hc0⟩) hx1 hn1 hnh hfp1 hfh hu;have hfo:∀b∈fh,g.lab b=some (.box s):=λb hb=>(hl2 b (hfh b hb)).1;refine⟨_,h.step (λx=>x≠ .box s) hle h.defers ?_ ?_ h.frame (λb x hx=>labs' fh b x hx (λhm=>⟨_,hfo b hm⟩)) (λb x hk hb=>⟨labk fh _ hfo b x hk hb,rfl,rfl⟩) ?_ ?_ ?_ (.inl ⟨by simp,by rw[hst]⟩)⟩;rw[hst];exact h.size;rw[hst];simpa using h.bsize;intro i bv hi;rw[hst]at hi;exact .inl ⟨by simp,hi,rfl⟩;intro t cs' hb;rw[hst]at hb;have hb':(st.boxes.set s (some (cs.set j x1)))[t]?=some (some cs'):=hb;by_cases hts:t=s;subst hts;rw[bH]at hb';simp only[cg,hslt]at hb';simp at hb';subst hb';have hβ:g.β t∉fh:=λhm=>hnb (hl2 _ (hfh _ hm)).2;refine .inr ⟨arr,T,fr,fp',hblk,hth,hrel,hnn,λhm=>hnb (hmem _ hm).2,λb hb=>?_,?_,hw0⟩;show(if b∈fh then _ else _)=_;rw[aD (hmem b hb).1];exact hl b (hmem b hb).2;show(if g.β t∈fh then _ else _)=_;rw[aD hβ];exact hl0;rw[aP (cR hts)]at hb';exact .inl ⟨by simpa using hts,hb',rfl⟩;intro k u' bv hk;cases k with
  |zero=>simp only[cA,br,Prod.mk.injEq]at hk;obtain⟨rfl,rfl⟩:=hk;exact .inr hhand
  |succ k=>simp at hk
 |io j=>
  have hgx:st.io[j]?=some x0:=by rw[AS.fD,ei]at hget;exact hget
  obtain⟨fp,hr,hn,hl⟩:=h.io;have hst:∀x1,st.fH (.io j) x1={st with io:=st.io.set j x1}:=λx1=>by simp only[AS.fH,fP]
  obtain⟨v,f2,hrv,hn2,hl2,hfin⟩:=core .io hr hn hl hgx;refine⟨v,f2,hrv,hn2,λb hb=>(hl2 b hb).1,?_⟩;intro x1 fp1 fh u av hx1 hn1 hnh hfp1 hfh hu;obtain⟨hle,fp',hrel,hnn,hmem,hhand⟩:=hfin (st.fH (.io j) x1) x1 fp1 fh u av (by rw[hst]) (by rw[hst]) (λ_ q=>by rw[hst];exact q) hx1 hn1 hnh hfp1 hfh hu;have hfo:∀b∈fh,g.lab b=some .io:=λb hb=>(hl2 b (hfh b hb)).1;refine⟨_,h.step (λx=>x≠ .io) hle h.defers ?_ ?_ h.frame (λb x hx=>labs' fh b x hx (λhm=>⟨_,hfo b hm⟩)) (λb x hk hb=>⟨labk fh _ hfo b x hk hb,rfl,rfl⟩) ?_ ?_ ?_ (.inr ⟨fp',?_,hnn,λb hb=>?_⟩)⟩;rw[hst];exact h.size;rw[hst];exact h.bsize;intro i bv hi;rw[hst]at hi;exact .inl ⟨by simp,hi,rfl⟩;intro t cs' hb;rw[hst]at hb;exact .inl ⟨by simp,hb,rfl⟩;intro k u' bv hk;cases k with
  |zero=>simp only[cA,br,Prod.mk.injEq]at hk;obtain⟨rfl,rfl⟩:=hk;exact .inr hhand
  |succ k=>simp at hk
  have:(st.fH (.io j) x1).io=st.io.set j x1:=by rw[hst]
  rw[this];exact hrel;show(if b∈fh then _ else _)=_;rw[aD (hmem b hb).1];exact hl b (hmem b hb).2
theorem ez.WR (h:ez C g st a w hs){v:Value}{x:AC}(r:hY (dc C g st w) v x []):hY (dc C g st w) v (st.fresh x) []:=by
 unfold AS.fresh;split;rename_i ep rt t e xs;cases hep:(ep==st.ep)with
 |true=>exact r
 |false=>
  simp only[af];split;rename_i t' e' ys hget;split;rename_i he;subst he;cases ht:(t'==t)with
  |false=>exact r
  |true=>
   have:t'=t:=by simpa using ht
   subst this;simp only[ah];obtain⟨v0,f2,hh,hown,_,_,_⟩:=h.RR rt hget;obtain⟨h1,h2,h3,h4,h5⟩:=r;obtain⟨k1,k2⟩:=h5 rt t' rfl;have hv:v0=v:=(hh t' rfl).trans k2.symm;subst hv;exact⟨h1,bh _,Ms hown,λ_=>fM.rep (λb o ho=> .inr ho) hown,λr1 t1 hp=>by simp at hp;obtain⟨_,rfl⟩:=hp;exact⟨k1,k2⟩⟩
  exact r;exact r
 exact r
theorem ez.I7 (h:ez C g st a w hs):∀{vs:iS}{xs:aw AC},bR (dc C g st w) vs xs []->bR (dc C g st w) vs (xs.map st.fresh) []
 |[],[],r=>r
 |_::_,_::_,r=>by
  obtain⟨f1,f2,he,r1,r2⟩:=r;have h1:f1=[]:=by have:=he.symm;simp at this;exact this.1
  have h2:f2=[]:=by have:=he.symm;simp at this;exact this.2
  subst h1;subst h2;exact⟨[],[],rfl,h.WR r1,h.I7 r2⟩
 |[],_::_,r=>r.elim
 |_::_,[],r=>r.elim
theorem ez.fresh (h:ez C g st a w hs){v:Value}{x:AV}(r:gE (dc C g st w) v x []):gE (dc C g st w) v (x.fresh st) []:=by
 cases x with
 |val gg cs=>obtain⟨vs,hv,r⟩:=r;exact⟨vs,hv,h.I7 r⟩
 |tup ts=>exact r
end Go.Dn
