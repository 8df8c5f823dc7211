import Derived.Test.YtainmjjkipbciaaGreatDnPut
/- A box is made or written; an element of an owned slice is written. -/
namespace Go.Dn
open Go.RowKit
variable {C:Ctx} {g:Gh} {st:AS} {a:Act} {w:World} {hs:aw (Value×AV)}
variable {x0:AC} {fp:fg}
theorem jH {s:Nat}{b:ax (aw AC)}:(st.eD s b).boxes=st.boxes.set s b:=by simp[AS.eD,fe]
theorem No {s:Nat}{cs:aw AC}{g':Gh}{w':World}(L5:g'.hdr=g.hdr)(Yu:∀k b o u,C.A k b o->w.cell? ⟨b,o,none⟩=some u->w'.cell? ⟨b,o,none⟩=some u)(GI:∀t,iR st t->g'.β t=g.β t)(Fg:∀b o u,o<g.hw b->w.cell? ⟨b,o,none⟩=some u->o<g'.hw b/\w'.cell? ⟨b,o,none⟩=some u): (cG C g st w).Le (cG C g' (st.eD s (some cs)) w'):=by refine⟨rfl,λt ht=>⟨ht,by show g'.hdr t=g.hdr t;rw[L5]⟩,Yu,aU _,λt ht=>⟨?_,GI t ht⟩,λ_ b o u ho hu=>Fg b o u ho hu⟩;obtain⟨po,hc⟩:=ht;show∃apC,(st.eD s (some cs)).boxes[t]?=some (some apC);rw[jH];by_cases rH:s=t;subst rH;have gW:s<st.boxes.length:=(aG.1 hc).1;exact⟨cs,by simp[gW]⟩;exact⟨po,by rw[aR rH];exact hc⟩
theorem dP.Uk (h:dP C g st a w hs)(s:Nat){cs:aw AC}{arr:Array Value}{T:TypeId}{fr:Nat×Nat}{w':World}{bnew:Nat}{hw':Nat->Nat}(hbn:(bnew=g.β s/\g.ef bnew=some (.box s))\/(w.heap.size<=bnew/\st.boxes[s]?=some none))(jf:Fr (λb=>dE (g.ef b)\/b=bnew) w w')(jJ:w'.heap[bnew]?=some (.cells arr T fr))(qM:oF arr fr)(gW:bnew<w'.heap.size)(arJ:hw' bnew=0)(C6:∀b x,g.ef b=some x->¬dE (some x)->b≠bnew->hw' b=g.hw b)(Fg:∀b o u,o<g.hw b->w.cell? ⟨b,o,none⟩=some u->o<hw' b/\w'.cell? ⟨b,o,none⟩=some u)(hr:bE ⟨hw',λt=>if t=s then bnew else g.β t,C.A,g.hdr,lT st,st.ep,iR st,w'⟩ arr.toList cs fp)(hn:fp.Nodup)(uz:bnew∉fp)(Bw:∀b∈fp,b<w'.heap.size/\(dE (g.ef b)\/g.ef b=some (.box s)\/w.heap.size<=b)): ∃g',g'.β s=bnew/\dP C g' (st.eD s (some cs)) a w' []:=by
 have Yu:∀k b o u,C.A k b o->w.cell? ⟨b,o,none⟩=some u->w'.cell? ⟨b,o,none⟩=some u:=by
  intro k b o u hA hu;have hb:b<w.heap.size:=World.block_lt_of_cell? w _ hu;have HJ:¬(dE (g.ef b)\/b=bnew):=by
   rintro(hh|rfl);cases hx:g.ef b with|none=>rw[hx]at hh;cases hh|some x=>exact h.KI hx k o hA
   rcases hbn with⟨_,h2⟩|h2;exact h.KI h2 k o hA;omega
  rw[World.cell?_of_block (a:=⟨b,o,none⟩) (jf.block b hb HJ)];exact hu
 have Az:∀b x,g.ef b=some x->x≠ .box s->b≠bnew:=by rintro b x hx hxs rfl;rcases hbn with⟨_,h2⟩|h2;rw[hx]at h2;exact hxs (by simpa using h2);have:=(h.fS b x hx).1;omega
 have hkp:∀b x,g.ef b=some x->¬dE (some x)->x≠ .box s->w'.heap[b]?=w.heap[b]?:=λb x hx hh hxs=>
  jf.block b (h.fS b x hx).1 (by rintro(k|k);rw[hx]at k;exact hh k;exact Az b x hx hxs k)
 let β':Nat->Nat:=λt=>if t=s then bnew else g.β t
 let Zm:Nat->ax jx:=λb=>if b=bnew\/b∈fp then some (.box s) else if dE (g.ef b) then none else g.ef b
 let g':Gh:=⟨hw',β',Zm,g.hdr⟩
 have Pp:Fr C.M C.w0 w':=h.frame.trans jf (λb hb hh=>by
  rcases hh with hh|rfl;cases hx:g.ef b with|none=>rw[hx]at hh;cases hh|some x=>rcases(h.fS b x hx).2 with h2|h2;omega;exact h2
  rcases hbn with⟨_,h2⟩|h2;rcases(h.fS b _ h2).2 with h3|h3;omega;exact h3;have:=h.frame.size;omega)
 have GI:∀t,iR st t->β' t=g.β t:=by rintro t ⟨po,hc⟩;show(if t=s then bnew else g.β t)=g.β t;by_cases rH:t=s;subst rH;rcases hbn with⟨h2,_⟩|⟨_,h2⟩;simp[h2];rw[h2]at hc;cases hc;simp[rH]
 have hle:(cG C g st w).Le (cG C g' (st.eD s (some cs)) w'):=No rfl Yu GI Fg;have ahQ:(RC.mk hw' β' C.A g.hdr (lT st) st.ep (iR st) w').Le (cG C g' (st.eD s (some cs)) w'):=⟨rfl,λ_ ht=>⟨ht,rfl⟩,λ_ _ _ _ _ hu=>hu,aU _,λt ht=>⟨(hle.FQ t ht).1,rfl⟩,λ_ b o u ho hu=>⟨ho,hu⟩⟩
 refine⟨g',by show(if s=s then bnew else g.β s)=bnew;simp,h.step (λx=>¬dE (some x)/\x≠ .box s) hle h.defers h.size ?_ Pp ?_ ?_ ?_ ?_ ?_ (.inl ⟨⟨by simp[jL],by simp⟩,rfl⟩)⟩;show(st.eD s (some cs)).boxes.length=st.slots.length;rw[jH,aC];exact h.bsize;intro b x hx;have zt:(if b=bnew\/b∈fp then some (jx.box s) else if dE (g.ef b) then none else g.ef b)=some x:=hx;by_cases hm:b=bnew\/b∈fp;rcases hm with rfl|hm;refine⟨gW,?_⟩;rcases hbn with⟨_,h2⟩|h2;exact(h.fS b _ h2).2;exact .inl (bA h.frame.size h2.1);refine⟨(Bw b hm).1,?_⟩;rcases(Bw b hm).2 with h2|h2|h2;cases hy:g.ef b with|none=>rw[hy]at h2;cases h2|some y=>exact(h.fS b y hy).2
 exact(h.fS b _ h2).2;exact .inl (bA h.frame.size h2);rw[aH hm]at zt;split at zt;cases zt;have hl:=h.fS b x zt;have hz:=jf.size;exact⟨by omega,hl.2⟩;intro b x hk hx;have hb1:=Az b x hx hk.2;refine⟨?_,hkp b x hx hk.1 hk.2,C6 b x hx hk.1 hb1⟩;show(if b=bnew\/b∈fp then some (jx.box s) else if dE (g.ef b) then none else g.ef b)=some x;have UT:¬(b=bnew\/b∈fp):=by rintro(hm|hm);exact hb1 hm;rcases(Bw b hm).2 with h2|h2|h2;rw[hx]at h2;exact hk.1 h2;rw[hx]at h2;exact hk.2 (by simpa using h2);have:=(h.fS b x hx).1;omega
 rw[aH UT,aH (by rw[hx];exact hk.1),hx];intro i av hi;exact .inl ⟨⟨by simp[jL],by simp⟩,hi,rfl⟩;intro t po hb;have gM:(st.boxes.set s (some cs))[t]?=some (some po):=by rw[<-jH];exact hb
 by_cases rH:t=s;subst rH;rw[bu]at gM;simp only[bP]at gM;split at gM;simp at gM;subst gM;have aeT:β' t=bnew:=by show(if t=t then bnew else g.β t)=bnew;simp
 refine .inr ⟨arr,T,fr,fp,?_,qM,hr.mono ahQ (λb _=>⟨rfl,rfl⟩),hn,?_,?_,?_,?_⟩;show w'.heap[β' t]?=_;rw[aeT];exact jJ;show β' t∉fp;rw[aeT];exact uz;intro b hb;show(if b=bnew\/b∈fp then _ else _)=_;rw[aF (.inr hb)];show(if β' t=bnew\/β' t∈fp then _ else _)=_;rw[aF (.inl aeT)];show hw' (β' t)=0;rw[aeT];exact arJ;cases gM;rw[aR (cM rH)]at gM;exact .inl ⟨⟨by simp[jL],by simpa using rH⟩,gM,by show(if t=s then bnew else g.β t)=_;simp[rH]⟩;intro k u bv hk;simp at hk
def jW.owner:jW->jx
 | .slot s _=> .slot s
 | .box s _=> .box s
 | .io _=> .io
theorem bE.agn {c:RC}{vs:ir}{cs:aw AC}(hr:bE c vs cs fp){j:Nat}{x:AC}(hx:cs[j]?=some x): ∃v f1 f2 f3,vs[j]?=some v/\fp=f1++f2++f3/\gB c v x f2/\ ∀(c':RC),c.Le c'->∀x' f2',gB c' v x' f2'->(∀b∈f1++f3,c'.w.heap[b]?=c.w.heap[b]?/\c'.hw b=c.hw b)-> bE c' vs (cs.set j x') (f1++f2'++f3):=by
 have hj:j<cs.length:=(aG.1 hx).1;obtain⟨f1,fr,rfl,r1,r2⟩:=hr.split j;have hlen:=hr.length;have hjv:j<vs.length:=by omega
 have ecs:cs.drop j=x::cs.drop (j+1):=by rw[cd hj];congr 1;rw[al hj]at hx;simpa using hx
 have evs:vs.drop j=vs[j]::vs.drop (j+1):=cd hjv;rw[ecs,evs]at r2;obtain⟨f2,f3,rfl,r2,r3⟩:=r2;refine⟨vs[j],f1,f2,f3,al hjv,by simp,r2,λc' hle x' f2' zt hb=>?_⟩;have e1:vs=vs.take j++(vs[j]::vs.drop (j+1)):=by rw[<-evs,cb]
 have e2:cs.set j x'=cs.take j++(x'::cs.drop (j+1)):=by rw[List.set_eq_take_append_cons_drop,aF hj]
 rw[e1,e2,aP];refine bE.append (r1.mono hle (λb gM=>hb b (bw _ gM))) ⟨f2',f3,rfl,zt,?_⟩;exact r3.mono hle (λb gM=>hb b (bj _ gM))
def Gh.wrote (g:Gh)(o:jx)(fp:fg)(hw':Nat->Nat):Gh:=
 ⟨hw',g.β,λb=>if b∈fp then some o else if dE (g.ef b) then none else g.ef b,g.hdr⟩
theorem dP.He (h:dP C g st a w hs)(o:jx)(LS:¬dE (some o)){vs:ir}{cs:aw AC}{j:Nat}(eK:bE (cG C g st w) vs cs fp)(hn:fp.Nodup)(hl:∀b∈fp,g.ef b=some o)(hx:cs[j]?=some x0): ∃v f1 f2 f3,vs[j]?=some v/\fp=f1++f2++f3/\gB (cG C g st w) v x0 f2/\f2.Nodup/\(∀b∈f2,g.ef b=some o)/\ ∀(w':World)(hw':Nat->Nat)(bK:AS)(x1:AC)(pP:fg),bK.ep=st.ep+1->bK.iss=st.iss->(∀s,iR st s->iR bK s)-> (∀c',(cG C g st w).Le c'->c'.w=w'->c'.hw=hw'->gB c' v x1 pP)->pP.Nodup->(∀b∈pP,b<w'.heap.size/\(b∈f2\/dE (g.ef b)))-> Fr (λb=>dE (g.ef b)\/b∈f2) w w'->(∀b x,g.ef b=some x->¬dE (some x)->b∉f2->hw' b=g.hw b)-> (cG C g st w).Le (cG C (g.wrote o (f1++pP++f3) hw') bK w')/\ bE (cG C (g.wrote o (f1++pP++f3) hw') bK w') vs (cs.set j x1) (f1++pP++f3)/\(f1++pP++f3).Nodup/\ (∀b∈f1++pP++f3,(g.wrote o (f1++pP++f3) hw').ef b=some o)/\ (∀b x,¬dE (some x)->x≠o->g.ef b=some x->(g.wrote o (f1++pP++f3) hw').ef b=some x/\w'.heap[b]?=w.heap[b]?/\hw' b=g.hw b)/\ (∀b,g.ef b=some o->b∉fp->(g.wrote o (f1++pP++f3) hw').ef b=some o/\w'.heap[b]?=w.heap[b]?/\hw' b=g.hw b)/\ Fr C.M C.w0 w'/\(∀b x,(g.wrote o (f1++pP++f3) hw').ef b=some x->b<w'.heap.size/\(C.w0.heap.size<=b\/C.M b)):=by
 obtain⟨v,f1,f2,f3,hv,rfl,L9,Cj⟩:=eK.agn hx;have BB:=hn;rw[aP]at BB;have n1:=aI.1 BB;have n2:=aI.1 n1.2.1;have BI:∀b∈f1++f3,b∉f2:=by intro b hb h2;rcases ay.1 hb with hb|hb;exact n1.2.2 b hb b (bw _ h2) rfl;exact n2.2.2 b h2 b hb rfl
 refine⟨v,f1,f2,f3,hv,rfl,L9,n2.1,λb hb=>hl b (by simp[hb]),?_⟩;intro w' hw' bK x1 pP wB Is tj gE GG ya jf C6;have Yu:∀k b o u,C.A k b o->w.cell? ⟨b,o,none⟩=some u->w'.cell? ⟨b,o,none⟩=some u:=by
  intro k b o u hA hu;have hb:b<w.heap.size:=World.block_lt_of_cell? w _ hu;have HJ:¬(dE (g.ef b)\/b∈f2):=by
   rintro(hh|hm);cases hx:g.ef b with|none=>rw[hx]at hh;cases hh|some x=>exact h.KI hx k o hA
   exact h.KI (hl b (by simp[hm])) k o hA
  rw[World.cell?_of_block (a:=⟨b,o,none⟩) (jf.block b hb HJ)];exact hu
 have hle:(cG C g st w).Le (cG C (g.wrote o (f1++pP++f3) hw') bK w'):=⟨rfl,λt ht=>⟨by show lT bK t;have T6:lT st t:=ht;simpa[lT,Is]using T6,rfl⟩,Yu,by show st.ep<=bK.ep;omega,λs hs=>⟨tj s hs,rfl⟩,λhe=>absurd he (by show bK.ep≠st.ep;omega)⟩
 have qS:∀b x,¬dE (some x)->g.ef b=some x->b∉f2->w'.heap[b]?=w.heap[b]?/\hw' b=g.hw b:=by intro b x hh hb hm;exact⟨jf.block b (h.fS b _ hb).1 (by rintro(k|k);rw[hb]at k;exact hh k;exact hm k),C6 b _ hb hh hm⟩
 have hd1:∀b∈f1++f3,b∉pP:=by intro b hb hm;rcases(ya b hm).2 with h2|h2;exact BI b hb h2;have M5:g.ef b=some o:=hl b (by rcases ay.1 hb with hb|hb<;>simp[hb]);rw[M5]at h2;exact LS h2
 refine⟨hle,?_,?_,?_,?_,?_,?_,?_⟩;refine Cj _ hle _ pP (gE _ hle rfl rfl) (λb hb=>?_);exact qS b o LS (hl b (by rcases ay.1 hb with hb|hb<;>simp[hb])) (BI b hb);rw[aP];refine aI.2 ⟨n1.1,aI.2 ⟨GG,n2.2.1,?_⟩,?_⟩;rintro b hb c hc rfl;exact hd1 b (by simp[hc]) hb;rintro b hb c hc rfl;rcases ay.1 hc with hc|hc;exact hd1 b (by simp[hb]) hc;exact n1.2.2 b hb b (bj _ hc) rfl;intro b hb;show(if b∈f1++pP++f3 then _ else _)=_;rw[aF hb];intro b x hh hxo hb;have hm2:b∉f2:=λhm=>hxo (by have:=hl b (by simp[hm]);rw[hb]at this;simpa using this);refine⟨?_,qS b x hh hb hm2⟩;show(if b∈f1++pP++f3 then _ else if dE (g.ef b) then none else g.ef b)=_;have UT:b∉f1++pP++f3:=by intro hm;simp only[ay]at hm;rcases hm with(hm|hm)|hm;exact hxo (by have:=hl b (by simp[hm]);rw[hb]at this;simpa using this);rcases(ya b hm).2 with h2|h2;exact hm2 h2;rw[hb]at h2;exact hh h2;exact hxo (by have:=hl b (by simp[hm]);rw[hb]at this;simpa using this)
 rw[aH UT,aH (by rw[hb];exact hh),hb];intro b hb hm;have hm2:b∉f2:=λk=>hm (by simp[k]);refine⟨?_,qS b o LS hb hm2⟩;show(if b∈f1++pP++f3 then _ else if dE (g.ef b) then none else g.ef b)=_;rw[aH (c:=dE (g.ef b)) (by rw[hb];exact LS),hb];split<;>rfl;refine h.frame.trans jf (λb hb hh=>?_);rcases hh with hh|hm;cases hx:g.ef b with|none=>rw[hx]at hh;cases hh|some x=>rcases(h.fS b x hx).2 with h2|h2;omega;exact h2
 rcases(h.fS b o (hl b (by simp[hm]))).2 with h2|h2;omega;exact h2;intro b x hx;have zt:(if b∈f1++pP++f3 then some o else if dE (g.ef b) then none else g.ef b)=some x:=hx;have hz:=jf.size;have old:∀y,g.ef b=some y->b<w'.heap.size/\(C.w0.heap.size<=b\/C.M b):=λy hy=>⟨Nat.lt_of_lt_of_le (h.fS b y hy).1 hz,(h.fS b y hy).2⟩
 split at zt;rename_i hm;simp only[ay]at hm;rcases hm with(hm|hm)|hm;exact old o (hl b (by simp[hm]));rcases(ya b hm).2 with h2|h2;exact old o (hl b (by simp[h2]));cases hy:g.ef b with|none=>rw[hy]at h2;cases h2|some y=>exact old y hy
 exact old o (hl b (by simp[hm]));split at zt;cases zt;exact old x zt
theorem dP.acM (h:dP C g st a w hs)(s j:Nat)(Az:x0≠ .bot)(gI:st.eL (.slot s j)=some x0): ∃v f2,gB (cG C g st w) v x0 f2/\f2.Nodup/\(∀b∈f2,g.ef b=some (.slot s))/\ ∀(w':World)(hw':Nat->Nat)(x1:AC)(pP:fg),(∀c',(cG C g st w).Le c'->c'.w=w'->c'.hw=hw'->gB c' v x1 pP)->pP.Nodup->(∀b∈pP,b<w'.heap.size/\(b∈f2\/dE (g.ef b)))-> Fr (λb=>dE (g.ef b)\/b∈f2) w w'->(∀b x,g.ef b=some x->¬dE (some x)->b∉f2->hw' b=g.hw b)-> ∃g',dP C g' {st.eR (.slot s j) x1 with ep:=st.ep+1} a w' []:=by
 have wV:s<st.slots.length:=by
  rcases cf s st.slots.length with gW|yt;exact gW;have:st.get s=.bot:=by simp[AS.get,dI,br yt]
  rw[AS.eL,this]at gI;cases j with|zero=>simp[nth]at gI;exact absurd gI.symm Az|succ j=>simp[nth]at gI
 have hsl:st.slots[s]?=some (st.get s):=by rw[get_eq (al wV)];exact al wV
 obtain⟨fp,hr,hn,hl⟩:=h.slots s _ hsl;cases hg:st.get s with
 |uw ts=>rw[AS.eL,hg]at gI;cases gI
 |val gg cs=>
  have hgx:cs[j]?=some x0:=by rw[AS.eL,hg]at gI;simpa[dI]using gI
  rw[hg]at hr;obtain⟨vs,fE,hr⟩:=hr;obtain⟨v,f1,f2,f3,hv,rfl,gE,BL,xE,ph⟩:=h.He (.slot s) (by simp[jL]) hr hn hl hgx;refine⟨v,f2,gE,BL,xE,?_⟩;intro w' hw' x1 pP Ff GG ya jf C6;let bK:AS:={st.eR (.slot s j) x1 with ep:=st.ep+1}
  have uy:bK={st with slots:=st.slots.set s (.val gg (cs.set j x1)),ep:=st.ep+1}:=by show({st.eR (.slot s j) x1 with ep:=st.ep+1}:AS)=_;simp only[AS.eR,hg,AS.put,fe]
  obtain⟨hle,eK,Kj,hll,hk1,hk2,Pp,R0⟩:=ph w' hw' bK x1 pP rfl (by rw[uy]) (λs hs=>by rw[uy];exact hs) Ff GG ya jf C6;refine⟨_,h.step (λx=>¬dE (some x)/\x≠ .slot s) hle h.defers ?_ ?_ Pp R0 (λb x hk hx=>hk1 b x hk.1 hk.2 hx) ?_ ?_ (λk u bv hk=>by simp at hk) (.inl ⟨⟨by simp[jL],by simp⟩,by show bK.io=st.io;rw[uy]⟩)⟩;show _=bK.slots.length;rw[uy];simpa using h.size;show bK.boxes.length=bK.slots.length;rw[uy];simpa using h.bsize;intro i av hi;have ng:(st.slots.set s (.val gg (cs.set j x1)))[i]?=some av:=by have:bK.slots[i]?=some av:=hi;rw[uy]at this;exact this
  by_cases his:i=s;subst his;rw[bu]at ng;simp only[bP,wV]at ng;simp at ng;subst ng;exact .inr ⟨_,⟨vs,fE,eK⟩,Kj,hll⟩;rw[aR (cM his)]at ng;exact .inl ⟨⟨by simp[jL],by simpa using his⟩,ng,rfl⟩;intro t po hb;have gM:st.boxes[t]?=some (some po):=by have:bK.boxes[t]?=some (some po):=hb;rw[uy]at this;exact this
  exact .inl ⟨⟨by simp[jL],by simp⟩,gM,rfl⟩
theorem dP.afC (h:dP C g st a w hs)(s j:Nat)(gI:st.eL (.box s j)=some x0): ∃v f2,gB (cG C g st w) v x0 f2/\f2.Nodup/\(∀b∈f2,g.ef b=some (.box s))/\ ∀(w':World)(hw':Nat->Nat)(x1:AC)(pP:fg),(∀c',(cG C g st w).Le c'->c'.w=w'->c'.hw=hw'->gB c' v x1 pP)->pP.Nodup->(∀b∈pP,b<w'.heap.size/\(b∈f2\/dE (g.ef b)))-> Fr (λb=>dE (g.ef b)\/b∈f2) w w'->(∀b x,g.ef b=some x->¬dE (some x)->b∉f2->hw' b=g.hw b)-> ∃g',dP C g' {st.eR (.box s j) x1 with ep:=st.ep+1} a w' []:=by
 have jt:∃cs,st.boxes[s]?=some (some cs)/\cs[j]?=some x0:=by rw[AS.eL,dI]at gI;cases hb:st.boxes[s]? with|none=>simp[hb]at gI|some o=>cases o with|none=>simp[hb]at gI|some cs=>exact⟨cs,rfl,by simpa[hb,dI]using gI⟩
 obtain⟨cs,jt,hgx⟩:=jt;have wV:s<st.boxes.length:=(aG.1 jt).1;obtain⟨arr,T,fr,fp,jJ,qM,hr,hn,uz,hl,EM,EO⟩:=h.boxes s cs jt;obtain⟨v,f1,f2,f3,hv,rfl,gE,BL,xE,ph⟩:=h.He (.box s) (by simp[jL]) hr hn hl hgx;refine⟨v,f2,gE,BL,xE,?_⟩;intro w' hw' x1 pP Ff GG ya jf C6;let bK:AS:={st.eR (.box s j) x1 with ep:=st.ep+1}
 have uy:bK={st with boxes:=st.boxes.set s (some (cs.set j x1)),ep:=st.ep+1}:=by show({st.eR (.box s j) x1 with ep:=st.ep+1}:AS)=_;simp only[AS.eR,dI,jt,fj,AS.eD,fe]
 obtain⟨hle,eK,Kj,hll,hk1,hk2,Pp,R0⟩:=ph w' hw' bK x1 pP rfl (by rw[uy]) (λt ht=>by rw[uy];obtain⟨c0,W7⟩:=ht;by_cases rH:s=t;subst rH;exact⟨cs.set j x1,by simp[wV]⟩;exact⟨c0,by rw[aR rH];exact W7⟩) Ff GG ya jf C6;have GI:=hk2 (g.β s) EM uz;refine⟨_,h.step (λx=>¬dE (some x)/\x≠ .box s) hle h.defers ?_ ?_ Pp R0 (λb x hk hx=>hk1 b x hk.1 hk.2 hx) ?_ ?_ (λk u bv hk=>by simp at hk) (.inl ⟨⟨by simp[jL],by simp⟩,by show bK.io=st.io;rw[uy]⟩)⟩;show _=bK.slots.length;rw[uy];exact h.size;show bK.boxes.length=bK.slots.length;rw[uy];simpa using h.bsize;intro i av hi;have ng:st.slots[i]?=some av:=by have:bK.slots[i]?=some av:=hi;rw[uy]at this;exact this
 exact .inl ⟨⟨by simp[jL],by simp⟩,ng,rfl⟩;intro t po hb;have gM:(st.boxes.set s (some (cs.set j x1)))[t]?=some (some po):=by have:bK.boxes[t]?=some (some po):=hb;rw[uy]at this;exact this
 by_cases rH:t=s;subst rH;rw[bu]at gM;simp only[bP,wV]at gM;simp at gM;subst gM;have Fe:g.β t∉f1++pP++f3:=by intro hm;simp only[ay]at hm;rcases hm with(hm|hm)|hm;exact uz (by simp[hm]);rcases(ya _ hm).2 with h2|h2;exact uz (by simp[h2]);rw[EM]at h2;cases h2;exact uz (by simp[hm])
 exact .inr ⟨arr,T,fr,_,GI.2.1.trans jJ,qM,eK,Kj,Fe,hll,GI.1,GI.2.2.trans EO⟩;rw[aR (cM rH)]at gM;exact .inl ⟨⟨by simp[jL],by simpa using rH⟩,gM,rfl⟩
theorem dP.ajN (h:dP C g st a w hs)(j:Nat)(gI:st.eL (.io j)=some x0): ∃v f2,gB (cG C g st w) v x0 f2/\f2.Nodup/\(∀b∈f2,g.ef b=some .io)/\ ∀(w':World)(hw':Nat->Nat)(x1:AC)(pP:fg),(∀c',(cG C g st w).Le c'->c'.w=w'->c'.hw=hw'->gB c' v x1 pP)->pP.Nodup->(∀b∈pP,b<w'.heap.size/\(b∈f2\/dE (g.ef b)))-> Fr (λb=>dE (g.ef b)\/b∈f2) w w'->(∀b x,g.ef b=some x->¬dE (some x)->b∉f2->hw' b=g.hw b)-> ∃g',dP C g' {st.eR (.io j) x1 with ep:=st.ep+1} a w' []:=by
 have hgx:st.io[j]?=some x0:=by rw[AS.eL,dI]at gI;exact gI
 obtain⟨fp,hr,hn,hl⟩:=h.io;obtain⟨v,f1,f2,f3,hv,rfl,gE,BL,xE,ph⟩:=h.He .io (by simp[jL]) hr hn hl hgx;refine⟨v,f2,gE,BL,xE,?_⟩;intro w' hw' x1 pP Ff GG ya jf C6;let bK:AS:={st.eR (.io j) x1 with ep:=st.ep+1}
 have uy:bK={st with io:=st.io.set j x1,ep:=st.ep+1}:=by show({st.eR (.io j) x1 with ep:=st.ep+1}:AS)=_;simp only[AS.eR,fe]
 obtain⟨hle,eK,Kj,hll,hk1,hk2,Pp,R0⟩:=ph w' hw' bK x1 pP rfl (by rw[uy]) (λs hs=>by rw[uy];exact hs) Ff GG ya jf C6
 refine⟨_,h.step (λx=>¬dE (some x)/\x≠ .io) hle h.defers ?_ ?_ Pp R0 (λb x hk hx=>hk1 b x hk.1 hk.2 hx) ?_ ?_ (λk u bv hk=>by simp at hk) (.inr ⟨_,by
  have:bK.io=st.io.set j x1:=by rw[uy]
  show bE _ _ bK.io _;rw[this];exact eK,Kj,hll⟩)⟩
 show _=bK.slots.length;rw[uy];exact h.size;show bK.boxes.length=bK.slots.length;rw[uy];exact h.bsize;intro i av hi;have ng:st.slots[i]?=some av:=by have:bK.slots[i]?=some av:=hi;rw[uy]at this;exact this
 exact .inl ⟨⟨by simp[jL],by simp⟩,ng,rfl⟩;intro t po hb;have gM:st.boxes[t]?=some (some po):=by have:bK.boxes[t]?=some (some po):=hb;rw[uy]at this;exact this
 exact .inl ⟨⟨by simp[jL],by simp⟩,gM,rfl⟩
theorem dP.P7 (h:dP C g st a w hs)(r:jW)(Az:x0≠ .bot)(gI:st.eL r=some x0): ∃v f2,gB (cG C g st w) v x0 f2/\f2.Nodup/\(∀b∈f2,g.ef b=some r.owner)/\ ∀(w':World)(hw':Nat->Nat)(x1:AC)(pP:fg),(∀c',(cG C g st w).Le c'->c'.w=w'->c'.hw=hw'->gB c' v x1 pP)->pP.Nodup->(∀b∈pP,b<w'.heap.size/\(b∈f2\/dE (g.ef b)))-> Fr (λb=>dE (g.ef b)\/b∈f2) w w'->(∀b x,g.ef b=some x->¬dE (some x)->b∉f2->hw' b=g.hw b)-> ∃g',dP C g' {st.eR r x1 with ep:=st.ep+1} a w' []:=by cases r with|slot s j=>exact h.acM s j Az gI|box s j=>exact h.afC s j gI|io j=>exact h.ajN j gI
theorem dP.P8 (h:dP C g st a w hs)(r:jW){tag:ax Nat}{e:CT}{xs:aw e.D}(gI:st.eL r=some (.sl (.own tag) e xs)): ∃v f2,(∀t,tag=some t->v=g.hdr t)/\eZ g.hw w (.sl e) [v] xs f2/\f2.Nodup/\(∀b∈f2,g.ef b=some r.owner)/\ ∀(w':World)(hw':Nat->Nat)(LV:aw e.D)(pP:fg),eZ hw' w' (.sl e) [v] LV pP->pP.Nodup->(∀b∈pP,b<w'.heap.size/\(b∈f2\/dE (g.ef b)))-> Fr (λb=>dE (g.ef b)\/b∈f2) w w'->(∀b x,g.ef b=some x->¬dE (some x)->b∉f2->hw' b=g.hw b)-> ∃g',dP C g' {st.eR r (.sl (.own tag) e LV)with ep:=st.ep+1} a w' []:=by obtain⟨v,f2,eK,BL,xE,ph⟩:=h.P7 r (by simp) gI;refine⟨v,f2,λt ht=>(eK.2 t ht).2,eK.1,BL,xE,λw' hw' LV pP gE GG ya jf C6=>ph w' hw' (.sl (.own tag) e LV) pP (λc' hle QC Ds=>⟨?_,λt ht=>?_⟩) GG ya jf C6⟩;rw[QC,Ds];exact gE;have h1:=eK.2 t ht;exact⟨(hle.hdr t h1.1).1,by rw[(hle.hdr t h1.1).2];exact h1.2⟩
theorem dP.acN (h:dP C g st a w [])(r:jW)(Az:x0≠ .bot)(gI:st.eL r=some x0): ∃v f2,gB (cG C g st w) v x0 f2/\f2.Nodup/\(∀b∈f2,g.ef b=some r.owner)/\ ∀(x1:AC)(pP fh:fg)(u:Value)(av:AV),(∀c',(cG C g st w).Le c'->c'.w=w->c'.hw=g.hw->c'.ep=st.ep->gB c' v x1 pP)->pP.Nodup->fh.Nodup->(∀b∈pP,b∈f2/\b∉fh)->(∀b∈fh,b∈f2)-> fR (cG C g st w) u av fh->∃g',dP C g' (st.eR r x1) a w [(u,av)]:=by
 have core:∀(o:jx){vs:ir}{cs:aw AC}{fp:fg}{j:Nat},bE (cG C g st w) vs cs fp->fp.Nodup->(∀b∈fp,g.ef b=some o)->cs[j]?=some x0->
  ∃v f2,gB (cG C g st w) v x0 f2/\f2.Nodup/\(∀b∈f2,g.ef b=some o/\b∈fp)/\
   ∀(bK:AS)(x1:AC)(pP fh:fg)(u:Value)(av:AV),bK.ep=st.ep->bK.iss=st.iss->(∀s,iR st s->iR bK s)->(∀c',(cG C g st w).Le c'->c'.w=w->c'.hw=g.hw->c'.ep=st.ep->gB c' v x1 pP)->pP.Nodup->fh.Nodup->(∀b∈pP,b∈f2/\b∉fh)->(∀b∈fh,b∈f2)->fR (cG C g st w) u av fh->
    (cG C g st w).Le (cG C {g with ef:=λb=>if b∈fh then some (.hand 0) else g.ef b} bK w)/\
    ∃jI,bE (cG C {g with ef:=λb=>if b∈fh then some (.hand 0) else g.ef b} bK w) vs (cs.set j x1) jI/\jI.Nodup/\(∀b∈jI,b∉fh/\b∈fp)/\
    Gq C {g with ef:=λb=>if b∈fh then some (.hand 0) else g.ef b} bK w 0 u av:=by
  intro o vs cs fp j eK hn hl hx
  obtain⟨v,f1,f2,f3,hv,rfl,L9,Cj⟩:=eK.agn hx
  have BB:=hn
  rw[aP]at BB
  have n1:=aI.1 BB
  have n2:=aI.1 n1.2.1
  refine⟨v,f2,L9,n2.1,λb hb=>⟨hl b (by simp[hb]),by simp[hb]⟩,?_⟩
  intro bK x1 pP fh u av wB Is tj hx1 GG LS ya L3 hu
  have hle:(cG C g st w).Le (cG C {g with ef:=λb=>if b∈fh then some (.hand 0) else g.ef b} bK w):=
   ⟨rfl,λt ht=>⟨by show lT bK t;have T6:lT st t:=ht;simpa[lT,Is]using T6,rfl⟩,λ_ _ _ _ _ hu=>hu,by show st.ep<=bK.ep;omega,λs hs=>⟨tj s hs,rfl⟩,λ_ b o u ho hu=>⟨ho,hu⟩⟩
  have BI:∀b∈f1++f3,b∉f2:=by intro b hb h2;rcases ay.1 hb with hb|hb;exact n1.2.2 b hb b (bw _ h2) rfl;exact n2.2.2 b h2 b hb rfl
  refine⟨hle,f1++pP++f3,Cj _ hle _ pP (hx1 _ hle rfl rfl wB) (λ_ _=>⟨rfl,rfl⟩),?_,?_,fh,hu.mono hle (λ_ _=>⟨rfl,rfl⟩),LS,λb hb=>?_⟩
  ·rw[aP]
   refine aI.2 ⟨n1.1,aI.2 ⟨GG,n2.2.1,?_⟩,?_⟩
   ·rintro b hb c hc rfl;exact BI b (by simp[hc]) (ya b hb).1
   ·rintro b hb c hc rfl
    rcases ay.1 hc with hc|hc
    ·exact BI b (by simp[hb]) (ya b hc).1
    ·exact n1.2.2 b hb b (bj _ hc) rfl
  ·intro b hb
   simp only[ay]at hb
   rcases hb with(hb|hb)|hb
   ·exact⟨λhm=>BI b (by simp[hb]) (L3 b hm),by simp[hb]⟩
   ·exact⟨(ya b hb).2,by simp[(ya b hb).1]⟩
   ·exact⟨λhm=>BI b (by simp[hb]) (L3 b hm),by simp[hb]⟩
  ·show(if b∈fh then _ else _)=_
   rw[aF hb]
 have KJ:∀(fh:fg),∀b x,(if b∈fh then some (jx.hand 0) else g.ef b)=some x->(b∈fh->∃y,g.ef b=some y)->b<w.heap.size/\(C.w0.heap.size<=b\/C.M b):=by intro fh b x hx hy;by_cases hm:b∈fh;obtain⟨y,hy⟩:=hy hm;exact h.fS b y hy;rw[aH hm]at hx;exact h.fS b x hx
 have Vo:∀(fh:fg)(o:jx),(∀b∈fh,g.ef b=some o)->∀b x,x≠o->g.ef b=some x->(if b∈fh then some (jx.hand 0) else g.ef b)=some x:=by intro fh o L3 b x hxo hb;rw[aH (λhm=>hxo (by have:=L3 b hm;rw[hb]at this;simpa using this))];exact hb
 cases r with
 |slot s j=>
  have wV:s<st.slots.length:=by
   rcases cf s st.slots.length with gW|yt;exact gW;have:st.get s=.bot:=by simp[AS.get,dI,br yt]
   rw[AS.eL,this]at gI;cases j with|zero=>simp[nth]at gI;exact absurd gI.symm Az|succ j=>simp[nth]at gI
  have hsl:st.slots[s]?=some (st.get s):=by rw[get_eq (al wV)];exact al wV
  obtain⟨fp,hr,hn,hl⟩:=h.slots s _ hsl;cases hg:st.get s with
  |uw ts=>rw[AS.eL,hg]at gI;cases gI
  |val gg cs=>
   have hgx:cs[j]?=some x0:=by rw[AS.eL,hg]at gI;simpa[dI]using gI
   rw[hg]at hr;obtain⟨vs,fE,hr⟩:=hr;have lX:∀x1,st.eR (.slot s j) x1={st with slots:=st.slots.set s (.val gg (cs.set j x1))}:=λx1=>by simp only[AS.eR,hg,AS.put,fe]
   obtain⟨v,f2,M8,BL,xE,ph⟩:=core (.slot s) hr hn hl hgx;refine⟨v,f2,M8,BL,λb hb=>(xE b hb).1,?_⟩;intro x1 pP fh u av hx1 GG LS ya L3 hu;obtain⟨hle,jI,eK,Kj,Ay,Ce⟩:=ph (st.eR (.slot s j) x1) x1 pP fh u av (by rw[lX]) (by rw[lX]) (λ_ q=>by rw[lX];exact q) hx1 GG LS ya L3 hu;have hfo:∀b∈fh,g.ef b=some (.slot s):=λb hb=>(xE b (L3 b hb)).1;refine⟨_,h.step (λx=>x≠ .slot s) hle h.defers ?_ ?_ h.frame (λb x hx=>KJ fh b x hx (λhm=>⟨_,hfo b hm⟩)) (λb x hk hb=>⟨Vo fh _ hfo b x hk hb,rfl,rfl⟩) ?_ ?_ ?_ (.inl ⟨by simp,by rw[lX]⟩)⟩;rw[lX];simpa using h.size;rw[lX];simpa using h.bsize;intro i bv hi;rw[lX]at hi;have ng:(st.slots.set s (.val gg (cs.set j x1)))[i]?=some bv:=hi;by_cases his:i=s;subst his;rw[bu]at ng;simp only[bP,wV]at ng;simp at ng;subst ng;refine .inr ⟨jI,⟨vs,fE,eK⟩,Kj,λb hb=>?_⟩;show(if b∈fh then _ else _)=_;rw[aH (Ay b hb).1];exact hl b (Ay b hb).2;rw[aR (cM his)]at ng;exact .inl ⟨by simpa using his,ng,rfl⟩;intro t po hb;rw[lX]at hb;exact .inl ⟨by simp,hb,rfl⟩;intro k u' bv hk;cases k with
   |zero=>simp only[cr,ba,Prod.mk.injEq]at hk;obtain⟨rfl,rfl⟩:=hk;exact .inr Ce
   |succ k=>simp at hk
 |box s j=>
  have jt:∃cs,st.boxes[s]?=some (some cs)/\cs[j]?=some x0:=by rw[AS.eL,dI]at gI;cases hb:st.boxes[s]? with|none=>simp[hb]at gI|some o=>cases o with|none=>simp[hb]at gI|some cs=>exact⟨cs,rfl,by simpa[hb,dI]using gI⟩
  obtain⟨cs,jt,hgx⟩:=jt;have wV:s<st.boxes.length:=(aG.1 jt).1;obtain⟨arr,T,fr,fp,jJ,qM,hr,hn,uz,hl,EM,EO⟩:=h.boxes s cs jt;have lX:∀x1,st.eR (.box s j) x1={st with boxes:=st.boxes.set s (some (cs.set j x1))}:=λx1=>by simp only[AS.eR,dI,jt,fj,AS.eD,fe]
  obtain⟨v,f2,M8,BL,xE,ph⟩:=core (.box s) hr hn hl hgx;refine⟨v,f2,M8,BL,λb hb=>(xE b hb).1,?_⟩;intro x1 pP fh u av hx1 GG LS ya L3 hu;obtain⟨hle,jI,eK,Kj,Ay,Ce⟩:=ph (st.eR (.box s j) x1) x1 pP fh u av (by rw[lX]) (by rw[lX]) (λt ht=>by rw[lX];obtain⟨c0,W7⟩:=ht;by_cases rH:s=t;subst rH;exact⟨cs.set j x1,by simp[wV]⟩;exact⟨c0,by rw[aR rH];exact W7⟩) hx1 GG LS ya L3 hu;have hfo:∀b∈fh,g.ef b=some (.box s):=λb hb=>(xE b (L3 b hb)).1;refine⟨_,h.step (λx=>x≠ .box s) hle h.defers ?_ ?_ h.frame (λb x hx=>KJ fh b x hx (λhm=>⟨_,hfo b hm⟩)) (λb x hk hb=>⟨Vo fh _ hfo b x hk hb,rfl,rfl⟩) ?_ ?_ ?_ (.inl ⟨by simp,by rw[lX]⟩)⟩;rw[lX];exact h.size;rw[lX];simpa using h.bsize;intro i bv hi;rw[lX]at hi;exact .inl ⟨by simp,hi,rfl⟩;intro t po hb;rw[lX]at hb;have gM:(st.boxes.set s (some (cs.set j x1)))[t]?=some (some po):=hb;by_cases rH:t=s;subst rH;rw[bu]at gM;simp only[bP,wV]at gM;simp at gM;subst gM;have GI:g.β t∉fh:=λhm=>uz (xE _ (L3 _ hm)).2;refine .inr ⟨arr,T,fr,jI,jJ,qM,eK,Kj,λhm=>uz (Ay _ hm).2,λb hb=>?_,?_,EO⟩;show(if b∈fh then _ else _)=_;rw[aH (Ay b hb).1];exact hl b (Ay b hb).2;show(if g.β t∈fh then _ else _)=_;rw[aH GI];exact EM;rw[aR (cM rH)]at gM;exact .inl ⟨by simpa using rH,gM,rfl⟩;intro k u' bv hk;cases k with
  |zero=>simp only[cr,ba,Prod.mk.injEq]at hk;obtain⟨rfl,rfl⟩:=hk;exact .inr Ce
  |succ k=>simp at hk
 |io j=>
  have hgx:st.io[j]?=some x0:=by rw[AS.eL,dI]at gI;exact gI
  obtain⟨fp,hr,hn,hl⟩:=h.io;have lX:∀x1,st.eR (.io j) x1={st with io:=st.io.set j x1}:=λx1=>by simp only[AS.eR,fe]
  obtain⟨v,f2,M8,BL,xE,ph⟩:=core .io hr hn hl hgx;refine⟨v,f2,M8,BL,λb hb=>(xE b hb).1,?_⟩;intro x1 pP fh u av hx1 GG LS ya L3 hu;obtain⟨hle,jI,eK,Kj,Ay,Ce⟩:=ph (st.eR (.io j) x1) x1 pP fh u av (by rw[lX]) (by rw[lX]) (λ_ q=>by rw[lX];exact q) hx1 GG LS ya L3 hu;have hfo:∀b∈fh,g.ef b=some .io:=λb hb=>(xE b (L3 b hb)).1;refine⟨_,h.step (λx=>x≠ .io) hle h.defers ?_ ?_ h.frame (λb x hx=>KJ fh b x hx (λhm=>⟨_,hfo b hm⟩)) (λb x hk hb=>⟨Vo fh _ hfo b x hk hb,rfl,rfl⟩) ?_ ?_ ?_ (.inr ⟨jI,?_,Kj,λb hb=>?_⟩)⟩;rw[lX];exact h.size;rw[lX];exact h.bsize;intro i bv hi;rw[lX]at hi;exact .inl ⟨by simp,hi,rfl⟩;intro t po hb;rw[lX]at hb;exact .inl ⟨by simp,hb,rfl⟩;intro k u' bv hk;cases k with
  |zero=>simp only[cr,ba,Prod.mk.injEq]at hk;obtain⟨rfl,rfl⟩:=hk;exact .inr Ce
  |succ k=>simp at hk
  have:(st.eR (.io j) x1).io=st.io.set j x1:=by rw[lX]
  rw[this];exact eK;show(if b∈fh then _ else _)=_;rw[aH (Ay b hb).1];exact hl b (Ay b hb).2
theorem dP.UL (h:dP C g st a w hs){v:Value}{x:AC}(r:gB (cG C g st w) v x []):gB (cG C g st w) v (st.fresh x) []:=by
 unfold AS.fresh;split;rename_i ep rt t e xs;cases wB:(ep==st.ep)with
 |true=>exact r
 |false=>
  simp only[af];split;rename_i t' e' ys gI;split;rename_i he;subst he;cases ht:(t'==t)with
  |false=>exact r
  |true=>
   have:t'=t:=by simpa using ht
   subst this;simp only[ah];obtain⟨v0,f2,hh,gE,_,_,_⟩:=h.P8 rt gI;obtain⟨h1,h2,h3,h4,h5⟩:=r;obtain⟨k1,k2⟩:=h5 rt t' rfl;have hv:v0=v:=(hh t' rfl).trans k2.symm;subst hv;exact⟨h1,aU _,KW gE,λ_=>eZ.rep (λb o ho=> .inr ho) gE,λr1 t1 hp=>by simp at hp;obtain⟨_,rfl⟩:=hp;exact⟨k1,k2⟩⟩
  exact r;exact r
 exact r
theorem dP.HC (h:dP C g st a w hs):∀{vs:ir}{xs:aw AC},bE (cG C g st w) vs xs []->bE (cG C g st w) vs (xs.map st.fresh) []
 |[],[],r=>r
 |_::_,_::_,r=>by
  obtain⟨f1,f2,he,r1,r2⟩:=r;have h1:f1=[]:=by have:=he.symm;simp at this;exact this.1
  have h2:f2=[]:=by have:=he.symm;simp at this;exact this.2
  subst h1;subst h2;exact⟨[],[],rfl,h.UL r1,h.HC r2⟩
 |[],_::_,r=>r.elim
 |_::_,[],r=>r.elim
theorem dP.fresh (h:dP C g st a w hs){v:Value}{x:AV}(r:fR (cG C g st w) v x []):fR (cG C g st w) v (x.fresh st) []:=by
 cases x with
 |val gg cs=>obtain⟨vs,hv,r⟩:=r;exact⟨vs,hv,h.HC r⟩
 |uw ts=>exact r
end Go.Dn
