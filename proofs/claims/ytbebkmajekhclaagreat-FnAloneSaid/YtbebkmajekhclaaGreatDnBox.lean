import Derived.Test.YtbebkmajekhclaaGreatDnPut
/- A box is made or written; an element of an owned slice is written. -/
namespace Go.Dn
open Go.RowKit
variable {C:Ctx} {g:Gh} {st:AS} {a:Act} {w:World} {hs:aw (Value×AV)}
variable {x0:AC} {fp:fE}
theorem kI {s:Nat}{b:ay (aw AC)}:(st.fj s b).boxes=st.boxes.set s b:=by simp[AS.fj,fV]
theorem Sx {s:Nat}{cs:aw AC}{g':Gh}{w':World}(QZ:g'.hdr=g.hdr)(hcA:∀k b o u,C.A k b o->w.cell? ⟨b,o,none⟩=some u->w'.cell? ⟨b,o,none⟩=some u)(K5:∀t,jF st t->g'.β t=g.β t)(Jx:∀b o u,o<g.hw b->w.cell? ⟨b,o,none⟩=some u->o<g'.hw b/\w'.cell? ⟨b,o,none⟩=some u): (db C g st w).Le (db C g' (st.fj s (some cs)) w'):=by refine⟨rfl,λt ht=>⟨ht,by show g'.hdr t=g.hdr t;rw[QZ]⟩,hcA,bh _,λt ht=>⟨?_,K5 t ht⟩,λ_ b o u ho hu=>Jx b o u ho hu⟩;obtain⟨rJ,hc⟩:=ht;show∃auY,(st.fj s (some cs)).boxes[t]?=some (some auY);rw[kI];by_cases uM:s=t;subst uM;have gF:s<st.boxes.length:=(aC.1 hc).1;exact⟨cs,by simp[gF]⟩;exact⟨rJ,by rw[aP uM];exact hc⟩
theorem ew.ZZ (h:ew C g st a w hs)(s:Nat){cs:aw AC}{arr:Array Value}{T:TypeId}{fr:Nat×Nat}{w':World}{bnew:Nat}{hw':Nat->Nat}(hbn:(bnew=g.β s/\g.eX bnew=some (.box s))\/(w.heap.size<=bnew/\st.boxes[s]?=some none))(jH:Fr (λb=>ei (g.eX b)\/b=bnew) w w')(kL:w'.heap[bnew]?=some (.cells arr T fr))(tN:qQ arr fr)(gF:bnew<w'.heap.size)(avp:hw' bnew=0)(GW:∀b x,g.eX b=some x->¬ei (some x)->b≠bnew->hw' b=g.hw b)(Jx:∀b o u,o<g.hw b->w.cell? ⟨b,o,none⟩=some u->o<hw' b/\w'.cell? ⟨b,o,none⟩=some u)(hr:bO ⟨hw',λt=>if t=s then bnew else g.β t,C.A,g.hdr,nD st,st.ep,jF st,w'⟩ arr.toList cs fp)(hn:fp.Nodup)(xH:bnew∉fp)(E7:∀b∈fp,b<w'.heap.size/\(ei (g.eX b)\/g.eX b=some (.box s)\/w.heap.size<=b)): ∃g',g'.β s=bnew/\ew C g' (st.fj s (some cs)) a w' []:=by
 have hcA:∀k b o u,C.A k b o->w.cell? ⟨b,o,none⟩=some u->w'.cell? ⟨b,o,none⟩=some u:=by
  intro k b o u hA hu;have hb:b<w.heap.size:=World.block_lt_of_cell? w _ hu;have Mm:¬(ei (g.eX b)\/b=bnew):=by
   rintro(hh|rfl);cases hx:g.eX b with|none=>rw[hx]at hh;cases hh|some x=>exact h.Pq hx k o hA
   rcases hbn with⟨_,h2⟩|h2;exact h.Pq h2 k o hA;omega
  rw[World.cell?_of_block (a:=⟨b,o,none⟩) (jH.block b hb Mm)];exact hu
 have DK:∀b x,g.eX b=some x->x≠ .box s->b≠bnew:=by rintro b x hx hxs rfl;rcases hbn with⟨_,h2⟩|h2;rw[hx]at h2;exact hxs (by simpa using h2);have:=(h.gL b x hx).1;omega
 have hkp:∀b x,g.eX b=some x->¬ei (some x)->x≠ .box s->w'.heap[b]?=w.heap[b]?:=λb x hx hh hxs=>
  jH.block b (h.gL b x hx).1 (by rintro(k|k);rw[hx]at k;exact hh k;exact DK b x hx hxs k)
 let β':Nat->Nat:=λt=>if t=s then bnew else g.β t
 let afz:Nat->ay kz:=λb=>if b=bnew\/b∈fp then some (.box s) else if ei (g.eX b) then none else g.eX b
 let g':Gh:=⟨hw',β',afz,g.hdr⟩
 have Uy:Fr C.M C.w0 w':=h.frame.trans jH (λb hb hh=>by
  rcases hh with hh|rfl;cases hx:g.eX b with|none=>rw[hx]at hh;cases hh|some x=>rcases(h.gL b x hx).2 with h2|h2;omega;exact h2
  rcases hbn with⟨_,h2⟩|h2;rcases(h.gL b _ h2).2 with h3|h3;omega;exact h3;have:=h.frame.size;omega)
 have K5:∀t,jF st t->β' t=g.β t:=by rintro t ⟨rJ,hc⟩;show(if t=s then bnew else g.β t)=g.β t;by_cases uM:t=s;subst uM;rcases hbn with⟨h2,_⟩|⟨_,h2⟩;simp[h2];rw[h2]at hc;cases hc;simp[uM]
 have hle:(db C g st w).Le (db C g' (st.fj s (some cs)) w'):=Sx rfl hcA K5 Jx;have an1:(RC.mk hw' β' C.A g.hdr (nD st) st.ep (jF st) w').Le (db C g' (st.fj s (some cs)) w'):=⟨rfl,λ_ ht=>⟨ht,rfl⟩,λ_ _ _ _ _ hu=>hu,bh _,λt ht=>⟨(hle.Kb t ht).1,rfl⟩,λ_ b o u ho hu=>⟨ho,hu⟩⟩
 refine⟨g',by show(if s=s then bnew else g.β s)=bnew;simp,h.step (λx=>¬ei (some x)/\x≠ .box s) hle h.defers h.size ?_ Uy ?_ ?_ ?_ ?_ ?_ (.inl ⟨⟨by simp[kN],by simp⟩,rfl⟩)⟩;show(st.fj s (some cs)).boxes.length=st.slots.length;rw[kI,aB];exact h.bsize;intro b x hx;have Cp:(if b=bnew\/b∈fp then some (kz.box s) else if ei (g.eX b) then none else g.eX b)=some x:=hx;by_cases hm:b=bnew\/b∈fp;rcases hm with rfl|hm;refine⟨gF,?_⟩;rcases hbn with⟨_,h2⟩|h2;exact(h.gL b _ h2).2;exact .inl (bq h.frame.size h2.1);refine⟨(E7 b hm).1,?_⟩;rcases(E7 b hm).2 with h2|h2|h2;cases hy:g.eX b with|none=>rw[hy]at h2;cases h2|some y=>exact(h.gL b y hy).2
 exact(h.gL b _ h2).2;exact .inl (bq h.frame.size h2);rw[aG hm]at Cp;split at Cp;cases Cp;have hl:=h.gL b x Cp;have hz:=jH.size;exact⟨by omega,hl.2⟩;intro b x hk hx;have hb1:=DK b x hx hk.2;refine⟨?_,hkp b x hx hk.1 hk.2,GW b x hx hk.1 hb1⟩;show(if b=bnew\/b∈fp then some (kz.box s) else if ei (g.eX b) then none else g.eX b)=some x;have abf:¬(b=bnew\/b∈fp):=by rintro(hm|hm);exact hb1 hm;rcases(E7 b hm).2 with h2|h2|h2;rw[hx]at h2;exact hk.1 h2;rw[hx]at h2;exact hk.2 (by simpa using h2);have:=(h.gL b x hx).1;omega
 rw[aG abf,aG (by rw[hx];exact hk.1),hx];intro i av hi;exact .inl ⟨⟨by simp[kN],by simp⟩,hi,rfl⟩;intro t rJ hb;have ix:(st.boxes.set s (some cs))[t]?=some (some rJ):=by rw[<-kI];exact hb
 by_cases uM:t=s;subst uM;rw[bG]at ix;simp only[cg]at ix;split at ix;simp at ix;subst ix;have aln:β' t=bnew:=by show(if t=t then bnew else g.β t)=bnew;simp
 refine .inr ⟨arr,T,fr,fp,?_,tN,hr.mono an1 (λb _=>⟨rfl,rfl⟩),hn,?_,?_,?_,?_⟩;show w'.heap[β' t]?=_;rw[aln];exact kL;show β' t∉fp;rw[aln];exact xH;intro b hb;show(if b=bnew\/b∈fp then _ else _)=_;rw[aH (.inr hb)];show(if β' t=bnew\/β' t∈fp then _ else _)=_;rw[aH (.inl aln)];show hw' (β' t)=0;rw[aln];exact avp;cases ix;rw[aP (cR uM)]at ix;exact .inl ⟨⟨by simp[kN],by simpa using uM⟩,ix,by show(if t=s then bnew else g.β t)=_;simp[uM]⟩;intro k u bv hk;simp at hk
def lh.owner:lh->kz
 | .slot s _=> .slot s
 | .box s _=> .box s
 | .io _=> .io
theorem bO.amW {c:RC}{vs:jd}{cs:aw AC}(hr:bO c vs cs fp){j:Nat}{x:AC}(hx:cs[j]?=some x): ∃v f1 f2 f3,vs[j]?=some v/\fp=f1++f2++f3/\iq c v x f2/\ ∀(c':RC),c.Le c'->∀x' f2',iq c' v x' f2'->(∀b∈f1++f3,c'.w.heap[b]?=c.w.heap[b]?/\c'.hw b=c.hw b)-> bO c' vs (cs.set j x') (f1++f2'++f3):=by
 have hj:j<cs.length:=(aC.1 hx).1;obtain⟨f1,fr,rfl,r1,r2⟩:=hr.split j;have hlen:=hr.length;have hjv:j<vs.length:=by omega
 have ecs:cs.drop j=x::cs.drop (j+1):=by rw[ca hj];congr 1;rw[ak hj]at hx;simpa using hx
 have evs:vs.drop j=vs[j]::vs.drop (j+1):=ca hjv;rw[ecs,evs]at r2;obtain⟨f2,f3,rfl,r2,r3⟩:=r2;refine⟨vs[j],f1,f2,f3,ak hjv,by simp,r2,λc' hle x' f2' Cp hb=>?_⟩;have e1:vs=vs.take j++(vs[j]::vs.drop (j+1)):=by rw[<-evs,cE]
 have e2:cs.set j x'=cs.take j++(x'::cs.drop (j+1)):=by rw[List.set_eq_take_append_cons_drop,aH hj]
 rw[e1,e2,aY];refine bO.append (r1.mono hle (λb ix=>hb b (bH _ ix))) ⟨f2',f3,rfl,Cp,?_⟩;exact r3.mono hle (λb ix=>hb b (bu _ ix))
def Gh.wrote (g:Gh)(o:kz)(fp:fE)(hw':Nat->Nat):Gh:=
 ⟨hw',g.β,λb=>if b∈fp then some o else if ei (g.eX b) then none else g.eX b,g.hdr⟩
theorem ew.LN (h:ew C g st a w hs)(o:kz)(QK:¬ei (some o)){vs:jd}{cs:aw AC}{j:Nat}(fG:bO (db C g st w) vs cs fp)(hn:fp.Nodup)(hl:∀b∈fp,g.eX b=some o)(hx:cs[j]?=some x0): ∃v f1 f2 f3,vs[j]?=some v/\fp=f1++f2++f3/\iq (db C g st w) v x0 f2/\f2.Nodup/\(∀b∈f2,g.eX b=some o)/\ ∀(w':World)(hw':Nat->Nat)(bU:AS)(x1:AC)(sr:fE),bU.ep=st.ep+1->bU.iss=st.iss->(∀s,jF st s->jF bU s)-> (∀c',(db C g st w).Le c'->c'.w=w'->c'.hw=hw'->iq c' v x1 sr)->sr.Nodup->(∀b∈sr,b<w'.heap.size/\(b∈f2\/ei (g.eX b)))-> Fr (λb=>ei (g.eX b)\/b∈f2) w w'->(∀b x,g.eX b=some x->¬ei (some x)->b∉f2->hw' b=g.hw b)-> (db C g st w).Le (db C (g.wrote o (f1++sr++f3) hw') bU w')/\ bO (db C (g.wrote o (f1++sr++f3) hw') bU w') vs (cs.set j x1) (f1++sr++f3)/\(f1++sr++f3).Nodup/\ (∀b∈f1++sr++f3,(g.wrote o (f1++sr++f3) hw').eX b=some o)/\ (∀b x,¬ei (some x)->x≠o->g.eX b=some x->(g.wrote o (f1++sr++f3) hw').eX b=some x/\w'.heap[b]?=w.heap[b]?/\hw' b=g.hw b)/\ (∀b,g.eX b=some o->b∉fp->(g.wrote o (f1++sr++f3) hw').eX b=some o/\w'.heap[b]?=w.heap[b]?/\hw' b=g.hw b)/\ Fr C.M C.w0 w'/\(∀b x,(g.wrote o (f1++sr++f3) hw').eX b=some x->b<w'.heap.size/\(C.w0.heap.size<=b\/C.M b)):=by
 obtain⟨v,f1,f2,f3,hv,rfl,Q2,FX⟩:=fG.amW hx;have DH:=hn;rw[aY]at DH;have n1:=aN.1 DH;have n2:=aN.1 n1.2.1;have Fj:∀b∈f1++f3,b∉f2:=by intro b hb h2;rcases az.1 hb with hb|hb;exact n1.2.2 b hb b (bH _ h2) rfl;exact n2.2.2 b h2 b hb rfl
 refine⟨v,f1,f2,f3,hv,rfl,Q2,n2.1,λb hb=>hl b (by simp[hb]),?_⟩;intro w' hw' bU x1 sr Ac Ng wq ik IX BP jH GW;have hcA:∀k b o u,C.A k b o->w.cell? ⟨b,o,none⟩=some u->w'.cell? ⟨b,o,none⟩=some u:=by
  intro k b o u hA hu;have hb:b<w.heap.size:=World.block_lt_of_cell? w _ hu;have Mm:¬(ei (g.eX b)\/b∈f2):=by
   rintro(hh|hm);cases hx:g.eX b with|none=>rw[hx]at hh;cases hh|some x=>exact h.Pq hx k o hA
   exact h.Pq (hl b (by simp[hm])) k o hA
  rw[World.cell?_of_block (a:=⟨b,o,none⟩) (jH.block b hb Mm)];exact hu
 have hle:(db C g st w).Le (db C (g.wrote o (f1++sr++f3) hw') bU w'):=⟨rfl,λt ht=>⟨by show nD bU t;have ZH:nD st t:=ht;simpa[nD,Ng]using ZH,rfl⟩,hcA,by show st.ep<=bU.ep;omega,λs hs=>⟨wq s hs,rfl⟩,λhe=>absurd he (by show bU.ep≠st.ep;omega)⟩
 have ud:∀b x,¬ei (some x)->g.eX b=some x->b∉f2->w'.heap[b]?=w.heap[b]?/\hw' b=g.hw b:=by intro b x hh hb hm;exact⟨jH.block b (h.gL b _ hb).1 (by rintro(k|k);rw[hb]at k;exact hh k;exact hm k),GW b _ hb hh hm⟩
 have hd1:∀b∈f1++f3,b∉sr:=by intro b hb hm;rcases(BP b hm).2 with h2|h2;exact Fj b hb h2;have Sa:g.eX b=some o:=hl b (by rcases az.1 hb with hb|hb<;>simp[hb]);rw[Sa]at h2;exact QK h2
 refine⟨hle,?_,?_,?_,?_,?_,?_,?_⟩;refine FX _ hle _ sr (ik _ hle rfl rfl) (λb hb=>?_);exact ud b o QK (hl b (by rcases az.1 hb with hb|hb<;>simp[hb])) (Fj b hb);rw[aY];refine aN.2 ⟨n1.1,aN.2 ⟨IX,n2.2.1,?_⟩,?_⟩;rintro b hb c hc rfl;exact hd1 b (by simp[hc]) hb;rintro b hb c hc rfl;rcases az.1 hc with hc|hc;exact hd1 b (by simp[hb]) hc;exact n1.2.2 b hb b (bu _ hc) rfl;intro b hb;show(if b∈f1++sr++f3 then _ else _)=_;rw[aH hb];intro b x hh hxo hb;have hm2:b∉f2:=λhm=>hxo (by have:=hl b (by simp[hm]);rw[hb]at this;simpa using this);refine⟨?_,ud b x hh hb hm2⟩;show(if b∈f1++sr++f3 then _ else if ei (g.eX b) then none else g.eX b)=_;have abf:b∉f1++sr++f3:=by intro hm;simp only[az]at hm;rcases hm with(hm|hm)|hm;exact hxo (by have:=hl b (by simp[hm]);rw[hb]at this;simpa using this);rcases(BP b hm).2 with h2|h2;exact hm2 h2;rw[hb]at h2;exact hh h2;exact hxo (by have:=hl b (by simp[hm]);rw[hb]at this;simpa using this)
 rw[aG abf,aG (by rw[hb];exact hh),hb];intro b hb hm;have hm2:b∉f2:=λk=>hm (by simp[k]);refine⟨?_,ud b o QK hb hm2⟩;show(if b∈f1++sr++f3 then _ else if ei (g.eX b) then none else g.eX b)=_;rw[aG (c:=ei (g.eX b)) (by rw[hb];exact QK),hb];split<;>rfl;refine h.frame.trans jH (λb hb hh=>?_);rcases hh with hh|hm;cases hx:g.eX b with|none=>rw[hx]at hh;cases hh|some x=>rcases(h.gL b x hx).2 with h2|h2;omega;exact h2
 rcases(h.gL b o (hl b (by simp[hm]))).2 with h2|h2;omega;exact h2;intro b x hx;have Cp:(if b∈f1++sr++f3 then some o else if ei (g.eX b) then none else g.eX b)=some x:=hx;have hz:=jH.size;have old:∀y,g.eX b=some y->b<w'.heap.size/\(C.w0.heap.size<=b\/C.M b):=λy hy=>⟨Nat.lt_of_lt_of_le (h.gL b y hy).1 hz,(h.gL b y hy).2⟩
 split at Cp;rename_i hm;simp only[az]at hm;rcases hm with(hm|hm)|hm;exact old o (hl b (by simp[hm]));rcases(BP b hm).2 with h2|h2;exact old o (hl b (by simp[h2]));cases hy:g.eX b with|none=>rw[hy]at h2;cases h2|some y=>exact old y hy
 exact old o (hl b (by simp[hm]));split at Cp;cases Cp;exact old x Cp
theorem ew.ajF (h:ew C g st a w hs)(s j:Nat)(DK:x0≠ .bot)(iE:st.fH (.slot s j)=some x0): ∃v f2,iq (db C g st w) v x0 f2/\f2.Nodup/\(∀b∈f2,g.eX b=some (.slot s))/\ ∀(w':World)(hw':Nat->Nat)(x1:AC)(sr:fE),(∀c',(db C g st w).Le c'->c'.w=w'->c'.hw=hw'->iq c' v x1 sr)->sr.Nodup->(∀b∈sr,b<w'.heap.size/\(b∈f2\/ei (g.eX b)))-> Fr (λb=>ei (g.eX b)\/b∈f2) w w'->(∀b x,g.eX b=some x->¬ei (some x)->b∉f2->hw' b=g.hw b)-> ∃g',ew C g' {st.fM (.slot s j) x1 with ep:=st.ep+1} a w' []:=by
 have Ay:s<st.slots.length:=by
  rcases cn s st.slots.length with gF|BQ;exact gF;have:st.get s=.bot:=by simp[AS.get,ej,bC BQ]
  rw[AS.fH,this]at iE;cases j with|zero=>simp[nth]at iE;exact absurd iE.symm DK|succ j=>simp[nth]at iE
 have hsl:st.slots[s]?=some (st.get s):=by rw[get_eq (ak Ay)];exact ak Ay
 obtain⟨fp,hr,hn,hl⟩:=h.slots s _ hsl;cases hg:st.get s with
 |xC ts=>rw[AS.fH,hg]at iE;cases iE
 |val gg cs=>
  have hgx:cs[j]?=some x0:=by rw[AS.fH,hg]at iE;simpa[ej]using iE
  rw[hg]at hr;obtain⟨vs,fS,hr⟩:=hr;obtain⟨v,f1,f2,f3,hv,rfl,ik,Dh,Bq,pq⟩:=h.LN (.slot s) (by simp[kN]) hr hn hl hgx;refine⟨v,f2,ik,Dh,Bq,?_⟩;intro w' hw' x1 sr Jw IX BP jH GW;let bU:AS:={st.fM (.slot s j) x1 with ep:=st.ep+1}
  have xE:bU={st with slots:=st.slots.set s (.val gg (cs.set j x1)),ep:=st.ep+1}:=by show({st.fM (.slot s j) x1 with ep:=st.ep+1}:AS)=_;simp only[AS.fM,hg,AS.put,fV]
  obtain⟨hle,fG,OY,hll,hk1,hk2,Uy,Xb⟩:=pq w' hw' bU x1 sr rfl (by rw[xE]) (λs hs=>by rw[xE];exact hs) Jw IX BP jH GW;refine⟨_,h.step (λx=>¬ei (some x)/\x≠ .slot s) hle h.defers ?_ ?_ Uy Xb (λb x hk hx=>hk1 b x hk.1 hk.2 hx) ?_ ?_ (λk u bv hk=>by simp at hk) (.inl ⟨⟨by simp[kN],by simp⟩,by show bU.io=st.io;rw[xE]⟩)⟩;show _=bU.slots.length;rw[xE];simpa using h.size;show bU.boxes.length=bU.slots.length;rw[xE];simpa using h.bsize;intro i av hi;have uL:(st.slots.set s (.val gg (cs.set j x1)))[i]?=some av:=by have:bU.slots[i]?=some av:=hi;rw[xE]at this;exact this
  by_cases his:i=s;subst his;rw[bG]at uL;simp only[cg,Ay]at uL;simp at uL;subst uL;exact .inr ⟨_,⟨vs,fS,fG⟩,OY,hll⟩;rw[aP (cR his)]at uL;exact .inl ⟨⟨by simp[kN],by simpa using his⟩,uL,rfl⟩;intro t rJ hb;have ix:st.boxes[t]?=some (some rJ):=by have:bU.boxes[t]?=some (some rJ):=hb;rw[xE]at this;exact this
  exact .inl ⟨⟨by simp[kN],by simp⟩,ix,rfl⟩
theorem ew.alV (h:ew C g st a w hs)(s j:Nat)(iE:st.fH (.box s j)=some x0): ∃v f2,iq (db C g st w) v x0 f2/\f2.Nodup/\(∀b∈f2,g.eX b=some (.box s))/\ ∀(w':World)(hw':Nat->Nat)(x1:AC)(sr:fE),(∀c',(db C g st w).Le c'->c'.w=w'->c'.hw=hw'->iq c' v x1 sr)->sr.Nodup->(∀b∈sr,b<w'.heap.size/\(b∈f2\/ei (g.eX b)))-> Fr (λb=>ei (g.eX b)\/b∈f2) w w'->(∀b x,g.eX b=some x->¬ei (some x)->b∉f2->hw' b=g.hw b)-> ∃g',ew C g' {st.fM (.box s j) x1 with ep:=st.ep+1} a w' []:=by
 have kq:∃cs,st.boxes[s]?=some (some cs)/\cs[j]?=some x0:=by rw[AS.fH,ej]at iE;cases hb:st.boxes[s]? with|none=>simp[hb]at iE|some o=>cases o with|none=>simp[hb]at iE|some cs=>exact⟨cs,rfl,by simpa[hb,ej]using iE⟩
 obtain⟨cs,kq,hgx⟩:=kq;have Ay:s<st.boxes.length:=(aC.1 kq).1;obtain⟨arr,T,fr,fp,kL,tN,hr,hn,xH,hl,IV,IY⟩:=h.boxes s cs kq;obtain⟨v,f1,f2,f3,hv,rfl,ik,Dh,Bq,pq⟩:=h.LN (.box s) (by simp[kN]) hr hn hl hgx;refine⟨v,f2,ik,Dh,Bq,?_⟩;intro w' hw' x1 sr Jw IX BP jH GW;let bU:AS:={st.fM (.box s j) x1 with ep:=st.ep+1}
 have xE:bU={st with boxes:=st.boxes.set s (some (cs.set j x1)),ep:=st.ep+1}:=by show({st.fM (.box s j) x1 with ep:=st.ep+1}:AS)=_;simp only[AS.fM,ej,kq,ga,AS.fj,fV]
 obtain⟨hle,fG,OY,hll,hk1,hk2,Uy,Xb⟩:=pq w' hw' bU x1 sr rfl (by rw[xE]) (λt ht=>by rw[xE];obtain⟨c0,hc0⟩:=ht;by_cases uM:s=t;subst uM;exact⟨cs.set j x1,by simp[Ay]⟩;exact⟨c0,by rw[aP uM];exact hc0⟩) Jw IX BP jH GW;have K5:=hk2 (g.β s) IV xH;refine⟨_,h.step (λx=>¬ei (some x)/\x≠ .box s) hle h.defers ?_ ?_ Uy Xb (λb x hk hx=>hk1 b x hk.1 hk.2 hx) ?_ ?_ (λk u bv hk=>by simp at hk) (.inl ⟨⟨by simp[kN],by simp⟩,by show bU.io=st.io;rw[xE]⟩)⟩;show _=bU.slots.length;rw[xE];exact h.size;show bU.boxes.length=bU.slots.length;rw[xE];simpa using h.bsize;intro i av hi;have uL:st.slots[i]?=some av:=by have:bU.slots[i]?=some av:=hi;rw[xE]at this;exact this
 exact .inl ⟨⟨by simp[kN],by simp⟩,uL,rfl⟩;intro t rJ hb;have ix:(st.boxes.set s (some (cs.set j x1)))[t]?=some (some rJ):=by have:bU.boxes[t]?=some (some rJ):=hb;rw[xE]at this;exact this
 by_cases uM:t=s;subst uM;rw[bG]at ix;simp only[cg,Ay]at ix;simp at ix;subst ix;have Ju:g.β t∉f1++sr++f3:=by intro hm;simp only[az]at hm;rcases hm with(hm|hm)|hm;exact xH (by simp[hm]);rcases(BP _ hm).2 with h2|h2;exact xH (by simp[h2]);rw[IV]at h2;cases h2;exact xH (by simp[hm])
 exact .inr ⟨arr,T,fr,_,K5.2.1.trans kL,tN,fG,OY,Ju,hll,K5.1,K5.2.2.trans IY⟩;rw[aP (cR uM)]at ix;exact .inl ⟨⟨by simp[kN],by simpa using uM⟩,ix,rfl⟩
theorem ew.apb (h:ew C g st a w hs)(j:Nat)(iE:st.fH (.io j)=some x0): ∃v f2,iq (db C g st w) v x0 f2/\f2.Nodup/\(∀b∈f2,g.eX b=some .io)/\ ∀(w':World)(hw':Nat->Nat)(x1:AC)(sr:fE),(∀c',(db C g st w).Le c'->c'.w=w'->c'.hw=hw'->iq c' v x1 sr)->sr.Nodup->(∀b∈sr,b<w'.heap.size/\(b∈f2\/ei (g.eX b)))-> Fr (λb=>ei (g.eX b)\/b∈f2) w w'->(∀b x,g.eX b=some x->¬ei (some x)->b∉f2->hw' b=g.hw b)-> ∃g',ew C g' {st.fM (.io j) x1 with ep:=st.ep+1} a w' []:=by
 have hgx:st.io[j]?=some x0:=by rw[AS.fH,ej]at iE;exact iE
 obtain⟨fp,hr,hn,hl⟩:=h.io;obtain⟨v,f1,f2,f3,hv,rfl,ik,Dh,Bq,pq⟩:=h.LN .io (by simp[kN]) hr hn hl hgx;refine⟨v,f2,ik,Dh,Bq,?_⟩;intro w' hw' x1 sr Jw IX BP jH GW;let bU:AS:={st.fM (.io j) x1 with ep:=st.ep+1}
 have xE:bU={st with io:=st.io.set j x1,ep:=st.ep+1}:=by show({st.fM (.io j) x1 with ep:=st.ep+1}:AS)=_;simp only[AS.fM,fV]
 obtain⟨hle,fG,OY,hll,hk1,hk2,Uy,Xb⟩:=pq w' hw' bU x1 sr rfl (by rw[xE]) (λs hs=>by rw[xE];exact hs) Jw IX BP jH GW
 refine⟨_,h.step (λx=>¬ei (some x)/\x≠ .io) hle h.defers ?_ ?_ Uy Xb (λb x hk hx=>hk1 b x hk.1 hk.2 hx) ?_ ?_ (λk u bv hk=>by simp at hk) (.inr ⟨_,by
  have:bU.io=st.io.set j x1:=by rw[xE]
  show bO _ _ bU.io _;rw[this];exact fG,OY,hll⟩)⟩
 show _=bU.slots.length;rw[xE];exact h.size;show bU.boxes.length=bU.slots.length;rw[xE];exact h.bsize;intro i av hi;have uL:st.slots[i]?=some av:=by have:bU.slots[i]?=some av:=hi;rw[xE]at this;exact this
 exact .inl ⟨⟨by simp[kN],by simp⟩,uL,rfl⟩;intro t rJ hb;have ix:st.boxes[t]?=some (some rJ):=by have:bU.boxes[t]?=some (some rJ):=hb;rw[xE]at this;exact this
 exact .inl ⟨⟨by simp[kN],by simp⟩,ix,rfl⟩
theorem ew.Vi (h:ew C g st a w hs)(r:lh)(DK:x0≠ .bot)(iE:st.fH r=some x0): ∃v f2,iq (db C g st w) v x0 f2/\f2.Nodup/\(∀b∈f2,g.eX b=some r.owner)/\ ∀(w':World)(hw':Nat->Nat)(x1:AC)(sr:fE),(∀c',(db C g st w).Le c'->c'.w=w'->c'.hw=hw'->iq c' v x1 sr)->sr.Nodup->(∀b∈sr,b<w'.heap.size/\(b∈f2\/ei (g.eX b)))-> Fr (λb=>ei (g.eX b)\/b∈f2) w w'->(∀b x,g.eX b=some x->¬ei (some x)->b∉f2->hw' b=g.hw b)-> ∃g',ew C g' {st.fM r x1 with ep:=st.ep+1} a w' []:=by cases r with|slot s j=>exact h.ajF s j DK iE|box s j=>exact h.alV s j iE|io j=>exact h.apb j iE
theorem ew.Vj (h:ew C g st a w hs)(r:lh){tag:ay Nat}{e:CT}{xs:aw e.D}(iE:st.fH r=some (.sl (.own tag) e xs)): ∃v f2,(∀t,tag=some t->v=g.hdr t)/\fQ g.hw w (.sl e) [v] xs f2/\f2.Nodup/\(∀b∈f2,g.eX b=some r.owner)/\ ∀(w':World)(hw':Nat->Nat)(QM:aw e.D)(sr:fE),fQ hw' w' (.sl e) [v] QM sr->sr.Nodup->(∀b∈sr,b<w'.heap.size/\(b∈f2\/ei (g.eX b)))-> Fr (λb=>ei (g.eX b)\/b∈f2) w w'->(∀b x,g.eX b=some x->¬ei (some x)->b∉f2->hw' b=g.hw b)-> ∃g',ew C g' {st.fM r (.sl (.own tag) e QM)with ep:=st.ep+1} a w' []:=by obtain⟨v,f2,fG,Dh,Bq,pq⟩:=h.Vi r (by simp) iE;refine⟨v,f2,λt ht=>(fG.2 t ht).2,fG.1,Dh,Bq,λw' hw' QM sr ik IX BP jH GW=>pq w' hw' (.sl (.own tag) e QM) sr (λc' hle VK Ho=>⟨?_,λt ht=>?_⟩) IX BP jH GW⟩;rw[VK,Ho];exact ik;have h1:=fG.2 t ht;exact⟨(hle.hdr t h1.1).1,by rw[(hle.hdr t h1.1).2];exact h1.2⟩
theorem ew.ajG (h:ew C g st a w [])(r:lh)(DK:x0≠ .bot)(iE:st.fH r=some x0): ∃v f2,iq (db C g st w) v x0 f2/\f2.Nodup/\(∀b∈f2,g.eX b=some r.owner)/\ ∀(x1:AC)(sr fh:fE)(u:Value)(av:AV),(∀c',(db C g st w).Le c'->c'.w=w->c'.hw=g.hw->c'.ep=st.ep->iq c' v x1 sr)->sr.Nodup->fh.Nodup->(∀b∈sr,b∈f2/\b∉fh)->(∀b∈fh,b∈f2)-> gK (db C g st w) u av fh->∃g',ew C g' (st.fM r x1) a w [(u,av)]:=by
 have core:∀(o:kz){vs:jd}{cs:aw AC}{fp:fE}{j:Nat},bO (db C g st w) vs cs fp->fp.Nodup->(∀b∈fp,g.eX b=some o)->cs[j]?=some x0->
  ∃v f2,iq (db C g st w) v x0 f2/\f2.Nodup/\(∀b∈f2,g.eX b=some o/\b∈fp)/\
   ∀(bU:AS)(x1:AC)(sr fh:fE)(u:Value)(av:AV),bU.ep=st.ep->bU.iss=st.iss->(∀s,jF st s->jF bU s)->(∀c',(db C g st w).Le c'->c'.w=w->c'.hw=g.hw->c'.ep=st.ep->iq c' v x1 sr)->sr.Nodup->fh.Nodup->(∀b∈sr,b∈f2/\b∉fh)->(∀b∈fh,b∈f2)->gK (db C g st w) u av fh->
    (db C g st w).Le (db C {g with eX:=λb=>if b∈fh then some (.hand 0) else g.eX b} bU w)/\
    ∃kK,bO (db C {g with eX:=λb=>if b∈fh then some (.hand 0) else g.eX b} bU w) vs (cs.set j x1) kK/\kK.Nodup/\(∀b∈kK,b∉fh/\b∈fp)/\
    KK C {g with eX:=λb=>if b∈fh then some (.hand 0) else g.eX b} bU w 0 u av:=by
  intro o vs cs fp j fG hn hl hx
  obtain⟨v,f1,f2,f3,hv,rfl,Q2,FX⟩:=fG.amW hx
  have DH:=hn
  rw[aY]at DH
  have n1:=aN.1 DH
  have n2:=aN.1 n1.2.1
  refine⟨v,f2,Q2,n2.1,λb hb=>⟨hl b (by simp[hb]),by simp[hb]⟩,?_⟩
  intro bU x1 sr fh u av Ac Ng wq hx1 IX QK BP QX hu
  have hle:(db C g st w).Le (db C {g with eX:=λb=>if b∈fh then some (.hand 0) else g.eX b} bU w):=
   ⟨rfl,λt ht=>⟨by show nD bU t;have ZH:nD st t:=ht;simpa[nD,Ng]using ZH,rfl⟩,λ_ _ _ _ _ hu=>hu,by show st.ep<=bU.ep;omega,λs hs=>⟨wq s hs,rfl⟩,λ_ b o u ho hu=>⟨ho,hu⟩⟩
  have Fj:∀b∈f1++f3,b∉f2:=by intro b hb h2;rcases az.1 hb with hb|hb;exact n1.2.2 b hb b (bH _ h2) rfl;exact n2.2.2 b h2 b hb rfl
  refine⟨hle,f1++sr++f3,FX _ hle _ sr (hx1 _ hle rfl rfl Ac) (λ_ _=>⟨rfl,rfl⟩),?_,?_,fh,hu.mono hle (λ_ _=>⟨rfl,rfl⟩),QK,λb hb=>?_⟩
  ·rw[aY]
   refine aN.2 ⟨n1.1,aN.2 ⟨IX,n2.2.1,?_⟩,?_⟩
   ·rintro b hb c hc rfl;exact Fj b (by simp[hc]) (BP b hb).1
   ·rintro b hb c hc rfl
    rcases az.1 hc with hc|hc
    ·exact Fj b (by simp[hb]) (BP b hc).1
    ·exact n1.2.2 b hb b (bu _ hc) rfl
  ·intro b hb
   simp only[az]at hb
   rcases hb with(hb|hb)|hb
   ·exact⟨λhm=>Fj b (by simp[hb]) (QX b hm),by simp[hb]⟩
   ·exact⟨(BP b hb).2,by simp[(BP b hb).1]⟩
   ·exact⟨λhm=>Fj b (by simp[hb]) (QX b hm),by simp[hb]⟩
  ·show(if b∈fh then _ else _)=_
   rw[aH hb]
 have Pr:∀(fh:fE),∀b x,(if b∈fh then some (kz.hand 0) else g.eX b)=some x->(b∈fh->∃y,g.eX b=some y)->b<w.heap.size/\(C.w0.heap.size<=b\/C.M b):=by intro fh b x hx hy;by_cases hm:b∈fh;obtain⟨y,hy⟩:=hy hm;exact h.gL b y hy;rw[aG hm]at hx;exact h.gL b x hx
 have abK:∀(fh:fE)(o:kz),(∀b∈fh,g.eX b=some o)->∀b x,x≠o->g.eX b=some x->(if b∈fh then some (kz.hand 0) else g.eX b)=some x:=by intro fh o QX b x hxo hb;rw[aG (λhm=>hxo (by have:=QX b hm;rw[hb]at this;simpa using this))];exact hb
 cases r with
 |slot s j=>
  have Ay:s<st.slots.length:=by
   rcases cn s st.slots.length with gF|BQ;exact gF;have:st.get s=.bot:=by simp[AS.get,ej,bC BQ]
   rw[AS.fH,this]at iE;cases j with|zero=>simp[nth]at iE;exact absurd iE.symm DK|succ j=>simp[nth]at iE
  have hsl:st.slots[s]?=some (st.get s):=by rw[get_eq (ak Ay)];exact ak Ay
  obtain⟨fp,hr,hn,hl⟩:=h.slots s _ hsl;cases hg:st.get s with
  |xC ts=>rw[AS.fH,hg]at iE;cases iE
  |val gg cs=>
   have hgx:cs[j]?=some x0:=by rw[AS.fH,hg]at iE;simpa[ej]using iE
   rw[hg]at hr;obtain⟨vs,fS,hr⟩:=hr;have nA:∀x1,st.fM (.slot s j) x1={st with slots:=st.slots.set s (.val gg (cs.set j x1))}:=λx1=>by simp only[AS.fM,hg,AS.put,fV]
   obtain⟨v,f2,Sg,Dh,Bq,pq⟩:=core (.slot s) hr hn hl hgx;refine⟨v,f2,Sg,Dh,λb hb=>(Bq b hb).1,?_⟩;intro x1 sr fh u av hx1 IX QK BP QX hu;obtain⟨hle,kK,fG,OY,Dg,FQ⟩:=pq (st.fM (.slot s j) x1) x1 sr fh u av (by rw[nA]) (by rw[nA]) (λ_ q=>by rw[nA];exact q) hx1 IX QK BP QX hu;have hfo:∀b∈fh,g.eX b=some (.slot s):=λb hb=>(Bq b (QX b hb)).1;refine⟨_,h.step (λx=>x≠ .slot s) hle h.defers ?_ ?_ h.frame (λb x hx=>Pr fh b x hx (λhm=>⟨_,hfo b hm⟩)) (λb x hk hb=>⟨abK fh _ hfo b x hk hb,rfl,rfl⟩) ?_ ?_ ?_ (.inl ⟨by simp,by rw[nA]⟩)⟩;rw[nA];simpa using h.size;rw[nA];simpa using h.bsize;intro i bv hi;rw[nA]at hi;have uL:(st.slots.set s (.val gg (cs.set j x1)))[i]?=some bv:=hi;by_cases his:i=s;subst his;rw[bG]at uL;simp only[cg,Ay]at uL;simp at uL;subst uL;refine .inr ⟨kK,⟨vs,fS,fG⟩,OY,λb hb=>?_⟩;show(if b∈fh then _ else _)=_;rw[aG (Dg b hb).1];exact hl b (Dg b hb).2;rw[aP (cR his)]at uL;exact .inl ⟨by simpa using his,uL,rfl⟩;intro t rJ hb;rw[nA]at hb;exact .inl ⟨by simp,hb,rfl⟩;intro k u' bv hk;cases k with
   |zero=>simp only[cC,bp,Prod.mk.injEq]at hk;obtain⟨rfl,rfl⟩:=hk;exact .inr FQ
   |succ k=>simp at hk
 |box s j=>
  have kq:∃cs,st.boxes[s]?=some (some cs)/\cs[j]?=some x0:=by rw[AS.fH,ej]at iE;cases hb:st.boxes[s]? with|none=>simp[hb]at iE|some o=>cases o with|none=>simp[hb]at iE|some cs=>exact⟨cs,rfl,by simpa[hb,ej]using iE⟩
  obtain⟨cs,kq,hgx⟩:=kq;have Ay:s<st.boxes.length:=(aC.1 kq).1;obtain⟨arr,T,fr,fp,kL,tN,hr,hn,xH,hl,IV,IY⟩:=h.boxes s cs kq;have nA:∀x1,st.fM (.box s j) x1={st with boxes:=st.boxes.set s (some (cs.set j x1))}:=λx1=>by simp only[AS.fM,ej,kq,ga,AS.fj,fV]
  obtain⟨v,f2,Sg,Dh,Bq,pq⟩:=core (.box s) hr hn hl hgx;refine⟨v,f2,Sg,Dh,λb hb=>(Bq b hb).1,?_⟩;intro x1 sr fh u av hx1 IX QK BP QX hu;obtain⟨hle,kK,fG,OY,Dg,FQ⟩:=pq (st.fM (.box s j) x1) x1 sr fh u av (by rw[nA]) (by rw[nA]) (λt ht=>by rw[nA];obtain⟨c0,hc0⟩:=ht;by_cases uM:s=t;subst uM;exact⟨cs.set j x1,by simp[Ay]⟩;exact⟨c0,by rw[aP uM];exact hc0⟩) hx1 IX QK BP QX hu;have hfo:∀b∈fh,g.eX b=some (.box s):=λb hb=>(Bq b (QX b hb)).1;refine⟨_,h.step (λx=>x≠ .box s) hle h.defers ?_ ?_ h.frame (λb x hx=>Pr fh b x hx (λhm=>⟨_,hfo b hm⟩)) (λb x hk hb=>⟨abK fh _ hfo b x hk hb,rfl,rfl⟩) ?_ ?_ ?_ (.inl ⟨by simp,by rw[nA]⟩)⟩;rw[nA];exact h.size;rw[nA];simpa using h.bsize;intro i bv hi;rw[nA]at hi;exact .inl ⟨by simp,hi,rfl⟩;intro t rJ hb;rw[nA]at hb;have ix:(st.boxes.set s (some (cs.set j x1)))[t]?=some (some rJ):=hb;by_cases uM:t=s;subst uM;rw[bG]at ix;simp only[cg,Ay]at ix;simp at ix;subst ix;have K5:g.β t∉fh:=λhm=>xH (Bq _ (QX _ hm)).2;refine .inr ⟨arr,T,fr,kK,kL,tN,fG,OY,λhm=>xH (Dg _ hm).2,λb hb=>?_,?_,IY⟩;show(if b∈fh then _ else _)=_;rw[aG (Dg b hb).1];exact hl b (Dg b hb).2;show(if g.β t∈fh then _ else _)=_;rw[aG K5];exact IV;rw[aP (cR uM)]at ix;exact .inl ⟨by simpa using uM,ix,rfl⟩;intro k u' bv hk;cases k with
  |zero=>simp only[cC,bp,Prod.mk.injEq]at hk;obtain⟨rfl,rfl⟩:=hk;exact .inr FQ
  |succ k=>simp at hk
 |io j=>
  have hgx:st.io[j]?=some x0:=by rw[AS.fH,ej]at iE;exact iE
  obtain⟨fp,hr,hn,hl⟩:=h.io;have nA:∀x1,st.fM (.io j) x1={st with io:=st.io.set j x1}:=λx1=>by simp only[AS.fM,fV]
  obtain⟨v,f2,Sg,Dh,Bq,pq⟩:=core .io hr hn hl hgx;refine⟨v,f2,Sg,Dh,λb hb=>(Bq b hb).1,?_⟩;intro x1 sr fh u av hx1 IX QK BP QX hu;obtain⟨hle,kK,fG,OY,Dg,FQ⟩:=pq (st.fM (.io j) x1) x1 sr fh u av (by rw[nA]) (by rw[nA]) (λ_ q=>by rw[nA];exact q) hx1 IX QK BP QX hu;have hfo:∀b∈fh,g.eX b=some .io:=λb hb=>(Bq b (QX b hb)).1;refine⟨_,h.step (λx=>x≠ .io) hle h.defers ?_ ?_ h.frame (λb x hx=>Pr fh b x hx (λhm=>⟨_,hfo b hm⟩)) (λb x hk hb=>⟨abK fh _ hfo b x hk hb,rfl,rfl⟩) ?_ ?_ ?_ (.inr ⟨kK,?_,OY,λb hb=>?_⟩)⟩;rw[nA];exact h.size;rw[nA];exact h.bsize;intro i bv hi;rw[nA]at hi;exact .inl ⟨by simp,hi,rfl⟩;intro t rJ hb;rw[nA]at hb;exact .inl ⟨by simp,hb,rfl⟩;intro k u' bv hk;cases k with
  |zero=>simp only[cC,bp,Prod.mk.injEq]at hk;obtain⟨rfl,rfl⟩:=hk;exact .inr FQ
  |succ k=>simp at hk
  have:(st.fM (.io j) x1).io=st.io.set j x1:=by rw[nA]
  rw[this];exact fG;show(if b∈fh then _ else _)=_;rw[aG (Dg b hb).1];exact hl b (Dg b hb).2
theorem ew.aa6 (h:ew C g st a w hs){v:Value}{x:AC}(r:iq (db C g st w) v x []):iq (db C g st w) v (st.fresh x) []:=by
 unfold AS.fresh;split;rename_i ep rt t e xs;cases Ac:(ep==st.ep)with
 |true=>exact r
 |false=>
  simp only[af];split;rename_i t' e' ys iE;split;rename_i he;subst he;cases ht:(t'==t)with
  |false=>exact r
  |true=>
   have:t'=t:=by simpa using ht
   subst this;simp only[ah];obtain⟨v0,f2,hh,ik,_,_,_⟩:=h.Vj rt iE;obtain⟨h1,h2,h3,h4,h5⟩:=r;obtain⟨k1,k2⟩:=h5 rt t' rfl;have hv:v0=v:=(hh t' rfl).trans k2.symm;subst hv;exact⟨h1,bh _,PG ik,λ_=>fQ.rep (λb o ho=> .inr ho) ik,λr1 t1 hp=>by simp at hp;obtain⟨_,rfl⟩:=hp;exact⟨k1,k2⟩⟩
  exact r;exact r
 exact r
theorem ew.Md (h:ew C g st a w hs):∀{vs:jd}{xs:aw AC},bO (db C g st w) vs xs []->bO (db C g st w) vs (xs.map st.fresh) []
 |[],[],r=>r
 |_::_,_::_,r=>by
  obtain⟨f1,f2,he,r1,r2⟩:=r;have h1:f1=[]:=by have:=he.symm;simp at this;exact this.1
  have h2:f2=[]:=by have:=he.symm;simp at this;exact this.2
  subst h1;subst h2;exact⟨[],[],rfl,h.aa6 r1,h.Md r2⟩
 |[],_::_,r=>r.elim
 |_::_,[],r=>r.elim
theorem ew.fresh (h:ew C g st a w hs){v:Value}{x:AV}(r:gK (db C g st w) v x []):gK (db C g st w) v (x.fresh st) []:=by
 cases x with
 |val gg cs=>obtain⟨vs,hv,r⟩:=r;exact⟨vs,hv,h.Md r⟩
 |xC ts=>exact r
end Go.Dn
