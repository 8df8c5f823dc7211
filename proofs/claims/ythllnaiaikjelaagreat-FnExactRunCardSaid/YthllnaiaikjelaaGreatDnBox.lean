import Derived.Test.YthllnaiaikjelaaGreatDnPut
/- A box is made or written; an element of an owned slice is written. -/
namespace Go.Dn
open Go.RowKit
variable {C:Ctx} {g:Gh} {st:AS} {a:Act} {w:World} {hs:ar (Value×AV)}
variable {x0:AC} {fp:ei}
theorem lY {s:Nat}{b:au (ar AC)}:(st.eZ s b).boxes=st.boxes.set s b:=by simp[AS.eZ,fE]
theorem YI {s:Nat}{cs:ar AC}{g':Gh}{w':World}(P4:g'.hdr=g.hdr)(hcA:∀k b o u,C.A k b o->w.cell? ⟨b,o,none⟩=some u->w'.cell? ⟨b,o,none⟩=some u)(O4:∀t,ij st t->g'.β t=g.β t)(P6:∀b o u,o<g.hw b->w.cell? ⟨b,o,none⟩=some u->o<g'.hw b/\w'.cell? ⟨b,o,none⟩=some u): (cP C g st w).Le (cP C g' (st.eZ s (some cs)) w'):=by refine⟨rfl,λt ht=>⟨ht,by show g'.hdr t=g.hdr t;rw[P4]⟩,hcA,ba _,λt ht=>⟨?_,O4 t ht⟩,λ_ b o u ho hu=>P6 b o u ho hu⟩;obtain⟨pb,hc⟩:=ht;show∃azM,(st.eZ s (some cs)).boxes[t]?=some (some azM);rw[lY];by_cases uJ:s=t;subst uJ;have iJ:s<st.boxes.length:=(aJ.1 hc).1;exact⟨cs,by simp[iJ]⟩;exact⟨pb,by rw[aZ uJ];exact hc⟩
theorem dN.ae1 (h:dN C g st a w hs)(s:Nat){cs:ar AC}{arr:Array Value}{T:TypeId}{fr:Nat×Nat}{w':World}{bnew:Nat}{hw':Nat->Nat}(hbn:(bnew=g.β s/\g.eC bnew=some (.box s))\/(w.heap.size<=bnew/\st.boxes[s]?=some none))(iA:Fr (λb=>dq (g.eC b)\/b=bnew) w w')(kL:w'.heap[bnew]?=some (.cells arr T fr))(uI:tp arr fr)(iJ:bnew<w'.heap.size)(az5:hw' bnew=0)(GL:∀b x,g.eC b=some x->¬dq (some x)->b≠bnew->hw' b=g.hw b)(P6:∀b o u,o<g.hw b->w.cell? ⟨b,o,none⟩=some u->o<hw' b/\w'.cell? ⟨b,o,none⟩=some u)(hr:bE ⟨hw',λt=>if t=s then bnew else g.β t,C.A,g.hdr,nr st,st.ep,ij st,w'⟩ arr.toList cs fp)(hn:fp.Nodup)(xk:bnew∉fp)(HD:∀b∈fp,b<w'.heap.size/\(dq (g.eC b)\/g.eC b=some (.box s)\/w.heap.size<=b)): ∃g',g'.β s=bnew/\dN C g' (st.eZ s (some cs)) a w' []:=by
 have hcA:∀k b o u,C.A k b o->w.cell? ⟨b,o,none⟩=some u->w'.cell? ⟨b,o,none⟩=some u:=by
  intro k b o u hA hu;have hb:b<w.heap.size:=World.block_lt_of_cell? w _ hu;have PA:¬(dq (g.eC b)\/b=bnew):=by
   rintro(hh|rfl);cases hx:g.eC b with|none=>rw[hx]at hh;cases hh|some x=>exact h.RX hx k o hA
   rcases hbn with⟨_,h2⟩|h2;exact h.RX h2 k o hA;omega
  rw[World.cell?_of_block (a:=⟨b,o,none⟩) (iA.block b hb PA)];exact hu
 have JG:∀b x,g.eC b=some x->x≠ .box s->b≠bnew:=by rintro b x hx hxs rfl;rcases hbn with⟨_,h2⟩|h2;rw[hx]at h2;exact hxs (by simpa using h2);have:=(h.fW b x hx).1;omega
 have hkp:∀b x,g.eC b=some x->¬dq (some x)->x≠ .box s->w'.heap[b]?=w.heap[b]?:=λb x hx hh hxs=>
  iA.block b (h.fW b x hx).1 (by rintro(k|k);rw[hx]at k;exact hh k;exact JG b x hx hxs k)
 let β':Nat->Nat:=λt=>if t=s then bnew else g.β t
 let ajJ:Nat->au ki:=λb=>if b=bnew\/b∈fp then some (.box s) else if dq (g.eC b) then none else g.eC b
 let g':Gh:=⟨hw',β',ajJ,g.hdr⟩
 have O0:Fr C.M C.w0 w':=h.frame.trans iA (λb hb hh=>by
  rcases hh with hh|rfl;cases hx:g.eC b with|none=>rw[hx]at hh;cases hh|some x=>rcases(h.fW b x hx).2 with h2|h2;omega;exact h2
  rcases hbn with⟨_,h2⟩|h2;rcases(h.fW b _ h2).2 with h3|h3;omega;exact h3;have:=h.frame.size;omega)
 have O4:∀t,ij st t->β' t=g.β t:=by rintro t ⟨pb,hc⟩;show(if t=s then bnew else g.β t)=g.β t;by_cases uJ:t=s;subst uJ;rcases hbn with⟨h2,_⟩|⟨_,h2⟩;simp[h2];rw[h2]at hc;cases hc;simp[uJ]
 have hle:(cP C g st w).Le (cP C g' (st.eZ s (some cs)) w'):=YI rfl hcA O4 P6;have aqv:(RC.mk hw' β' C.A g.hdr (nr st) st.ep (ij st) w').Le (cP C g' (st.eZ s (some cs)) w'):=⟨rfl,λ_ ht=>⟨ht,rfl⟩,λ_ _ _ _ _ hu=>hu,ba _,λt ht=>⟨(hle.QF t ht).1,rfl⟩,λ_ b o u ho hu=>⟨ho,hu⟩⟩
 refine⟨g',by show(if s=s then bnew else g.β s)=bnew;simp,h.step (λx=>¬dq (some x)/\x≠ .box s) hle h.defers h.size ?_ O0 ?_ ?_ ?_ ?_ ?_ (.inl ⟨⟨by simp[fV],by simp⟩,rfl⟩)⟩;show(st.eZ s (some cs)).boxes.length=st.slots.length;rw[lY,aL];exact h.bsize;intro b x hx;have Fe:(if b=bnew\/b∈fp then some (ki.box s) else if dq (g.eC b) then none else g.eC b)=some x:=hx;by_cases hm:b=bnew\/b∈fp;rcases hm with rfl|hm;refine⟨iJ,?_⟩;rcases hbn with⟨_,h2⟩|h2;exact(h.fW b _ h2).2;exact .inl (aF h.frame.size h2.1);refine⟨(HD b hm).1,?_⟩;rcases(HD b hm).2 with h2|h2|h2;cases hy:g.eC b with|none=>rw[hy]at h2;cases h2|some y=>exact(h.fW b y hy).2
 exact(h.fW b _ h2).2;exact .inl (aF h.frame.size h2);rw[aK hm]at Fe;split at Fe;cases Fe;have hl:=h.fW b x Fe;have hz:=iA.size;exact⟨by omega,hl.2⟩;intro b x hk hx;have hb1:=JG b x hx hk.2;refine⟨?_,hkp b x hx hk.1 hk.2,GL b x hx hk.1 hb1⟩;show(if b=bnew\/b∈fp then some (ki.box s) else if dq (g.eC b) then none else g.eC b)=some x;have aag:¬(b=bnew\/b∈fp):=by rintro(hm|hm);exact hb1 hm;rcases(HD b hm).2 with h2|h2|h2;rw[hx]at h2;exact hk.1 h2;rw[hx]at h2;exact hk.2 (by simpa using h2);have:=(h.fW b x hx).1;omega
 rw[aK aag,aK (by rw[hx];exact hk.1),hx];intro i av hi;exact .inl ⟨⟨by simp[fV],by simp⟩,hi,rfl⟩;intro t pb hb;have ig:(st.boxes.set s (some cs))[t]?=some (some pb):=by rw[<-lY];exact hb
 by_cases uJ:t=s;subst uJ;rw[bu]at ig;simp only[cd]at ig;split at ig;simp at ig;subst ig;have aoS:β' t=bnew:=by show(if t=t then bnew else g.β t)=bnew;simp
 refine .inr ⟨arr,T,fr,fp,?_,uI,hr.mono aqv (λb _=>⟨rfl,rfl⟩),hn,?_,?_,?_,?_⟩;show w'.heap[β' t]?=_;rw[aoS];exact kL;show β' t∉fp;rw[aoS];exact xk;intro b hb;show(if b=bnew\/b∈fp then _ else _)=_;rw[aM (.inr hb)];show(if β' t=bnew\/β' t∈fp then _ else _)=_;rw[aM (.inl aoS)];show hw' (β' t)=0;rw[aoS];exact az5;cases ig;rw[aZ (cX uJ)]at ig;exact .inl ⟨⟨by simp[fV],by simpa using uJ⟩,ig,by show(if t=s then bnew else g.β t)=_;simp[uJ]⟩;intro k u bv hk;simp at hk
def lW.owner:lW->ki
 | .slot s _=> .slot s
 | .box s _=> .box s
 | .io _=> .io
theorem bE.ap0 {c:RC}{vs:iW}{cs:ar AC}(hr:bE c vs cs fp){j:Nat}{x:AC}(hx:cs[j]?=some x): ∃v f1 f2 f3,vs[j]?=some v/\fp=f1++f2++f3/\iD c v x f2/\ ∀(c':RC),c.Le c'->∀x' f2',iD c' v x' f2'->(∀b∈f1++f3,c'.w.heap[b]?=c.w.heap[b]?/\c'.hw b=c.hw b)-> bE c' vs (cs.set j x') (f1++f2'++f3):=by
 have hj:j<cs.length:=(aJ.1 hx).1;obtain⟨f1,fr,rfl,r1,r2⟩:=hr.split j;have hlen:=hr.length;have hjv:j<vs.length:=by omega
 have ecs:cs.drop j=x::cs.drop (j+1):=by rw[cg hj];congr 1;rw[al hj]at hx;simpa using hx
 have evs:vs.drop j=vs[j]::vs.drop (j+1):=cg hjv;rw[ecs,evs]at r2;obtain⟨f2,f3,rfl,r2,r3⟩:=r2;refine⟨vs[j],f1,f2,f3,al hjv,by simp,r2,λc' hle x' f2' Fe hb=>?_⟩;have e1:vs=vs.take j++(vs[j]::vs.drop (j+1)):=by rw[<-evs,cK]
 have e2:cs.set j x'=cs.take j++(x'::cs.drop (j+1)):=by rw[List.set_eq_take_append_cons_drop,aM hj]
 rw[e1,e2,aX];refine bE.append (r1.mono hle (λb ig=>hb b (br _ ig))) ⟨f2',f3,rfl,Fe,?_⟩;exact r3.mono hle (λb ig=>hb b (bh _ ig))
def Gh.wrote (g:Gh)(o:ki)(fp:ei)(hw':Nat->Nat):Gh:=
 ⟨hw',g.β,λb=>if b∈fp then some o else if dq (g.eC b) then none else g.eC b,g.hdr⟩
theorem dN.Si (h:dN C g st a w hs)(o:ki)(SV:¬dq (some o)){vs:iW}{cs:ar AC}{j:Nat}(ee:bE (cP C g st w) vs cs fp)(hn:fp.Nodup)(hl:∀b∈fp,g.eC b=some o)(hx:cs[j]?=some x0): ∃v f1 f2 f3,vs[j]?=some v/\fp=f1++f2++f3/\iD (cP C g st w) v x0 f2/\f2.Nodup/\(∀b∈f2,g.eC b=some o)/\ ∀(w':World)(hw':Nat->Nat)(st':AS)(x1:AC)(kX:ei),st'.ep=st.ep+1->st'.iss=st.iss->(∀s,ij st s->ij st' s)-> (∀c',(cP C g st w).Le c'->c'.w=w'->c'.hw=hw'->iD c' v x1 kX)->kX.Nodup->(∀b∈kX,b<w'.heap.size/\(b∈f2\/dq (g.eC b)))-> Fr (λb=>dq (g.eC b)\/b∈f2) w w'->(∀b x,g.eC b=some x->¬dq (some x)->b∉f2->hw' b=g.hw b)-> (cP C g st w).Le (cP C (g.wrote o (f1++kX++f3) hw') st' w')/\ bE (cP C (g.wrote o (f1++kX++f3) hw') st' w') vs (cs.set j x1) (f1++kX++f3)/\(f1++kX++f3).Nodup/\ (∀b∈f1++kX++f3,(g.wrote o (f1++kX++f3) hw').eC b=some o)/\ (∀b x,¬dq (some x)->x≠o->g.eC b=some x->(g.wrote o (f1++kX++f3) hw').eC b=some x/\w'.heap[b]?=w.heap[b]?/\hw' b=g.hw b)/\ (∀b,g.eC b=some o->b∉fp->(g.wrote o (f1++kX++f3) hw').eC b=some o/\w'.heap[b]?=w.heap[b]?/\hw' b=g.hw b)/\ Fr C.M C.w0 w'/\(∀b x,(g.wrote o (f1++kX++f3) hw').eC b=some x->b<w'.heap.size/\(C.w0.heap.size<=b\/C.M b)):=by
 obtain⟨v,f1,f2,f3,hv,rfl,Xe,IA⟩:=ee.ap0 hx;have Fq:=hn;rw[aX]at Fq;have n1:=aG.1 Fq;have n2:=aG.1 n1.2.1;have EP:∀b∈f1++f3,b∉f2:=by intro b hb h2;rcases aA.1 hb with hb|hb;exact n1.2.2 b hb b (br _ h2) rfl;exact n2.2.2 b h2 b hb rfl
 refine⟨v,f1,f2,f3,hv,rfl,Xe,n2.1,λb hb=>hl b (by simp[hb]),?_⟩;intro w' hw' st' x1 kX Cw LJ uH fB HE qZ iA GL;have hcA:∀k b o u,C.A k b o->w.cell? ⟨b,o,none⟩=some u->w'.cell? ⟨b,o,none⟩=some u:=by
  intro k b o u hA hu;have hb:b<w.heap.size:=World.block_lt_of_cell? w _ hu;have PA:¬(dq (g.eC b)\/b∈f2):=by
   rintro(hh|hm);cases hx:g.eC b with|none=>rw[hx]at hh;cases hh|some x=>exact h.RX hx k o hA
   exact h.RX (hl b (by simp[hm])) k o hA
  rw[World.cell?_of_block (a:=⟨b,o,none⟩) (iA.block b hb PA)];exact hu
 have hle:(cP C g st w).Le (cP C (g.wrote o (f1++kX++f3) hw') st' w'):=⟨rfl,λt ht=>⟨by show nr st' t;have ht':nr st t:=ht;simpa[nr,LJ]using ht',rfl⟩,hcA,by show st.ep<=st'.ep;omega,λs hs=>⟨uH s hs,rfl⟩,λhe=>absurd he (by show st'.ep≠st.ep;omega)⟩
 have nR:∀b x,¬dq (some x)->g.eC b=some x->b∉f2->w'.heap[b]?=w.heap[b]?/\hw' b=g.hw b:=by intro b x hh hb hm;exact⟨iA.block b (h.fW b _ hb).1 (by rintro(k|k);rw[hb]at k;exact hh k;exact hm k),GL b _ hb hh hm⟩
 have hd1:∀b∈f1++f3,b∉kX:=by intro b hb hm;rcases(qZ b hm).2 with h2|h2;exact EP b hb h2;have Ym:g.eC b=some o:=hl b (by rcases aA.1 hb with hb|hb<;>simp[hb]);rw[Ym]at h2;exact SV h2
 refine⟨hle,?_,?_,?_,?_,?_,?_,?_⟩;refine IA _ hle _ kX (fB _ hle rfl rfl) (λb hb=>?_);exact nR b o SV (hl b (by rcases aA.1 hb with hb|hb<;>simp[hb])) (EP b hb);rw[aX];refine aG.2 ⟨n1.1,aG.2 ⟨HE,n2.2.1,?_⟩,?_⟩;rintro b hb c hc rfl;exact hd1 b (by simp[hc]) hb;rintro b hb c hc rfl;rcases aA.1 hc with hc|hc;exact hd1 b (by simp[hb]) hc;exact n1.2.2 b hb b (bh _ hc) rfl;intro b hb;show(if b∈f1++kX++f3 then _ else _)=_;rw[aM hb];intro b x hh hxo hb;have hm2:b∉f2:=λhm=>hxo (by have:=hl b (by simp[hm]);rw[hb]at this;simpa using this);refine⟨?_,nR b x hh hb hm2⟩;show(if b∈f1++kX++f3 then _ else if dq (g.eC b) then none else g.eC b)=_;have aag:b∉f1++kX++f3:=by intro hm;simp only[aA]at hm;rcases hm with(hm|hm)|hm;exact hxo (by have:=hl b (by simp[hm]);rw[hb]at this;simpa using this);rcases(qZ b hm).2 with h2|h2;exact hm2 h2;rw[hb]at h2;exact hh h2;exact hxo (by have:=hl b (by simp[hm]);rw[hb]at this;simpa using this)
 rw[aK aag,aK (by rw[hb];exact hh),hb];intro b hb hm;have hm2:b∉f2:=λk=>hm (by simp[k]);refine⟨?_,nR b o SV hb hm2⟩;show(if b∈f1++kX++f3 then _ else if dq (g.eC b) then none else g.eC b)=_;rw[aK (c:=dq (g.eC b)) (by rw[hb];exact SV),hb];split<;>rfl;refine h.frame.trans iA (λb hb hh=>?_);rcases hh with hh|hm;cases hx:g.eC b with|none=>rw[hx]at hh;cases hh|some x=>rcases(h.fW b x hx).2 with h2|h2;omega;exact h2
 rcases(h.fW b o (hl b (by simp[hm]))).2 with h2|h2;omega;exact h2;intro b x hx;have Fe:(if b∈f1++kX++f3 then some o else if dq (g.eC b) then none else g.eC b)=some x:=hx;have hz:=iA.size;have old:∀y,g.eC b=some y->b<w'.heap.size/\(C.w0.heap.size<=b\/C.M b):=λy hy=>⟨iH (h.fW b y hy).1 hz,(h.fW b y hy).2⟩
 split at Fe;rename_i hm;simp only[aA]at hm;rcases hm with(hm|hm)|hm;exact old o (hl b (by simp[hm]));rcases(qZ b hm).2 with h2|h2;exact old o (hl b (by simp[h2]));cases hy:g.eC b with|none=>rw[hy]at h2;cases h2|some y=>exact old y hy
 exact old o (hl b (by simp[hm]));split at Fe;cases Fe;exact old x Fe
theorem dN.anw (h:dN C g st a w hs)(s j:Nat)(JG:x0≠ .bot)(iP:st.fj (.slot s j)=some x0): ∃v f2,iD (cP C g st w) v x0 f2/\f2.Nodup/\(∀b∈f2,g.eC b=some (.slot s))/\ ∀(w':World)(hw':Nat->Nat)(x1:AC)(kX:ei),(∀c',(cP C g st w).Le c'->c'.w=w'->c'.hw=hw'->iD c' v x1 kX)->kX.Nodup->(∀b∈kX,b<w'.heap.size/\(b∈f2\/dq (g.eC b)))-> Fr (λb=>dq (g.eC b)\/b∈f2) w w'->(∀b x,g.eC b=some x->¬dq (some x)->b∉f2->hw' b=g.hw b)-> ∃g',dN C g' {st.fD (.slot s j) x1 with ep:=st.ep+1} a w' []:=by
 have CG:s<st.slots.length:=by
  rcases bS s st.slots.length with iJ|Fp;exact iJ;have:st.get s=.bot:=by simp[AS.get,dY,bL Fp]
  rw[AS.fj,this]at iP;cases j with|zero=>simp[nth]at iP;exact absurd iP.symm JG|succ j=>simp[nth]at iP
 have hsl:st.slots[s]?=some (st.get s):=by rw[get_eq (al CG)];exact al CG
 obtain⟨fp,hr,hn,hl⟩:=h.slots s _ hsl;cases hg:st.get s with
 |Af ts=>rw[AS.fj,hg]at iP;cases iP
 |val gg cs=>
  have hgx:cs[j]?=some x0:=by rw[AS.fj,hg]at iP;simpa[dY]using iP
  rw[hg]at hr;obtain⟨vs,eP,hr⟩:=hr;obtain⟨v,f1,f2,f3,hv,rfl,fB,Dc,ER,nk⟩:=h.Si (.slot s) (by simp[fV]) hr hn hl hgx;refine⟨v,f2,fB,Dc,ER,?_⟩;intro w' hw' x1 kX Jb HE qZ iA GL;let st':AS:={st.fD (.slot s j) x1 with ep:=st.ep+1}
  have lN:st'={st with slots:=st.slots.set s (.val gg (cs.set j x1)),ep:=st.ep+1}:=by show({st.fD (.slot s j) x1 with ep:=st.ep+1}:AS)=_;simp only[AS.fD,hg,AS.put,fE]
  obtain⟨hle,ee,O2,hll,hk1,hk2,O0,Ml⟩:=nk w' hw' st' x1 kX rfl (by rw[lN]) (λs hs=>by rw[lN];exact hs) Jb HE qZ iA GL;refine⟨_,h.step (λx=>¬dq (some x)/\x≠ .slot s) hle h.defers ?_ ?_ O0 Ml (λb x hk hx=>hk1 b x hk.1 hk.2 hx) ?_ ?_ (λk u bv hk=>by simp at hk) (.inl ⟨⟨by simp[fV],by simp⟩,by show st'.io=st.io;rw[lN]⟩)⟩;show _=st'.slots.length;rw[lN];simpa using h.size;show st'.boxes.length=st'.slots.length;rw[lN];simpa using h.bsize;intro i av hi;have uw:(st.slots.set s (.val gg (cs.set j x1)))[i]?=some av:=by have:st'.slots[i]?=some av:=hi;rw[lN]at this;exact this
  by_cases his:i=s;subst his;rw[bu]at uw;simp only[cd,CG]at uw;simp at uw;subst uw;exact .inr ⟨_,⟨vs,eP,ee⟩,O2,hll⟩;rw[aZ (cX his)]at uw;exact .inl ⟨⟨by simp[fV],by simpa using his⟩,uw,rfl⟩;intro t pb hb;have ig:st.boxes[t]?=some (some pb):=by have:st'.boxes[t]?=some (some pb):=hb;rw[lN]at this;exact this
  exact .inl ⟨⟨by simp[fV],by simp⟩,ig,rfl⟩
theorem dN.apf (h:dN C g st a w hs)(s j:Nat)(iP:st.fj (.box s j)=some x0): ∃v f2,iD (cP C g st w) v x0 f2/\f2.Nodup/\(∀b∈f2,g.eC b=some (.box s))/\ ∀(w':World)(hw':Nat->Nat)(x1:AC)(kX:ei),(∀c',(cP C g st w).Le c'->c'.w=w'->c'.hw=hw'->iD c' v x1 kX)->kX.Nodup->(∀b∈kX,b<w'.heap.size/\(b∈f2\/dq (g.eC b)))-> Fr (λb=>dq (g.eC b)\/b∈f2) w w'->(∀b x,g.eC b=some x->¬dq (some x)->b∉f2->hw' b=g.hw b)-> ∃g',dN C g' {st.fD (.box s j) x1 with ep:=st.ep+1} a w' []:=by
 have kW:∃cs,st.boxes[s]?=some (some cs)/\cs[j]?=some x0:=by rw[AS.fj,dY]at iP;cases hb:st.boxes[s]? with|none=>simp[hb]at iP|some o=>cases o with|none=>simp[hb]at iP|some cs=>exact⟨cs,rfl,by simpa[hb,dY]using iP⟩
 obtain⟨cs,kW,hgx⟩:=kW;have CG:s<st.boxes.length:=(aJ.1 kW).1;obtain⟨arr,T,fr,fp,kL,uI,hr,hn,xk,hl,LW,Ob⟩:=h.boxes s cs kW;obtain⟨v,f1,f2,f3,hv,rfl,fB,Dc,ER,nk⟩:=h.Si (.box s) (by simp[fV]) hr hn hl hgx;refine⟨v,f2,fB,Dc,ER,?_⟩;intro w' hw' x1 kX Jb HE qZ iA GL;let st':AS:={st.fD (.box s j) x1 with ep:=st.ep+1}
 have lN:st'={st with boxes:=st.boxes.set s (some (cs.set j x1)),ep:=st.ep+1}:=by show({st.fD (.box s j) x1 with ep:=st.ep+1}:AS)=_;simp only[AS.fD,dY,kW,fU,AS.eZ,fE]
 obtain⟨hle,ee,O2,hll,hk1,hk2,O0,Ml⟩:=nk w' hw' st' x1 kX rfl (by rw[lN]) (λt ht=>by rw[lN];obtain⟨c0,hc0⟩:=ht;by_cases uJ:s=t;subst uJ;exact⟨cs.set j x1,by simp[CG]⟩;exact⟨c0,by rw[aZ uJ];exact hc0⟩) Jb HE qZ iA GL;have O4:=hk2 (g.β s) LW xk;refine⟨_,h.step (λx=>¬dq (some x)/\x≠ .box s) hle h.defers ?_ ?_ O0 Ml (λb x hk hx=>hk1 b x hk.1 hk.2 hx) ?_ ?_ (λk u bv hk=>by simp at hk) (.inl ⟨⟨by simp[fV],by simp⟩,by show st'.io=st.io;rw[lN]⟩)⟩;show _=st'.slots.length;rw[lN];exact h.size;show st'.boxes.length=st'.slots.length;rw[lN];simpa using h.bsize;intro i av hi;have uw:st.slots[i]?=some av:=by have:st'.slots[i]?=some av:=hi;rw[lN]at this;exact this
 exact .inl ⟨⟨by simp[fV],by simp⟩,uw,rfl⟩;intro t pb hb;have ig:(st.boxes.set s (some (cs.set j x1)))[t]?=some (some pb):=by have:st'.boxes[t]?=some (some pb):=hb;rw[lN]at this;exact this
 by_cases uJ:t=s;subst uJ;rw[bu]at ig;simp only[cd,CG]at ig;simp at ig;subst ig;have NV:g.β t∉f1++kX++f3:=by intro hm;simp only[aA]at hm;rcases hm with(hm|hm)|hm;exact xk (by simp[hm]);rcases(qZ _ hm).2 with h2|h2;exact xk (by simp[h2]);rw[LW]at h2;cases h2;exact xk (by simp[hm])
 exact .inr ⟨arr,T,fr,_,O4.2.1.trans kL,uI,ee,O2,NV,hll,O4.1,O4.2.2.trans Ob⟩;rw[aZ (cX uJ)]at ig;exact .inl ⟨⟨by simp[fV],by simpa using uJ⟩,ig,rfl⟩
theorem dN.aqZ (h:dN C g st a w hs)(j:Nat)(iP:st.fj (.io j)=some x0): ∃v f2,iD (cP C g st w) v x0 f2/\f2.Nodup/\(∀b∈f2,g.eC b=some .io)/\ ∀(w':World)(hw':Nat->Nat)(x1:AC)(kX:ei),(∀c',(cP C g st w).Le c'->c'.w=w'->c'.hw=hw'->iD c' v x1 kX)->kX.Nodup->(∀b∈kX,b<w'.heap.size/\(b∈f2\/dq (g.eC b)))-> Fr (λb=>dq (g.eC b)\/b∈f2) w w'->(∀b x,g.eC b=some x->¬dq (some x)->b∉f2->hw' b=g.hw b)-> ∃g',dN C g' {st.fD (.io j) x1 with ep:=st.ep+1} a w' []:=by
 have hgx:st.io[j]?=some x0:=by rw[AS.fj,dY]at iP;exact iP
 obtain⟨fp,hr,hn,hl⟩:=h.io;obtain⟨v,f1,f2,f3,hv,rfl,fB,Dc,ER,nk⟩:=h.Si .io (by simp[fV]) hr hn hl hgx;refine⟨v,f2,fB,Dc,ER,?_⟩;intro w' hw' x1 kX Jb HE qZ iA GL;let st':AS:={st.fD (.io j) x1 with ep:=st.ep+1}
 have lN:st'={st with io:=st.io.set j x1,ep:=st.ep+1}:=by show({st.fD (.io j) x1 with ep:=st.ep+1}:AS)=_;simp only[AS.fD,fE]
 obtain⟨hle,ee,O2,hll,hk1,hk2,O0,Ml⟩:=nk w' hw' st' x1 kX rfl (by rw[lN]) (λs hs=>by rw[lN];exact hs) Jb HE qZ iA GL
 refine⟨_,h.step (λx=>¬dq (some x)/\x≠ .io) hle h.defers ?_ ?_ O0 Ml (λb x hk hx=>hk1 b x hk.1 hk.2 hx) ?_ ?_ (λk u bv hk=>by simp at hk) (.inr ⟨_,by
  have:st'.io=st.io.set j x1:=by rw[lN]
  show bE _ _ st'.io _;rw[this];exact ee,O2,hll⟩)⟩
 show _=st'.slots.length;rw[lN];exact h.size;show st'.boxes.length=st'.slots.length;rw[lN];exact h.bsize;intro i av hi;have uw:st.slots[i]?=some av:=by have:st'.slots[i]?=some av:=hi;rw[lN]at this;exact this
 exact .inl ⟨⟨by simp[fV],by simp⟩,uw,rfl⟩;intro t pb hb;have ig:st.boxes[t]?=some (some pb):=by have:st'.boxes[t]?=some (some pb):=hb;rw[lN]at this;exact this
 exact .inl ⟨⟨by simp[fV],by simp⟩,ig,rfl⟩
theorem dN.aaR (h:dN C g st a w hs)(r:lW)(JG:x0≠ .bot)(iP:st.fj r=some x0): ∃v f2,iD (cP C g st w) v x0 f2/\f2.Nodup/\(∀b∈f2,g.eC b=some r.owner)/\ ∀(w':World)(hw':Nat->Nat)(x1:AC)(kX:ei),(∀c',(cP C g st w).Le c'->c'.w=w'->c'.hw=hw'->iD c' v x1 kX)->kX.Nodup->(∀b∈kX,b<w'.heap.size/\(b∈f2\/dq (g.eC b)))-> Fr (λb=>dq (g.eC b)\/b∈f2) w w'->(∀b x,g.eC b=some x->¬dq (some x)->b∉f2->hw' b=g.hw b)-> ∃g',dN C g' {st.fD r x1 with ep:=st.ep+1} a w' []:=by cases r with|slot s j=>exact h.anw s j JG iP|box s j=>exact h.apf s j iP|io j=>exact h.aqZ j iP
theorem dN.aaS (h:dN C g st a w hs)(r:lW){tag:au Nat}{e:CT}{xs:ar e.D}(iP:st.fj r=some (.sl (.own tag) e xs)): ∃v f2,(∀t,tag=some t->v=g.hdr t)/\eU g.hw w (.sl e) [v] xs f2/\f2.Nodup/\(∀b∈f2,g.eC b=some r.owner)/\ ∀(w':World)(hw':Nat->Nat)(W2:ar e.D)(kX:ei),eU hw' w' (.sl e) [v] W2 kX->kX.Nodup->(∀b∈kX,b<w'.heap.size/\(b∈f2\/dq (g.eC b)))-> Fr (λb=>dq (g.eC b)\/b∈f2) w w'->(∀b x,g.eC b=some x->¬dq (some x)->b∉f2->hw' b=g.hw b)-> ∃g',dN C g' {st.fD r (.sl (.own tag) e W2)with ep:=st.ep+1} a w' []:=by obtain⟨v,f2,ee,Dc,ER,nk⟩:=h.aaR r (by simp) iP;refine⟨v,f2,λt ht=>(ee.2 t ht).2,ee.1,Dc,ER,λw' hw' W2 kX fB HE qZ iA GL=>nk w' hw' (.sl (.own tag) e W2) kX (λc' hle TF GH=>⟨?_,λt ht=>?_⟩) HE qZ iA GL⟩;rw[TF,GH];exact fB;have h1:=ee.2 t ht;exact⟨(hle.hdr t h1.1).1,by rw[(hle.hdr t h1.1).2];exact h1.2⟩
theorem dN.anx (h:dN C g st a w [])(r:lW)(JG:x0≠ .bot)(iP:st.fj r=some x0): ∃v f2,iD (cP C g st w) v x0 f2/\f2.Nodup/\(∀b∈f2,g.eC b=some r.owner)/\ ∀(x1:AC)(kX fh:ei)(u:Value)(av:AV),(∀c',(cP C g st w).Le c'->c'.w=w->c'.hw=g.hw->c'.ep=st.ep->iD c' v x1 kX)->kX.Nodup->fh.Nodup->(∀b∈kX,b∈f2/\b∉fh)->(∀b∈fh,b∈f2)-> gj (cP C g st w) u av fh->∃g',dN C g' (st.fD r x1) a w [(u,av)]:=by
 have core:∀(o:ki){vs:iW}{cs:ar AC}{fp:ei}{j:Nat},bE (cP C g st w) vs cs fp->fp.Nodup->(∀b∈fp,g.eC b=some o)->cs[j]?=some x0->
  ∃v f2,iD (cP C g st w) v x0 f2/\f2.Nodup/\(∀b∈f2,g.eC b=some o/\b∈fp)/\
   ∀(st':AS)(x1:AC)(kX fh:ei)(u:Value)(av:AV),st'.ep=st.ep->st'.iss=st.iss->(∀s,ij st s->ij st' s)->(∀c',(cP C g st w).Le c'->c'.w=w->c'.hw=g.hw->c'.ep=st.ep->iD c' v x1 kX)->kX.Nodup->fh.Nodup->(∀b∈kX,b∈f2/\b∉fh)->(∀b∈fh,b∈f2)->gj (cP C g st w) u av fh->
    (cP C g st w).Le (cP C {g with eC:=λb=>if b∈fh then some (.hand 0) else g.eC b} st' w)/\
    ∃ji,bE (cP C {g with eC:=λb=>if b∈fh then some (.hand 0) else g.eC b} st' w) vs (cs.set j x1) ji/\ji.Nodup/\(∀b∈ji,b∉fh/\b∈fp)/\
    Rq C {g with eC:=λb=>if b∈fh then some (.hand 0) else g.eC b} st' w 0 u av:=by
  intro o vs cs fp j ee hn hl hx
  obtain⟨v,f1,f2,f3,hv,rfl,Xe,IA⟩:=ee.ap0 hx
  have Fq:=hn
  rw[aX]at Fq
  have n1:=aG.1 Fq
  have n2:=aG.1 n1.2.1
  refine⟨v,f2,Xe,n2.1,λb hb=>⟨hl b (by simp[hb]),by simp[hb]⟩,?_⟩
  intro st' x1 kX fh u av Cw LJ uH hx1 HE SV qZ Xb hu
  have hle:(cP C g st w).Le (cP C {g with eC:=λb=>if b∈fh then some (.hand 0) else g.eC b} st' w):=
   ⟨rfl,λt ht=>⟨by show nr st' t;have ht':nr st t:=ht;simpa[nr,LJ]using ht',rfl⟩,λ_ _ _ _ _ hu=>hu,by show st.ep<=st'.ep;omega,λs hs=>⟨uH s hs,rfl⟩,λ_ b o u ho hu=>⟨ho,hu⟩⟩
  have EP:∀b∈f1++f3,b∉f2:=by intro b hb h2;rcases aA.1 hb with hb|hb;exact n1.2.2 b hb b (br _ h2) rfl;exact n2.2.2 b h2 b hb rfl
  refine⟨hle,f1++kX++f3,IA _ hle _ kX (hx1 _ hle rfl rfl Cw) (λ_ _=>⟨rfl,rfl⟩),?_,?_,fh,hu.mono hle (λ_ _=>⟨rfl,rfl⟩),SV,λb hb=>?_⟩
  ·rw[aX]
   refine aG.2 ⟨n1.1,aG.2 ⟨HE,n2.2.1,?_⟩,?_⟩
   ·rintro b hb c hc rfl;exact EP b (by simp[hc]) (qZ b hb).1
   ·rintro b hb c hc rfl
    rcases aA.1 hc with hc|hc
    ·exact EP b (by simp[hb]) (qZ b hc).1
    ·exact n1.2.2 b hb b (bh _ hc) rfl
  ·intro b hb
   simp only[aA]at hb
   rcases hb with(hb|hb)|hb
   ·exact⟨λhm=>EP b (by simp[hb]) (Xb b hm),by simp[hb]⟩
   ·exact⟨(qZ b hb).2,by simp[(qZ b hb).1]⟩
   ·exact⟨λhm=>EP b (by simp[hb]) (Xb b hm),by simp[hb]⟩
  ·show(if b∈fh then _ else _)=_
   rw[aM hb]
 have VL:∀(fh:ei),∀b x,(if b∈fh then some (ki.hand 0) else g.eC b)=some x->(b∈fh->∃y,g.eC b=some y)->b<w.heap.size/\(C.w0.heap.size<=b\/C.M b):=by intro fh b x hx hy;by_cases hm:b∈fh;obtain⟨y,hy⟩:=hy hm;exact h.fW b y hy;rw[aK hm]at hx;exact h.fW b x hx
 have af9:∀(fh:ei)(o:ki),(∀b∈fh,g.eC b=some o)->∀b x,x≠o->g.eC b=some x->(if b∈fh then some (ki.hand 0) else g.eC b)=some x:=by intro fh o Xb b x hxo hb;rw[aK (λhm=>hxo (by have:=Xb b hm;rw[hb]at this;simpa using this))];exact hb
 cases r with
 |slot s j=>
  have CG:s<st.slots.length:=by
   rcases bS s st.slots.length with iJ|Fp;exact iJ;have:st.get s=.bot:=by simp[AS.get,dY,bL Fp]
   rw[AS.fj,this]at iP;cases j with|zero=>simp[nth]at iP;exact absurd iP.symm JG|succ j=>simp[nth]at iP
  have hsl:st.slots[s]?=some (st.get s):=by rw[get_eq (al CG)];exact al CG
  obtain⟨fp,hr,hn,hl⟩:=h.slots s _ hsl;cases hg:st.get s with
  |Af ts=>rw[AS.fj,hg]at iP;cases iP
  |val gg cs=>
   have hgx:cs[j]?=some x0:=by rw[AS.fj,hg]at iP;simpa[dY]using iP
   rw[hg]at hr;obtain⟨vs,eP,hr⟩:=hr;have nm:∀x1,st.fD (.slot s j) x1={st with slots:=st.slots.set s (.val gg (cs.set j x1))}:=λx1=>by simp only[AS.fD,hg,AS.put,fE]
   obtain⟨v,f2,Yo,Dc,ER,nk⟩:=core (.slot s) hr hn hl hgx;refine⟨v,f2,Yo,Dc,λb hb=>(ER b hb).1,?_⟩;intro x1 kX fh u av hx1 HE SV qZ Xb hu;obtain⟨hle,ji,ee,O2,JZ,Mj⟩:=nk (st.fD (.slot s j) x1) x1 kX fh u av (by rw[nm]) (by rw[nm]) (λ_ q=>by rw[nm];exact q) hx1 HE SV qZ Xb hu;have hfo:∀b∈fh,g.eC b=some (.slot s):=λb hb=>(ER b (Xb b hb)).1;refine⟨_,h.step (λx=>x≠ .slot s) hle h.defers ?_ ?_ h.frame (λb x hx=>VL fh b x hx (λhm=>⟨_,hfo b hm⟩)) (λb x hk hb=>⟨af9 fh _ hfo b x hk hb,rfl,rfl⟩) ?_ ?_ ?_ (.inl ⟨by simp,by rw[nm]⟩)⟩;rw[nm];simpa using h.size;rw[nm];simpa using h.bsize;intro i bv hi;rw[nm]at hi;have uw:(st.slots.set s (.val gg (cs.set j x1)))[i]?=some bv:=hi;by_cases his:i=s;subst his;rw[bu]at uw;simp only[cd,CG]at uw;simp at uw;subst uw;refine .inr ⟨ji,⟨vs,eP,ee⟩,O2,λb hb=>?_⟩;show(if b∈fh then _ else _)=_;rw[aK (JZ b hb).1];exact hl b (JZ b hb).2;rw[aZ (cX his)]at uw;exact .inl ⟨by simpa using his,uw,rfl⟩;intro t pb hb;rw[nm]at hb;exact .inl ⟨by simp,hb,rfl⟩;intro k u' bv hk;cases k with
   |zero=>simp only[cL,bf,Prod.mk.injEq]at hk;obtain⟨rfl,rfl⟩:=hk;exact .inr Mj
   |succ k=>simp at hk
 |box s j=>
  have kW:∃cs,st.boxes[s]?=some (some cs)/\cs[j]?=some x0:=by rw[AS.fj,dY]at iP;cases hb:st.boxes[s]? with|none=>simp[hb]at iP|some o=>cases o with|none=>simp[hb]at iP|some cs=>exact⟨cs,rfl,by simpa[hb,dY]using iP⟩
  obtain⟨cs,kW,hgx⟩:=kW;have CG:s<st.boxes.length:=(aJ.1 kW).1;obtain⟨arr,T,fr,fp,kL,uI,hr,hn,xk,hl,LW,Ob⟩:=h.boxes s cs kW;have nm:∀x1,st.fD (.box s j) x1={st with boxes:=st.boxes.set s (some (cs.set j x1))}:=λx1=>by simp only[AS.fD,dY,kW,fU,AS.eZ,fE]
  obtain⟨v,f2,Yo,Dc,ER,nk⟩:=core (.box s) hr hn hl hgx;refine⟨v,f2,Yo,Dc,λb hb=>(ER b hb).1,?_⟩;intro x1 kX fh u av hx1 HE SV qZ Xb hu;obtain⟨hle,ji,ee,O2,JZ,Mj⟩:=nk (st.fD (.box s j) x1) x1 kX fh u av (by rw[nm]) (by rw[nm]) (λt ht=>by rw[nm];obtain⟨c0,hc0⟩:=ht;by_cases uJ:s=t;subst uJ;exact⟨cs.set j x1,by simp[CG]⟩;exact⟨c0,by rw[aZ uJ];exact hc0⟩) hx1 HE SV qZ Xb hu;have hfo:∀b∈fh,g.eC b=some (.box s):=λb hb=>(ER b (Xb b hb)).1;refine⟨_,h.step (λx=>x≠ .box s) hle h.defers ?_ ?_ h.frame (λb x hx=>VL fh b x hx (λhm=>⟨_,hfo b hm⟩)) (λb x hk hb=>⟨af9 fh _ hfo b x hk hb,rfl,rfl⟩) ?_ ?_ ?_ (.inl ⟨by simp,by rw[nm]⟩)⟩;rw[nm];exact h.size;rw[nm];simpa using h.bsize;intro i bv hi;rw[nm]at hi;exact .inl ⟨by simp,hi,rfl⟩;intro t pb hb;rw[nm]at hb;have ig:(st.boxes.set s (some (cs.set j x1)))[t]?=some (some pb):=hb;by_cases uJ:t=s;subst uJ;rw[bu]at ig;simp only[cd,CG]at ig;simp at ig;subst ig;have O4:g.β t∉fh:=λhm=>xk (ER _ (Xb _ hm)).2;refine .inr ⟨arr,T,fr,ji,kL,uI,ee,O2,λhm=>xk (JZ _ hm).2,λb hb=>?_,?_,Ob⟩;show(if b∈fh then _ else _)=_;rw[aK (JZ b hb).1];exact hl b (JZ b hb).2;show(if g.β t∈fh then _ else _)=_;rw[aK O4];exact LW;rw[aZ (cX uJ)]at ig;exact .inl ⟨by simpa using uJ,ig,rfl⟩;intro k u' bv hk;cases k with
  |zero=>simp only[cL,bf,Prod.mk.injEq]at hk;obtain⟨rfl,rfl⟩:=hk;exact .inr Mj
  |succ k=>simp at hk
 |io j=>
  have hgx:st.io[j]?=some x0:=by rw[AS.fj,dY]at iP;exact iP
  obtain⟨fp,hr,hn,hl⟩:=h.io;have nm:∀x1,st.fD (.io j) x1={st with io:=st.io.set j x1}:=λx1=>by simp only[AS.fD,fE]
  obtain⟨v,f2,Yo,Dc,ER,nk⟩:=core .io hr hn hl hgx;refine⟨v,f2,Yo,Dc,λb hb=>(ER b hb).1,?_⟩;intro x1 kX fh u av hx1 HE SV qZ Xb hu;obtain⟨hle,ji,ee,O2,JZ,Mj⟩:=nk (st.fD (.io j) x1) x1 kX fh u av (by rw[nm]) (by rw[nm]) (λ_ q=>by rw[nm];exact q) hx1 HE SV qZ Xb hu;have hfo:∀b∈fh,g.eC b=some .io:=λb hb=>(ER b (Xb b hb)).1;refine⟨_,h.step (λx=>x≠ .io) hle h.defers ?_ ?_ h.frame (λb x hx=>VL fh b x hx (λhm=>⟨_,hfo b hm⟩)) (λb x hk hb=>⟨af9 fh _ hfo b x hk hb,rfl,rfl⟩) ?_ ?_ ?_ (.inr ⟨ji,?_,O2,λb hb=>?_⟩)⟩;rw[nm];exact h.size;rw[nm];exact h.bsize;intro i bv hi;rw[nm]at hi;exact .inl ⟨by simp,hi,rfl⟩;intro t pb hb;rw[nm]at hb;exact .inl ⟨by simp,hb,rfl⟩;intro k u' bv hk;cases k with
  |zero=>simp only[cL,bf,Prod.mk.injEq]at hk;obtain⟨rfl,rfl⟩:=hk;exact .inr Mj
  |succ k=>simp at hk
  have:(st.fD (.io j) x1).io=st.io.set j x1:=by rw[nm]
  rw[this];exact ee;show(if b∈fh then _ else _)=_;rw[aK (JZ b hb).1];exact hl b (JZ b hb).2
theorem dN.afy (h:dN C g st a w hs){v:Value}{x:AC}(r:iD (cP C g st w) v x []):iD (cP C g st w) v (st.fresh x) []:=by
 unfold AS.fresh;split;rename_i ep rt t e xs;cases Cw:(ep==st.ep)with
 |true=>exact r
 |false=>
  simp only[ae];split;rename_i t' e' ys iP;split;rename_i he;subst he;cases ht:(t'==t)with
  |false=>exact r
  |true=>
   have:t'=t:=by simpa using ht
   subst this;simp only[af];obtain⟨v0,f2,hh,fB,_,_,_⟩:=h.aaS rt iP;obtain⟨h1,h2,h3,h4,h5⟩:=r;obtain⟨k1,k2⟩:=h5 rt t' rfl;have hv:v0=v:=(hh t' rfl).trans k2.symm;subst hv;exact⟨h1,ba _,QC fB,λ_=>eU.rep (λb o ho=> .inr ho) fB,λr1 t1 hp=>by simp at hp;obtain⟨_,rfl⟩:=hp;exact⟨k1,k2⟩⟩
  exact r;exact r
 exact r
theorem dN.SO (h:dN C g st a w hs):∀{vs:iW}{xs:ar AC},bE (cP C g st w) vs xs []->bE (cP C g st w) vs (xs.map st.fresh) []
 |[],[],r=>r
 |_::_,_::_,r=>by
  obtain⟨f1,f2,he,r1,r2⟩:=r;have h1:f1=[]:=by have:=he.symm;simp at this;exact this.1
  have h2:f2=[]:=by have:=he.symm;simp at this;exact this.2
  subst h1;subst h2;exact⟨[],[],rfl,h.afy r1,h.SO r2⟩
 |[],_::_,r=>r.elim
 |_::_,[],r=>r.elim
theorem dN.fresh (h:dN C g st a w hs){v:Value}{x:AV}(r:gj (cP C g st w) v x []):gj (cP C g st w) v (x.fresh st) []:=by
 cases x with
 |val gg cs=>obtain⟨vs,hv,r⟩:=r;exact⟨vs,hv,h.SO r⟩
 |Af ts=>exact r
end Go.Dn
