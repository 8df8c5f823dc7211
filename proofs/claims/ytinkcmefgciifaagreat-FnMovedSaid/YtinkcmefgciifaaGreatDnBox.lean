import Derived.Test.YtinkcmefgciifaaGreatDnPut
/- A box is made or written; an element of an owned slice is written. -/
namespace Go.Dn
open Go.RowKit
variable {C:Ctx} {g:Gh} {st:AS} {a:Act} {w:World} {hs:aw (Value×AV)}
variable {x0:AC} {fp:fw}
theorem jL {s:Nat}{b:ax (aw AC)}:(st.eF s b).boxes=st.boxes.set s b:=by simp[AS.eF,ft]
theorem NA {s:Nat}{cs:aw AC}{g':Gh}{w':World}(Mi:g'.hdr=g.hdr)(Ys:∀k b o u,C.A k b o->w.cell? ⟨b,o,none⟩=some u->w'.cell? ⟨b,o,none⟩=some u)(Hf:∀t,iU st t->g'.β t=g.β t)(FL:∀b o u,o<g.hw b->w.cell? ⟨b,o,none⟩=some u->o<g'.hw b/\w'.cell? ⟨b,o,none⟩=some u): (cH C g st w).Le (cH C g' (st.eF s (some cs)) w'):=by refine⟨rfl,λt ht=>⟨ht,by show g'.hdr t=g.hdr t;rw[Mi]⟩,Ys,aU _,λt ht=>⟨?_,Hf t ht⟩,λ_ b o u ho hu=>FL b o u ho hu⟩;obtain⟨pH,hc⟩:=ht;show∃am2,(st.eF s (some cs)).boxes[t]?=some (some am2);rw[jL];by_cases rU:s=t;subst rU;have gS:s<st.boxes.length:=(aF.1 hc).1;exact⟨cs,by simp[gS]⟩;exact⟨pH,by rw[aO rU];exact hc⟩
theorem dM.TX (h:dM C g st a w hs)(s:Nat){cs:aw AC}{arr:Array Value}{T:TypeId}{fr:Nat×Nat}{w':World}{bnew:Nat}{hw':Nat->Nat}(hbn:(bnew=g.β s/\g.ej bnew=some (.box s))\/(w.heap.size<=bnew/\st.boxes[s]?=some none))(jh:Fr (λb=>dE (g.ej b)\/b=bnew) w w')(jN:w'.heap[bnew]?=some (.cells arr T fr))(qZ:oR arr fr)(gS:bnew<w'.heap.size)(anB:hw' bnew=0)(Dq:∀b x,g.ej b=some x->¬dE (some x)->b≠bnew->hw' b=g.hw b)(FL:∀b o u,o<g.hw b->w.cell? ⟨b,o,none⟩=some u->o<hw' b/\w'.cell? ⟨b,o,none⟩=some u)(hr:bB ⟨hw',λt=>if t=s then bnew else g.β t,C.A,g.hdr,md st,st.ep,iU st,w'⟩ arr.toList cs fp)(hn:fp.Nodup)(uK:bnew∉fp)(BM:∀b∈fp,b<w'.heap.size/\(dE (g.ej b)\/g.ej b=some (.box s)\/w.heap.size<=b)): ∃g',g'.β s=bnew/\dM C g' (st.eF s (some cs)) a w' []:=by
 have Ys:∀k b o u,C.A k b o->w.cell? ⟨b,o,none⟩=some u->w'.cell? ⟨b,o,none⟩=some u:=by
  intro k b o u hA hu;have hb:b<w.heap.size:=World.block_lt_of_cell? w _ hu;have Il:¬(dE (g.ej b)\/b=bnew):=by
   rintro(hh|rfl);cases hx:g.ej b with|none=>rw[hx]at hh;cases hh|some x=>exact h.KQ hx k o hA
   rcases hbn with⟨_,h2⟩|h2;exact h.KQ h2 k o hA;omega
  rw[World.cell?_of_block (a:=⟨b,o,none⟩) (jh.block b hb Il)];exact hu
 have AY:∀b x,g.ej b=some x->x≠ .box s->b≠bnew:=by rintro b x hx hxs rfl;rcases hbn with⟨_,h2⟩|h2;rw[hx]at h2;exact hxs (by simpa using h2);have:=(h.fS b x hx).1;omega
 have hkp:∀b x,g.ej b=some x->¬dE (some x)->x≠ .box s->w'.heap[b]?=w.heap[b]?:=λb x hx hh hxs=>
  jh.block b (h.fS b x hx).1 (by rintro(k|k);rw[hx]at k;exact hh k;exact AY b x hx hxs k)
 let β':Nat->Nat:=λt=>if t=s then bnew else g.β t
 let Zj:Nat->ax jA:=λb=>if b=bnew\/b∈fp then some (.box s) else if dE (g.ej b) then none else g.ej b
 let g':Gh:=⟨hw',β',Zj,g.hdr⟩
 have Pf:Fr C.M C.w0 w':=h.frame.trans jh (λb hb hh=>by
  rcases hh with hh|rfl;cases hx:g.ej b with|none=>rw[hx]at hh;cases hh|some x=>rcases(h.fS b x hx).2 with h2|h2;omega;exact h2
  rcases hbn with⟨_,h2⟩|h2;rcases(h.fS b _ h2).2 with h3|h3;omega;exact h3;have:=h.frame.size;omega)
 have Hf:∀t,iU st t->β' t=g.β t:=by rintro t ⟨pH,hc⟩;show(if t=s then bnew else g.β t)=g.β t;by_cases rU:t=s;subst rU;rcases hbn with⟨h2,_⟩|⟨_,h2⟩;simp[h2];rw[h2]at hc;cases hc;simp[rU]
 have hle:(cH C g st w).Le (cH C g' (st.eF s (some cs)) w'):=NA rfl Ys Hf FL;have agX:(RC.mk hw' β' C.A g.hdr (md st) st.ep (iU st) w').Le (cH C g' (st.eF s (some cs)) w'):=⟨rfl,λ_ ht=>⟨ht,rfl⟩,λ_ _ _ _ _ hu=>hu,aU _,λt ht=>⟨(hle.Gm t ht).1,rfl⟩,λ_ b o u ho hu=>⟨ho,hu⟩⟩
 refine⟨g',by show(if s=s then bnew else g.β s)=bnew;simp,h.step (λx=>¬dE (some x)/\x≠ .box s) hle h.defers h.size ?_ Pf ?_ ?_ ?_ ?_ ?_ (.inl ⟨⟨by simp[jP],by simp⟩,rfl⟩)⟩;show(st.eF s (some cs)).boxes.length=st.slots.length;rw[jL,aC];exact h.bsize;intro b x hx;have zQ:(if b=bnew\/b∈fp then some (jA.box s) else if dE (g.ej b) then none else g.ej b)=some x:=hx;by_cases hm:b=bnew\/b∈fp;rcases hm with rfl|hm;refine⟨gS,?_⟩;rcases hbn with⟨_,h2⟩|h2;exact(h.fS b _ h2).2;exact .inl (bw h.frame.size h2.1);refine⟨(BM b hm).1,?_⟩;rcases(BM b hm).2 with h2|h2|h2;cases hy:g.ej b with|none=>rw[hy]at h2;cases h2|some y=>exact(h.fS b y hy).2
 exact(h.fS b _ h2).2;exact .inl (bw h.frame.size h2);rw[aH hm]at zQ;split at zQ;cases zQ;have hl:=h.fS b x zQ;have hz:=jh.size;exact⟨by omega,hl.2⟩;intro b x hk hx;have hb1:=AY b x hx hk.2;refine⟨?_,hkp b x hx hk.1 hk.2,Dq b x hx hk.1 hb1⟩;show(if b=bnew\/b∈fp then some (jA.box s) else if dE (g.ej b) then none else g.ej b)=some x;have U2:¬(b=bnew\/b∈fp):=by rintro(hm|hm);exact hb1 hm;rcases(BM b hm).2 with h2|h2|h2;rw[hx]at h2;exact hk.1 h2;rw[hx]at h2;exact hk.2 (by simpa using h2);have:=(h.fS b x hx).1;omega
 rw[aH U2,aH (by rw[hx];exact hk.1),hx];intro i av hi;exact .inl ⟨⟨by simp[jP],by simp⟩,hi,rfl⟩;intro t pH hb;have gO:(st.boxes.set s (some cs))[t]?=some (some pH):=by rw[<-jL];exact hb
 by_cases rU:t=s;subst rU;rw[br]at gO;simp only[bN]at gO;split at gO;simp at gO;subst gO;have aeJ:β' t=bnew:=by show(if t=t then bnew else g.β t)=bnew;simp
 refine .inr ⟨arr,T,fr,fp,?_,qZ,hr.mono agX (λb _=>⟨rfl,rfl⟩),hn,?_,?_,?_,?_⟩;show w'.heap[β' t]?=_;rw[aeJ];exact jN;show β' t∉fp;rw[aeJ];exact uK;intro b hb;show(if b=bnew\/b∈fp then _ else _)=_;rw[aE (.inr hb)];show(if β' t=bnew\/β' t∈fp then _ else _)=_;rw[aE (.inl aeJ)];show hw' (β' t)=0;rw[aeJ];exact anB;cases gO;rw[aO (cO rU)]at gO;exact .inl ⟨⟨by simp[jP],by simpa using rU⟩,gO,by show(if t=s then bnew else g.β t)=_;simp[rU]⟩;intro k u bv hk;simp at hk
def ka.owner:ka->jA
 | .slot s _=> .slot s
 | .box s _=> .box s
 | .io _=> .io
theorem bB.agd {c:RC}{vs:iu}{cs:aw AC}(hr:bB c vs cs fp){j:Nat}{x:AC}(hx:cs[j]?=some x): ∃v f1 f2 f3,vs[j]?=some v/\fp=f1++f2++f3/\gC c v x f2/\ ∀(c':RC),c.Le c'->∀x' f2',gC c' v x' f2'->(∀b∈f1++f3,c'.w.heap[b]?=c.w.heap[b]?/\c'.hw b=c.hw b)-> bB c' vs (cs.set j x') (f1++f2'++f3):=by
 have hj:j<cs.length:=(aF.1 hx).1;obtain⟨f1,fr,rfl,r1,r2⟩:=hr.split j;have hlen:=hr.length;have hjv:j<vs.length:=by omega
 have ecs:cs.drop j=x::cs.drop (j+1):=by rw[bJ hj];congr 1;rw[al hj]at hx;simpa using hx
 have evs:vs.drop j=vs[j]::vs.drop (j+1):=bJ hjv;rw[ecs,evs]at r2;obtain⟨f2,f3,rfl,r2,r3⟩:=r2;refine⟨vs[j],f1,f2,f3,al hjv,by simp,r2,λc' hle x' f2' zQ hb=>?_⟩;have e1:vs=vs.take j++(vs[j]::vs.drop (j+1)):=by rw[<-evs,cl]
 have e2:cs.set j x'=cs.take j++(x'::cs.drop (j+1)):=by rw[List.set_eq_take_append_cons_drop,aE hj]
 rw[e1,e2,aR];refine bB.append (r1.mono hle (λb gO=>hb b (bt _ gO))) ⟨f2',f3,rfl,zQ,?_⟩;exact r3.mono hle (λb gO=>hb b (bj _ gO))
def Gh.wrote (g:Gh)(o:jA)(fp:fw)(hw':Nat->Nat):Gh:=
 ⟨hw',g.β,λb=>if b∈fp then some o else if dE (g.ej b) then none else g.ej b,g.hdr⟩
theorem dM.HM (h:dM C g st a w hs)(o:jA)(L5:¬dE (some o)){vs:iu}{cs:aw AC}{j:Nat}(eL:bB (cH C g st w) vs cs fp)(hn:fp.Nodup)(hl:∀b∈fp,g.ej b=some o)(hx:cs[j]?=some x0): ∃v f1 f2 f3,vs[j]?=some v/\fp=f1++f2++f3/\gC (cH C g st w) v x0 f2/\f2.Nodup/\(∀b∈f2,g.ej b=some o)/\ ∀(w':World)(hw':Nat->Nat)(bH:AS)(x1:AC)(qc:fw),bH.ep=st.ep+1->bH.iss=st.iss->(∀s,iU st s->iU bH s)-> (∀c',(cH C g st w).Le c'->c'.w=w'->c'.hw=hw'->gC c' v x1 qc)->qc.Nodup->(∀b∈qc,b<w'.heap.size/\(b∈f2\/dE (g.ej b)))-> Fr (λb=>dE (g.ej b)\/b∈f2) w w'->(∀b x,g.ej b=some x->¬dE (some x)->b∉f2->hw' b=g.hw b)-> (cH C g st w).Le (cH C (g.wrote o (f1++qc++f3) hw') bH w')/\ bB (cH C (g.wrote o (f1++qc++f3) hw') bH w') vs (cs.set j x1) (f1++qc++f3)/\(f1++qc++f3).Nodup/\ (∀b∈f1++qc++f3,(g.wrote o (f1++qc++f3) hw').ej b=some o)/\ (∀b x,¬dE (some x)->x≠o->g.ej b=some x->(g.wrote o (f1++qc++f3) hw').ej b=some x/\w'.heap[b]?=w.heap[b]?/\hw' b=g.hw b)/\ (∀b,g.ej b=some o->b∉fp->(g.wrote o (f1++qc++f3) hw').ej b=some o/\w'.heap[b]?=w.heap[b]?/\hw' b=g.hw b)/\ Fr C.M C.w0 w'/\(∀b x,(g.wrote o (f1++qc++f3) hw').ej b=some x->b<w'.heap.size/\(C.w0.heap.size<=b\/C.M b)):=by
 obtain⟨v,f1,f2,f3,hv,rfl,Mm,Cy⟩:=eL.agd hx;have BP:=hn;rw[aR]at BP;have n1:=aI.1 BP;have n2:=aI.1 n1.2.1;have BU:∀b∈f1++f3,b∉f2:=by intro b hb h2;rcases ay.1 hb with hb|hb;exact n1.2.2 b hb b (bt _ h2) rfl;exact n2.2.2 b h2 b hb rfl
 refine⟨v,f1,f2,f3,hv,rfl,Mm,n2.1,λb hb=>hl b (by simp[hb]),?_⟩;intro w' hw' bH x1 qc wN I5 tA gG Fc yv jh Dq;have Ys:∀k b o u,C.A k b o->w.cell? ⟨b,o,none⟩=some u->w'.cell? ⟨b,o,none⟩=some u:=by
  intro k b o u hA hu;have hb:b<w.heap.size:=World.block_lt_of_cell? w _ hu;have Il:¬(dE (g.ej b)\/b∈f2):=by
   rintro(hh|hm);cases hx:g.ej b with|none=>rw[hx]at hh;cases hh|some x=>exact h.KQ hx k o hA
   exact h.KQ (hl b (by simp[hm])) k o hA
  rw[World.cell?_of_block (a:=⟨b,o,none⟩) (jh.block b hb Il)];exact hu
 have hle:(cH C g st w).Le (cH C (g.wrote o (f1++qc++f3) hw') bH w'):=⟨rfl,λt ht=>⟨by show md bH t;have TJ:md st t:=ht;simpa[md,I5]using TJ,rfl⟩,Ys,by show st.ep<=bH.ep;omega,λs hs=>⟨tA s hs,rfl⟩,λhe=>absurd he (by show bH.ep≠st.ep;omega)⟩
 have rj:∀b x,¬dE (some x)->g.ej b=some x->b∉f2->w'.heap[b]?=w.heap[b]?/\hw' b=g.hw b:=by intro b x hh hb hm;exact⟨jh.block b (h.fS b _ hb).1 (by rintro(k|k);rw[hb]at k;exact hh k;exact hm k),Dq b _ hb hh hm⟩
 have hd1:∀b∈f1++f3,b∉qc:=by intro b hb hm;rcases(yv b hm).2 with h2|h2;exact BU b hb h2;have Ni:g.ej b=some o:=hl b (by rcases ay.1 hb with hb|hb<;>simp[hb]);rw[Ni]at h2;exact L5 h2
 refine⟨hle,?_,?_,?_,?_,?_,?_,?_⟩;refine Cy _ hle _ qc (gG _ hle rfl rfl) (λb hb=>?_);exact rj b o L5 (hl b (by rcases ay.1 hb with hb|hb<;>simp[hb])) (BU b hb);rw[aR];refine aI.2 ⟨n1.1,aI.2 ⟨Fc,n2.2.1,?_⟩,?_⟩;rintro b hb c hc rfl;exact hd1 b (by simp[hc]) hb;rintro b hb c hc rfl;rcases ay.1 hc with hc|hc;exact hd1 b (by simp[hb]) hc;exact n1.2.2 b hb b (bj _ hc) rfl;intro b hb;show(if b∈f1++qc++f3 then _ else _)=_;rw[aE hb];intro b x hh hxo hb;have hm2:b∉f2:=λhm=>hxo (by have:=hl b (by simp[hm]);rw[hb]at this;simpa using this);refine⟨?_,rj b x hh hb hm2⟩;show(if b∈f1++qc++f3 then _ else if dE (g.ej b) then none else g.ej b)=_;have U2:b∉f1++qc++f3:=by intro hm;simp only[ay]at hm;rcases hm with(hm|hm)|hm;exact hxo (by have:=hl b (by simp[hm]);rw[hb]at this;simpa using this);rcases(yv b hm).2 with h2|h2;exact hm2 h2;rw[hb]at h2;exact hh h2;exact hxo (by have:=hl b (by simp[hm]);rw[hb]at this;simpa using this)
 rw[aH U2,aH (by rw[hb];exact hh),hb];intro b hb hm;have hm2:b∉f2:=λk=>hm (by simp[k]);refine⟨?_,rj b o L5 hb hm2⟩;show(if b∈f1++qc++f3 then _ else if dE (g.ej b) then none else g.ej b)=_;rw[aH (c:=dE (g.ej b)) (by rw[hb];exact L5),hb];split<;>rfl;refine h.frame.trans jh (λb hb hh=>?_);rcases hh with hh|hm;cases hx:g.ej b with|none=>rw[hx]at hh;cases hh|some x=>rcases(h.fS b x hx).2 with h2|h2;omega;exact h2
 rcases(h.fS b o (hl b (by simp[hm]))).2 with h2|h2;omega;exact h2;intro b x hx;have zQ:(if b∈f1++qc++f3 then some o else if dE (g.ej b) then none else g.ej b)=some x:=hx;have hz:=jh.size;have old:∀y,g.ej b=some y->b<w'.heap.size/\(C.w0.heap.size<=b\/C.M b):=λy hy=>⟨Nat.lt_of_lt_of_le (h.fS b y hy).1 hz,(h.fS b y hy).2⟩
 split at zQ;rename_i hm;simp only[ay]at hm;rcases hm with(hm|hm)|hm;exact old o (hl b (by simp[hm]));rcases(yv b hm).2 with h2|h2;exact old o (hl b (by simp[h2]));cases hy:g.ej b with|none=>rw[hy]at h2;cases h2|some y=>exact old y hy
 exact old o (hl b (by simp[hm]));split at zQ;cases zQ;exact old x zQ
theorem dM.adk (h:dM C g st a w hs)(s j:Nat)(AY:x0≠ .bot)(gK:st.eM (.slot s j)=some x0): ∃v f2,gC (cH C g st w) v x0 f2/\f2.Nodup/\(∀b∈f2,g.ej b=some (.slot s))/\ ∀(w':World)(hw':Nat->Nat)(x1:AC)(qc:fw),(∀c',(cH C g st w).Le c'->c'.w=w'->c'.hw=hw'->gC c' v x1 qc)->qc.Nodup->(∀b∈qc,b<w'.heap.size/\(b∈f2\/dE (g.ej b)))-> Fr (λb=>dE (g.ej b)\/b∈f2) w w'->(∀b x,g.ej b=some x->¬dE (some x)->b∉f2->hw' b=g.hw b)-> ∃g',dM C g' {st.eU (.slot s j) x1 with ep:=st.ep+1} a w' []:=by
 have xn:s<st.slots.length:=by
  rcases cc s st.slots.length with gS|yP;exact gS;have:st.get s=.bot:=by simp[AS.get,dJ,bh yP]
  rw[AS.eM,this]at gK;cases j with|zero=>simp[nth]at gK;exact absurd gK.symm AY|succ j=>simp[nth]at gK
 have hsl:st.slots[s]?=some (st.get s):=by rw[get_eq (al xn)];exact al xn
 obtain⟨fp,hr,hn,hl⟩:=h.slots s _ hsl;cases hg:st.get s with
 |uG ts=>rw[AS.eM,hg]at gK;cases gK
 |val gg cs=>
  have hgx:cs[j]?=some x0:=by rw[AS.eM,hg]at gK;simpa[dJ]using gK
  rw[hg]at hr;obtain⟨vs,fi,hr⟩:=hr;obtain⟨v,f1,f2,f3,hv,rfl,gG,AJ,xY,pC⟩:=h.HM (.slot s) (by simp[jP]) hr hn hl hgx;refine⟨v,f2,gG,AJ,xY,?_⟩;intro w' hw' x1 qc FJ Fc yv jh Dq;let bH:AS:={st.eU (.slot s j) x1 with ep:=st.ep+1}
  have uJ:bH={st with slots:=st.slots.set s (.val gg (cs.set j x1)),ep:=st.ep+1}:=by show({st.eU (.slot s j) x1 with ep:=st.ep+1}:AS)=_;simp only[AS.eU,hg,AS.put,ft]
  obtain⟨hle,eL,Ks,hll,hk1,hk2,Pf,RA⟩:=pC w' hw' bH x1 qc rfl (by rw[uJ]) (λs hs=>by rw[uJ];exact hs) FJ Fc yv jh Dq;refine⟨_,h.step (λx=>¬dE (some x)/\x≠ .slot s) hle h.defers ?_ ?_ Pf RA (λb x hk hx=>hk1 b x hk.1 hk.2 hx) ?_ ?_ (λk u bv hk=>by simp at hk) (.inl ⟨⟨by simp[jP],by simp⟩,by show bH.io=st.io;rw[uJ]⟩)⟩;show _=bH.slots.length;rw[uJ];simpa using h.size;show bH.boxes.length=bH.slots.length;rw[uJ];simpa using h.bsize;intro i av hi;have np:(st.slots.set s (.val gg (cs.set j x1)))[i]?=some av:=by have:bH.slots[i]?=some av:=hi;rw[uJ]at this;exact this
  by_cases his:i=s;subst his;rw[br]at np;simp only[bN,xn]at np;simp at np;subst np;exact .inr ⟨_,⟨vs,fi,eL⟩,Ks,hll⟩;rw[aO (cO his)]at np;exact .inl ⟨⟨by simp[jP],by simpa using his⟩,np,rfl⟩;intro t pH hb;have gO:st.boxes[t]?=some (some pH):=by have:bH.boxes[t]?=some (some pH):=hb;rw[uJ]at this;exact this
  exact .inl ⟨⟨by simp[jP],by simp⟩,gO,rfl⟩
theorem dM.afi (h:dM C g st a w hs)(s j:Nat)(gK:st.eM (.box s j)=some x0): ∃v f2,gC (cH C g st w) v x0 f2/\f2.Nodup/\(∀b∈f2,g.ej b=some (.box s))/\ ∀(w':World)(hw':Nat->Nat)(x1:AC)(qc:fw),(∀c',(cH C g st w).Le c'->c'.w=w'->c'.hw=hw'->gC c' v x1 qc)->qc.Nodup->(∀b∈qc,b<w'.heap.size/\(b∈f2\/dE (g.ej b)))-> Fr (λb=>dE (g.ej b)\/b∈f2) w w'->(∀b x,g.ej b=some x->¬dE (some x)->b∉f2->hw' b=g.hw b)-> ∃g',dM C g' {st.eU (.box s j) x1 with ep:=st.ep+1} a w' []:=by
 have jw:∃cs,st.boxes[s]?=some (some cs)/\cs[j]?=some x0:=by rw[AS.eM,dJ]at gK;cases hb:st.boxes[s]? with|none=>simp[hb]at gK|some o=>cases o with|none=>simp[hb]at gK|some cs=>exact⟨cs,rfl,by simpa[hb,dJ]using gK⟩
 obtain⟨cs,jw,hgx⟩:=jw;have xn:s<st.boxes.length:=(aF.1 jw).1;obtain⟨arr,T,fr,fp,jN,qZ,hr,hn,uK,hl,Fb,Ff⟩:=h.boxes s cs jw;obtain⟨v,f1,f2,f3,hv,rfl,gG,AJ,xY,pC⟩:=h.HM (.box s) (by simp[jP]) hr hn hl hgx;refine⟨v,f2,gG,AJ,xY,?_⟩;intro w' hw' x1 qc FJ Fc yv jh Dq;let bH:AS:={st.eU (.box s j) x1 with ep:=st.ep+1}
 have uJ:bH={st with boxes:=st.boxes.set s (some (cs.set j x1)),ep:=st.ep+1}:=by show({st.eU (.box s j) x1 with ep:=st.ep+1}:AS)=_;simp only[AS.eU,dJ,jw,fB,AS.eF,ft]
 obtain⟨hle,eL,Ks,hll,hk1,hk2,Pf,RA⟩:=pC w' hw' bH x1 qc rfl (by rw[uJ]) (λt ht=>by rw[uJ];obtain⟨c0,W9⟩:=ht;by_cases rU:s=t;subst rU;exact⟨cs.set j x1,by simp[xn]⟩;exact⟨c0,by rw[aO rU];exact W9⟩) FJ Fc yv jh Dq;have Hf:=hk2 (g.β s) Fb uK;refine⟨_,h.step (λx=>¬dE (some x)/\x≠ .box s) hle h.defers ?_ ?_ Pf RA (λb x hk hx=>hk1 b x hk.1 hk.2 hx) ?_ ?_ (λk u bv hk=>by simp at hk) (.inl ⟨⟨by simp[jP],by simp⟩,by show bH.io=st.io;rw[uJ]⟩)⟩;show _=bH.slots.length;rw[uJ];exact h.size;show bH.boxes.length=bH.slots.length;rw[uJ];simpa using h.bsize;intro i av hi;have np:st.slots[i]?=some av:=by have:bH.slots[i]?=some av:=hi;rw[uJ]at this;exact this
 exact .inl ⟨⟨by simp[jP],by simp⟩,np,rfl⟩;intro t pH hb;have gO:(st.boxes.set s (some (cs.set j x1)))[t]?=some (some pH):=by have:bH.boxes[t]?=some (some pH):=hb;rw[uJ]at this;exact this
 by_cases rU:t=s;subst rU;rw[br]at gO;simp only[bN,xn]at gO;simp at gO;subst gO;have FI:g.β t∉f1++qc++f3:=by intro hm;simp only[ay]at hm;rcases hm with(hm|hm)|hm;exact uK (by simp[hm]);rcases(yv _ hm).2 with h2|h2;exact uK (by simp[h2]);rw[Fb]at h2;cases h2;exact uK (by simp[hm])
 exact .inr ⟨arr,T,fr,_,Hf.2.1.trans jN,qZ,eL,Ks,FI,hll,Hf.1,Hf.2.2.trans Ff⟩;rw[aO (cO rU)]at gO;exact .inl ⟨⟨by simp[jP],by simpa using rU⟩,gO,rfl⟩
theorem dM.ah2 (h:dM C g st a w hs)(j:Nat)(gK:st.eM (.io j)=some x0): ∃v f2,gC (cH C g st w) v x0 f2/\f2.Nodup/\(∀b∈f2,g.ej b=some .io)/\ ∀(w':World)(hw':Nat->Nat)(x1:AC)(qc:fw),(∀c',(cH C g st w).Le c'->c'.w=w'->c'.hw=hw'->gC c' v x1 qc)->qc.Nodup->(∀b∈qc,b<w'.heap.size/\(b∈f2\/dE (g.ej b)))-> Fr (λb=>dE (g.ej b)\/b∈f2) w w'->(∀b x,g.ej b=some x->¬dE (some x)->b∉f2->hw' b=g.hw b)-> ∃g',dM C g' {st.eU (.io j) x1 with ep:=st.ep+1} a w' []:=by
 have hgx:st.io[j]?=some x0:=by rw[AS.eM,dJ]at gK;exact gK
 obtain⟨fp,hr,hn,hl⟩:=h.io;obtain⟨v,f1,f2,f3,hv,rfl,gG,AJ,xY,pC⟩:=h.HM .io (by simp[jP]) hr hn hl hgx;refine⟨v,f2,gG,AJ,xY,?_⟩;intro w' hw' x1 qc FJ Fc yv jh Dq;let bH:AS:={st.eU (.io j) x1 with ep:=st.ep+1}
 have uJ:bH={st with io:=st.io.set j x1,ep:=st.ep+1}:=by show({st.eU (.io j) x1 with ep:=st.ep+1}:AS)=_;simp only[AS.eU,ft]
 obtain⟨hle,eL,Ks,hll,hk1,hk2,Pf,RA⟩:=pC w' hw' bH x1 qc rfl (by rw[uJ]) (λs hs=>by rw[uJ];exact hs) FJ Fc yv jh Dq
 refine⟨_,h.step (λx=>¬dE (some x)/\x≠ .io) hle h.defers ?_ ?_ Pf RA (λb x hk hx=>hk1 b x hk.1 hk.2 hx) ?_ ?_ (λk u bv hk=>by simp at hk) (.inr ⟨_,by
  have:bH.io=st.io.set j x1:=by rw[uJ]
  show bB _ _ bH.io _;rw[this];exact eL,Ks,hll⟩)⟩
 show _=bH.slots.length;rw[uJ];exact h.size;show bH.boxes.length=bH.slots.length;rw[uJ];exact h.bsize;intro i av hi;have np:st.slots[i]?=some av:=by have:bH.slots[i]?=some av:=hi;rw[uJ]at this;exact this
 exact .inl ⟨⟨by simp[jP],by simp⟩,np,rfl⟩;intro t pH hb;have gO:st.boxes[t]?=some (some pH):=by have:bH.boxes[t]?=some (some pH):=hb;rw[uJ]at this;exact this
 exact .inl ⟨⟨by simp[jP],by simp⟩,gO,rfl⟩
theorem dM.PZ (h:dM C g st a w hs)(r:ka)(AY:x0≠ .bot)(gK:st.eM r=some x0): ∃v f2,gC (cH C g st w) v x0 f2/\f2.Nodup/\(∀b∈f2,g.ej b=some r.owner)/\ ∀(w':World)(hw':Nat->Nat)(x1:AC)(qc:fw),(∀c',(cH C g st w).Le c'->c'.w=w'->c'.hw=hw'->gC c' v x1 qc)->qc.Nodup->(∀b∈qc,b<w'.heap.size/\(b∈f2\/dE (g.ej b)))-> Fr (λb=>dE (g.ej b)\/b∈f2) w w'->(∀b x,g.ej b=some x->¬dE (some x)->b∉f2->hw' b=g.hw b)-> ∃g',dM C g' {st.eU r x1 with ep:=st.ep+1} a w' []:=by cases r with|slot s j=>exact h.adk s j AY gK|box s j=>exact h.afi s j gK|io j=>exact h.ah2 j gK
theorem dM.P0 (h:dM C g st a w hs)(r:ka){tag:ax Nat}{e:CT}{xs:aw e.D}(gK:st.eM r=some (.sl (.own tag) e xs)): ∃v f2,(∀t,tag=some t->v=g.hdr t)/\ff g.hw w (.sl e) [v] xs f2/\f2.Nodup/\(∀b∈f2,g.ej b=some r.owner)/\ ∀(w':World)(hw':Nat->Nat)(L8:aw e.D)(qc:fw),ff hw' w' (.sl e) [v] L8 qc->qc.Nodup->(∀b∈qc,b<w'.heap.size/\(b∈f2\/dE (g.ej b)))-> Fr (λb=>dE (g.ej b)\/b∈f2) w w'->(∀b x,g.ej b=some x->¬dE (some x)->b∉f2->hw' b=g.hw b)-> ∃g',dM C g' {st.eU r (.sl (.own tag) e L8)with ep:=st.ep+1} a w' []:=by obtain⟨v,f2,eL,AJ,xY,pC⟩:=h.PZ r (by simp) gK;refine⟨v,f2,λt ht=>(eL.2 t ht).2,eL.1,AJ,xY,λw' hw' L8 qc gG Fc yv jh Dq=>pC w' hw' (.sl (.own tag) e L8) qc (λc' hle Qw DQ=>⟨?_,λt ht=>?_⟩) Fc yv jh Dq⟩;rw[Qw,DQ];exact gG;have h1:=eL.2 t ht;exact⟨(hle.hdr t h1.1).1,by rw[(hle.hdr t h1.1).2];exact h1.2⟩
theorem dM.adl (h:dM C g st a w [])(r:ka)(AY:x0≠ .bot)(gK:st.eM r=some x0): ∃v f2,gC (cH C g st w) v x0 f2/\f2.Nodup/\(∀b∈f2,g.ej b=some r.owner)/\ ∀(x1:AC)(qc fh:fw)(u:Value)(av:AV),(∀c',(cH C g st w).Le c'->c'.w=w->c'.hw=g.hw->c'.ep=st.ep->gC c' v x1 qc)->qc.Nodup->fh.Nodup->(∀b∈qc,b∈f2/\b∉fh)->(∀b∈fh,b∈f2)-> fR (cH C g st w) u av fh->∃g',dM C g' (st.eU r x1) a w [(u,av)]:=by
 have core:∀(o:jA){vs:iu}{cs:aw AC}{fp:fw}{j:Nat},bB (cH C g st w) vs cs fp->fp.Nodup->(∀b∈fp,g.ej b=some o)->cs[j]?=some x0->
  ∃v f2,gC (cH C g st w) v x0 f2/\f2.Nodup/\(∀b∈f2,g.ej b=some o/\b∈fp)/\
   ∀(bH:AS)(x1:AC)(qc fh:fw)(u:Value)(av:AV),bH.ep=st.ep->bH.iss=st.iss->(∀s,iU st s->iU bH s)->(∀c',(cH C g st w).Le c'->c'.w=w->c'.hw=g.hw->c'.ep=st.ep->gC c' v x1 qc)->qc.Nodup->fh.Nodup->(∀b∈qc,b∈f2/\b∉fh)->(∀b∈fh,b∈f2)->fR (cH C g st w) u av fh->
    (cH C g st w).Le (cH C {g with ej:=λb=>if b∈fh then some (.hand 0) else g.ej b} bH w)/\
    ∃jM,bB (cH C {g with ej:=λb=>if b∈fh then some (.hand 0) else g.ej b} bH w) vs (cs.set j x1) jM/\jM.Nodup/\(∀b∈jM,b∉fh/\b∈fp)/\
    GV C {g with ej:=λb=>if b∈fh then some (.hand 0) else g.ej b} bH w 0 u av:=by
  intro o vs cs fp j eL hn hl hx
  obtain⟨v,f1,f2,f3,hv,rfl,Mm,Cy⟩:=eL.agd hx
  have BP:=hn
  rw[aR]at BP
  have n1:=aI.1 BP
  have n2:=aI.1 n1.2.1
  refine⟨v,f2,Mm,n2.1,λb hb=>⟨hl b (by simp[hb]),by simp[hb]⟩,?_⟩
  intro bH x1 qc fh u av wN I5 tA hx1 Fc L5 yv Mg hu
  have hle:(cH C g st w).Le (cH C {g with ej:=λb=>if b∈fh then some (.hand 0) else g.ej b} bH w):=
   ⟨rfl,λt ht=>⟨by show md bH t;have TJ:md st t:=ht;simpa[md,I5]using TJ,rfl⟩,λ_ _ _ _ _ hu=>hu,by show st.ep<=bH.ep;omega,λs hs=>⟨tA s hs,rfl⟩,λ_ b o u ho hu=>⟨ho,hu⟩⟩
  have BU:∀b∈f1++f3,b∉f2:=by intro b hb h2;rcases ay.1 hb with hb|hb;exact n1.2.2 b hb b (bt _ h2) rfl;exact n2.2.2 b h2 b hb rfl
  refine⟨hle,f1++qc++f3,Cy _ hle _ qc (hx1 _ hle rfl rfl wN) (λ_ _=>⟨rfl,rfl⟩),?_,?_,fh,hu.mono hle (λ_ _=>⟨rfl,rfl⟩),L5,λb hb=>?_⟩
  ·rw[aR]
   refine aI.2 ⟨n1.1,aI.2 ⟨Fc,n2.2.1,?_⟩,?_⟩
   ·rintro b hb c hc rfl;exact BU b (by simp[hc]) (yv b hb).1
   ·rintro b hb c hc rfl
    rcases ay.1 hc with hc|hc
    ·exact BU b (by simp[hb]) (yv b hc).1
    ·exact n1.2.2 b hb b (bj _ hc) rfl
  ·intro b hb
   simp only[ay]at hb
   rcases hb with(hb|hb)|hb
   ·exact⟨λhm=>BU b (by simp[hb]) (Mg b hm),by simp[hb]⟩
   ·exact⟨(yv b hb).2,by simp[(yv b hb).1]⟩
   ·exact⟨λhm=>BU b (by simp[hb]) (Mg b hm),by simp[hb]⟩
  ·show(if b∈fh then _ else _)=_
   rw[aE hb]
 have KR:∀(fh:fw),∀b x,(if b∈fh then some (jA.hand 0) else g.ej b)=some x->(b∈fh->∃y,g.ej b=some y)->b<w.heap.size/\(C.w0.heap.size<=b\/C.M b):=by intro fh b x hx hy;by_cases hm:b∈fh;obtain⟨y,hy⟩:=hy hm;exact h.fS b y hy;rw[aH hm]at hx;exact h.fS b x hx
 have Vx:∀(fh:fw)(o:jA),(∀b∈fh,g.ej b=some o)->∀b x,x≠o->g.ej b=some x->(if b∈fh then some (jA.hand 0) else g.ej b)=some x:=by intro fh o Mg b x hxo hb;rw[aH (λhm=>hxo (by have:=Mg b hm;rw[hb]at this;simpa using this))];exact hb
 cases r with
 |slot s j=>
  have xn:s<st.slots.length:=by
   rcases cc s st.slots.length with gS|yP;exact gS;have:st.get s=.bot:=by simp[AS.get,dJ,bh yP]
   rw[AS.eM,this]at gK;cases j with|zero=>simp[nth]at gK;exact absurd gK.symm AY|succ j=>simp[nth]at gK
  have hsl:st.slots[s]?=some (st.get s):=by rw[get_eq (al xn)];exact al xn
  obtain⟨fp,hr,hn,hl⟩:=h.slots s _ hsl;cases hg:st.get s with
  |uG ts=>rw[AS.eM,hg]at gK;cases gK
  |val gg cs=>
   have hgx:cs[j]?=some x0:=by rw[AS.eM,hg]at gK;simpa[dJ]using gK
   rw[hg]at hr;obtain⟨vs,fi,hr⟩:=hr;have mi:∀x1,st.eU (.slot s j) x1={st with slots:=st.slots.set s (.val gg (cs.set j x1))}:=λx1=>by simp only[AS.eU,hg,AS.put,ft]
   obtain⟨v,f2,Nl,AJ,xY,pC⟩:=core (.slot s) hr hn hl hgx;refine⟨v,f2,Nl,AJ,λb hb=>(xY b hb).1,?_⟩;intro x1 qc fh u av hx1 Fc L5 yv Mg hu;obtain⟨hle,jM,eL,Ks,AX,Cs⟩:=pC (st.eU (.slot s j) x1) x1 qc fh u av (by rw[mi]) (by rw[mi]) (λ_ q=>by rw[mi];exact q) hx1 Fc L5 yv Mg hu;have hfo:∀b∈fh,g.ej b=some (.slot s):=λb hb=>(xY b (Mg b hb)).1;refine⟨_,h.step (λx=>x≠ .slot s) hle h.defers ?_ ?_ h.frame (λb x hx=>KR fh b x hx (λhm=>⟨_,hfo b hm⟩)) (λb x hk hb=>⟨Vx fh _ hfo b x hk hb,rfl,rfl⟩) ?_ ?_ ?_ (.inl ⟨by simp,by rw[mi]⟩)⟩;rw[mi];simpa using h.size;rw[mi];simpa using h.bsize;intro i bv hi;rw[mi]at hi;have np:(st.slots.set s (.val gg (cs.set j x1)))[i]?=some bv:=hi;by_cases his:i=s;subst his;rw[br]at np;simp only[bN,xn]at np;simp at np;subst np;refine .inr ⟨jM,⟨vs,fi,eL⟩,Ks,λb hb=>?_⟩;show(if b∈fh then _ else _)=_;rw[aH (AX b hb).1];exact hl b (AX b hb).2;rw[aO (cO his)]at np;exact .inl ⟨by simpa using his,np,rfl⟩;intro t pH hb;rw[mi]at hb;exact .inl ⟨by simp,hb,rfl⟩;intro k u' bv hk;cases k with
   |zero=>simp only[cr,aZ,Prod.mk.injEq]at hk;obtain⟨rfl,rfl⟩:=hk;exact .inr Cs
   |succ k=>simp at hk
 |box s j=>
  have jw:∃cs,st.boxes[s]?=some (some cs)/\cs[j]?=some x0:=by rw[AS.eM,dJ]at gK;cases hb:st.boxes[s]? with|none=>simp[hb]at gK|some o=>cases o with|none=>simp[hb]at gK|some cs=>exact⟨cs,rfl,by simpa[hb,dJ]using gK⟩
  obtain⟨cs,jw,hgx⟩:=jw;have xn:s<st.boxes.length:=(aF.1 jw).1;obtain⟨arr,T,fr,fp,jN,qZ,hr,hn,uK,hl,Fb,Ff⟩:=h.boxes s cs jw;have mi:∀x1,st.eU (.box s j) x1={st with boxes:=st.boxes.set s (some (cs.set j x1))}:=λx1=>by simp only[AS.eU,dJ,jw,fB,AS.eF,ft]
  obtain⟨v,f2,Nl,AJ,xY,pC⟩:=core (.box s) hr hn hl hgx;refine⟨v,f2,Nl,AJ,λb hb=>(xY b hb).1,?_⟩;intro x1 qc fh u av hx1 Fc L5 yv Mg hu;obtain⟨hle,jM,eL,Ks,AX,Cs⟩:=pC (st.eU (.box s j) x1) x1 qc fh u av (by rw[mi]) (by rw[mi]) (λt ht=>by rw[mi];obtain⟨c0,W9⟩:=ht;by_cases rU:s=t;subst rU;exact⟨cs.set j x1,by simp[xn]⟩;exact⟨c0,by rw[aO rU];exact W9⟩) hx1 Fc L5 yv Mg hu;have hfo:∀b∈fh,g.ej b=some (.box s):=λb hb=>(xY b (Mg b hb)).1;refine⟨_,h.step (λx=>x≠ .box s) hle h.defers ?_ ?_ h.frame (λb x hx=>KR fh b x hx (λhm=>⟨_,hfo b hm⟩)) (λb x hk hb=>⟨Vx fh _ hfo b x hk hb,rfl,rfl⟩) ?_ ?_ ?_ (.inl ⟨by simp,by rw[mi]⟩)⟩;rw[mi];exact h.size;rw[mi];simpa using h.bsize;intro i bv hi;rw[mi]at hi;exact .inl ⟨by simp,hi,rfl⟩;intro t pH hb;rw[mi]at hb;have gO:(st.boxes.set s (some (cs.set j x1)))[t]?=some (some pH):=hb;by_cases rU:t=s;subst rU;rw[br]at gO;simp only[bN,xn]at gO;simp at gO;subst gO;have Hf:g.β t∉fh:=λhm=>uK (xY _ (Mg _ hm)).2;refine .inr ⟨arr,T,fr,jM,jN,qZ,eL,Ks,λhm=>uK (AX _ hm).2,λb hb=>?_,?_,Ff⟩;show(if b∈fh then _ else _)=_;rw[aH (AX b hb).1];exact hl b (AX b hb).2;show(if g.β t∈fh then _ else _)=_;rw[aH Hf];exact Fb;rw[aO (cO rU)]at gO;exact .inl ⟨by simpa using rU,gO,rfl⟩;intro k u' bv hk;cases k with
  |zero=>simp only[cr,aZ,Prod.mk.injEq]at hk;obtain⟨rfl,rfl⟩:=hk;exact .inr Cs
  |succ k=>simp at hk
 |io j=>
  have hgx:st.io[j]?=some x0:=by rw[AS.eM,dJ]at gK;exact gK
  obtain⟨fp,hr,hn,hl⟩:=h.io;have mi:∀x1,st.eU (.io j) x1={st with io:=st.io.set j x1}:=λx1=>by simp only[AS.eU,ft]
  obtain⟨v,f2,Nl,AJ,xY,pC⟩:=core .io hr hn hl hgx;refine⟨v,f2,Nl,AJ,λb hb=>(xY b hb).1,?_⟩;intro x1 qc fh u av hx1 Fc L5 yv Mg hu;obtain⟨hle,jM,eL,Ks,AX,Cs⟩:=pC (st.eU (.io j) x1) x1 qc fh u av (by rw[mi]) (by rw[mi]) (λ_ q=>by rw[mi];exact q) hx1 Fc L5 yv Mg hu;have hfo:∀b∈fh,g.ej b=some .io:=λb hb=>(xY b (Mg b hb)).1;refine⟨_,h.step (λx=>x≠ .io) hle h.defers ?_ ?_ h.frame (λb x hx=>KR fh b x hx (λhm=>⟨_,hfo b hm⟩)) (λb x hk hb=>⟨Vx fh _ hfo b x hk hb,rfl,rfl⟩) ?_ ?_ ?_ (.inr ⟨jM,?_,Ks,λb hb=>?_⟩)⟩;rw[mi];exact h.size;rw[mi];exact h.bsize;intro i bv hi;rw[mi]at hi;exact .inl ⟨by simp,hi,rfl⟩;intro t pH hb;rw[mi]at hb;exact .inl ⟨by simp,hb,rfl⟩;intro k u' bv hk;cases k with
  |zero=>simp only[cr,aZ,Prod.mk.injEq]at hk;obtain⟨rfl,rfl⟩:=hk;exact .inr Cs
  |succ k=>simp at hk
  have:(st.eU (.io j) x1).io=st.io.set j x1:=by rw[mi]
  rw[this];exact eL;show(if b∈fh then _ else _)=_;rw[aH (AX b hb).1];exact hl b (AX b hb).2
theorem dM.UQ (h:dM C g st a w hs){v:Value}{x:AC}(r:gC (cH C g st w) v x []):gC (cH C g st w) v (st.fresh x) []:=by
 unfold AS.fresh;split;rename_i ep rt t e xs;cases wN:(ep==st.ep)with
 |true=>exact r
 |false=>
  simp only[af];split;rename_i t' e' ys gK;split;rename_i he;subst he;cases ht:(t'==t)with
  |false=>exact r
  |true=>
   have:t'=t:=by simpa using ht
   subst this;simp only[ah];obtain⟨v0,f2,hh,gG,_,_,_⟩:=h.P0 rt gK;obtain⟨h1,h2,h3,h4,h5⟩:=r;obtain⟨k1,k2⟩:=h5 rt t' rfl;have hv:v0=v:=(hh t' rfl).trans k2.symm;subst hv;exact⟨h1,aU _,K8 gG,λ_=>ff.rep (λb o ho=> .inr ho) gG,λr1 t1 hp=>by simp at hp;obtain⟨_,rfl⟩:=hp;exact⟨k1,k2⟩⟩
  exact r;exact r
 exact r
theorem dM.Ic (h:dM C g st a w hs):∀{vs:iu}{xs:aw AC},bB (cH C g st w) vs xs []->bB (cH C g st w) vs (xs.map st.fresh) []
 |[],[],r=>r
 |_::_,_::_,r=>by
  obtain⟨f1,f2,he,r1,r2⟩:=r;have h1:f1=[]:=by have:=he.symm;simp at this;exact this.1
  have h2:f2=[]:=by have:=he.symm;simp at this;exact this.2
  subst h1;subst h2;exact⟨[],[],rfl,h.UQ r1,h.Ic r2⟩
 |[],_::_,r=>r.elim
 |_::_,[],r=>r.elim
theorem dM.fresh (h:dM C g st a w hs){v:Value}{x:AV}(r:fR (cH C g st w) v x []):fR (cH C g st w) v (x.fresh st) []:=by
 cases x with
 |val gg cs=>obtain⟨vs,hv,r⟩:=r;exact⟨vs,hv,h.Ic r⟩
 |uG ts=>exact r
end Go.Dn
