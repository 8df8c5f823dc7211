import Derived.Test.YtnmppgnbjfdffaaGreatDnPut
/- A box is made or written; an element of an owned slice is written. -/
namespace Go.Dn
open Go.RowKit
variable {C:Ctx} {g:Gh} {st:AS} {a:Act} {w:World} {hs:aw (Value×AV)}
variable {x0:AC} {fp:fw}
theorem jJ {s:Nat}{b:ax (aw AC)}:(st.eF s b).boxes=st.boxes.set s b:=by simp[AS.eF,ft]
theorem NC {s:Nat}{cs:aw AC}{g':Gh}{w':World}(Mk:g'.hdr=g.hdr)(Yp:∀k b o u,C.A k b o->w.cell? ⟨b,o,none⟩=some u->w'.cell? ⟨b,o,none⟩=some u)(Hg:∀t,iS st t->g'.β t=g.β t)(FJ:∀b o u,o<g.hw b->w.cell? ⟨b,o,none⟩=some u->o<g'.hw b/\w'.cell? ⟨b,o,none⟩=some u): (cH C g st w).Le (cH C g' (st.eF s (some cs)) w'):=by refine⟨rfl,λt ht=>⟨ht,by show g'.hdr t=g.hdr t;rw[Mk]⟩,Yp,aU _,λt ht=>⟨?_,Hg t ht⟩,λ_ b o u ho hu=>FJ b o u ho hu⟩;obtain⟨pH,hc⟩:=ht;show∃amN,(st.eF s (some cs)).boxes[t]?=some (some amN);rw[jJ];by_cases rU:s=t;subst rU;have gQ:s<st.boxes.length:=(aF.1 hc).1;exact⟨cs,by simp[gQ]⟩;exact⟨pH,by rw[aO rU];exact hc⟩
theorem dM.TZ (h:dM C g st a w hs)(s:Nat){cs:aw AC}{arr:Array Value}{T:TypeId}{fr:Nat×Nat}{w':World}{bnew:Nat}{hw':Nat->Nat}(hbn:(bnew=g.β s/\g.ej bnew=some (.box s))\/(w.heap.size<=bnew/\st.boxes[s]?=some none))(jf:Fr (λb=>dE (g.ej b)\/b=bnew) w w')(jL:w'.heap[bnew]?=some (.cells arr T fr))(qZ:oR arr fr)(gQ:bnew<w'.heap.size)(ank:hw' bnew=0)(Dp:∀b x,g.ej b=some x->¬dE (some x)->b≠bnew->hw' b=g.hw b)(FJ:∀b o u,o<g.hw b->w.cell? ⟨b,o,none⟩=some u->o<hw' b/\w'.cell? ⟨b,o,none⟩=some u)(hr:bB ⟨hw',λt=>if t=s then bnew else g.β t,C.A,g.hdr,md st,st.ep,iS st,w'⟩ arr.toList cs fp)(hn:fp.Nodup)(uJ:bnew∉fp)(BM:∀b∈fp,b<w'.heap.size/\(dE (g.ej b)\/g.ej b=some (.box s)\/w.heap.size<=b)): ∃g',g'.β s=bnew/\dM C g' (st.eF s (some cs)) a w' []:=by
 have Yp:∀k b o u,C.A k b o->w.cell? ⟨b,o,none⟩=some u->w'.cell? ⟨b,o,none⟩=some u:=by
  intro k b o u hA hu;have hb:b<w.heap.size:=World.block_lt_of_cell? w _ hu;have Im:¬(dE (g.ej b)\/b=bnew):=by
   rintro(hh|rfl);cases hx:g.ej b with|none=>rw[hx]at hh;cases hh|some x=>exact h.KR hx k o hA
   rcases hbn with⟨_,h2⟩|h2;exact h.KR h2 k o hA;omega
  rw[World.cell?_of_block (a:=⟨b,o,none⟩) (jf.block b hb Im)];exact hu
 have AY:∀b x,g.ej b=some x->x≠ .box s->b≠bnew:=by rintro b x hx hxs rfl;rcases hbn with⟨_,h2⟩|h2;rw[hx]at h2;exact hxs (by simpa using h2);have:=(h.fS b x hx).1;omega
 have hkp:∀b x,g.ej b=some x->¬dE (some x)->x≠ .box s->w'.heap[b]?=w.heap[b]?:=λb x hx hh hxs=>
  jf.block b (h.fS b x hx).1 (by rintro(k|k);rw[hx]at k;exact hh k;exact AY b x hx hxs k)
 let β':Nat->Nat:=λt=>if t=s then bnew else g.β t
 let Zg:Nat->ax jy:=λb=>if b=bnew\/b∈fp then some (.box s) else if dE (g.ej b) then none else g.ej b
 let g':Gh:=⟨hw',β',Zg,g.hdr⟩
 have Pg:Fr C.M C.w0 w':=h.frame.trans jf (λb hb hh=>by
  rcases hh with hh|rfl;cases hx:g.ej b with|none=>rw[hx]at hh;cases hh|some x=>rcases(h.fS b x hx).2 with h2|h2;omega;exact h2
  rcases hbn with⟨_,h2⟩|h2;rcases(h.fS b _ h2).2 with h3|h3;omega;exact h3;have:=h.frame.size;omega)
 have Hg:∀t,iS st t->β' t=g.β t:=by rintro t ⟨pH,hc⟩;show(if t=s then bnew else g.β t)=g.β t;by_cases rU:t=s;subst rU;rcases hbn with⟨h2,_⟩|⟨_,h2⟩;simp[h2];rw[h2]at hc;cases hc;simp[rU]
 have hle:(cH C g st w).Le (cH C g' (st.eF s (some cs)) w'):=NC rfl Yp Hg FJ;have agZ:(RC.mk hw' β' C.A g.hdr (md st) st.ep (iS st) w').Le (cH C g' (st.eF s (some cs)) w'):=⟨rfl,λ_ ht=>⟨ht,rfl⟩,λ_ _ _ _ _ hu=>hu,aU _,λt ht=>⟨(hle.Gl t ht).1,rfl⟩,λ_ b o u ho hu=>⟨ho,hu⟩⟩
 refine⟨g',by show(if s=s then bnew else g.β s)=bnew;simp,h.step (λx=>¬dE (some x)/\x≠ .box s) hle h.defers h.size ?_ Pg ?_ ?_ ?_ ?_ ?_ (.inl ⟨⟨by simp[jN],by simp⟩,rfl⟩)⟩;show(st.eF s (some cs)).boxes.length=st.slots.length;rw[jJ,aC];exact h.bsize;intro b x hx;have zQ:(if b=bnew\/b∈fp then some (jy.box s) else if dE (g.ej b) then none else g.ej b)=some x:=hx;by_cases hm:b=bnew\/b∈fp;rcases hm with rfl|hm;refine⟨gQ,?_⟩;rcases hbn with⟨_,h2⟩|h2;exact(h.fS b _ h2).2;exact .inl (bw h.frame.size h2.1);refine⟨(BM b hm).1,?_⟩;rcases(BM b hm).2 with h2|h2|h2;cases hy:g.ej b with|none=>rw[hy]at h2;cases h2|some y=>exact(h.fS b y hy).2
 exact(h.fS b _ h2).2;exact .inl (bw h.frame.size h2);rw[aH hm]at zQ;split at zQ;cases zQ;have hl:=h.fS b x zQ;have hz:=jf.size;exact⟨by omega,hl.2⟩;intro b x hk hx;have hb1:=AY b x hx hk.2;refine⟨?_,hkp b x hx hk.1 hk.2,Dp b x hx hk.1 hb1⟩;show(if b=bnew\/b∈fp then some (jy.box s) else if dE (g.ej b) then none else g.ej b)=some x;have UY:¬(b=bnew\/b∈fp):=by rintro(hm|hm);exact hb1 hm;rcases(BM b hm).2 with h2|h2|h2;rw[hx]at h2;exact hk.1 h2;rw[hx]at h2;exact hk.2 (by simpa using h2);have:=(h.fS b x hx).1;omega
 rw[aH UY,aH (by rw[hx];exact hk.1),hx];intro i av hi;exact .inl ⟨⟨by simp[jN],by simp⟩,hi,rfl⟩;intro t pH hb;have gM:(st.boxes.set s (some cs))[t]?=some (some pH):=by rw[<-jJ];exact hb
 by_cases rU:t=s;subst rU;rw[br]at gM;simp only[bN]at gM;split at gM;simp at gM;subst gM;have aeG:β' t=bnew:=by show(if t=t then bnew else g.β t)=bnew;simp
 refine .inr ⟨arr,T,fr,fp,?_,qZ,hr.mono agZ (λb _=>⟨rfl,rfl⟩),hn,?_,?_,?_,?_⟩;show w'.heap[β' t]?=_;rw[aeG];exact jL;show β' t∉fp;rw[aeG];exact uJ;intro b hb;show(if b=bnew\/b∈fp then _ else _)=_;rw[aE (.inr hb)];show(if β' t=bnew\/β' t∈fp then _ else _)=_;rw[aE (.inl aeG)];show hw' (β' t)=0;rw[aeG];exact ank;cases gM;rw[aO (cO rU)]at gM;exact .inl ⟨⟨by simp[jN],by simpa using rU⟩,gM,by show(if t=s then bnew else g.β t)=_;simp[rU]⟩;intro k u bv hk;simp at hk
def ka.owner:ka->jy
 | .slot s _=> .slot s
 | .box s _=> .box s
 | .io _=> .io
theorem bB.agd {c:RC}{vs:iq}{cs:aw AC}(hr:bB c vs cs fp){j:Nat}{x:AC}(hx:cs[j]?=some x): ∃v f1 f2 f3,vs[j]?=some v/\fp=f1++f2++f3/\gA c v x f2/\ ∀(c':RC),c.Le c'->∀x' f2',gA c' v x' f2'->(∀b∈f1++f3,c'.w.heap[b]?=c.w.heap[b]?/\c'.hw b=c.hw b)-> bB c' vs (cs.set j x') (f1++f2'++f3):=by
 have hj:j<cs.length:=(aF.1 hx).1;obtain⟨f1,fr,rfl,r1,r2⟩:=hr.split j;have hlen:=hr.length;have hjv:j<vs.length:=by omega
 have ecs:cs.drop j=x::cs.drop (j+1):=by rw[bJ hj];congr 1;rw[al hj]at hx;simpa using hx
 have evs:vs.drop j=vs[j]::vs.drop (j+1):=bJ hjv;rw[ecs,evs]at r2;obtain⟨f2,f3,rfl,r2,r3⟩:=r2;refine⟨vs[j],f1,f2,f3,al hjv,by simp,r2,λc' hle x' f2' zQ hb=>?_⟩;have e1:vs=vs.take j++(vs[j]::vs.drop (j+1)):=by rw[<-evs,cl]
 have e2:cs.set j x'=cs.take j++(x'::cs.drop (j+1)):=by rw[List.set_eq_take_append_cons_drop,aE hj]
 rw[e1,e2,aQ];refine bB.append (r1.mono hle (λb gM=>hb b (bt _ gM))) ⟨f2',f3,rfl,zQ,?_⟩;exact r3.mono hle (λb gM=>hb b (bj _ gM))
def Gh.wrote (g:Gh)(o:jy)(fp:fw)(hw':Nat->Nat):Gh:=
 ⟨hw',g.β,λb=>if b∈fp then some o else if dE (g.ej b) then none else g.ej b,g.hdr⟩
theorem dM.HN (h:dM C g st a w hs)(o:jy)(L6:¬dE (some o)){vs:iq}{cs:aw AC}{j:Nat}(eL:bB (cH C g st w) vs cs fp)(hn:fp.Nodup)(hl:∀b∈fp,g.ej b=some o)(hx:cs[j]?=some x0): ∃v f1 f2 f3,vs[j]?=some v/\fp=f1++f2++f3/\gA (cH C g st w) v x0 f2/\f2.Nodup/\(∀b∈f2,g.ej b=some o)/\ ∀(w':World)(hw':Nat->Nat)(bH:AS)(x1:AC)(qc:fw),bH.ep=st.ep+1->bH.iss=st.iss->(∀s,iS st s->iS bH s)-> (∀c',(cH C g st w).Le c'->c'.w=w'->c'.hw=hw'->gA c' v x1 qc)->qc.Nodup->(∀b∈qc,b<w'.heap.size/\(b∈f2\/dE (g.ej b)))-> Fr (λb=>dE (g.ej b)\/b∈f2) w w'->(∀b x,g.ej b=some x->¬dE (some x)->b∉f2->hw' b=g.hw b)-> (cH C g st w).Le (cH C (g.wrote o (f1++qc++f3) hw') bH w')/\ bB (cH C (g.wrote o (f1++qc++f3) hw') bH w') vs (cs.set j x1) (f1++qc++f3)/\(f1++qc++f3).Nodup/\ (∀b∈f1++qc++f3,(g.wrote o (f1++qc++f3) hw').ej b=some o)/\ (∀b x,¬dE (some x)->x≠o->g.ej b=some x->(g.wrote o (f1++qc++f3) hw').ej b=some x/\w'.heap[b]?=w.heap[b]?/\hw' b=g.hw b)/\ (∀b,g.ej b=some o->b∉fp->(g.wrote o (f1++qc++f3) hw').ej b=some o/\w'.heap[b]?=w.heap[b]?/\hw' b=g.hw b)/\ Fr C.M C.w0 w'/\(∀b x,(g.wrote o (f1++qc++f3) hw').ej b=some x->b<w'.heap.size/\(C.w0.heap.size<=b\/C.M b)):=by
 obtain⟨v,f1,f2,f3,hv,rfl,Mo,Cy⟩:=eL.agd hx;have BP:=hn;rw[aQ]at BP;have n1:=aI.1 BP;have n2:=aI.1 n1.2.1;have BU:∀b∈f1++f3,b∉f2:=by intro b hb h2;rcases ay.1 hb with hb|hb;exact n1.2.2 b hb b (bt _ h2) rfl;exact n2.2.2 b h2 b hb rfl
 refine⟨v,f1,f2,f3,hv,rfl,Mo,n2.1,λb hb=>hl b (by simp[hb]),?_⟩;intro w' hw' bH x1 qc wN I7 tz gE Fb yv jf Dp;have Yp:∀k b o u,C.A k b o->w.cell? ⟨b,o,none⟩=some u->w'.cell? ⟨b,o,none⟩=some u:=by
  intro k b o u hA hu;have hb:b<w.heap.size:=World.block_lt_of_cell? w _ hu;have Im:¬(dE (g.ej b)\/b∈f2):=by
   rintro(hh|hm);cases hx:g.ej b with|none=>rw[hx]at hh;cases hh|some x=>exact h.KR hx k o hA
   exact h.KR (hl b (by simp[hm])) k o hA
  rw[World.cell?_of_block (a:=⟨b,o,none⟩) (jf.block b hb Im)];exact hu
 have hle:(cH C g st w).Le (cH C (g.wrote o (f1++qc++f3) hw') bH w'):=⟨rfl,λt ht=>⟨by show md bH t;have TL:md st t:=ht;simpa[md,I7]using TL,rfl⟩,Yp,by show st.ep<=bH.ep;omega,λs hs=>⟨tz s hs,rfl⟩,λhe=>absurd he (by show bH.ep≠st.ep;omega)⟩
 have rj:∀b x,¬dE (some x)->g.ej b=some x->b∉f2->w'.heap[b]?=w.heap[b]?/\hw' b=g.hw b:=by intro b x hh hb hm;exact⟨jf.block b (h.fS b _ hb).1 (by rintro(k|k);rw[hb]at k;exact hh k;exact hm k),Dp b _ hb hh hm⟩
 have hd1:∀b∈f1++f3,b∉qc:=by intro b hb hm;rcases(yv b hm).2 with h2|h2;exact BU b hb h2;have Nk:g.ej b=some o:=hl b (by rcases ay.1 hb with hb|hb<;>simp[hb]);rw[Nk]at h2;exact L6 h2
 refine⟨hle,?_,?_,?_,?_,?_,?_,?_⟩;refine Cy _ hle _ qc (gE _ hle rfl rfl) (λb hb=>?_);exact rj b o L6 (hl b (by rcases ay.1 hb with hb|hb<;>simp[hb])) (BU b hb);rw[aQ];refine aI.2 ⟨n1.1,aI.2 ⟨Fb,n2.2.1,?_⟩,?_⟩;rintro b hb c hc rfl;exact hd1 b (by simp[hc]) hb;rintro b hb c hc rfl;rcases ay.1 hc with hc|hc;exact hd1 b (by simp[hb]) hc;exact n1.2.2 b hb b (bj _ hc) rfl;intro b hb;show(if b∈f1++qc++f3 then _ else _)=_;rw[aE hb];intro b x hh hxo hb;have hm2:b∉f2:=λhm=>hxo (by have:=hl b (by simp[hm]);rw[hb]at this;simpa using this);refine⟨?_,rj b x hh hb hm2⟩;show(if b∈f1++qc++f3 then _ else if dE (g.ej b) then none else g.ej b)=_;have UY:b∉f1++qc++f3:=by intro hm;simp only[ay]at hm;rcases hm with(hm|hm)|hm;exact hxo (by have:=hl b (by simp[hm]);rw[hb]at this;simpa using this);rcases(yv b hm).2 with h2|h2;exact hm2 h2;rw[hb]at h2;exact hh h2;exact hxo (by have:=hl b (by simp[hm]);rw[hb]at this;simpa using this)
 rw[aH UY,aH (by rw[hb];exact hh),hb];intro b hb hm;have hm2:b∉f2:=λk=>hm (by simp[k]);refine⟨?_,rj b o L6 hb hm2⟩;show(if b∈f1++qc++f3 then _ else if dE (g.ej b) then none else g.ej b)=_;rw[aH (c:=dE (g.ej b)) (by rw[hb];exact L6),hb];split<;>rfl;refine h.frame.trans jf (λb hb hh=>?_);rcases hh with hh|hm;cases hx:g.ej b with|none=>rw[hx]at hh;cases hh|some x=>rcases(h.fS b x hx).2 with h2|h2;omega;exact h2
 rcases(h.fS b o (hl b (by simp[hm]))).2 with h2|h2;omega;exact h2;intro b x hx;have zQ:(if b∈f1++qc++f3 then some o else if dE (g.ej b) then none else g.ej b)=some x:=hx;have hz:=jf.size;have old:∀y,g.ej b=some y->b<w'.heap.size/\(C.w0.heap.size<=b\/C.M b):=λy hy=>⟨Nat.lt_of_lt_of_le (h.fS b y hy).1 hz,(h.fS b y hy).2⟩
 split at zQ;rename_i hm;simp only[ay]at hm;rcases hm with(hm|hm)|hm;exact old o (hl b (by simp[hm]));rcases(yv b hm).2 with h2|h2;exact old o (hl b (by simp[h2]));cases hy:g.ej b with|none=>rw[hy]at h2;cases h2|some y=>exact old y hy
 exact old o (hl b (by simp[hm]));split at zQ;cases zQ;exact old x zQ
theorem dM.adj (h:dM C g st a w hs)(s j:Nat)(AY:x0≠ .bot)(gI:st.eM (.slot s j)=some x0): ∃v f2,gA (cH C g st w) v x0 f2/\f2.Nodup/\(∀b∈f2,g.ej b=some (.slot s))/\ ∀(w':World)(hw':Nat->Nat)(x1:AC)(qc:fw),(∀c',(cH C g st w).Le c'->c'.w=w'->c'.hw=hw'->gA c' v x1 qc)->qc.Nodup->(∀b∈qc,b<w'.heap.size/\(b∈f2\/dE (g.ej b)))-> Fr (λb=>dE (g.ej b)\/b∈f2) w w'->(∀b x,g.ej b=some x->¬dE (some x)->b∉f2->hw' b=g.hw b)-> ∃g',dM C g' {st.eU (.slot s j) x1 with ep:=st.ep+1} a w' []:=by
 have xm:s<st.slots.length:=by
  rcases cc s st.slots.length with gQ|yP;exact gQ;have:st.get s=.bot:=by simp[AS.get,dJ,bh yP]
  rw[AS.eM,this]at gI;cases j with|zero=>simp[nth]at gI;exact absurd gI.symm AY|succ j=>simp[nth]at gI
 have hsl:st.slots[s]?=some (st.get s):=by rw[get_eq (al xm)];exact al xm
 obtain⟨fp,hr,hn,hl⟩:=h.slots s _ hsl;cases hg:st.get s with
 |uF ts=>rw[AS.eM,hg]at gI;cases gI
 |val gg cs=>
  have hgx:cs[j]?=some x0:=by rw[AS.eM,hg]at gI;simpa[dJ]using gI
  rw[hg]at hr;obtain⟨vs,fi,hr⟩:=hr;obtain⟨v,f1,f2,f3,hv,rfl,gE,AJ,xY,pC⟩:=h.HN (.slot s) (by simp[jN]) hr hn hl hgx;refine⟨v,f2,gE,AJ,xY,?_⟩;intro w' hw' x1 qc FI Fb yv jf Dp;let bH:AS:={st.eU (.slot s j) x1 with ep:=st.ep+1}
  have uI:bH={st with slots:=st.slots.set s (.val gg (cs.set j x1)),ep:=st.ep+1}:=by show({st.eU (.slot s j) x1 with ep:=st.ep+1}:AS)=_;simp only[AS.eU,hg,AS.put,ft]
  obtain⟨hle,eL,Kt,hll,hk1,hk2,Pg,RD⟩:=pC w' hw' bH x1 qc rfl (by rw[uI]) (λs hs=>by rw[uI];exact hs) FI Fb yv jf Dp;refine⟨_,h.step (λx=>¬dE (some x)/\x≠ .slot s) hle h.defers ?_ ?_ Pg RD (λb x hk hx=>hk1 b x hk.1 hk.2 hx) ?_ ?_ (λk u bv hk=>by simp at hk) (.inl ⟨⟨by simp[jN],by simp⟩,by show bH.io=st.io;rw[uI]⟩)⟩;show _=bH.slots.length;rw[uI];simpa using h.size;show bH.boxes.length=bH.slots.length;rw[uI];simpa using h.bsize;intro i av hi;have nu:(st.slots.set s (.val gg (cs.set j x1)))[i]?=some av:=by have:bH.slots[i]?=some av:=hi;rw[uI]at this;exact this
  by_cases his:i=s;subst his;rw[br]at nu;simp only[bN,xm]at nu;simp at nu;subst nu;exact .inr ⟨_,⟨vs,fi,eL⟩,Kt,hll⟩;rw[aO (cO his)]at nu;exact .inl ⟨⟨by simp[jN],by simpa using his⟩,nu,rfl⟩;intro t pH hb;have gM:st.boxes[t]?=some (some pH):=by have:bH.boxes[t]?=some (some pH):=hb;rw[uI]at this;exact this
  exact .inl ⟨⟨by simp[jN],by simp⟩,gM,rfl⟩
theorem dM.aff (h:dM C g st a w hs)(s j:Nat)(gI:st.eM (.box s j)=some x0): ∃v f2,gA (cH C g st w) v x0 f2/\f2.Nodup/\(∀b∈f2,g.ej b=some (.box s))/\ ∀(w':World)(hw':Nat->Nat)(x1:AC)(qc:fw),(∀c',(cH C g st w).Le c'->c'.w=w'->c'.hw=hw'->gA c' v x1 qc)->qc.Nodup->(∀b∈qc,b<w'.heap.size/\(b∈f2\/dE (g.ej b)))-> Fr (λb=>dE (g.ej b)\/b∈f2) w w'->(∀b x,g.ej b=some x->¬dE (some x)->b∉f2->hw' b=g.hw b)-> ∃g',dM C g' {st.eU (.box s j) x1 with ep:=st.ep+1} a w' []:=by
 have ju:∃cs,st.boxes[s]?=some (some cs)/\cs[j]?=some x0:=by rw[AS.eM,dJ]at gI;cases hb:st.boxes[s]? with|none=>simp[hb]at gI|some o=>cases o with|none=>simp[hb]at gI|some cs=>exact⟨cs,rfl,by simpa[hb,dJ]using gI⟩
 obtain⟨cs,ju,hgx⟩:=ju;have xm:s<st.boxes.length:=(aF.1 ju).1;obtain⟨arr,T,fr,fp,jL,qZ,hr,hn,uJ,hl,Fa,Fe⟩:=h.boxes s cs ju;obtain⟨v,f1,f2,f3,hv,rfl,gE,AJ,xY,pC⟩:=h.HN (.box s) (by simp[jN]) hr hn hl hgx;refine⟨v,f2,gE,AJ,xY,?_⟩;intro w' hw' x1 qc FI Fb yv jf Dp;let bH:AS:={st.eU (.box s j) x1 with ep:=st.ep+1}
 have uI:bH={st with boxes:=st.boxes.set s (some (cs.set j x1)),ep:=st.ep+1}:=by show({st.eU (.box s j) x1 with ep:=st.ep+1}:AS)=_;simp only[AS.eU,dJ,ju,fB,AS.eF,ft]
 obtain⟨hle,eL,Kt,hll,hk1,hk2,Pg,RD⟩:=pC w' hw' bH x1 qc rfl (by rw[uI]) (λt ht=>by rw[uI];obtain⟨c0,W6⟩:=ht;by_cases rU:s=t;subst rU;exact⟨cs.set j x1,by simp[xm]⟩;exact⟨c0,by rw[aO rU];exact W6⟩) FI Fb yv jf Dp;have Hg:=hk2 (g.β s) Fa uJ;refine⟨_,h.step (λx=>¬dE (some x)/\x≠ .box s) hle h.defers ?_ ?_ Pg RD (λb x hk hx=>hk1 b x hk.1 hk.2 hx) ?_ ?_ (λk u bv hk=>by simp at hk) (.inl ⟨⟨by simp[jN],by simp⟩,by show bH.io=st.io;rw[uI]⟩)⟩;show _=bH.slots.length;rw[uI];exact h.size;show bH.boxes.length=bH.slots.length;rw[uI];simpa using h.bsize;intro i av hi;have nu:st.slots[i]?=some av:=by have:bH.slots[i]?=some av:=hi;rw[uI]at this;exact this
 exact .inl ⟨⟨by simp[jN],by simp⟩,nu,rfl⟩;intro t pH hb;have gM:(st.boxes.set s (some (cs.set j x1)))[t]?=some (some pH):=by have:bH.boxes[t]?=some (some pH):=hb;rw[uI]at this;exact this
 by_cases rU:t=s;subst rU;rw[br]at gM;simp only[bN,xm]at gM;simp at gM;subst gM;have FH:g.β t∉f1++qc++f3:=by intro hm;simp only[ay]at hm;rcases hm with(hm|hm)|hm;exact uJ (by simp[hm]);rcases(yv _ hm).2 with h2|h2;exact uJ (by simp[h2]);rw[Fa]at h2;cases h2;exact uJ (by simp[hm])
 exact .inr ⟨arr,T,fr,_,Hg.2.1.trans jL,qZ,eL,Kt,FH,hll,Hg.1,Hg.2.2.trans Fe⟩;rw[aO (cO rU)]at gM;exact .inl ⟨⟨by simp[jN],by simpa using rU⟩,gM,rfl⟩
theorem dM.ah1 (h:dM C g st a w hs)(j:Nat)(gI:st.eM (.io j)=some x0): ∃v f2,gA (cH C g st w) v x0 f2/\f2.Nodup/\(∀b∈f2,g.ej b=some .io)/\ ∀(w':World)(hw':Nat->Nat)(x1:AC)(qc:fw),(∀c',(cH C g st w).Le c'->c'.w=w'->c'.hw=hw'->gA c' v x1 qc)->qc.Nodup->(∀b∈qc,b<w'.heap.size/\(b∈f2\/dE (g.ej b)))-> Fr (λb=>dE (g.ej b)\/b∈f2) w w'->(∀b x,g.ej b=some x->¬dE (some x)->b∉f2->hw' b=g.hw b)-> ∃g',dM C g' {st.eU (.io j) x1 with ep:=st.ep+1} a w' []:=by
 have hgx:st.io[j]?=some x0:=by rw[AS.eM,dJ]at gI;exact gI
 obtain⟨fp,hr,hn,hl⟩:=h.io;obtain⟨v,f1,f2,f3,hv,rfl,gE,AJ,xY,pC⟩:=h.HN .io (by simp[jN]) hr hn hl hgx;refine⟨v,f2,gE,AJ,xY,?_⟩;intro w' hw' x1 qc FI Fb yv jf Dp;let bH:AS:={st.eU (.io j) x1 with ep:=st.ep+1}
 have uI:bH={st with io:=st.io.set j x1,ep:=st.ep+1}:=by show({st.eU (.io j) x1 with ep:=st.ep+1}:AS)=_;simp only[AS.eU,ft]
 obtain⟨hle,eL,Kt,hll,hk1,hk2,Pg,RD⟩:=pC w' hw' bH x1 qc rfl (by rw[uI]) (λs hs=>by rw[uI];exact hs) FI Fb yv jf Dp
 refine⟨_,h.step (λx=>¬dE (some x)/\x≠ .io) hle h.defers ?_ ?_ Pg RD (λb x hk hx=>hk1 b x hk.1 hk.2 hx) ?_ ?_ (λk u bv hk=>by simp at hk) (.inr ⟨_,by
  have:bH.io=st.io.set j x1:=by rw[uI]
  show bB _ _ bH.io _;rw[this];exact eL,Kt,hll⟩)⟩
 show _=bH.slots.length;rw[uI];exact h.size;show bH.boxes.length=bH.slots.length;rw[uI];exact h.bsize;intro i av hi;have nu:st.slots[i]?=some av:=by have:bH.slots[i]?=some av:=hi;rw[uI]at this;exact this
 exact .inl ⟨⟨by simp[jN],by simp⟩,nu,rfl⟩;intro t pH hb;have gM:st.boxes[t]?=some (some pH):=by have:bH.boxes[t]?=some (some pH):=hb;rw[uI]at this;exact this
 exact .inl ⟨⟨by simp[jN],by simp⟩,gM,rfl⟩
theorem dM.P0 (h:dM C g st a w hs)(r:ka)(AY:x0≠ .bot)(gI:st.eM r=some x0): ∃v f2,gA (cH C g st w) v x0 f2/\f2.Nodup/\(∀b∈f2,g.ej b=some r.owner)/\ ∀(w':World)(hw':Nat->Nat)(x1:AC)(qc:fw),(∀c',(cH C g st w).Le c'->c'.w=w'->c'.hw=hw'->gA c' v x1 qc)->qc.Nodup->(∀b∈qc,b<w'.heap.size/\(b∈f2\/dE (g.ej b)))-> Fr (λb=>dE (g.ej b)\/b∈f2) w w'->(∀b x,g.ej b=some x->¬dE (some x)->b∉f2->hw' b=g.hw b)-> ∃g',dM C g' {st.eU r x1 with ep:=st.ep+1} a w' []:=by cases r with|slot s j=>exact h.adj s j AY gI|box s j=>exact h.aff s j gI|io j=>exact h.ah1 j gI
theorem dM.P1 (h:dM C g st a w hs)(r:ka){tag:ax Nat}{e:CT}{xs:aw e.D}(gI:st.eM r=some (.sl (.own tag) e xs)): ∃v f2,(∀t,tag=some t->v=g.hdr t)/\ff g.hw w (.sl e) [v] xs f2/\f2.Nodup/\(∀b∈f2,g.ej b=some r.owner)/\ ∀(w':World)(hw':Nat->Nat)(Ma:aw e.D)(qc:fw),ff hw' w' (.sl e) [v] Ma qc->qc.Nodup->(∀b∈qc,b<w'.heap.size/\(b∈f2\/dE (g.ej b)))-> Fr (λb=>dE (g.ej b)\/b∈f2) w w'->(∀b x,g.ej b=some x->¬dE (some x)->b∉f2->hw' b=g.hw b)-> ∃g',dM C g' {st.eU r (.sl (.own tag) e Ma)with ep:=st.ep+1} a w' []:=by obtain⟨v,f2,eL,AJ,xY,pC⟩:=h.P0 r (by simp) gI;refine⟨v,f2,λt ht=>(eL.2 t ht).2,eL.1,AJ,xY,λw' hw' Ma qc gE Fb yv jf Dp=>pC w' hw' (.sl (.own tag) e Ma) qc (λc' hle Qx DP=>⟨?_,λt ht=>?_⟩) Fb yv jf Dp⟩;rw[Qx,DP];exact gE;have h1:=eL.2 t ht;exact⟨(hle.hdr t h1.1).1,by rw[(hle.hdr t h1.1).2];exact h1.2⟩
theorem dM.adk (h:dM C g st a w [])(r:ka)(AY:x0≠ .bot)(gI:st.eM r=some x0): ∃v f2,gA (cH C g st w) v x0 f2/\f2.Nodup/\(∀b∈f2,g.ej b=some r.owner)/\ ∀(x1:AC)(qc fh:fw)(u:Value)(av:AV),(∀c',(cH C g st w).Le c'->c'.w=w->c'.hw=g.hw->c'.ep=st.ep->gA c' v x1 qc)->qc.Nodup->fh.Nodup->(∀b∈qc,b∈f2/\b∉fh)->(∀b∈fh,b∈f2)-> fR (cH C g st w) u av fh->∃g',dM C g' (st.eU r x1) a w [(u,av)]:=by
 have core:∀(o:jy){vs:iq}{cs:aw AC}{fp:fw}{j:Nat},bB (cH C g st w) vs cs fp->fp.Nodup->(∀b∈fp,g.ej b=some o)->cs[j]?=some x0->
  ∃v f2,gA (cH C g st w) v x0 f2/\f2.Nodup/\(∀b∈f2,g.ej b=some o/\b∈fp)/\
   ∀(bH:AS)(x1:AC)(qc fh:fw)(u:Value)(av:AV),bH.ep=st.ep->bH.iss=st.iss->(∀s,iS st s->iS bH s)->(∀c',(cH C g st w).Le c'->c'.w=w->c'.hw=g.hw->c'.ep=st.ep->gA c' v x1 qc)->qc.Nodup->fh.Nodup->(∀b∈qc,b∈f2/\b∉fh)->(∀b∈fh,b∈f2)->fR (cH C g st w) u av fh->
    (cH C g st w).Le (cH C {g with ej:=λb=>if b∈fh then some (.hand 0) else g.ej b} bH w)/\
    ∃jK,bB (cH C {g with ej:=λb=>if b∈fh then some (.hand 0) else g.ej b} bH w) vs (cs.set j x1) jK/\jK.Nodup/\(∀b∈jK,b∉fh/\b∈fp)/\
    GU C {g with ej:=λb=>if b∈fh then some (.hand 0) else g.ej b} bH w 0 u av:=by
  intro o vs cs fp j eL hn hl hx
  obtain⟨v,f1,f2,f3,hv,rfl,Mo,Cy⟩:=eL.agd hx
  have BP:=hn
  rw[aQ]at BP
  have n1:=aI.1 BP
  have n2:=aI.1 n1.2.1
  refine⟨v,f2,Mo,n2.1,λb hb=>⟨hl b (by simp[hb]),by simp[hb]⟩,?_⟩
  intro bH x1 qc fh u av wN I7 tz hx1 Fb L6 yv Mi hu
  have hle:(cH C g st w).Le (cH C {g with ej:=λb=>if b∈fh then some (.hand 0) else g.ej b} bH w):=
   ⟨rfl,λt ht=>⟨by show md bH t;have TL:md st t:=ht;simpa[md,I7]using TL,rfl⟩,λ_ _ _ _ _ hu=>hu,by show st.ep<=bH.ep;omega,λs hs=>⟨tz s hs,rfl⟩,λ_ b o u ho hu=>⟨ho,hu⟩⟩
  have BU:∀b∈f1++f3,b∉f2:=by intro b hb h2;rcases ay.1 hb with hb|hb;exact n1.2.2 b hb b (bt _ h2) rfl;exact n2.2.2 b h2 b hb rfl
  refine⟨hle,f1++qc++f3,Cy _ hle _ qc (hx1 _ hle rfl rfl wN) (λ_ _=>⟨rfl,rfl⟩),?_,?_,fh,hu.mono hle (λ_ _=>⟨rfl,rfl⟩),L6,λb hb=>?_⟩
  ·rw[aQ]
   refine aI.2 ⟨n1.1,aI.2 ⟨Fb,n2.2.1,?_⟩,?_⟩
   ·rintro b hb c hc rfl;exact BU b (by simp[hc]) (yv b hb).1
   ·rintro b hb c hc rfl
    rcases ay.1 hc with hc|hc
    ·exact BU b (by simp[hb]) (yv b hc).1
    ·exact n1.2.2 b hb b (bj _ hc) rfl
  ·intro b hb
   simp only[ay]at hb
   rcases hb with(hb|hb)|hb
   ·exact⟨λhm=>BU b (by simp[hb]) (Mi b hm),by simp[hb]⟩
   ·exact⟨(yv b hb).2,by simp[(yv b hb).1]⟩
   ·exact⟨λhm=>BU b (by simp[hb]) (Mi b hm),by simp[hb]⟩
  ·show(if b∈fh then _ else _)=_
   rw[aE hb]
 have KS:∀(fh:fw),∀b x,(if b∈fh then some (jy.hand 0) else g.ej b)=some x->(b∈fh->∃y,g.ej b=some y)->b<w.heap.size/\(C.w0.heap.size<=b\/C.M b):=by intro fh b x hx hy;by_cases hm:b∈fh;obtain⟨y,hy⟩:=hy hm;exact h.fS b y hy;rw[aH hm]at hx;exact h.fS b x hx
 have Vt:∀(fh:fw)(o:jy),(∀b∈fh,g.ej b=some o)->∀b x,x≠o->g.ej b=some x->(if b∈fh then some (jy.hand 0) else g.ej b)=some x:=by intro fh o Mi b x hxo hb;rw[aH (λhm=>hxo (by have:=Mi b hm;rw[hb]at this;simpa using this))];exact hb
 cases r with
 |slot s j=>
  have xm:s<st.slots.length:=by
   rcases cc s st.slots.length with gQ|yP;exact gQ;have:st.get s=.bot:=by simp[AS.get,dJ,bh yP]
   rw[AS.eM,this]at gI;cases j with|zero=>simp[nth]at gI;exact absurd gI.symm AY|succ j=>simp[nth]at gI
  have hsl:st.slots[s]?=some (st.get s):=by rw[get_eq (al xm)];exact al xm
  obtain⟨fp,hr,hn,hl⟩:=h.slots s _ hsl;cases hg:st.get s with
  |uF ts=>rw[AS.eM,hg]at gI;cases gI
  |val gg cs=>
   have hgx:cs[j]?=some x0:=by rw[AS.eM,hg]at gI;simpa[dJ]using gI
   rw[hg]at hr;obtain⟨vs,fi,hr⟩:=hr;have mi:∀x1,st.eU (.slot s j) x1={st with slots:=st.slots.set s (.val gg (cs.set j x1))}:=λx1=>by simp only[AS.eU,hg,AS.put,ft]
   obtain⟨v,f2,Nn,AJ,xY,pC⟩:=core (.slot s) hr hn hl hgx;refine⟨v,f2,Nn,AJ,λb hb=>(xY b hb).1,?_⟩;intro x1 qc fh u av hx1 Fb L6 yv Mi hu;obtain⟨hle,jK,eL,Kt,AX,Cs⟩:=pC (st.eU (.slot s j) x1) x1 qc fh u av (by rw[mi]) (by rw[mi]) (λ_ q=>by rw[mi];exact q) hx1 Fb L6 yv Mi hu;have hfo:∀b∈fh,g.ej b=some (.slot s):=λb hb=>(xY b (Mi b hb)).1;refine⟨_,h.step (λx=>x≠ .slot s) hle h.defers ?_ ?_ h.frame (λb x hx=>KS fh b x hx (λhm=>⟨_,hfo b hm⟩)) (λb x hk hb=>⟨Vt fh _ hfo b x hk hb,rfl,rfl⟩) ?_ ?_ ?_ (.inl ⟨by simp,by rw[mi]⟩)⟩;rw[mi];simpa using h.size;rw[mi];simpa using h.bsize;intro i bv hi;rw[mi]at hi;have nu:(st.slots.set s (.val gg (cs.set j x1)))[i]?=some bv:=hi;by_cases his:i=s;subst his;rw[br]at nu;simp only[bN,xm]at nu;simp at nu;subst nu;refine .inr ⟨jK,⟨vs,fi,eL⟩,Kt,λb hb=>?_⟩;show(if b∈fh then _ else _)=_;rw[aH (AX b hb).1];exact hl b (AX b hb).2;rw[aO (cO his)]at nu;exact .inl ⟨by simpa using his,nu,rfl⟩;intro t pH hb;rw[mi]at hb;exact .inl ⟨by simp,hb,rfl⟩;intro k u' bv hk;cases k with
   |zero=>simp only[cr,aZ,Prod.mk.injEq]at hk;obtain⟨rfl,rfl⟩:=hk;exact .inr Cs
   |succ k=>simp at hk
 |box s j=>
  have ju:∃cs,st.boxes[s]?=some (some cs)/\cs[j]?=some x0:=by rw[AS.eM,dJ]at gI;cases hb:st.boxes[s]? with|none=>simp[hb]at gI|some o=>cases o with|none=>simp[hb]at gI|some cs=>exact⟨cs,rfl,by simpa[hb,dJ]using gI⟩
  obtain⟨cs,ju,hgx⟩:=ju;have xm:s<st.boxes.length:=(aF.1 ju).1;obtain⟨arr,T,fr,fp,jL,qZ,hr,hn,uJ,hl,Fa,Fe⟩:=h.boxes s cs ju;have mi:∀x1,st.eU (.box s j) x1={st with boxes:=st.boxes.set s (some (cs.set j x1))}:=λx1=>by simp only[AS.eU,dJ,ju,fB,AS.eF,ft]
  obtain⟨v,f2,Nn,AJ,xY,pC⟩:=core (.box s) hr hn hl hgx;refine⟨v,f2,Nn,AJ,λb hb=>(xY b hb).1,?_⟩;intro x1 qc fh u av hx1 Fb L6 yv Mi hu;obtain⟨hle,jK,eL,Kt,AX,Cs⟩:=pC (st.eU (.box s j) x1) x1 qc fh u av (by rw[mi]) (by rw[mi]) (λt ht=>by rw[mi];obtain⟨c0,W6⟩:=ht;by_cases rU:s=t;subst rU;exact⟨cs.set j x1,by simp[xm]⟩;exact⟨c0,by rw[aO rU];exact W6⟩) hx1 Fb L6 yv Mi hu;have hfo:∀b∈fh,g.ej b=some (.box s):=λb hb=>(xY b (Mi b hb)).1;refine⟨_,h.step (λx=>x≠ .box s) hle h.defers ?_ ?_ h.frame (λb x hx=>KS fh b x hx (λhm=>⟨_,hfo b hm⟩)) (λb x hk hb=>⟨Vt fh _ hfo b x hk hb,rfl,rfl⟩) ?_ ?_ ?_ (.inl ⟨by simp,by rw[mi]⟩)⟩;rw[mi];exact h.size;rw[mi];simpa using h.bsize;intro i bv hi;rw[mi]at hi;exact .inl ⟨by simp,hi,rfl⟩;intro t pH hb;rw[mi]at hb;have gM:(st.boxes.set s (some (cs.set j x1)))[t]?=some (some pH):=hb;by_cases rU:t=s;subst rU;rw[br]at gM;simp only[bN,xm]at gM;simp at gM;subst gM;have Hg:g.β t∉fh:=λhm=>uJ (xY _ (Mi _ hm)).2;refine .inr ⟨arr,T,fr,jK,jL,qZ,eL,Kt,λhm=>uJ (AX _ hm).2,λb hb=>?_,?_,Fe⟩;show(if b∈fh then _ else _)=_;rw[aH (AX b hb).1];exact hl b (AX b hb).2;show(if g.β t∈fh then _ else _)=_;rw[aH Hg];exact Fa;rw[aO (cO rU)]at gM;exact .inl ⟨by simpa using rU,gM,rfl⟩;intro k u' bv hk;cases k with
  |zero=>simp only[cr,aZ,Prod.mk.injEq]at hk;obtain⟨rfl,rfl⟩:=hk;exact .inr Cs
  |succ k=>simp at hk
 |io j=>
  have hgx:st.io[j]?=some x0:=by rw[AS.eM,dJ]at gI;exact gI
  obtain⟨fp,hr,hn,hl⟩:=h.io;have mi:∀x1,st.eU (.io j) x1={st with io:=st.io.set j x1}:=λx1=>by simp only[AS.eU,ft]
  obtain⟨v,f2,Nn,AJ,xY,pC⟩:=core .io hr hn hl hgx;refine⟨v,f2,Nn,AJ,λb hb=>(xY b hb).1,?_⟩;intro x1 qc fh u av hx1 Fb L6 yv Mi hu;obtain⟨hle,jK,eL,Kt,AX,Cs⟩:=pC (st.eU (.io j) x1) x1 qc fh u av (by rw[mi]) (by rw[mi]) (λ_ q=>by rw[mi];exact q) hx1 Fb L6 yv Mi hu;have hfo:∀b∈fh,g.ej b=some .io:=λb hb=>(xY b (Mi b hb)).1;refine⟨_,h.step (λx=>x≠ .io) hle h.defers ?_ ?_ h.frame (λb x hx=>KS fh b x hx (λhm=>⟨_,hfo b hm⟩)) (λb x hk hb=>⟨Vt fh _ hfo b x hk hb,rfl,rfl⟩) ?_ ?_ ?_ (.inr ⟨jK,?_,Kt,λb hb=>?_⟩)⟩;rw[mi];exact h.size;rw[mi];exact h.bsize;intro i bv hi;rw[mi]at hi;exact .inl ⟨by simp,hi,rfl⟩;intro t pH hb;rw[mi]at hb;exact .inl ⟨by simp,hb,rfl⟩;intro k u' bv hk;cases k with
  |zero=>simp only[cr,aZ,Prod.mk.injEq]at hk;obtain⟨rfl,rfl⟩:=hk;exact .inr Cs
  |succ k=>simp at hk
  have:(st.eU (.io j) x1).io=st.io.set j x1:=by rw[mi]
  rw[this];exact eL;show(if b∈fh then _ else _)=_;rw[aH (AX b hb).1];exact hl b (AX b hb).2
theorem dM.UM (h:dM C g st a w hs){v:Value}{x:AC}(r:gA (cH C g st w) v x []):gA (cH C g st w) v (st.fresh x) []:=by
 unfold AS.fresh;split;rename_i ep rt t e xs;cases wN:(ep==st.ep)with
 |true=>exact r
 |false=>
  simp only[af];split;rename_i t' e' ys gI;split;rename_i he;subst he;cases ht:(t'==t)with
  |false=>exact r
  |true=>
   have:t'=t:=by simpa using ht
   subst this;simp only[ah];obtain⟨v0,f2,hh,gE,_,_,_⟩:=h.P1 rt gI;obtain⟨h1,h2,h3,h4,h5⟩:=r;obtain⟨k1,k2⟩:=h5 rt t' rfl;have hv:v0=v:=(hh t' rfl).trans k2.symm;subst hv;exact⟨h1,aU _,K9 gE,λ_=>ff.rep (λb o ho=> .inr ho) gE,λr1 t1 hp=>by simp at hp;obtain⟨_,rfl⟩:=hp;exact⟨k1,k2⟩⟩
  exact r;exact r
 exact r
theorem dM.Ie (h:dM C g st a w hs):∀{vs:iq}{xs:aw AC},bB (cH C g st w) vs xs []->bB (cH C g st w) vs (xs.map st.fresh) []
 |[],[],r=>r
 |_::_,_::_,r=>by
  obtain⟨f1,f2,he,r1,r2⟩:=r;have h1:f1=[]:=by have:=he.symm;simp at this;exact this.1
  have h2:f2=[]:=by have:=he.symm;simp at this;exact this.2
  subst h1;subst h2;exact⟨[],[],rfl,h.UM r1,h.Ie r2⟩
 |[],_::_,r=>r.elim
 |_::_,[],r=>r.elim
theorem dM.fresh (h:dM C g st a w hs){v:Value}{x:AV}(r:fR (cH C g st w) v x []):fR (cH C g st w) v (x.fresh st) []:=by
 cases x with
 |val gg cs=>obtain⟨vs,hv,r⟩:=r;exact⟨vs,hv,h.Ie r⟩
 |uF ts=>exact r
end Go.Dn
