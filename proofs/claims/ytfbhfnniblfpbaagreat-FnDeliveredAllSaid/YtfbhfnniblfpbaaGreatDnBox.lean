import Derived.Test.YtfbhfnniblfpbaaGreatDnPut
/- A box is made or written; an element of an owned slice is written. -/
namespace Go.Dn
open Go.RowKit
variable {C:Ctx} {g:Gh} {st:AS} {a:Act} {w:World} {hs:au (Value×AV)}
variable {x0:AC} {fp:eo}
theorem kv {s:Nat}{b:ax (au AC)}:(st.eE s b).boxes=st.boxes.set s b:=by simp[AS.eE,fg]
theorem QW {s:Nat}{cs:au AC}{g':Gh}{w':World}(L3:g'.hdr=g.hdr)(hcA:∀k b o u,C.A k b o->w.cell? ⟨b,o,none⟩=some u->w'.cell? ⟨b,o,none⟩=some u)(Km:∀t,jm st t->g'.β t=g.β t)(IK:∀b o u,o<g.hw b->w.cell? ⟨b,o,none⟩=some u->o<g'.hw b/\w'.cell? ⟨b,o,none⟩=some u): (cQ C g st w).Le (cQ C g' (st.eE s (some cs)) w'):=by refine⟨rfl,λt ht=>⟨ht,by show g'.hdr t=g.hdr t;rw[L3]⟩,hcA,aU _,λt ht=>⟨?_,Km t ht⟩,λ_ b o u ho hu=>IK b o u ho hu⟩;obtain⟨rf,hc⟩:=ht;show∃an4,(st.eE s (some cs)).boxes[t]?=some (some an4);rw[kv];by_cases ur:s=t;subst ur;have gB:s<st.boxes.length:=(aE.1 hc).1;exact⟨cs,by simp[gB]⟩;exact⟨rf,by rw[aR ur];exact hc⟩
theorem dN.WW (h:dN C g st a w hs)(s:Nat){cs:au AC}{arr:Array Value}{T:TypeId}{fr:Nat×Nat}{w':World}{bnew:Nat}{hw':Nat->Nat}(hbn:(bnew=g.β s/\g.ej bnew=some (.box s))\/(w.heap.size<=bnew/\st.boxes[s]?=some none))(jz:Fr (λb=>dD (g.ej b)\/b=bnew) w w')(kz:w'.heap[bnew]?=some (.cells arr T fr))(tw:qw arr fr)(gB:bnew<w'.heap.size)(aol:hw' bnew=0)(Gs:∀b x,g.ej b=some x->¬dD (some x)->b≠bnew->hw' b=g.hw b)(IK:∀b o u,o<g.hw b->w.cell? ⟨b,o,none⟩=some u->o<hw' b/\w'.cell? ⟨b,o,none⟩=some u)(hr:bE ⟨hw',λt=>if t=s then bnew else g.β t,C.A,g.hdr,mX st,st.ep,jm st,w'⟩ arr.toList cs fp)(hn:fp.Nodup)(xx:bnew∉fp)(EI:∀b∈fp,b<w'.heap.size/\(dD (g.ej b)\/g.ej b=some (.box s)\/w.heap.size<=b)): ∃g',g'.β s=bnew/\dN C g' (st.eE s (some cs)) a w' []:=by
 have hcA:∀k b o u,C.A k b o->w.cell? ⟨b,o,none⟩=some u->w'.cell? ⟨b,o,none⟩=some u:=by
  intro k b o u hA hu;have hb:b<w.heap.size:=World.block_lt_of_cell? w _ hu;have Lk:¬(dD (g.ej b)\/b=bnew):=by
   rintro(hh|rfl);cases hx:g.ej b with|none=>rw[hx]at hh;cases hh|some x=>exact h.NY hx k o hA
   rcases hbn with⟨_,h2⟩|h2;exact h.NY h2 k o hA;omega
  rw[World.cell?_of_block (a:=⟨b,o,none⟩) (jz.block b hb Lk)];exact hu
 have DT:∀b x,g.ej b=some x->x≠ .box s->b≠bnew:=by rintro b x hx hxs rfl;rcases hbn with⟨_,h2⟩|h2;rw[hx]at h2;exact hxs (by simpa using h2);have:=(h.fR b x hx).1;omega
 have hkp:∀b x,g.ej b=some x->¬dD (some x)->x≠ .box s->w'.heap[b]?=w.heap[b]?:=λb x hx hh hxs=>
  jz.block b (h.fR b x hx).1 (by rintro(k|k);rw[hx]at k;exact hh k;exact DT b x hx hxs k)
 let β':Nat->Nat:=λt=>if t=s then bnew else g.β t
 let aa8:Nat->ax jI:=λb=>if b=bnew\/b∈fp then some (.box s) else if dD (g.ej b) then none else g.ej b
 let g':Gh:=⟨hw',β',aa8,g.hdr⟩
 have Sn:Fr C.M C.w0 w':=h.frame.trans jz (λb hb hh=>by
  rcases hh with hh|rfl;cases hx:g.ej b with|none=>rw[hx]at hh;cases hh|some x=>rcases(h.fR b x hx).2 with h2|h2;omega;exact h2
  rcases hbn with⟨_,h2⟩|h2;rcases(h.fR b _ h2).2 with h3|h3;omega;exact h3;have:=h.frame.size;omega)
 have Km:∀t,jm st t->β' t=g.β t:=by rintro t ⟨rf,hc⟩;show(if t=s then bnew else g.β t)=g.β t;by_cases ur:t=s;subst ur;rcases hbn with⟨h2,_⟩|⟨_,h2⟩;simp[h2];rw[h2]at hc;cases hc;simp[ur]
 have hle:(cQ C g st w).Le (cQ C g' (st.eE s (some cs)) w'):=QW rfl hcA Km IK;have ahc:(RC.mk hw' β' C.A g.hdr (mX st) st.ep (jm st) w').Le (cQ C g' (st.eE s (some cs)) w'):=⟨rfl,λ_ ht=>⟨ht,rfl⟩,λ_ _ _ _ _ hu=>hu,aU _,λt ht=>⟨(hle.Jm t ht).1,rfl⟩,λ_ b o u ho hu=>⟨ho,hu⟩⟩
 refine⟨g',by show(if s=s then bnew else g.β s)=bnew;simp,h.step (λx=>¬dD (some x)/\x≠ .box s) hle h.defers h.size ?_ Sn ?_ ?_ ?_ ?_ ?_ (.inl ⟨⟨by simp[kB],by simp⟩,rfl⟩)⟩;show(st.eE s (some cs)).boxes.length=st.slots.length;rw[kv,aB];exact h.bsize;intro b x hx;have B7:(if b=bnew\/b∈fp then some (jI.box s) else if dD (g.ej b) then none else g.ej b)=some x:=hx;by_cases hm:b=bnew\/b∈fp;rcases hm with rfl|hm;refine⟨gB,?_⟩;rcases hbn with⟨_,h2⟩|h2;exact(h.fR b _ h2).2;exact .inl (aP h.frame.size h2.1);refine⟨(EI b hm).1,?_⟩;rcases(EI b hm).2 with h2|h2|h2;cases hy:g.ej b with|none=>rw[hy]at h2;cases h2|some y=>exact(h.fR b y hy).2
 exact(h.fR b _ h2).2;exact .inl (aP h.frame.size h2);rw[aH hm]at B7;split at B7;cases B7;have hl:=h.fR b x B7;have hz:=jz.size;exact⟨by omega,hl.2⟩;intro b x hk hx;have hb1:=DT b x hx hk.2;refine⟨?_,hkp b x hx hk.1 hk.2,Gs b x hx hk.1 hb1⟩;show(if b=bnew\/b∈fp then some (jI.box s) else if dD (g.ej b) then none else g.ej b)=some x;have Xq:¬(b=bnew\/b∈fp):=by rintro(hm|hm);exact hb1 hm;rcases(EI b hm).2 with h2|h2|h2;rw[hx]at h2;exact hk.1 h2;rw[hx]at h2;exact hk.2 (by simpa using h2);have:=(h.fR b x hx).1;omega
 rw[aH Xq,aH (by rw[hx];exact hk.1),hx];intro i av hi;exact .inl ⟨⟨by simp[kB],by simp⟩,hi,rfl⟩;intro t rf hb;have gQ:(st.boxes.set s (some cs))[t]?=some (some rf):=by rw[<-kv];exact hb
 by_cases ur:t=s;subst ur;rw[br]at gQ;simp only[cp]at gQ;split at gQ;simp at gQ;subst gQ;have afu:β' t=bnew:=by show(if t=t then bnew else g.β t)=bnew;simp
 refine .inr ⟨arr,T,fr,fp,?_,tw,hr.mono ahc (λb _=>⟨rfl,rfl⟩),hn,?_,?_,?_,?_⟩;show w'.heap[β' t]?=_;rw[afu];exact kz;show β' t∉fp;rw[afu];exact xx;intro b hb;show(if b=bnew\/b∈fp then _ else _)=_;rw[aF (.inr hb)];show(if β' t=bnew\/β' t∈fp then _ else _)=_;rw[aF (.inl afu)];show hw' (β' t)=0;rw[afu];exact aol;cases gQ;rw[aR (cY ur)]at gQ;exact .inl ⟨⟨by simp[kB],by simpa using ur⟩,gQ,by show(if t=s then bnew else g.β t)=_;simp[ur]⟩;intro k u bv hk;simp at hk
def kL.owner:kL->jI
 | .slot s _=> .slot s
 | .box s _=> .box s
 | .io _=> .io
theorem bE.agK {c:RC}{vs:ie}{cs:au AC}(hr:bE c vs cs fp){j:Nat}{x:AC}(hx:cs[j]?=some x): ∃v f1 f2 f3,vs[j]?=some v/\fp=f1++f2++f3/\gE c v x f2/\ ∀(c':RC),c.Le c'->∀x' f2',gE c' v x' f2'->(∀b∈f1++f3,c'.w.heap[b]?=c.w.heap[b]?/\c'.hw b=c.hw b)-> bE c' vs (cs.set j x') (f1++f2'++f3):=by
 have hj:j<cs.length:=(aE.1 hx).1;obtain⟨f1,fr,rfl,r1,r2⟩:=hr.split j;have hlen:=hr.length;have hjv:j<vs.length:=by omega
 have ecs:cs.drop j=x::cs.drop (j+1):=by rw[bN hj];congr 1;rw[al hj]at hx;simpa using hx
 have evs:vs.drop j=vs[j]::vs.drop (j+1):=bN hjv;rw[ecs,evs]at r2;obtain⟨f2,f3,rfl,r2,r3⟩:=r2;refine⟨vs[j],f1,f2,f3,al hjv,by simp,r2,λc' hle x' f2' B7 hb=>?_⟩;have e1:vs=vs.take j++(vs[j]::vs.drop (j+1)):=by rw[<-evs,bW]
 have e2:cs.set j x'=cs.take j++(x'::cs.drop (j+1)):=by rw[List.set_eq_take_append_cons_drop,aF hj]
 rw[e1,e2,aZ];refine bE.append (r1.mono hle (λb gQ=>hb b (bt _ gQ))) ⟨f2',f3,rfl,B7,?_⟩;exact r3.mono hle (λb gQ=>hb b (bk _ gQ))
def Gh.wrote (g:Gh)(o:jI)(fp:eo)(hw':Nat->Nat):Gh:=
 ⟨hw',g.β,λb=>if b∈fp then some o else if dD (g.ej b) then none else g.ej b,g.hdr⟩
theorem dN.KN (h:dN C g st a w hs)(o:jI)(Ph:¬dD (some o)){vs:ie}{cs:au AC}{j:Nat}(ed:bE (cQ C g st w) vs cs fp)(hn:fp.Nodup)(hl:∀b∈fp,g.ej b=some o)(hx:cs[j]?=some x0): ∃v f1 f2 f3,vs[j]?=some v/\fp=f1++f2++f3/\gE (cQ C g st w) v x0 f2/\f2.Nodup/\(∀b∈f2,g.ej b=some o)/\ ∀(w':World)(hw':Nat->Nat)(bM:AS)(x1:AC)(rZ:eo),bM.ep=st.ep+1->bM.iss=st.iss->(∀s,jm st s->jm bM s)-> (∀c',(cQ C g st w).Le c'->c'.w=w'->c'.hw=hw'->gE c' v x1 rZ)->rZ.Nodup->(∀b∈rZ,b<w'.heap.size/\(b∈f2\/dD (g.ej b)))-> Fr (λb=>dD (g.ej b)\/b∈f2) w w'->(∀b x,g.ej b=some x->¬dD (some x)->b∉f2->hw' b=g.hw b)-> (cQ C g st w).Le (cQ C (g.wrote o (f1++rZ++f3) hw') bM w')/\ bE (cQ C (g.wrote o (f1++rZ++f3) hw') bM w') vs (cs.set j x1) (f1++rZ++f3)/\(f1++rZ++f3).Nodup/\ (∀b∈f1++rZ++f3,(g.wrote o (f1++rZ++f3) hw').ej b=some o)/\ (∀b x,¬dD (some x)->x≠o->g.ej b=some x->(g.wrote o (f1++rZ++f3) hw').ej b=some x/\w'.heap[b]?=w.heap[b]?/\hw' b=g.hw b)/\ (∀b,g.ej b=some o->b∉fp->(g.wrote o (f1++rZ++f3) hw').ej b=some o/\w'.heap[b]?=w.heap[b]?/\hw' b=g.hw b)/\ Fr C.M C.w0 w'/\(∀b x,(g.wrote o (f1++rZ++f3) hw').ej b=some x->b<w'.heap.size/\(C.w0.heap.size<=b\/C.M b)):=by
 obtain⟨v,f1,f2,f3,hv,rfl,Py,Fv⟩:=ed.agK hx;have Dc:=hn;rw[aZ]at Dc;have n1:=aJ.1 Dc;have n2:=aJ.1 n1.2.1;have EW:∀b∈f1++f3,b∉f2:=by intro b hb h2;rcases aA.1 hb with hb|hb;exact n1.2.2 b hb b (bt _ h2) rfl;exact n2.2.2 b h2 b hb rfl
 refine⟨v,f1,f2,f3,hv,rfl,Py,n2.1,λb hb=>hl b (by simp[hb]),?_⟩;intro w' hw' bM x1 rZ zM II vT fU Kk BA jz Gs;have hcA:∀k b o u,C.A k b o->w.cell? ⟨b,o,none⟩=some u->w'.cell? ⟨b,o,none⟩=some u:=by
  intro k b o u hA hu;have hb:b<w.heap.size:=World.block_lt_of_cell? w _ hu;have Lk:¬(dD (g.ej b)\/b∈f2):=by
   rintro(hh|hm);cases hx:g.ej b with|none=>rw[hx]at hh;cases hh|some x=>exact h.NY hx k o hA
   exact h.NY (hl b (by simp[hm])) k o hA
  rw[World.cell?_of_block (a:=⟨b,o,none⟩) (jz.block b hb Lk)];exact hu
 have hle:(cQ C g st w).Le (cQ C (g.wrote o (f1++rZ++f3) hw') bM w'):=⟨rfl,λt ht=>⟨by show mX bM t;have WB:mX st t:=ht;simpa[mX,II]using WB,rfl⟩,hcA,by show st.ep<=bM.ep;omega,λs hs=>⟨vT s hs,rfl⟩,λhe=>absurd he (by show bM.ep≠st.ep;omega)⟩
 have tH:∀b x,¬dD (some x)->g.ej b=some x->b∉f2->w'.heap[b]?=w.heap[b]?/\hw' b=g.hw b:=by intro b x hh hb hm;exact⟨jz.block b (h.fR b _ hb).1 (by rintro(k|k);rw[hb]at k;exact hh k;exact hm k),Gs b _ hb hh hm⟩
 have hd1:∀b∈f1++f3,b∉rZ:=by intro b hb hm;rcases(BA b hm).2 with h2|h2;exact EW b hb h2;have QA:g.ej b=some o:=hl b (by rcases aA.1 hb with hb|hb<;>simp[hb]);rw[QA]at h2;exact Ph h2
 refine⟨hle,?_,?_,?_,?_,?_,?_,?_⟩;refine Fv _ hle _ rZ (fU _ hle rfl rfl) (λb hb=>?_);exact tH b o Ph (hl b (by rcases aA.1 hb with hb|hb<;>simp[hb])) (EW b hb);rw[aZ];refine aJ.2 ⟨n1.1,aJ.2 ⟨Kk,n2.2.1,?_⟩,?_⟩;rintro b hb c hc rfl;exact hd1 b (by simp[hc]) hb;rintro b hb c hc rfl;rcases aA.1 hc with hc|hc;exact hd1 b (by simp[hb]) hc;exact n1.2.2 b hb b (bk _ hc) rfl;intro b hb;show(if b∈f1++rZ++f3 then _ else _)=_;rw[aF hb];intro b x hh hxo hb;have hm2:b∉f2:=λhm=>hxo (by have:=hl b (by simp[hm]);rw[hb]at this;simpa using this);refine⟨?_,tH b x hh hb hm2⟩;show(if b∈f1++rZ++f3 then _ else if dD (g.ej b) then none else g.ej b)=_;have Xq:b∉f1++rZ++f3:=by intro hm;simp only[aA]at hm;rcases hm with(hm|hm)|hm;exact hxo (by have:=hl b (by simp[hm]);rw[hb]at this;simpa using this);rcases(BA b hm).2 with h2|h2;exact hm2 h2;rw[hb]at h2;exact hh h2;exact hxo (by have:=hl b (by simp[hm]);rw[hb]at this;simpa using this)
 rw[aH Xq,aH (by rw[hb];exact hh),hb];intro b hb hm;have hm2:b∉f2:=λk=>hm (by simp[k]);refine⟨?_,tH b o Ph hb hm2⟩;show(if b∈f1++rZ++f3 then _ else if dD (g.ej b) then none else g.ej b)=_;rw[aH (c:=dD (g.ej b)) (by rw[hb];exact Ph),hb];split<;>rfl;refine h.frame.trans jz (λb hb hh=>?_);rcases hh with hh|hm;cases hx:g.ej b with|none=>rw[hx]at hh;cases hh|some x=>rcases(h.fR b x hx).2 with h2|h2;omega;exact h2
 rcases(h.fR b o (hl b (by simp[hm]))).2 with h2|h2;omega;exact h2;intro b x hx;have B7:(if b∈f1++rZ++f3 then some o else if dD (g.ej b) then none else g.ej b)=some x:=hx;have hz:=jz.size;have old:∀y,g.ej b=some y->b<w'.heap.size/\(C.w0.heap.size<=b\/C.M b):=λy hy=>⟨Nat.lt_of_lt_of_le (h.fR b y hy).1 hz,(h.fR b y hy).2⟩
 split at B7;rename_i hm;simp only[aA]at hm;rcases hm with(hm|hm)|hm;exact old o (hl b (by simp[hm]));rcases(BA b hm).2 with h2|h2;exact old o (hl b (by simp[h2]));cases hy:g.ej b with|none=>rw[hy]at h2;cases h2|some y=>exact old y hy
 exact old o (hl b (by simp[hm]));split at B7;cases B7;exact old x B7
theorem dN.aes (h:dN C g st a w hs)(s j:Nat)(DT:x0≠ .bot)(gL:st.eL (.slot s j)=some x0): ∃v f2,gE (cQ C g st w) v x0 f2/\f2.Nodup/\(∀b∈f2,g.ej b=some (.slot s))/\ ∀(w':World)(hw':Nat->Nat)(x1:AC)(rZ:eo),(∀c',(cQ C g st w).Le c'->c'.w=w'->c'.hw=hw'->gE c' v x1 rZ)->rZ.Nodup->(∀b∈rZ,b<w'.heap.size/\(b∈f2\/dD (g.ej b)))-> Fr (λb=>dD (g.ej b)\/b∈f2) w w'->(∀b x,g.ej b=some x->¬dD (some x)->b∉f2->hw' b=g.hw b)-> ∃g',dN C g' {st.eT (.slot s j) x1 with ep:=st.ep+1} a w' []:=by
 have As:s<st.slots.length:=by
  rcases bQ s st.slots.length with gB|Ae;exact gB;have:st.get s=.bot:=by simp[AS.get,dJ,bJ Ae]
  rw[AS.eL,this]at gL;cases j with|zero=>simp[nth]at gL;exact absurd gL.symm DT|succ j=>simp[nth]at gL
 have Zp:st.slots[s]?=some (st.get s):=by rw[get_eq (al As)];exact al As
 obtain⟨fp,hr,hn,hl⟩:=h.slots s _ Zp;cases hg:st.get s with
 |xn ts=>rw[AS.eL,hg]at gL;cases gL
 |val gg cs=>
  have hgx:cs[j]?=some x0:=by rw[AS.eL,hg]at gL;simpa[dJ]using gL
  rw[hg]at hr;obtain⟨vs,eR,hr⟩:=hr;obtain⟨v,f1,f2,f3,hv,rfl,fU,E1,Af,ri⟩:=h.KN (.slot s) (by simp[kB]) hr hn hl hgx;refine⟨v,f2,fU,E1,Af,?_⟩;intro w' hw' x1 rZ De Kk BA jz Gs;let bM:AS:={st.eT (.slot s j) x1 with ep:=st.ep+1}
  have xt:bM={st with slots:=st.slots.set s (.val gg (cs.set j x1)),ep:=st.ep+1}:=by show({st.eT (.slot s j) x1 with ep:=st.ep+1}:AS)=_;simp only[AS.eT,hg,AS.put,fg]
  obtain⟨hle,ed,NB,hll,hk1,hk2,Sn,Uz⟩:=ri w' hw' bM x1 rZ rfl (by rw[xt]) (λs hs=>by rw[xt];exact hs) De Kk BA jz Gs;refine⟨_,h.step (λx=>¬dD (some x)/\x≠ .slot s) hle h.defers ?_ ?_ Sn Uz (λb x hk hx=>hk1 b x hk.1 hk.2 hx) ?_ ?_ (λk u bv hk=>by simp at hk) (.inl ⟨⟨by simp[kB],by simp⟩,by show bM.io=st.io;rw[xt]⟩)⟩;show _=bM.slots.length;rw[xt];simpa using h.size;show bM.boxes.length=bM.slots.length;rw[xt];simpa using h.bsize;intro i av hi;have vR:(st.slots.set s (.val gg (cs.set j x1)))[i]?=some av:=by have:bM.slots[i]?=some av:=hi;rw[xt]at this;exact this
  by_cases his:i=s;subst his;rw[br]at vR;simp only[cp,As]at vR;simp at vR;subst vR;exact .inr ⟨_,⟨vs,eR,ed⟩,NB,hll⟩;rw[aR (cY his)]at vR;exact .inl ⟨⟨by simp[kB],by simpa using his⟩,vR,rfl⟩;intro t rf hb;have gQ:st.boxes[t]?=some (some rf):=by have:bM.boxes[t]?=some (some rf):=hb;rw[xt]at this;exact this
  exact .inl ⟨⟨by simp[kB],by simp⟩,gQ,rfl⟩
theorem dN.afX (h:dN C g st a w hs)(s j:Nat)(gL:st.eL (.box s j)=some x0): ∃v f2,gE (cQ C g st w) v x0 f2/\f2.Nodup/\(∀b∈f2,g.ej b=some (.box s))/\ ∀(w':World)(hw':Nat->Nat)(x1:AC)(rZ:eo),(∀c',(cQ C g st w).Le c'->c'.w=w'->c'.hw=hw'->gE c' v x1 rZ)->rZ.Nodup->(∀b∈rZ,b<w'.heap.size/\(b∈f2\/dD (g.ej b)))-> Fr (λb=>dD (g.ej b)\/b∈f2) w w'->(∀b x,g.ej b=some x->¬dD (some x)->b∉f2->hw' b=g.hw b)-> ∃g',dN C g' {st.eT (.box s j) x1 with ep:=st.ep+1} a w' []:=by
 have jX:∃cs,st.boxes[s]?=some (some cs)/\cs[j]?=some x0:=by rw[AS.eL,dJ]at gL;cases hb:st.boxes[s]? with|none=>simp[hb]at gL|some o=>cases o with|none=>simp[hb]at gL|some cs=>exact⟨cs,rfl,by simpa[hb,dJ]using gL⟩
 obtain⟨cs,jX,hgx⟩:=jX;have As:s<st.boxes.length:=(aE.1 jX).1;obtain⟨arr,T,fr,fp,kz,tw,hr,hn,xx,hl,Ia,Ic⟩:=h.boxes s cs jX;obtain⟨v,f1,f2,f3,hv,rfl,fU,E1,Af,ri⟩:=h.KN (.box s) (by simp[kB]) hr hn hl hgx;refine⟨v,f2,fU,E1,Af,?_⟩;intro w' hw' x1 rZ De Kk BA jz Gs;let bM:AS:={st.eT (.box s j) x1 with ep:=st.ep+1}
 have xt:bM={st with boxes:=st.boxes.set s (some (cs.set j x1)),ep:=st.ep+1}:=by show({st.eT (.box s j) x1 with ep:=st.ep+1}:AS)=_;simp only[AS.eT,dJ,jX,fj,AS.eE,fg]
 obtain⟨hle,ed,NB,hll,hk1,hk2,Sn,Uz⟩:=ri w' hw' bM x1 rZ rfl (by rw[xt]) (λt ht=>by rw[xt];obtain⟨c0,Zk⟩:=ht;by_cases ur:s=t;subst ur;exact⟨cs.set j x1,by simp[As]⟩;exact⟨c0,by rw[aR ur];exact Zk⟩) De Kk BA jz Gs;have Km:=hk2 (g.β s) Ia xx;refine⟨_,h.step (λx=>¬dD (some x)/\x≠ .box s) hle h.defers ?_ ?_ Sn Uz (λb x hk hx=>hk1 b x hk.1 hk.2 hx) ?_ ?_ (λk u bv hk=>by simp at hk) (.inl ⟨⟨by simp[kB],by simp⟩,by show bM.io=st.io;rw[xt]⟩)⟩;show _=bM.slots.length;rw[xt];exact h.size;show bM.boxes.length=bM.slots.length;rw[xt];simpa using h.bsize;intro i av hi;have vR:st.slots[i]?=some av:=by have:bM.slots[i]?=some av:=hi;rw[xt]at this;exact this
 exact .inl ⟨⟨by simp[kB],by simp⟩,vR,rfl⟩;intro t rf hb;have gQ:(st.boxes.set s (some (cs.set j x1)))[t]?=some (some rf):=by have:bM.boxes[t]?=some (some rf):=hb;rw[xt]at this;exact this
 by_cases ur:t=s;subst ur;rw[br]at gQ;simp only[cp,As]at gQ;simp at gQ;subst gQ;have IJ:g.β t∉f1++rZ++f3:=by intro hm;simp only[aA]at hm;rcases hm with(hm|hm)|hm;exact xx (by simp[hm]);rcases(BA _ hm).2 with h2|h2;exact xx (by simp[h2]);rw[Ia]at h2;cases h2;exact xx (by simp[hm])
 exact .inr ⟨arr,T,fr,_,Km.2.1.trans kz,tw,ed,NB,IJ,hll,Km.1,Km.2.2.trans Ic⟩;rw[aR (cY ur)]at gQ;exact .inl ⟨⟨by simp[kB],by simpa using ur⟩,gQ,rfl⟩
theorem dN.ahK (h:dN C g st a w hs)(j:Nat)(gL:st.eL (.io j)=some x0): ∃v f2,gE (cQ C g st w) v x0 f2/\f2.Nodup/\(∀b∈f2,g.ej b=some .io)/\ ∀(w':World)(hw':Nat->Nat)(x1:AC)(rZ:eo),(∀c',(cQ C g st w).Le c'->c'.w=w'->c'.hw=hw'->gE c' v x1 rZ)->rZ.Nodup->(∀b∈rZ,b<w'.heap.size/\(b∈f2\/dD (g.ej b)))-> Fr (λb=>dD (g.ej b)\/b∈f2) w w'->(∀b x,g.ej b=some x->¬dD (some x)->b∉f2->hw' b=g.hw b)-> ∃g',dN C g' {st.eT (.io j) x1 with ep:=st.ep+1} a w' []:=by
 have hgx:st.io[j]?=some x0:=by rw[AS.eL,dJ]at gL;exact gL
 obtain⟨fp,hr,hn,hl⟩:=h.io;obtain⟨v,f1,f2,f3,hv,rfl,fU,E1,Af,ri⟩:=h.KN .io (by simp[kB]) hr hn hl hgx;refine⟨v,f2,fU,E1,Af,?_⟩;intro w' hw' x1 rZ De Kk BA jz Gs;let bM:AS:={st.eT (.io j) x1 with ep:=st.ep+1}
 have xt:bM={st with io:=st.io.set j x1,ep:=st.ep+1}:=by show({st.eT (.io j) x1 with ep:=st.ep+1}:AS)=_;simp only[AS.eT,fg]
 obtain⟨hle,ed,NB,hll,hk1,hk2,Sn,Uz⟩:=ri w' hw' bM x1 rZ rfl (by rw[xt]) (λs hs=>by rw[xt];exact hs) De Kk BA jz Gs
 refine⟨_,h.step (λx=>¬dD (some x)/\x≠ .io) hle h.defers ?_ ?_ Sn Uz (λb x hk hx=>hk1 b x hk.1 hk.2 hx) ?_ ?_ (λk u bv hk=>by simp at hk) (.inr ⟨_,by
  have:bM.io=st.io.set j x1:=by rw[xt]
  show bE _ _ bM.io _;rw[this];exact ed,NB,hll⟩)⟩
 show _=bM.slots.length;rw[xt];exact h.size;show bM.boxes.length=bM.slots.length;rw[xt];exact h.bsize;intro i av hi;have vR:st.slots[i]?=some av:=by have:bM.slots[i]?=some av:=hi;rw[xt]at this;exact this
 exact .inl ⟨⟨by simp[kB],by simp⟩,vR,rfl⟩;intro t rf hb;have gQ:st.boxes[t]?=some (some rf):=by have:bM.boxes[t]?=some (some rf):=hb;rw[xt]at this;exact this
 exact .inl ⟨⟨by simp[kB],by simp⟩,gQ,rfl⟩
theorem dN.S4 (h:dN C g st a w hs)(r:kL)(DT:x0≠ .bot)(gL:st.eL r=some x0): ∃v f2,gE (cQ C g st w) v x0 f2/\f2.Nodup/\(∀b∈f2,g.ej b=some r.owner)/\ ∀(w':World)(hw':Nat->Nat)(x1:AC)(rZ:eo),(∀c',(cQ C g st w).Le c'->c'.w=w'->c'.hw=hw'->gE c' v x1 rZ)->rZ.Nodup->(∀b∈rZ,b<w'.heap.size/\(b∈f2\/dD (g.ej b)))-> Fr (λb=>dD (g.ej b)\/b∈f2) w w'->(∀b x,g.ej b=some x->¬dD (some x)->b∉f2->hw' b=g.hw b)-> ∃g',dN C g' {st.eT r x1 with ep:=st.ep+1} a w' []:=by cases r with|slot s j=>exact h.aes s j DT gL|box s j=>exact h.afX s j gL|io j=>exact h.ahK j gL
theorem dN.S5 (h:dN C g st a w hs)(r:kL){tag:ax Nat}{e:CT}{xs:au e.D}(gL:st.eL r=some (.sl (.own tag) e xs)): ∃v f2,(∀t,tag=some t->v=g.hdr t)/\eP g.hw w (.sl e) [v] xs f2/\f2.Nodup/\(∀b∈f2,g.ej b=some r.owner)/\ ∀(w':World)(hw':Nat->Nat)(Pj:au e.D)(rZ:eo),eP hw' w' (.sl e) [v] Pj rZ->rZ.Nodup->(∀b∈rZ,b<w'.heap.size/\(b∈f2\/dD (g.ej b)))-> Fr (λb=>dD (g.ej b)\/b∈f2) w w'->(∀b x,g.ej b=some x->¬dD (some x)->b∉f2->hw' b=g.hw b)-> ∃g',dN C g' {st.eT r (.sl (.own tag) e Pj)with ep:=st.ep+1} a w' []:=by obtain⟨v,f2,ed,E1,Af,ri⟩:=h.S4 r (by simp) gL;refine⟨v,f2,λt ht=>(ed.2 t ht).2,ed.1,E1,Af,λw' hw' Pj rZ fU Kk BA jz Gs=>ri w' hw' (.sl (.own tag) e Pj) rZ (λc' hle Qz EV=>⟨?_,λt ht=>?_⟩) Kk BA jz Gs⟩;rw[Qz,EV];exact fU;have h1:=ed.2 t ht;exact⟨(hle.hdr t h1.1).1,by rw[(hle.hdr t h1.1).2];exact h1.2⟩
theorem dN.aet (h:dN C g st a w [])(r:kL)(DT:x0≠ .bot)(gL:st.eL r=some x0): ∃v f2,gE (cQ C g st w) v x0 f2/\f2.Nodup/\(∀b∈f2,g.ej b=some r.owner)/\ ∀(x1:AC)(rZ fh:eo)(u:Value)(av:AV),(∀c',(cQ C g st w).Le c'->c'.w=w->c'.hw=g.hw->c'.ep=st.ep->gE c' v x1 rZ)->rZ.Nodup->fh.Nodup->(∀b∈rZ,b∈f2/\b∉fh)->(∀b∈fh,b∈f2)-> fF (cQ C g st w) u av fh->∃g',dN C g' (st.eT r x1) a w [(u,av)]:=by
 have core:∀(o:jI){vs:ie}{cs:au AC}{fp:eo}{j:Nat},bE (cQ C g st w) vs cs fp->fp.Nodup->(∀b∈fp,g.ej b=some o)->cs[j]?=some x0->
  ∃v f2,gE (cQ C g st w) v x0 f2/\f2.Nodup/\(∀b∈f2,g.ej b=some o/\b∈fp)/\
   ∀(bM:AS)(x1:AC)(rZ fh:eo)(u:Value)(av:AV),bM.ep=st.ep->bM.iss=st.iss->(∀s,jm st s->jm bM s)->(∀c',(cQ C g st w).Le c'->c'.w=w->c'.hw=g.hw->c'.ep=st.ep->gE c' v x1 rZ)->rZ.Nodup->fh.Nodup->(∀b∈rZ,b∈f2/\b∉fh)->(∀b∈fh,b∈f2)->fF (cQ C g st w) u av fh->
    (cQ C g st w).Le (cQ C {g with ej:=λb=>if b∈fh then some (.hand 0) else g.ej b} bM w)/\
    ∃jL,bE (cQ C {g with ej:=λb=>if b∈fh then some (.hand 0) else g.ej b} bM w) vs (cs.set j x1) jL/\jL.Nodup/\(∀b∈jL,b∉fh/\b∈fp)/\
    J5 C {g with ej:=λb=>if b∈fh then some (.hand 0) else g.ej b} bM w 0 u av:=by
  intro o vs cs fp j ed hn hl hx
  obtain⟨v,f1,f2,f3,hv,rfl,Py,Fv⟩:=ed.agK hx
  have Dc:=hn
  rw[aZ]at Dc
  have n1:=aJ.1 Dc
  have n2:=aJ.1 n1.2.1
  refine⟨v,f2,Py,n2.1,λb hb=>⟨hl b (by simp[hb]),by simp[hb]⟩,?_⟩
  intro bM x1 rZ fh u av zM II vT hx1 Kk Ph BA Pt hu
  have hle:(cQ C g st w).Le (cQ C {g with ej:=λb=>if b∈fh then some (.hand 0) else g.ej b} bM w):=
   ⟨rfl,λt ht=>⟨by show mX bM t;have WB:mX st t:=ht;simpa[mX,II]using WB,rfl⟩,λ_ _ _ _ _ hu=>hu,by show st.ep<=bM.ep;omega,λs hs=>⟨vT s hs,rfl⟩,λ_ b o u ho hu=>⟨ho,hu⟩⟩
  have EW:∀b∈f1++f3,b∉f2:=by intro b hb h2;rcases aA.1 hb with hb|hb;exact n1.2.2 b hb b (bt _ h2) rfl;exact n2.2.2 b h2 b hb rfl
  refine⟨hle,f1++rZ++f3,Fv _ hle _ rZ (hx1 _ hle rfl rfl zM) (λ_ _=>⟨rfl,rfl⟩),?_,?_,fh,hu.mono hle (λ_ _=>⟨rfl,rfl⟩),Ph,λb hb=>?_⟩
  ·rw[aZ]
   refine aJ.2 ⟨n1.1,aJ.2 ⟨Kk,n2.2.1,?_⟩,?_⟩
   ·rintro b hb c hc rfl;exact EW b (by simp[hc]) (BA b hb).1
   ·rintro b hb c hc rfl
    rcases aA.1 hc with hc|hc
    ·exact EW b (by simp[hb]) (BA b hc).1
    ·exact n1.2.2 b hb b (bk _ hc) rfl
  ·intro b hb
   simp only[aA]at hb
   rcases hb with(hb|hb)|hb
   ·exact⟨λhm=>EW b (by simp[hb]) (Pt b hm),by simp[hb]⟩
   ·exact⟨(BA b hb).2,by simp[(BA b hb).1]⟩
   ·exact⟨λhm=>EW b (by simp[hb]) (Pt b hm),by simp[hb]⟩
  ·show(if b∈fh then _ else _)=_
   rw[aF hb]
 have NZ:∀(fh:eo),∀b x,(if b∈fh then some (jI.hand 0) else g.ej b)=some x->(b∈fh->∃y,g.ej b=some y)->b<w.heap.size/\(C.w0.heap.size<=b\/C.M b):=by intro fh b x hx hy;by_cases hm:b∈fh;obtain⟨y,hy⟩:=hy hm;exact h.fR b y hy;rw[aH hm]at hx;exact h.fR b x hx
 have XR:∀(fh:eo)(o:jI),(∀b∈fh,g.ej b=some o)->∀b x,x≠o->g.ej b=some x->(if b∈fh then some (jI.hand 0) else g.ej b)=some x:=by intro fh o Pt b x hxo hb;rw[aH (λhm=>hxo (by have:=Pt b hm;rw[hb]at this;simpa using this))];exact hb
 cases r with
 |slot s j=>
  have As:s<st.slots.length:=by
   rcases bQ s st.slots.length with gB|Ae;exact gB;have:st.get s=.bot:=by simp[AS.get,dJ,bJ Ae]
   rw[AS.eL,this]at gL;cases j with|zero=>simp[nth]at gL;exact absurd gL.symm DT|succ j=>simp[nth]at gL
  have Zp:st.slots[s]?=some (st.get s):=by rw[get_eq (al As)];exact al As
  obtain⟨fp,hr,hn,hl⟩:=h.slots s _ Zp;cases hg:st.get s with
  |xn ts=>rw[AS.eL,hg]at gL;cases gL
  |val gg cs=>
   have hgx:cs[j]?=some x0:=by rw[AS.eL,hg]at gL;simpa[dJ]using gL
   rw[hg]at hr;obtain⟨vs,eR,hr⟩:=hr;have lE:∀x1,st.eT (.slot s j) x1={st with slots:=st.slots.set s (.val gg (cs.set j x1))}:=λx1=>by simp only[AS.eT,hg,AS.put,fg]
   obtain⟨v,f2,QC,E1,Af,ri⟩:=core (.slot s) hr hn hl hgx;refine⟨v,f2,QC,E1,λb hb=>(Af b hb).1,?_⟩;intro x1 rZ fh u av hx1 Kk Ph BA Pt hu;obtain⟨hle,jL,ed,NB,DS,Fp⟩:=ri (st.eT (.slot s j) x1) x1 rZ fh u av (by rw[lE]) (by rw[lE]) (λ_ q=>by rw[lE];exact q) hx1 Kk Ph BA Pt hu;have hfo:∀b∈fh,g.ej b=some (.slot s):=λb hb=>(Af b (Pt b hb)).1;refine⟨_,h.step (λx=>x≠ .slot s) hle h.defers ?_ ?_ h.frame (λb x hx=>NZ fh b x hx (λhm=>⟨_,hfo b hm⟩)) (λb x hk hb=>⟨XR fh _ hfo b x hk hb,rfl,rfl⟩) ?_ ?_ ?_ (.inl ⟨by simp,by rw[lE]⟩)⟩;rw[lE];simpa using h.size;rw[lE];simpa using h.bsize;intro i bv hi;rw[lE]at hi;have vR:(st.slots.set s (.val gg (cs.set j x1)))[i]?=some bv:=hi;by_cases his:i=s;subst his;rw[br]at vR;simp only[cp,As]at vR;simp at vR;subst vR;refine .inr ⟨jL,⟨vs,eR,ed⟩,NB,λb hb=>?_⟩;show(if b∈fh then _ else _)=_;rw[aH (DS b hb).1];exact hl b (DS b hb).2;rw[aR (cY his)]at vR;exact .inl ⟨by simpa using his,vR,rfl⟩;intro t rf hb;rw[lE]at hb;exact .inl ⟨by simp,hb,rfl⟩;intro k u' bv hk;cases k with
   |zero=>simp only[cz,ba,Prod.mk.injEq]at hk;obtain⟨rfl,rfl⟩:=hk;exact .inr Fp
   |succ k=>simp at hk
 |box s j=>
  have jX:∃cs,st.boxes[s]?=some (some cs)/\cs[j]?=some x0:=by rw[AS.eL,dJ]at gL;cases hb:st.boxes[s]? with|none=>simp[hb]at gL|some o=>cases o with|none=>simp[hb]at gL|some cs=>exact⟨cs,rfl,by simpa[hb,dJ]using gL⟩
  obtain⟨cs,jX,hgx⟩:=jX;have As:s<st.boxes.length:=(aE.1 jX).1;obtain⟨arr,T,fr,fp,kz,tw,hr,hn,xx,hl,Ia,Ic⟩:=h.boxes s cs jX;have lE:∀x1,st.eT (.box s j) x1={st with boxes:=st.boxes.set s (some (cs.set j x1))}:=λx1=>by simp only[AS.eT,dJ,jX,fj,AS.eE,fg]
  obtain⟨v,f2,QC,E1,Af,ri⟩:=core (.box s) hr hn hl hgx;refine⟨v,f2,QC,E1,λb hb=>(Af b hb).1,?_⟩;intro x1 rZ fh u av hx1 Kk Ph BA Pt hu;obtain⟨hle,jL,ed,NB,DS,Fp⟩:=ri (st.eT (.box s j) x1) x1 rZ fh u av (by rw[lE]) (by rw[lE]) (λt ht=>by rw[lE];obtain⟨c0,Zk⟩:=ht;by_cases ur:s=t;subst ur;exact⟨cs.set j x1,by simp[As]⟩;exact⟨c0,by rw[aR ur];exact Zk⟩) hx1 Kk Ph BA Pt hu;have hfo:∀b∈fh,g.ej b=some (.box s):=λb hb=>(Af b (Pt b hb)).1;refine⟨_,h.step (λx=>x≠ .box s) hle h.defers ?_ ?_ h.frame (λb x hx=>NZ fh b x hx (λhm=>⟨_,hfo b hm⟩)) (λb x hk hb=>⟨XR fh _ hfo b x hk hb,rfl,rfl⟩) ?_ ?_ ?_ (.inl ⟨by simp,by rw[lE]⟩)⟩;rw[lE];exact h.size;rw[lE];simpa using h.bsize;intro i bv hi;rw[lE]at hi;exact .inl ⟨by simp,hi,rfl⟩;intro t rf hb;rw[lE]at hb;have gQ:(st.boxes.set s (some (cs.set j x1)))[t]?=some (some rf):=hb;by_cases ur:t=s;subst ur;rw[br]at gQ;simp only[cp,As]at gQ;simp at gQ;subst gQ;have Km:g.β t∉fh:=λhm=>xx (Af _ (Pt _ hm)).2;refine .inr ⟨arr,T,fr,jL,kz,tw,ed,NB,λhm=>xx (DS _ hm).2,λb hb=>?_,?_,Ic⟩;show(if b∈fh then _ else _)=_;rw[aH (DS b hb).1];exact hl b (DS b hb).2;show(if g.β t∈fh then _ else _)=_;rw[aH Km];exact Ia;rw[aR (cY ur)]at gQ;exact .inl ⟨by simpa using ur,gQ,rfl⟩;intro k u' bv hk;cases k with
  |zero=>simp only[cz,ba,Prod.mk.injEq]at hk;obtain⟨rfl,rfl⟩:=hk;exact .inr Fp
  |succ k=>simp at hk
 |io j=>
  have hgx:st.io[j]?=some x0:=by rw[AS.eL,dJ]at gL;exact gL
  obtain⟨fp,hr,hn,hl⟩:=h.io;have lE:∀x1,st.eT (.io j) x1={st with io:=st.io.set j x1}:=λx1=>by simp only[AS.eT,fg]
  obtain⟨v,f2,QC,E1,Af,ri⟩:=core .io hr hn hl hgx;refine⟨v,f2,QC,E1,λb hb=>(Af b hb).1,?_⟩;intro x1 rZ fh u av hx1 Kk Ph BA Pt hu;obtain⟨hle,jL,ed,NB,DS,Fp⟩:=ri (st.eT (.io j) x1) x1 rZ fh u av (by rw[lE]) (by rw[lE]) (λ_ q=>by rw[lE];exact q) hx1 Kk Ph BA Pt hu;have hfo:∀b∈fh,g.ej b=some .io:=λb hb=>(Af b (Pt b hb)).1;refine⟨_,h.step (λx=>x≠ .io) hle h.defers ?_ ?_ h.frame (λb x hx=>NZ fh b x hx (λhm=>⟨_,hfo b hm⟩)) (λb x hk hb=>⟨XR fh _ hfo b x hk hb,rfl,rfl⟩) ?_ ?_ ?_ (.inr ⟨jL,?_,NB,λb hb=>?_⟩)⟩;rw[lE];exact h.size;rw[lE];exact h.bsize;intro i bv hi;rw[lE]at hi;exact .inl ⟨by simp,hi,rfl⟩;intro t rf hb;rw[lE]at hb;exact .inl ⟨by simp,hb,rfl⟩;intro k u' bv hk;cases k with
  |zero=>simp only[cz,ba,Prod.mk.injEq]at hk;obtain⟨rfl,rfl⟩:=hk;exact .inr Fp
  |succ k=>simp at hk
  have:(st.eT (.io j) x1).io=st.io.set j x1:=by rw[lE]
  rw[this];exact ed;show(if b∈fh then _ else _)=_;rw[aH (DS b hb).1];exact hl b (DS b hb).2
theorem dN.Xj (h:dN C g st a w hs){v:Value}{x:AC}(r:gE (cQ C g st w) v x []):gE (cQ C g st w) v (st.fresh x) []:=by
 unfold AS.fresh;split;rename_i ep rt t e xs;cases zM:(ep==st.ep)with
 |true=>exact r
 |false=>
  simp only[ae];split;rename_i t' e' ys gL;split;rename_i he;subst he;cases ht:(t'==t)with
  |false=>exact r
  |true=>
   have:t'=t:=by simpa using ht
   subst this;simp only[af];obtain⟨v0,f2,hh,fU,_,_,_⟩:=h.S5 rt gL;obtain⟨h1,h2,h3,h4,h5⟩:=r;obtain⟨k1,k2⟩:=h5 rt t' rfl;have hv:v0=v:=(hh t' rfl).trans k2.symm;subst hv;exact⟨h1,aU _,Ji fU,λ_=>eP.rep (λb o ho=> .inr ho) fU,λr1 t1 hp=>by simp at hp;obtain⟨_,rfl⟩:=hp;exact⟨k1,k2⟩⟩
  exact r;exact r
 exact r
theorem dN.Lb (h:dN C g st a w hs):∀{vs:ie}{xs:au AC},bE (cQ C g st w) vs xs []->bE (cQ C g st w) vs (xs.map st.fresh) []
 |[],[],r=>r
 |_::_,_::_,r=>by
  obtain⟨f1,f2,he,r1,r2⟩:=r;have h1:f1=[]:=by have:=he.symm;simp at this;exact this.1
  have h2:f2=[]:=by have:=he.symm;simp at this;exact this.2
  subst h1;subst h2;exact⟨[],[],rfl,h.Xj r1,h.Lb r2⟩
 |[],_::_,r=>r.elim
 |_::_,[],r=>r.elim
theorem dN.fresh (h:dN C g st a w hs){v:Value}{x:AV}(r:fF (cQ C g st w) v x []):fF (cQ C g st w) v (x.fresh st) []:=by
 cases x with
 |val gg cs=>obtain⟨vs,hv,r⟩:=r;exact⟨vs,hv,h.Lb r⟩
 |xn ts=>exact r
end Go.Dn
