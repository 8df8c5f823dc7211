import Derived.Test.YthllnaiaikjelaaGreatDnPut
/- A box is made or written; an element of an owned slice is written. -/
namespace Go.Dn
open Go.RowKit
variable {C:Ctx} {g:Gh} {st:AS} {a:Act} {w:World} {hs:ar (Value×AV)}
variable {x0:AC} {fp:ec}
theorem lU {s:Nat}{b:au (ar AC)}:(st.eY s b).boxes=st.boxes.set s b:=by simp[AS.eY,fD]
theorem Yn {s:Nat}{cs:ar AC}{g':Gh}{w':World}(PI:g'.hdr=g.hdr)(hcA:∀k b o u,C.A k b o->w.cell? ⟨b,o,none⟩=some u->w'.cell? ⟨b,o,none⟩=some u)(ON:∀t,ic st t->g'.β t=g.β t)(PL:∀b o u,o<g.hw b->w.cell? ⟨b,o,none⟩=some u->o<g'.hw b/\w'.cell? ⟨b,o,none⟩=some u): (cO C g st w).Le (cO C g' (st.eY s (some cs)) w'):=by refine⟨rfl,λt ht=>⟨ht,by show g'.hdr t=g.hdr t;rw[PI]⟩,hcA,ba _,λt ht=>⟨?_,ON t ht⟩,λ_ b o u ho hu=>PL b o u ho hu⟩;obtain⟨oY,hc⟩:=ht;show∃azk,(st.eY s (some cs)).boxes[t]?=some (some azk);rw[lU];by_cases uH:s=t;subst uH;have iG:s<st.boxes.length:=(aJ.1 hc).1;exact⟨cs,by simp[iG]⟩;exact⟨oY,by rw[aZ uH];exact hc⟩
theorem dM.aeD (h:dM C g st a w hs)(s:Nat){cs:ar AC}{arr:Array Value}{T:TypeId}{fr:Nat×Nat}{w':World}{bnew:Nat}{hw':Nat->Nat}(hbn:(bnew=g.β s/\g.eo bnew=some (.box s))\/(w.heap.size<=bnew/\st.boxes[s]?=some none))(iw:Fr (λb=>dm (g.eo b)\/b=bnew) w w')(kG:w'.heap[bnew]?=some (.cells arr T fr))(uG:tk arr fr)(iG:bnew<w'.heap.size)(azD:hw' bnew=0)(Gz:∀b x,g.eo b=some x->¬dm (some x)->b≠bnew->hw' b=g.hw b)(PL:∀b o u,o<g.hw b->w.cell? ⟨b,o,none⟩=some u->o<hw' b/\w'.cell? ⟨b,o,none⟩=some u)(hr:bD ⟨hw',λt=>if t=s then bnew else g.β t,C.A,g.hdr,nm st,st.ep,ic st,w'⟩ arr.toList cs fp)(hn:fp.Nodup)(xe:bnew∉fp)(Hp:∀b∈fp,b<w'.heap.size/\(dm (g.eo b)\/g.eo b=some (.box s)\/w.heap.size<=b)): ∃g',g'.β s=bnew/\dM C g' (st.eY s (some cs)) a w' []:=by
 have hcA:∀k b o u,C.A k b o->w.cell? ⟨b,o,none⟩=some u->w'.cell? ⟨b,o,none⟩=some u:=by
  intro k b o u hA hu;have hb:b<w.heap.size:=World.block_lt_of_cell? w _ hu;have Pf:¬(dm (g.eo b)\/b=bnew):=by
   rintro(hh|rfl);cases hx:g.eo b with|none=>rw[hx]at hh;cases hh|some x=>exact h.RB hx k o hA
   rcases hbn with⟨_,h2⟩|h2;exact h.RB h2 k o hA;omega
  rw[World.cell?_of_block (a:=⟨b,o,none⟩) (iw.block b hb Pf)];exact hu
 have Jo:∀b x,g.eo b=some x->x≠ .box s->b≠bnew:=by rintro b x hx hxs rfl;rcases hbn with⟨_,h2⟩|h2;rw[hx]at h2;exact hxs (by simpa using h2);have:=(h.fV b x hx).1;omega
 have hkp:∀b x,g.eo b=some x->¬dm (some x)->x≠ .box s->w'.heap[b]?=w.heap[b]?:=λb x hx hh hxs=>
  iw.block b (h.fV b x hx).1 (by rintro(k|k);rw[hx]at k;exact hh k;exact Jo b x hx hxs k)
 let β':Nat->Nat:=λt=>if t=s then bnew else g.β t
 let ajl:Nat->au kb:=λb=>if b=bnew\/b∈fp then some (.box s) else if dm (g.eo b) then none else g.eo b
 let g':Gh:=⟨hw',β',ajl,g.hdr⟩
 have OI:Fr C.M C.w0 w':=h.frame.trans iw (λb hb hh=>by
  rcases hh with hh|rfl;cases hx:g.eo b with|none=>rw[hx]at hh;cases hh|some x=>rcases(h.fV b x hx).2 with h2|h2;omega;exact h2
  rcases hbn with⟨_,h2⟩|h2;rcases(h.fV b _ h2).2 with h3|h3;omega;exact h3;have:=h.frame.size;omega)
 have ON:∀t,ic st t->β' t=g.β t:=by rintro t ⟨oY,hc⟩;show(if t=s then bnew else g.β t)=g.β t;by_cases uH:t=s;subst uH;rcases hbn with⟨h2,_⟩|⟨_,h2⟩;simp[h2];rw[h2]at hc;cases hc;simp[uH]
 have hle:(cO C g st w).Le (cO C g' (st.eY s (some cs)) w'):=Yn rfl hcA ON PL;have ap5:(RC.mk hw' β' C.A g.hdr (nm st) st.ep (ic st) w').Le (cO C g' (st.eY s (some cs)) w'):=⟨rfl,λ_ ht=>⟨ht,rfl⟩,λ_ _ _ _ _ hu=>hu,ba _,λt ht=>⟨(hle.Qn t ht).1,rfl⟩,λ_ b o u ho hu=>⟨ho,hu⟩⟩
 refine⟨g',by show(if s=s then bnew else g.β s)=bnew;simp,h.step (λx=>¬dm (some x)/\x≠ .box s) hle h.defers h.size ?_ OI ?_ ?_ ?_ ?_ ?_ (.inl ⟨⟨by simp[fU],by simp⟩,rfl⟩)⟩;show(st.eY s (some cs)).boxes.length=st.slots.length;rw[lU,aL];exact h.bsize;intro b x hx;have E2:(if b=bnew\/b∈fp then some (kb.box s) else if dm (g.eo b) then none else g.eo b)=some x:=hx;by_cases hm:b=bnew\/b∈fp;rcases hm with rfl|hm;refine⟨iG,?_⟩;rcases hbn with⟨_,h2⟩|h2;exact(h.fV b _ h2).2;exact .inl (aF h.frame.size h2.1);refine⟨(Hp b hm).1,?_⟩;rcases(Hp b hm).2 with h2|h2|h2;cases hy:g.eo b with|none=>rw[hy]at h2;cases h2|some y=>exact(h.fV b y hy).2
 exact(h.fV b _ h2).2;exact .inl (aF h.frame.size h2);rw[aK hm]at E2;split at E2;cases E2;have hl:=h.fV b x E2;have hz:=iw.size;exact⟨by omega,hl.2⟩;intro b x hk hx;have hb1:=Jo b x hx hk.2;refine⟨?_,hkp b x hx hk.1 hk.2,Gz b x hx hk.1 hb1⟩;show(if b=bnew\/b∈fp then some (kb.box s) else if dm (g.eo b) then none else g.eo b)=some x;have ZX:¬(b=bnew\/b∈fp):=by rintro(hm|hm);exact hb1 hm;rcases(Hp b hm).2 with h2|h2|h2;rw[hx]at h2;exact hk.1 h2;rw[hx]at h2;exact hk.2 (by simpa using h2);have:=(h.fV b x hx).1;omega
 rw[aK ZX,aK (by rw[hx];exact hk.1),hx];intro i av hi;exact .inl ⟨⟨by simp[fU],by simp⟩,hi,rfl⟩;intro t oY hb;have ib:(st.boxes.set s (some cs))[t]?=some (some oY):=by rw[<-lU];exact hb
 by_cases uH:t=s;subst uH;rw[bt]at ib;simp only[cd]at ib;split at ib;simp at ib;subst ib;have aou:β' t=bnew:=by show(if t=t then bnew else g.β t)=bnew;simp
 refine .inr ⟨arr,T,fr,fp,?_,uG,hr.mono ap5 (λb _=>⟨rfl,rfl⟩),hn,?_,?_,?_,?_⟩;show w'.heap[β' t]?=_;rw[aou];exact kG;show β' t∉fp;rw[aou];exact xe;intro b hb;show(if b=bnew\/b∈fp then _ else _)=_;rw[aM (.inr hb)];show(if β' t=bnew\/β' t∈fp then _ else _)=_;rw[aM (.inl aou)];show hw' (β' t)=0;rw[aou];exact azD;cases ib;rw[aZ (cW uH)]at ib;exact .inl ⟨⟨by simp[fU],by simpa using uH⟩,ib,by show(if t=s then bnew else g.β t)=_;simp[uH]⟩;intro k u bv hk;simp at hk
def lS.owner:lS->kb
 | .slot s _=> .slot s
 | .box s _=> .box s
 | .io _=> .io
theorem bD.apC {c:RC}{vs:iU}{cs:ar AC}(hr:bD c vs cs fp){j:Nat}{x:AC}(hx:cs[j]?=some x): ∃v f1 f2 f3,vs[j]?=some v/\fp=f1++f2++f3/\iA c v x f2/\ ∀(c':RC),c.Le c'->∀x' f2',iA c' v x' f2'->(∀b∈f1++f3,c'.w.heap[b]?=c.w.heap[b]?/\c'.hw b=c.hw b)-> bD c' vs (cs.set j x') (f1++f2'++f3):=by
 have hj:j<cs.length:=(aJ.1 hx).1;obtain⟨f1,fr,rfl,r1,r2⟩:=hr.split j;have hlen:=hr.length;have hjv:j<vs.length:=by omega
 have ecs:cs.drop j=x::cs.drop (j+1):=by rw[cf hj];congr 1;rw[al hj]at hx;simpa using hx
 have evs:vs.drop j=vs[j]::vs.drop (j+1):=cf hjv;rw[ecs,evs]at r2;obtain⟨f2,f3,rfl,r2,r3⟩:=r2;refine⟨vs[j],f1,f2,f3,al hjv,by simp,r2,λc' hle x' f2' E2 hb=>?_⟩;have e1:vs=vs.take j++(vs[j]::vs.drop (j+1)):=by rw[<-evs,cK]
 have e2:cs.set j x'=cs.take j++(x'::cs.drop (j+1)):=by rw[List.set_eq_take_append_cons_drop,aM hj]
 rw[e1,e2,aW];refine bD.append (r1.mono hle (λb ib=>hb b (br _ ib))) ⟨f2',f3,rfl,E2,?_⟩;exact r3.mono hle (λb ib=>hb b (bh _ ib))
def Gh.wrote (g:Gh)(o:kb)(fp:ec)(hw':Nat->Nat):Gh:=
 ⟨hw',g.β,λb=>if b∈fp then some o else if dm (g.eo b) then none else g.eo b,g.hdr⟩
theorem dM.RY (h:dM C g st a w hs)(o:kb)(Sy:¬dm (some o)){vs:iU}{cs:ar AC}{j:Nat}(dY:bD (cO C g st w) vs cs fp)(hn:fp.Nodup)(hl:∀b∈fp,g.eo b=some o)(hx:cs[j]?=some x0): ∃v f1 f2 f3,vs[j]?=some v/\fp=f1++f2++f3/\iA (cO C g st w) v x0 f2/\f2.Nodup/\(∀b∈f2,g.eo b=some o)/\ ∀(w':World)(hw':Nat->Nat)(st':AS)(x1:AC)(kS:ec),st'.ep=st.ep+1->st'.iss=st.iss->(∀s,ic st s->ic st' s)-> (∀c',(cO C g st w).Le c'->c'.w=w'->c'.hw=hw'->iA c' v x1 kS)->kS.Nodup->(∀b∈kS,b<w'.heap.size/\(b∈f2\/dm (g.eo b)))-> Fr (λb=>dm (g.eo b)\/b∈f2) w w'->(∀b x,g.eo b=some x->¬dm (some x)->b∉f2->hw' b=g.hw b)-> (cO C g st w).Le (cO C (g.wrote o (f1++kS++f3) hw') st' w')/\ bD (cO C (g.wrote o (f1++kS++f3) hw') st' w') vs (cs.set j x1) (f1++kS++f3)/\(f1++kS++f3).Nodup/\ (∀b∈f1++kS++f3,(g.wrote o (f1++kS++f3) hw').eo b=some o)/\ (∀b x,¬dm (some x)->x≠o->g.eo b=some x->(g.wrote o (f1++kS++f3) hw').eo b=some x/\w'.heap[b]?=w.heap[b]?/\hw' b=g.hw b)/\ (∀b,g.eo b=some o->b∉fp->(g.wrote o (f1++kS++f3) hw').eo b=some o/\w'.heap[b]?=w.heap[b]?/\hw' b=g.hw b)/\ Fr C.M C.w0 w'/\(∀b x,(g.wrote o (f1++kS++f3) hw').eo b=some x->b<w'.heap.size/\(C.w0.heap.size<=b\/C.M b)):=by
 obtain⟨v,f1,f2,f3,hv,rfl,WV,Ih⟩:=dY.apC hx;have Ff:=hn;rw[aW]at Ff;have n1:=aG.1 Ff;have n2:=aG.1 n1.2.1;have EG:∀b∈f1++f3,b∉f2:=by intro b hb h2;rcases aA.1 hb with hb|hb;exact n1.2.2 b hb b (br _ h2) rfl;exact n2.2.2 b h2 b hb rfl
 refine⟨v,f1,f2,f3,hv,rfl,WV,n2.1,λb hb=>hl b (by simp[hb]),?_⟩;intro w' hw' st' x1 kS Ck Lp uF fA Hq qV iw Gz;have hcA:∀k b o u,C.A k b o->w.cell? ⟨b,o,none⟩=some u->w'.cell? ⟨b,o,none⟩=some u:=by
  intro k b o u hA hu;have hb:b<w.heap.size:=World.block_lt_of_cell? w _ hu;have Pf:¬(dm (g.eo b)\/b∈f2):=by
   rintro(hh|hm);cases hx:g.eo b with|none=>rw[hx]at hh;cases hh|some x=>exact h.RB hx k o hA
   exact h.RB (hl b (by simp[hm])) k o hA
  rw[World.cell?_of_block (a:=⟨b,o,none⟩) (iw.block b hb Pf)];exact hu
 have hle:(cO C g st w).Le (cO C (g.wrote o (f1++kS++f3) hw') st' w'):=⟨rfl,λt ht=>⟨by show nm st' t;have ht':nm st t:=ht;simpa[nm,Lp]using ht',rfl⟩,hcA,by show st.ep<=st'.ep;omega,λs hs=>⟨uF s hs,rfl⟩,λhe=>absurd he (by show st'.ep≠st.ep;omega)⟩
 have nO:∀b x,¬dm (some x)->g.eo b=some x->b∉f2->w'.heap[b]?=w.heap[b]?/\hw' b=g.hw b:=by intro b x hh hb hm;exact⟨iw.block b (h.fV b _ hb).1 (by rintro(k|k);rw[hb]at k;exact hh k;exact hm k),Gz b _ hb hh hm⟩
 have hd1:∀b∈f1++f3,b∉kS:=by intro b hb hm;rcases(qV b hm).2 with h2|h2;exact EG b hb h2;have X1:g.eo b=some o:=hl b (by rcases aA.1 hb with hb|hb<;>simp[hb]);rw[X1]at h2;exact Sy h2
 refine⟨hle,?_,?_,?_,?_,?_,?_,?_⟩;refine Ih _ hle _ kS (fA _ hle rfl rfl) (λb hb=>?_);exact nO b o Sy (hl b (by rcases aA.1 hb with hb|hb<;>simp[hb])) (EG b hb);rw[aW];refine aG.2 ⟨n1.1,aG.2 ⟨Hq,n2.2.1,?_⟩,?_⟩;rintro b hb c hc rfl;exact hd1 b (by simp[hc]) hb;rintro b hb c hc rfl;rcases aA.1 hc with hc|hc;exact hd1 b (by simp[hb]) hc;exact n1.2.2 b hb b (bh _ hc) rfl;intro b hb;show(if b∈f1++kS++f3 then _ else _)=_;rw[aM hb];intro b x hh hxo hb;have hm2:b∉f2:=λhm=>hxo (by have:=hl b (by simp[hm]);rw[hb]at this;simpa using this);refine⟨?_,nO b x hh hb hm2⟩;show(if b∈f1++kS++f3 then _ else if dm (g.eo b) then none else g.eo b)=_;have ZX:b∉f1++kS++f3:=by intro hm;simp only[aA]at hm;rcases hm with(hm|hm)|hm;exact hxo (by have:=hl b (by simp[hm]);rw[hb]at this;simpa using this);rcases(qV b hm).2 with h2|h2;exact hm2 h2;rw[hb]at h2;exact hh h2;exact hxo (by have:=hl b (by simp[hm]);rw[hb]at this;simpa using this)
 rw[aK ZX,aK (by rw[hb];exact hh),hb];intro b hb hm;have hm2:b∉f2:=λk=>hm (by simp[k]);refine⟨?_,nO b o Sy hb hm2⟩;show(if b∈f1++kS++f3 then _ else if dm (g.eo b) then none else g.eo b)=_;rw[aK (c:=dm (g.eo b)) (by rw[hb];exact Sy),hb];split<;>rfl;refine h.frame.trans iw (λb hb hh=>?_);rcases hh with hh|hm;cases hx:g.eo b with|none=>rw[hx]at hh;cases hh|some x=>rcases(h.fV b x hx).2 with h2|h2;omega;exact h2
 rcases(h.fV b o (hl b (by simp[hm]))).2 with h2|h2;omega;exact h2;intro b x hx;have E2:(if b∈f1++kS++f3 then some o else if dm (g.eo b) then none else g.eo b)=some x:=hx;have hz:=iw.size;have old:∀y,g.eo b=some y->b<w'.heap.size/\(C.w0.heap.size<=b\/C.M b):=λy hy=>⟨iD (h.fV b y hy).1 hz,(h.fV b y hy).2⟩
 split at E2;rename_i hm;simp only[aA]at hm;rcases hm with(hm|hm)|hm;exact old o (hl b (by simp[hm]));rcases(qV b hm).2 with h2|h2;exact old o (hl b (by simp[h2]));cases hy:g.eo b with|none=>rw[hy]at h2;cases h2|some y=>exact old y hy
 exact old o (hl b (by simp[hm]));split at E2;cases E2;exact old x E2
theorem dM.am6 (h:dM C g st a w hs)(s j:Nat)(Jo:x0≠ .bot)(iM:st.fi (.slot s j)=some x0): ∃v f2,iA (cO C g st w) v x0 f2/\f2.Nodup/\(∀b∈f2,g.eo b=some (.slot s))/\ ∀(w':World)(hw':Nat->Nat)(x1:AC)(kS:ec),(∀c',(cO C g st w).Le c'->c'.w=w'->c'.hw=hw'->iA c' v x1 kS)->kS.Nodup->(∀b∈kS,b<w'.heap.size/\(b∈f2\/dm (g.eo b)))-> Fr (λb=>dm (g.eo b)\/b∈f2) w w'->(∀b x,g.eo b=some x->¬dm (some x)->b∉f2->hw' b=g.hw b)-> ∃g',dM C g' {st.fC (.slot s j) x1 with ep:=st.ep+1} a w' []:=by
 have Cs:s<st.slots.length:=by
  rcases bS s st.slots.length with iG|Fe;exact iG;have:st.get s=.bot:=by simp[AS.get,dV,bJ Fe]
  rw[AS.fi,this]at iM;cases j with|zero=>simp[nth]at iM;exact absurd iM.symm Jo|succ j=>simp[nth]at iM
 have hsl:st.slots[s]?=some (st.get s):=by rw[get_eq (al Cs)];exact al Cs
 obtain⟨fp,hr,hn,hl⟩:=h.slots s _ hsl;cases hg:st.get s with
 |zU ts=>rw[AS.fi,hg]at iM;cases iM
 |val gg cs=>
  have hgx:cs[j]?=some x0:=by rw[AS.fi,hg]at iM;simpa[dV]using iM
  rw[hg]at hr;obtain⟨vs,eM,hr⟩:=hr;obtain⟨v,f1,f2,f3,hv,rfl,fA,C1,EH,ng⟩:=h.RY (.slot s) (by simp[fU]) hr hn hl hgx;refine⟨v,f2,fA,C1,EH,?_⟩;intro w' hw' x1 kS IU Hq qV iw Gz;let st':AS:={st.fC (.slot s j) x1 with ep:=st.ep+1}
  have lI:st'={st with slots:=st.slots.set s (.val gg (cs.set j x1)),ep:=st.ep+1}:=by show({st.fC (.slot s j) x1 with ep:=st.ep+1}:AS)=_;simp only[AS.fC,hg,AS.put,fD]
  obtain⟨hle,dY,OL,hll,hk1,hk2,OI,LZ⟩:=ng w' hw' st' x1 kS rfl (by rw[lI]) (λs hs=>by rw[lI];exact hs) IU Hq qV iw Gz;refine⟨_,h.step (λx=>¬dm (some x)/\x≠ .slot s) hle h.defers ?_ ?_ OI LZ (λb x hk hx=>hk1 b x hk.1 hk.2 hx) ?_ ?_ (λk u bv hk=>by simp at hk) (.inl ⟨⟨by simp[fU],by simp⟩,by show st'.io=st.io;rw[lI]⟩)⟩;show _=st'.slots.length;rw[lI];simpa using h.size;show st'.boxes.length=st'.slots.length;rw[lI];simpa using h.bsize;intro i av hi;have uu:(st.slots.set s (.val gg (cs.set j x1)))[i]?=some av:=by have:st'.slots[i]?=some av:=hi;rw[lI]at this;exact this
  by_cases his:i=s;subst his;rw[bt]at uu;simp only[cd,Cs]at uu;simp at uu;subst uu;exact .inr ⟨_,⟨vs,eM,dY⟩,OL,hll⟩;rw[aZ (cW his)]at uu;exact .inl ⟨⟨by simp[fU],by simpa using his⟩,uu,rfl⟩;intro t oY hb;have ib:st.boxes[t]?=some (some oY):=by have:st'.boxes[t]?=some (some oY):=hb;rw[lI]at this;exact this
  exact .inl ⟨⟨by simp[fU],by simp⟩,ib,rfl⟩
theorem dM.aoR (h:dM C g st a w hs)(s j:Nat)(iM:st.fi (.box s j)=some x0): ∃v f2,iA (cO C g st w) v x0 f2/\f2.Nodup/\(∀b∈f2,g.eo b=some (.box s))/\ ∀(w':World)(hw':Nat->Nat)(x1:AC)(kS:ec),(∀c',(cO C g st w).Le c'->c'.w=w'->c'.hw=hw'->iA c' v x1 kS)->kS.Nodup->(∀b∈kS,b<w'.heap.size/\(b∈f2\/dm (g.eo b)))-> Fr (λb=>dm (g.eo b)\/b∈f2) w w'->(∀b x,g.eo b=some x->¬dm (some x)->b∉f2->hw' b=g.hw b)-> ∃g',dM C g' {st.fC (.box s j) x1 with ep:=st.ep+1} a w' []:=by
 have kR:∃cs,st.boxes[s]?=some (some cs)/\cs[j]?=some x0:=by rw[AS.fi,dV]at iM;cases hb:st.boxes[s]? with|none=>simp[hb]at iM|some o=>cases o with|none=>simp[hb]at iM|some cs=>exact⟨cs,rfl,by simpa[hb,dV]using iM⟩
 obtain⟨cs,kR,hgx⟩:=kR;have Cs:s<st.boxes.length:=(aJ.1 kR).1;obtain⟨arr,T,fr,fp,kG,uG,hr,hn,xe,hl,ND,NU⟩:=h.boxes s cs kR;obtain⟨v,f1,f2,f3,hv,rfl,fA,C1,EH,ng⟩:=h.RY (.box s) (by simp[fU]) hr hn hl hgx;refine⟨v,f2,fA,C1,EH,?_⟩;intro w' hw' x1 kS IU Hq qV iw Gz;let st':AS:={st.fC (.box s j) x1 with ep:=st.ep+1}
 have lI:st'={st with boxes:=st.boxes.set s (some (cs.set j x1)),ep:=st.ep+1}:=by show({st.fC (.box s j) x1 with ep:=st.ep+1}:AS)=_;simp only[AS.fC,dV,kR,fT,AS.eY,fD]
 obtain⟨hle,dY,OL,hll,hk1,hk2,OI,LZ⟩:=ng w' hw' st' x1 kS rfl (by rw[lI]) (λt ht=>by rw[lI];obtain⟨c0,hc0⟩:=ht;by_cases uH:s=t;subst uH;exact⟨cs.set j x1,by simp[Cs]⟩;exact⟨c0,by rw[aZ uH];exact hc0⟩) IU Hq qV iw Gz;have ON:=hk2 (g.β s) ND xe;refine⟨_,h.step (λx=>¬dm (some x)/\x≠ .box s) hle h.defers ?_ ?_ OI LZ (λb x hk hx=>hk1 b x hk.1 hk.2 hx) ?_ ?_ (λk u bv hk=>by simp at hk) (.inl ⟨⟨by simp[fU],by simp⟩,by show st'.io=st.io;rw[lI]⟩)⟩;show _=st'.slots.length;rw[lI];exact h.size;show st'.boxes.length=st'.slots.length;rw[lI];simpa using h.bsize;intro i av hi;have uu:st.slots[i]?=some av:=by have:st'.slots[i]?=some av:=hi;rw[lI]at this;exact this
 exact .inl ⟨⟨by simp[fU],by simp⟩,uu,rfl⟩;intro t oY hb;have ib:(st.boxes.set s (some (cs.set j x1)))[t]?=some (some oY):=by have:st'.boxes[t]?=some (some oY):=hb;rw[lI]at this;exact this
 by_cases uH:t=s;subst uH;rw[bt]at ib;simp only[cd,Cs]at ib;simp at ib;subst ib;have NF:g.β t∉f1++kS++f3:=by intro hm;simp only[aA]at hm;rcases hm with(hm|hm)|hm;exact xe (by simp[hm]);rcases(qV _ hm).2 with h2|h2;exact xe (by simp[h2]);rw[ND]at h2;cases h2;exact xe (by simp[hm])
 exact .inr ⟨arr,T,fr,_,ON.2.1.trans kG,uG,dY,OL,NF,hll,ON.1,ON.2.2.trans NU⟩;rw[aZ (cW uH)]at ib;exact .inl ⟨⟨by simp[fU],by simpa using uH⟩,ib,rfl⟩
theorem dM.aqz (h:dM C g st a w hs)(j:Nat)(iM:st.fi (.io j)=some x0): ∃v f2,iA (cO C g st w) v x0 f2/\f2.Nodup/\(∀b∈f2,g.eo b=some .io)/\ ∀(w':World)(hw':Nat->Nat)(x1:AC)(kS:ec),(∀c',(cO C g st w).Le c'->c'.w=w'->c'.hw=hw'->iA c' v x1 kS)->kS.Nodup->(∀b∈kS,b<w'.heap.size/\(b∈f2\/dm (g.eo b)))-> Fr (λb=>dm (g.eo b)\/b∈f2) w w'->(∀b x,g.eo b=some x->¬dm (some x)->b∉f2->hw' b=g.hw b)-> ∃g',dM C g' {st.fC (.io j) x1 with ep:=st.ep+1} a w' []:=by
 have hgx:st.io[j]?=some x0:=by rw[AS.fi,dV]at iM;exact iM
 obtain⟨fp,hr,hn,hl⟩:=h.io;obtain⟨v,f1,f2,f3,hv,rfl,fA,C1,EH,ng⟩:=h.RY .io (by simp[fU]) hr hn hl hgx;refine⟨v,f2,fA,C1,EH,?_⟩;intro w' hw' x1 kS IU Hq qV iw Gz;let st':AS:={st.fC (.io j) x1 with ep:=st.ep+1}
 have lI:st'={st with io:=st.io.set j x1,ep:=st.ep+1}:=by show({st.fC (.io j) x1 with ep:=st.ep+1}:AS)=_;simp only[AS.fC,fD]
 obtain⟨hle,dY,OL,hll,hk1,hk2,OI,LZ⟩:=ng w' hw' st' x1 kS rfl (by rw[lI]) (λs hs=>by rw[lI];exact hs) IU Hq qV iw Gz
 refine⟨_,h.step (λx=>¬dm (some x)/\x≠ .io) hle h.defers ?_ ?_ OI LZ (λb x hk hx=>hk1 b x hk.1 hk.2 hx) ?_ ?_ (λk u bv hk=>by simp at hk) (.inr ⟨_,by
  have:st'.io=st.io.set j x1:=by rw[lI]
  show bD _ _ st'.io _;rw[this];exact dY,OL,hll⟩)⟩
 show _=st'.slots.length;rw[lI];exact h.size;show st'.boxes.length=st'.slots.length;rw[lI];exact h.bsize;intro i av hi;have uu:st.slots[i]?=some av:=by have:st'.slots[i]?=some av:=hi;rw[lI]at this;exact this
 exact .inl ⟨⟨by simp[fU],by simp⟩,uu,rfl⟩;intro t oY hb;have ib:st.boxes[t]?=some (some oY):=by have:st'.boxes[t]?=some (some oY):=hb;rw[lI]at this;exact this
 exact .inl ⟨⟨by simp[fU],by simp⟩,ib,rfl⟩
theorem dM.aaz (h:dM C g st a w hs)(r:lS)(Jo:x0≠ .bot)(iM:st.fi r=some x0): ∃v f2,iA (cO C g st w) v x0 f2/\f2.Nodup/\(∀b∈f2,g.eo b=some r.owner)/\ ∀(w':World)(hw':Nat->Nat)(x1:AC)(kS:ec),(∀c',(cO C g st w).Le c'->c'.w=w'->c'.hw=hw'->iA c' v x1 kS)->kS.Nodup->(∀b∈kS,b<w'.heap.size/\(b∈f2\/dm (g.eo b)))-> Fr (λb=>dm (g.eo b)\/b∈f2) w w'->(∀b x,g.eo b=some x->¬dm (some x)->b∉f2->hw' b=g.hw b)-> ∃g',dM C g' {st.fC r x1 with ep:=st.ep+1} a w' []:=by cases r with|slot s j=>exact h.am6 s j Jo iM|box s j=>exact h.aoR s j iM|io j=>exact h.aqz j iM
theorem dM.aaA (h:dM C g st a w hs)(r:lS){tag:au Nat}{e:CT}{xs:ar e.D}(iM:st.fi r=some (.sl (.own tag) e xs)): ∃v f2,(∀t,tag=some t->v=g.hdr t)/\eS g.hw w (.sl e) [v] xs f2/\f2.Nodup/\(∀b∈f2,g.eo b=some r.owner)/\ ∀(w':World)(hw':Nat->Nat)(WI:ar e.D)(kS:ec),eS hw' w' (.sl e) [v] WI kS->kS.Nodup->(∀b∈kS,b<w'.heap.size/\(b∈f2\/dm (g.eo b)))-> Fr (λb=>dm (g.eo b)\/b∈f2) w w'->(∀b x,g.eo b=some x->¬dm (some x)->b∉f2->hw' b=g.hw b)-> ∃g',dM C g' {st.fC r (.sl (.own tag) e WI)with ep:=st.ep+1} a w' []:=by obtain⟨v,f2,dY,C1,EH,ng⟩:=h.aaz r (by simp) iM;refine⟨v,f2,λt ht=>(dY.2 t ht).2,dY.1,C1,EH,λw' hw' WI kS fA Hq qV iw Gz=>ng w' hw' (.sl (.own tag) e WI) kS (λc' hle Tj Gv=>⟨?_,λt ht=>?_⟩) Hq qV iw Gz⟩;rw[Tj,Gv];exact fA;have h1:=dY.2 t ht;exact⟨(hle.hdr t h1.1).1,by rw[(hle.hdr t h1.1).2];exact h1.2⟩
theorem dM.am7 (h:dM C g st a w [])(r:lS)(Jo:x0≠ .bot)(iM:st.fi r=some x0): ∃v f2,iA (cO C g st w) v x0 f2/\f2.Nodup/\(∀b∈f2,g.eo b=some r.owner)/\ ∀(x1:AC)(kS fh:ec)(u:Value)(av:AV),(∀c',(cO C g st w).Le c'->c'.w=w->c'.hw=g.hw->c'.ep=st.ep->iA c' v x1 kS)->kS.Nodup->fh.Nodup->(∀b∈kS,b∈f2/\b∉fh)->(∀b∈fh,b∈f2)-> gi (cO C g st w) u av fh->∃g',dM C g' (st.fC r x1) a w [(u,av)]:=by
 have core:∀(o:kb){vs:iU}{cs:ar AC}{fp:ec}{j:Nat},bD (cO C g st w) vs cs fp->fp.Nodup->(∀b∈fp,g.eo b=some o)->cs[j]?=some x0->
  ∃v f2,iA (cO C g st w) v x0 f2/\f2.Nodup/\(∀b∈f2,g.eo b=some o/\b∈fp)/\
   ∀(st':AS)(x1:AC)(kS fh:ec)(u:Value)(av:AV),st'.ep=st.ep->st'.iss=st.iss->(∀s,ic st s->ic st' s)->(∀c',(cO C g st w).Le c'->c'.w=w->c'.hw=g.hw->c'.ep=st.ep->iA c' v x1 kS)->kS.Nodup->fh.Nodup->(∀b∈kS,b∈f2/\b∉fh)->(∀b∈fh,b∈f2)->gi (cO C g st w) u av fh->
    (cO C g st w).Le (cO C {g with eo:=λb=>if b∈fh then some (.hand 0) else g.eo b} st' w)/\
    ∃jg,bD (cO C {g with eo:=λb=>if b∈fh then some (.hand 0) else g.eo b} st' w) vs (cs.set j x1) jg/\jg.Nodup/\(∀b∈jg,b∉fh/\b∈fp)/\
    Q5 C {g with eo:=λb=>if b∈fh then some (.hand 0) else g.eo b} st' w 0 u av:=by
  intro o vs cs fp j dY hn hl hx
  obtain⟨v,f1,f2,f3,hv,rfl,WV,Ih⟩:=dY.apC hx
  have Ff:=hn
  rw[aW]at Ff
  have n1:=aG.1 Ff
  have n2:=aG.1 n1.2.1
  refine⟨v,f2,WV,n2.1,λb hb=>⟨hl b (by simp[hb]),by simp[hb]⟩,?_⟩
  intro st' x1 kS fh u av Ck Lp uF hx1 Hq Sy qV WS hu
  have hle:(cO C g st w).Le (cO C {g with eo:=λb=>if b∈fh then some (.hand 0) else g.eo b} st' w):=
   ⟨rfl,λt ht=>⟨by show nm st' t;have ht':nm st t:=ht;simpa[nm,Lp]using ht',rfl⟩,λ_ _ _ _ _ hu=>hu,by show st.ep<=st'.ep;omega,λs hs=>⟨uF s hs,rfl⟩,λ_ b o u ho hu=>⟨ho,hu⟩⟩
  have EG:∀b∈f1++f3,b∉f2:=by intro b hb h2;rcases aA.1 hb with hb|hb;exact n1.2.2 b hb b (br _ h2) rfl;exact n2.2.2 b h2 b hb rfl
  refine⟨hle,f1++kS++f3,Ih _ hle _ kS (hx1 _ hle rfl rfl Ck) (λ_ _=>⟨rfl,rfl⟩),?_,?_,fh,hu.mono hle (λ_ _=>⟨rfl,rfl⟩),Sy,λb hb=>?_⟩
  ·rw[aW]
   refine aG.2 ⟨n1.1,aG.2 ⟨Hq,n2.2.1,?_⟩,?_⟩
   ·rintro b hb c hc rfl;exact EG b (by simp[hc]) (qV b hb).1
   ·rintro b hb c hc rfl
    rcases aA.1 hc with hc|hc
    ·exact EG b (by simp[hb]) (qV b hc).1
    ·exact n1.2.2 b hb b (bh _ hc) rfl
  ·intro b hb
   simp only[aA]at hb
   rcases hb with(hb|hb)|hb
   ·exact⟨λhm=>EG b (by simp[hb]) (WS b hm),by simp[hb]⟩
   ·exact⟨(qV b hb).2,by simp[(qV b hb).1]⟩
   ·exact⟨λhm=>EG b (by simp[hb]) (WS b hm),by simp[hb]⟩
  ·show(if b∈fh then _ else _)=_
   rw[aM hb]
 have Vr:∀(fh:ec),∀b x,(if b∈fh then some (kb.hand 0) else g.eo b)=some x->(b∈fh->∃y,g.eo b=some y)->b<w.heap.size/\(C.w0.heap.size<=b\/C.M b):=by intro fh b x hx hy;by_cases hm:b∈fh;obtain⟨y,hy⟩:=hy hm;exact h.fV b y hy;rw[aK hm]at hx;exact h.fV b x hx
 have afJ:∀(fh:ec)(o:kb),(∀b∈fh,g.eo b=some o)->∀b x,x≠o->g.eo b=some x->(if b∈fh then some (kb.hand 0) else g.eo b)=some x:=by intro fh o WS b x hxo hb;rw[aK (λhm=>hxo (by have:=WS b hm;rw[hb]at this;simpa using this))];exact hb
 cases r with
 |slot s j=>
  have Cs:s<st.slots.length:=by
   rcases bS s st.slots.length with iG|Fe;exact iG;have:st.get s=.bot:=by simp[AS.get,dV,bJ Fe]
   rw[AS.fi,this]at iM;cases j with|zero=>simp[nth]at iM;exact absurd iM.symm Jo|succ j=>simp[nth]at iM
  have hsl:st.slots[s]?=some (st.get s):=by rw[get_eq (al Cs)];exact al Cs
  obtain⟨fp,hr,hn,hl⟩:=h.slots s _ hsl;cases hg:st.get s with
  |zU ts=>rw[AS.fi,hg]at iM;cases iM
  |val gg cs=>
   have hgx:cs[j]?=some x0:=by rw[AS.fi,hg]at iM;simpa[dV]using iM
   rw[hg]at hr;obtain⟨vs,eM,hr⟩:=hr;have nh:∀x1,st.fC (.slot s j) x1={st with slots:=st.slots.set s (.val gg (cs.set j x1))}:=λx1=>by simp only[AS.fC,hg,AS.put,fD]
   obtain⟨v,f2,X3,C1,EH,ng⟩:=core (.slot s) hr hn hl hgx;refine⟨v,f2,X3,C1,λb hb=>(EH b hb).1,?_⟩;intro x1 kS fh u av hx1 Hq Sy qV WS hu;obtain⟨hle,jg,dY,OL,JJ,LX⟩:=ng (st.fC (.slot s j) x1) x1 kS fh u av (by rw[nh]) (by rw[nh]) (λ_ q=>by rw[nh];exact q) hx1 Hq Sy qV WS hu;have hfo:∀b∈fh,g.eo b=some (.slot s):=λb hb=>(EH b (WS b hb)).1;refine⟨_,h.step (λx=>x≠ .slot s) hle h.defers ?_ ?_ h.frame (λb x hx=>Vr fh b x hx (λhm=>⟨_,hfo b hm⟩)) (λb x hk hb=>⟨afJ fh _ hfo b x hk hb,rfl,rfl⟩) ?_ ?_ ?_ (.inl ⟨by simp,by rw[nh]⟩)⟩;rw[nh];simpa using h.size;rw[nh];simpa using h.bsize;intro i bv hi;rw[nh]at hi;have uu:(st.slots.set s (.val gg (cs.set j x1)))[i]?=some bv:=hi;by_cases his:i=s;subst his;rw[bt]at uu;simp only[cd,Cs]at uu;simp at uu;subst uu;refine .inr ⟨jg,⟨vs,eM,dY⟩,OL,λb hb=>?_⟩;show(if b∈fh then _ else _)=_;rw[aK (JJ b hb).1];exact hl b (JJ b hb).2;rw[aZ (cW his)]at uu;exact .inl ⟨by simpa using his,uu,rfl⟩;intro t oY hb;rw[nh]at hb;exact .inl ⟨by simp,hb,rfl⟩;intro k u' bv hk;cases k with
   |zero=>simp only[cL,bf,Prod.mk.injEq]at hk;obtain⟨rfl,rfl⟩:=hk;exact .inr LX
   |succ k=>simp at hk
 |box s j=>
  have kR:∃cs,st.boxes[s]?=some (some cs)/\cs[j]?=some x0:=by rw[AS.fi,dV]at iM;cases hb:st.boxes[s]? with|none=>simp[hb]at iM|some o=>cases o with|none=>simp[hb]at iM|some cs=>exact⟨cs,rfl,by simpa[hb,dV]using iM⟩
  obtain⟨cs,kR,hgx⟩:=kR;have Cs:s<st.boxes.length:=(aJ.1 kR).1;obtain⟨arr,T,fr,fp,kG,uG,hr,hn,xe,hl,ND,NU⟩:=h.boxes s cs kR;have nh:∀x1,st.fC (.box s j) x1={st with boxes:=st.boxes.set s (some (cs.set j x1))}:=λx1=>by simp only[AS.fC,dV,kR,fT,AS.eY,fD]
  obtain⟨v,f2,X3,C1,EH,ng⟩:=core (.box s) hr hn hl hgx;refine⟨v,f2,X3,C1,λb hb=>(EH b hb).1,?_⟩;intro x1 kS fh u av hx1 Hq Sy qV WS hu;obtain⟨hle,jg,dY,OL,JJ,LX⟩:=ng (st.fC (.box s j) x1) x1 kS fh u av (by rw[nh]) (by rw[nh]) (λt ht=>by rw[nh];obtain⟨c0,hc0⟩:=ht;by_cases uH:s=t;subst uH;exact⟨cs.set j x1,by simp[Cs]⟩;exact⟨c0,by rw[aZ uH];exact hc0⟩) hx1 Hq Sy qV WS hu;have hfo:∀b∈fh,g.eo b=some (.box s):=λb hb=>(EH b (WS b hb)).1;refine⟨_,h.step (λx=>x≠ .box s) hle h.defers ?_ ?_ h.frame (λb x hx=>Vr fh b x hx (λhm=>⟨_,hfo b hm⟩)) (λb x hk hb=>⟨afJ fh _ hfo b x hk hb,rfl,rfl⟩) ?_ ?_ ?_ (.inl ⟨by simp,by rw[nh]⟩)⟩;rw[nh];exact h.size;rw[nh];simpa using h.bsize;intro i bv hi;rw[nh]at hi;exact .inl ⟨by simp,hi,rfl⟩;intro t oY hb;rw[nh]at hb;have ib:(st.boxes.set s (some (cs.set j x1)))[t]?=some (some oY):=hb;by_cases uH:t=s;subst uH;rw[bt]at ib;simp only[cd,Cs]at ib;simp at ib;subst ib;have ON:g.β t∉fh:=λhm=>xe (EH _ (WS _ hm)).2;refine .inr ⟨arr,T,fr,jg,kG,uG,dY,OL,λhm=>xe (JJ _ hm).2,λb hb=>?_,?_,NU⟩;show(if b∈fh then _ else _)=_;rw[aK (JJ b hb).1];exact hl b (JJ b hb).2;show(if g.β t∈fh then _ else _)=_;rw[aK ON];exact ND;rw[aZ (cW uH)]at ib;exact .inl ⟨by simpa using uH,ib,rfl⟩;intro k u' bv hk;cases k with
  |zero=>simp only[cL,bf,Prod.mk.injEq]at hk;obtain⟨rfl,rfl⟩:=hk;exact .inr LX
  |succ k=>simp at hk
 |io j=>
  have hgx:st.io[j]?=some x0:=by rw[AS.fi,dV]at iM;exact iM
  obtain⟨fp,hr,hn,hl⟩:=h.io;have nh:∀x1,st.fC (.io j) x1={st with io:=st.io.set j x1}:=λx1=>by simp only[AS.fC,fD]
  obtain⟨v,f2,X3,C1,EH,ng⟩:=core .io hr hn hl hgx;refine⟨v,f2,X3,C1,λb hb=>(EH b hb).1,?_⟩;intro x1 kS fh u av hx1 Hq Sy qV WS hu;obtain⟨hle,jg,dY,OL,JJ,LX⟩:=ng (st.fC (.io j) x1) x1 kS fh u av (by rw[nh]) (by rw[nh]) (λ_ q=>by rw[nh];exact q) hx1 Hq Sy qV WS hu;have hfo:∀b∈fh,g.eo b=some .io:=λb hb=>(EH b (WS b hb)).1;refine⟨_,h.step (λx=>x≠ .io) hle h.defers ?_ ?_ h.frame (λb x hx=>Vr fh b x hx (λhm=>⟨_,hfo b hm⟩)) (λb x hk hb=>⟨afJ fh _ hfo b x hk hb,rfl,rfl⟩) ?_ ?_ ?_ (.inr ⟨jg,?_,OL,λb hb=>?_⟩)⟩;rw[nh];exact h.size;rw[nh];exact h.bsize;intro i bv hi;rw[nh]at hi;exact .inl ⟨by simp,hi,rfl⟩;intro t oY hb;rw[nh]at hb;exact .inl ⟨by simp,hb,rfl⟩;intro k u' bv hk;cases k with
  |zero=>simp only[cL,bf,Prod.mk.injEq]at hk;obtain⟨rfl,rfl⟩:=hk;exact .inr LX
  |succ k=>simp at hk
  have:(st.fC (.io j) x1).io=st.io.set j x1:=by rw[nh]
  rw[this];exact dY;show(if b∈fh then _ else _)=_;rw[aK (JJ b hb).1];exact hl b (JJ b hb).2
theorem dM.ae8 (h:dM C g st a w hs){v:Value}{x:AC}(r:iA (cO C g st w) v x []):iA (cO C g st w) v (st.fresh x) []:=by
 unfold AS.fresh;split;rename_i ep rt t e xs;cases Ck:(ep==st.ep)with
 |true=>exact r
 |false=>
  simp only[ae];split;rename_i t' e' ys iM;split;rename_i he;subst he;cases ht:(t'==t)with
  |false=>exact r
  |true=>
   have:t'=t:=by simpa using ht
   subst this;simp only[af];obtain⟨v0,f2,hh,fA,_,_,_⟩:=h.aaA rt iM;obtain⟨h1,h2,h3,h4,h5⟩:=r;obtain⟨k1,k2⟩:=h5 rt t' rfl;have hv:v0=v:=(hh t' rfl).trans k2.symm;subst hv;exact⟨h1,ba _,Qk fA,λ_=>eS.rep (λb o ho=> .inr ho) fA,λr1 t1 hp=>by simp at hp;obtain⟨_,rfl⟩:=hp;exact⟨k1,k2⟩⟩
  exact r;exact r
 exact r
theorem dM.Sr (h:dM C g st a w hs):∀{vs:iU}{xs:ar AC},bD (cO C g st w) vs xs []->bD (cO C g st w) vs (xs.map st.fresh) []
 |[],[],r=>r
 |_::_,_::_,r=>by
  obtain⟨f1,f2,he,r1,r2⟩:=r;have h1:f1=[]:=by have:=he.symm;simp at this;exact this.1
  have h2:f2=[]:=by have:=he.symm;simp at this;exact this.2
  subst h1;subst h2;exact⟨[],[],rfl,h.ae8 r1,h.Sr r2⟩
 |[],_::_,r=>r.elim
 |_::_,[],r=>r.elim
theorem dM.fresh (h:dM C g st a w hs){v:Value}{x:AV}(r:gi (cO C g st w) v x []):gi (cO C g st w) v (x.fresh st) []:=by
 cases x with
 |val gg cs=>obtain⟨vs,hv,r⟩:=r;exact⟨vs,hv,h.Sr r⟩
 |zU ts=>exact r
end Go.Dn
