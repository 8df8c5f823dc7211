import Derived.Test.YtinkcmefgciifaaGreatDnPut
/- A box is made or written; an element of an owned slice is written. -/
namespace Go.Dn
open Go.RowKit
variable {C:Ctx} {g:Gh} {st:AS} {a:Act} {w:World} {hs:ax (Value×AV)}
variable {x0:AC} {fp:fy}
theorem jY {s:Nat}{b:ay (ax AC)}:(st.eI s b).boxes=st.boxes.set s b:=by simp[AS.eI,fu]
theorem NW {s:Nat}{cs:ax AC}{g':Gh}{w':World}(Mz:g'.hdr=g.hdr)(Zb:∀k b o u,C.A k b o->w.cell? ⟨b,o,none⟩=some u->w'.cell? ⟨b,o,none⟩=some u)(Hz:∀t,jb st t->g'.β t=g.β t)(FX:∀b o u,o<g.hw b->w.cell? ⟨b,o,none⟩=some u->o<g'.hw b/\w'.cell? ⟨b,o,none⟩=some u): (cM C g st w).Le (cM C g' (st.eI s (some cs)) w'):=by refine⟨rfl,λt ht=>⟨ht,by show g'.hdr t=g.hdr t;rw[Mz]⟩,Zb,aS _,λt ht=>⟨?_,Hz t ht⟩,λ_ b o u ho hu=>FX b o u ho hu⟩;obtain⟨qg,hc⟩:=ht;show∃anN,(st.eI s (some cs)).boxes[t]?=some (some anN);rw[jY];by_cases su:s=t;subst su;have gY:s<st.boxes.length:=(aG.1 hc).1;exact⟨cs,by simp[gY]⟩;exact⟨qg,by rw[aN su];exact hc⟩
theorem dP.Uo (h:dP C g st a w hs)(s:Nat){cs:ax AC}{arr:Array Value}{T:TypeId}{fr:Nat×Nat}{w':World}{bnew:Nat}{hw':Nat->Nat}(hbn:(bnew=g.β s/\g.ej bnew=some (.box s))\/(w.heap.size<=bnew/\st.boxes[s]?=some none))(jq:Fr (λb=>dG (g.ej b)\/b=bnew) w w')(kb:w'.heap[bnew]?=some (.cells arr T fr))(rz:px arr fr)(gY:bnew<w'.heap.size)(aoi:hw' bnew=0)(Dz:∀b x,g.ej b=some x->¬dG (some x)->b≠bnew->hw' b=g.hw b)(FX:∀b o u,o<g.hw b->w.cell? ⟨b,o,none⟩=some u->o<hw' b/\w'.cell? ⟨b,o,none⟩=some u)(hr:bD ⟨hw',λt=>if t=s then bnew else g.β t,C.A,g.hdr,mC st,st.ep,jb st,w'⟩ arr.toList cs fp)(hn:fp.Nodup)(vd:bnew∉fp)(BU:∀b∈fp,b<w'.heap.size/\(dG (g.ej b)\/g.ej b=some (.box s)\/w.heap.size<=b)): ∃g',g'.β s=bnew/\dP C g' (st.eI s (some cs)) a w' []:=by
 have Zb:∀k b o u,C.A k b o->w.cell? ⟨b,o,none⟩=some u->w'.cell? ⟨b,o,none⟩=some u:=by
  intro k b o u hA hu;have hb:b<w.heap.size:=World.block_lt_of_cell? w _ hu;have IG:¬(dG (g.ej b)\/b=bnew):=by
   rintro(hh|rfl);cases hx:g.ej b with|none=>rw[hx]at hh;cases hh|some x=>exact h.Lc hx k o hA
   rcases hbn with⟨_,h2⟩|h2;exact h.Lc h2 k o hA;omega
  rw[World.cell?_of_block (a:=⟨b,o,none⟩) (jq.block b hb IG)];exact hu
 have Al:∀b x,g.ej b=some x->x≠ .box s->b≠bnew:=by rintro b x hx hxs rfl;rcases hbn with⟨_,h2⟩|h2;rw[hx]at h2;exact hxs (by simpa using h2);have:=(h.fY b x hx).1;omega
 have hkp:∀b x,g.ej b=some x->¬dG (some x)->x≠ .box s->w'.heap[b]?=w.heap[b]?:=λb x hx hh hxs=>
  jq.block b (h.fY b x hx).1 (by rintro(k|k);rw[hx]at k;exact hh k;exact Al b x hx hxs k)
 let β':Nat->Nat:=λt=>if t=s then bnew else g.β t
 let ZU:Nat->ay jM:=λb=>if b=bnew\/b∈fp then some (.box s) else if dG (g.ej b) then none else g.ej b
 let g':Gh:=⟨hw',β',ZU,g.hdr⟩
 have PC:Fr C.M C.w0 w':=h.frame.trans jq (λb hb hh=>by
  rcases hh with hh|rfl;cases hx:g.ej b with|none=>rw[hx]at hh;cases hh|some x=>rcases(h.fY b x hx).2 with h2|h2;omega;exact h2
  rcases hbn with⟨_,h2⟩|h2;rcases(h.fY b _ h2).2 with h3|h3;omega;exact h3;have:=h.frame.size;omega)
 have Hz:∀t,jb st t->β' t=g.β t:=by rintro t ⟨qg,hc⟩;show(if t=s then bnew else g.β t)=g.β t;by_cases su:t=s;subst su;rcases hbn with⟨h2,_⟩|⟨_,h2⟩;simp[h2];rw[h2]at hc;cases hc;simp[su]
 have hle:(cM C g st w).Le (cM C g' (st.eI s (some cs)) w'):=NW rfl Zb Hz FX;have ahD:(RC.mk hw' β' C.A g.hdr (mC st) st.ep (jb st) w').Le (cM C g' (st.eI s (some cs)) w'):=⟨rfl,λ_ ht=>⟨ht,rfl⟩,λ_ _ _ _ _ hu=>hu,aS _,λt ht=>⟨(hle.Gy t ht).1,rfl⟩,λ_ b o u ho hu=>⟨ho,hu⟩⟩
 refine⟨g',by show(if s=s then bnew else g.β s)=bnew;simp,h.step (λx=>¬dG (some x)/\x≠ .box s) hle h.defers h.size ?_ PC ?_ ?_ ?_ ?_ ?_ (.inl ⟨⟨by simp[kg],by simp⟩,rfl⟩)⟩;show(st.eI s (some cs)).boxes.length=st.slots.length;rw[jY,aC];exact h.bsize;intro b x hx;have Ab:(if b=bnew\/b∈fp then some (jM.box s) else if dG (g.ej b) then none else g.ej b)=some x:=hx;by_cases hm:b=bnew\/b∈fp;rcases hm with rfl|hm;refine⟨gY,?_⟩;rcases hbn with⟨_,h2⟩|h2;exact(h.fY b _ h2).2;exact .inl (bw h.frame.size h2.1);refine⟨(BU b hm).1,?_⟩;rcases(BU b hm).2 with h2|h2|h2;cases hy:g.ej b with|none=>rw[hy]at h2;cases h2|some y=>exact(h.fY b y hy).2
 exact(h.fY b _ h2).2;exact .inl (bw h.frame.size h2);rw[aI hm]at Ab;split at Ab;cases Ab;have hl:=h.fY b x Ab;have hz:=jq.size;exact⟨by omega,hl.2⟩;intro b x hk hx;have hb1:=Al b x hx hk.2;refine⟨?_,hkp b x hx hk.1 hk.2,Dz b x hx hk.1 hb1⟩;show(if b=bnew\/b∈fp then some (jM.box s) else if dG (g.ej b) then none else g.ej b)=some x;have Vu:¬(b=bnew\/b∈fp):=by rintro(hm|hm);exact hb1 hm;rcases(BU b hm).2 with h2|h2|h2;rw[hx]at h2;exact hk.1 h2;rw[hx]at h2;exact hk.2 (by simpa using h2);have:=(h.fY b x hx).1;omega
 rw[aI Vu,aI (by rw[hx];exact hk.1),hx];intro i av hi;exact .inl ⟨⟨by simp[kg],by simp⟩,hi,rfl⟩;intro t qg hb;have gX:(st.boxes.set s (some cs))[t]?=some (some qg):=by rw[<-jY];exact hb
 by_cases su:t=s;subst su;rw[br]at gX;simp only[bQ]at gX;split at gX;simp at gX;subst gX;have afr:β' t=bnew:=by show(if t=t then bnew else g.β t)=bnew;simp
 refine .inr ⟨arr,T,fr,fp,?_,rz,hr.mono ahD (λb _=>⟨rfl,rfl⟩),hn,?_,?_,?_,?_⟩;show w'.heap[β' t]?=_;rw[afr];exact kb;show β' t∉fp;rw[afr];exact vd;intro b hb;show(if b=bnew\/b∈fp then _ else _)=_;rw[aH (.inr hb)];show(if β' t=bnew\/β' t∈fp then _ else _)=_;rw[aH (.inl afr)];show hw' (β' t)=0;rw[afr];exact aoi;cases gX;rw[aN (cO su)]at gX;exact .inl ⟨⟨by simp[kg],by simpa using su⟩,gX,by show(if t=s then bnew else g.β t)=_;simp[su]⟩;intro k u bv hk;simp at hk
def ky.owner:ky->jM
 | .slot s _=> .slot s
 | .box s _=> .box s
 | .io _=> .io
theorem bD.agQ {c:RC}{vs:iG}{cs:ax AC}(hr:bD c vs cs fp){j:Nat}{x:AC}(hx:cs[j]?=some x): ∃v f1 f2 f3,vs[j]?=some v/\fp=f1++f2++f3/\gK c v x f2/\ ∀(c':RC),c.Le c'->∀x' f2',gK c' v x' f2'->(∀b∈f1++f3,c'.w.heap[b]?=c.w.heap[b]?/\c'.hw b=c.hw b)-> bD c' vs (cs.set j x') (f1++f2'++f3):=by
 have hj:j<cs.length:=(aG.1 hx).1;obtain⟨f1,fr,rfl,r1,r2⟩:=hr.split j;have hlen:=hr.length;have hjv:j<vs.length:=by omega
 have ecs:cs.drop j=x::cs.drop (j+1):=by rw[bO hj];congr 1;rw[aq hj]at hx;simpa using hx
 have evs:vs.drop j=vs[j]::vs.drop (j+1):=bO hjv;rw[ecs,evs]at r2;obtain⟨f2,f3,rfl,r2,r3⟩:=r2;refine⟨vs[j],f1,f2,f3,aq hjv,by simp,r2,λc' hle x' f2' Ab hb=>?_⟩;have e1:vs=vs.take j++(vs[j]::vs.drop (j+1)):=by rw[<-evs,cm]
 have e2:cs.set j x'=cs.take j++(x'::cs.drop (j+1)):=by rw[List.set_eq_take_append_cons_drop,aH hj]
 rw[e1,e2,aR];refine bD.append (r1.mono hle (λb gX=>hb b (bt _ gX))) ⟨f2',f3,rfl,Ab,?_⟩;exact r3.mono hle (λb gX=>hb b (bj _ gX))
def Gh.wrote (g:Gh)(o:jM)(fp:fy)(hw':Nat->Nat):Gh:=
 ⟨hw',g.β,λb=>if b∈fp then some o else if dG (g.ej b) then none else g.ej b,g.hdr⟩
theorem dP.H4 (h:dP C g st a w hs)(o:jM)(Mm:¬dG (some o)){vs:iG}{cs:ax AC}{j:Nat}(eQ:bD (cM C g st w) vs cs fp)(hn:fp.Nodup)(hl:∀b∈fp,g.ej b=some o)(hx:cs[j]?=some x0): ∃v f1 f2 f3,vs[j]?=some v/\fp=f1++f2++f3/\gK (cM C g st w) v x0 f2/\f2.Nodup/\(∀b∈f2,g.ej b=some o)/\ ∀(w':World)(hw':Nat->Nat)(bN:AS)(x1:AC)(qB:fy),bN.ep=st.ep+1->bN.iss=st.iss->(∀s,jb st s->jb bN s)-> (∀c',(cM C g st w).Le c'->c'.w=w'->c'.hw=hw'->gK c' v x1 qB)->qB.Nodup->(∀b∈qB,b<w'.heap.size/\(b∈f2\/dG (g.ej b)))-> Fr (λb=>dG (g.ej b)\/b∈f2) w w'->(∀b x,g.ej b=some x->¬dG (some x)->b∉f2->hw' b=g.hw b)-> (cM C g st w).Le (cM C (g.wrote o (f1++qB++f3) hw') bN w')/\ bD (cM C (g.wrote o (f1++qB++f3) hw') bN w') vs (cs.set j x1) (f1++qB++f3)/\(f1++qB++f3).Nodup/\ (∀b∈f1++qB++f3,(g.wrote o (f1++qB++f3) hw').ej b=some o)/\ (∀b x,¬dG (some x)->x≠o->g.ej b=some x->(g.wrote o (f1++qB++f3) hw').ej b=some x/\w'.heap[b]?=w.heap[b]?/\hw' b=g.hw b)/\ (∀b,g.ej b=some o->b∉fp->(g.wrote o (f1++qB++f3) hw').ej b=some o/\w'.heap[b]?=w.heap[b]?/\hw' b=g.hw b)/\ Fr C.M C.w0 w'/\(∀b x,(g.wrote o (f1++qB++f3) hw').ej b=some x->b<w'.heap.size/\(C.w0.heap.size<=b\/C.M b)):=by
 obtain⟨v,f1,f2,f3,hv,rfl,MD,CI⟩:=eQ.agQ hx;have BX:=hn;rw[aR]at BX;have n1:=aJ.1 BX;have n2:=aJ.1 n1.2.1;have B6:∀b∈f1++f3,b∉f2:=by intro b hb h2;rcases az.1 hb with hb|hb;exact n1.2.2 b hb b (bt _ h2) rfl;exact n2.2.2 b h2 b hb rfl
 refine⟨v,f1,f2,f3,hv,rfl,MD,n2.1,λb hb=>hl b (by simp[hb]),?_⟩;intro w' hw' bN x1 qB xh Jq tQ gO Hx yH jq Dz;have Zb:∀k b o u,C.A k b o->w.cell? ⟨b,o,none⟩=some u->w'.cell? ⟨b,o,none⟩=some u:=by
  intro k b o u hA hu;have hb:b<w.heap.size:=World.block_lt_of_cell? w _ hu;have IG:¬(dG (g.ej b)\/b∈f2):=by
   rintro(hh|hm);cases hx:g.ej b with|none=>rw[hx]at hh;cases hh|some x=>exact h.Lc hx k o hA
   exact h.Lc (hl b (by simp[hm])) k o hA
  rw[World.cell?_of_block (a:=⟨b,o,none⟩) (jq.block b hb IG)];exact hu
 have hle:(cM C g st w).Le (cM C (g.wrote o (f1++qB++f3) hw') bN w'):=⟨rfl,λt ht=>⟨by show mC bN t;have T7:mC st t:=ht;simpa[mC,Jq]using T7,rfl⟩,Zb,by show st.ep<=bN.ep;omega,λs hs=>⟨tQ s hs,rfl⟩,λhe=>absurd he (by show bN.ep≠st.ep;omega)⟩
 have rJ:∀b x,¬dG (some x)->g.ej b=some x->b∉f2->w'.heap[b]?=w.heap[b]?/\hw' b=g.hw b:=by intro b x hh hb hm;exact⟨jq.block b (h.fY b _ hb).1 (by rintro(k|k);rw[hb]at k;exact hh k;exact hm k),Dz b _ hb hh hm⟩
 have hd1:∀b∈f1++f3,b∉qB:=by intro b hb hm;rcases(yH b hm).2 with h2|h2;exact B6 b hb h2;have NC:g.ej b=some o:=hl b (by rcases az.1 hb with hb|hb<;>simp[hb]);rw[NC]at h2;exact Mm h2
 refine⟨hle,?_,?_,?_,?_,?_,?_,?_⟩;refine CI _ hle _ qB (gO _ hle rfl rfl) (λb hb=>?_);exact rJ b o Mm (hl b (by rcases az.1 hb with hb|hb<;>simp[hb])) (B6 b hb);rw[aR];refine aJ.2 ⟨n1.1,aJ.2 ⟨Hx,n2.2.1,?_⟩,?_⟩;rintro b hb c hc rfl;exact hd1 b (by simp[hc]) hb;rintro b hb c hc rfl;rcases az.1 hc with hc|hc;exact hd1 b (by simp[hb]) hc;exact n1.2.2 b hb b (bj _ hc) rfl;intro b hb;show(if b∈f1++qB++f3 then _ else _)=_;rw[aH hb];intro b x hh hxo hb;have hm2:b∉f2:=λhm=>hxo (by have:=hl b (by simp[hm]);rw[hb]at this;simpa using this);refine⟨?_,rJ b x hh hb hm2⟩;show(if b∈f1++qB++f3 then _ else if dG (g.ej b) then none else g.ej b)=_;have Vu:b∉f1++qB++f3:=by intro hm;simp only[az]at hm;rcases hm with(hm|hm)|hm;exact hxo (by have:=hl b (by simp[hm]);rw[hb]at this;simpa using this);rcases(yH b hm).2 with h2|h2;exact hm2 h2;rw[hb]at h2;exact hh h2;exact hxo (by have:=hl b (by simp[hm]);rw[hb]at this;simpa using this)
 rw[aI Vu,aI (by rw[hb];exact hh),hb];intro b hb hm;have hm2:b∉f2:=λk=>hm (by simp[k]);refine⟨?_,rJ b o Mm hb hm2⟩;show(if b∈f1++qB++f3 then _ else if dG (g.ej b) then none else g.ej b)=_;rw[aI (c:=dG (g.ej b)) (by rw[hb];exact Mm),hb];split<;>rfl;refine h.frame.trans jq (λb hb hh=>?_);rcases hh with hh|hm;cases hx:g.ej b with|none=>rw[hx]at hh;cases hh|some x=>rcases(h.fY b x hx).2 with h2|h2;omega;exact h2
 rcases(h.fY b o (hl b (by simp[hm]))).2 with h2|h2;omega;exact h2;intro b x hx;have Ab:(if b∈f1++qB++f3 then some o else if dG (g.ej b) then none else g.ej b)=some x:=hx;have hz:=jq.size;have old:∀y,g.ej b=some y->b<w'.heap.size/\(C.w0.heap.size<=b\/C.M b):=λy hy=>⟨Nat.lt_of_lt_of_le (h.fY b y hy).1 hz,(h.fY b y hy).2⟩
 split at Ab;rename_i hm;simp only[az]at hm;rcases hm with(hm|hm)|hm;exact old o (hl b (by simp[hm]));rcases(yH b hm).2 with h2|h2;exact old o (hl b (by simp[h2]));cases hy:g.ej b with|none=>rw[hy]at h2;cases h2|some y=>exact old y hy
 exact old o (hl b (by simp[hm]));split at Ab;cases Ab;exact old x Ab
theorem dP.adW (h:dP C g st a w hs)(s j:Nat)(Al:x0≠ .bot)(gS:st.eR (.slot s j)=some x0): ∃v f2,gK (cM C g st w) v x0 f2/\f2.Nodup/\(∀b∈f2,g.ej b=some (.slot s))/\ ∀(w':World)(hw':Nat->Nat)(x1:AC)(qB:fy),(∀c',(cM C g st w).Le c'->c'.w=w'->c'.hw=hw'->gK c' v x1 qB)->qB.Nodup->(∀b∈qB,b<w'.heap.size/\(b∈f2\/dG (g.ej b)))-> Fr (λb=>dG (g.ej b)\/b∈f2) w w'->(∀b x,g.ej b=some x->¬dG (some x)->b∉f2->hw' b=g.hw b)-> ∃g',dP C g' {st.eV (.slot s j) x1 with ep:=st.ep+1} a w' []:=by
 have xD:s<st.slots.length:=by
  rcases cd s st.slots.length with gY|yZ;exact gY;have:st.get s=.bot:=by simp[AS.get,dK,bn yZ]
  rw[AS.eR,this]at gS;cases j with|zero=>simp[nth]at gS;exact absurd gS.symm Al|succ j=>simp[nth]at gS
 have hsl:st.slots[s]?=some (st.get s):=by rw[get_eq (aq xD)];exact aq xD
 obtain⟨fp,hr,hn,hl⟩:=h.slots s _ hsl;cases hg:st.get s with
 |uW ts=>rw[AS.eR,hg]at gS;cases gS
 |val gg cs=>
  have hgx:cs[j]?=some x0:=by rw[AS.eR,hg]at gS;simpa[dK]using gS
  rw[hg]at hr;obtain⟨vs,fj,hr⟩:=hr;obtain⟨v,f1,f2,f3,hv,rfl,gO,Cc,yn,qc⟩:=h.H4 (.slot s) (by simp[kg]) hr hn hl hgx;refine⟨v,f2,gO,Cc,yn,?_⟩;intro w' hw' x1 qB FW Hx yH jq Dz;let bN:AS:={st.eV (.slot s j) x1 with ep:=st.ep+1}
  have uZ:bN={st with slots:=st.slots.set s (.val gg (cs.set j x1)),ep:=st.ep+1}:=by show({st.eV (.slot s j) x1 with ep:=st.ep+1}:AS)=_;simp only[AS.eV,hg,AS.put,fu]
  obtain⟨hle,eQ,KO,hll,hk1,hk2,PC,RS⟩:=qc w' hw' bN x1 qB rfl (by rw[uZ]) (λs hs=>by rw[uZ];exact hs) FW Hx yH jq Dz;refine⟨_,h.step (λx=>¬dG (some x)/\x≠ .slot s) hle h.defers ?_ ?_ PC RS (λb x hk hx=>hk1 b x hk.1 hk.2 hx) ?_ ?_ (λk u bv hk=>by simp at hk) (.inl ⟨⟨by simp[kg],by simp⟩,by show bN.io=st.io;rw[uZ]⟩)⟩;show _=bN.slots.length;rw[uZ];simpa using h.size;show bN.boxes.length=bN.slots.length;rw[uZ];simpa using h.bsize;intro i av hi;have nN:(st.slots.set s (.val gg (cs.set j x1)))[i]?=some av:=by have:bN.slots[i]?=some av:=hi;rw[uZ]at this;exact this
  by_cases his:i=s;subst his;rw[br]at nN;simp only[bQ,xD]at nN;simp at nN;subst nN;exact .inr ⟨_,⟨vs,fj,eQ⟩,KO,hll⟩;rw[aN (cO his)]at nN;exact .inl ⟨⟨by simp[kg],by simpa using his⟩,nN,rfl⟩;intro t qg hb;have gX:st.boxes[t]?=some (some qg):=by have:bN.boxes[t]?=some (some qg):=hb;rw[uZ]at this;exact this
  exact .inl ⟨⟨by simp[kg],by simp⟩,gX,rfl⟩
theorem dP.afZ (h:dP C g st a w hs)(s j:Nat)(gS:st.eR (.box s j)=some x0): ∃v f2,gK (cM C g st w) v x0 f2/\f2.Nodup/\(∀b∈f2,g.ej b=some (.box s))/\ ∀(w':World)(hw':Nat->Nat)(x1:AC)(qB:fy),(∀c',(cM C g st w).Le c'->c'.w=w'->c'.hw=hw'->gK c' v x1 qB)->qB.Nodup->(∀b∈qB,b<w'.heap.size/\(b∈f2\/dG (g.ej b)))-> Fr (λb=>dG (g.ej b)\/b∈f2) w w'->(∀b x,g.ej b=some x->¬dG (some x)->b∉f2->hw' b=g.hw b)-> ∃g',dP C g' {st.eV (.box s j) x1 with ep:=st.ep+1} a w' []:=by
 have jH:∃cs,st.boxes[s]?=some (some cs)/\cs[j]?=some x0:=by rw[AS.eR,dK]at gS;cases hb:st.boxes[s]? with|none=>simp[hb]at gS|some o=>cases o with|none=>simp[hb]at gS|some cs=>exact⟨cs,rfl,by simpa[hb,dK]using gS⟩
 obtain⟨cs,jH,hgx⟩:=jH;have xD:s<st.boxes.length:=(aG.1 jH).1;obtain⟨arr,T,fr,fp,kb,rz,hr,hn,vd,hl,Fl,Fo⟩:=h.boxes s cs jH;obtain⟨v,f1,f2,f3,hv,rfl,gO,Cc,yn,qc⟩:=h.H4 (.box s) (by simp[kg]) hr hn hl hgx;refine⟨v,f2,gO,Cc,yn,?_⟩;intro w' hw' x1 qB FW Hx yH jq Dz;let bN:AS:={st.eV (.box s j) x1 with ep:=st.ep+1}
 have uZ:bN={st with boxes:=st.boxes.set s (some (cs.set j x1)),ep:=st.ep+1}:=by show({st.eV (.box s j) x1 with ep:=st.ep+1}:AS)=_;simp only[AS.eV,dK,jH,fC,AS.eI,fu]
 obtain⟨hle,eQ,KO,hll,hk1,hk2,PC,RS⟩:=qc w' hw' bN x1 qB rfl (by rw[uZ]) (λt ht=>by rw[uZ];obtain⟨c0,T1⟩:=ht;by_cases su:s=t;subst su;exact⟨cs.set j x1,by simp[xD]⟩;exact⟨c0,by rw[aN su];exact T1⟩) FW Hx yH jq Dz;have Hz:=hk2 (g.β s) Fl vd;refine⟨_,h.step (λx=>¬dG (some x)/\x≠ .box s) hle h.defers ?_ ?_ PC RS (λb x hk hx=>hk1 b x hk.1 hk.2 hx) ?_ ?_ (λk u bv hk=>by simp at hk) (.inl ⟨⟨by simp[kg],by simp⟩,by show bN.io=st.io;rw[uZ]⟩)⟩;show _=bN.slots.length;rw[uZ];exact h.size;show bN.boxes.length=bN.slots.length;rw[uZ];simpa using h.bsize;intro i av hi;have nN:st.slots[i]?=some av:=by have:bN.slots[i]?=some av:=hi;rw[uZ]at this;exact this
 exact .inl ⟨⟨by simp[kg],by simp⟩,nN,rfl⟩;intro t qg hb;have gX:(st.boxes.set s (some (cs.set j x1)))[t]?=some (some qg):=by have:bN.boxes[t]?=some (some qg):=hb;rw[uZ]at this;exact this
 by_cases su:t=s;subst su;rw[br]at gX;simp only[bQ,xD]at gX;simp at gX;subst gX;have FV:g.β t∉f1++qB++f3:=by intro hm;simp only[az]at hm;rcases hm with(hm|hm)|hm;exact vd (by simp[hm]);rcases(yH _ hm).2 with h2|h2;exact vd (by simp[h2]);rw[Fl]at h2;cases h2;exact vd (by simp[hm])
 exact .inr ⟨arr,T,fr,_,Hz.2.1.trans kb,rz,eQ,KO,FV,hll,Hz.1,Hz.2.2.trans Fo⟩;rw[aN (cO su)]at gX;exact .inl ⟨⟨by simp[kg],by simpa using su⟩,gX,rfl⟩
theorem dP.aiH (h:dP C g st a w hs)(j:Nat)(gS:st.eR (.io j)=some x0): ∃v f2,gK (cM C g st w) v x0 f2/\f2.Nodup/\(∀b∈f2,g.ej b=some .io)/\ ∀(w':World)(hw':Nat->Nat)(x1:AC)(qB:fy),(∀c',(cM C g st w).Le c'->c'.w=w'->c'.hw=hw'->gK c' v x1 qB)->qB.Nodup->(∀b∈qB,b<w'.heap.size/\(b∈f2\/dG (g.ej b)))-> Fr (λb=>dG (g.ej b)\/b∈f2) w w'->(∀b x,g.ej b=some x->¬dG (some x)->b∉f2->hw' b=g.hw b)-> ∃g',dP C g' {st.eV (.io j) x1 with ep:=st.ep+1} a w' []:=by
 have hgx:st.io[j]?=some x0:=by rw[AS.eR,dK]at gS;exact gS
 obtain⟨fp,hr,hn,hl⟩:=h.io;obtain⟨v,f1,f2,f3,hv,rfl,gO,Cc,yn,qc⟩:=h.H4 .io (by simp[kg]) hr hn hl hgx;refine⟨v,f2,gO,Cc,yn,?_⟩;intro w' hw' x1 qB FW Hx yH jq Dz;let bN:AS:={st.eV (.io j) x1 with ep:=st.ep+1}
 have uZ:bN={st with io:=st.io.set j x1,ep:=st.ep+1}:=by show({st.eV (.io j) x1 with ep:=st.ep+1}:AS)=_;simp only[AS.eV,fu]
 obtain⟨hle,eQ,KO,hll,hk1,hk2,PC,RS⟩:=qc w' hw' bN x1 qB rfl (by rw[uZ]) (λs hs=>by rw[uZ];exact hs) FW Hx yH jq Dz
 refine⟨_,h.step (λx=>¬dG (some x)/\x≠ .io) hle h.defers ?_ ?_ PC RS (λb x hk hx=>hk1 b x hk.1 hk.2 hx) ?_ ?_ (λk u bv hk=>by simp at hk) (.inr ⟨_,by
  have:bN.io=st.io.set j x1:=by rw[uZ]
  show bD _ _ bN.io _;rw[this];exact eQ,KO,hll⟩)⟩
 show _=bN.slots.length;rw[uZ];exact h.size;show bN.boxes.length=bN.slots.length;rw[uZ];exact h.bsize;intro i av hi;have nN:st.slots[i]?=some av:=by have:bN.slots[i]?=some av:=hi;rw[uZ]at this;exact this
 exact .inl ⟨⟨by simp[kg],by simp⟩,nN,rfl⟩;intro t qg hb;have gX:st.boxes[t]?=some (some qg):=by have:bN.boxes[t]?=some (some qg):=hb;rw[uZ]at this;exact this
 exact .inl ⟨⟨by simp[kg],by simp⟩,gX,rfl⟩
theorem dP.Qf (h:dP C g st a w hs)(r:ky)(Al:x0≠ .bot)(gS:st.eR r=some x0): ∃v f2,gK (cM C g st w) v x0 f2/\f2.Nodup/\(∀b∈f2,g.ej b=some r.owner)/\ ∀(w':World)(hw':Nat->Nat)(x1:AC)(qB:fy),(∀c',(cM C g st w).Le c'->c'.w=w'->c'.hw=hw'->gK c' v x1 qB)->qB.Nodup->(∀b∈qB,b<w'.heap.size/\(b∈f2\/dG (g.ej b)))-> Fr (λb=>dG (g.ej b)\/b∈f2) w w'->(∀b x,g.ej b=some x->¬dG (some x)->b∉f2->hw' b=g.hw b)-> ∃g',dP C g' {st.eV r x1 with ep:=st.ep+1} a w' []:=by cases r with|slot s j=>exact h.adW s j Al gS|box s j=>exact h.afZ s j gS|io j=>exact h.aiH j gS
theorem dP.Qg (h:dP C g st a w hs)(r:ky){tag:ay Nat}{e:CT}{xs:ax e.D}(gS:st.eR r=some (.sl (.own tag) e xs)): ∃v f2,(∀t,tag=some t->v=g.hdr t)/\fg g.hw w (.sl e) [v] xs f2/\f2.Nodup/\(∀b∈f2,g.ej b=some r.owner)/\ ∀(w':World)(hw':Nat->Nat)(Mo:ax e.D)(qB:fy),fg hw' w' (.sl e) [v] Mo qB->qB.Nodup->(∀b∈qB,b<w'.heap.size/\(b∈f2\/dG (g.ej b)))-> Fr (λb=>dG (g.ej b)\/b∈f2) w w'->(∀b x,g.ej b=some x->¬dG (some x)->b∉f2->hw' b=g.hw b)-> ∃g',dP C g' {st.eV r (.sl (.own tag) e Mo)with ep:=st.ep+1} a w' []:=by obtain⟨v,f2,eQ,Cc,yn,qc⟩:=h.Qf r (by simp) gS;refine⟨v,f2,λt ht=>(eQ.2 t ht).2,eQ.1,Cc,yn,λw' hw' Mo qB gO Hx yH jq Dz=>qc w' hw' (.sl (.own tag) e Mo) qB (λc' hle QL D0=>⟨?_,λt ht=>?_⟩) Hx yH jq Dz⟩;rw[QL,D0];exact gO;have h1:=eQ.2 t ht;exact⟨(hle.hdr t h1.1).1,by rw[(hle.hdr t h1.1).2];exact h1.2⟩
theorem dP.adX (h:dP C g st a w [])(r:ky)(Al:x0≠ .bot)(gS:st.eR r=some x0): ∃v f2,gK (cM C g st w) v x0 f2/\f2.Nodup/\(∀b∈f2,g.ej b=some r.owner)/\ ∀(x1:AC)(qB fh:fy)(u:Value)(av:AV),(∀c',(cM C g st w).Le c'->c'.w=w->c'.hw=g.hw->c'.ep=st.ep->gK c' v x1 qB)->qB.Nodup->fh.Nodup->(∀b∈qB,b∈f2/\b∉fh)->(∀b∈fh,b∈f2)-> fX (cM C g st w) u av fh->∃g',dP C g' (st.eV r x1) a w [(u,av)]:=by
 have core:∀(o:jM){vs:iG}{cs:ax AC}{fp:fy}{j:Nat},bD (cM C g st w) vs cs fp->fp.Nodup->(∀b∈fp,g.ej b=some o)->cs[j]?=some x0->
  ∃v f2,gK (cM C g st w) v x0 f2/\f2.Nodup/\(∀b∈f2,g.ej b=some o/\b∈fp)/\
   ∀(bN:AS)(x1:AC)(qB fh:fy)(u:Value)(av:AV),bN.ep=st.ep->bN.iss=st.iss->(∀s,jb st s->jb bN s)->(∀c',(cM C g st w).Le c'->c'.w=w->c'.hw=g.hw->c'.ep=st.ep->gK c' v x1 qB)->qB.Nodup->fh.Nodup->(∀b∈qB,b∈f2/\b∉fh)->(∀b∈fh,b∈f2)->fX (cM C g st w) u av fh->
    (cM C g st w).Le (cM C {g with ej:=λb=>if b∈fh then some (.hand 0) else g.ej b} bN w)/\
    ∃jZ,bD (cM C {g with ej:=λb=>if b∈fh then some (.hand 0) else g.ej b} bN w) vs (cs.set j x1) jZ/\jZ.Nodup/\(∀b∈jZ,b∉fh/\b∈fp)/\
    Hf C {g with ej:=λb=>if b∈fh then some (.hand 0) else g.ej b} bN w 0 u av:=by
  intro o vs cs fp j eQ hn hl hx
  obtain⟨v,f1,f2,f3,hv,rfl,MD,CI⟩:=eQ.agQ hx
  have BX:=hn
  rw[aR]at BX
  have n1:=aJ.1 BX
  have n2:=aJ.1 n1.2.1
  refine⟨v,f2,MD,n2.1,λb hb=>⟨hl b (by simp[hb]),by simp[hb]⟩,?_⟩
  intro bN x1 qB fh u av xh Jq tQ hx1 Hx Mm yH Mx hu
  have hle:(cM C g st w).Le (cM C {g with ej:=λb=>if b∈fh then some (.hand 0) else g.ej b} bN w):=
   ⟨rfl,λt ht=>⟨by show mC bN t;have T7:mC st t:=ht;simpa[mC,Jq]using T7,rfl⟩,λ_ _ _ _ _ hu=>hu,by show st.ep<=bN.ep;omega,λs hs=>⟨tQ s hs,rfl⟩,λ_ b o u ho hu=>⟨ho,hu⟩⟩
  have B6:∀b∈f1++f3,b∉f2:=by intro b hb h2;rcases az.1 hb with hb|hb;exact n1.2.2 b hb b (bt _ h2) rfl;exact n2.2.2 b h2 b hb rfl
  refine⟨hle,f1++qB++f3,CI _ hle _ qB (hx1 _ hle rfl rfl xh) (λ_ _=>⟨rfl,rfl⟩),?_,?_,fh,hu.mono hle (λ_ _=>⟨rfl,rfl⟩),Mm,λb hb=>?_⟩
  ·rw[aR]
   refine aJ.2 ⟨n1.1,aJ.2 ⟨Hx,n2.2.1,?_⟩,?_⟩
   ·rintro b hb c hc rfl;exact B6 b (by simp[hc]) (yH b hb).1
   ·rintro b hb c hc rfl
    rcases az.1 hc with hc|hc
    ·exact B6 b (by simp[hb]) (yH b hc).1
    ·exact n1.2.2 b hb b (bj _ hc) rfl
  ·intro b hb
   simp only[az]at hb
   rcases hb with(hb|hb)|hb
   ·exact⟨λhm=>B6 b (by simp[hb]) (Mx b hm),by simp[hb]⟩
   ·exact⟨(yH b hb).2,by simp[(yH b hb).1]⟩
   ·exact⟨λhm=>B6 b (by simp[hb]) (Mx b hm),by simp[hb]⟩
  ·show(if b∈fh then _ else _)=_
   rw[aH hb]
 have Ld:∀(fh:fy),∀b x,(if b∈fh then some (jM.hand 0) else g.ej b)=some x->(b∈fh->∃y,g.ej b=some y)->b<w.heap.size/\(C.w0.heap.size<=b\/C.M b):=by intro fh b x hx hy;by_cases hm:b∈fh;obtain⟨y,hy⟩:=hy hm;exact h.fY b y hy;rw[aI hm]at hx;exact h.fY b x hx
 have VY:∀(fh:fy)(o:jM),(∀b∈fh,g.ej b=some o)->∀b x,x≠o->g.ej b=some x->(if b∈fh then some (jM.hand 0) else g.ej b)=some x:=by intro fh o Mx b x hxo hb;rw[aI (λhm=>hxo (by have:=Mx b hm;rw[hb]at this;simpa using this))];exact hb
 cases r with
 |slot s j=>
  have xD:s<st.slots.length:=by
   rcases cd s st.slots.length with gY|yZ;exact gY;have:st.get s=.bot:=by simp[AS.get,dK,bn yZ]
   rw[AS.eR,this]at gS;cases j with|zero=>simp[nth]at gS;exact absurd gS.symm Al|succ j=>simp[nth]at gS
  have hsl:st.slots[s]?=some (st.get s):=by rw[get_eq (aq xD)];exact aq xD
  obtain⟨fp,hr,hn,hl⟩:=h.slots s _ hsl;cases hg:st.get s with
  |uW ts=>rw[AS.eR,hg]at gS;cases gS
  |val gg cs=>
   have hgx:cs[j]?=some x0:=by rw[AS.eR,hg]at gS;simpa[dK]using gS
   rw[hg]at hr;obtain⟨vs,fj,hr⟩:=hr;have mF:∀x1,st.eV (.slot s j) x1={st with slots:=st.slots.set s (.val gg (cs.set j x1))}:=λx1=>by simp only[AS.eV,hg,AS.put,fu]
   obtain⟨v,f2,NH,Cc,yn,qc⟩:=core (.slot s) hr hn hl hgx;refine⟨v,f2,NH,Cc,λb hb=>(yn b hb).1,?_⟩;intro x1 qB fh u av hx1 Hx Mm yH Mx hu;obtain⟨hle,jZ,eQ,KO,Bg,CD⟩:=qc (st.eV (.slot s j) x1) x1 qB fh u av (by rw[mF]) (by rw[mF]) (λ_ q=>by rw[mF];exact q) hx1 Hx Mm yH Mx hu;have hfo:∀b∈fh,g.ej b=some (.slot s):=λb hb=>(yn b (Mx b hb)).1;refine⟨_,h.step (λx=>x≠ .slot s) hle h.defers ?_ ?_ h.frame (λb x hx=>Ld fh b x hx (λhm=>⟨_,hfo b hm⟩)) (λb x hk hb=>⟨VY fh _ hfo b x hk hb,rfl,rfl⟩) ?_ ?_ ?_ (.inl ⟨by simp,by rw[mF]⟩)⟩;rw[mF];simpa using h.size;rw[mF];simpa using h.bsize;intro i bv hi;rw[mF]at hi;have nN:(st.slots.set s (.val gg (cs.set j x1)))[i]?=some bv:=hi;by_cases his:i=s;subst his;rw[br]at nN;simp only[bQ,xD]at nN;simp at nN;subst nN;refine .inr ⟨jZ,⟨vs,fj,eQ⟩,KO,λb hb=>?_⟩;show(if b∈fh then _ else _)=_;rw[aI (Bg b hb).1];exact hl b (Bg b hb).2;rw[aN (cO his)]at nN;exact .inl ⟨by simpa using his,nN,rfl⟩;intro t qg hb;rw[mF]at hb;exact .inl ⟨by simp,hb,rfl⟩;intro k u' bv hk;cases k with
   |zero=>simp only[cv,bc,Prod.mk.injEq]at hk;obtain⟨rfl,rfl⟩:=hk;exact .inr CD
   |succ k=>simp at hk
 |box s j=>
  have jH:∃cs,st.boxes[s]?=some (some cs)/\cs[j]?=some x0:=by rw[AS.eR,dK]at gS;cases hb:st.boxes[s]? with|none=>simp[hb]at gS|some o=>cases o with|none=>simp[hb]at gS|some cs=>exact⟨cs,rfl,by simpa[hb,dK]using gS⟩
  obtain⟨cs,jH,hgx⟩:=jH;have xD:s<st.boxes.length:=(aG.1 jH).1;obtain⟨arr,T,fr,fp,kb,rz,hr,hn,vd,hl,Fl,Fo⟩:=h.boxes s cs jH;have mF:∀x1,st.eV (.box s j) x1={st with boxes:=st.boxes.set s (some (cs.set j x1))}:=λx1=>by simp only[AS.eV,dK,jH,fC,AS.eI,fu]
  obtain⟨v,f2,NH,Cc,yn,qc⟩:=core (.box s) hr hn hl hgx;refine⟨v,f2,NH,Cc,λb hb=>(yn b hb).1,?_⟩;intro x1 qB fh u av hx1 Hx Mm yH Mx hu;obtain⟨hle,jZ,eQ,KO,Bg,CD⟩:=qc (st.eV (.box s j) x1) x1 qB fh u av (by rw[mF]) (by rw[mF]) (λt ht=>by rw[mF];obtain⟨c0,T1⟩:=ht;by_cases su:s=t;subst su;exact⟨cs.set j x1,by simp[xD]⟩;exact⟨c0,by rw[aN su];exact T1⟩) hx1 Hx Mm yH Mx hu;have hfo:∀b∈fh,g.ej b=some (.box s):=λb hb=>(yn b (Mx b hb)).1;refine⟨_,h.step (λx=>x≠ .box s) hle h.defers ?_ ?_ h.frame (λb x hx=>Ld fh b x hx (λhm=>⟨_,hfo b hm⟩)) (λb x hk hb=>⟨VY fh _ hfo b x hk hb,rfl,rfl⟩) ?_ ?_ ?_ (.inl ⟨by simp,by rw[mF]⟩)⟩;rw[mF];exact h.size;rw[mF];simpa using h.bsize;intro i bv hi;rw[mF]at hi;exact .inl ⟨by simp,hi,rfl⟩;intro t qg hb;rw[mF]at hb;have gX:(st.boxes.set s (some (cs.set j x1)))[t]?=some (some qg):=hb;by_cases su:t=s;subst su;rw[br]at gX;simp only[bQ,xD]at gX;simp at gX;subst gX;have Hz:g.β t∉fh:=λhm=>vd (yn _ (Mx _ hm)).2;refine .inr ⟨arr,T,fr,jZ,kb,rz,eQ,KO,λhm=>vd (Bg _ hm).2,λb hb=>?_,?_,Fo⟩;show(if b∈fh then _ else _)=_;rw[aI (Bg b hb).1];exact hl b (Bg b hb).2;show(if g.β t∈fh then _ else _)=_;rw[aI Hz];exact Fl;rw[aN (cO su)]at gX;exact .inl ⟨by simpa using su,gX,rfl⟩;intro k u' bv hk;cases k with
  |zero=>simp only[cv,bc,Prod.mk.injEq]at hk;obtain⟨rfl,rfl⟩:=hk;exact .inr CD
  |succ k=>simp at hk
 |io j=>
  have hgx:st.io[j]?=some x0:=by rw[AS.eR,dK]at gS;exact gS
  obtain⟨fp,hr,hn,hl⟩:=h.io;have mF:∀x1,st.eV (.io j) x1={st with io:=st.io.set j x1}:=λx1=>by simp only[AS.eV,fu]
  obtain⟨v,f2,NH,Cc,yn,qc⟩:=core .io hr hn hl hgx;refine⟨v,f2,NH,Cc,λb hb=>(yn b hb).1,?_⟩;intro x1 qB fh u av hx1 Hx Mm yH Mx hu;obtain⟨hle,jZ,eQ,KO,Bg,CD⟩:=qc (st.eV (.io j) x1) x1 qB fh u av (by rw[mF]) (by rw[mF]) (λ_ q=>by rw[mF];exact q) hx1 Hx Mm yH Mx hu;have hfo:∀b∈fh,g.ej b=some .io:=λb hb=>(yn b (Mx b hb)).1;refine⟨_,h.step (λx=>x≠ .io) hle h.defers ?_ ?_ h.frame (λb x hx=>Ld fh b x hx (λhm=>⟨_,hfo b hm⟩)) (λb x hk hb=>⟨VY fh _ hfo b x hk hb,rfl,rfl⟩) ?_ ?_ ?_ (.inr ⟨jZ,?_,KO,λb hb=>?_⟩)⟩;rw[mF];exact h.size;rw[mF];exact h.bsize;intro i bv hi;rw[mF]at hi;exact .inl ⟨by simp,hi,rfl⟩;intro t qg hb;rw[mF]at hb;exact .inl ⟨by simp,hb,rfl⟩;intro k u' bv hk;cases k with
  |zero=>simp only[cv,bc,Prod.mk.injEq]at hk;obtain⟨rfl,rfl⟩:=hk;exact .inr CD
  |succ k=>simp at hk
  have:(st.eV (.io j) x1).io=st.io.set j x1:=by rw[mF]
  rw[this];exact eQ;show(if b∈fh then _ else _)=_;rw[aI (Bg b hb).1];exact hl b (Bg b hb).2
theorem dP.Vk (h:dP C g st a w hs){v:Value}{x:AC}(r:gK (cM C g st w) v x []):gK (cM C g st w) v (st.fresh x) []:=by
 unfold AS.fresh;split;rename_i ep rt t e xs;cases xh:(ep==st.ep)with
 |true=>exact r
 |false=>
  simp only[af];split;rename_i t' e' ys gS;split;rename_i he;subst he;cases ht:(t'==t)with
  |false=>exact r
  |true=>
   have:t'=t:=by simpa using ht
   subst this;simp only[ah];obtain⟨v0,f2,hh,gO,_,_,_⟩:=h.Qg rt gS;obtain⟨h1,h2,h3,h4,h5⟩:=r;obtain⟨k1,k2⟩:=h5 rt t' rfl;have hv:v0=v:=(hh t' rfl).trans k2.symm;subst hv;exact⟨h1,aS _,Lr gO,λ_=>fg.rep (λb o ho=> .inr ho) gO,λr1 t1 hp=>by simp at hp;obtain⟨_,rfl⟩:=hp;exact⟨k1,k2⟩⟩
  exact r;exact r
 exact r
theorem dP.Ix (h:dP C g st a w hs):∀{vs:iG}{xs:ax AC},bD (cM C g st w) vs xs []->bD (cM C g st w) vs (xs.map st.fresh) []
 |[],[],r=>r
 |_::_,_::_,r=>by
  obtain⟨f1,f2,he,r1,r2⟩:=r;have h1:f1=[]:=by have:=he.symm;simp at this;exact this.1
  have h2:f2=[]:=by have:=he.symm;simp at this;exact this.2
  subst h1;subst h2;exact⟨[],[],rfl,h.Vk r1,h.Ix r2⟩
 |[],_::_,r=>r.elim
 |_::_,[],r=>r.elim
theorem dP.fresh (h:dP C g st a w hs){v:Value}{x:AV}(r:fX (cM C g st w) v x []):fX (cM C g st w) v (x.fresh st) []:=by
 cases x with
 |val gg cs=>obtain⟨vs,hv,r⟩:=r;exact⟨vs,hv,h.Ix r⟩
 |uW ts=>exact r
end Go.Dn
