import Derived.Test.YtbebkmajekhclaaGreatDnPut
/- A box is made or written; an element of an owned slice is written. -/
namespace Go.Dn
open Go.RowKit
variable {C:Ctx} {g:Gh} {st:AS} {a:Act} {w:World} {hs:ax (Value×AV)}
variable {x0:AC} {fp:fK}
theorem lu {s:Nat}{b:az (ax AC)}:(st.fD s b).boxes=st.boxes.set s b:=by simp[AS.fD,gj]
theorem Tm {s:Nat}{cs:ax AC}{g':Gh}{w':World}(RR:g'.hdr=g.hdr)(hcA:∀k b o u,C.A k b o->w.cell? ⟨b,o,none⟩=some u->w'.cell? ⟨b,o,none⟩=some u)(LC:∀t,jW st t->g'.β t=g.β t)(JY:∀b o u,o<g.hw b->w.cell? ⟨b,o,none⟩=some u->o<g'.hw b/\w'.cell? ⟨b,o,none⟩=some u): (df C g st w).Le (df C g' (st.fD s (some cs)) w'):=by refine⟨rfl,λt ht=>⟨ht,by show g'.hdr t=g.hdr t;rw[RR]⟩,hcA,bj _,λt ht=>⟨?_,LC t ht⟩,λ_ b o u ho hu=>JY b o u ho hu⟩;obtain⟨sq,hc⟩:=ht;show∃au6,(st.fD s (some cs)).boxes[t]?=some (some au6);rw[lu];by_cases vr:s=t;subst vr;have gH:s<st.boxes.length:=(aA.1 hc).1;exact⟨cs,by simp[gH]⟩;exact⟨sq,by rw[aP vr];exact hc⟩
theorem eJ.aam (h:eJ C g st a w hs)(s:Nat){cs:ax AC}{arr:Array Value}{T:TypeId}{fr:Nat×Nat}{w':World}{bnew:Nat}{hw':Nat->Nat}(hbn:(bnew=g.β s/\g.ft bnew=some (.box s))\/(w.heap.size<=bnew/\st.boxes[s]?=some none))(kb:Fr (λb=>eE (g.ft b)\/b=bnew) w w')(lz:w'.heap[bnew]?=some (.cells arr T fr))(uv:ru arr fr)(gH:bnew<w'.heap.size)(avy:hw' bnew=0)(Hr:∀b x,g.ft b=some x->¬eE (some x)->b≠bnew->hw' b=g.hw b)(JY:∀b o u,o<g.hw b->w.cell? ⟨b,o,none⟩=some u->o<hw' b/\w'.cell? ⟨b,o,none⟩=some u)(hr:bU ⟨hw',λt=>if t=s then bnew else g.β t,C.A,g.hdr,oc st,st.ep,jW st,w'⟩ arr.toList cs fp)(hn:fp.Nodup)(yn:bnew∉fp)(FC:∀b∈fp,b<w'.heap.size/\(eE (g.ft b)\/g.ft b=some (.box s)\/w.heap.size<=b)): ∃g',g'.β s=bnew/\eJ C g' (st.fD s (some cs)) a w' []:=by
 have hcA:∀k b o u,C.A k b o->w.cell? ⟨b,o,none⟩=some u->w'.cell? ⟨b,o,none⟩=some u:=by
  intro k b o u hA hu;have hb:b<w.heap.size:=World.block_lt_of_cell? w _ hu;have MW:¬(eE (g.ft b)\/b=bnew):=by
   rintro(hh|rfl);cases hx:g.ft b with|none=>rw[hx]at hh;cases hh|some x=>exact h.Qd hx k o hA
   rcases hbn with⟨_,h2⟩|h2;exact h.Qd h2 k o hA;omega
  rw[World.cell?_of_block (a:=⟨b,o,none⟩) (kb.block b hb MW)];exact hu
 have D9:∀b x,g.ft b=some x->x≠ .box s->b≠bnew:=by rintro b x hx hxs rfl;rcases hbn with⟨_,h2⟩|h2;rw[hx]at h2;exact hxs (by simpa using h2);have:=(h.gW b x hx).1;omega
 have hkp:∀b x,g.ft b=some x->¬eE (some x)->x≠ .box s->w'.heap[b]?=w.heap[b]?:=λb x hx hh hxs=>
  kb.block b (h.gW b x hx).1 (by rintro(k|k);rw[hx]at k;exact hh k;exact D9 b x hx hxs k)
 let β':Nat->Nat:=λt=>if t=s then bnew else g.β t
 let af3:Nat->az kZ:=λb=>if b=bnew\/b∈fp then some (.box s) else if eE (g.ft b) then none else g.ft b
 let g':Gh:=⟨hw',β',af3,g.hdr⟩
 have Vk:Fr C.M C.w0 w':=h.frame.trans kb (λb hb hh=>by
  rcases hh with hh|rfl;cases hx:g.ft b with|none=>rw[hx]at hh;cases hh|some x=>rcases(h.gW b x hx).2 with h2|h2;omega;exact h2
  rcases hbn with⟨_,h2⟩|h2;rcases(h.gW b _ h2).2 with h3|h3;omega;exact h3;have:=h.frame.size;omega)
 have LC:∀t,jW st t->β' t=g.β t:=by rintro t ⟨sq,hc⟩;show(if t=s then bnew else g.β t)=g.β t;by_cases vr:t=s;subst vr;rcases hbn with⟨h2,_⟩|⟨_,h2⟩;simp[h2];rw[h2]at hc;cases hc;simp[vr]
 have hle:(df C g st w).Le (df C g' (st.fD s (some cs)) w'):=Tm rfl hcA LC JY;have aol:(RC.mk hw' β' C.A g.hdr (oc st) st.ep (jW st) w').Le (df C g' (st.fD s (some cs)) w'):=⟨rfl,λ_ ht=>⟨ht,rfl⟩,λ_ _ _ _ _ hu=>hu,bj _,λt ht=>⟨(hle.KI t ht).1,rfl⟩,λ_ b o u ho hu=>⟨ho,hu⟩⟩
 refine⟨g',by show(if s=s then bnew else g.β s)=bnew;simp,h.step (λx=>¬eE (some x)/\x≠ .box s) hle h.defers h.size ?_ Vk ?_ ?_ ?_ ?_ ?_ (.inl ⟨⟨by simp[lB],by simp⟩,rfl⟩)⟩;show(st.fD s (some cs)).boxes.length=st.slots.length;rw[lu,aC];exact h.bsize;intro b x hx;have DE:(if b=bnew\/b∈fp then some (kZ.box s) else if eE (g.ft b) then none else g.ft b)=some x:=hx;by_cases hm:b=bnew\/b∈fp;rcases hm with rfl|hm;refine⟨gH,?_⟩;rcases hbn with⟨_,h2⟩|h2;exact(h.gW b _ h2).2;exact .inl (bp h.frame.size h2.1);refine⟨(FC b hm).1,?_⟩;rcases(FC b hm).2 with h2|h2|h2;cases hy:g.ft b with|none=>rw[hy]at h2;cases h2|some y=>exact(h.gW b y hy).2
 exact(h.gW b _ h2).2;exact .inl (bp h.frame.size h2);rw[aG hm]at DE;split at DE;cases DE;have hl:=h.gW b x DE;have hz:=kb.size;exact⟨by omega,hl.2⟩;intro b x hk hx;have hb1:=D9 b x hx hk.2;refine⟨?_,hkp b x hx hk.1 hk.2,Hr b x hx hk.1 hb1⟩;show(if b=bnew\/b∈fp then some (kZ.box s) else if eE (g.ft b) then none else g.ft b)=some x;have abA:¬(b=bnew\/b∈fp):=by rintro(hm|hm);exact hb1 hm;rcases(FC b hm).2 with h2|h2|h2;rw[hx]at h2;exact hk.1 h2;rw[hx]at h2;exact hk.2 (by simpa using h2);have:=(h.gW b x hx).1;omega
 rw[aG abA,aG (by rw[hx];exact hk.1),hx];intro i av hi;exact .inl ⟨⟨by simp[lB],by simp⟩,hi,rfl⟩;intro t sq hb;have iI:(st.boxes.set s (some cs))[t]?=some (some sq):=by rw[<-lu];exact hb
 by_cases vr:t=s;subst vr;rw[bJ]at iI;simp only[ch]at iI;split at iI;simp at iI;subst iI;have alV:β' t=bnew:=by show(if t=t then bnew else g.β t)=bnew;simp
 refine .inr ⟨arr,T,fr,fp,?_,uv,hr.mono aol (λb _=>⟨rfl,rfl⟩),hn,?_,?_,?_,?_⟩;show w'.heap[β' t]?=_;rw[alV];exact lz;show β' t∉fp;rw[alV];exact yn;intro b hb;show(if b=bnew\/b∈fp then _ else _)=_;rw[aI (.inr hb)];show(if β' t=bnew\/β' t∈fp then _ else _)=_;rw[aI (.inl alV)];show hw' (β' t)=0;rw[alV];exact avy;cases iI;rw[aP (cZ vr)]at iI;exact .inl ⟨⟨by simp[lB],by simpa using vr⟩,iI,by show(if t=s then bnew else g.β t)=_;simp[vr]⟩;intro k u bv hk;simp at hk
def lQ.owner:lQ->kZ
 | .slot s _=> .slot s
 | .box s _=> .box s
 | .io _=> .io
theorem bU.anq {c:RC}{vs:jt}{cs:ax AC}(hr:bU c vs cs fp){j:Nat}{x:AC}(hx:cs[j]?=some x): ∃v f1 f2 f3,vs[j]?=some v/\fp=f1++f2++f3/\iC c v x f2/\ ∀(c':RC),c.Le c'->∀x' f2',iC c' v x' f2'->(∀b∈f1++f3,c'.w.heap[b]?=c.w.heap[b]?/\c'.hw b=c.hw b)-> bU c' vs (cs.set j x') (f1++f2'++f3):=by
 have hj:j<cs.length:=(aA.1 hx).1;obtain⟨f1,fr,rfl,r1,r2⟩:=hr.split j;have hlen:=hr.length;have hjv:j<vs.length:=by omega
 have ecs:cs.drop j=x::cs.drop (j+1):=by rw[cc hj];congr 1;rw[al hj]at hx;simpa using hx
 have evs:vs.drop j=vs[j]::vs.drop (j+1):=cc hjv;rw[ecs,evs]at r2;obtain⟨f2,f3,rfl,r2,r3⟩:=r2;refine⟨vs[j],f1,f2,f3,al hjv,by simp,r2,λc' hle x' f2' DE hb=>?_⟩;have e1:vs=vs.take j++(vs[j]::vs.drop (j+1)):=by rw[<-evs,cI]
 have e2:cs.set j x'=cs.take j++(x'::cs.drop (j+1)):=by rw[List.set_eq_take_append_cons_drop,aI hj]
 rw[e1,e2,aL];refine bU.append (r1.mono hle (λb iI=>hb b (bK _ iI))) ⟨f2',f3,rfl,DE,?_⟩;exact r3.mono hle (λb iI=>hb b (bw _ iI))
def Gh.wrote (g:Gh)(o:kZ)(fp:fK)(hw':Nat->Nat):Gh:=
 ⟨hw',g.β,λb=>if b∈fp then some o else if eE (g.ft b) then none else g.ft b,g.hdr⟩
theorem eJ.Mk (h:eJ C g st a w hs)(o:kZ)(Rz:¬eE (some o)){vs:jt}{cs:ax AC}{j:Nat}(fM:bU (df C g st w) vs cs fp)(hn:fp.Nodup)(hl:∀b∈fp,g.ft b=some o)(hx:cs[j]?=some x0): ∃v f1 f2 f3,vs[j]?=some v/\fp=f1++f2++f3/\iC (df C g st w) v x0 f2/\f2.Nodup/\(∀b∈f2,g.ft b=some o)/\ ∀(w':World)(hw':Nat->Nat)(bZ:AS)(x1:AC)(ta:fK),bZ.ep=st.ep+1->bZ.iss=st.iss->(∀s,jW st s->jW bZ s)-> (∀c',(df C g st w).Le c'->c'.w=w'->c'.hw=hw'->iC c' v x1 ta)->ta.Nodup->(∀b∈ta,b<w'.heap.size/\(b∈f2\/eE (g.ft b)))-> Fr (λb=>eE (g.ft b)\/b∈f2) w w'->(∀b x,g.ft b=some x->¬eE (some x)->b∉f2->hw' b=g.hw b)-> (df C g st w).Le (df C (g.wrote o (f1++ta++f3) hw') bZ w')/\ bU (df C (g.wrote o (f1++ta++f3) hw') bZ w') vs (cs.set j x1) (f1++ta++f3)/\(f1++ta++f3).Nodup/\ (∀b∈f1++ta++f3,(g.wrote o (f1++ta++f3) hw').ft b=some o)/\ (∀b x,¬eE (some x)->x≠o->g.ft b=some x->(g.wrote o (f1++ta++f3) hw').ft b=some x/\w'.heap[b]?=w.heap[b]?/\hw' b=g.hw b)/\ (∀b,g.ft b=some o->b∉fp->(g.wrote o (f1++ta++f3) hw').ft b=some o/\w'.heap[b]?=w.heap[b]?/\hw' b=g.hw b)/\ Fr C.M C.w0 w'/\(∀b x,(g.wrote o (f1++ta++f3) hw').ft b=some x->b<w'.heap.size/\(C.w0.heap.size<=b\/C.M b)):=by
 obtain⟨v,f1,f2,f3,hv,rfl,RV,Gq⟩:=fM.anq hx;have D7:=hn;rw[aL]at D7;have n1:=aQ.1 D7;have n2:=aQ.1 n1.2.1;have FI:∀b∈f1++f3,b∉f2:=by intro b hb h2;rcases ay.1 hb with hb|hb;exact n1.2.2 b hb b (bK _ h2) rfl;exact n2.2.2 b h2 b hb rfl
 refine⟨v,f1,f2,f3,hv,rfl,RV,n2.1,λb hb=>hl b (by simp[hb]),?_⟩;intro w' hw' bZ x1 ta Aw NW wX iz Js Cf kb Hr;have hcA:∀k b o u,C.A k b o->w.cell? ⟨b,o,none⟩=some u->w'.cell? ⟨b,o,none⟩=some u:=by
  intro k b o u hA hu;have hb:b<w.heap.size:=World.block_lt_of_cell? w _ hu;have MW:¬(eE (g.ft b)\/b∈f2):=by
   rintro(hh|hm);cases hx:g.ft b with|none=>rw[hx]at hh;cases hh|some x=>exact h.Qd hx k o hA
   exact h.Qd (hl b (by simp[hm])) k o hA
  rw[World.cell?_of_block (a:=⟨b,o,none⟩) (kb.block b hb MW)];exact hu
 have hle:(df C g st w).Le (df C (g.wrote o (f1++ta++f3) hw') bZ w'):=⟨rfl,λt ht=>⟨by show oc bZ t;have ht':oc st t:=ht;simpa[oc,NW]using ht',rfl⟩,hcA,by show st.ep<=bZ.ep;omega,λs hs=>⟨wX s hs,rfl⟩,λhe=>absurd he (by show bZ.ep≠st.ep;omega)⟩
 have uG:∀b x,¬eE (some x)->g.ft b=some x->b∉f2->w'.heap[b]?=w.heap[b]?/\hw' b=g.hw b:=by intro b x hh hb hm;exact⟨kb.block b (h.gW b _ hb).1 (by rintro(k|k);rw[hb]at k;exact hh k;exact hm k),Hr b _ hb hh hm⟩
 have hd1:∀b∈f1++f3,b∉ta:=by intro b hb hm;rcases(Cf b hm).2 with h2|h2;exact FI b hb h2;have RT:g.ft b=some o:=hl b (by rcases ay.1 hb with hb|hb<;>simp[hb]);rw[RT]at h2;exact Rz h2
 refine⟨hle,?_,?_,?_,?_,?_,?_,?_⟩;refine Gq _ hle _ ta (iz _ hle rfl rfl) (λb hb=>?_);exact uG b o Rz (hl b (by rcases ay.1 hb with hb|hb<;>simp[hb])) (FI b hb);rw[aL];refine aQ.2 ⟨n1.1,aQ.2 ⟨Js,n2.2.1,?_⟩,?_⟩;rintro b hb c hc rfl;exact hd1 b (by simp[hc]) hb;rintro b hb c hc rfl;rcases ay.1 hc with hc|hc;exact hd1 b (by simp[hb]) hc;exact n1.2.2 b hb b (bw _ hc) rfl;intro b hb;show(if b∈f1++ta++f3 then _ else _)=_;rw[aI hb];intro b x hh hxo hb;have hm2:b∉f2:=λhm=>hxo (by have:=hl b (by simp[hm]);rw[hb]at this;simpa using this);refine⟨?_,uG b x hh hb hm2⟩;show(if b∈f1++ta++f3 then _ else if eE (g.ft b) then none else g.ft b)=_;have abA:b∉f1++ta++f3:=by intro hm;simp only[ay]at hm;rcases hm with(hm|hm)|hm;exact hxo (by have:=hl b (by simp[hm]);rw[hb]at this;simpa using this);rcases(Cf b hm).2 with h2|h2;exact hm2 h2;rw[hb]at h2;exact hh h2;exact hxo (by have:=hl b (by simp[hm]);rw[hb]at this;simpa using this)
 rw[aG abA,aG (by rw[hb];exact hh),hb];intro b hb hm;have hm2:b∉f2:=λk=>hm (by simp[k]);refine⟨?_,uG b o Rz hb hm2⟩;show(if b∈f1++ta++f3 then _ else if eE (g.ft b) then none else g.ft b)=_;rw[aG (c:=eE (g.ft b)) (by rw[hb];exact Rz),hb];split<;>rfl;refine h.frame.trans kb (λb hb hh=>?_);rcases hh with hh|hm;cases hx:g.ft b with|none=>rw[hx]at hh;cases hh|some x=>rcases(h.gW b x hx).2 with h2|h2;omega;exact h2
 rcases(h.gW b o (hl b (by simp[hm]))).2 with h2|h2;omega;exact h2;intro b x hx;have DE:(if b∈f1++ta++f3 then some o else if eE (g.ft b) then none else g.ft b)=some x:=hx;have hz:=kb.size;have old:∀y,g.ft b=some y->b<w'.heap.size/\(C.w0.heap.size<=b\/C.M b):=λy hy=>⟨Nat.lt_of_lt_of_le (h.gW b y hy).1 hz,(h.gW b y hy).2⟩
 split at DE;rename_i hm;simp only[ay]at hm;rcases hm with(hm|hm)|hm;exact old o (hl b (by simp[hm]));rcases(Cf b hm).2 with h2|h2;exact old o (hl b (by simp[h2]));cases hy:g.ft b with|none=>rw[hy]at h2;cases h2|some y=>exact old y hy
 exact old o (hl b (by simp[hm]));split at DE;cases DE;exact old x DE
theorem eJ.aki (h:eJ C g st a w hs)(s j:Nat)(D9:x0≠ .bot)(iR:st.fN (.slot s j)=some x0): ∃v f2,iC (df C g st w) v x0 f2/\f2.Nodup/\(∀b∈f2,g.ft b=some (.slot s))/\ ∀(w':World)(hw':Nat->Nat)(x1:AC)(ta:fK),(∀c',(df C g st w).Le c'->c'.w=w'->c'.hw=hw'->iC c' v x1 ta)->ta.Nodup->(∀b∈ta,b<w'.heap.size/\(b∈f2\/eE (g.ft b)))-> Fr (λb=>eE (g.ft b)\/b∈f2) w w'->(∀b x,g.ft b=some x->¬eE (some x)->b∉f2->hw' b=g.hw b)-> ∃g',eJ C g' {st.fU (.slot s j) x1 with ep:=st.ep+1} a w' []:=by
 have AW:s<st.slots.length:=by
  rcases cr s st.slots.length with gH|Cg;exact gH;have:st.get s=.bot:=by simp[AS.get,eH,bI Cg]
  rw[AS.fN,this]at iR;cases j with|zero=>simp[nth]at iR;exact absurd iR.symm D9|succ j=>simp[nth]at iR
 have hsl:st.slots[s]?=some (st.get s):=by rw[get_eq (al AW)];exact al AW
 obtain⟨fp,hr,hn,hl⟩:=h.slots s _ hsl;cases hg:st.get s with
 |yh ts=>rw[AS.fN,hg]at iR;cases iR
 |val gg cs=>
  have hgx:cs[j]?=some x0:=by rw[AS.fN,hg]at iR;simpa[eH]using iR
  rw[hg]at hr;obtain⟨vs,gb,hr⟩:=hr;obtain⟨v,f1,f2,f3,hv,rfl,iz,BL,BK,si⟩:=h.Mk (.slot s) (by simp[lB]) hr hn hl hgx;refine⟨v,f2,iz,BL,BK,?_⟩;intro w' hw' x1 ta JX Js Cf kb Hr;let bZ:AS:={st.fU (.slot s j) x1 with ep:=st.ep+1}
  have yk:bZ={st with slots:=st.slots.set s (.val gg (cs.set j x1)),ep:=st.ep+1}:=by show({st.fU (.slot s j) x1 with ep:=st.ep+1}:AS)=_;simp only[AS.fU,hg,AS.put,gj]
  obtain⟨hle,fM,PO,hll,hk1,hk2,Vk,XN⟩:=si w' hw' bZ x1 ta rfl (by rw[yk]) (λs hs=>by rw[yk];exact hs) JX Js Cf kb Hr;refine⟨_,h.step (λx=>¬eE (some x)/\x≠ .slot s) hle h.defers ?_ ?_ Vk XN (λb x hk hx=>hk1 b x hk.1 hk.2 hx) ?_ ?_ (λk u bv hk=>by simp at hk) (.inl ⟨⟨by simp[lB],by simp⟩,by show bZ.io=st.io;rw[yk]⟩)⟩;show _=bZ.slots.length;rw[yk];simpa using h.size;show bZ.boxes.length=bZ.slots.length;rw[yk];simpa using h.bsize;intro i av hi;have wL:(st.slots.set s (.val gg (cs.set j x1)))[i]?=some av:=by have:bZ.slots[i]?=some av:=hi;rw[yk]at this;exact this
  by_cases his:i=s;subst his;rw[bJ]at wL;simp only[ch,AW]at wL;simp at wL;subst wL;exact .inr ⟨_,⟨vs,gb,fM⟩,PO,hll⟩;rw[aP (cZ his)]at wL;exact .inl ⟨⟨by simp[lB],by simpa using his⟩,wL,rfl⟩;intro t sq hb;have iI:st.boxes[t]?=some (some sq):=by have:bZ.boxes[t]?=some (some sq):=hb;rw[yk]at this;exact this
  exact .inl ⟨⟨by simp[lB],by simp⟩,iI,rfl⟩
theorem eJ.ams (h:eJ C g st a w hs)(s j:Nat)(iR:st.fN (.box s j)=some x0): ∃v f2,iC (df C g st w) v x0 f2/\f2.Nodup/\(∀b∈f2,g.ft b=some (.box s))/\ ∀(w':World)(hw':Nat->Nat)(x1:AC)(ta:fK),(∀c',(df C g st w).Le c'->c'.w=w'->c'.hw=hw'->iC c' v x1 ta)->ta.Nodup->(∀b∈ta,b<w'.heap.size/\(b∈f2\/eE (g.ft b)))-> Fr (λb=>eE (g.ft b)\/b∈f2) w w'->(∀b x,g.ft b=some x->¬eE (some x)->b∉f2->hw' b=g.hw b)-> ∃g',eJ C g' {st.fU (.box s j) x1 with ep:=st.ep+1} a w' []:=by
 have kQ:∃cs,st.boxes[s]?=some (some cs)/\cs[j]?=some x0:=by rw[AS.fN,eH]at iR;cases hb:st.boxes[s]? with|none=>simp[hb]at iR|some o=>cases o with|none=>simp[hb]at iR|some cs=>exact⟨cs,rfl,by simpa[hb,eH]using iR⟩
 obtain⟨cs,kQ,hgx⟩:=kQ;have AW:s<st.boxes.length:=(aA.1 kQ).1;obtain⟨arr,T,fr,fp,lz,uv,hr,hn,yn,hl,Jq,Jt⟩:=h.boxes s cs kQ;obtain⟨v,f1,f2,f3,hv,rfl,iz,BL,BK,si⟩:=h.Mk (.box s) (by simp[lB]) hr hn hl hgx;refine⟨v,f2,iz,BL,BK,?_⟩;intro w' hw' x1 ta JX Js Cf kb Hr;let bZ:AS:={st.fU (.box s j) x1 with ep:=st.ep+1}
 have yk:bZ={st with boxes:=st.boxes.set s (some (cs.set j x1)),ep:=st.ep+1}:=by show({st.fU (.box s j) x1 with ep:=st.ep+1}:AS)=_;simp only[AS.fU,eH,kQ,gr,AS.fD,gj]
 obtain⟨hle,fM,PO,hll,hk1,hk2,Vk,XN⟩:=si w' hw' bZ x1 ta rfl (by rw[yk]) (λt ht=>by rw[yk];obtain⟨c0,hc0⟩:=ht;by_cases vr:s=t;subst vr;exact⟨cs.set j x1,by simp[AW]⟩;exact⟨c0,by rw[aP vr];exact hc0⟩) JX Js Cf kb Hr;have LC:=hk2 (g.β s) Jq yn;refine⟨_,h.step (λx=>¬eE (some x)/\x≠ .box s) hle h.defers ?_ ?_ Vk XN (λb x hk hx=>hk1 b x hk.1 hk.2 hx) ?_ ?_ (λk u bv hk=>by simp at hk) (.inl ⟨⟨by simp[lB],by simp⟩,by show bZ.io=st.io;rw[yk]⟩)⟩;show _=bZ.slots.length;rw[yk];exact h.size;show bZ.boxes.length=bZ.slots.length;rw[yk];simpa using h.bsize;intro i av hi;have wL:st.slots[i]?=some av:=by have:bZ.slots[i]?=some av:=hi;rw[yk]at this;exact this
 exact .inl ⟨⟨by simp[lB],by simp⟩,wL,rfl⟩;intro t sq hb;have iI:(st.boxes.set s (some (cs.set j x1)))[t]?=some (some sq):=by have:bZ.boxes[t]?=some (some sq):=hb;rw[yk]at this;exact this
 by_cases vr:t=s;subst vr;rw[bJ]at iI;simp only[ch,AW]at iI;simp at iI;subst iI;have JV:g.β t∉f1++ta++f3:=by intro hm;simp only[ay]at hm;rcases hm with(hm|hm)|hm;exact yn (by simp[hm]);rcases(Cf _ hm).2 with h2|h2;exact yn (by simp[h2]);rw[Jq]at h2;cases h2;exact yn (by simp[hm])
 exact .inr ⟨arr,T,fr,_,LC.2.1.trans lz,uv,fM,PO,JV,hll,LC.1,LC.2.2.trans Jt⟩;rw[aP (cZ vr)]at iI;exact .inl ⟨⟨by simp[lB],by simpa using vr⟩,iI,rfl⟩
theorem eJ.apv (h:eJ C g st a w hs)(j:Nat)(iR:st.fN (.io j)=some x0): ∃v f2,iC (df C g st w) v x0 f2/\f2.Nodup/\(∀b∈f2,g.ft b=some .io)/\ ∀(w':World)(hw':Nat->Nat)(x1:AC)(ta:fK),(∀c',(df C g st w).Le c'->c'.w=w'->c'.hw=hw'->iC c' v x1 ta)->ta.Nodup->(∀b∈ta,b<w'.heap.size/\(b∈f2\/eE (g.ft b)))-> Fr (λb=>eE (g.ft b)\/b∈f2) w w'->(∀b x,g.ft b=some x->¬eE (some x)->b∉f2->hw' b=g.hw b)-> ∃g',eJ C g' {st.fU (.io j) x1 with ep:=st.ep+1} a w' []:=by
 have hgx:st.io[j]?=some x0:=by rw[AS.fN,eH]at iR;exact iR
 obtain⟨fp,hr,hn,hl⟩:=h.io;obtain⟨v,f1,f2,f3,hv,rfl,iz,BL,BK,si⟩:=h.Mk .io (by simp[lB]) hr hn hl hgx;refine⟨v,f2,iz,BL,BK,?_⟩;intro w' hw' x1 ta JX Js Cf kb Hr;let bZ:AS:={st.fU (.io j) x1 with ep:=st.ep+1}
 have yk:bZ={st with io:=st.io.set j x1,ep:=st.ep+1}:=by show({st.fU (.io j) x1 with ep:=st.ep+1}:AS)=_;simp only[AS.fU,gj]
 obtain⟨hle,fM,PO,hll,hk1,hk2,Vk,XN⟩:=si w' hw' bZ x1 ta rfl (by rw[yk]) (λs hs=>by rw[yk];exact hs) JX Js Cf kb Hr
 refine⟨_,h.step (λx=>¬eE (some x)/\x≠ .io) hle h.defers ?_ ?_ Vk XN (λb x hk hx=>hk1 b x hk.1 hk.2 hx) ?_ ?_ (λk u bv hk=>by simp at hk) (.inr ⟨_,by
  have:bZ.io=st.io.set j x1:=by rw[yk]
  show bU _ _ bZ.io _;rw[this];exact fM,PO,hll⟩)⟩
 show _=bZ.slots.length;rw[yk];exact h.size;show bZ.boxes.length=bZ.slots.length;rw[yk];exact h.bsize;intro i av hi;have wL:st.slots[i]?=some av:=by have:bZ.slots[i]?=some av:=hi;rw[yk]at this;exact this
 exact .inl ⟨⟨by simp[lB],by simp⟩,wL,rfl⟩;intro t sq hb;have iI:st.boxes[t]?=some (some sq):=by have:bZ.boxes[t]?=some (some sq):=hb;rw[yk]at this;exact this
 exact .inl ⟨⟨by simp[lB],by simp⟩,iI,rfl⟩
theorem eJ.V1 (h:eJ C g st a w hs)(r:lQ)(D9:x0≠ .bot)(iR:st.fN r=some x0): ∃v f2,iC (df C g st w) v x0 f2/\f2.Nodup/\(∀b∈f2,g.ft b=some r.owner)/\ ∀(w':World)(hw':Nat->Nat)(x1:AC)(ta:fK),(∀c',(df C g st w).Le c'->c'.w=w'->c'.hw=hw'->iC c' v x1 ta)->ta.Nodup->(∀b∈ta,b<w'.heap.size/\(b∈f2\/eE (g.ft b)))-> Fr (λb=>eE (g.ft b)\/b∈f2) w w'->(∀b x,g.ft b=some x->¬eE (some x)->b∉f2->hw' b=g.hw b)-> ∃g',eJ C g' {st.fU r x1 with ep:=st.ep+1} a w' []:=by cases r with|slot s j=>exact h.aki s j D9 iR|box s j=>exact h.ams s j iR|io j=>exact h.apv j iR
theorem eJ.V2 (h:eJ C g st a w hs)(r:lQ){tag:az Nat}{e:CT}{xs:ax e.D}(iR:st.fN r=some (.sl (.own tag) e xs)): ∃v f2,(∀t,tag=some t->v=g.hdr t)/\fZ g.hw w (.sl e) [v] xs f2/\f2.Nodup/\(∀b∈f2,g.ft b=some r.owner)/\ ∀(w':World)(hw':Nat->Nat)(RD:ax e.D)(ta:fK),fZ hw' w' (.sl e) [v] RD ta->ta.Nodup->(∀b∈ta,b<w'.heap.size/\(b∈f2\/eE (g.ft b)))-> Fr (λb=>eE (g.ft b)\/b∈f2) w w'->(∀b x,g.ft b=some x->¬eE (some x)->b∉f2->hw' b=g.hw b)-> ∃g',eJ C g' {st.fU r (.sl (.own tag) e RD)with ep:=st.ep+1} a w' []:=by obtain⟨v,f2,fM,BL,BK,si⟩:=h.V1 r (by simp) iR;refine⟨v,f2,λt ht=>(fM.2 t ht).2,fM.1,BL,BK,λw' hw' RD ta iz Js Cf kb Hr=>si w' hw' (.sl (.own tag) e RD) ta (λc' hle Wu HS=>⟨?_,λt ht=>?_⟩) Js Cf kb Hr⟩;rw[Wu,HS];exact iz;have h1:=fM.2 t ht;exact⟨(hle.hdr t h1.1).1,by rw[(hle.hdr t h1.1).2];exact h1.2⟩
theorem eJ.akj (h:eJ C g st a w [])(r:lQ)(D9:x0≠ .bot)(iR:st.fN r=some x0): ∃v f2,iC (df C g st w) v x0 f2/\f2.Nodup/\(∀b∈f2,g.ft b=some r.owner)/\ ∀(x1:AC)(ta fh:fK)(u:Value)(av:AV),(∀c',(df C g st w).Le c'->c'.w=w->c'.hw=g.hw->c'.ep=st.ep->iC c' v x1 ta)->ta.Nodup->fh.Nodup->(∀b∈ta,b∈f2/\b∉fh)->(∀b∈fh,b∈f2)-> gU (df C g st w) u av fh->∃g',eJ C g' (st.fU r x1) a w [(u,av)]:=by
 have core:∀(o:kZ){vs:jt}{cs:ax AC}{fp:fK}{j:Nat},bU (df C g st w) vs cs fp->fp.Nodup->(∀b∈fp,g.ft b=some o)->cs[j]?=some x0->
  ∃v f2,iC (df C g st w) v x0 f2/\f2.Nodup/\(∀b∈f2,g.ft b=some o/\b∈fp)/\
   ∀(bZ:AS)(x1:AC)(ta fh:fK)(u:Value)(av:AV),bZ.ep=st.ep->bZ.iss=st.iss->(∀s,jW st s->jW bZ s)->(∀c',(df C g st w).Le c'->c'.w=w->c'.hw=g.hw->c'.ep=st.ep->iC c' v x1 ta)->ta.Nodup->fh.Nodup->(∀b∈ta,b∈f2/\b∉fh)->(∀b∈fh,b∈f2)->gU (df C g st w) u av fh->
    (df C g st w).Le (df C {g with ft:=λb=>if b∈fh then some (.hand 0) else g.ft b} bZ w)/\
    ∃lx,bU (df C {g with ft:=λb=>if b∈fh then some (.hand 0) else g.ft b} bZ w) vs (cs.set j x1) lx/\lx.Nodup/\(∀b∈lx,b∉fh/\b∈fp)/\
    Ll C {g with ft:=λb=>if b∈fh then some (.hand 0) else g.ft b} bZ w 0 u av:=by
  intro o vs cs fp j fM hn hl hx
  obtain⟨v,f1,f2,f3,hv,rfl,RV,Gq⟩:=fM.anq hx
  have D7:=hn
  rw[aL]at D7
  have n1:=aQ.1 D7
  have n2:=aQ.1 n1.2.1
  refine⟨v,f2,RV,n2.1,λb hb=>⟨hl b (by simp[hb]),by simp[hb]⟩,?_⟩
  intro bZ x1 ta fh u av Aw NW wX hx1 Js Rz Cf RP hu
  have hle:(df C g st w).Le (df C {g with ft:=λb=>if b∈fh then some (.hand 0) else g.ft b} bZ w):=
   ⟨rfl,λt ht=>⟨by show oc bZ t;have ht':oc st t:=ht;simpa[oc,NW]using ht',rfl⟩,λ_ _ _ _ _ hu=>hu,by show st.ep<=bZ.ep;omega,λs hs=>⟨wX s hs,rfl⟩,λ_ b o u ho hu=>⟨ho,hu⟩⟩
  have FI:∀b∈f1++f3,b∉f2:=by intro b hb h2;rcases ay.1 hb with hb|hb;exact n1.2.2 b hb b (bK _ h2) rfl;exact n2.2.2 b h2 b hb rfl
  refine⟨hle,f1++ta++f3,Gq _ hle _ ta (hx1 _ hle rfl rfl Aw) (λ_ _=>⟨rfl,rfl⟩),?_,?_,fh,hu.mono hle (λ_ _=>⟨rfl,rfl⟩),Rz,λb hb=>?_⟩
  ·rw[aL]
   refine aQ.2 ⟨n1.1,aQ.2 ⟨Js,n2.2.1,?_⟩,?_⟩
   ·rintro b hb c hc rfl;exact FI b (by simp[hc]) (Cf b hb).1
   ·rintro b hb c hc rfl
    rcases ay.1 hc with hc|hc
    ·exact FI b (by simp[hb]) (Cf b hc).1
    ·exact n1.2.2 b hb b (bw _ hc) rfl
  ·intro b hb
   simp only[ay]at hb
   rcases hb with(hb|hb)|hb
   ·exact⟨λhm=>FI b (by simp[hb]) (RP b hm),by simp[hb]⟩
   ·exact⟨(Cf b hb).2,by simp[(Cf b hb).1]⟩
   ·exact⟨λhm=>FI b (by simp[hb]) (RP b hm),by simp[hb]⟩
  ·show(if b∈fh then _ else _)=_
   rw[aI hb]
 have Qe:∀(fh:fK),∀b x,(if b∈fh then some (kZ.hand 0) else g.ft b)=some x->(b∈fh->∃y,g.ft b=some y)->b<w.heap.size/\(C.w0.heap.size<=b\/C.M b):=by intro fh b x hx hy;by_cases hm:b∈fh;obtain⟨y,hy⟩:=hy hm;exact h.gW b y hy;rw[aG hm]at hx;exact h.gW b x hx
 have ab5:∀(fh:fK)(o:kZ),(∀b∈fh,g.ft b=some o)->∀b x,x≠o->g.ft b=some x->(if b∈fh then some (kZ.hand 0) else g.ft b)=some x:=by intro fh o RP b x hxo hb;rw[aG (λhm=>hxo (by have:=RP b hm;rw[hb]at this;simpa using this))];exact hb
 cases r with
 |slot s j=>
  have AW:s<st.slots.length:=by
   rcases cr s st.slots.length with gH|Cg;exact gH;have:st.get s=.bot:=by simp[AS.get,eH,bI Cg]
   rw[AS.fN,this]at iR;cases j with|zero=>simp[nth]at iR;exact absurd iR.symm D9|succ j=>simp[nth]at iR
  have hsl:st.slots[s]?=some (st.get s):=by rw[get_eq (al AW)];exact al AW
  obtain⟨fp,hr,hn,hl⟩:=h.slots s _ hsl;cases hg:st.get s with
  |yh ts=>rw[AS.fN,hg]at iR;cases iR
  |val gg cs=>
   have hgx:cs[j]?=some x0:=by rw[AS.fN,hg]at iR;simpa[eH]using iR
   rw[hg]at hr;obtain⟨vs,gb,hr⟩:=hr;have nY:∀x1,st.fU (.slot s j) x1={st with slots:=st.slots.set s (.val gg (cs.set j x1))}:=λx1=>by simp only[AS.fU,hg,AS.put,gj]
   obtain⟨v,f2,S3,BL,BK,si⟩:=core (.slot s) hr hn hl hgx;refine⟨v,f2,S3,BL,λb hb=>(BK b hb).1,?_⟩;intro x1 ta fh u av hx1 Js Rz Cf RP hu;obtain⟨hle,lx,fM,PO,DD,Gk⟩:=si (st.fU (.slot s j) x1) x1 ta fh u av (by rw[nY]) (by rw[nY]) (λ_ q=>by rw[nY];exact q) hx1 Js Rz Cf RP hu;have hfo:∀b∈fh,g.ft b=some (.slot s):=λb hb=>(BK b (RP b hb)).1;refine⟨_,h.step (λx=>x≠ .slot s) hle h.defers ?_ ?_ h.frame (λb x hx=>Qe fh b x hx (λhm=>⟨_,hfo b hm⟩)) (λb x hk hb=>⟨ab5 fh _ hfo b x hk hb,rfl,rfl⟩) ?_ ?_ ?_ (.inl ⟨by simp,by rw[nY]⟩)⟩;rw[nY];simpa using h.size;rw[nY];simpa using h.bsize;intro i bv hi;rw[nY]at hi;have wL:(st.slots.set s (.val gg (cs.set j x1)))[i]?=some bv:=hi;by_cases his:i=s;subst his;rw[bJ]at wL;simp only[ch,AW]at wL;simp at wL;subst wL;refine .inr ⟨lx,⟨vs,gb,fM⟩,PO,λb hb=>?_⟩;show(if b∈fh then _ else _)=_;rw[aG (DD b hb).1];exact hl b (DD b hb).2;rw[aP (cZ his)]at wL;exact .inl ⟨by simpa using his,wL,rfl⟩;intro t sq hb;rw[nY]at hb;exact .inl ⟨by simp,hb,rfl⟩;intro k u' bv hk;cases k with
   |zero=>simp only[cD,bq,Prod.mk.injEq]at hk;obtain⟨rfl,rfl⟩:=hk;exact .inr Gk
   |succ k=>simp at hk
 |box s j=>
  have kQ:∃cs,st.boxes[s]?=some (some cs)/\cs[j]?=some x0:=by rw[AS.fN,eH]at iR;cases hb:st.boxes[s]? with|none=>simp[hb]at iR|some o=>cases o with|none=>simp[hb]at iR|some cs=>exact⟨cs,rfl,by simpa[hb,eH]using iR⟩
  obtain⟨cs,kQ,hgx⟩:=kQ;have AW:s<st.boxes.length:=(aA.1 kQ).1;obtain⟨arr,T,fr,fp,lz,uv,hr,hn,yn,hl,Jq,Jt⟩:=h.boxes s cs kQ;have nY:∀x1,st.fU (.box s j) x1={st with boxes:=st.boxes.set s (some (cs.set j x1))}:=λx1=>by simp only[AS.fU,eH,kQ,gr,AS.fD,gj]
  obtain⟨v,f2,S3,BL,BK,si⟩:=core (.box s) hr hn hl hgx;refine⟨v,f2,S3,BL,λb hb=>(BK b hb).1,?_⟩;intro x1 ta fh u av hx1 Js Rz Cf RP hu;obtain⟨hle,lx,fM,PO,DD,Gk⟩:=si (st.fU (.box s j) x1) x1 ta fh u av (by rw[nY]) (by rw[nY]) (λt ht=>by rw[nY];obtain⟨c0,hc0⟩:=ht;by_cases vr:s=t;subst vr;exact⟨cs.set j x1,by simp[AW]⟩;exact⟨c0,by rw[aP vr];exact hc0⟩) hx1 Js Rz Cf RP hu;have hfo:∀b∈fh,g.ft b=some (.box s):=λb hb=>(BK b (RP b hb)).1;refine⟨_,h.step (λx=>x≠ .box s) hle h.defers ?_ ?_ h.frame (λb x hx=>Qe fh b x hx (λhm=>⟨_,hfo b hm⟩)) (λb x hk hb=>⟨ab5 fh _ hfo b x hk hb,rfl,rfl⟩) ?_ ?_ ?_ (.inl ⟨by simp,by rw[nY]⟩)⟩;rw[nY];exact h.size;rw[nY];simpa using h.bsize;intro i bv hi;rw[nY]at hi;exact .inl ⟨by simp,hi,rfl⟩;intro t sq hb;rw[nY]at hb;have iI:(st.boxes.set s (some (cs.set j x1)))[t]?=some (some sq):=hb;by_cases vr:t=s;subst vr;rw[bJ]at iI;simp only[ch,AW]at iI;simp at iI;subst iI;have LC:g.β t∉fh:=λhm=>yn (BK _ (RP _ hm)).2;refine .inr ⟨arr,T,fr,lx,lz,uv,fM,PO,λhm=>yn (DD _ hm).2,λb hb=>?_,?_,Jt⟩;show(if b∈fh then _ else _)=_;rw[aG (DD b hb).1];exact hl b (DD b hb).2;show(if g.β t∈fh then _ else _)=_;rw[aG LC];exact Jq;rw[aP (cZ vr)]at iI;exact .inl ⟨by simpa using vr,iI,rfl⟩;intro k u' bv hk;cases k with
  |zero=>simp only[cD,bq,Prod.mk.injEq]at hk;obtain⟨rfl,rfl⟩:=hk;exact .inr Gk
  |succ k=>simp at hk
 |io j=>
  have hgx:st.io[j]?=some x0:=by rw[AS.fN,eH]at iR;exact iR
  obtain⟨fp,hr,hn,hl⟩:=h.io;have nY:∀x1,st.fU (.io j) x1={st with io:=st.io.set j x1}:=λx1=>by simp only[AS.fU,gj]
  obtain⟨v,f2,S3,BL,BK,si⟩:=core .io hr hn hl hgx;refine⟨v,f2,S3,BL,λb hb=>(BK b hb).1,?_⟩;intro x1 ta fh u av hx1 Js Rz Cf RP hu;obtain⟨hle,lx,fM,PO,DD,Gk⟩:=si (st.fU (.io j) x1) x1 ta fh u av (by rw[nY]) (by rw[nY]) (λ_ q=>by rw[nY];exact q) hx1 Js Rz Cf RP hu;have hfo:∀b∈fh,g.ft b=some .io:=λb hb=>(BK b (RP b hb)).1;refine⟨_,h.step (λx=>x≠ .io) hle h.defers ?_ ?_ h.frame (λb x hx=>Qe fh b x hx (λhm=>⟨_,hfo b hm⟩)) (λb x hk hb=>⟨ab5 fh _ hfo b x hk hb,rfl,rfl⟩) ?_ ?_ ?_ (.inr ⟨lx,?_,PO,λb hb=>?_⟩)⟩;rw[nY];exact h.size;rw[nY];exact h.bsize;intro i bv hi;rw[nY]at hi;exact .inl ⟨by simp,hi,rfl⟩;intro t sq hb;rw[nY]at hb;exact .inl ⟨by simp,hb,rfl⟩;intro k u' bv hk;cases k with
  |zero=>simp only[cD,bq,Prod.mk.injEq]at hk;obtain⟨rfl,rfl⟩:=hk;exact .inr Gk
  |succ k=>simp at hk
  have:(st.fU (.io j) x1).io=st.io.set j x1:=by rw[nY]
  rw[this];exact fM;show(if b∈fh then _ else _)=_;rw[aG (DD b hb).1];exact hl b (DD b hb).2
theorem eJ.abt (h:eJ C g st a w hs){v:Value}{x:AC}(r:iC (df C g st w) v x []):iC (df C g st w) v (st.fresh x) []:=by
 unfold AS.fresh;split;rename_i ep rt t e xs;cases Aw:(ep==st.ep)with
 |true=>exact r
 |false=>
  simp only[af];split;rename_i t' e' ys iR;split;rename_i he;subst he;cases ht:(t'==t)with
  |false=>exact r
  |true=>
   have:t'=t:=by simpa using ht
   subst this;simp only[ah];obtain⟨v0,f2,hh,iz,_,_,_⟩:=h.V2 rt iR;obtain⟨h1,h2,h3,h4,h5⟩:=r;obtain⟨k1,k2⟩:=h5 rt t' rfl;have hv:v0=v:=(hh t' rfl).trans k2.symm;subst hv;exact⟨h1,bj _,Qt iz,λ_=>fZ.rep (λb o ho=> .inr ho) iz,λr1 t1 hp=>by simp at hp;obtain⟨_,rfl⟩:=hp;exact⟨k1,k2⟩⟩
  exact r;exact r
 exact r
theorem eJ.MN (h:eJ C g st a w hs):∀{vs:jt}{xs:ax AC},bU (df C g st w) vs xs []->bU (df C g st w) vs (xs.map st.fresh) []
 |[],[],r=>r
 |_::_,_::_,r=>by
  obtain⟨f1,f2,he,r1,r2⟩:=r;have h1:f1=[]:=by have:=he.symm;simp at this;exact this.1
  have h2:f2=[]:=by have:=he.symm;simp at this;exact this.2
  subst h1;subst h2;exact⟨[],[],rfl,h.abt r1,h.MN r2⟩
 |[],_::_,r=>r.elim
 |_::_,[],r=>r.elim
theorem eJ.fresh (h:eJ C g st a w hs){v:Value}{x:AV}(r:gU (df C g st w) v x []):gU (df C g st w) v (x.fresh st) []:=by
 cases x with
 |val gg cs=>obtain⟨vs,hv,r⟩:=r;exact⟨vs,hv,h.MN r⟩
 |yh ts=>exact r
end Go.Dn
