import Derived.Test.YtnmppgnbjfdffaaGreatDnPut
/- A box is made or written; an element of an owned slice is written. -/
namespace Go.Dn
open Go.RowKit
variable {C:Ctx} {g:Gh} {st:AS} {a:Act} {w:World} {hs:aw (Value×AV)}
variable {x0:AC} {fp:ff}
theorem jI {s:Nat}{b:ay (aw AC)}:(st.eu s b).boxes=st.boxes.set s b:=by simp[AS.eu,fb]
theorem MH {s:Nat}{cs:aw AC}{g':Gh}{w':World}(Ln:g'.hdr=g.hdr)(W4:∀k b o u,C.A k b o->w.cell? ⟨b,o,none⟩=some u->w'.cell? ⟨b,o,none⟩=some u)(Gq:∀t,iQ st t->g'.β t=g.β t)(EY:∀b o u,o<g.hw b->w.cell? ⟨b,o,none⟩=some u->o<g'.hw b/\w'.cell? ⟨b,o,none⟩=some u): (cH C g st w).Le (cH C g' (st.eu s (some cs)) w'):=by refine⟨rfl,λt ht=>⟨ht,by show g'.hdr t=g.hdr t;rw[Ln]⟩,W4,aS _,λt ht=>⟨?_,Gq t ht⟩,λ_ b o u ho hu=>EY b o u ho hu⟩;obtain⟨oS,hc⟩:=ht;show∃ak2,(st.eu s (some cs)).boxes[t]?=some (some ak2);rw[jI];by_cases rb:s=t;subst rb;have hG:s<st.boxes.length:=(aE.1 hc).1;exact⟨cs,by simp[hG]⟩;exact⟨oS,by rw[aP rb];exact hc⟩
theorem dH.SS (h:dH C g st a w hs)(s:Nat){cs:aw AC}{arr:Array Value}{T:TypeId}{fr:Nat×Nat}{w':World}{bnew:Nat}{hw':Nat->Nat}(hbn:(bnew=g.β s/\g.dX bnew=some (.box s))\/(w.heap.size<=bnew/\st.boxes[s]?=some none))(je:Fr (λb=>dD (g.dX b)\/b=bnew) w w')(jK:w'.heap[bnew]?=some (.cells arr T fr))(qv:oo arr fr)(hG:bnew<w'.heap.size)(alz:hw' bnew=0)(CH:∀b x,g.dX b=some x->¬dD (some x)->b≠bnew->hw' b=g.hw b)(EY:∀b o u,o<g.hw b->w.cell? ⟨b,o,none⟩=some u->o<hw' b/\w'.cell? ⟨b,o,none⟩=some u)(hr:bA ⟨hw',λt=>if t=s then bnew else g.β t,C.A,g.hdr,lJ st,st.ep,iQ st,w'⟩ arr.toList cs fp)(hn:fp.Nodup)(tZ:bnew∉fp)(AU:∀b∈fp,b<w'.heap.size/\(dD (g.dX b)\/g.dX b=some (.box s)\/w.heap.size<=b)): ∃g',g'.β s=bnew/\dH C g' (st.eu s (some cs)) a w' []:=by
 have W4:∀k b o u,C.A k b o->w.cell? ⟨b,o,none⟩=some u->w'.cell? ⟨b,o,none⟩=some u:=by
  intro k b o u hA hu;have hb:b<w.heap.size:=World.block_lt_of_cell? w _ hu;have Hw:¬(dD (g.dX b)\/b=bnew):=by
   rintro(hh|rfl);cases hx:g.dX b with|none=>rw[hx]at hh;cases hh|some x=>exact h.J0 hx k o hA
   rcases hbn with⟨_,h2⟩|h2;exact h.J0 h2 k o hA;omega
  rw[World.cell?_of_block (a:=⟨b,o,none⟩) (je.block b hb Hw)];exact hu
 have Ad:∀b x,g.dX b=some x->x≠ .box s->b≠bnew:=by rintro b x hx hxs rfl;rcases hbn with⟨_,h2⟩|h2;rw[hx]at h2;exact hxs (by simpa using h2);have:=(h.fQ b x hx).1;omega
 have hkp:∀b x,g.dX b=some x->¬dD (some x)->x≠ .box s->w'.heap[b]?=w.heap[b]?:=λb x hx hh hxs=>
  je.block b (h.fQ b x hx).1 (by rintro(k|k);rw[hx]at k;exact hh k;exact Ad b x hx hxs k)
 let β':Nat->Nat:=λt=>if t=s then bnew else g.β t
 let XH:Nat->ay jy:=λb=>if b=bnew\/b∈fp then some (.box s) else if dD (g.dX b) then none else g.dX b
 let g':Gh:=⟨hw',β',XH,g.hdr⟩
 have Od:Fr C.M C.w0 w':=h.frame.trans je (λb hb hh=>by
  rcases hh with hh|rfl;cases hx:g.dX b with|none=>rw[hx]at hh;cases hh|some x=>rcases(h.fQ b x hx).2 with h2|h2;omega;exact h2
  rcases hbn with⟨_,h2⟩|h2;rcases(h.fQ b _ h2).2 with h3|h3;omega;exact h3;have:=h.frame.size;omega)
 have Gq:∀t,iQ st t->β' t=g.β t:=by rintro t ⟨oS,hc⟩;show(if t=s then bnew else g.β t)=g.β t;by_cases rb:t=s;subst rb;rcases hbn with⟨h2,_⟩|⟨_,h2⟩;simp[h2];rw[h2]at hc;cases hc;simp[rb]
 have hle:(cH C g st w).Le (cH C g' (st.eu s (some cs)) w'):=MH rfl W4 Gq EY;have afl:(RC.mk hw' β' C.A g.hdr (lJ st) st.ep (iQ st) w').Le (cH C g' (st.eu s (some cs)) w'):=⟨rfl,λ_ ht=>⟨ht,rfl⟩,λ_ _ _ _ _ hu=>hu,aS _,λt ht=>⟨(hle.FA t ht).1,rfl⟩,λ_ b o u ho hu=>⟨ho,hu⟩⟩
 refine⟨g',by show(if s=s then bnew else g.β s)=bnew;simp,h.step (λx=>¬dD (some x)/\x≠ .box s) hle h.defers h.size ?_ Od ?_ ?_ ?_ ?_ ?_ (.inl ⟨⟨by simp[jM],by simp⟩,rfl⟩)⟩;show(st.eu s (some cs)).boxes.length=st.slots.length;rw[jI,aB];exact h.bsize;intro b x hx;have yT:(if b=bnew\/b∈fp then some (jy.box s) else if dD (g.dX b) then none else g.dX b)=some x:=hx;by_cases hm:b=bnew\/b∈fp;rcases hm with rfl|hm;refine⟨hG,?_⟩;rcases hbn with⟨_,h2⟩|h2;exact(h.fQ b _ h2).2;exact .inl (bk h.frame.size h2.1);refine⟨(AU b hm).1,?_⟩;rcases(AU b hm).2 with h2|h2|h2;cases hy:g.dX b with|none=>rw[hy]at h2;cases h2|some y=>exact(h.fQ b y hy).2
 exact(h.fQ b _ h2).2;exact .inl (bk h.frame.size h2);rw[aG hm]at yT;split at yT;cases yT;have hl:=h.fQ b x yT;have hz:=je.size;exact⟨by omega,hl.2⟩;intro b x hk hx;have hb1:=Ad b x hx hk.2;refine⟨?_,hkp b x hx hk.1 hk.2,CH b x hx hk.1 hb1⟩;show(if b=bnew\/b∈fp then some (jy.box s) else if dD (g.dX b) then none else g.dX b)=some x;have TL:¬(b=bnew\/b∈fp):=by rintro(hm|hm);exact hb1 hm;rcases(AU b hm).2 with h2|h2|h2;rw[hx]at h2;exact hk.1 h2;rw[hx]at h2;exact hk.2 (by simpa using h2);have:=(h.fQ b x hx).1;omega
 rw[aG TL,aG (by rw[hx];exact hk.1),hx];intro i av hi;exact .inl ⟨⟨by simp[jM],by simp⟩,hi,rfl⟩;intro t oS hb;have gK:(st.boxes.set s (some cs))[t]?=some (some oS):=by rw[<-jI];exact hb
 by_cases rb:t=s;subst rb;rw[bm]at gK;simp only[bM]at gK;split at gK;simp at gK;subst gK;have ac7:β' t=bnew:=by show(if t=t then bnew else g.β t)=bnew;simp
 refine .inr ⟨arr,T,fr,fp,?_,qv,hr.mono afl (λb _=>⟨rfl,rfl⟩),hn,?_,?_,?_,?_⟩;show w'.heap[β' t]?=_;rw[ac7];exact jK;show β' t∉fp;rw[ac7];exact tZ;intro b hb;show(if b=bnew\/b∈fp then _ else _)=_;rw[aF (.inr hb)];show(if β' t=bnew\/β' t∈fp then _ else _)=_;rw[aF (.inl ac7)];show hw' (β' t)=0;rw[ac7];exact alz;cases gK;rw[aP (cL rb)]at gK;exact .inl ⟨⟨by simp[jM],by simpa using rb⟩,gK,by show(if t=s then bnew else g.β t)=_;simp[rb]⟩;intro k u bv hk;simp at hk
def jU.owner:jU->jy
 | .slot s _=> .slot s
 | .box s _=> .box s
 | .io _=> .io
theorem bA.aeA {c:RC}{vs:ir}{cs:aw AC}(hr:bA c vs cs fp){j:Nat}{x:AC}(hx:cs[j]?=some x): ∃v f1 f2 f3,vs[j]?=some v/\fp=f1++f2++f3/\gy c v x f2/\ ∀(c':RC),c.Le c'->∀x' f2',gy c' v x' f2'->(∀b∈f1++f3,c'.w.heap[b]?=c.w.heap[b]?/\c'.hw b=c.hw b)-> bA c' vs (cs.set j x') (f1++f2'++f3):=by
 have hj:j<cs.length:=(aE.1 hx).1;obtain⟨f1,fr,rfl,r1,r2⟩:=hr.split j;have hlen:=hr.length;have hjv:j<vs.length:=by omega
 have ecs:cs.drop j=x::cs.drop (j+1):=by rw[bK hj];congr 1;rw[al hj]at hx;simpa using hx
 have evs:vs.drop j=vs[j]::vs.drop (j+1):=bK hjv;rw[ecs,evs]at r2;obtain⟨f2,f3,rfl,r2,r3⟩:=r2;refine⟨vs[j],f1,f2,f3,al hjv,by simp,r2,λc' hle x' f2' yT hb=>?_⟩;have e1:vs=vs.take j++(vs[j]::vs.drop (j+1)):=by rw[<-evs,bU]
 have e2:cs.set j x'=cs.take j++(x'::cs.drop (j+1)):=by rw[List.set_eq_take_append_cons_drop,aF hj]
 rw[e1,e2,aJ];refine bA.append (r1.mono hle (λb gK=>hb b (bn _ gK))) ⟨f2',f3,rfl,yT,?_⟩;exact r3.mono hle (λb gK=>hb b (ba _ gK))
def Gh.wrote (g:Gh)(o:jy)(fp:ff)(hw':Nat->Nat):Gh:=
 ⟨hw',g.β,λb=>if b∈fp then some o else if dD (g.dX b) then none else g.dX b,g.hdr⟩
theorem dH.GY (h:dH C g st a w hs)(o:jy)(La:¬dD (some o)){vs:ir}{cs:aw AC}{j:Nat}(eI:bA (cH C g st w) vs cs fp)(hn:fp.Nodup)(hl:∀b∈fp,g.dX b=some o)(hx:cs[j]?=some x0): ∃v f1 f2 f3,vs[j]?=some v/\fp=f1++f2++f3/\gy (cH C g st w) v x0 f2/\f2.Nodup/\(∀b∈f2,g.dX b=some o)/\ ∀(w':World)(hw':Nat->Nat)(bI:AS)(x1:AC)(pw:ff),bI.ep=st.ep+1->bI.iss=st.iss->(∀s,iQ st s->iQ bI s)-> (∀c',(cH C g st w).Le c'->c'.w=w'->c'.hw=hw'->gy c' v x1 pw)->pw.Nodup->(∀b∈pw,b<w'.heap.size/\(b∈f2\/dD (g.dX b)))-> Fr (λb=>dD (g.dX b)\/b∈f2) w w'->(∀b x,g.dX b=some x->¬dD (some x)->b∉f2->hw' b=g.hw b)-> (cH C g st w).Le (cH C (g.wrote o (f1++pw++f3) hw') bI w')/\ bA (cH C (g.wrote o (f1++pw++f3) hw') bI w') vs (cs.set j x1) (f1++pw++f3)/\(f1++pw++f3).Nodup/\ (∀b∈f1++pw++f3,(g.wrote o (f1++pw++f3) hw').dX b=some o)/\ (∀b x,¬dD (some x)->x≠o->g.dX b=some x->(g.wrote o (f1++pw++f3) hw').dX b=some x/\w'.heap[b]?=w.heap[b]?/\hw' b=g.hw b)/\ (∀b,g.dX b=some o->b∉fp->(g.wrote o (f1++pw++f3) hw').dX b=some o/\w'.heap[b]?=w.heap[b]?/\hw' b=g.hw b)/\ Fr C.M C.w0 w'/\(∀b x,(g.wrote o (f1++pw++f3) hw').dX b=some x->b<w'.heap.size/\(C.w0.heap.size<=b\/C.M b)):=by
 obtain⟨v,f1,f2,f3,hv,rfl,Lr,BN⟩:=eI.aeA hx;have AY:=hn;rw[aJ]at AY;have n1:=aH.1 AY;have n2:=aH.1 n1.2.1;have Bd:∀b∈f1++f3,b∉f2:=by intro b hb h2;rcases ax.1 hb with hb|hb;exact n1.2.2 b hb b (bn _ h2) rfl;exact n2.2.2 b h2 b hb rfl
 refine⟨v,f1,f2,f3,hv,rfl,Lr,n2.1,λb hb=>hl b (by simp[hb]),?_⟩;intro w' hw' bI x1 pw vY Ib sL gC Gn xK je CH;have W4:∀k b o u,C.A k b o->w.cell? ⟨b,o,none⟩=some u->w'.cell? ⟨b,o,none⟩=some u:=by
  intro k b o u hA hu;have hb:b<w.heap.size:=World.block_lt_of_cell? w _ hu;have Hw:¬(dD (g.dX b)\/b∈f2):=by
   rintro(hh|hm);cases hx:g.dX b with|none=>rw[hx]at hh;cases hh|some x=>exact h.J0 hx k o hA
   exact h.J0 (hl b (by simp[hm])) k o hA
  rw[World.cell?_of_block (a:=⟨b,o,none⟩) (je.block b hb Hw)];exact hu
 have hle:(cH C g st w).Le (cH C (g.wrote o (f1++pw++f3) hw') bI w'):=⟨rfl,λt ht=>⟨by show lJ bI t;have SA:lJ st t:=ht;simpa[lJ,Ib]using SA,rfl⟩,W4,by show st.ep<=bI.ep;omega,λs hs=>⟨sL s hs,rfl⟩,λhe=>absurd he (by show bI.ep≠st.ep;omega)⟩
 have qC:∀b x,¬dD (some x)->g.dX b=some x->b∉f2->w'.heap[b]?=w.heap[b]?/\hw' b=g.hw b:=by intro b x hh hb hm;exact⟨je.block b (h.fQ b _ hb).1 (by rintro(k|k);rw[hb]at k;exact hh k;exact hm k),CH b _ hb hh hm⟩
 have hd1:∀b∈f1++f3,b∉pw:=by intro b hb hm;rcases(xK b hm).2 with h2|h2;exact Bd b hb h2;have Mq:g.dX b=some o:=hl b (by rcases ax.1 hb with hb|hb<;>simp[hb]);rw[Mq]at h2;exact La h2
 refine⟨hle,?_,?_,?_,?_,?_,?_,?_⟩;refine BN _ hle _ pw (gC _ hle rfl rfl) (λb hb=>?_);exact qC b o La (hl b (by rcases ax.1 hb with hb|hb<;>simp[hb])) (Bd b hb);rw[aJ];refine aH.2 ⟨n1.1,aH.2 ⟨Gn,n2.2.1,?_⟩,?_⟩;rintro b hb c hc rfl;exact hd1 b (by simp[hc]) hb;rintro b hb c hc rfl;rcases ax.1 hc with hc|hc;exact hd1 b (by simp[hb]) hc;exact n1.2.2 b hb b (ba _ hc) rfl;intro b hb;show(if b∈f1++pw++f3 then _ else _)=_;rw[aF hb];intro b x hh hxo hb;have hm2:b∉f2:=λhm=>hxo (by have:=hl b (by simp[hm]);rw[hb]at this;simpa using this);refine⟨?_,qC b x hh hb hm2⟩;show(if b∈f1++pw++f3 then _ else if dD (g.dX b) then none else g.dX b)=_;have TL:b∉f1++pw++f3:=by intro hm;simp only[ax]at hm;rcases hm with(hm|hm)|hm;exact hxo (by have:=hl b (by simp[hm]);rw[hb]at this;simpa using this);rcases(xK b hm).2 with h2|h2;exact hm2 h2;rw[hb]at h2;exact hh h2;exact hxo (by have:=hl b (by simp[hm]);rw[hb]at this;simpa using this)
 rw[aG TL,aG (by rw[hb];exact hh),hb];intro b hb hm;have hm2:b∉f2:=λk=>hm (by simp[k]);refine⟨?_,qC b o La hb hm2⟩;show(if b∈f1++pw++f3 then _ else if dD (g.dX b) then none else g.dX b)=_;rw[aG (c:=dD (g.dX b)) (by rw[hb];exact La),hb];split<;>rfl;refine h.frame.trans je (λb hb hh=>?_);rcases hh with hh|hm;cases hx:g.dX b with|none=>rw[hx]at hh;cases hh|some x=>rcases(h.fQ b x hx).2 with h2|h2;omega;exact h2
 rcases(h.fQ b o (hl b (by simp[hm]))).2 with h2|h2;omega;exact h2;intro b x hx;have yT:(if b∈f1++pw++f3 then some o else if dD (g.dX b) then none else g.dX b)=some x:=hx;have hz:=je.size;have old:∀y,g.dX b=some y->b<w'.heap.size/\(C.w0.heap.size<=b\/C.M b):=λy hy=>⟨Nat.lt_of_lt_of_le (h.fQ b y hy).1 hz,(h.fQ b y hy).2⟩
 split at yT;rename_i hm;simp only[ax]at hm;rcases hm with(hm|hm)|hm;exact old o (hl b (by simp[hm]));rcases(xK b hm).2 with h2|h2;exact old o (hl b (by simp[h2]));cases hy:g.dX b with|none=>rw[hy]at h2;cases h2|some y=>exact old y hy
 exact old o (hl b (by simp[hm]));split at yT;cases yT;exact old x yT
theorem dH.abI (h:dH C g st a w hs)(s j:Nat)(Ad:x0≠ .bot)(gG:st.eJ (.slot s j)=some x0): ∃v f2,gy (cH C g st w) v x0 f2/\f2.Nodup/\(∀b∈f2,g.dX b=some (.slot s))/\ ∀(w':World)(hw':Nat->Nat)(x1:AC)(pw:ff),(∀c',(cH C g st w).Le c'->c'.w=w'->c'.hw=hw'->gy c' v x1 pw)->pw.Nodup->(∀b∈pw,b<w'.heap.size/\(b∈f2\/dD (g.dX b)))-> Fr (λb=>dD (g.dX b)\/b∈f2) w w'->(∀b x,g.dX b=some x->¬dD (some x)->b∉f2->hw' b=g.hw b)-> ∃g',dH C g' {st.eP (.slot s j) x1 with ep:=st.ep+1} a w' []:=by
 have wF:s<st.slots.length:=by
  rcases bW s st.slots.length with hG|yc;exact hG;have:st.get s=.bot:=by simp[AS.get,dF,bu yc]
  rw[AS.eJ,this]at gG;cases j with|zero=>simp[nth]at gG;exact absurd gG.symm Ad|succ j=>simp[nth]at gG
 have hsl:st.slots[s]?=some (st.get s):=by rw[get_eq (al wF)];exact al wF
 obtain⟨fp,hr,hn,hl⟩:=h.slots s _ hsl;cases hg:st.get s with
 |tS ts=>rw[AS.eJ,hg]at gG;cases gG
 |val gg cs=>
  have hgx:cs[j]?=some x0:=by rw[AS.eJ,hg]at gG;simpa[dF]using gG
  rw[hg]at hr;obtain⟨vs,eY,hr⟩:=hr;obtain⟨v,f1,f2,f3,hv,rfl,gC,Bg,xo,oO⟩:=h.GY (.slot s) (by simp[jM]) hr hn hl hgx;refine⟨v,f2,gC,Bg,xo,?_⟩;intro w' hw' x1 pw EX Gn xK je CH;let bI:AS:={st.eP (.slot s j) x1 with ep:=st.ep+1}
  have tW:bI={st with slots:=st.slots.set s (.val gg (cs.set j x1)),ep:=st.ep+1}:=by show({st.eP (.slot s j) x1 with ep:=st.ep+1}:AS)=_;simp only[AS.eP,hg,AS.put,fb]
  obtain⟨hle,eI,JE,hll,hk1,hk2,Od,Qv⟩:=oO w' hw' bI x1 pw rfl (by rw[tW]) (λs hs=>by rw[tW];exact hs) EX Gn xK je CH;refine⟨_,h.step (λx=>¬dD (some x)/\x≠ .slot s) hle h.defers ?_ ?_ Od Qv (λb x hk hx=>hk1 b x hk.1 hk.2 hx) ?_ ?_ (λk u bv hk=>by simp at hk) (.inl ⟨⟨by simp[jM],by simp⟩,by show bI.io=st.io;rw[tW]⟩)⟩;show _=bI.slots.length;rw[tW];simpa using h.size;show bI.boxes.length=bI.slots.length;rw[tW];simpa using h.bsize;intro i av hi;have tU:(st.slots.set s (.val gg (cs.set j x1)))[i]?=some av:=by have:bI.slots[i]?=some av:=hi;rw[tW]at this;exact this
  by_cases his:i=s;subst his;rw[bm]at tU;simp only[bM,wF]at tU;simp at tU;subst tU;exact .inr ⟨_,⟨vs,eY,eI⟩,JE,hll⟩;rw[aP (cL his)]at tU;exact .inl ⟨⟨by simp[jM],by simpa using his⟩,tU,rfl⟩;intro t oS hb;have gK:st.boxes[t]?=some (some oS):=by have:bI.boxes[t]?=some (some oS):=hb;rw[tW]at this;exact this
  exact .inl ⟨⟨by simp[jM],by simp⟩,gK,rfl⟩
theorem dH.adG (h:dH C g st a w hs)(s j:Nat)(gG:st.eJ (.box s j)=some x0): ∃v f2,gy (cH C g st w) v x0 f2/\f2.Nodup/\(∀b∈f2,g.dX b=some (.box s))/\ ∀(w':World)(hw':Nat->Nat)(x1:AC)(pw:ff),(∀c',(cH C g st w).Le c'->c'.w=w'->c'.hw=hw'->gy c' v x1 pw)->pw.Nodup->(∀b∈pw,b<w'.heap.size/\(b∈f2\/dD (g.dX b)))-> Fr (λb=>dD (g.dX b)\/b∈f2) w w'->(∀b x,g.dX b=some x->¬dD (some x)->b∉f2->hw' b=g.hw b)-> ∃g',dH C g' {st.eP (.box s j) x1 with ep:=st.ep+1} a w' []:=by
 have jt:∃cs,st.boxes[s]?=some (some cs)/\cs[j]?=some x0:=by rw[AS.eJ,dF]at gG;cases hb:st.boxes[s]? with|none=>simp[hb]at gG|some o=>cases o with|none=>simp[hb]at gG|some cs=>exact⟨cs,rfl,by simpa[hb,dF]using gG⟩
 obtain⟨cs,jt,hgx⟩:=jt;have wF:s<st.boxes.length:=(aE.1 jt).1;obtain⟨arr,T,fr,fp,jK,qv,hr,hn,tZ,hl,Eo,Er⟩:=h.boxes s cs jt;obtain⟨v,f1,f2,f3,hv,rfl,gC,Bg,xo,oO⟩:=h.GY (.box s) (by simp[jM]) hr hn hl hgx;refine⟨v,f2,gC,Bg,xo,?_⟩;intro w' hw' x1 pw EX Gn xK je CH;let bI:AS:={st.eP (.box s j) x1 with ep:=st.ep+1}
 have tW:bI={st with boxes:=st.boxes.set s (some (cs.set j x1)),ep:=st.ep+1}:=by show({st.eP (.box s j) x1 with ep:=st.ep+1}:AS)=_;simp only[AS.eP,dF,jt,fj,AS.eu,fb]
 obtain⟨hle,eI,JE,hll,hk1,hk2,Od,Qv⟩:=oO w' hw' bI x1 pw rfl (by rw[tW]) (λt ht=>by rw[tW];obtain⟨c0,VO⟩:=ht;by_cases rb:s=t;subst rb;exact⟨cs.set j x1,by simp[wF]⟩;exact⟨c0,by rw[aP rb];exact VO⟩) EX Gn xK je CH;have Gq:=hk2 (g.β s) Eo tZ;refine⟨_,h.step (λx=>¬dD (some x)/\x≠ .box s) hle h.defers ?_ ?_ Od Qv (λb x hk hx=>hk1 b x hk.1 hk.2 hx) ?_ ?_ (λk u bv hk=>by simp at hk) (.inl ⟨⟨by simp[jM],by simp⟩,by show bI.io=st.io;rw[tW]⟩)⟩;show _=bI.slots.length;rw[tW];exact h.size;show bI.boxes.length=bI.slots.length;rw[tW];simpa using h.bsize;intro i av hi;have tU:st.slots[i]?=some av:=by have:bI.slots[i]?=some av:=hi;rw[tW]at this;exact this
 exact .inl ⟨⟨by simp[jM],by simp⟩,tU,rfl⟩;intro t oS hb;have gK:(st.boxes.set s (some (cs.set j x1)))[t]?=some (some oS):=by have:bI.boxes[t]?=some (some oS):=hb;rw[tW]at this;exact this
 by_cases rb:t=s;subst rb;rw[bm]at gK;simp only[bM,wF]at gK;simp at gK;subst gK;have EW:g.β t∉f1++pw++f3:=by intro hm;simp only[ax]at hm;rcases hm with(hm|hm)|hm;exact tZ (by simp[hm]);rcases(xK _ hm).2 with h2|h2;exact tZ (by simp[h2]);rw[Eo]at h2;cases h2;exact tZ (by simp[hm])
 exact .inr ⟨arr,T,fr,_,Gq.2.1.trans jK,qv,eI,JE,EW,hll,Gq.1,Gq.2.2.trans Er⟩;rw[aP (cL rb)]at gK;exact .inl ⟨⟨by simp[jM],by simpa using rb⟩,gK,rfl⟩
theorem dH.agl (h:dH C g st a w hs)(j:Nat)(gG:st.eJ (.io j)=some x0): ∃v f2,gy (cH C g st w) v x0 f2/\f2.Nodup/\(∀b∈f2,g.dX b=some .io)/\ ∀(w':World)(hw':Nat->Nat)(x1:AC)(pw:ff),(∀c',(cH C g st w).Le c'->c'.w=w'->c'.hw=hw'->gy c' v x1 pw)->pw.Nodup->(∀b∈pw,b<w'.heap.size/\(b∈f2\/dD (g.dX b)))-> Fr (λb=>dD (g.dX b)\/b∈f2) w w'->(∀b x,g.dX b=some x->¬dD (some x)->b∉f2->hw' b=g.hw b)-> ∃g',dH C g' {st.eP (.io j) x1 with ep:=st.ep+1} a w' []:=by
 have hgx:st.io[j]?=some x0:=by rw[AS.eJ,dF]at gG;exact gG
 obtain⟨fp,hr,hn,hl⟩:=h.io;obtain⟨v,f1,f2,f3,hv,rfl,gC,Bg,xo,oO⟩:=h.GY .io (by simp[jM]) hr hn hl hgx;refine⟨v,f2,gC,Bg,xo,?_⟩;intro w' hw' x1 pw EX Gn xK je CH;let bI:AS:={st.eP (.io j) x1 with ep:=st.ep+1}
 have tW:bI={st with io:=st.io.set j x1,ep:=st.ep+1}:=by show({st.eP (.io j) x1 with ep:=st.ep+1}:AS)=_;simp only[AS.eP,fb]
 obtain⟨hle,eI,JE,hll,hk1,hk2,Od,Qv⟩:=oO w' hw' bI x1 pw rfl (by rw[tW]) (λs hs=>by rw[tW];exact hs) EX Gn xK je CH
 refine⟨_,h.step (λx=>¬dD (some x)/\x≠ .io) hle h.defers ?_ ?_ Od Qv (λb x hk hx=>hk1 b x hk.1 hk.2 hx) ?_ ?_ (λk u bv hk=>by simp at hk) (.inr ⟨_,by
  have:bI.io=st.io.set j x1:=by rw[tW]
  show bA _ _ bI.io _;rw[this];exact eI,JE,hll⟩)⟩
 show _=bI.slots.length;rw[tW];exact h.size;show bI.boxes.length=bI.slots.length;rw[tW];exact h.bsize;intro i av hi;have tU:st.slots[i]?=some av:=by have:bI.slots[i]?=some av:=hi;rw[tW]at this;exact this
 exact .inl ⟨⟨by simp[jM],by simp⟩,tU,rfl⟩;intro t oS hb;have gK:st.boxes[t]?=some (some oS):=by have:bI.boxes[t]?=some (some oS):=hb;rw[tW]at this;exact this
 exact .inl ⟨⟨by simp[jM],by simp⟩,gK,rfl⟩
theorem dH.OS (h:dH C g st a w hs)(r:jU)(Ad:x0≠ .bot)(gG:st.eJ r=some x0): ∃v f2,gy (cH C g st w) v x0 f2/\f2.Nodup/\(∀b∈f2,g.dX b=some r.owner)/\ ∀(w':World)(hw':Nat->Nat)(x1:AC)(pw:ff),(∀c',(cH C g st w).Le c'->c'.w=w'->c'.hw=hw'->gy c' v x1 pw)->pw.Nodup->(∀b∈pw,b<w'.heap.size/\(b∈f2\/dD (g.dX b)))-> Fr (λb=>dD (g.dX b)\/b∈f2) w w'->(∀b x,g.dX b=some x->¬dD (some x)->b∉f2->hw' b=g.hw b)-> ∃g',dH C g' {st.eP r x1 with ep:=st.ep+1} a w' []:=by cases r with|slot s j=>exact h.abI s j Ad gG|box s j=>exact h.adG s j gG|io j=>exact h.agl j gG
theorem dH.OT (h:dH C g st a w hs)(r:jU){tag:ay Nat}{e:CT}{xs:aw e.D}(gG:st.eJ r=some (.sl (.own tag) e xs)): ∃v f2,(∀t,tag=some t->v=g.hdr t)/\eV g.hw w (.sl e) [v] xs f2/\f2.Nodup/\(∀b∈f2,g.dX b=some r.owner)/\ ∀(w':World)(hw':Nat->Nat)(Lc:aw e.D)(pw:ff),eV hw' w' (.sl e) [v] Lc pw->pw.Nodup->(∀b∈pw,b<w'.heap.size/\(b∈f2\/dD (g.dX b)))-> Fr (λb=>dD (g.dX b)\/b∈f2) w w'->(∀b x,g.dX b=some x->¬dD (some x)->b∉f2->hw' b=g.hw b)-> ∃g',dH C g' {st.eP r (.sl (.own tag) e Lc)with ep:=st.ep+1} a w' []:=by obtain⟨v,f2,eI,Bg,xo,oO⟩:=h.OS r (by simp) gG;refine⟨v,f2,λt ht=>(eI.2 t ht).2,eI.1,Bg,xo,λw' hw' Lc pw gC Gn xK je CH=>oO w' hw' (.sl (.own tag) e Lc) pw (λc' hle Pq C4=>⟨?_,λt ht=>?_⟩) Gn xK je CH⟩;rw[Pq,C4];exact gC;have h1:=eI.2 t ht;exact⟨(hle.hdr t h1.1).1,by rw[(hle.hdr t h1.1).2];exact h1.2⟩
theorem dH.abJ (h:dH C g st a w [])(r:jU)(Ad:x0≠ .bot)(gG:st.eJ r=some x0): ∃v f2,gy (cH C g st w) v x0 f2/\f2.Nodup/\(∀b∈f2,g.dX b=some r.owner)/\ ∀(x1:AC)(pw fh:ff)(u:Value)(av:AV),(∀c',(cH C g st w).Le c'->c'.w=w->c'.hw=g.hw->c'.ep=st.ep->gy c' v x1 pw)->pw.Nodup->fh.Nodup->(∀b∈pw,b∈f2/\b∉fh)->(∀b∈fh,b∈f2)-> fP (cH C g st w) u av fh->∃g',dH C g' (st.eP r x1) a w [(u,av)]:=by
 have core:∀(o:jy){vs:ir}{cs:aw AC}{fp:ff}{j:Nat},bA (cH C g st w) vs cs fp->fp.Nodup->(∀b∈fp,g.dX b=some o)->cs[j]?=some x0->
  ∃v f2,gy (cH C g st w) v x0 f2/\f2.Nodup/\(∀b∈f2,g.dX b=some o/\b∈fp)/\
   ∀(bI:AS)(x1:AC)(pw fh:ff)(u:Value)(av:AV),bI.ep=st.ep->bI.iss=st.iss->(∀s,iQ st s->iQ bI s)->(∀c',(cH C g st w).Le c'->c'.w=w->c'.hw=g.hw->c'.ep=st.ep->gy c' v x1 pw)->pw.Nodup->fh.Nodup->(∀b∈pw,b∈f2/\b∉fh)->(∀b∈fh,b∈f2)->fP (cH C g st w) u av fh->
    (cH C g st w).Le (cH C {g with dX:=λb=>if b∈fh then some (.hand 0) else g.dX b} bI w)/\
    ∃jJ,bA (cH C {g with dX:=λb=>if b∈fh then some (.hand 0) else g.dX b} bI w) vs (cs.set j x1) jJ/\jJ.Nodup/\(∀b∈jJ,b∉fh/\b∈fp)/\
    F7 C {g with dX:=λb=>if b∈fh then some (.hand 0) else g.dX b} bI w 0 u av:=by
  intro o vs cs fp j eI hn hl hx
  obtain⟨v,f1,f2,f3,hv,rfl,Lr,BN⟩:=eI.aeA hx
  have AY:=hn
  rw[aJ]at AY
  have n1:=aH.1 AY
  have n2:=aH.1 n1.2.1
  refine⟨v,f2,Lr,n2.1,λb hb=>⟨hl b (by simp[hb]),by simp[hb]⟩,?_⟩
  intro bI x1 pw fh u av vY Ib sL hx1 Gn La xK Ll hu
  have hle:(cH C g st w).Le (cH C {g with dX:=λb=>if b∈fh then some (.hand 0) else g.dX b} bI w):=
   ⟨rfl,λt ht=>⟨by show lJ bI t;have SA:lJ st t:=ht;simpa[lJ,Ib]using SA,rfl⟩,λ_ _ _ _ _ hu=>hu,by show st.ep<=bI.ep;omega,λs hs=>⟨sL s hs,rfl⟩,λ_ b o u ho hu=>⟨ho,hu⟩⟩
  have Bd:∀b∈f1++f3,b∉f2:=by intro b hb h2;rcases ax.1 hb with hb|hb;exact n1.2.2 b hb b (bn _ h2) rfl;exact n2.2.2 b h2 b hb rfl
  refine⟨hle,f1++pw++f3,BN _ hle _ pw (hx1 _ hle rfl rfl vY) (λ_ _=>⟨rfl,rfl⟩),?_,?_,fh,hu.mono hle (λ_ _=>⟨rfl,rfl⟩),La,λb hb=>?_⟩
  ·rw[aJ]
   refine aH.2 ⟨n1.1,aH.2 ⟨Gn,n2.2.1,?_⟩,?_⟩
   ·rintro b hb c hc rfl;exact Bd b (by simp[hc]) (xK b hb).1
   ·rintro b hb c hc rfl
    rcases ax.1 hc with hc|hc
    ·exact Bd b (by simp[hb]) (xK b hc).1
    ·exact n1.2.2 b hb b (ba _ hc) rfl
  ·intro b hb
   simp only[ax]at hb
   rcases hb with(hb|hb)|hb
   ·exact⟨λhm=>Bd b (by simp[hb]) (Ll b hm),by simp[hb]⟩
   ·exact⟨(xK b hb).2,by simp[(xK b hb).1]⟩
   ·exact⟨λhm=>Bd b (by simp[hb]) (Ll b hm),by simp[hb]⟩
  ·show(if b∈fh then _ else _)=_
   rw[aF hb]
 have J1:∀(fh:ff),∀b x,(if b∈fh then some (jy.hand 0) else g.dX b)=some x->(b∈fh->∃y,g.dX b=some y)->b<w.heap.size/\(C.w0.heap.size<=b\/C.M b):=by intro fh b x hx hy;by_cases hm:b∈fh;obtain⟨y,hy⟩:=hy hm;exact h.fQ b y hy;rw[aG hm]at hx;exact h.fQ b x hx
 have Ud:∀(fh:ff)(o:jy),(∀b∈fh,g.dX b=some o)->∀b x,x≠o->g.dX b=some x->(if b∈fh then some (jy.hand 0) else g.dX b)=some x:=by intro fh o Ll b x hxo hb;rw[aG (λhm=>hxo (by have:=Ll b hm;rw[hb]at this;simpa using this))];exact hb
 cases r with
 |slot s j=>
  have wF:s<st.slots.length:=by
   rcases bW s st.slots.length with hG|yc;exact hG;have:st.get s=.bot:=by simp[AS.get,dF,bu yc]
   rw[AS.eJ,this]at gG;cases j with|zero=>simp[nth]at gG;exact absurd gG.symm Ad|succ j=>simp[nth]at gG
  have hsl:st.slots[s]?=some (st.get s):=by rw[get_eq (al wF)];exact al wF
  obtain⟨fp,hr,hn,hl⟩:=h.slots s _ hsl;cases hg:st.get s with
  |tS ts=>rw[AS.eJ,hg]at gG;cases gG
  |val gg cs=>
   have hgx:cs[j]?=some x0:=by rw[AS.eJ,hg]at gG;simpa[dF]using gG
   rw[hg]at hr;obtain⟨vs,eY,hr⟩:=hr;have lN:∀x1,st.eP (.slot s j) x1={st with slots:=st.slots.set s (.val gg (cs.set j x1))}:=λx1=>by simp only[AS.eP,hg,AS.put,fb]
   obtain⟨v,f2,Ms,Bg,xo,oO⟩:=core (.slot s) hr hn hl hgx;refine⟨v,f2,Ms,Bg,λb hb=>(xo b hb).1,?_⟩;intro x1 pw fh u av hx1 Gn La xK Ll hu;obtain⟨hle,jJ,eI,JE,Ac,BI⟩:=oO (st.eP (.slot s j) x1) x1 pw fh u av (by rw[lN]) (by rw[lN]) (λ_ q=>by rw[lN];exact q) hx1 Gn La xK Ll hu;have hfo:∀b∈fh,g.dX b=some (.slot s):=λb hb=>(xo b (Ll b hb)).1;refine⟨_,h.step (λx=>x≠ .slot s) hle h.defers ?_ ?_ h.frame (λb x hx=>J1 fh b x hx (λhm=>⟨_,hfo b hm⟩)) (λb x hk hb=>⟨Ud fh _ hfo b x hk hb,rfl,rfl⟩) ?_ ?_ ?_ (.inl ⟨by simp,by rw[lN]⟩)⟩;rw[lN];simpa using h.size;rw[lN];simpa using h.bsize;intro i bv hi;rw[lN]at hi;have tU:(st.slots.set s (.val gg (cs.set j x1)))[i]?=some bv:=hi;by_cases his:i=s;subst his;rw[bm]at tU;simp only[bM,wF]at tU;simp at tU;subst tU;refine .inr ⟨jJ,⟨vs,eY,eI⟩,JE,λb hb=>?_⟩;show(if b∈fh then _ else _)=_;rw[aG (Ac b hb).1];exact hl b (Ac b hb).2;rw[aP (cL his)]at tU;exact .inl ⟨by simpa using his,tU,rfl⟩;intro t oS hb;rw[lN]at hb;exact .inl ⟨by simp,hb,rfl⟩;intro k u' bv hk;cases k with
   |zero=>simp only[cn,aZ,Prod.mk.injEq]at hk;obtain⟨rfl,rfl⟩:=hk;exact .inr BI
   |succ k=>simp at hk
 |box s j=>
  have jt:∃cs,st.boxes[s]?=some (some cs)/\cs[j]?=some x0:=by rw[AS.eJ,dF]at gG;cases hb:st.boxes[s]? with|none=>simp[hb]at gG|some o=>cases o with|none=>simp[hb]at gG|some cs=>exact⟨cs,rfl,by simpa[hb,dF]using gG⟩
  obtain⟨cs,jt,hgx⟩:=jt;have wF:s<st.boxes.length:=(aE.1 jt).1;obtain⟨arr,T,fr,fp,jK,qv,hr,hn,tZ,hl,Eo,Er⟩:=h.boxes s cs jt;have lN:∀x1,st.eP (.box s j) x1={st with boxes:=st.boxes.set s (some (cs.set j x1))}:=λx1=>by simp only[AS.eP,dF,jt,fj,AS.eu,fb]
  obtain⟨v,f2,Ms,Bg,xo,oO⟩:=core (.box s) hr hn hl hgx;refine⟨v,f2,Ms,Bg,λb hb=>(xo b hb).1,?_⟩;intro x1 pw fh u av hx1 Gn La xK Ll hu;obtain⟨hle,jJ,eI,JE,Ac,BI⟩:=oO (st.eP (.box s j) x1) x1 pw fh u av (by rw[lN]) (by rw[lN]) (λt ht=>by rw[lN];obtain⟨c0,VO⟩:=ht;by_cases rb:s=t;subst rb;exact⟨cs.set j x1,by simp[wF]⟩;exact⟨c0,by rw[aP rb];exact VO⟩) hx1 Gn La xK Ll hu;have hfo:∀b∈fh,g.dX b=some (.box s):=λb hb=>(xo b (Ll b hb)).1;refine⟨_,h.step (λx=>x≠ .box s) hle h.defers ?_ ?_ h.frame (λb x hx=>J1 fh b x hx (λhm=>⟨_,hfo b hm⟩)) (λb x hk hb=>⟨Ud fh _ hfo b x hk hb,rfl,rfl⟩) ?_ ?_ ?_ (.inl ⟨by simp,by rw[lN]⟩)⟩;rw[lN];exact h.size;rw[lN];simpa using h.bsize;intro i bv hi;rw[lN]at hi;exact .inl ⟨by simp,hi,rfl⟩;intro t oS hb;rw[lN]at hb;have gK:(st.boxes.set s (some (cs.set j x1)))[t]?=some (some oS):=hb;by_cases rb:t=s;subst rb;rw[bm]at gK;simp only[bM,wF]at gK;simp at gK;subst gK;have Gq:g.β t∉fh:=λhm=>tZ (xo _ (Ll _ hm)).2;refine .inr ⟨arr,T,fr,jJ,jK,qv,eI,JE,λhm=>tZ (Ac _ hm).2,λb hb=>?_,?_,Er⟩;show(if b∈fh then _ else _)=_;rw[aG (Ac b hb).1];exact hl b (Ac b hb).2;show(if g.β t∈fh then _ else _)=_;rw[aG Gq];exact Eo;rw[aP (cL rb)]at gK;exact .inl ⟨by simpa using rb,gK,rfl⟩;intro k u' bv hk;cases k with
  |zero=>simp only[cn,aZ,Prod.mk.injEq]at hk;obtain⟨rfl,rfl⟩:=hk;exact .inr BI
  |succ k=>simp at hk
 |io j=>
  have hgx:st.io[j]?=some x0:=by rw[AS.eJ,dF]at gG;exact gG
  obtain⟨fp,hr,hn,hl⟩:=h.io;have lN:∀x1,st.eP (.io j) x1={st with io:=st.io.set j x1}:=λx1=>by simp only[AS.eP,fb]
  obtain⟨v,f2,Ms,Bg,xo,oO⟩:=core .io hr hn hl hgx;refine⟨v,f2,Ms,Bg,λb hb=>(xo b hb).1,?_⟩;intro x1 pw fh u av hx1 Gn La xK Ll hu;obtain⟨hle,jJ,eI,JE,Ac,BI⟩:=oO (st.eP (.io j) x1) x1 pw fh u av (by rw[lN]) (by rw[lN]) (λ_ q=>by rw[lN];exact q) hx1 Gn La xK Ll hu;have hfo:∀b∈fh,g.dX b=some .io:=λb hb=>(xo b (Ll b hb)).1;refine⟨_,h.step (λx=>x≠ .io) hle h.defers ?_ ?_ h.frame (λb x hx=>J1 fh b x hx (λhm=>⟨_,hfo b hm⟩)) (λb x hk hb=>⟨Ud fh _ hfo b x hk hb,rfl,rfl⟩) ?_ ?_ ?_ (.inr ⟨jJ,?_,JE,λb hb=>?_⟩)⟩;rw[lN];exact h.size;rw[lN];exact h.bsize;intro i bv hi;rw[lN]at hi;exact .inl ⟨by simp,hi,rfl⟩;intro t oS hb;rw[lN]at hb;exact .inl ⟨by simp,hb,rfl⟩;intro k u' bv hk;cases k with
  |zero=>simp only[cn,aZ,Prod.mk.injEq]at hk;obtain⟨rfl,rfl⟩:=hk;exact .inr BI
  |succ k=>simp at hk
  have:(st.eP (.io j) x1).io=st.io.set j x1:=by rw[lN]
  rw[this];exact eI;show(if b∈fh then _ else _)=_;rw[aG (Ac b hb).1];exact hl b (Ac b hb).2
theorem dH.TC (h:dH C g st a w hs){v:Value}{x:AC}(r:gy (cH C g st w) v x []):gy (cH C g st w) v (st.fresh x) []:=by
 unfold AS.fresh;split;rename_i ep rt t e xs;cases vY:(ep==st.ep)with
 |true=>exact r
 |false=>
  simp only[af];split;rename_i t' e' ys gG;split;rename_i he;subst he;cases ht:(t'==t)with
  |false=>exact r
  |true=>
   have:t'=t:=by simpa using ht
   subst this;simp only[ah];obtain⟨v0,f2,hh,gC,_,_,_⟩:=h.OT rt gG;obtain⟨h1,h2,h3,h4,h5⟩:=r;obtain⟨k1,k2⟩:=h5 rt t' rfl;have hv:v0=v:=(hh t' rfl).trans k2.symm;subst hv;exact⟨h1,aS _,Kh gC,λ_=>eV.rep (λb o ho=> .inr ho) gC,λr1 t1 hp=>by simp at hp;obtain⟨_,rfl⟩:=hp;exact⟨k1,k2⟩⟩
  exact r;exact r
 exact r
theorem dH.Hp (h:dH C g st a w hs):∀{vs:ir}{xs:aw AC},bA (cH C g st w) vs xs []->bA (cH C g st w) vs (xs.map st.fresh) []
 |[],[],r=>r
 |_::_,_::_,r=>by
  obtain⟨f1,f2,he,r1,r2⟩:=r;have h1:f1=[]:=by have:=he.symm;simp at this;exact this.1
  have h2:f2=[]:=by have:=he.symm;simp at this;exact this.2
  subst h1;subst h2;exact⟨[],[],rfl,h.TC r1,h.Hp r2⟩
 |[],_::_,r=>r.elim
 |_::_,[],r=>r.elim
theorem dH.fresh (h:dH C g st a w hs){v:Value}{x:AV}(r:fP (cH C g st w) v x []):fP (cH C g st w) v (x.fresh st) []:=by
 cases x with
 |val gg cs=>obtain⟨vs,hv,r⟩:=r;exact⟨vs,hv,h.Hp r⟩
 |tS ts=>exact r
end Go.Dn
