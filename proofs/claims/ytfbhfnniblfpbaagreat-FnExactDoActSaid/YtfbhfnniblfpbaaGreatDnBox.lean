import Derived.Test.YtfbhfnniblfpbaaGreatDnPut
/- A box is made or written; an element of an owned slice is written. -/
namespace Go.Dn
open Go.RowKit
variable {C:Ctx} {g:Gh} {st:AS} {a:Act} {w:World} {hs:ar (Value×AV)}
variable {x0:AC} {fp:dV}
theorem ks {s:Nat}{b:aw (ar AC)}:(st.eD s b).boxes=st.boxes.set s b:=by simp[AS.eD,eV]
theorem RF {s:Nat}{cs:ar AC}{g':Gh}{w':World}(JW:g'.hdr=g.hdr)(X0:∀k b o u,C.A k b o->w.cell? ⟨b,o,none⟩=some u->w'.cell? ⟨b,o,none⟩=some u)(Ji:∀t,gx st t->g'.β t=g.β t)(JY:∀b o u,o<g.hw b->w.cell? ⟨b,o,none⟩=some u->o<g'.hw b/\w'.cell? ⟨b,o,none⟩=some u): (cy C g st w).Le (cy C g' (st.eD s (some cs)) w'):=by refine⟨rfl,λt ht=>⟨ht,by show g'.hdr t=g.hdr t;rw[JW]⟩,X0,aU _,λt ht=>⟨?_,Ji t ht⟩,λ_ b o u ho hu=>JY b o u ho hu⟩;obtain⟨na,hc⟩:=ht;show∃apP,(st.eD s (some cs)).boxes[t]?=some (some apP);rw[ks];by_cases qT:s=t;subst qT;have gV:s<st.boxes.length:=(aD.1 hc).1;exact⟨cs,by simp[gV]⟩;exact⟨na,by rw[aO qT];exact hc⟩
theorem dw.Xw (h:dw C g st a w hs)(s:Nat){cs:ar AC}{arr:Array Value}{T:TypeId}{fr:Nat×Nat}{w':World}{bnew:Nat}{hw':Nat->Nat}(hbn:(bnew=g.β s/\g.dJ bnew=some (.box s))\/(w.heap.size<=bnew/\st.boxes[s]?=some none))(gM:Fr (λb=>cX (g.dJ b)\/b=bnew) w w')(jr:w'.heap[bnew]?=some (.cells arr T fr))(qS:qc arr fr)(gV:bnew<w'.heap.size)(ap7:hw' bnew=0)(BX:∀b x,g.dJ b=some x->¬cX (some x)->b≠bnew->hw' b=g.hw b)(JY:∀b o u,o<g.hw b->w.cell? ⟨b,o,none⟩=some u->o<hw' b/\w'.cell? ⟨b,o,none⟩=some u)(hr:bn ⟨hw',λt=>if t=s then bnew else g.β t,C.A,g.hdr,lI st,st.ep,gx st,w'⟩ arr.toList cs fp)(hn:fp.Nodup)(tc:bnew∉fp)(CP:∀b∈fp,b<w'.heap.size/\(cX (g.dJ b)\/g.dJ b=some (.box s)\/w.heap.size<=b)): ∃g',g'.β s=bnew/\dw C g' (st.eD s (some cs)) a w' []:=by
 have X0:∀k b o u,C.A k b o->w.cell? ⟨b,o,none⟩=some u->w'.cell? ⟨b,o,none⟩=some u:=by
  intro k b o u hA hu;have hb:b<w.heap.size:=World.block_lt_of_cell? w _ hu;have JD:¬(cX (g.dJ b)\/b=bnew):=by
   rintro(hh|rfl);cases hx:g.dJ b with|none=>rw[hx]at hh;cases hh|some x=>exact h.Lr hx k o hA
   rcases hbn with⟨_,h2⟩|h2;exact h.Lr h2 k o hA;omega
  rw[World.cell?_of_block (a:=⟨b,o,none⟩) (gM.block b hb JD)];exact hu
 have ET:∀b x,g.dJ b=some x->x≠ .box s->b≠bnew:=by rintro b x hx hxs rfl;rcases hbn with⟨_,h2⟩|h2;rw[hx]at h2;exact hxs (by simpa using h2);have:=(h.fA b x hx).1;omega
 have hkp:∀b x,g.dJ b=some x->¬cX (some x)->x≠ .box s->w'.heap[b]?=w.heap[b]?:=λb x hx hh hxs=>
  gM.block b (h.fA b x hx).1 (by rintro(k|k);rw[hx]at k;exact hh k;exact ET b x hx hxs k)
 let β':Nat->Nat:=λt=>if t=s then bnew else g.β t
 let abR:Nat->aw jc:=λb=>if b=bnew\/b∈fp then some (.box s) else if cX (g.dJ b) then none else g.dJ b
 let g':Gh:=⟨hw',β',abR,g.hdr⟩
 have Je:Fr C.M C.w0 w':=h.frame.trans gM (λb hb hh=>by
  rcases hh with hh|rfl;cases hx:g.dJ b with|none=>rw[hx]at hh;cases hh|some x=>rcases(h.fA b x hx).2 with h2|h2;omega;exact h2
  rcases hbn with⟨_,h2⟩|h2;rcases(h.fA b _ h2).2 with h3|h3;omega;exact h3;have:=h.frame.size;omega)
 have Ji:∀t,gx st t->β' t=g.β t:=by rintro t ⟨na,hc⟩;show(if t=s then bnew else g.β t)=g.β t;by_cases qT:t=s;subst qT;rcases hbn with⟨h2,_⟩|⟨_,h2⟩;simp[h2];rw[h2]at hc;cases hc;simp[qT]
 have hle:(cy C g st w).Le (cy C g' (st.eD s (some cs)) w'):=RF rfl X0 Ji JY;have ahY:(RC.mk hw' β' C.A g.hdr (lI st) st.ep (gx st) w').Le (cy C g' (st.eD s (some cs)) w'):=⟨rfl,λ_ ht=>⟨ht,rfl⟩,λ_ _ _ _ _ hu=>hu,aU _,λt ht=>⟨(hle.Ku t ht).1,rfl⟩,λ_ b o u ho hu=>⟨ho,hu⟩⟩
 refine⟨g',by show(if s=s then bnew else g.β s)=bnew;simp,h.step (λx=>¬cX (some x)/\x≠ .box s) hle h.defers h.size ?_ Je ?_ ?_ ?_ ?_ ?_ (.inl ⟨⟨by simp[fz],by simp⟩,rfl⟩)⟩;show(st.eD s (some cs)).boxes.length=st.slots.length;rw[ks,aH];exact h.bsize;intro b x hx;have AJ:(if b=bnew\/b∈fp then some (jc.box s) else if cX (g.dJ b) then none else g.dJ b)=some x:=hx;by_cases hm:b=bnew\/b∈fp;rcases hm with rfl|hm;refine⟨gV,?_⟩;rcases hbn with⟨_,h2⟩|h2;exact(h.fA b _ h2).2;exact .inl (aE h.frame.size h2.1);refine⟨(CP b hm).1,?_⟩;rcases(CP b hm).2 with h2|h2|h2;cases hy:g.dJ b with|none=>rw[hy]at h2;cases h2|some y=>exact(h.fA b y hy).2
 exact(h.fA b _ h2).2;exact .inl (aE h.frame.size h2);rw[aF hm]at AJ;split at AJ;cases AJ;have hl:=h.fA b x AJ;have hz:=gM.size;exact⟨by omega,hl.2⟩;intro b x hk hx;have Z5:=ET b x hx hk.2;refine⟨?_,hkp b x hx hk.1 hk.2,BX b x hx hk.1 Z5⟩;show(if b=bnew\/b∈fp then some (jc.box s) else if cX (g.dJ b) then none else g.dJ b)=some x;have S8:¬(b=bnew\/b∈fp):=by rintro(hm|hm);exact Z5 hm;rcases(CP b hm).2 with h2|h2|h2;rw[hx]at h2;exact hk.1 h2;rw[hx]at h2;exact hk.2 (by simpa using h2);have:=(h.fA b x hx).1;omega
 rw[aF S8,aF (by rw[hx];exact hk.1),hx];intro i av hi;exact .inl ⟨⟨by simp[fz],by simp⟩,hi,rfl⟩;intro t na hb;have gH:(st.boxes.set s (some cs))[t]?=some (some na):=by rw[<-ks];exact hb
 by_cases qT:t=s;subst qT;rw[bk]at gH;simp only[bL]at gH;split at gH;simp at gH;subst gH;have agq:β' t=bnew:=by show(if t=t then bnew else g.β t)=bnew;simp
 refine .inr ⟨arr,T,fr,fp,?_,qS,hr.mono ahY (λb _=>⟨rfl,rfl⟩),hn,?_,?_,?_,?_⟩;show w'.heap[β' t]?=_;rw[agq];exact jr;show β' t∉fp;rw[agq];exact tc;intro b hb;show(if b=bnew\/b∈fp then _ else _)=_;rw[aG (.inr hb)];show(if β' t=bnew\/β' t∈fp then _ else _)=_;rw[aG (.inl agq)];show hw' (β' t)=0;rw[agq];exact ap7;cases gH;rw[aO (cG qT)]at gH;exact .inl ⟨⟨by simp[fz],by simpa using qT⟩,gH,by show(if t=s then bnew else g.β t)=_;simp[qT]⟩;intro k u bv hk;simp at hk
def kq.owner:kq->jc
 | .slot s _=> .slot s
 | .box s _=> .box s
 | .io _=> .io
theorem bn.ahz {c:RC}{vs:ic}{cs:ar AC}(hr:bn c vs cs fp){j:Nat}{x:AC}(hx:cs[j]?=some x): ∃v f1 f2 f3,vs[j]?=some v/\fp=f1++f2++f3/\gI c v x f2/\ ∀(c':RC),c.Le c'->∀x' f2',gI c' v x' f2'->(∀b∈f1++f3,c'.w.heap[b]?=c.w.heap[b]?/\c'.hw b=c.hw b)-> bn c' vs (cs.set j x') (f1++f2'++f3):=by
 have hj:j<cs.length:=(aD.1 hx).1;obtain⟨f1,fr,rfl,r1,r2⟩:=hr.split j;have hlen:=hr.length;have hjv:j<vs.length:=by omega
 have ecs:cs.drop j=x::cs.drop (j+1):=by rw[cl hj];congr 1;rw[al hj]at hx;simpa using hx
 have evs:vs.drop j=vs[j]::vs.drop (j+1):=cl hjv;rw[ecs,evs]at r2;obtain⟨f2,f3,rfl,r2,r3⟩:=r2;refine⟨vs[j],f1,f2,f3,al hjv,by simp,r2,λc' hle x' f2' AJ hb=>?_⟩;have e1:vs=vs.take j++(vs[j]::vs.drop (j+1)):=by rw[<-evs,cp]
 have e2:cs.set j x'=cs.take j++(x'::cs.drop (j+1)):=by rw[List.set_eq_take_append_cons_drop,aG hj]
 rw[e1,e2,aN];refine bn.append (r1.mono hle (λb gH=>hb b (bg _ gH))) ⟨f2',f3,rfl,AJ,?_⟩;exact r3.mono hle (λb gH=>hb b (ba _ gH))
def Gh.wrote (g:Gh)(o:jc)(fp:dV)(hw':Nat->Nat):Gh:=
 ⟨hw',g.β,λb=>if b∈fp then some o else if cX (g.dJ b) then none else g.dJ b,g.hdr⟩
theorem dw.LN (h:dw C g st a w hs)(o:jc)(Mf:¬cX (some o)){vs:ic}{cs:ar AC}{j:Nat}(dC:bn (cy C g st w) vs cs fp)(hn:fp.Nodup)(hl:∀b∈fp,g.dJ b=some o)(hx:cs[j]?=some x0): ∃v f1 f2 f3,vs[j]?=some v/\fp=f1++f2++f3/\gI (cy C g st w) v x0 f2/\f2.Nodup/\(∀b∈f2,g.dJ b=some o)/\ ∀(w':World)(hw':Nat->Nat)(st':AS)(x1:AC)(jB:dV),st'.ep=st.ep+1->st'.iss=st.iss->(∀s,gx st s->gx st' s)-> (∀c',(cy C g st w).Le c'->c'.w=w'->c'.hw=hw'->gI c' v x1 jB)->jB.Nodup->(∀b∈jB,b<w'.heap.size/\(b∈f2\/cX (g.dJ b)))-> Fr (λb=>cX (g.dJ b)\/b∈f2) w w'->(∀b x,g.dJ b=some x->¬cX (some x)->b∉f2->hw' b=g.hw b)-> (cy C g st w).Le (cy C (g.wrote o (f1++jB++f3) hw') st' w')/\ bn (cy C (g.wrote o (f1++jB++f3) hw') st' w') vs (cs.set j x1) (f1++jB++f3)/\(f1++jB++f3).Nodup/\ (∀b∈f1++jB++f3,(g.wrote o (f1++jB++f3) hw').dJ b=some o)/\ (∀b x,¬cX (some x)->x≠o->g.dJ b=some x->(g.wrote o (f1++jB++f3) hw').dJ b=some x/\w'.heap[b]?=w.heap[b]?/\hw' b=g.hw b)/\ (∀b,g.dJ b=some o->b∉fp->(g.wrote o (f1++jB++f3) hw').dJ b=some o/\w'.heap[b]?=w.heap[b]?/\hw' b=g.hw b)/\ Fr C.M C.w0 w'/\(∀b x,(g.wrote o (f1++jB++f3) hw').dJ b=some x->b<w'.heap.size/\(C.w0.heap.size<=b\/C.M b)):=by
 obtain⟨v,f1,f2,f3,hv,rfl,Qo,DG⟩:=dC.ahz hx;have BZ:=hn;rw[aN]at BZ;have n1:=aB.1 BZ;have n2:=aB.1 n1.2.1;have Ap:∀b∈f1++f3,b∉f2:=by intro b hb h2;rcases az.1 hb with hb|hb;exact n1.2.2 b hb b (bg _ h2) rfl;exact n2.2.2 b h2 b hb rfl
 refine⟨v,f1,f2,f3,hv,rfl,Qo,n2.1,λb hb=>hl b (by simp[hb]),?_⟩;intro w' hw' st' x1 jB xQ Gv qR eR EA og gM BX;have X0:∀k b o u,C.A k b o->w.cell? ⟨b,o,none⟩=some u->w'.cell? ⟨b,o,none⟩=some u:=by
  intro k b o u hA hu;have hb:b<w.heap.size:=World.block_lt_of_cell? w _ hu;have JD:¬(cX (g.dJ b)\/b∈f2):=by
   rintro(hh|hm);cases hx:g.dJ b with|none=>rw[hx]at hh;cases hh|some x=>exact h.Lr hx k o hA
   exact h.Lr (hl b (by simp[hm])) k o hA
  rw[World.cell?_of_block (a:=⟨b,o,none⟩) (gM.block b hb JD)];exact hu
 have hle:(cy C g st w).Le (cy C (g.wrote o (f1++jB++f3) hw') st' w'):=⟨rfl,λt ht=>⟨by show lI st' t;have Up:lI st t:=ht;simpa[lI,Gv]using Up,rfl⟩,X0,by show st.ep<=st'.ep;omega,λs hs=>⟨qR s hs,rfl⟩,λhe=>absurd he (by show st'.ep≠st.ep;omega)⟩
 have mc:∀b x,¬cX (some x)->g.dJ b=some x->b∉f2->w'.heap[b]?=w.heap[b]?/\hw' b=g.hw b:=by intro b x hh hb hm;exact⟨gM.block b (h.fA b _ hb).1 (by rintro(k|k);rw[hb]at k;exact hh k;exact hm k),BX b _ hb hh hm⟩
 have hd1:∀b∈f1++f3,b∉jB:=by intro b hb hm;rcases(og b hm).2 with h2|h2;exact Ap b hb h2;have Rj:g.dJ b=some o:=hl b (by rcases az.1 hb with hb|hb<;>simp[hb]);rw[Rj]at h2;exact Mf h2
 refine⟨hle,?_,?_,?_,?_,?_,?_,?_⟩;refine DG _ hle _ jB (eR _ hle rfl rfl) (λb hb=>?_);exact mc b o Mf (hl b (by rcases az.1 hb with hb|hb<;>simp[hb])) (Ap b hb);rw[aN];refine aB.2 ⟨n1.1,aB.2 ⟨EA,n2.2.1,?_⟩,?_⟩;rintro b hb c hc rfl;exact hd1 b (by simp[hc]) hb;rintro b hb c hc rfl;rcases az.1 hc with hc|hc;exact hd1 b (by simp[hb]) hc;exact n1.2.2 b hb b (ba _ hc) rfl;intro b hb;show(if b∈f1++jB++f3 then _ else _)=_;rw[aG hb];intro b x hh hxo hb;have Z9:b∉f2:=λhm=>hxo (by have:=hl b (by simp[hm]);rw[hb]at this;simpa using this);refine⟨?_,mc b x hh hb Z9⟩;show(if b∈f1++jB++f3 then _ else if cX (g.dJ b) then none else g.dJ b)=_;have S8:b∉f1++jB++f3:=by intro hm;simp only[az]at hm;rcases hm with(hm|hm)|hm;exact hxo (by have:=hl b (by simp[hm]);rw[hb]at this;simpa using this);rcases(og b hm).2 with h2|h2;exact Z9 h2;rw[hb]at h2;exact hh h2;exact hxo (by have:=hl b (by simp[hm]);rw[hb]at this;simpa using this)
 rw[aF S8,aF (by rw[hb];exact hh),hb];intro b hb hm;have Z9:b∉f2:=λk=>hm (by simp[k]);refine⟨?_,mc b o Mf hb Z9⟩;show(if b∈f1++jB++f3 then _ else if cX (g.dJ b) then none else g.dJ b)=_;rw[aF (c:=cX (g.dJ b)) (by rw[hb];exact Mf),hb];split<;>rfl;refine h.frame.trans gM (λb hb hh=>?_);rcases hh with hh|hm;cases hx:g.dJ b with|none=>rw[hx]at hh;cases hh|some x=>rcases(h.fA b x hx).2 with h2|h2;omega;exact h2
 rcases(h.fA b o (hl b (by simp[hm]))).2 with h2|h2;omega;exact h2;intro b x hx;have AJ:(if b∈f1++jB++f3 then some o else if cX (g.dJ b) then none else g.dJ b)=some x:=hx;have hz:=gM.size;have YS:∀y,g.dJ b=some y->b<w'.heap.size/\(C.w0.heap.size<=b\/C.M b):=λy hy=>⟨gO (h.fA b y hy).1 hz,(h.fA b y hy).2⟩
 split at AJ;rename_i hm;simp only[az]at hm;rcases hm with(hm|hm)|hm;exact YS o (hl b (by simp[hm]));rcases(og b hm).2 with h2|h2;exact YS o (hl b (by simp[h2]));cases hy:g.dJ b with|none=>rw[hy]at h2;cases h2|some y=>exact YS y hy
 exact YS o (hl b (by simp[hm]));split at AJ;cases AJ;exact YS x AJ
theorem dw.afk (h:dw C g st a w hs)(s j:Nat)(ET:x0≠ .bot)(gX:st.eM (.slot s j)=some x0): ∃v f2,gI (cy C g st w) v x0 f2/\f2.Nodup/\(∀b∈f2,g.dJ b=some (.slot s))/\ ∀(w':World)(hw':Nat->Nat)(x1:AC)(jB:dV),(∀c',(cy C g st w).Le c'->c'.w=w'->c'.hw=hw'->gI c' v x1 jB)->jB.Nodup->(∀b∈jB,b<w'.heap.size/\(b∈f2\/cX (g.dJ b)))-> Fr (λb=>cX (g.dJ b)\/b∈f2) w w'->(∀b x,g.dJ b=some x->¬cX (some x)->b∉f2->hw' b=g.hw b)-> ∃g',dw C g' {st.eU (.slot s j) x1 with ep:=st.ep+1} a w' []:=by
 have xW:s<st.slots.length:=by
  rcases bQ s st.slots.length with gV|BD;exact gV;have:st.get s=.bot:=by simp[AS.get,dA,bH BD]
  rw[AS.eM,this]at gX;cases j with|zero=>simp[nth]at gX;exact absurd gX.symm ET|succ j=>simp[nth]at gX
 have hsl:st.slots[s]?=some (st.get s):=by rw[get_eq (al xW)];exact al xW
 obtain⟨fp,hr,hn,hl⟩:=h.slots s _ hsl;cases hg:st.get s with
 |vQ ts=>rw[AS.eM,hg]at gX;cases gX
 |val gg cs=>
  have hgx:cs[j]?=some x0:=by rw[AS.eM,hg]at gX;simpa[dA]using gX
  rw[hg]at hr;obtain⟨vs,ee,hr⟩:=hr;obtain⟨v,f1,f2,f3,hv,rfl,eR,CQ,Aq,lD⟩:=h.LN (.slot s) (by simp[fz]) hr hn hl hgx;refine⟨v,f2,eR,CQ,Aq,?_⟩;intro w' hw' x1 jB Eb EA og gM BX;let st':AS:={st.eU (.slot s j) x1 with ep:=st.ep+1}
  have kb:st'={st with slots:=st.slots.set s (.val gg (cs.set j x1)),ep:=st.ep+1}:=by show({st.eU (.slot s j) x1 with ep:=st.ep+1}:AS)=_;simp only[AS.eU,hg,AS.put,eV]
  obtain⟨hle,dC,Jg,hll,hk1,hk2,Je,GW⟩:=lD w' hw' st' x1 jB rfl (by rw[kb]) (λs hs=>by rw[kb];exact hs) Eb EA og gM BX;refine⟨_,h.step (λx=>¬cX (some x)/\x≠ .slot s) hle h.defers ?_ ?_ Je GW (λb x hk hx=>hk1 b x hk.1 hk.2 hx) ?_ ?_ (λk u bv hk=>by simp at hk) (.inl ⟨⟨by simp[fz],by simp⟩,by show st'.io=st.io;rw[kb]⟩)⟩;show _=st'.slots.length;rw[kb];simpa using h.size;show st'.boxes.length=st'.slots.length;rw[kb];simpa using h.bsize;intro i av hi;have rF:(st.slots.set s (.val gg (cs.set j x1)))[i]?=some av:=by have:st'.slots[i]?=some av:=hi;rw[kb]at this;exact this
  by_cases X6:i=s;subst X6;rw[bk]at rF;simp only[bL,xW]at rF;simp at rF;subst rF;exact .inr ⟨_,⟨vs,ee,dC⟩,Jg,hll⟩;rw[aO (cG X6)]at rF;exact .inl ⟨⟨by simp[fz],by simpa using X6⟩,rF,rfl⟩;intro t na hb;have gH:st.boxes[t]?=some (some na):=by have:st'.boxes[t]?=some (some na):=hb;rw[kb]at this;exact this
  exact .inl ⟨⟨by simp[fz],by simp⟩,gH,rfl⟩
theorem dw.agP (h:dw C g st a w hs)(s j:Nat)(gX:st.eM (.box s j)=some x0): ∃v f2,gI (cy C g st w) v x0 f2/\f2.Nodup/\(∀b∈f2,g.dJ b=some (.box s))/\ ∀(w':World)(hw':Nat->Nat)(x1:AC)(jB:dV),(∀c',(cy C g st w).Le c'->c'.w=w'->c'.hw=hw'->gI c' v x1 jB)->jB.Nodup->(∀b∈jB,b<w'.heap.size/\(b∈f2\/cX (g.dJ b)))-> Fr (λb=>cX (g.dJ b)\/b∈f2) w w'->(∀b x,g.dJ b=some x->¬cX (some x)->b∉f2->hw' b=g.hw b)-> ∃g',dw C g' {st.eU (.box s j) x1 with ep:=st.ep+1} a w' []:=by
 have jA:∃cs,st.boxes[s]?=some (some cs)/\cs[j]?=some x0:=by rw[AS.eM,dA]at gX;cases hb:st.boxes[s]? with|none=>simp[hb]at gX|some o=>cases o with|none=>simp[hb]at gX|some cs=>exact⟨cs,rfl,by simpa[hb,dA]using gX⟩
 obtain⟨cs,jA,hgx⟩:=jA;have xW:s<st.boxes.length:=(aD.1 jA).1;obtain⟨arr,T,fr,fp,jr,qS,hr,hn,tc,hl,Ih,Ix⟩:=h.boxes s cs jA;obtain⟨v,f1,f2,f3,hv,rfl,eR,CQ,Aq,lD⟩:=h.LN (.box s) (by simp[fz]) hr hn hl hgx;refine⟨v,f2,eR,CQ,Aq,?_⟩;intro w' hw' x1 jB Eb EA og gM BX;let st':AS:={st.eU (.box s j) x1 with ep:=st.ep+1}
 have kb:st'={st with boxes:=st.boxes.set s (some (cs.set j x1)),ep:=st.ep+1}:=by show({st.eU (.box s j) x1 with ep:=st.ep+1}:AS)=_;simp only[AS.eU,dA,jA,fy,AS.eD,eV]
 obtain⟨hle,dC,Jg,hll,hk1,hk2,Je,GW⟩:=lD w' hw' st' x1 jB rfl (by rw[kb]) (λt ht=>by rw[kb];obtain⟨c0,Xa⟩:=ht;by_cases qT:s=t;subst qT;exact⟨cs.set j x1,by simp[xW]⟩;exact⟨c0,by rw[aO qT];exact Xa⟩) Eb EA og gM BX;have Ji:=hk2 (g.β s) Ih tc;refine⟨_,h.step (λx=>¬cX (some x)/\x≠ .box s) hle h.defers ?_ ?_ Je GW (λb x hk hx=>hk1 b x hk.1 hk.2 hx) ?_ ?_ (λk u bv hk=>by simp at hk) (.inl ⟨⟨by simp[fz],by simp⟩,by show st'.io=st.io;rw[kb]⟩)⟩;show _=st'.slots.length;rw[kb];exact h.size;show st'.boxes.length=st'.slots.length;rw[kb];simpa using h.bsize;intro i av hi;have rF:st.slots[i]?=some av:=by have:st'.slots[i]?=some av:=hi;rw[kb]at this;exact this
 exact .inl ⟨⟨by simp[fz],by simp⟩,rF,rfl⟩;intro t na hb;have gH:(st.boxes.set s (some (cs.set j x1)))[t]?=some (some na):=by have:st'.boxes[t]?=some (some na):=hb;rw[kb]at this;exact this
 by_cases qT:t=s;subst qT;rw[bk]at gH;simp only[bL,xW]at gH;simp at gH;subst gH;have Ii:g.β t∉f1++jB++f3:=by intro hm;simp only[az]at hm;rcases hm with(hm|hm)|hm;exact tc (by simp[hm]);rcases(og _ hm).2 with h2|h2;exact tc (by simp[h2]);rw[Ih]at h2;cases h2;exact tc (by simp[hm])
 exact .inr ⟨arr,T,fr,_,Ji.2.1.trans jr,qS,dC,Jg,Ii,hll,Ji.1,Ji.2.2.trans Ix⟩;rw[aO (cG qT)]at gH;exact .inl ⟨⟨by simp[fz],by simpa using qT⟩,gH,rfl⟩
theorem dw.air (h:dw C g st a w hs)(j:Nat)(gX:st.eM (.io j)=some x0): ∃v f2,gI (cy C g st w) v x0 f2/\f2.Nodup/\(∀b∈f2,g.dJ b=some .io)/\ ∀(w':World)(hw':Nat->Nat)(x1:AC)(jB:dV),(∀c',(cy C g st w).Le c'->c'.w=w'->c'.hw=hw'->gI c' v x1 jB)->jB.Nodup->(∀b∈jB,b<w'.heap.size/\(b∈f2\/cX (g.dJ b)))-> Fr (λb=>cX (g.dJ b)\/b∈f2) w w'->(∀b x,g.dJ b=some x->¬cX (some x)->b∉f2->hw' b=g.hw b)-> ∃g',dw C g' {st.eU (.io j) x1 with ep:=st.ep+1} a w' []:=by
 have hgx:st.io[j]?=some x0:=by rw[AS.eM,dA]at gX;exact gX
 obtain⟨fp,hr,hn,hl⟩:=h.io;obtain⟨v,f1,f2,f3,hv,rfl,eR,CQ,Aq,lD⟩:=h.LN .io (by simp[fz]) hr hn hl hgx;refine⟨v,f2,eR,CQ,Aq,?_⟩;intro w' hw' x1 jB Eb EA og gM BX;let st':AS:={st.eU (.io j) x1 with ep:=st.ep+1}
 have kb:st'={st with io:=st.io.set j x1,ep:=st.ep+1}:=by show({st.eU (.io j) x1 with ep:=st.ep+1}:AS)=_;simp only[AS.eU,eV]
 obtain⟨hle,dC,Jg,hll,hk1,hk2,Je,GW⟩:=lD w' hw' st' x1 jB rfl (by rw[kb]) (λs hs=>by rw[kb];exact hs) Eb EA og gM BX
 refine⟨_,h.step (λx=>¬cX (some x)/\x≠ .io) hle h.defers ?_ ?_ Je GW (λb x hk hx=>hk1 b x hk.1 hk.2 hx) ?_ ?_ (λk u bv hk=>by simp at hk) (.inr ⟨_,by
  have:st'.io=st.io.set j x1:=by rw[kb]
  show bn _ _ st'.io _;rw[this];exact dC,Jg,hll⟩)⟩
 show _=st'.slots.length;rw[kb];exact h.size;show st'.boxes.length=st'.slots.length;rw[kb];exact h.bsize;intro i av hi;have rF:st.slots[i]?=some av:=by have:st'.slots[i]?=some av:=hi;rw[kb]at this;exact this
 exact .inl ⟨⟨by simp[fz],by simp⟩,rF,rfl⟩;intro t na hb;have gH:st.boxes[t]?=some (some na):=by have:st'.boxes[t]?=some (some na):=hb;rw[kb]at this;exact this
 exact .inl ⟨⟨by simp[fz],by simp⟩,gH,rfl⟩
theorem dw.TP (h:dw C g st a w hs)(r:kq)(ET:x0≠ .bot)(gX:st.eM r=some x0): ∃v f2,gI (cy C g st w) v x0 f2/\f2.Nodup/\(∀b∈f2,g.dJ b=some r.owner)/\ ∀(w':World)(hw':Nat->Nat)(x1:AC)(jB:dV),(∀c',(cy C g st w).Le c'->c'.w=w'->c'.hw=hw'->gI c' v x1 jB)->jB.Nodup->(∀b∈jB,b<w'.heap.size/\(b∈f2\/cX (g.dJ b)))-> Fr (λb=>cX (g.dJ b)\/b∈f2) w w'->(∀b x,g.dJ b=some x->¬cX (some x)->b∉f2->hw' b=g.hw b)-> ∃g',dw C g' {st.eU r x1 with ep:=st.ep+1} a w' []:=by cases r with|slot s j=>exact h.afk s j ET gX|box s j=>exact h.agP s j gX|io j=>exact h.air j gX
theorem dw.TQ (h:dw C g st a w hs)(r:kq){tag:aw Nat}{e:CT}{xs:ar e.D}(gX:st.eM r=some (.sl (.own tag) e xs)): ∃v f2,(∀t,tag=some t->v=g.hdr t)/\eo g.hw w (.sl e) [v] xs f2/\f2.Nodup/\(∀b∈f2,g.dJ b=some r.owner)/\ ∀(w':World)(hw':Nat->Nat)(Qc:ar e.D)(jB:dV),eo hw' w' (.sl e) [v] Qc jB->jB.Nodup->(∀b∈jB,b<w'.heap.size/\(b∈f2\/cX (g.dJ b)))-> Fr (λb=>cX (g.dJ b)\/b∈f2) w w'->(∀b x,g.dJ b=some x->¬cX (some x)->b∉f2->hw' b=g.hw b)-> ∃g',dw C g' {st.eU r (.sl (.own tag) e Qc)with ep:=st.ep+1} a w' []:=by obtain⟨v,f2,dC,CQ,Aq,lD⟩:=h.TP r (by simp) gX;refine⟨v,f2,λt ht=>(dC.2 t ht).2,dC.1,CQ,Aq,λw' hw' Qc jB eR EA og gM BX=>lD w' hw' (.sl (.own tag) e Qc) jB (λc' hle MT BU=>⟨?_,λt ht=>?_⟩) EA og gM BX⟩;rw[MT,BU];exact eR;have h1:=dC.2 t ht;exact⟨(hle.hdr t h1.1).1,by rw[(hle.hdr t h1.1).2];exact h1.2⟩
theorem dw.afl (h:dw C g st a w [])(r:kq)(ET:x0≠ .bot)(gX:st.eM r=some x0): ∃v f2,gI (cy C g st w) v x0 f2/\f2.Nodup/\(∀b∈f2,g.dJ b=some r.owner)/\ ∀(x1:AC)(jB fh:dV)(u:Value)(av:AV),(∀c',(cy C g st w).Le c'->c'.w=w->c'.hw=g.hw->c'.ep=st.ep->gI c' v x1 jB)->jB.Nodup->fh.Nodup->(∀b∈jB,b∈f2/\b∉fh)->(∀b∈fh,b∈f2)-> fL (cy C g st w) u av fh->∃g',dw C g' (st.eU r x1) a w [(u,av)]:=by
 have core:∀(o:jc){vs:ic}{cs:ar AC}{fp:dV}{j:Nat},bn (cy C g st w) vs cs fp->fp.Nodup->(∀b∈fp,g.dJ b=some o)->cs[j]?=some x0->
  ∃v f2,gI (cy C g st w) v x0 f2/\f2.Nodup/\(∀b∈f2,g.dJ b=some o/\b∈fp)/\
   ∀(st':AS)(x1:AC)(jB fh:dV)(u:Value)(av:AV),st'.ep=st.ep->st'.iss=st.iss->(∀s,gx st s->gx st' s)->(∀c',(cy C g st w).Le c'->c'.w=w->c'.hw=g.hw->c'.ep=st.ep->gI c' v x1 jB)->jB.Nodup->fh.Nodup->(∀b∈jB,b∈f2/\b∉fh)->(∀b∈fh,b∈f2)->fL (cy C g st w) u av fh->
    (cy C g st w).Le (cy C {g with dJ:=λb=>if b∈fh then some (.hand 0) else g.dJ b} st' w)/\
    ∃iu,bn (cy C {g with dJ:=λb=>if b∈fh then some (.hand 0) else g.dJ b} st' w) vs (cs.set j x1) iu/\iu.Nodup/\(∀b∈iu,b∉fh/\b∈fp)/\
    K4 C {g with dJ:=λb=>if b∈fh then some (.hand 0) else g.dJ b} st' w 0 u av:=by
  intro o vs cs fp j dC hn hl hx
  obtain⟨v,f1,f2,f3,hv,rfl,Qo,DG⟩:=dC.ahz hx
  have BZ:=hn
  rw[aN]at BZ
  have n1:=aB.1 BZ
  have n2:=aB.1 n1.2.1
  refine⟨v,f2,Qo,n2.1,λb hb=>⟨hl b (by simp[hb]),by simp[hb]⟩,?_⟩
  intro st' x1 jB fh u av xQ Gv qR hx1 EA Mf og Ql hu
  have hle:(cy C g st w).Le (cy C {g with dJ:=λb=>if b∈fh then some (.hand 0) else g.dJ b} st' w):=
   ⟨rfl,λt ht=>⟨by show lI st' t;have Up:lI st t:=ht;simpa[lI,Gv]using Up,rfl⟩,λ_ _ _ _ _ hu=>hu,by show st.ep<=st'.ep;omega,λs hs=>⟨qR s hs,rfl⟩,λ_ b o u ho hu=>⟨ho,hu⟩⟩
  have Ap:∀b∈f1++f3,b∉f2:=by intro b hb h2;rcases az.1 hb with hb|hb;exact n1.2.2 b hb b (bg _ h2) rfl;exact n2.2.2 b h2 b hb rfl
  refine⟨hle,f1++jB++f3,DG _ hle _ jB (hx1 _ hle rfl rfl xQ) (λ_ _=>⟨rfl,rfl⟩),?_,?_,fh,hu.mono hle (λ_ _=>⟨rfl,rfl⟩),Mf,λb hb=>?_⟩
  ·rw[aN]
   refine aB.2 ⟨n1.1,aB.2 ⟨EA,n2.2.1,?_⟩,?_⟩
   ·rintro b hb c hc rfl;exact Ap b (by simp[hc]) (og b hb).1
   ·rintro b hb c hc rfl
    rcases az.1 hc with hc|hc
    ·exact Ap b (by simp[hb]) (og b hc).1
    ·exact n1.2.2 b hb b (ba _ hc) rfl
  ·intro b hb
   simp only[az]at hb
   rcases hb with(hb|hb)|hb
   ·exact⟨λhm=>Ap b (by simp[hb]) (Ql b hm),by simp[hb]⟩
   ·exact⟨(og b hb).2,by simp[(og b hb).1]⟩
   ·exact⟨λhm=>Ap b (by simp[hb]) (Ql b hm),by simp[hb]⟩
  ·show(if b∈fh then _ else _)=_
   rw[aG hb]
 have OP:∀(fh:dV),∀b x,(if b∈fh then some (jc.hand 0) else g.dJ b)=some x->(b∈fh->∃y,g.dJ b=some y)->b<w.heap.size/\(C.w0.heap.size<=b\/C.M b):=by intro fh b x hx hy;by_cases hm:b∈fh;obtain⟨y,hy⟩:=hy hm;exact h.fA b y hy;rw[aF hm]at hx;exact h.fA b x hx
 have Yz:∀(fh:dV)(o:jc),(∀b∈fh,g.dJ b=some o)->∀b x,x≠o->g.dJ b=some x->(if b∈fh then some (jc.hand 0) else g.dJ b)=some x:=by intro fh o Ql b x hxo hb;rw[aF (λhm=>hxo (by have:=Ql b hm;rw[hb]at this;simpa using this))];exact hb
 cases r with
 |slot s j=>
  have xW:s<st.slots.length:=by
   rcases bQ s st.slots.length with gV|BD;exact gV;have:st.get s=.bot:=by simp[AS.get,dA,bH BD]
   rw[AS.eM,this]at gX;cases j with|zero=>simp[nth]at gX;exact absurd gX.symm ET|succ j=>simp[nth]at gX
  have hsl:st.slots[s]?=some (st.get s):=by rw[get_eq (al xW)];exact al xW
  obtain⟨fp,hr,hn,hl⟩:=h.slots s _ hsl;cases hg:st.get s with
  |vQ ts=>rw[AS.eM,hg]at gX;cases gX
  |val gg cs=>
   have hgx:cs[j]?=some x0:=by rw[AS.eM,hg]at gX;simpa[dA]using gX
   rw[hg]at hr;obtain⟨vs,ee,hr⟩:=hr;have lE:∀x1,st.eU (.slot s j) x1={st with slots:=st.slots.set s (.val gg (cs.set j x1))}:=λx1=>by simp only[AS.eU,hg,AS.put,eV]
   obtain⟨v,f2,Rk,CQ,Aq,lD⟩:=core (.slot s) hr hn hl hgx;refine⟨v,f2,Rk,CQ,λb hb=>(Aq b hb).1,?_⟩;intro x1 jB fh u av hx1 EA Mf og Ql hu;obtain⟨hle,iu,dC,Jg,ER,GU⟩:=lD (st.eU (.slot s j) x1) x1 jB fh u av (by rw[lE]) (by rw[lE]) (λ_ q=>by rw[lE];exact q) hx1 EA Mf og Ql hu;have hfo:∀b∈fh,g.dJ b=some (.slot s):=λb hb=>(Aq b (Ql b hb)).1;refine⟨_,h.step (λx=>x≠ .slot s) hle h.defers ?_ ?_ h.frame (λb x hx=>OP fh b x hx (λhm=>⟨_,hfo b hm⟩)) (λb x hk hb=>⟨Yz fh _ hfo b x hk hb,rfl,rfl⟩) ?_ ?_ ?_ (.inl ⟨by simp,by rw[lE]⟩)⟩;rw[lE];simpa using h.size;rw[lE];simpa using h.bsize;intro i bv hi;rw[lE]at hi;have rF:(st.slots.set s (.val gg (cs.set j x1)))[i]?=some bv:=hi;by_cases X6:i=s;subst X6;rw[bk]at rF;simp only[bL,xW]at rF;simp at rF;subst rF;refine .inr ⟨iu,⟨vs,ee,dC⟩,Jg,λb hb=>?_⟩;show(if b∈fh then _ else _)=_;rw[aF (ER b hb).1];exact hl b (ER b hb).2;rw[aO (cG X6)]at rF;exact .inl ⟨by simpa using X6,rF,rfl⟩;intro t na hb;rw[lE]at hb;exact .inl ⟨by simp,hb,rfl⟩;intro k u' bv hk;cases k with
   |zero=>simp only[cq,aZ,Prod.mk.injEq]at hk;obtain⟨rfl,rfl⟩:=hk;exact .inr GU
   |succ k=>simp at hk
 |box s j=>
  have jA:∃cs,st.boxes[s]?=some (some cs)/\cs[j]?=some x0:=by rw[AS.eM,dA]at gX;cases hb:st.boxes[s]? with|none=>simp[hb]at gX|some o=>cases o with|none=>simp[hb]at gX|some cs=>exact⟨cs,rfl,by simpa[hb,dA]using gX⟩
  obtain⟨cs,jA,hgx⟩:=jA;have xW:s<st.boxes.length:=(aD.1 jA).1;obtain⟨arr,T,fr,fp,jr,qS,hr,hn,tc,hl,Ih,Ix⟩:=h.boxes s cs jA;have lE:∀x1,st.eU (.box s j) x1={st with boxes:=st.boxes.set s (some (cs.set j x1))}:=λx1=>by simp only[AS.eU,dA,jA,fy,AS.eD,eV]
  obtain⟨v,f2,Rk,CQ,Aq,lD⟩:=core (.box s) hr hn hl hgx;refine⟨v,f2,Rk,CQ,λb hb=>(Aq b hb).1,?_⟩;intro x1 jB fh u av hx1 EA Mf og Ql hu;obtain⟨hle,iu,dC,Jg,ER,GU⟩:=lD (st.eU (.box s j) x1) x1 jB fh u av (by rw[lE]) (by rw[lE]) (λt ht=>by rw[lE];obtain⟨c0,Xa⟩:=ht;by_cases qT:s=t;subst qT;exact⟨cs.set j x1,by simp[xW]⟩;exact⟨c0,by rw[aO qT];exact Xa⟩) hx1 EA Mf og Ql hu;have hfo:∀b∈fh,g.dJ b=some (.box s):=λb hb=>(Aq b (Ql b hb)).1;refine⟨_,h.step (λx=>x≠ .box s) hle h.defers ?_ ?_ h.frame (λb x hx=>OP fh b x hx (λhm=>⟨_,hfo b hm⟩)) (λb x hk hb=>⟨Yz fh _ hfo b x hk hb,rfl,rfl⟩) ?_ ?_ ?_ (.inl ⟨by simp,by rw[lE]⟩)⟩;rw[lE];exact h.size;rw[lE];simpa using h.bsize;intro i bv hi;rw[lE]at hi;exact .inl ⟨by simp,hi,rfl⟩;intro t na hb;rw[lE]at hb;have gH:(st.boxes.set s (some (cs.set j x1)))[t]?=some (some na):=hb;by_cases qT:t=s;subst qT;rw[bk]at gH;simp only[bL,xW]at gH;simp at gH;subst gH;have Ji:g.β t∉fh:=λhm=>tc (Aq _ (Ql _ hm)).2;refine .inr ⟨arr,T,fr,iu,jr,qS,dC,Jg,λhm=>tc (ER _ hm).2,λb hb=>?_,?_,Ix⟩;show(if b∈fh then _ else _)=_;rw[aF (ER b hb).1];exact hl b (ER b hb).2;show(if g.β t∈fh then _ else _)=_;rw[aF Ji];exact Ih;rw[aO (cG qT)]at gH;exact .inl ⟨by simpa using qT,gH,rfl⟩;intro k u' bv hk;cases k with
  |zero=>simp only[cq,aZ,Prod.mk.injEq]at hk;obtain⟨rfl,rfl⟩:=hk;exact .inr GU
  |succ k=>simp at hk
 |io j=>
  have hgx:st.io[j]?=some x0:=by rw[AS.eM,dA]at gX;exact gX
  obtain⟨fp,hr,hn,hl⟩:=h.io;have lE:∀x1,st.eU (.io j) x1={st with io:=st.io.set j x1}:=λx1=>by simp only[AS.eU,eV]
  obtain⟨v,f2,Rk,CQ,Aq,lD⟩:=core .io hr hn hl hgx;refine⟨v,f2,Rk,CQ,λb hb=>(Aq b hb).1,?_⟩;intro x1 jB fh u av hx1 EA Mf og Ql hu;obtain⟨hle,iu,dC,Jg,ER,GU⟩:=lD (st.eU (.io j) x1) x1 jB fh u av (by rw[lE]) (by rw[lE]) (λ_ q=>by rw[lE];exact q) hx1 EA Mf og Ql hu;have hfo:∀b∈fh,g.dJ b=some .io:=λb hb=>(Aq b (Ql b hb)).1;refine⟨_,h.step (λx=>x≠ .io) hle h.defers ?_ ?_ h.frame (λb x hx=>OP fh b x hx (λhm=>⟨_,hfo b hm⟩)) (λb x hk hb=>⟨Yz fh _ hfo b x hk hb,rfl,rfl⟩) ?_ ?_ ?_ (.inr ⟨iu,?_,Jg,λb hb=>?_⟩)⟩;rw[lE];exact h.size;rw[lE];exact h.bsize;intro i bv hi;rw[lE]at hi;exact .inl ⟨by simp,hi,rfl⟩;intro t na hb;rw[lE]at hb;exact .inl ⟨by simp,hb,rfl⟩;intro k u' bv hk;cases k with
  |zero=>simp only[cq,aZ,Prod.mk.injEq]at hk;obtain⟨rfl,rfl⟩:=hk;exact .inr GU
  |succ k=>simp at hk
  have:(st.eU (.io j) x1).io=st.io.set j x1:=by rw[lE]
  rw[this];exact dC;show(if b∈fh then _ else _)=_;rw[aF (ER b hb).1];exact hl b (ER b hb).2
theorem dw.XX (h:dw C g st a w hs){v:Value}{x:AC}(r:gI (cy C g st w) v x []):gI (cy C g st w) v (st.fresh x) []:=by
 unfold AS.fresh;split;rename_i ep rt t e xs;cases xQ:(ep==st.ep)with
 |true=>exact r
 |false=>
  simp only[ae];split;rename_i t' e' ys gX;split;rename_i he;subst he;cases ht:(t'==t)with
  |false=>exact r
  |true=>
   have:t'=t:=by simpa using ht
   subst this;simp only[af];obtain⟨v0,f2,hh,eR,_,_,_⟩:=h.TQ rt gX;obtain⟨h1,h2,h3,h4,h5⟩:=r;obtain⟨k1,k2⟩:=h5 rt t' rfl;have hv:v0=v:=(hh t' rfl).trans k2.symm;subst hv;exact⟨h1,aU _,Kr eR,λ_=>eo.rep (λb o ho=> .inr ho) eR,λr1 t1 hp=>by simp at hp;obtain⟨_,rfl⟩:=hp;exact⟨k1,k2⟩⟩
  exact r;exact r
 exact r
theorem dw.L9 (h:dw C g st a w hs):∀{vs:ic}{xs:ar AC},bn (cy C g st w) vs xs []->bn (cy C g st w) vs (xs.map st.fresh) []
 |[],[],r=>r
 |_::_,_::_,r=>by
  obtain⟨f1,f2,he,r1,r2⟩:=r;have h1:f1=[]:=by have:=he.symm;simp at this;exact this.1
  have h2:f2=[]:=by have:=he.symm;simp at this;exact this.2
  subst h1;subst h2;exact⟨[],[],rfl,h.XX r1,h.L9 r2⟩
 |[],_::_,r=>r.elim
 |_::_,[],r=>r.elim
theorem dw.fresh (h:dw C g st a w hs){v:Value}{x:AV}(r:fL (cy C g st w) v x []):fL (cy C g st w) v (x.fresh st) []:=by
 cases x with
 |val gg cs=>obtain⟨vs,hv,r⟩:=r;exact⟨vs,hv,h.L9 r⟩
 |vQ ts=>exact r
end Go.Dn
