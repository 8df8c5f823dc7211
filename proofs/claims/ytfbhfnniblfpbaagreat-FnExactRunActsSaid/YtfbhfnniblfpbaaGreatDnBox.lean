import Derived.Test.YtfbhfnniblfpbaaGreatDnPut
/- A box is made or written; an element of an owned slice is written. -/
namespace Go.Dn
open Go.RowKit
variable {C:Ctx} {g:Gh} {st:AS} {a:Act} {w:World} {hs:aq (Value×AV)}
variable {x0:AC} {fp:dX}
theorem kx {s:Nat}{b:au (aq AC)}:(st.eG s b).boxes=st.boxes.set s b:=by simp[AS.eG,eV]
theorem R0 {s:Nat}{cs:aq AC}{g':Gh}{w':World}(Ka:g'.hdr=g.hdr)(Yo:∀k b o u,C.A k b o->w.cell? ⟨b,o,none⟩=some u->w'.cell? ⟨b,o,none⟩=some u)(Jx:∀t,gA st t->g'.β t=g.β t)(Kc:∀b o u,o<g.hw b->w.cell? ⟨b,o,none⟩=some u->o<g'.hw b/\w'.cell? ⟨b,o,none⟩=some u): (cy C g st w).Le (cy C g' (st.eG s (some cs)) w'):=by refine⟨rfl,λt ht=>⟨ht,by show g'.hdr t=g.hdr t;rw[Ka]⟩,Yo,aR _,λt ht=>⟨?_,Jx t ht⟩,λ_ b o u ho hu=>Kc b o u ho hu⟩;obtain⟨nd,hc⟩:=ht;show∃aqb,(st.eG s (some cs)).boxes[t]?=some (some aqb);rw[kx];by_cases qW:s=t;subst qW;have gV:s<st.boxes.length:=(aD.1 hc).1;exact⟨cs,by simp[gV]⟩;exact⟨nd,by rw[aO qW];exact hc⟩
theorem dx.XV (h:dx C g st a w hs)(s:Nat){cs:aq AC}{arr:Array Value}{T:TypeId}{fr:Nat×Nat}{w':World}{bnew:Nat}{hw':Nat->Nat}(hbn:(bnew=g.β s/\g.dK bnew=some (.box s))\/(w.heap.size<=bnew/\st.boxes[s]?=some none))(gP:Fr (λb=>cY (g.dK b)\/b=bnew) w w')(jw:w'.heap[bnew]?=some (.cells arr T fr))(qV:qe arr fr)(gV:bnew<w'.heap.size)(aqt:hw' bnew=0)(Ca:∀b x,g.dK b=some x->¬cY (some x)->b≠bnew->hw' b=g.hw b)(Kc:∀b o u,o<g.hw b->w.cell? ⟨b,o,none⟩=some u->o<hw' b/\w'.cell? ⟨b,o,none⟩=some u)(hr:bn ⟨hw',λt=>if t=s then bnew else g.β t,C.A,g.hdr,lL st,st.ep,gA st,w'⟩ arr.toList cs fp)(hn:fp.Nodup)(ti:bnew∉fp)(C1:∀b∈fp,b<w'.heap.size/\(cY (g.dK b)\/g.dK b=some (.box s)\/w.heap.size<=b)): ∃g',g'.β s=bnew/\dx C g' (st.eG s (some cs)) a w' []:=by
 have Yo:∀k b o u,C.A k b o->w.cell? ⟨b,o,none⟩=some u->w'.cell? ⟨b,o,none⟩=some u:=by
  intro k b o u hA hu;have hb:b<w.heap.size:=World.block_lt_of_cell? w _ hu;have JS:¬(cY (g.dK b)\/b=bnew):=by
   rintro(hh|rfl);cases hx:g.dK b with|none=>rw[hx]at hh;cases hh|some x=>exact h.LM hx k o hA
   rcases hbn with⟨_,h2⟩|h2;exact h.LM h2 k o hA;omega
  rw[World.cell?_of_block (a:=⟨b,o,none⟩) (gP.block b hb JS)];exact hu
 have E4:∀b x,g.dK b=some x->x≠ .box s->b≠bnew:=by rintro b x hx hxs rfl;rcases hbn with⟨_,h2⟩|h2;rw[hx]at h2;exact hxs (by simpa using h2);have:=(h.fB b x hx).1;omega
 have hkp:∀b x,g.dK b=some x->¬cY (some x)->x≠ .box s->w'.heap[b]?=w.heap[b]?:=λb x hx hh hxs=>
  gP.block b (h.fB b x hx).1 (by rintro(k|k);rw[hx]at k;exact hh k;exact E4 b x hx hxs k)
 let β':Nat->Nat:=λt=>if t=s then bnew else g.β t
 let ab7:Nat->au je:=λb=>if b=bnew\/b∈fp then some (.box s) else if cY (g.dK b) then none else g.dK b
 let g':Gh:=⟨hw',β',ab7,g.hdr⟩
 have Jt:Fr C.M C.w0 w':=h.frame.trans gP (λb hb hh=>by
  rcases hh with hh|rfl;cases hx:g.dK b with|none=>rw[hx]at hh;cases hh|some x=>rcases(h.fB b x hx).2 with h2|h2;omega;exact h2
  rcases hbn with⟨_,h2⟩|h2;rcases(h.fB b _ h2).2 with h3|h3;omega;exact h3;have:=h.frame.size;omega)
 have Jx:∀t,gA st t->β' t=g.β t:=by rintro t ⟨nd,hc⟩;show(if t=s then bnew else g.β t)=g.β t;by_cases qW:t=s;subst qW;rcases hbn with⟨h2,_⟩|⟨_,h2⟩;simp[h2];rw[h2]at hc;cases hc;simp[qW]
 have hle:(cy C g st w).Le (cy C g' (st.eG s (some cs)) w'):=R0 rfl Yo Jx Kc;have aik:(RC.mk hw' β' C.A g.hdr (lL st) st.ep (gA st) w').Le (cy C g' (st.eG s (some cs)) w'):=⟨rfl,λ_ ht=>⟨ht,rfl⟩,λ_ _ _ _ _ hu=>hu,aR _,λt ht=>⟨(hle.KJ t ht).1,rfl⟩,λ_ b o u ho hu=>⟨ho,hu⟩⟩
 refine⟨g',by show(if s=s then bnew else g.β s)=bnew;simp,h.step (λx=>¬cY (some x)/\x≠ .box s) hle h.defers h.size ?_ Jt ?_ ?_ ?_ ?_ ?_ (.inl ⟨⟨by simp[fA],by simp⟩,rfl⟩)⟩;show(st.eG s (some cs)).boxes.length=st.slots.length;rw[kx,aH];exact h.bsize;intro b x hx;have AR:(if b=bnew\/b∈fp then some (je.box s) else if cY (g.dK b) then none else g.dK b)=some x:=hx;by_cases hm:b=bnew\/b∈fp;rcases hm with rfl|hm;refine⟨gV,?_⟩;rcases hbn with⟨_,h2⟩|h2;exact(h.fB b _ h2).2;exact .inl (aE h.frame.size h2.1);refine⟨(C1 b hm).1,?_⟩;rcases(C1 b hm).2 with h2|h2|h2;cases hy:g.dK b with|none=>rw[hy]at h2;cases h2|some y=>exact(h.fB b y hy).2
 exact(h.fB b _ h2).2;exact .inl (aE h.frame.size h2);rw[aF hm]at AR;split at AR;cases AR;have hl:=h.fB b x AR;have hz:=gP.size;exact⟨by omega,hl.2⟩;intro b x hk hx;have hb1:=E4 b x hx hk.2;refine⟨?_,hkp b x hx hk.1 hk.2,Ca b x hx hk.1 hb1⟩;show(if b=bnew\/b∈fp then some (je.box s) else if cY (g.dK b) then none else g.dK b)=some x;have Ts:¬(b=bnew\/b∈fp):=by rintro(hm|hm);exact hb1 hm;rcases(C1 b hm).2 with h2|h2|h2;rw[hx]at h2;exact hk.1 h2;rw[hx]at h2;exact hk.2 (by simpa using h2);have:=(h.fB b x hx).1;omega
 rw[aF Ts,aF (by rw[hx];exact hk.1),hx];intro i av hi;exact .inl ⟨⟨by simp[fA],by simp⟩,hi,rfl⟩;intro t nd hb;have gL:(st.boxes.set s (some cs))[t]?=some (some nd):=by rw[<-kx];exact hb
 by_cases qW:t=s;subst qW;rw[bl]at gL;simp only[bL]at gL;split at gL;simp at gL;subst gL;have agG:β' t=bnew:=by show(if t=t then bnew else g.β t)=bnew;simp
 refine .inr ⟨arr,T,fr,fp,?_,qV,hr.mono aik (λb _=>⟨rfl,rfl⟩),hn,?_,?_,?_,?_⟩;show w'.heap[β' t]?=_;rw[agG];exact jw;show β' t∉fp;rw[agG];exact ti;intro b hb;show(if b=bnew\/b∈fp then _ else _)=_;rw[aG (.inr hb)];show(if β' t=bnew\/β' t∈fp then _ else _)=_;rw[aG (.inl agG)];show hw' (β' t)=0;rw[agG];exact aqt;cases gL;rw[aO (cJ qW)]at gL;exact .inl ⟨⟨by simp[fA],by simpa using qW⟩,gL,by show(if t=s then bnew else g.β t)=_;simp[qW]⟩;intro k u bv hk;simp at hk
def kv.owner:kv->je
 | .slot s _=> .slot s
 | .box s _=> .box s
 | .io _=> .io
theorem bn.ahS {c:RC}{vs:ie}{cs:aq AC}(hr:bn c vs cs fp){j:Nat}{x:AC}(hx:cs[j]?=some x): ∃v f1 f2 f3,vs[j]?=some v/\fp=f1++f2++f3/\gM c v x f2/\ ∀(c':RC),c.Le c'->∀x' f2',gM c' v x' f2'->(∀b∈f1++f3,c'.w.heap[b]?=c.w.heap[b]?/\c'.hw b=c.hw b)-> bn c' vs (cs.set j x') (f1++f2'++f3):=by
 have hj:j<cs.length:=(aD.1 hx).1;obtain⟨f1,fr,rfl,r1,r2⟩:=hr.split j;have hlen:=hr.length;have hjv:j<vs.length:=by omega
 have ecs:cs.drop j=x::cs.drop (j+1):=by rw[cl hj];congr 1;rw[al hj]at hx;simpa using hx
 have evs:vs.drop j=vs[j]::vs.drop (j+1):=cl hjv;rw[ecs,evs]at r2;obtain⟨f2,f3,rfl,r2,r3⟩:=r2;refine⟨vs[j],f1,f2,f3,al hjv,by simp,r2,λc' hle x' f2' AR hb=>?_⟩;have e1:vs=vs.take j++(vs[j]::vs.drop (j+1)):=by rw[<-evs,cp]
 have e2:cs.set j x'=cs.take j++(x'::cs.drop (j+1)):=by rw[List.set_eq_take_append_cons_drop,aG hj]
 rw[e1,e2,aN];refine bn.append (r1.mono hle (λb gL=>hb b (bk _ gL))) ⟨f2',f3,rfl,AR,?_⟩;exact r3.mono hle (λb gL=>hb b (ba _ gL))
def Gh.wrote (g:Gh)(o:je)(fp:dX)(hw':Nat->Nat):Gh:=
 ⟨hw',g.β,λb=>if b∈fp then some o else if cY (g.dK b) then none else g.dK b,g.hdr⟩
theorem dx.L8 (h:dx C g st a w hs)(o:je)(Mz:¬cY (some o)){vs:ie}{cs:aq AC}{j:Nat}(dD:bn (cy C g st w) vs cs fp)(hn:fp.Nodup)(hl:∀b∈fp,g.dK b=some o)(hx:cs[j]?=some x0): ∃v f1 f2 f3,vs[j]?=some v/\fp=f1++f2++f3/\gM (cy C g st w) v x0 f2/\f2.Nodup/\(∀b∈f2,g.dK b=some o)/\ ∀(w':World)(hw':Nat->Nat)(st':AS)(x1:AC)(jG:dX),st'.ep=st.ep+1->st'.iss=st.iss->(∀s,gA st s->gA st' s)-> (∀c',(cy C g st w).Le c'->c'.w=w'->c'.hw=hw'->gM c' v x1 jG)->jG.Nodup->(∀b∈jG,b<w'.heap.size/\(b∈f2\/cY (g.dK b)))-> Fr (λb=>cY (g.dK b)\/b∈f2) w w'->(∀b x,g.dK b=some x->¬cY (some x)->b∉f2->hw' b=g.hw b)-> (cy C g st w).Le (cy C (g.wrote o (f1++jG++f3) hw') st' w')/\ bn (cy C (g.wrote o (f1++jG++f3) hw') st' w') vs (cs.set j x1) (f1++jG++f3)/\(f1++jG++f3).Nodup/\ (∀b∈f1++jG++f3,(g.wrote o (f1++jG++f3) hw').dK b=some o)/\ (∀b x,¬cY (some x)->x≠o->g.dK b=some x->(g.wrote o (f1++jG++f3) hw').dK b=some x/\w'.heap[b]?=w.heap[b]?/\hw' b=g.hw b)/\ (∀b,g.dK b=some o->b∉fp->(g.wrote o (f1++jG++f3) hw').dK b=some o/\w'.heap[b]?=w.heap[b]?/\hw' b=g.hw b)/\ Fr C.M C.w0 w'/\(∀b x,(g.wrote o (f1++jG++f3) hw').dK b=some x->b<w'.heap.size/\(C.w0.heap.size<=b\/C.M b)):=by
 obtain⟨v,f1,f2,f3,hv,rfl,QH,DT⟩:=dD.ahS hx;have Cb:=hn;rw[aN]at Cb;have n1:=aB.1 Cb;have n2:=aB.1 n1.2.1;have Az:∀b∈f1++f3,b∉f2:=by intro b hb h2;rcases az.1 hb with hb|hb;exact n1.2.2 b hb b (bk _ h2) rfl;exact n2.2.2 b h2 b hb rfl
 refine⟨v,f1,f2,f3,hv,rfl,QH,n2.1,λb hb=>hl b (by simp[hb]),?_⟩;intro w' hw' st' x1 jG xY GH qU eR EM oo gP Ca;have Yo:∀k b o u,C.A k b o->w.cell? ⟨b,o,none⟩=some u->w'.cell? ⟨b,o,none⟩=some u:=by
  intro k b o u hA hu;have hb:b<w.heap.size:=World.block_lt_of_cell? w _ hu;have JS:¬(cY (g.dK b)\/b∈f2):=by
   rintro(hh|hm);cases hx:g.dK b with|none=>rw[hx]at hh;cases hh|some x=>exact h.LM hx k o hA
   exact h.LM (hl b (by simp[hm])) k o hA
  rw[World.cell?_of_block (a:=⟨b,o,none⟩) (gP.block b hb JS)];exact hu
 have hle:(cy C g st w).Le (cy C (g.wrote o (f1++jG++f3) hw') st' w'):=⟨rfl,λt ht=>⟨by show lL st' t;have UK:lL st t:=ht;simpa[lL,GH]using UK,rfl⟩,Yo,by show st.ep<=st'.ep;omega,λs hs=>⟨qU s hs,rfl⟩,λhe=>absurd he (by show st'.ep≠st.ep;omega)⟩
 have me:∀b x,¬cY (some x)->g.dK b=some x->b∉f2->w'.heap[b]?=w.heap[b]?/\hw' b=g.hw b:=by intro b x hh hb hm;exact⟨gP.block b (h.fB b _ hb).1 (by rintro(k|k);rw[hb]at k;exact hh k;exact hm k),Ca b _ hb hh hm⟩
 have hd1:∀b∈f1++f3,b∉jG:=by intro b hb hm;rcases(oo b hm).2 with h2|h2;exact Az b hb h2;have RF:g.dK b=some o:=hl b (by rcases az.1 hb with hb|hb<;>simp[hb]);rw[RF]at h2;exact Mz h2
 refine⟨hle,?_,?_,?_,?_,?_,?_,?_⟩;refine DT _ hle _ jG (eR _ hle rfl rfl) (λb hb=>?_);exact me b o Mz (hl b (by rcases az.1 hb with hb|hb<;>simp[hb])) (Az b hb);rw[aN];refine aB.2 ⟨n1.1,aB.2 ⟨EM,n2.2.1,?_⟩,?_⟩;rintro b hb c hc rfl;exact hd1 b (by simp[hc]) hb;rintro b hb c hc rfl;rcases az.1 hc with hc|hc;exact hd1 b (by simp[hb]) hc;exact n1.2.2 b hb b (ba _ hc) rfl;intro b hb;show(if b∈f1++jG++f3 then _ else _)=_;rw[aG hb];intro b x hh hxo hb;have hm2:b∉f2:=λhm=>hxo (by have:=hl b (by simp[hm]);rw[hb]at this;simpa using this);refine⟨?_,me b x hh hb hm2⟩;show(if b∈f1++jG++f3 then _ else if cY (g.dK b) then none else g.dK b)=_;have Ts:b∉f1++jG++f3:=by intro hm;simp only[az]at hm;rcases hm with(hm|hm)|hm;exact hxo (by have:=hl b (by simp[hm]);rw[hb]at this;simpa using this);rcases(oo b hm).2 with h2|h2;exact hm2 h2;rw[hb]at h2;exact hh h2;exact hxo (by have:=hl b (by simp[hm]);rw[hb]at this;simpa using this)
 rw[aF Ts,aF (by rw[hb];exact hh),hb];intro b hb hm;have hm2:b∉f2:=λk=>hm (by simp[k]);refine⟨?_,me b o Mz hb hm2⟩;show(if b∈f1++jG++f3 then _ else if cY (g.dK b) then none else g.dK b)=_;rw[aF (c:=cY (g.dK b)) (by rw[hb];exact Mz),hb];split<;>rfl;refine h.frame.trans gP (λb hb hh=>?_);rcases hh with hh|hm;cases hx:g.dK b with|none=>rw[hx]at hh;cases hh|some x=>rcases(h.fB b x hx).2 with h2|h2;omega;exact h2
 rcases(h.fB b o (hl b (by simp[hm]))).2 with h2|h2;omega;exact h2;intro b x hx;have AR:(if b∈f1++jG++f3 then some o else if cY (g.dK b) then none else g.dK b)=some x:=hx;have hz:=gP.size;have Zj:∀y,g.dK b=some y->b<w'.heap.size/\(C.w0.heap.size<=b\/C.M b):=λy hy=>⟨gR (h.fB b y hy).1 hz,(h.fB b y hy).2⟩
 split at AR;rename_i hm;simp only[az]at hm;rcases hm with(hm|hm)|hm;exact Zj o (hl b (by simp[hm]));rcases(oo b hm).2 with h2|h2;exact Zj o (hl b (by simp[h2]));cases hy:g.dK b with|none=>rw[hy]at h2;cases h2|some y=>exact Zj y hy
 exact Zj o (hl b (by simp[hm]));split at AR;cases AR;exact Zj x AR
theorem dx.afz (h:dx C g st a w hs)(s j:Nat)(E4:x0≠ .bot)(gX:st.eM (.slot s j)=some x0): ∃v f2,gM (cy C g st w) v x0 f2/\f2.Nodup/\(∀b∈f2,g.dK b=some (.slot s))/\ ∀(w':World)(hw':Nat->Nat)(x1:AC)(jG:dX),(∀c',(cy C g st w).Le c'->c'.w=w'->c'.hw=hw'->gM c' v x1 jG)->jG.Nodup->(∀b∈jG,b<w'.heap.size/\(b∈f2\/cY (g.dK b)))-> Fr (λb=>cY (g.dK b)\/b∈f2) w w'->(∀b x,g.dK b=some x->¬cY (some x)->b∉f2->hw' b=g.hw b)-> ∃g',dx C g' {st.eU (.slot s j) x1 with ep:=st.ep+1} a w' []:=by
 have yd:s<st.slots.length:=by
  rcases bS s st.slots.length with gV|BM;exact gV;have:st.get s=.bot:=by simp[AS.get,dB,bH BM]
  rw[AS.eM,this]at gX;cases j with|zero=>simp[nth]at gX;exact absurd gX.symm E4|succ j=>simp[nth]at gX
 have hsl:st.slots[s]?=some (st.get s):=by rw[get_eq (al yd)];exact al yd
 obtain⟨fp,hr,hn,hl⟩:=h.slots s _ hsl;cases hg:st.get s with
 |vU ts=>rw[AS.eM,hg]at gX;cases gX
 |val gg cs=>
  have hgx:cs[j]?=some x0:=by rw[AS.eM,hg]at gX;simpa[dB]using gX
  rw[hg]at hr;obtain⟨vs,eh,hr⟩:=hr;obtain⟨v,f1,f2,f3,hv,rfl,eR,C2,AA,lG⟩:=h.L8 (.slot s) (by simp[fA]) hr hn hl hgx;refine⟨v,f2,eR,C2,AA,?_⟩;intro w' hw' x1 jG En EM oo gP Ca;let st':AS:={st.eU (.slot s j) x1 with ep:=st.ep+1}
  have kh:st'={st with slots:=st.slots.set s (.val gg (cs.set j x1)),ep:=st.ep+1}:=by show({st.eU (.slot s j) x1 with ep:=st.ep+1}:AS)=_;simp only[AS.eU,hg,AS.put,eV]
  obtain⟨hle,dD,Jv,hll,hk1,hk2,Jt,Hc⟩:=lG w' hw' st' x1 jG rfl (by rw[kh]) (λs hs=>by rw[kh];exact hs) En EM oo gP Ca;refine⟨_,h.step (λx=>¬cY (some x)/\x≠ .slot s) hle h.defers ?_ ?_ Jt Hc (λb x hk hx=>hk1 b x hk.1 hk.2 hx) ?_ ?_ (λk u bv hk=>by simp at hk) (.inl ⟨⟨by simp[fA],by simp⟩,by show st'.io=st.io;rw[kh]⟩)⟩;show _=st'.slots.length;rw[kh];simpa using h.size;show st'.boxes.length=st'.slots.length;rw[kh];simpa using h.bsize;intro i av hi;have rJ:(st.slots.set s (.val gg (cs.set j x1)))[i]?=some av:=by have:st'.slots[i]?=some av:=hi;rw[kh]at this;exact this
  by_cases Yu:i=s;subst Yu;rw[bl]at rJ;simp only[bL,yd]at rJ;simp at rJ;subst rJ;exact .inr ⟨_,⟨vs,eh,dD⟩,Jv,hll⟩;rw[aO (cJ Yu)]at rJ;exact .inl ⟨⟨by simp[fA],by simpa using Yu⟩,rJ,rfl⟩;intro t nd hb;have gL:st.boxes[t]?=some (some nd):=by have:st'.boxes[t]?=some (some nd):=hb;rw[kh]at this;exact this
  exact .inl ⟨⟨by simp[fA],by simp⟩,gL,rfl⟩
theorem dx.ag9 (h:dx C g st a w hs)(s j:Nat)(gX:st.eM (.box s j)=some x0): ∃v f2,gM (cy C g st w) v x0 f2/\f2.Nodup/\(∀b∈f2,g.dK b=some (.box s))/\ ∀(w':World)(hw':Nat->Nat)(x1:AC)(jG:dX),(∀c',(cy C g st w).Le c'->c'.w=w'->c'.hw=hw'->gM c' v x1 jG)->jG.Nodup->(∀b∈jG,b<w'.heap.size/\(b∈f2\/cY (g.dK b)))-> Fr (λb=>cY (g.dK b)\/b∈f2) w w'->(∀b x,g.dK b=some x->¬cY (some x)->b∉f2->hw' b=g.hw b)-> ∃g',dx C g' {st.eU (.box s j) x1 with ep:=st.ep+1} a w' []:=by
 have jE:∃cs,st.boxes[s]?=some (some cs)/\cs[j]?=some x0:=by rw[AS.eM,dB]at gX;cases hb:st.boxes[s]? with|none=>simp[hb]at gX|some o=>cases o with|none=>simp[hb]at gX|some cs=>exact⟨cs,rfl,by simpa[hb,dB]using gX⟩
 obtain⟨cs,jE,hgx⟩:=jE;have yd:s<st.boxes.length:=(aD.1 jE).1;obtain⟨arr,T,fr,fp,jw,qV,hr,hn,ti,hl,Hb,IQ⟩:=h.boxes s cs jE;obtain⟨v,f1,f2,f3,hv,rfl,eR,C2,AA,lG⟩:=h.L8 (.box s) (by simp[fA]) hr hn hl hgx;refine⟨v,f2,eR,C2,AA,?_⟩;intro w' hw' x1 jG En EM oo gP Ca;let st':AS:={st.eU (.box s j) x1 with ep:=st.ep+1}
 have kh:st'={st with boxes:=st.boxes.set s (some (cs.set j x1)),ep:=st.ep+1}:=by show({st.eU (.box s j) x1 with ep:=st.ep+1}:AS)=_;simp only[AS.eU,dB,jE,fz,AS.eG,eV]
 obtain⟨hle,dD,Jv,hll,hk1,hk2,Jt,Hc⟩:=lG w' hw' st' x1 jG rfl (by rw[kh]) (λt ht=>by rw[kh];obtain⟨c0,Xy⟩:=ht;by_cases qW:s=t;subst qW;exact⟨cs.set j x1,by simp[yd]⟩;exact⟨c0,by rw[aO qW];exact Xy⟩) En EM oo gP Ca;have Jx:=hk2 (g.β s) Hb ti;refine⟨_,h.step (λx=>¬cY (some x)/\x≠ .box s) hle h.defers ?_ ?_ Jt Hc (λb x hk hx=>hk1 b x hk.1 hk.2 hx) ?_ ?_ (λk u bv hk=>by simp at hk) (.inl ⟨⟨by simp[fA],by simp⟩,by show st'.io=st.io;rw[kh]⟩)⟩;show _=st'.slots.length;rw[kh];exact h.size;show st'.boxes.length=st'.slots.length;rw[kh];simpa using h.bsize;intro i av hi;have rJ:st.slots[i]?=some av:=by have:st'.slots[i]?=some av:=hi;rw[kh]at this;exact this
 exact .inl ⟨⟨by simp[fA],by simp⟩,rJ,rfl⟩;intro t nd hb;have gL:(st.boxes.set s (some (cs.set j x1)))[t]?=some (some nd):=by have:st'.boxes[t]?=some (some nd):=hb;rw[kh]at this;exact this
 by_cases qW:t=s;subst qW;rw[bl]at gL;simp only[bL,yd]at gL;simp at gL;subst gL;have IB:g.β t∉f1++jG++f3:=by intro hm;simp only[az]at hm;rcases hm with(hm|hm)|hm;exact ti (by simp[hm]);rcases(oo _ hm).2 with h2|h2;exact ti (by simp[h2]);rw[Hb]at h2;cases h2;exact ti (by simp[hm])
 exact .inr ⟨arr,T,fr,_,Jx.2.1.trans jw,qV,dD,Jv,IB,hll,Jx.1,Jx.2.2.trans IQ⟩;rw[aO (cJ qW)]at gL;exact .inl ⟨⟨by simp[fA],by simpa using qW⟩,gL,rfl⟩
theorem dx.aiM (h:dx C g st a w hs)(j:Nat)(gX:st.eM (.io j)=some x0): ∃v f2,gM (cy C g st w) v x0 f2/\f2.Nodup/\(∀b∈f2,g.dK b=some .io)/\ ∀(w':World)(hw':Nat->Nat)(x1:AC)(jG:dX),(∀c',(cy C g st w).Le c'->c'.w=w'->c'.hw=hw'->gM c' v x1 jG)->jG.Nodup->(∀b∈jG,b<w'.heap.size/\(b∈f2\/cY (g.dK b)))-> Fr (λb=>cY (g.dK b)\/b∈f2) w w'->(∀b x,g.dK b=some x->¬cY (some x)->b∉f2->hw' b=g.hw b)-> ∃g',dx C g' {st.eU (.io j) x1 with ep:=st.ep+1} a w' []:=by
 have hgx:st.io[j]?=some x0:=by rw[AS.eM,dB]at gX;exact gX
 obtain⟨fp,hr,hn,hl⟩:=h.io;obtain⟨v,f1,f2,f3,hv,rfl,eR,C2,AA,lG⟩:=h.L8 .io (by simp[fA]) hr hn hl hgx;refine⟨v,f2,eR,C2,AA,?_⟩;intro w' hw' x1 jG En EM oo gP Ca;let st':AS:={st.eU (.io j) x1 with ep:=st.ep+1}
 have kh:st'={st with io:=st.io.set j x1,ep:=st.ep+1}:=by show({st.eU (.io j) x1 with ep:=st.ep+1}:AS)=_;simp only[AS.eU,eV]
 obtain⟨hle,dD,Jv,hll,hk1,hk2,Jt,Hc⟩:=lG w' hw' st' x1 jG rfl (by rw[kh]) (λs hs=>by rw[kh];exact hs) En EM oo gP Ca
 refine⟨_,h.step (λx=>¬cY (some x)/\x≠ .io) hle h.defers ?_ ?_ Jt Hc (λb x hk hx=>hk1 b x hk.1 hk.2 hx) ?_ ?_ (λk u bv hk=>by simp at hk) (.inr ⟨_,by
  have:st'.io=st.io.set j x1:=by rw[kh]
  show bn _ _ st'.io _;rw[this];exact dD,Jv,hll⟩)⟩
 show _=st'.slots.length;rw[kh];exact h.size;show st'.boxes.length=st'.slots.length;rw[kh];exact h.bsize;intro i av hi;have rJ:st.slots[i]?=some av:=by have:st'.slots[i]?=some av:=hi;rw[kh]at this;exact this
 exact .inl ⟨⟨by simp[fA],by simp⟩,rJ,rfl⟩;intro t nd hb;have gL:st.boxes[t]?=some (some nd):=by have:st'.boxes[t]?=some (some nd):=hb;rw[kh]at this;exact this
 exact .inl ⟨⟨by simp[fA],by simp⟩,gL,rfl⟩
theorem dx.Ub (h:dx C g st a w hs)(r:kv)(E4:x0≠ .bot)(gX:st.eM r=some x0): ∃v f2,gM (cy C g st w) v x0 f2/\f2.Nodup/\(∀b∈f2,g.dK b=some r.owner)/\ ∀(w':World)(hw':Nat->Nat)(x1:AC)(jG:dX),(∀c',(cy C g st w).Le c'->c'.w=w'->c'.hw=hw'->gM c' v x1 jG)->jG.Nodup->(∀b∈jG,b<w'.heap.size/\(b∈f2\/cY (g.dK b)))-> Fr (λb=>cY (g.dK b)\/b∈f2) w w'->(∀b x,g.dK b=some x->¬cY (some x)->b∉f2->hw' b=g.hw b)-> ∃g',dx C g' {st.eU r x1 with ep:=st.ep+1} a w' []:=by cases r with|slot s j=>exact h.afz s j E4 gX|box s j=>exact h.ag9 s j gX|io j=>exact h.aiM j gX
theorem dx.Uc (h:dx C g st a w hs)(r:kv){tag:au Nat}{e:CT}{xs:aq e.D}(gX:st.eM r=some (.sl (.own tag) e xs)): ∃v f2,(∀t,tag=some t->v=g.hdr t)/\ez g.hw w (.sl e) [v] xs f2/\f2.Nodup/\(∀b∈f2,g.dK b=some r.owner)/\ ∀(w':World)(hw':Nat->Nat)(Qw:aq e.D)(jG:dX),ez hw' w' (.sl e) [v] Qw jG->jG.Nodup->(∀b∈jG,b<w'.heap.size/\(b∈f2\/cY (g.dK b)))-> Fr (λb=>cY (g.dK b)\/b∈f2) w w'->(∀b x,g.dK b=some x->¬cY (some x)->b∉f2->hw' b=g.hw b)-> ∃g',dx C g' {st.eU r (.sl (.own tag) e Qw)with ep:=st.ep+1} a w' []:=by obtain⟨v,f2,dD,C2,AA,lG⟩:=h.Ub r (by simp) gX;refine⟨v,f2,λt ht=>(dD.2 t ht).2,dD.1,C2,AA,λw' hw' Qw jG eR EM oo gP Ca=>lG w' hw' (.sl (.own tag) e Qw) jG (λc' hle Nh B7=>⟨?_,λt ht=>?_⟩) EM oo gP Ca⟩;rw[Nh,B7];exact eR;have h1:=dD.2 t ht;exact⟨(hle.hdr t h1.1).1,by rw[(hle.hdr t h1.1).2];exact h1.2⟩
theorem dx.afA (h:dx C g st a w [])(r:kv)(E4:x0≠ .bot)(gX:st.eM r=some x0): ∃v f2,gM (cy C g st w) v x0 f2/\f2.Nodup/\(∀b∈f2,g.dK b=some r.owner)/\ ∀(x1:AC)(jG fh:dX)(u:Value)(av:AV),(∀c',(cy C g st w).Le c'->c'.w=w->c'.hw=g.hw->c'.ep=st.ep->gM c' v x1 jG)->jG.Nodup->fh.Nodup->(∀b∈jG,b∈f2/\b∉fh)->(∀b∈fh,b∈f2)-> fL (cy C g st w) u av fh->∃g',dx C g' (st.eU r x1) a w [(u,av)]:=by
 have core:∀(o:je){vs:ie}{cs:aq AC}{fp:dX}{j:Nat},bn (cy C g st w) vs cs fp->fp.Nodup->(∀b∈fp,g.dK b=some o)->cs[j]?=some x0->
  ∃v f2,gM (cy C g st w) v x0 f2/\f2.Nodup/\(∀b∈f2,g.dK b=some o/\b∈fp)/\
   ∀(st':AS)(x1:AC)(jG fh:dX)(u:Value)(av:AV),st'.ep=st.ep->st'.iss=st.iss->(∀s,gA st s->gA st' s)->(∀c',(cy C g st w).Le c'->c'.w=w->c'.hw=g.hw->c'.ep=st.ep->gM c' v x1 jG)->jG.Nodup->fh.Nodup->(∀b∈jG,b∈f2/\b∉fh)->(∀b∈fh,b∈f2)->fL (cy C g st w) u av fh->
    (cy C g st w).Le (cy C {g with dK:=λb=>if b∈fh then some (.hand 0) else g.dK b} st' w)/\
    ∃iw,bn (cy C {g with dK:=λb=>if b∈fh then some (.hand 0) else g.dK b} st' w) vs (cs.set j x1) iw/\iw.Nodup/\(∀b∈iw,b∉fh/\b∈fp)/\
    Ln C {g with dK:=λb=>if b∈fh then some (.hand 0) else g.dK b} st' w 0 u av:=by
  intro o vs cs fp j dD hn hl hx
  obtain⟨v,f1,f2,f3,hv,rfl,QH,DT⟩:=dD.ahS hx
  have Cb:=hn
  rw[aN]at Cb
  have n1:=aB.1 Cb
  have n2:=aB.1 n1.2.1
  refine⟨v,f2,QH,n2.1,λb hb=>⟨hl b (by simp[hb]),by simp[hb]⟩,?_⟩
  intro st' x1 jG fh u av xY GH qU hx1 EM Mz oo QE hu
  have hle:(cy C g st w).Le (cy C {g with dK:=λb=>if b∈fh then some (.hand 0) else g.dK b} st' w):=
   ⟨rfl,λt ht=>⟨by show lL st' t;have UK:lL st t:=ht;simpa[lL,GH]using UK,rfl⟩,λ_ _ _ _ _ hu=>hu,by show st.ep<=st'.ep;omega,λs hs=>⟨qU s hs,rfl⟩,λ_ b o u ho hu=>⟨ho,hu⟩⟩
  have Az:∀b∈f1++f3,b∉f2:=by intro b hb h2;rcases az.1 hb with hb|hb;exact n1.2.2 b hb b (bk _ h2) rfl;exact n2.2.2 b h2 b hb rfl
  refine⟨hle,f1++jG++f3,DT _ hle _ jG (hx1 _ hle rfl rfl xY) (λ_ _=>⟨rfl,rfl⟩),?_,?_,fh,hu.mono hle (λ_ _=>⟨rfl,rfl⟩),Mz,λb hb=>?_⟩
  ·rw[aN]
   refine aB.2 ⟨n1.1,aB.2 ⟨EM,n2.2.1,?_⟩,?_⟩
   ·rintro b hb c hc rfl;exact Az b (by simp[hc]) (oo b hb).1
   ·rintro b hb c hc rfl
    rcases az.1 hc with hc|hc
    ·exact Az b (by simp[hb]) (oo b hc).1
    ·exact n1.2.2 b hb b (ba _ hc) rfl
  ·intro b hb
   simp only[az]at hb
   rcases hb with(hb|hb)|hb
   ·exact⟨λhm=>Az b (by simp[hb]) (QE b hm),by simp[hb]⟩
   ·exact⟨(oo b hb).2,by simp[(oo b hb).1]⟩
   ·exact⟨λhm=>Az b (by simp[hb]) (QE b hm),by simp[hb]⟩
  ·show(if b∈fh then _ else _)=_
   rw[aG hb]
 have O8:∀(fh:dX),∀b x,(if b∈fh then some (je.hand 0) else g.dK b)=some x->(b∈fh->∃y,g.dK b=some y)->b<w.heap.size/\(C.w0.heap.size<=b\/C.M b):=by intro fh b x hx hy;by_cases hm:b∈fh;obtain⟨y,hy⟩:=hy hm;exact h.fB b y hy;rw[aF hm]at hx;exact h.fB b x hx
 have YX:∀(fh:dX)(o:je),(∀b∈fh,g.dK b=some o)->∀b x,x≠o->g.dK b=some x->(if b∈fh then some (je.hand 0) else g.dK b)=some x:=by intro fh o QE b x hxo hb;rw[aF (λhm=>hxo (by have:=QE b hm;rw[hb]at this;simpa using this))];exact hb
 cases r with
 |slot s j=>
  have yd:s<st.slots.length:=by
   rcases bS s st.slots.length with gV|BM;exact gV;have:st.get s=.bot:=by simp[AS.get,dB,bH BM]
   rw[AS.eM,this]at gX;cases j with|zero=>simp[nth]at gX;exact absurd gX.symm E4|succ j=>simp[nth]at gX
  have hsl:st.slots[s]?=some (st.get s):=by rw[get_eq (al yd)];exact al yd
  obtain⟨fp,hr,hn,hl⟩:=h.slots s _ hsl;cases hg:st.get s with
  |vU ts=>rw[AS.eM,hg]at gX;cases gX
  |val gg cs=>
   have hgx:cs[j]?=some x0:=by rw[AS.eM,hg]at gX;simpa[dB]using gX
   rw[hg]at hr;obtain⟨vs,eh,hr⟩:=hr;have lH:∀x1,st.eU (.slot s j) x1={st with slots:=st.slots.set s (.val gg (cs.set j x1))}:=λx1=>by simp only[AS.eU,hg,AS.put,eV]
   obtain⟨v,f2,RG,C2,AA,lG⟩:=core (.slot s) hr hn hl hgx;refine⟨v,f2,RG,C2,λb hb=>(AA b hb).1,?_⟩;intro x1 jG fh u av hx1 EM Mz oo QE hu;obtain⟨hle,iw,dD,Jv,E2,G9⟩:=lG (st.eU (.slot s j) x1) x1 jG fh u av (by rw[lH]) (by rw[lH]) (λ_ q=>by rw[lH];exact q) hx1 EM Mz oo QE hu;have hfo:∀b∈fh,g.dK b=some (.slot s):=λb hb=>(AA b (QE b hb)).1;refine⟨_,h.step (λx=>x≠ .slot s) hle h.defers ?_ ?_ h.frame (λb x hx=>O8 fh b x hx (λhm=>⟨_,hfo b hm⟩)) (λb x hk hb=>⟨YX fh _ hfo b x hk hb,rfl,rfl⟩) ?_ ?_ ?_ (.inl ⟨by simp,by rw[lH]⟩)⟩;rw[lH];simpa using h.size;rw[lH];simpa using h.bsize;intro i bv hi;rw[lH]at hi;have rJ:(st.slots.set s (.val gg (cs.set j x1)))[i]?=some bv:=hi;by_cases Yu:i=s;subst Yu;rw[bl]at rJ;simp only[bL,yd]at rJ;simp at rJ;subst rJ;refine .inr ⟨iw,⟨vs,eh,dD⟩,Jv,λb hb=>?_⟩;show(if b∈fh then _ else _)=_;rw[aF (E2 b hb).1];exact hl b (E2 b hb).2;rw[aO (cJ Yu)]at rJ;exact .inl ⟨by simpa using Yu,rJ,rfl⟩;intro t nd hb;rw[lH]at hb;exact .inl ⟨by simp,hb,rfl⟩;intro k u' bv hk;cases k with
   |zero=>simp only[cq,aZ,Prod.mk.injEq]at hk;obtain⟨rfl,rfl⟩:=hk;exact .inr G9
   |succ k=>simp at hk
 |box s j=>
  have jE:∃cs,st.boxes[s]?=some (some cs)/\cs[j]?=some x0:=by rw[AS.eM,dB]at gX;cases hb:st.boxes[s]? with|none=>simp[hb]at gX|some o=>cases o with|none=>simp[hb]at gX|some cs=>exact⟨cs,rfl,by simpa[hb,dB]using gX⟩
  obtain⟨cs,jE,hgx⟩:=jE;have yd:s<st.boxes.length:=(aD.1 jE).1;obtain⟨arr,T,fr,fp,jw,qV,hr,hn,ti,hl,Hb,IQ⟩:=h.boxes s cs jE;have lH:∀x1,st.eU (.box s j) x1={st with boxes:=st.boxes.set s (some (cs.set j x1))}:=λx1=>by simp only[AS.eU,dB,jE,fz,AS.eG,eV]
  obtain⟨v,f2,RG,C2,AA,lG⟩:=core (.box s) hr hn hl hgx;refine⟨v,f2,RG,C2,λb hb=>(AA b hb).1,?_⟩;intro x1 jG fh u av hx1 EM Mz oo QE hu;obtain⟨hle,iw,dD,Jv,E2,G9⟩:=lG (st.eU (.box s j) x1) x1 jG fh u av (by rw[lH]) (by rw[lH]) (λt ht=>by rw[lH];obtain⟨c0,Xy⟩:=ht;by_cases qW:s=t;subst qW;exact⟨cs.set j x1,by simp[yd]⟩;exact⟨c0,by rw[aO qW];exact Xy⟩) hx1 EM Mz oo QE hu;have hfo:∀b∈fh,g.dK b=some (.box s):=λb hb=>(AA b (QE b hb)).1;refine⟨_,h.step (λx=>x≠ .box s) hle h.defers ?_ ?_ h.frame (λb x hx=>O8 fh b x hx (λhm=>⟨_,hfo b hm⟩)) (λb x hk hb=>⟨YX fh _ hfo b x hk hb,rfl,rfl⟩) ?_ ?_ ?_ (.inl ⟨by simp,by rw[lH]⟩)⟩;rw[lH];exact h.size;rw[lH];simpa using h.bsize;intro i bv hi;rw[lH]at hi;exact .inl ⟨by simp,hi,rfl⟩;intro t nd hb;rw[lH]at hb;have gL:(st.boxes.set s (some (cs.set j x1)))[t]?=some (some nd):=hb;by_cases qW:t=s;subst qW;rw[bl]at gL;simp only[bL,yd]at gL;simp at gL;subst gL;have Jx:g.β t∉fh:=λhm=>ti (AA _ (QE _ hm)).2;refine .inr ⟨arr,T,fr,iw,jw,qV,dD,Jv,λhm=>ti (E2 _ hm).2,λb hb=>?_,?_,IQ⟩;show(if b∈fh then _ else _)=_;rw[aF (E2 b hb).1];exact hl b (E2 b hb).2;show(if g.β t∈fh then _ else _)=_;rw[aF Jx];exact Hb;rw[aO (cJ qW)]at gL;exact .inl ⟨by simpa using qW,gL,rfl⟩;intro k u' bv hk;cases k with
  |zero=>simp only[cq,aZ,Prod.mk.injEq]at hk;obtain⟨rfl,rfl⟩:=hk;exact .inr G9
  |succ k=>simp at hk
 |io j=>
  have hgx:st.io[j]?=some x0:=by rw[AS.eM,dB]at gX;exact gX
  obtain⟨fp,hr,hn,hl⟩:=h.io;have lH:∀x1,st.eU (.io j) x1={st with io:=st.io.set j x1}:=λx1=>by simp only[AS.eU,eV]
  obtain⟨v,f2,RG,C2,AA,lG⟩:=core .io hr hn hl hgx;refine⟨v,f2,RG,C2,λb hb=>(AA b hb).1,?_⟩;intro x1 jG fh u av hx1 EM Mz oo QE hu;obtain⟨hle,iw,dD,Jv,E2,G9⟩:=lG (st.eU (.io j) x1) x1 jG fh u av (by rw[lH]) (by rw[lH]) (λ_ q=>by rw[lH];exact q) hx1 EM Mz oo QE hu;have hfo:∀b∈fh,g.dK b=some .io:=λb hb=>(AA b (QE b hb)).1;refine⟨_,h.step (λx=>x≠ .io) hle h.defers ?_ ?_ h.frame (λb x hx=>O8 fh b x hx (λhm=>⟨_,hfo b hm⟩)) (λb x hk hb=>⟨YX fh _ hfo b x hk hb,rfl,rfl⟩) ?_ ?_ ?_ (.inr ⟨iw,?_,Jv,λb hb=>?_⟩)⟩;rw[lH];exact h.size;rw[lH];exact h.bsize;intro i bv hi;rw[lH]at hi;exact .inl ⟨by simp,hi,rfl⟩;intro t nd hb;rw[lH]at hb;exact .inl ⟨by simp,hb,rfl⟩;intro k u' bv hk;cases k with
  |zero=>simp only[cq,aZ,Prod.mk.injEq]at hk;obtain⟨rfl,rfl⟩:=hk;exact .inr G9
  |succ k=>simp at hk
  have:(st.eU (.io j) x1).io=st.io.set j x1:=by rw[lH]
  rw[this];exact dD;show(if b∈fh then _ else _)=_;rw[aF (E2 b hb).1];exact hl b (E2 b hb).2
theorem dx.Yl (h:dx C g st a w hs){v:Value}{x:AC}(r:gM (cy C g st w) v x []):gM (cy C g st w) v (st.fresh x) []:=by
 unfold AS.fresh;split;rename_i ep rt t e xs;cases xY:(ep==st.ep)with
 |true=>exact r
 |false=>
  simp only[ae];split;rename_i t' e' ys gX;split;rename_i he;subst he;cases ht:(t'==t)with
  |false=>exact r
  |true=>
   have:t'=t:=by simpa using ht
   subst this;simp only[af];obtain⟨v0,f2,hh,eR,_,_,_⟩:=h.Uc rt gX;obtain⟨h1,h2,h3,h4,h5⟩:=r;obtain⟨k1,k2⟩:=h5 rt t' rfl;have hv:v0=v:=(hh t' rfl).trans k2.symm;subst hv;exact⟨h1,aR _,KG eR,λ_=>ez.rep (λb o ho=> .inr ho) eR,λr1 t1 hp=>by simp at hp;obtain⟨_,rfl⟩:=hp;exact⟨k1,k2⟩⟩
  exact r;exact r
 exact r
theorem dx.Mt (h:dx C g st a w hs):∀{vs:ie}{xs:aq AC},bn (cy C g st w) vs xs []->bn (cy C g st w) vs (xs.map st.fresh) []
 |[],[],r=>r
 |_::_,_::_,r=>by
  obtain⟨f1,f2,he,r1,r2⟩:=r;have h1:f1=[]:=by have:=he.symm;simp at this;exact this.1
  have h2:f2=[]:=by have:=he.symm;simp at this;exact this.2
  subst h1;subst h2;exact⟨[],[],rfl,h.Yl r1,h.Mt r2⟩
 |[],_::_,r=>r.elim
 |_::_,[],r=>r.elim
theorem dx.fresh (h:dx C g st a w hs){v:Value}{x:AV}(r:fL (cy C g st w) v x []):fL (cy C g st w) v (x.fresh st) []:=by
 cases x with
 |val gg cs=>obtain⟨vs,hv,r⟩:=r;exact⟨vs,hv,h.Mt r⟩
 |vU ts=>exact r
end Go.Dn
