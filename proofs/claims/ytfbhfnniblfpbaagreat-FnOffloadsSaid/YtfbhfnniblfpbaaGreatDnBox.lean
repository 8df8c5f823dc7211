import Derived.Test.YtfbhfnniblfpbaaGreatDnPut
/- A box is made or written; an element of an owned slice is written. -/
namespace Go.Dn
open Go.RowKit
variable {C:Ctx} {g:Gh} {st:AS} {a:Act} {w:World} {hs:ax (Value×AV)}
variable {x0:AC} {fp:fi}
theorem lX {s:Nat}{b:aA (ax AC)}:(st.fQ s b).boxes=st.boxes.set s b:=by simp[AS.fQ,gB]
theorem Ut {s:Nat}{cs:ax AC}{g':Gh}{w':World}(OV:g'.hdr=g.hdr)(hcA:∀k b o u,C.A k b o->w.cell? ⟨b,o,none⟩=some u->w'.cell? ⟨b,o,none⟩=some u)(M3:∀t,kD st t->g'.β t=g.β t)(K8:∀b o u,o<g.hw b->w.cell? ⟨b,o,none⟩=some u->o<g'.hw b/\w'.cell? ⟨b,o,none⟩=some u): (dy C g st w).Le (dy C g' (st.fQ s (some cs)) w'):=by refine⟨rfl,λt ht=>⟨ht,by show g'.hdr t=g.hdr t;rw[OV]⟩,hcA,bc _,λt ht=>⟨?_,M3 t ht⟩,λ_ b o u ho hu=>K8 b o u ho hu⟩;obtain⟨tr,hc⟩:=ht;show∃asp,(st.fQ s (some cs)).boxes[t]?=some (some asp);rw[lX];by_cases wx:s=t;subst wx;have iA:s<st.boxes.length:=(aD.1 hc).1;exact⟨cs,by simp[iA]⟩;exact⟨tr,by rw[aM wx];exact hc⟩
theorem eZ.aap (h:eZ C g st a w hs)(s:Nat){cs:ax AC}{arr:Array Value}{T:TypeId}{fr:Nat×Nat}{w':World}{bnew:Nat}{hw':Nat->Nat}(hbn:(bnew=g.β s/\g.fK bnew=some (.box s))\/(w.heap.size<=bnew/\st.boxes[s]?=some none))(km:Fr (λb=>eQ (g.fK b)\/b=bnew) w w')(ma:w'.heap[bnew]?=some (.cells arr T fr))(vx:sE arr fr)(iA:bnew<w'.heap.size)(asG:hw' bnew=0)(IT:∀b x,g.fK b=some x->¬eQ (some x)->b≠bnew->hw' b=g.hw b)(K8:∀b o u,o<g.hw b->w.cell? ⟨b,o,none⟩=some u->o<hw' b/\w'.cell? ⟨b,o,none⟩=some u)(hr:bW ⟨hw',λt=>if t=s then bnew else g.β t,C.A,g.hdr,oL st,st.ep,kD st,w'⟩ arr.toList cs fp)(hn:fp.Nodup)(zb:bnew∉fp)(Ha:∀b∈fp,b<w'.heap.size/\(eQ (g.fK b)\/g.fK b=some (.box s)\/w.heap.size<=b)): ∃g',g'.β s=bnew/\eZ C g' (st.fQ s (some cs)) a w' []:=by
 have hcA:∀k b o u,C.A k b o->w.cell? ⟨b,o,none⟩=some u->w'.cell? ⟨b,o,none⟩=some u:=by
  intro k b o u hA hu;have hb:b<w.heap.size:=World.block_lt_of_cell? w _ hu;have Oa:¬(eQ (g.fK b)\/b=bnew):=by
   rintro(hh|rfl);cases hx:g.fK b with|none=>rw[hx]at hh;cases hh|some x=>exact h.Rf hx k o hA
   rcases hbn with⟨_,h2⟩|h2;exact h.Rf h2 k o hA;omega
  rw[World.cell?_of_block (a:=⟨b,o,none⟩) (km.block b hb Oa)];exact hu
 have Fa:∀b x,g.fK b=some x->x≠ .box s->b≠bnew:=by rintro b x hx hxs rfl;rcases hbn with⟨_,h2⟩|h2;rw[hx]at h2;exact hxs (by simpa using h2);have:=(h.ir b x hx).1;omega
 have hkp:∀b x,g.fK b=some x->¬eQ (some x)->x≠ .box s->w'.heap[b]?=w.heap[b]?:=λb x hx hh hxs=>
  km.block b (h.ir b x hx).1 (by rintro(k|k);rw[hx]at k;exact hh k;exact Fa b x hx hxs k)
 let β':Nat->Nat:=λt=>if t=s then bnew else g.β t
 let aeT:Nat->aA kX:=λb=>if b=bnew\/b∈fp then some (.box s) else if eQ (g.fK b) then none else g.fK b
 let g':Gh:=⟨hw',β',aeT,g.hdr⟩
 have V0:Fr C.M C.w0 w':=h.frame.trans km (λb hb hh=>by
  rcases hh with hh|rfl;cases hx:g.fK b with|none=>rw[hx]at hh;cases hh|some x=>rcases(h.ir b x hx).2 with h2|h2;omega;exact h2
  rcases hbn with⟨_,h2⟩|h2;rcases(h.ir b _ h2).2 with h3|h3;omega;exact h3;have:=h.frame.size;omega)
 have M3:∀t,kD st t->β' t=g.β t:=by rintro t ⟨tr,hc⟩;show(if t=s then bnew else g.β t)=g.β t;by_cases wx:t=s;subst wx;rcases hbn with⟨h2,_⟩|⟨_,h2⟩;simp[h2];rw[h2]at hc;cases hc;simp[wx]
 have hle:(dy C g st w).Le (dy C g' (st.fQ s (some cs)) w'):=Ut rfl hcA M3 K8;have aly:(RC.mk hw' β' C.A g.hdr (oL st) st.ep (kD st) w').Le (dy C g' (st.fQ s (some cs)) w'):=⟨rfl,λ_ ht=>⟨ht,rfl⟩,λ_ _ _ _ _ hu=>hu,bc _,λt ht=>⟨(hle.LQ t ht).1,rfl⟩,λ_ b o u ho hu=>⟨ho,hu⟩⟩
 refine⟨g',by show(if s=s then bnew else g.β s)=bnew;simp,h.step (λx=>¬eQ (some x)/\x≠ .box s) hle h.defers h.size ?_ V0 ?_ ?_ ?_ ?_ ?_ (.inl ⟨⟨by simp[md],by simp⟩,rfl⟩)⟩;show(st.fQ s (some cs)).boxes.length=st.slots.length;rw[lX,aL];exact h.bsize;intro b x hx;have Dv:(if b=bnew\/b∈fp then some (kX.box s) else if eQ (g.fK b) then none else g.fK b)=some x:=hx;by_cases hm:b=bnew\/b∈fp;rcases hm with rfl|hm;refine⟨iA,?_⟩;rcases hbn with⟨_,h2⟩|h2;exact(h.ir b _ h2).2;exact .inl (bF h.frame.size h2.1);refine⟨(Ha b hm).1,?_⟩;rcases(Ha b hm).2 with h2|h2|h2;cases hy:g.fK b with|none=>rw[hy]at h2;cases h2|some y=>exact(h.ir b y hy).2
 exact(h.ir b _ h2).2;exact .inl (bF h.frame.size h2);rw[aK hm]at Dv;split at Dv;cases Dv;have hl:=h.ir b x Dv;have hz:=km.size;exact⟨by omega,hl.2⟩;intro b x hk hx;have hb1:=Fa b x hx hk.2;refine⟨?_,hkp b x hx hk.1 hk.2,IT b x hx hk.1 hb1⟩;show(if b=bnew\/b∈fp then some (kX.box s) else if eQ (g.fK b) then none else g.fK b)=some x;have aaW:¬(b=bnew\/b∈fp):=by rintro(hm|hm);exact hb1 hm;rcases(Ha b hm).2 with h2|h2|h2;rw[hx]at h2;exact hk.1 h2;rw[hx]at h2;exact hk.2 (by simpa using h2);have:=(h.ir b x hx).1;omega
 rw[aK aaW,aK (by rw[hx];exact hk.1),hx];intro i av hi;exact .inl ⟨⟨by simp[md],by simp⟩,hi,rfl⟩;intro t tr hb;have iq:(st.boxes.set s (some cs))[t]?=some (some tr):=by rw[<-lX];exact hb
 by_cases wx:t=s;subst wx;rw[bO]at iq;simp only[cL]at iq;split at iq;simp at iq;subst iq;have ajK:β' t=bnew:=by show(if t=t then bnew else g.β t)=bnew;simp
 refine .inr ⟨arr,T,fr,fp,?_,vx,hr.mono aly (λb _=>⟨rfl,rfl⟩),hn,?_,?_,?_,?_⟩;show w'.heap[β' t]?=_;rw[ajK];exact ma;show β' t∉fp;rw[ajK];exact zb;intro b hb;show(if b=bnew\/b∈fp then _ else _)=_;rw[aI (.inr hb)];show(if β' t=bnew\/β' t∈fp then _ else _)=_;rw[aI (.inl ajK)];show hw' (β' t)=0;rw[ajK];exact asG;cases iq;rw[aM (cE wx)]at iq;exact .inl ⟨⟨by simp[md],by simpa using wx⟩,iq,by show(if t=s then bnew else g.β t)=_;simp[wx]⟩;intro k u bv hk;simp at hk
def mw.owner:mw->kX
 | .slot s _=> .slot s
 | .box s _=> .box s
 | .io _=> .io
theorem bW.ak4 {c:RC}{vs:jI}{cs:ax AC}(hr:bW c vs cs fp){j:Nat}{x:AC}(hx:cs[j]?=some x): ∃v f1 f2 f3,vs[j]?=some v/\fp=f1++f2++f3/\je c v x f2/\ ∀(c':RC),c.Le c'->∀x' f2',je c' v x' f2'->(∀b∈f1++f3,c'.w.heap[b]?=c.w.heap[b]?/\c'.hw b=c.hw b)-> bW c' vs (cs.set j x') (f1++f2'++f3):=by
 have hj:j<cs.length:=(aD.1 hx).1;obtain⟨f1,fr,rfl,r1,r2⟩:=hr.split j;have hlen:=hr.length;have hjv:j<vs.length:=by omega
 have ecs:cs.drop j=x::cs.drop (j+1):=by rw[cr hj];congr 1;rw[ay hj]at hx;simpa using hx
 have evs:vs.drop j=vs[j]::vs.drop (j+1):=cr hjv;rw[ecs,evs]at r2;obtain⟨f2,f3,rfl,r2,r3⟩:=r2;refine⟨vs[j],f1,f2,f3,ay hjv,by simp,r2,λc' hle x' f2' Dv hb=>?_⟩;have e1:vs=vs.take j++(vs[j]::vs.drop (j+1)):=by rw[<-evs,cg]
 have e2:cs.set j x'=cs.take j++(x'::cs.drop (j+1)):=by rw[List.set_eq_take_append_cons_drop,aI hj]
 rw[e1,e2,aG];refine bW.append (r1.mono hle (λb iq=>hb b (aU _ iq))) ⟨f2',f3,rfl,Dv,?_⟩;exact r3.mono hle (λb iq=>hb b (bj _ iq))
def Gh.wrote (g:Gh)(o:kX)(fp:fi)(hw':Nat->Nat):Gh:=
 ⟨hw',g.β,λb=>if b∈fp then some o else if eQ (g.fK b) then none else g.fK b,g.hdr⟩
theorem eZ.Nz (h:eZ C g st a w hs)(o:kX)(SC:¬eQ (some o)){vs:jI}{cs:ax AC}{j:Nat}(fE:bW (dy C g st w) vs cs fp)(hn:fp.Nodup)(hl:∀b∈fp,g.fK b=some o)(hx:cs[j]?=some x0): ∃v f1 f2 f3,vs[j]?=some v/\fp=f1++f2++f3/\je (dy C g st w) v x0 f2/\f2.Nodup/\(∀b∈f2,g.fK b=some o)/\ ∀(w':World)(hw':Nat->Nat)(cp:AS)(x1:AC)(ud:fi),cp.ep=st.ep+1->cp.iss=st.iss->(∀s,kD st s->kD cp s)-> (∀c',(dy C g st w).Le c'->c'.w=w'->c'.hw=hw'->je c' v x1 ud)->ud.Nodup->(∀b∈ud,b<w'.heap.size/\(b∈f2\/eQ (g.fK b)))-> Fr (λb=>eQ (g.fK b)\/b∈f2) w w'->(∀b x,g.fK b=some x->¬eQ (some x)->b∉f2->hw' b=g.hw b)-> (dy C g st w).Le (dy C (g.wrote o (f1++ud++f3) hw') cp w')/\ bW (dy C (g.wrote o (f1++ud++f3) hw') cp w') vs (cs.set j x1) (f1++ud++f3)/\(f1++ud++f3).Nodup/\ (∀b∈f1++ud++f3,(g.wrote o (f1++ud++f3) hw').fK b=some o)/\ (∀b x,¬eQ (some x)->x≠o->g.fK b=some x->(g.wrote o (f1++ud++f3) hw').fK b=some x/\w'.heap[b]?=w.heap[b]?/\hw' b=g.hw b)/\ (∀b,g.fK b=some o->b∉fp->(g.wrote o (f1++ud++f3) hw').fK b=some o/\w'.heap[b]?=w.heap[b]?/\hw' b=g.hw b)/\ Fr C.M C.w0 w'/\(∀b x,(g.wrote o (f1++ud++f3) hw').fK b=some x->b<w'.heap.size/\(C.w0.heap.size<=b\/C.M b)):=by
 obtain⟨v,f1,f2,f3,hv,rfl,SW,HP⟩:=fE.ak4 hx;have D5:=hn;rw[aG]at D5;have n1:=aN.1 D5;have n2:=aN.1 n1.2.1;have Fs:∀b∈f1++f3,b∉f2:=by intro b hb h2;rcases aB.1 hb with hb|hb;exact n1.2.2 b hb b (aU _ h2) rfl;exact n2.2.2 b h2 b hb rfl
 refine⟨v,f1,f2,f3,hv,rfl,SW,n2.1,λb hb=>hl b (by simp[hb]),?_⟩;intro w' hw' cp x1 ud BG K6 xR ix MZ Ds km IT;have hcA:∀k b o u,C.A k b o->w.cell? ⟨b,o,none⟩=some u->w'.cell? ⟨b,o,none⟩=some u:=by
  intro k b o u hA hu;have hb:b<w.heap.size:=World.block_lt_of_cell? w _ hu;have Oa:¬(eQ (g.fK b)\/b∈f2):=by
   rintro(hh|hm);cases hx:g.fK b with|none=>rw[hx]at hh;cases hh|some x=>exact h.Rf hx k o hA
   exact h.Rf (hl b (by simp[hm])) k o hA
  rw[World.cell?_of_block (a:=⟨b,o,none⟩) (km.block b hb Oa)];exact hu
 have hle:(dy C g st w).Le (dy C (g.wrote o (f1++ud++f3) hw') cp w'):=⟨rfl,λt ht=>⟨by show oL cp t;have ht':oL st t:=ht;simpa[oL,K6]using ht',rfl⟩,hcA,by show st.ep<=cp.ep;omega,λs hs=>⟨xR s hs,rfl⟩,λhe=>absurd he (by show cp.ep≠st.ep;omega)⟩
 have vE:∀b x,¬eQ (some x)->g.fK b=some x->b∉f2->w'.heap[b]?=w.heap[b]?/\hw' b=g.hw b:=by intro b x hh hb hm;exact⟨km.block b (h.ir b _ hb).1 (by rintro(k|k);rw[hb]at k;exact hh k;exact hm k),IT b _ hb hh hm⟩
 have hd1:∀b∈f1++f3,b∉ud:=by intro b hb hm;rcases(Ds b hm).2 with h2|h2;exact Fs b hb h2;have T9:g.fK b=some o:=hl b (by rcases aB.1 hb with hb|hb<;>simp[hb]);rw[T9]at h2;exact SC h2
 refine⟨hle,?_,?_,?_,?_,?_,?_,?_⟩;refine HP _ hle _ ud (ix _ hle rfl rfl) (λb hb=>?_);exact vE b o SC (hl b (by rcases aB.1 hb with hb|hb<;>simp[hb])) (Fs b hb);rw[aG];refine aN.2 ⟨n1.1,aN.2 ⟨MZ,n2.2.1,?_⟩,?_⟩;rintro b hb c hc rfl;exact hd1 b (by simp[hc]) hb;rintro b hb c hc rfl;rcases aB.1 hc with hc|hc;exact hd1 b (by simp[hb]) hc;exact n1.2.2 b hb b (bj _ hc) rfl;intro b hb;show(if b∈f1++ud++f3 then _ else _)=_;rw[aI hb];intro b x hh hxo hb;have hm2:b∉f2:=λhm=>hxo (by have:=hl b (by simp[hm]);rw[hb]at this;simpa using this);refine⟨?_,vE b x hh hb hm2⟩;show(if b∈f1++ud++f3 then _ else if eQ (g.fK b) then none else g.fK b)=_;have aaW:b∉f1++ud++f3:=by intro hm;simp only[aB]at hm;rcases hm with(hm|hm)|hm;exact hxo (by have:=hl b (by simp[hm]);rw[hb]at this;simpa using this);rcases(Ds b hm).2 with h2|h2;exact hm2 h2;rw[hb]at h2;exact hh h2;exact hxo (by have:=hl b (by simp[hm]);rw[hb]at this;simpa using this)
 rw[aK aaW,aK (by rw[hb];exact hh),hb];intro b hb hm;have hm2:b∉f2:=λk=>hm (by simp[k]);refine⟨?_,vE b o SC hb hm2⟩;show(if b∈f1++ud++f3 then _ else if eQ (g.fK b) then none else g.fK b)=_;rw[aK (c:=eQ (g.fK b)) (by rw[hb];exact SC),hb];split<;>rfl;refine h.frame.trans km (λb hb hh=>?_);rcases hh with hh|hm;cases hx:g.fK b with|none=>rw[hx]at hh;cases hh|some x=>rcases(h.ir b x hx).2 with h2|h2;omega;exact h2
 rcases(h.ir b o (hl b (by simp[hm]))).2 with h2|h2;omega;exact h2;intro b x hx;have Dv:(if b∈f1++ud++f3 then some o else if eQ (g.fK b) then none else g.fK b)=some x:=hx;have hz:=km.size;have Ru:∀y,g.fK b=some y->b<w'.heap.size/\(C.w0.heap.size<=b\/C.M b):=λy hy=>⟨Nat.lt_of_lt_of_le (h.ir b y hy).1 hz,(h.ir b y hy).2⟩
 split at Dv;rename_i hm;simp only[aB]at hm;rcases hm with(hm|hm)|hm;exact Ru o (hl b (by simp[hm]));rcases(Ds b hm).2 with h2|h2;exact Ru o (hl b (by simp[h2]));cases hy:g.fK b with|none=>rw[hy]at h2;cases h2|some y=>exact Ru y hy
 exact Ru o (hl b (by simp[hm]));split at Dv;cases Dv;exact Ru x Dv
theorem eZ.aiF (h:eZ C g st a w hs)(s j:Nat)(Fa:x0≠ .bot)(jk:st.fU (.slot s j)=some x0): ∃v f2,je (dy C g st w) v x0 f2/\f2.Nodup/\(∀b∈f2,g.fK b=some (.slot s))/\ ∀(w':World)(hw':Nat->Nat)(x1:AC)(ud:fi),(∀c',(dy C g st w).Le c'->c'.w=w'->c'.hw=hw'->je c' v x1 ud)->ud.Nodup->(∀b∈ud,b<w'.heap.size/\(b∈f2\/eQ (g.fK b)))-> Fr (λb=>eQ (g.fK b)\/b∈f2) w w'->(∀b x,g.fK b=some x->¬eQ (some x)->b∉f2->hw' b=g.hw b)-> ∃g',eZ C g' {st.gj (.slot s j) x1 with ep:=st.ep+1} a w' []:=by
 have Cg:s<st.slots.length:=by
  rcases ca s st.slots.length with iA|B0;exact iA;have:st.get s=.bot:=by simp[AS.get,eV,cd B0]
  rw[AS.fU,this]at jk;cases j with|zero=>simp[nth]at jk;exact absurd jk.symm Fa|succ j=>simp[nth]at jk
 have W7:st.slots[s]?=some (st.get s):=by rw[get_eq (ay Cg)];exact ay Cg
 obtain⟨fp,hr,hn,hl⟩:=h.slots s _ W7;cases hg:st.get s with
 |yY ts=>rw[AS.fU,hg]at jk;cases jk
 |val gg cs=>
  have hgx:cs[j]?=some x0:=by rw[AS.fU,hg]at jk;simpa[eV]using jk
  rw[hg]at hr;obtain⟨vs,gb,hr⟩:=hr;obtain⟨v,f1,f2,f3,hv,rfl,ix,Hn,B4,tt⟩:=h.Nz (.slot s) (by simp[md]) hr hn hl hgx;refine⟨v,f2,ix,Hn,B4,?_⟩;intro w' hw' x1 ud Fw MZ Ds km IT;let cp:AS:={st.gj (.slot s j) x1 with ep:=st.ep+1}
  have zl:cp={st with slots:=st.slots.set s (.val gg (cs.set j x1)),ep:=st.ep+1}:=by show({st.gj (.slot s j) x1 with ep:=st.ep+1}:AS)=_;simp only[AS.gj,hg,AS.put,gB]
  obtain⟨hle,fE,QR,hll,hk1,hk2,V0,X6⟩:=tt w' hw' cp x1 ud rfl (by rw[zl]) (λs hs=>by rw[zl];exact hs) Fw MZ Ds km IT;refine⟨_,h.step (λx=>¬eQ (some x)/\x≠ .slot s) hle h.defers ?_ ?_ V0 X6 (λb x hk hx=>hk1 b x hk.1 hk.2 hx) ?_ ?_ (λk u bv hk=>by simp at hk) (.inl ⟨⟨by simp[md],by simp⟩,by show cp.io=st.io;rw[zl]⟩)⟩;show _=cp.slots.length;rw[zl];simpa using h.size;show cp.boxes.length=cp.slots.length;rw[zl];simpa using h.bsize;intro i av hi;have xQ:(st.slots.set s (.val gg (cs.set j x1)))[i]?=some av:=by have:cp.slots[i]?=some av:=hi;rw[zl]at this;exact this
  by_cases his:i=s;subst his;rw[bO]at xQ;simp only[cL,Cg]at xQ;simp at xQ;subst xQ;exact .inr ⟨_,⟨vs,gb,fE⟩,QR,hll⟩;rw[aM (cE his)]at xQ;exact .inl ⟨⟨by simp[md],by simpa using his⟩,xQ,rfl⟩;intro t tr hb;have iq:st.boxes[t]?=some (some tr):=by have:cp.boxes[t]?=some (some tr):=hb;rw[zl]at this;exact this
  exact .inl ⟨⟨by simp[md],by simp⟩,iq,rfl⟩
theorem eZ.akk (h:eZ C g st a w hs)(s j:Nat)(jk:st.fU (.box s j)=some x0): ∃v f2,je (dy C g st w) v x0 f2/\f2.Nodup/\(∀b∈f2,g.fK b=some (.box s))/\ ∀(w':World)(hw':Nat->Nat)(x1:AC)(ud:fi),(∀c',(dy C g st w).Le c'->c'.w=w'->c'.hw=hw'->je c' v x1 ud)->ud.Nodup->(∀b∈ud,b<w'.heap.size/\(b∈f2\/eQ (g.fK b)))-> Fr (λb=>eQ (g.fK b)\/b∈f2) w w'->(∀b x,g.fK b=some x->¬eQ (some x)->b∉f2->hw' b=g.hw b)-> ∃g',eZ C g' {st.gj (.box s j) x1 with ep:=st.ep+1} a w' []:=by
 have lB:∃cs,st.boxes[s]?=some (some cs)/\cs[j]?=some x0:=by rw[AS.fU,eV]at jk;cases hb:st.boxes[s]? with|none=>simp[hb]at jk|some o=>cases o with|none=>simp[hb]at jk|some cs=>exact⟨cs,rfl,by simpa[hb,eV]using jk⟩
 obtain⟨cs,lB,hgx⟩:=lB;have Cg:s<st.boxes.length:=(aD.1 lB).1;obtain⟨arr,T,fr,fp,ma,vx,hr,hn,zb,hl,KI,KK⟩:=h.boxes s cs lB;obtain⟨v,f1,f2,f3,hv,rfl,ix,Hn,B4,tt⟩:=h.Nz (.box s) (by simp[md]) hr hn hl hgx;refine⟨v,f2,ix,Hn,B4,?_⟩;intro w' hw' x1 ud Fw MZ Ds km IT;let cp:AS:={st.gj (.box s j) x1 with ep:=st.ep+1}
 have zl:cp={st with boxes:=st.boxes.set s (some (cs.set j x1)),ep:=st.ep+1}:=by show({st.gj (.box s j) x1 with ep:=st.ep+1}:AS)=_;simp only[AS.gj,eV,lB,gH,AS.fQ,gB]
 obtain⟨hle,fE,QR,hll,hk1,hk2,V0,X6⟩:=tt w' hw' cp x1 ud rfl (by rw[zl]) (λt ht=>by rw[zl];obtain⟨c0,W6⟩:=ht;by_cases wx:s=t;subst wx;exact⟨cs.set j x1,by simp[Cg]⟩;exact⟨c0,by rw[aM wx];exact W6⟩) Fw MZ Ds km IT;have M3:=hk2 (g.β s) KI zb;refine⟨_,h.step (λx=>¬eQ (some x)/\x≠ .box s) hle h.defers ?_ ?_ V0 X6 (λb x hk hx=>hk1 b x hk.1 hk.2 hx) ?_ ?_ (λk u bv hk=>by simp at hk) (.inl ⟨⟨by simp[md],by simp⟩,by show cp.io=st.io;rw[zl]⟩)⟩;show _=cp.slots.length;rw[zl];exact h.size;show cp.boxes.length=cp.slots.length;rw[zl];simpa using h.bsize;intro i av hi;have xQ:st.slots[i]?=some av:=by have:cp.slots[i]?=some av:=hi;rw[zl]at this;exact this
 exact .inl ⟨⟨by simp[md],by simp⟩,xQ,rfl⟩;intro t tr hb;have iq:(st.boxes.set s (some (cs.set j x1)))[t]?=some (some tr):=by have:cp.boxes[t]?=some (some tr):=hb;rw[zl]at this;exact this
 by_cases wx:t=s;subst wx;rw[bO]at iq;simp only[cL,Cg]at iq;simp at iq;subst iq;have K7:g.β t∉f1++ud++f3:=by intro hm;simp only[aB]at hm;rcases hm with(hm|hm)|hm;exact zb (by simp[hm]);rcases(Ds _ hm).2 with h2|h2;exact zb (by simp[h2]);rw[KI]at h2;cases h2;exact zb (by simp[hm])
 exact .inr ⟨arr,T,fr,_,M3.2.1.trans ma,vx,fE,QR,K7,hll,M3.1,M3.2.2.trans KK⟩;rw[aM (cE wx)]at iq;exact .inl ⟨⟨by simp[md],by simpa using wx⟩,iq,rfl⟩
theorem eZ.al9 (h:eZ C g st a w hs)(j:Nat)(jk:st.fU (.io j)=some x0): ∃v f2,je (dy C g st w) v x0 f2/\f2.Nodup/\(∀b∈f2,g.fK b=some .io)/\ ∀(w':World)(hw':Nat->Nat)(x1:AC)(ud:fi),(∀c',(dy C g st w).Le c'->c'.w=w'->c'.hw=hw'->je c' v x1 ud)->ud.Nodup->(∀b∈ud,b<w'.heap.size/\(b∈f2\/eQ (g.fK b)))-> Fr (λb=>eQ (g.fK b)\/b∈f2) w w'->(∀b x,g.fK b=some x->¬eQ (some x)->b∉f2->hw' b=g.hw b)-> ∃g',eZ C g' {st.gj (.io j) x1 with ep:=st.ep+1} a w' []:=by
 have hgx:st.io[j]?=some x0:=by rw[AS.fU,eV]at jk;exact jk
 obtain⟨fp,hr,hn,hl⟩:=h.io;obtain⟨v,f1,f2,f3,hv,rfl,ix,Hn,B4,tt⟩:=h.Nz .io (by simp[md]) hr hn hl hgx;refine⟨v,f2,ix,Hn,B4,?_⟩;intro w' hw' x1 ud Fw MZ Ds km IT;let cp:AS:={st.gj (.io j) x1 with ep:=st.ep+1}
 have zl:cp={st with io:=st.io.set j x1,ep:=st.ep+1}:=by show({st.gj (.io j) x1 with ep:=st.ep+1}:AS)=_;simp only[AS.gj,gB]
 obtain⟨hle,fE,QR,hll,hk1,hk2,V0,X6⟩:=tt w' hw' cp x1 ud rfl (by rw[zl]) (λs hs=>by rw[zl];exact hs) Fw MZ Ds km IT
 refine⟨_,h.step (λx=>¬eQ (some x)/\x≠ .io) hle h.defers ?_ ?_ V0 X6 (λb x hk hx=>hk1 b x hk.1 hk.2 hx) ?_ ?_ (λk u bv hk=>by simp at hk) (.inr ⟨_,by
  have:cp.io=st.io.set j x1:=by rw[zl]
  show bW _ _ cp.io _;rw[this];exact fE,QR,hll⟩)⟩
 show _=cp.slots.length;rw[zl];exact h.size;show cp.boxes.length=cp.slots.length;rw[zl];exact h.bsize;intro i av hi;have xQ:st.slots[i]?=some av:=by have:cp.slots[i]?=some av:=hi;rw[zl]at this;exact this
 exact .inl ⟨⟨by simp[md],by simp⟩,xQ,rfl⟩;intro t tr hb;have iq:st.boxes[t]?=some (some tr):=by have:cp.boxes[t]?=some (some tr):=hb;rw[zl]at this;exact this
 exact .inl ⟨⟨by simp[md],by simp⟩,iq,rfl⟩
theorem eZ.Wx (h:eZ C g st a w hs)(r:mw)(Fa:x0≠ .bot)(jk:st.fU r=some x0): ∃v f2,je (dy C g st w) v x0 f2/\f2.Nodup/\(∀b∈f2,g.fK b=some r.owner)/\ ∀(w':World)(hw':Nat->Nat)(x1:AC)(ud:fi),(∀c',(dy C g st w).Le c'->c'.w=w'->c'.hw=hw'->je c' v x1 ud)->ud.Nodup->(∀b∈ud,b<w'.heap.size/\(b∈f2\/eQ (g.fK b)))-> Fr (λb=>eQ (g.fK b)\/b∈f2) w w'->(∀b x,g.fK b=some x->¬eQ (some x)->b∉f2->hw' b=g.hw b)-> ∃g',eZ C g' {st.gj r x1 with ep:=st.ep+1} a w' []:=by cases r with|slot s j=>exact h.aiF s j Fa jk|box s j=>exact h.akk s j jk|io j=>exact h.al9 j jk
theorem eZ.Wy (h:eZ C g st a w hs)(r:mw){tag:aA Nat}{e:CT}{xs:ax e.D}(jk:st.fU r=some (.sl (.own tag) e xs)): ∃v f2,(∀t,tag=some t->v=g.hdr t)/\fZ g.hw w (.sl e) [v] xs f2/\f2.Nodup/\(∀b∈f2,g.fK b=some r.owner)/\ ∀(w':World)(hw':Nat->Nat)(SE:ax e.D)(ud:fi),fZ hw' w' (.sl e) [v] SE ud->ud.Nodup->(∀b∈ud,b<w'.heap.size/\(b∈f2\/eQ (g.fK b)))-> Fr (λb=>eQ (g.fK b)\/b∈f2) w w'->(∀b x,g.fK b=some x->¬eQ (some x)->b∉f2->hw' b=g.hw b)-> ∃g',eZ C g' {st.gj r (.sl (.own tag) e SE)with ep:=st.ep+1} a w' []:=by obtain⟨v,f2,fE,Hn,B4,tt⟩:=h.Wx r (by simp) jk;refine⟨v,f2,λt ht=>(fE.2 t ht).2,fE.1,Hn,B4,λw' hw' SE ud ix MZ Ds km IT=>tt w' hw' (.sl (.own tag) e SE) ud (λc' hle T8 Hh=>⟨?_,λt ht=>?_⟩) MZ Ds km IT⟩;rw[T8,Hh];exact ix;have h1:=fE.2 t ht;exact⟨(hle.hdr t h1.1).1,by rw[(hle.hdr t h1.1).2];exact h1.2⟩
theorem eZ.aiG (h:eZ C g st a w [])(r:mw)(Fa:x0≠ .bot)(jk:st.fU r=some x0): ∃v f2,je (dy C g st w) v x0 f2/\f2.Nodup/\(∀b∈f2,g.fK b=some r.owner)/\ ∀(x1:AC)(ud fh:fi)(u:Value)(av:AV),(∀c',(dy C g st w).Le c'->c'.w=w->c'.hw=g.hw->c'.ep=st.ep->je c' v x1 ud)->ud.Nodup->fh.Nodup->(∀b∈ud,b∈f2/\b∉fh)->(∀b∈fh,b∈f2)-> gV (dy C g st w) u av fh->∃g',eZ C g' (st.gj r x1) a w [(u,av)]:=by
 have core:∀(o:kX){vs:jI}{cs:ax AC}{fp:fi}{j:Nat},bW (dy C g st w) vs cs fp->fp.Nodup->(∀b∈fp,g.fK b=some o)->cs[j]?=some x0->
  ∃v f2,je (dy C g st w) v x0 f2/\f2.Nodup/\(∀b∈f2,g.fK b=some o/\b∈fp)/\
   ∀(cp:AS)(x1:AC)(ud fh:fi)(u:Value)(av:AV),cp.ep=st.ep->cp.iss=st.iss->(∀s,kD st s->kD cp s)->(∀c',(dy C g st w).Le c'->c'.w=w->c'.hw=g.hw->c'.ep=st.ep->je c' v x1 ud)->ud.Nodup->fh.Nodup->(∀b∈ud,b∈f2/\b∉fh)->(∀b∈fh,b∈f2)->gV (dy C g st w) u av fh->
    (dy C g st w).Le (dy C {g with fK:=λb=>if b∈fh then some (.hand 0) else g.fK b} cp w)/\
    ∃kZ,bW (dy C {g with fK:=λb=>if b∈fh then some (.hand 0) else g.fK b} cp w) vs (cs.set j x1) kZ/\kZ.Nodup/\(∀b∈kZ,b∉fh/\b∈fp)/\
    MH C {g with fK:=λb=>if b∈fh then some (.hand 0) else g.fK b} cp w 0 u av:=by
  intro o vs cs fp j fE hn hl hx
  obtain⟨v,f1,f2,f3,hv,rfl,SW,HP⟩:=fE.ak4 hx
  have D5:=hn
  rw[aG]at D5
  have n1:=aN.1 D5
  have n2:=aN.1 n1.2.1
  refine⟨v,f2,SW,n2.1,λb hb=>⟨hl b (by simp[hb]),by simp[hb]⟩,?_⟩
  intro cp x1 ud fh u av BG K6 xR hx1 MZ SC Ds SQ hu
  have hle:(dy C g st w).Le (dy C {g with fK:=λb=>if b∈fh then some (.hand 0) else g.fK b} cp w):=
   ⟨rfl,λt ht=>⟨by show oL cp t;have ht':oL st t:=ht;simpa[oL,K6]using ht',rfl⟩,λ_ _ _ _ _ hu=>hu,by show st.ep<=cp.ep;omega,λs hs=>⟨xR s hs,rfl⟩,λ_ b o u ho hu=>⟨ho,hu⟩⟩
  have Fs:∀b∈f1++f3,b∉f2:=by intro b hb h2;rcases aB.1 hb with hb|hb;exact n1.2.2 b hb b (aU _ h2) rfl;exact n2.2.2 b h2 b hb rfl
  refine⟨hle,f1++ud++f3,HP _ hle _ ud (hx1 _ hle rfl rfl BG) (λ_ _=>⟨rfl,rfl⟩),?_,?_,fh,hu.mono hle (λ_ _=>⟨rfl,rfl⟩),SC,λb hb=>?_⟩
  ·rw[aG]
   refine aN.2 ⟨n1.1,aN.2 ⟨MZ,n2.2.1,?_⟩,?_⟩
   ·rintro b hb c hc rfl;exact Fs b (by simp[hc]) (Ds b hb).1
   ·rintro b hb c hc rfl
    rcases aB.1 hc with hc|hc
    ·exact Fs b (by simp[hb]) (Ds b hc).1
    ·exact n1.2.2 b hb b (bj _ hc) rfl
  ·intro b hb
   simp only[aB]at hb
   rcases hb with(hb|hb)|hb
   ·exact⟨λhm=>Fs b (by simp[hb]) (SQ b hm),by simp[hb]⟩
   ·exact⟨(Ds b hb).2,by simp[(Ds b hb).1]⟩
   ·exact⟨λhm=>Fs b (by simp[hb]) (SQ b hm),by simp[hb]⟩
  ·show(if b∈fh then _ else _)=_
   rw[aI hb]
 have Rh:∀(fh:fi),∀b x,(if b∈fh then some (kX.hand 0) else g.fK b)=some x->(b∈fh->∃y,g.fK b=some y)->b<w.heap.size/\(C.w0.heap.size<=b\/C.M b):=by intro fh b x hx hy;by_cases hm:b∈fh;obtain⟨y,hy⟩:=hy hm;exact h.ir b y hy;rw[aK hm]at hx;exact h.ir b x hx
 have abq:∀(fh:fi)(o:kX),(∀b∈fh,g.fK b=some o)->∀b x,x≠o->g.fK b=some x->(if b∈fh then some (kX.hand 0) else g.fK b)=some x:=by intro fh o SQ b x hxo hb;rw[aK (λhm=>hxo (by have:=SQ b hm;rw[hb]at this;simpa using this))];exact hb
 cases r with
 |slot s j=>
  have Cg:s<st.slots.length:=by
   rcases ca s st.slots.length with iA|B0;exact iA;have:st.get s=.bot:=by simp[AS.get,eV,cd B0]
   rw[AS.fU,this]at jk;cases j with|zero=>simp[nth]at jk;exact absurd jk.symm Fa|succ j=>simp[nth]at jk
  have W7:st.slots[s]?=some (st.get s):=by rw[get_eq (ay Cg)];exact ay Cg
  obtain⟨fp,hr,hn,hl⟩:=h.slots s _ W7;cases hg:st.get s with
  |yY ts=>rw[AS.fU,hg]at jk;cases jk
  |val gg cs=>
   have hgx:cs[j]?=some x0:=by rw[AS.fU,hg]at jk;simpa[eV]using jk
   rw[hg]at hr;obtain⟨vs,gb,hr⟩:=hr;have mI:∀x1,st.gj (.slot s j) x1={st with slots:=st.slots.set s (.val gg (cs.set j x1))}:=λx1=>by simp only[AS.gj,hg,AS.put,gB]
   obtain⟨v,f2,Ub,Hn,B4,tt⟩:=core (.slot s) hr hn hl hgx;refine⟨v,f2,Ub,Hn,λb hb=>(B4 b hb).1,?_⟩;intro x1 ud fh u av hx1 MZ SC Ds SQ hu;obtain⟨hle,kZ,fE,QR,Gd,HK⟩:=tt (st.gj (.slot s j) x1) x1 ud fh u av (by rw[mI]) (by rw[mI]) (λ_ q=>by rw[mI];exact q) hx1 MZ SC Ds SQ hu;have hfo:∀b∈fh,g.fK b=some (.slot s):=λb hb=>(B4 b (SQ b hb)).1;refine⟨_,h.step (λx=>x≠ .slot s) hle h.defers ?_ ?_ h.frame (λb x hx=>Rh fh b x hx (λhm=>⟨_,hfo b hm⟩)) (λb x hk hb=>⟨abq fh _ hfo b x hk hb,rfl,rfl⟩) ?_ ?_ ?_ (.inl ⟨by simp,by rw[mI]⟩)⟩;rw[mI];simpa using h.size;rw[mI];simpa using h.bsize;intro i bv hi;rw[mI]at hi;have xQ:(st.slots.set s (.val gg (cs.set j x1)))[i]?=some bv:=hi;by_cases his:i=s;subst his;rw[bO]at xQ;simp only[cL,Cg]at xQ;simp at xQ;subst xQ;refine .inr ⟨kZ,⟨vs,gb,fE⟩,QR,λb hb=>?_⟩;show(if b∈fh then _ else _)=_;rw[aK (Gd b hb).1];exact hl b (Gd b hb).2;rw[aM (cE his)]at xQ;exact .inl ⟨by simpa using his,xQ,rfl⟩;intro t tr hb;rw[mI]at hb;exact .inl ⟨by simp,hb,rfl⟩;intro k u' bv hk;cases k with
   |zero=>simp only[df,br,Prod.mk.injEq]at hk;obtain⟨rfl,rfl⟩:=hk;exact .inr HK
   |succ k=>simp at hk
 |box s j=>
  have lB:∃cs,st.boxes[s]?=some (some cs)/\cs[j]?=some x0:=by rw[AS.fU,eV]at jk;cases hb:st.boxes[s]? with|none=>simp[hb]at jk|some o=>cases o with|none=>simp[hb]at jk|some cs=>exact⟨cs,rfl,by simpa[hb,eV]using jk⟩
  obtain⟨cs,lB,hgx⟩:=lB;have Cg:s<st.boxes.length:=(aD.1 lB).1;obtain⟨arr,T,fr,fp,ma,vx,hr,hn,zb,hl,KI,KK⟩:=h.boxes s cs lB;have mI:∀x1,st.gj (.box s j) x1={st with boxes:=st.boxes.set s (some (cs.set j x1))}:=λx1=>by simp only[AS.gj,eV,lB,gH,AS.fQ,gB]
  obtain⟨v,f2,Ub,Hn,B4,tt⟩:=core (.box s) hr hn hl hgx;refine⟨v,f2,Ub,Hn,λb hb=>(B4 b hb).1,?_⟩;intro x1 ud fh u av hx1 MZ SC Ds SQ hu;obtain⟨hle,kZ,fE,QR,Gd,HK⟩:=tt (st.gj (.box s j) x1) x1 ud fh u av (by rw[mI]) (by rw[mI]) (λt ht=>by rw[mI];obtain⟨c0,W6⟩:=ht;by_cases wx:s=t;subst wx;exact⟨cs.set j x1,by simp[Cg]⟩;exact⟨c0,by rw[aM wx];exact W6⟩) hx1 MZ SC Ds SQ hu;have hfo:∀b∈fh,g.fK b=some (.box s):=λb hb=>(B4 b (SQ b hb)).1;refine⟨_,h.step (λx=>x≠ .box s) hle h.defers ?_ ?_ h.frame (λb x hx=>Rh fh b x hx (λhm=>⟨_,hfo b hm⟩)) (λb x hk hb=>⟨abq fh _ hfo b x hk hb,rfl,rfl⟩) ?_ ?_ ?_ (.inl ⟨by simp,by rw[mI]⟩)⟩;rw[mI];exact h.size;rw[mI];simpa using h.bsize;intro i bv hi;rw[mI]at hi;exact .inl ⟨by simp,hi,rfl⟩;intro t tr hb;rw[mI]at hb;have iq:(st.boxes.set s (some (cs.set j x1)))[t]?=some (some tr):=hb;by_cases wx:t=s;subst wx;rw[bO]at iq;simp only[cL,Cg]at iq;simp at iq;subst iq;have M3:g.β t∉fh:=λhm=>zb (B4 _ (SQ _ hm)).2;refine .inr ⟨arr,T,fr,kZ,ma,vx,fE,QR,λhm=>zb (Gd _ hm).2,λb hb=>?_,?_,KK⟩;show(if b∈fh then _ else _)=_;rw[aK (Gd b hb).1];exact hl b (Gd b hb).2;show(if g.β t∈fh then _ else _)=_;rw[aK M3];exact KI;rw[aM (cE wx)]at iq;exact .inl ⟨by simpa using wx,iq,rfl⟩;intro k u' bv hk;cases k with
  |zero=>simp only[df,br,Prod.mk.injEq]at hk;obtain⟨rfl,rfl⟩:=hk;exact .inr HK
  |succ k=>simp at hk
 |io j=>
  have hgx:st.io[j]?=some x0:=by rw[AS.fU,eV]at jk;exact jk
  obtain⟨fp,hr,hn,hl⟩:=h.io;have mI:∀x1,st.gj (.io j) x1={st with io:=st.io.set j x1}:=λx1=>by simp only[AS.gj,gB]
  obtain⟨v,f2,Ub,Hn,B4,tt⟩:=core .io hr hn hl hgx;refine⟨v,f2,Ub,Hn,λb hb=>(B4 b hb).1,?_⟩;intro x1 ud fh u av hx1 MZ SC Ds SQ hu;obtain⟨hle,kZ,fE,QR,Gd,HK⟩:=tt (st.gj (.io j) x1) x1 ud fh u av (by rw[mI]) (by rw[mI]) (λ_ q=>by rw[mI];exact q) hx1 MZ SC Ds SQ hu;have hfo:∀b∈fh,g.fK b=some .io:=λb hb=>(B4 b (SQ b hb)).1;refine⟨_,h.step (λx=>x≠ .io) hle h.defers ?_ ?_ h.frame (λb x hx=>Rh fh b x hx (λhm=>⟨_,hfo b hm⟩)) (λb x hk hb=>⟨abq fh _ hfo b x hk hb,rfl,rfl⟩) ?_ ?_ ?_ (.inr ⟨kZ,?_,QR,λb hb=>?_⟩)⟩;rw[mI];exact h.size;rw[mI];exact h.bsize;intro i bv hi;rw[mI]at hi;exact .inl ⟨by simp,hi,rfl⟩;intro t tr hb;rw[mI]at hb;exact .inl ⟨by simp,hb,rfl⟩;intro k u' bv hk;cases k with
  |zero=>simp only[df,br,Prod.mk.injEq]at hk;obtain⟨rfl,rfl⟩:=hk;exact .inr HK
  |succ k=>simp at hk
  have:(st.gj (.io j) x1).io=st.io.set j x1:=by rw[mI]
  rw[this];exact fE;show(if b∈fh then _ else _)=_;rw[aK (Gd b hb).1];exact hl b (Gd b hb).2
theorem eZ.aaQ (h:eZ C g st a w hs){v:Value}{x:AC}(r:je (dy C g st w) v x []):je (dy C g st w) v (st.fresh x) []:=by
 unfold AS.fresh;split;rename_i ep rt t e xs;cases BG:(ep==st.ep)with
 |true=>exact r
 |false=>
  simp only[ae];split;rename_i t' e' ys jk;split;rename_i he;subst he;cases ht:(t'==t)with
  |false=>exact r
  |true=>
   have:t'=t:=by simpa using ht
   subst this;simp only[af];obtain⟨v0,f2,hh,ix,_,_,_⟩:=h.Wy rt jk;obtain⟨h1,h2,h3,h4,h5⟩:=r;obtain⟨k1,k2⟩:=h5 rt t' rfl;have hv:v0=v:=(hh t' rfl).trans k2.symm;subst hv;exact⟨h1,bc _,LI ix,λ_=>fZ.rep (λb o ho=> .inr ho) ix,λr1 t1 hp=>by simp at hp;obtain⟨_,rfl⟩:=hp;exact⟨k1,k2⟩⟩
  exact r;exact r
 exact r
theorem eZ.N1 (h:eZ C g st a w hs):∀{vs:jI}{xs:ax AC},bW (dy C g st w) vs xs []->bW (dy C g st w) vs (xs.map st.fresh) []
 |[],[],r=>r
 |_::_,_::_,r=>by
  obtain⟨f1,f2,he,r1,r2⟩:=r;have h1:f1=[]:=by have:=he.symm;simp at this;exact this.1
  have h2:f2=[]:=by have:=he.symm;simp at this;exact this.2
  subst h1;subst h2;exact⟨[],[],rfl,h.aaQ r1,h.N1 r2⟩
 |[],_::_,r=>r.elim
 |_::_,[],r=>r.elim
theorem eZ.fresh (h:eZ C g st a w hs){v:Value}{x:AV}(r:gV (dy C g st w) v x []):gV (dy C g st w) v (x.fresh st) []:=by
 cases x with
 |val gg cs=>obtain⟨vs,hv,r⟩:=r;exact⟨vs,hv,h.N1 r⟩
 |yY ts=>exact r
end Go.Dn
