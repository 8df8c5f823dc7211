import Derived.Test.YtfbhfnniblfpbaaGreatDnPut
/- A box is made or written; an element of an owned slice is written. -/
namespace Go.Dn
open Go.RowKit
variable {C:Ctx} {g:Gh} {st:AS} {a:Act} {w:World} {hs:au (Value×AV)}
variable {x0:AC} {fp:dI}
theorem kb {s:Nat}{b:aw (au AC)}:(st.ed s b).boxes=st.boxes.set s b:=by simp[AS.ed,eJ]
theorem Rl {s:Nat}{cs:au AC}{g':Gh}{w':World}(Jo:g'.hdr=g.hdr)(Xx:∀k b o u,C.A k b o->w.cell? ⟨b,o,none⟩=some u->w'.cell? ⟨b,o,none⟩=some u)(ID:∀t,fX st t->g'.β t=g.β t)(Jq:∀b o u,o<g.hw b->w.cell? ⟨b,o,none⟩=some u->o<g'.hw b/\w'.cell? ⟨b,o,none⟩=some u): (cq C g st w).Le (cq C g' (st.ed s (some cs)) w'):=by refine⟨rfl,λt ht=>⟨ht,by show g'.hdr t=g.hdr t;rw[Jo]⟩,Xx,aX _,λt ht=>⟨?_,ID t ht⟩,λ_ b o u ho hu=>Jq b o u ho hu⟩;obtain⟨mK,hc⟩:=ht;show∃aow,(st.ed s (some cs)).boxes[t]?=some (some aow);rw[kb];by_cases qH:s=t;subst qH;have gq:s<st.boxes.length:=(aD.1 hc).1;exact⟨cs,by simp[gq]⟩;exact⟨mK,by rw[aN qH];exact hc⟩
theorem dk.W4 (h:dk C g st a w hs)(s:Nat){cs:au AC}{arr:Array Value}{T:TypeId}{fr:Nat×Nat}{w':World}{bnew:Nat}{hw':Nat->Nat}(hbn:(bnew=g.β s/\g.dB bnew=some (.box s))\/(w.heap.size<=bnew/\st.boxes[s]?=some none))(gw:Fr (λb=>cQ (g.dB b)\/b=bnew) w w')(jh:w'.heap[bnew]?=some (.cells arr T fr))(qG:pL arr fr)(gq:bnew<w'.heap.size)(aoO:hw' bnew=0)(Bl:∀b x,g.dB b=some x->¬cQ (some x)->b≠bnew->hw' b=g.hw b)(Jq:∀b o u,o<g.hw b->w.cell? ⟨b,o,none⟩=some u->o<hw' b/\w'.cell? ⟨b,o,none⟩=some u)(hr:bp ⟨hw',λt=>if t=s then bnew else g.β t,C.A,g.hdr,ll st,st.ep,fX st,w'⟩ arr.toList cs fp)(hn:fp.Nodup)(sO:bnew∉fp)(B7:∀b∈fp,b<w'.heap.size/\(cQ (g.dB b)\/g.dB b=some (.box s)\/w.heap.size<=b)): ∃g',g'.β s=bnew/\dk C g' (st.ed s (some cs)) a w' []:=by
 have Xx:∀k b o u,C.A k b o->w.cell? ⟨b,o,none⟩=some u->w'.cell? ⟨b,o,none⟩=some u:=by
  intro k b o u hA hu;have hb:b<w.heap.size:=World.block_lt_of_cell? w _ hu;have I3:¬(cQ (g.dB b)\/b=bnew):=by
   rintro(hh|rfl);cases hx:g.dB b with|none=>rw[hx]at hh;cases hh|some x=>exact h.K1 hx k o hA
   rcases hbn with⟨_,h2⟩|h2;exact h.K1 h2 k o hA;omega
  rw[World.cell?_of_block (a:=⟨b,o,none⟩) (gw.block b hb I3)];exact hu
 have Ea:∀b x,g.dB b=some x->x≠ .box s->b≠bnew:=by rintro b x hx hxs rfl;rcases hbn with⟨_,h2⟩|h2;rw[hx]at h2;exact hxs (by simpa using h2);have:=(h.fa b x hx).1;omega
 have hkp:∀b x,g.dB b=some x->¬cQ (some x)->x≠ .box s->w'.heap[b]?=w.heap[b]?:=λb x hx hh hxs=>
  gw.block b (h.fa b x hx).1 (by rintro(k|k);rw[hx]at k;exact hh k;exact Ea b x hx hxs k)
 let β':Nat->Nat:=λt=>if t=s then bnew else g.β t
 let abf:Nat->aw iT:=λb=>if b=bnew\/b∈fp then some (.box s) else if cQ (g.dB b) then none else g.dB b
 let g':Gh:=⟨hw',β',abf,g.hdr⟩
 have Iz:Fr C.M C.w0 w':=h.frame.trans gw (λb hb hh=>by
  rcases hh with hh|rfl;cases hx:g.dB b with|none=>rw[hx]at hh;cases hh|some x=>rcases(h.fa b x hx).2 with h2|h2;omega;exact h2
  rcases hbn with⟨_,h2⟩|h2;rcases(h.fa b _ h2).2 with h3|h3;omega;exact h3;have:=h.frame.size;omega)
 have ID:∀t,fX st t->β' t=g.β t:=by rintro t ⟨mK,hc⟩;show(if t=s then bnew else g.β t)=g.β t;by_cases qH:t=s;subst qH;rcases hbn with⟨h2,_⟩|⟨_,h2⟩;simp[h2];rw[h2]at hc;cases hc;simp[qH]
 have hle:(cq C g st w).Le (cq C g' (st.ed s (some cs)) w'):=Rl rfl Xx ID Jq;have ag7:(RC.mk hw' β' C.A g.hdr (ll st) st.ep (fX st) w').Le (cq C g' (st.ed s (some cs)) w'):=⟨rfl,λ_ ht=>⟨ht,rfl⟩,λ_ _ _ _ _ hu=>hu,aX _,λt ht=>⟨(hle.JW t ht).1,rfl⟩,λ_ b o u ho hu=>⟨ho,hu⟩⟩
 refine⟨g',by show(if s=s then bnew else g.β s)=bnew;simp,h.step (λx=>¬cQ (some x)/\x≠ .box s) hle h.defers h.size ?_ Iz ?_ ?_ ?_ ?_ ?_ (.inl ⟨⟨by simp[eZ],by simp⟩,rfl⟩)⟩;show(st.ed s (some cs)).boxes.length=st.slots.length;rw[kb,aJ];exact h.bsize;intro b x hx;have zY:(if b=bnew\/b∈fp then some (iT.box s) else if cQ (g.dB b) then none else g.dB b)=some x:=hx;by_cases hm:b=bnew\/b∈fp;rcases hm with rfl|hm;refine⟨gq,?_⟩;rcases hbn with⟨_,h2⟩|h2;exact(h.fa b _ h2).2;exact .inl (aH h.frame.size h2.1);refine⟨(B7 b hm).1,?_⟩;rcases(B7 b hm).2 with h2|h2|h2;cases hy:g.dB b with|none=>rw[hy]at h2;cases h2|some y=>exact(h.fa b y hy).2
 exact(h.fa b _ h2).2;exact .inl (aH h.frame.size h2);rw[aE hm]at zY;split at zY;cases zY;have hl:=h.fa b x zY;have hz:=gw.size;exact⟨by omega,hl.2⟩;intro b x hk hx;have Zt:=Ea b x hx hk.2;refine⟨?_,hkp b x hx hk.1 hk.2,Bl b x hx hk.1 Zt⟩;show(if b=bnew\/b∈fp then some (iT.box s) else if cQ (g.dB b) then none else g.dB b)=some x;have SK:¬(b=bnew\/b∈fp):=by rintro(hm|hm);exact Zt hm;rcases(B7 b hm).2 with h2|h2|h2;rw[hx]at h2;exact hk.1 h2;rw[hx]at h2;exact hk.2 (by simpa using h2);have:=(h.fa b x hx).1;omega
 rw[aE SK,aE (by rw[hx];exact hk.1),hx];intro i av hi;exact .inl ⟨⟨by simp[eZ],by simp⟩,hi,rfl⟩;intro t mK hb;have gn:(st.boxes.set s (some cs))[t]?=some (some mK):=by rw[<-kb];exact hb
 by_cases qH:t=s;subst qH;rw[bk]at gn;simp only[bN]at gn;split at gn;simp at gn;subst gn;have afv:β' t=bnew:=by show(if t=t then bnew else g.β t)=bnew;simp
 refine .inr ⟨arr,T,fr,fp,?_,qG,hr.mono ag7 (λb _=>⟨rfl,rfl⟩),hn,?_,?_,?_,?_⟩;show w'.heap[β' t]?=_;rw[afv];exact jh;show β' t∉fp;rw[afv];exact sO;intro b hb;show(if b=bnew\/b∈fp then _ else _)=_;rw[aF (.inr hb)];show(if β' t=bnew\/β' t∈fp then _ else _)=_;rw[aF (.inl afv)];show hw' (β' t)=0;rw[afv];exact aoO;cases gn;rw[aN (cD qH)]at gn;exact .inl ⟨⟨by simp[eZ],by simpa using qH⟩,gn,by show(if t=s then bnew else g.β t)=_;simp[qH]⟩;intro k u bv hk;simp at hk
def ka.owner:ka->iT
 | .slot s _=> .slot s
 | .box s _=> .box s
 | .io _=> .io
theorem bp.agD {c:RC}{vs:gP}{cs:au AC}(hr:bp c vs cs fp){j:Nat}{x:AC}(hx:cs[j]?=some x): ∃v f1 f2 f3,vs[j]?=some v/\fp=f1++f2++f3/\gr c v x f2/\ ∀(c':RC),c.Le c'->∀x' f2',gr c' v x' f2'->(∀b∈f1++f3,c'.w.heap[b]?=c.w.heap[b]?/\c'.hw b=c.hw b)-> bp c' vs (cs.set j x') (f1++f2'++f3):=by
 have hj:j<cs.length:=(aD.1 hx).1;obtain⟨f1,fr,rfl,r1,r2⟩:=hr.split j;have hlen:=hr.length;have hjv:j<vs.length:=by omega
 have ecs:cs.drop j=x::cs.drop (j+1):=by rw[bQ hj];congr 1;rw[al hj]at hx;simpa using hx
 have evs:vs.drop j=vs[j]::vs.drop (j+1):=bQ hjv;rw[ecs,evs]at r2;obtain⟨f2,f3,rfl,r2,r3⟩:=r2;refine⟨vs[j],f1,f2,f3,al hjv,by simp,r2,λc' hle x' f2' zY hb=>?_⟩;have e1:vs=vs.take j++(vs[j]::vs.drop (j+1)):=by rw[<-evs,cf]
 have e2:cs.set j x'=cs.take j++(x'::cs.drop (j+1)):=by rw[List.set_eq_take_append_cons_drop,aF hj]
 rw[e1,e2,aP];refine bp.append (r1.mono hle (λb gn=>hb b (bj _ gn))) ⟨f2',f3,rfl,zY,?_⟩;exact r3.mono hle (λb gn=>hb b (ba _ gn))
def Gh.wrote (g:Gh)(o:iT)(fp:dI)(hw':Nat->Nat):Gh:=
 ⟨hw',g.β,λb=>if b∈fp then some o else if cQ (g.dB b) then none else g.dB b,g.hdr⟩
theorem dk.Lk (h:dk C g st a w hs)(o:iT)(LR:¬cQ (some o)){vs:gP}{cs:au AC}{j:Nat}(dx:bp (cq C g st w) vs cs fp)(hn:fp.Nodup)(hl:∀b∈fp,g.dB b=some o)(hx:cs[j]?=some x0): ∃v f1 f2 f3,vs[j]?=some v/\fp=f1++f2++f3/\gr (cq C g st w) v x0 f2/\f2.Nodup/\(∀b∈f2,g.dB b=some o)/\ ∀(w':World)(hw':Nat->Nat)(st':AS)(x1:AC)(jr:dI),st'.ep=st.ep+1->st'.iss=st.iss->(∀s,fX st s->fX st' s)-> (∀c',(cq C g st w).Le c'->c'.w=w'->c'.hw=hw'->gr c' v x1 jr)->jr.Nodup->(∀b∈jr,b<w'.heap.size/\(b∈f2\/cQ (g.dB b)))-> Fr (λb=>cQ (g.dB b)\/b∈f2) w w'->(∀b x,g.dB b=some x->¬cQ (some x)->b∉f2->hw' b=g.hw b)-> (cq C g st w).Le (cq C (g.wrote o (f1++jr++f3) hw') st' w')/\ bp (cq C (g.wrote o (f1++jr++f3) hw') st' w') vs (cs.set j x1) (f1++jr++f3)/\(f1++jr++f3).Nodup/\ (∀b∈f1++jr++f3,(g.wrote o (f1++jr++f3) hw').dB b=some o)/\ (∀b x,¬cQ (some x)->x≠o->g.dB b=some x->(g.wrote o (f1++jr++f3) hw').dB b=some x/\w'.heap[b]?=w.heap[b]?/\hw' b=g.hw b)/\ (∀b,g.dB b=some o->b∉fp->(g.wrote o (f1++jr++f3) hw').dB b=some o/\w'.heap[b]?=w.heap[b]?/\hw' b=g.hw b)/\ Fr C.M C.w0 w'/\(∀b x,(g.wrote o (f1++jr++f3) hw').dB b=some x->b<w'.heap.size/\(C.w0.heap.size<=b\/C.M b)):=by
 obtain⟨v,f1,f2,f3,hv,rfl,P4,Eb⟩:=dx.agD hx;have Bm:=hn;rw[aP]at Bm;have n1:=aB.1 Bm;have n2:=aB.1 n1.2.1;have zG:∀b∈f1++f3,b∉f2:=by intro b hb h2;rcases ay.1 hb with hb|hb;exact n1.2.2 b hb b (bj _ h2) rfl;exact n2.2.2 b h2 b hb rfl
 refine⟨v,f1,f2,f3,hv,rfl,P4,n2.1,λb hb=>hl b (by simp[hb]),?_⟩;intro w' hw' st' x1 jr xl FO qF eE DW nT gw Bl;have Xx:∀k b o u,C.A k b o->w.cell? ⟨b,o,none⟩=some u->w'.cell? ⟨b,o,none⟩=some u:=by
  intro k b o u hA hu;have hb:b<w.heap.size:=World.block_lt_of_cell? w _ hu;have I3:¬(cQ (g.dB b)\/b∈f2):=by
   rintro(hh|hm);cases hx:g.dB b with|none=>rw[hx]at hh;cases hh|some x=>exact h.K1 hx k o hA
   exact h.K1 (hl b (by simp[hm])) k o hA
  rw[World.cell?_of_block (a:=⟨b,o,none⟩) (gw.block b hb I3)];exact hu
 have hle:(cq C g st w).Le (cq C (g.wrote o (f1++jr++f3) hw') st' w'):=⟨rfl,λt ht=>⟨by show ll st' t;have TV:ll st t:=ht;simpa[ll,FO]using TV,rfl⟩,Xx,by show st.ep<=st'.ep;omega,λs hs=>⟨qF s hs,rfl⟩,λhe=>absurd he (by show st'.ep≠st.ep;omega)⟩
 have lH:∀b x,¬cQ (some x)->g.dB b=some x->b∉f2->w'.heap[b]?=w.heap[b]?/\hw' b=g.hw b:=by intro b x hh hb hm;exact⟨gw.block b (h.fa b _ hb).1 (by rintro(k|k);rw[hb]at k;exact hh k;exact hm k),Bl b _ hb hh hm⟩
 have hd1:∀b∈f1++f3,b∉jr:=by intro b hb hm;rcases(nT b hm).2 with h2|h2;exact zG b hb h2;have QY:g.dB b=some o:=hl b (by rcases ay.1 hb with hb|hb<;>simp[hb]);rw[QY]at h2;exact LR h2
 refine⟨hle,?_,?_,?_,?_,?_,?_,?_⟩;refine Eb _ hle _ jr (eE _ hle rfl rfl) (λb hb=>?_);exact lH b o LR (hl b (by rcases ay.1 hb with hb|hb<;>simp[hb])) (zG b hb);rw[aP];refine aB.2 ⟨n1.1,aB.2 ⟨DW,n2.2.1,?_⟩,?_⟩;rintro b hb c hc rfl;exact hd1 b (by simp[hc]) hb;rintro b hb c hc rfl;rcases ay.1 hc with hc|hc;exact hd1 b (by simp[hb]) hc;exact n1.2.2 b hb b (ba _ hc) rfl;intro b hb;show(if b∈f1++jr++f3 then _ else _)=_;rw[aF hb];intro b x hh hxo hb;have Zx:b∉f2:=λhm=>hxo (by have:=hl b (by simp[hm]);rw[hb]at this;simpa using this);refine⟨?_,lH b x hh hb Zx⟩;show(if b∈f1++jr++f3 then _ else if cQ (g.dB b) then none else g.dB b)=_;have SK:b∉f1++jr++f3:=by intro hm;simp only[ay]at hm;rcases hm with(hm|hm)|hm;exact hxo (by have:=hl b (by simp[hm]);rw[hb]at this;simpa using this);rcases(nT b hm).2 with h2|h2;exact Zx h2;rw[hb]at h2;exact hh h2;exact hxo (by have:=hl b (by simp[hm]);rw[hb]at this;simpa using this)
 rw[aE SK,aE (by rw[hb];exact hh),hb];intro b hb hm;have Zx:b∉f2:=λk=>hm (by simp[k]);refine⟨?_,lH b o LR hb Zx⟩;show(if b∈f1++jr++f3 then _ else if cQ (g.dB b) then none else g.dB b)=_;rw[aE (c:=cQ (g.dB b)) (by rw[hb];exact LR),hb];split<;>rfl;refine h.frame.trans gw (λb hb hh=>?_);rcases hh with hh|hm;cases hx:g.dB b with|none=>rw[hx]at hh;cases hh|some x=>rcases(h.fa b x hx).2 with h2|h2;omega;exact h2
 rcases(h.fa b o (hl b (by simp[hm]))).2 with h2|h2;omega;exact h2;intro b x hx;have zY:(if b∈f1++jr++f3 then some o else if cQ (g.dB b) then none else g.dB b)=some x:=hx;have hz:=gw.size;have Yj:∀y,g.dB b=some y->b<w'.heap.size/\(C.w0.heap.size<=b\/C.M b):=λy hy=>⟨gy (h.fa b y hy).1 hz,(h.fa b y hy).2⟩
 split at zY;rename_i hm;simp only[ay]at hm;rcases hm with(hm|hm)|hm;exact Yj o (hl b (by simp[hm]));rcases(nT b hm).2 with h2|h2;exact Yj o (hl b (by simp[h2]));cases hy:g.dB b with|none=>rw[hy]at h2;cases h2|some y=>exact Yj y hy
 exact Yj o (hl b (by simp[hm]));split at zY;cases zY;exact Yj x zY
theorem dk.aes (h:dk C g st a w hs)(s j:Nat)(Ea:x0≠ .bot)(gE:st.ew (.slot s j)=some x0): ∃v f2,gr (cq C g st w) v x0 f2/\f2.Nodup/\(∀b∈f2,g.dB b=some (.slot s))/\ ∀(w':World)(hw':Nat->Nat)(x1:AC)(jr:dI),(∀c',(cq C g st w).Le c'->c'.w=w'->c'.hw=hw'->gr c' v x1 jr)->jr.Nodup->(∀b∈jr,b<w'.heap.size/\(b∈f2\/cQ (g.dB b)))-> Fr (λb=>cQ (g.dB b)\/b∈f2) w w'->(∀b x,g.dB b=some x->¬cQ (some x)->b∉f2->hw' b=g.hw b)-> ∃g',dk C g' {st.eI (.slot s j) x1 with ep:=st.ep+1} a w' []:=by
 have xq:s<st.slots.length:=by
  rcases bL s st.slots.length with gq|zX;exact gq;have:st.get s=.bot:=by simp[AS.get,dv,bE zX]
  rw[AS.ew,this]at gE;cases j with|zero=>simp[nth]at gE;exact absurd gE.symm Ea|succ j=>simp[nth]at gE
 have Zz:st.slots[s]?=some (st.get s):=by rw[get_eq (al xq)];exact al xq
 obtain⟨fp,hr,hn,hl⟩:=h.slots s _ Zz;cases hg:st.get s with
 |vq ts=>rw[AS.ew,hg]at gE;cases gE
 |val gg cs=>
  have hgx:cs[j]?=some x0:=by rw[AS.ew,hg]at gE;simpa[dv]using gE
  rw[hg]at hr;obtain⟨vs,dM,hr⟩:=hr;obtain⟨v,f1,f2,f3,hv,rfl,eE,B8,zH,la⟩:=h.Lk (.slot s) (by simp[eZ]) hr hn hl hgx;refine⟨v,f2,eE,B8,zH,?_⟩;intro w' hw' x1 jr Dw DW nT gw Bl;let st':AS:={st.eI (.slot s j) x1 with ep:=st.ep+1}
  have jP:st'={st with slots:=st.slots.set s (.val gg (cs.set j x1)),ep:=st.ep+1}:=by show({st.eI (.slot s j) x1 with ep:=st.ep+1}:AS)=_;simp only[AS.eI,hg,AS.put,eJ]
  obtain⟨hle,dx,IB,hll,hk1,hk2,Iz,Gi⟩:=la w' hw' st' x1 jr rfl (by rw[jP]) (λs hs=>by rw[jP];exact hs) Dw DW nT gw Bl;refine⟨_,h.step (λx=>¬cQ (some x)/\x≠ .slot s) hle h.defers ?_ ?_ Iz Gi (λb x hk hx=>hk1 b x hk.1 hk.2 hx) ?_ ?_ (λk u bv hk=>by simp at hk) (.inl ⟨⟨by simp[eZ],by simp⟩,by show st'.io=st.io;rw[jP]⟩)⟩;show _=st'.slots.length;rw[jP];simpa using h.size;show st'.boxes.length=st'.slots.length;rw[jP];simpa using h.bsize;intro i av hi;have rn:(st.slots.set s (.val gg (cs.set j x1)))[i]?=some av:=by have:st'.slots[i]?=some av:=hi;rw[jP]at this;exact this
  by_cases XB:i=s;subst XB;rw[bk]at rn;simp only[bN,xq]at rn;simp at rn;subst rn;exact .inr ⟨_,⟨vs,dM,dx⟩,IB,hll⟩;rw[aN (cD XB)]at rn;exact .inl ⟨⟨by simp[eZ],by simpa using XB⟩,rn,rfl⟩;intro t mK hb;have gn:st.boxes[t]?=some (some mK):=by have:st'.boxes[t]?=some (some mK):=hb;rw[jP]at this;exact this
  exact .inl ⟨⟨by simp[eZ],by simp⟩,gn,rfl⟩
theorem dk.afT (h:dk C g st a w hs)(s j:Nat)(gE:st.ew (.box s j)=some x0): ∃v f2,gr (cq C g st w) v x0 f2/\f2.Nodup/\(∀b∈f2,g.dB b=some (.box s))/\ ∀(w':World)(hw':Nat->Nat)(x1:AC)(jr:dI),(∀c',(cq C g st w).Le c'->c'.w=w'->c'.hw=hw'->gr c' v x1 jr)->jr.Nodup->(∀b∈jr,b<w'.heap.size/\(b∈f2\/cQ (g.dB b)))-> Fr (λb=>cQ (g.dB b)\/b∈f2) w w'->(∀b x,g.dB b=some x->¬cQ (some x)->b∉f2->hw' b=g.hw b)-> ∃g',dk C g' {st.eI (.box s j) x1 with ep:=st.ep+1} a w' []:=by
 have jq:∃cs,st.boxes[s]?=some (some cs)/\cs[j]?=some x0:=by rw[AS.ew,dv]at gE;cases hb:st.boxes[s]? with|none=>simp[hb]at gE|some o=>cases o with|none=>simp[hb]at gE|some cs=>exact⟨cs,rfl,by simpa[hb,dv]using gE⟩
 obtain⟨cs,jq,hgx⟩:=jq;have xq:s<st.boxes.length:=(aD.1 jq).1;obtain⟨arr,T,fr,fp,jh,qG,hr,hn,sO,hl,Gg,HV⟩:=h.boxes s cs jq;obtain⟨v,f1,f2,f3,hv,rfl,eE,B8,zH,la⟩:=h.Lk (.box s) (by simp[eZ]) hr hn hl hgx;refine⟨v,f2,eE,B8,zH,?_⟩;intro w' hw' x1 jr Dw DW nT gw Bl;let st':AS:={st.eI (.box s j) x1 with ep:=st.ep+1}
 have jP:st'={st with boxes:=st.boxes.set s (some (cs.set j x1)),ep:=st.ep+1}:=by show({st.eI (.box s j) x1 with ep:=st.ep+1}:AS)=_;simp only[AS.eI,dv,jq,eY,AS.ed,eJ]
 obtain⟨hle,dx,IB,hll,hk1,hk2,Iz,Gi⟩:=la w' hw' st' x1 jr rfl (by rw[jP]) (λt ht=>by rw[jP];obtain⟨c0,WJ⟩:=ht;by_cases qH:s=t;subst qH;exact⟨cs.set j x1,by simp[xq]⟩;exact⟨c0,by rw[aN qH];exact WJ⟩) Dw DW nT gw Bl;have ID:=hk2 (g.β s) Gg sO;refine⟨_,h.step (λx=>¬cQ (some x)/\x≠ .box s) hle h.defers ?_ ?_ Iz Gi (λb x hk hx=>hk1 b x hk.1 hk.2 hx) ?_ ?_ (λk u bv hk=>by simp at hk) (.inl ⟨⟨by simp[eZ],by simp⟩,by show st'.io=st.io;rw[jP]⟩)⟩;show _=st'.slots.length;rw[jP];exact h.size;show st'.boxes.length=st'.slots.length;rw[jP];simpa using h.bsize;intro i av hi;have rn:st.slots[i]?=some av:=by have:st'.slots[i]?=some av:=hi;rw[jP]at this;exact this
 exact .inl ⟨⟨by simp[eZ],by simp⟩,rn,rfl⟩;intro t mK hb;have gn:(st.boxes.set s (some (cs.set j x1)))[t]?=some (some mK):=by have:st'.boxes[t]?=some (some mK):=hb;rw[jP]at this;exact this
 by_cases qH:t=s;subst qH;rw[bk]at gn;simp only[bN,xq]at gn;simp at gn;subst gn;have HJ:g.β t∉f1++jr++f3:=by intro hm;simp only[ay]at hm;rcases hm with(hm|hm)|hm;exact sO (by simp[hm]);rcases(nT _ hm).2 with h2|h2;exact sO (by simp[h2]);rw[Gg]at h2;cases h2;exact sO (by simp[hm])
 exact .inr ⟨arr,T,fr,_,ID.2.1.trans jh,qG,dx,IB,HJ,hll,ID.1,ID.2.2.trans HV⟩;rw[aN (cD qH)]at gn;exact .inl ⟨⟨by simp[eZ],by simpa using qH⟩,gn,rfl⟩
theorem dk.ahz (h:dk C g st a w hs)(j:Nat)(gE:st.ew (.io j)=some x0): ∃v f2,gr (cq C g st w) v x0 f2/\f2.Nodup/\(∀b∈f2,g.dB b=some .io)/\ ∀(w':World)(hw':Nat->Nat)(x1:AC)(jr:dI),(∀c',(cq C g st w).Le c'->c'.w=w'->c'.hw=hw'->gr c' v x1 jr)->jr.Nodup->(∀b∈jr,b<w'.heap.size/\(b∈f2\/cQ (g.dB b)))-> Fr (λb=>cQ (g.dB b)\/b∈f2) w w'->(∀b x,g.dB b=some x->¬cQ (some x)->b∉f2->hw' b=g.hw b)-> ∃g',dk C g' {st.eI (.io j) x1 with ep:=st.ep+1} a w' []:=by
 have hgx:st.io[j]?=some x0:=by rw[AS.ew,dv]at gE;exact gE
 obtain⟨fp,hr,hn,hl⟩:=h.io;obtain⟨v,f1,f2,f3,hv,rfl,eE,B8,zH,la⟩:=h.Lk .io (by simp[eZ]) hr hn hl hgx;refine⟨v,f2,eE,B8,zH,?_⟩;intro w' hw' x1 jr Dw DW nT gw Bl;let st':AS:={st.eI (.io j) x1 with ep:=st.ep+1}
 have jP:st'={st with io:=st.io.set j x1,ep:=st.ep+1}:=by show({st.eI (.io j) x1 with ep:=st.ep+1}:AS)=_;simp only[AS.eI,eJ]
 obtain⟨hle,dx,IB,hll,hk1,hk2,Iz,Gi⟩:=la w' hw' st' x1 jr rfl (by rw[jP]) (λs hs=>by rw[jP];exact hs) Dw DW nT gw Bl
 refine⟨_,h.step (λx=>¬cQ (some x)/\x≠ .io) hle h.defers ?_ ?_ Iz Gi (λb x hk hx=>hk1 b x hk.1 hk.2 hx) ?_ ?_ (λk u bv hk=>by simp at hk) (.inr ⟨_,by
  have:st'.io=st.io.set j x1:=by rw[jP]
  show bp _ _ st'.io _;rw[this];exact dx,IB,hll⟩)⟩
 show _=st'.slots.length;rw[jP];exact h.size;show st'.boxes.length=st'.slots.length;rw[jP];exact h.bsize;intro i av hi;have rn:st.slots[i]?=some av:=by have:st'.slots[i]?=some av:=hi;rw[jP]at this;exact this
 exact .inl ⟨⟨by simp[eZ],by simp⟩,rn,rfl⟩;intro t mK hb;have gn:st.boxes[t]?=some (some mK):=by have:st'.boxes[t]?=some (some mK):=hb;rw[jP]at this;exact this
 exact .inl ⟨⟨by simp[eZ],by simp⟩,gn,rfl⟩
theorem dk.Tn (h:dk C g st a w hs)(r:ka)(Ea:x0≠ .bot)(gE:st.ew r=some x0): ∃v f2,gr (cq C g st w) v x0 f2/\f2.Nodup/\(∀b∈f2,g.dB b=some r.owner)/\ ∀(w':World)(hw':Nat->Nat)(x1:AC)(jr:dI),(∀c',(cq C g st w).Le c'->c'.w=w'->c'.hw=hw'->gr c' v x1 jr)->jr.Nodup->(∀b∈jr,b<w'.heap.size/\(b∈f2\/cQ (g.dB b)))-> Fr (λb=>cQ (g.dB b)\/b∈f2) w w'->(∀b x,g.dB b=some x->¬cQ (some x)->b∉f2->hw' b=g.hw b)-> ∃g',dk C g' {st.eI r x1 with ep:=st.ep+1} a w' []:=by cases r with|slot s j=>exact h.aes s j Ea gE|box s j=>exact h.afT s j gE|io j=>exact h.ahz j gE
theorem dk.To (h:dk C g st a w hs)(r:ka){tag:aw Nat}{e:CT}{xs:au e.D}(gE:st.ew r=some (.sl (.own tag) e xs)): ∃v f2,(∀t,tag=some t->v=g.hdr t)/\dW g.hw w (.sl e) [v] xs f2/\f2.Nodup/\(∀b∈f2,g.dB b=some r.owner)/\ ∀(w':World)(hw':Nat->Nat)(PR:au e.D)(jr:dI),dW hw' w' (.sl e) [v] PR jr->jr.Nodup->(∀b∈jr,b<w'.heap.size/\(b∈f2\/cQ (g.dB b)))-> Fr (λb=>cQ (g.dB b)\/b∈f2) w w'->(∀b x,g.dB b=some x->¬cQ (some x)->b∉f2->hw' b=g.hw b)-> ∃g',dk C g' {st.eI r (.sl (.own tag) e PR)with ep:=st.ep+1} a w' []:=by obtain⟨v,f2,dx,B8,zH,la⟩:=h.Tn r (by simp) gE;refine⟨v,f2,λt ht=>(dx.2 t ht).2,dx.1,B8,zH,λw' hw' PR jr eE DW nT gw Bl=>la w' hw' (.sl (.own tag) e PR) jr (λc' hle MD Bi=>⟨?_,λt ht=>?_⟩) DW nT gw Bl⟩;rw[MD,Bi];exact eE;have h1:=dx.2 t ht;exact⟨(hle.hdr t h1.1).1,by rw[(hle.hdr t h1.1).2];exact h1.2⟩
theorem dk.aet (h:dk C g st a w [])(r:ka)(Ea:x0≠ .bot)(gE:st.ew r=some x0): ∃v f2,gr (cq C g st w) v x0 f2/\f2.Nodup/\(∀b∈f2,g.dB b=some r.owner)/\ ∀(x1:AC)(jr fh:dI)(u:Value)(av:AV),(∀c',(cq C g st w).Le c'->c'.w=w->c'.hw=g.hw->c'.ep=st.ep->gr c' v x1 jr)->jr.Nodup->fh.Nodup->(∀b∈jr,b∈f2/\b∉fh)->(∀b∈fh,b∈f2)-> fy (cq C g st w) u av fh->∃g',dk C g' (st.eI r x1) a w [(u,av)]:=by
 have core:∀(o:iT){vs:gP}{cs:au AC}{fp:dI}{j:Nat},bp (cq C g st w) vs cs fp->fp.Nodup->(∀b∈fp,g.dB b=some o)->cs[j]?=some x0->
  ∃v f2,gr (cq C g st w) v x0 f2/\f2.Nodup/\(∀b∈f2,g.dB b=some o/\b∈fp)/\
   ∀(st':AS)(x1:AC)(jr fh:dI)(u:Value)(av:AV),st'.ep=st.ep->st'.iss=st.iss->(∀s,fX st s->fX st' s)->(∀c',(cq C g st w).Le c'->c'.w=w->c'.hw=g.hw->c'.ep=st.ep->gr c' v x1 jr)->jr.Nodup->fh.Nodup->(∀b∈jr,b∈f2/\b∉fh)->(∀b∈fh,b∈f2)->fy (cq C g st w) u av fh->
    (cq C g st w).Le (cq C {g with dB:=λb=>if b∈fh then some (.hand 0) else g.dB b} st' w)/\
    ∃hY,bp (cq C {g with dB:=λb=>if b∈fh then some (.hand 0) else g.dB b} st' w) vs (cs.set j x1) hY/\hY.Nodup/\(∀b∈hY,b∉fh/\b∈fp)/\
    KF C {g with dB:=λb=>if b∈fh then some (.hand 0) else g.dB b} st' w 0 u av:=by
  intro o vs cs fp j dx hn hl hx
  obtain⟨v,f1,f2,f3,hv,rfl,P4,Eb⟩:=dx.agD hx
  have Bm:=hn
  rw[aP]at Bm
  have n1:=aB.1 Bm
  have n2:=aB.1 n1.2.1
  refine⟨v,f2,P4,n2.1,λb hb=>⟨hl b (by simp[hb]),by simp[hb]⟩,?_⟩
  intro st' x1 jr fh u av xl FO qF hx1 DW LR nT P1 hu
  have hle:(cq C g st w).Le (cq C {g with dB:=λb=>if b∈fh then some (.hand 0) else g.dB b} st' w):=
   ⟨rfl,λt ht=>⟨by show ll st' t;have TV:ll st t:=ht;simpa[ll,FO]using TV,rfl⟩,λ_ _ _ _ _ hu=>hu,by show st.ep<=st'.ep;omega,λs hs=>⟨qF s hs,rfl⟩,λ_ b o u ho hu=>⟨ho,hu⟩⟩
  have zG:∀b∈f1++f3,b∉f2:=by intro b hb h2;rcases ay.1 hb with hb|hb;exact n1.2.2 b hb b (bj _ h2) rfl;exact n2.2.2 b h2 b hb rfl
  refine⟨hle,f1++jr++f3,Eb _ hle _ jr (hx1 _ hle rfl rfl xl) (λ_ _=>⟨rfl,rfl⟩),?_,?_,fh,hu.mono hle (λ_ _=>⟨rfl,rfl⟩),LR,λb hb=>?_⟩
  ·rw[aP]
   refine aB.2 ⟨n1.1,aB.2 ⟨DW,n2.2.1,?_⟩,?_⟩
   ·rintro b hb c hc rfl;exact zG b (by simp[hc]) (nT b hb).1
   ·rintro b hb c hc rfl
    rcases ay.1 hc with hc|hc
    ·exact zG b (by simp[hb]) (nT b hc).1
    ·exact n1.2.2 b hb b (ba _ hc) rfl
  ·intro b hb
   simp only[ay]at hb
   rcases hb with(hb|hb)|hb
   ·exact⟨λhm=>zG b (by simp[hb]) (P1 b hm),by simp[hb]⟩
   ·exact⟨(nT b hb).2,by simp[(nT b hb).1]⟩
   ·exact⟨λhm=>zG b (by simp[hb]) (P1 b hm),by simp[hb]⟩
  ·show(if b∈fh then _ else _)=_
   rw[aF hb]
 have Ow:∀(fh:dI),∀b x,(if b∈fh then some (iT.hand 0) else g.dB b)=some x->(b∈fh->∃y,g.dB b=some y)->b<w.heap.size/\(C.w0.heap.size<=b\/C.M b):=by intro fh b x hx hy;by_cases hm:b∈fh;obtain⟨y,hy⟩:=hy hm;exact h.fa b y hy;rw[aE hm]at hx;exact h.fa b x hx
 have X3:∀(fh:dI)(o:iT),(∀b∈fh,g.dB b=some o)->∀b x,x≠o->g.dB b=some x->(if b∈fh then some (iT.hand 0) else g.dB b)=some x:=by intro fh o P1 b x hxo hb;rw[aE (λhm=>hxo (by have:=P1 b hm;rw[hb]at this;simpa using this))];exact hb
 cases r with
 |slot s j=>
  have xq:s<st.slots.length:=by
   rcases bL s st.slots.length with gq|zX;exact gq;have:st.get s=.bot:=by simp[AS.get,dv,bE zX]
   rw[AS.ew,this]at gE;cases j with|zero=>simp[nth]at gE;exact absurd gE.symm Ea|succ j=>simp[nth]at gE
  have Zz:st.slots[s]?=some (st.get s):=by rw[get_eq (al xq)];exact al xq
  obtain⟨fp,hr,hn,hl⟩:=h.slots s _ Zz;cases hg:st.get s with
  |vq ts=>rw[AS.ew,hg]at gE;cases gE
  |val gg cs=>
   have hgx:cs[j]?=some x0:=by rw[AS.ew,hg]at gE;simpa[dv]using gE
   rw[hg]at hr;obtain⟨vs,dM,hr⟩:=hr;have lf:∀x1,st.eI (.slot s j) x1={st with slots:=st.slots.set s (.val gg (cs.set j x1))}:=λx1=>by simp only[AS.eI,hg,AS.put,eJ]
   obtain⟨v,f2,QZ,B8,zH,la⟩:=core (.slot s) hr hn hl hgx;refine⟨v,f2,QZ,B8,λb hb=>(zH b hb).1,?_⟩;intro x1 jr fh u av hx1 DW LR nT P1 hu;obtain⟨hle,hY,dx,IB,D8,Ge⟩:=la (st.eI (.slot s j) x1) x1 jr fh u av (by rw[lf]) (by rw[lf]) (λ_ q=>by rw[lf];exact q) hx1 DW LR nT P1 hu;have hfo:∀b∈fh,g.dB b=some (.slot s):=λb hb=>(zH b (P1 b hb)).1;refine⟨_,h.step (λx=>x≠ .slot s) hle h.defers ?_ ?_ h.frame (λb x hx=>Ow fh b x hx (λhm=>⟨_,hfo b hm⟩)) (λb x hk hb=>⟨X3 fh _ hfo b x hk hb,rfl,rfl⟩) ?_ ?_ ?_ (.inl ⟨by simp,by rw[lf]⟩)⟩;rw[lf];simpa using h.size;rw[lf];simpa using h.bsize;intro i bv hi;rw[lf]at hi;have rn:(st.slots.set s (.val gg (cs.set j x1)))[i]?=some bv:=hi;by_cases XB:i=s;subst XB;rw[bk]at rn;simp only[bN,xq]at rn;simp at rn;subst rn;refine .inr ⟨hY,⟨vs,dM,dx⟩,IB,λb hb=>?_⟩;show(if b∈fh then _ else _)=_;rw[aE (D8 b hb).1];exact hl b (D8 b hb).2;rw[aN (cD XB)]at rn;exact .inl ⟨by simpa using XB,rn,rfl⟩;intro t mK hb;rw[lf]at hb;exact .inl ⟨by simp,hb,rfl⟩;intro k u' bv hk;cases k with
   |zero=>simp only[ch,aZ,Prod.mk.injEq]at hk;obtain⟨rfl,rfl⟩:=hk;exact .inr Ge
   |succ k=>simp at hk
 |box s j=>
  have jq:∃cs,st.boxes[s]?=some (some cs)/\cs[j]?=some x0:=by rw[AS.ew,dv]at gE;cases hb:st.boxes[s]? with|none=>simp[hb]at gE|some o=>cases o with|none=>simp[hb]at gE|some cs=>exact⟨cs,rfl,by simpa[hb,dv]using gE⟩
  obtain⟨cs,jq,hgx⟩:=jq;have xq:s<st.boxes.length:=(aD.1 jq).1;obtain⟨arr,T,fr,fp,jh,qG,hr,hn,sO,hl,Gg,HV⟩:=h.boxes s cs jq;have lf:∀x1,st.eI (.box s j) x1={st with boxes:=st.boxes.set s (some (cs.set j x1))}:=λx1=>by simp only[AS.eI,dv,jq,eY,AS.ed,eJ]
  obtain⟨v,f2,QZ,B8,zH,la⟩:=core (.box s) hr hn hl hgx;refine⟨v,f2,QZ,B8,λb hb=>(zH b hb).1,?_⟩;intro x1 jr fh u av hx1 DW LR nT P1 hu;obtain⟨hle,hY,dx,IB,D8,Ge⟩:=la (st.eI (.box s j) x1) x1 jr fh u av (by rw[lf]) (by rw[lf]) (λt ht=>by rw[lf];obtain⟨c0,WJ⟩:=ht;by_cases qH:s=t;subst qH;exact⟨cs.set j x1,by simp[xq]⟩;exact⟨c0,by rw[aN qH];exact WJ⟩) hx1 DW LR nT P1 hu;have hfo:∀b∈fh,g.dB b=some (.box s):=λb hb=>(zH b (P1 b hb)).1;refine⟨_,h.step (λx=>x≠ .box s) hle h.defers ?_ ?_ h.frame (λb x hx=>Ow fh b x hx (λhm=>⟨_,hfo b hm⟩)) (λb x hk hb=>⟨X3 fh _ hfo b x hk hb,rfl,rfl⟩) ?_ ?_ ?_ (.inl ⟨by simp,by rw[lf]⟩)⟩;rw[lf];exact h.size;rw[lf];simpa using h.bsize;intro i bv hi;rw[lf]at hi;exact .inl ⟨by simp,hi,rfl⟩;intro t mK hb;rw[lf]at hb;have gn:(st.boxes.set s (some (cs.set j x1)))[t]?=some (some mK):=hb;by_cases qH:t=s;subst qH;rw[bk]at gn;simp only[bN,xq]at gn;simp at gn;subst gn;have ID:g.β t∉fh:=λhm=>sO (zH _ (P1 _ hm)).2;refine .inr ⟨arr,T,fr,hY,jh,qG,dx,IB,λhm=>sO (D8 _ hm).2,λb hb=>?_,?_,HV⟩;show(if b∈fh then _ else _)=_;rw[aE (D8 b hb).1];exact hl b (D8 b hb).2;show(if g.β t∈fh then _ else _)=_;rw[aE ID];exact Gg;rw[aN (cD qH)]at gn;exact .inl ⟨by simpa using qH,gn,rfl⟩;intro k u' bv hk;cases k with
  |zero=>simp only[ch,aZ,Prod.mk.injEq]at hk;obtain⟨rfl,rfl⟩:=hk;exact .inr Ge
  |succ k=>simp at hk
 |io j=>
  have hgx:st.io[j]?=some x0:=by rw[AS.ew,dv]at gE;exact gE
  obtain⟨fp,hr,hn,hl⟩:=h.io;have lf:∀x1,st.eI (.io j) x1={st with io:=st.io.set j x1}:=λx1=>by simp only[AS.eI,eJ]
  obtain⟨v,f2,QZ,B8,zH,la⟩:=core .io hr hn hl hgx;refine⟨v,f2,QZ,B8,λb hb=>(zH b hb).1,?_⟩;intro x1 jr fh u av hx1 DW LR nT P1 hu;obtain⟨hle,hY,dx,IB,D8,Ge⟩:=la (st.eI (.io j) x1) x1 jr fh u av (by rw[lf]) (by rw[lf]) (λ_ q=>by rw[lf];exact q) hx1 DW LR nT P1 hu;have hfo:∀b∈fh,g.dB b=some .io:=λb hb=>(zH b (P1 b hb)).1;refine⟨_,h.step (λx=>x≠ .io) hle h.defers ?_ ?_ h.frame (λb x hx=>Ow fh b x hx (λhm=>⟨_,hfo b hm⟩)) (λb x hk hb=>⟨X3 fh _ hfo b x hk hb,rfl,rfl⟩) ?_ ?_ ?_ (.inr ⟨hY,?_,IB,λb hb=>?_⟩)⟩;rw[lf];exact h.size;rw[lf];exact h.bsize;intro i bv hi;rw[lf]at hi;exact .inl ⟨by simp,hi,rfl⟩;intro t mK hb;rw[lf]at hb;exact .inl ⟨by simp,hb,rfl⟩;intro k u' bv hk;cases k with
  |zero=>simp only[ch,aZ,Prod.mk.injEq]at hk;obtain⟨rfl,rfl⟩:=hk;exact .inr Ge
  |succ k=>simp at hk
  have:(st.eI (.io j) x1).io=st.io.set j x1:=by rw[lf]
  rw[this];exact dx;show(if b∈fh then _ else _)=_;rw[aE (D8 b hb).1];exact hl b (D8 b hb).2
theorem dk.Xu (h:dk C g st a w hs){v:Value}{x:AC}(r:gr (cq C g st w) v x []):gr (cq C g st w) v (st.fresh x) []:=by
 unfold AS.fresh;split;rename_i ep rt t e xs;cases xl:(ep==st.ep)with
 |true=>exact r
 |false=>
  simp only[ae];split;rename_i t' e' ys gE;split;rename_i he;subst he;cases ht:(t'==t)with
  |false=>exact r
  |true=>
   have:t'=t:=by simpa using ht
   subst this;simp only[af];obtain⟨v0,f2,hh,eE,_,_,_⟩:=h.To rt gE;obtain⟨h1,h2,h3,h4,h5⟩:=r;obtain⟨k1,k2⟩:=h5 rt t' rfl;have hv:v0=v:=(hh t' rfl).trans k2.symm;subst hv;exact⟨h1,aX _,JT eE,λ_=>dW.rep (λb o ho=> .inr ho) eE,λr1 t1 hp=>by simp at hp;obtain⟨_,rfl⟩:=hp;exact⟨k1,k2⟩⟩
  exact r;exact r
 exact r
theorem dk.LJ (h:dk C g st a w hs):∀{vs:gP}{xs:au AC},bp (cq C g st w) vs xs []->bp (cq C g st w) vs (xs.map st.fresh) []
 |[],[],r=>r
 |_::_,_::_,r=>by
  obtain⟨f1,f2,he,r1,r2⟩:=r;have h1:f1=[]:=by have:=he.symm;simp at this;exact this.1
  have h2:f2=[]:=by have:=he.symm;simp at this;exact this.2
  subst h1;subst h2;exact⟨[],[],rfl,h.Xu r1,h.LJ r2⟩
 |[],_::_,r=>r.elim
 |_::_,[],r=>r.elim
theorem dk.fresh (h:dk C g st a w hs){v:Value}{x:AV}(r:fy (cq C g st w) v x []):fy (cq C g st w) v (x.fresh st) []:=by
 cases x with
 |val gg cs=>obtain⟨vs,hv,r⟩:=r;exact⟨vs,hv,h.LJ r⟩
 |vq ts=>exact r
end Go.Dn
