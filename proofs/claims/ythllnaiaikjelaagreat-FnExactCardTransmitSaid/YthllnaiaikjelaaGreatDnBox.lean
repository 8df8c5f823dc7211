import Derived.Test.YthllnaiaikjelaaGreatDnPut
/- A box is made or written; an element of an owned slice is written. -/
namespace Go.Dn
open Go.RowKit
variable {C:Ctx} {g:Gh} {st:AS} {a:Act} {w:World} {hs:aq (Value×AV)}
variable {x0:AC} {fp:dy}
theorem jS {s:Nat}{b:ar (aq AC)}:(st.eh s b).boxes=st.boxes.set s b:=by simp[AS.eh,eN]
theorem Rc {s:Nat}{cs:aq AC}{g':Gh}{w':World}(JI:g'.hdr=g.hdr)(Xu:∀k b o u,C.A k b o->w.cell? ⟨b,o,none⟩=some u->w'.cell? ⟨b,o,none⟩=some u)(IT:∀t,fY st t->g'.β t=g.β t)(JK:∀b o u,o<g.hw b->w.cell? ⟨b,o,none⟩=some u->o<g'.hw b/\w'.cell? ⟨b,o,none⟩=some u): (cv C g st w).Le (cv C g' (st.eh s (some cs)) w'):=by refine⟨rfl,λt ht=>⟨ht,by show g'.hdr t=g.hdr t;rw[JI]⟩,Xu,bc _,λt ht=>⟨?_,IT t ht⟩,λ_ b o u ho hu=>JK b o u ho hu⟩;obtain⟨mr,hc⟩:=ht;show∃aph,(st.eh s (some cs)).boxes[t]?=some (some aph);rw[jS];by_cases qg:s=t;subst qg;have gM:s<st.boxes.length:=(aD.1 hc).1;exact⟨cs,by simp[gM]⟩;exact⟨mr,by rw[aS qg];exact hc⟩
theorem dr.W0 (h:dr C g st a w hs)(s:Nat){cs:aq AC}{arr:Array Value}{T:TypeId}{fr:Nat×Nat}{w':World}{bnew:Nat}{hw':Nat->Nat}(hbn:(bnew=g.β s/\g.dE bnew=some (.box s))\/(w.heap.size<=bnew/\st.boxes[s]?=some none))(gu:Fr (λb=>cX (g.dE b)\/b=bnew) w w')(iZ:w'.heap[bnew]?=some (.cells arr T fr))(qf:pe arr fr)(gM:bnew<w'.heap.size)(apz:hw' bnew=0)(Br:∀b x,g.dE b=some x->¬cX (some x)->b≠bnew->hw' b=g.hw b)(JK:∀b o u,o<g.hw b->w.cell? ⟨b,o,none⟩=some u->o<hw' b/\w'.cell? ⟨b,o,none⟩=some u)(hr:bn ⟨hw',λt=>if t=s then bnew else g.β t,C.A,g.hdr,kO st,st.ep,fY st,w'⟩ arr.toList cs fp)(hn:fp.Nodup)(sr:bnew∉fp)(B5:∀b∈fp,b<w'.heap.size/\(cX (g.dE b)\/g.dE b=some (.box s)\/w.heap.size<=b)): ∃g',g'.β s=bnew/\dr C g' (st.eh s (some cs)) a w' []:=by
 have Xu:∀k b o u,C.A k b o->w.cell? ⟨b,o,none⟩=some u->w'.cell? ⟨b,o,none⟩=some u:=by
  intro k b o u hA hu;have hb:b<w.heap.size:=World.block_lt_of_cell? w _ hu;have Jm:¬(cX (g.dE b)\/b=bnew):=by
   rintro(hh|rfl);cases hx:g.dE b with|none=>rw[hx]at hh;cases hh|some x=>exact h.Lf hx k o hA
   rcases hbn with⟨_,h2⟩|h2;exact h.Lf h2 k o hA;omega
  rw[World.cell?_of_block (a:=⟨b,o,none⟩) (gu.block b hb Jm)];exact hu
 have D2:∀b x,g.dE b=some x->x≠ .box s->b≠bnew:=by rintro b x hx hxs rfl;rcases hbn with⟨_,h2⟩|h2;rw[hx]at h2;exact hxs (by simpa using h2);have:=(h.ff b x hx).1;omega
 have hkp:∀b x,g.dE b=some x->¬cX (some x)->x≠ .box s->w'.heap[b]?=w.heap[b]?:=λb x hx hh hxs=>
  gu.block b (h.ff b x hx).1 (by rintro(k|k);rw[hx]at k;exact hh k;exact D2 b x hx hxs k)
 let β':Nat->Nat:=λt=>if t=s then bnew else g.β t
 let aba:Nat->ar iO:=λb=>if b=bnew\/b∈fp then some (.box s) else if cX (g.dE b) then none else g.dE b
 let g':Gh:=⟨hw',β',aba,g.hdr⟩
 have IM:Fr C.M C.w0 w':=h.frame.trans gu (λb hb hh=>by
  rcases hh with hh|rfl;cases hx:g.dE b with|none=>rw[hx]at hh;cases hh|some x=>rcases(h.ff b x hx).2 with h2|h2;omega;exact h2
  rcases hbn with⟨_,h2⟩|h2;rcases(h.ff b _ h2).2 with h3|h3;omega;exact h3;have:=h.frame.size;omega)
 have IT:∀t,fY st t->β' t=g.β t:=by rintro t ⟨mr,hc⟩;show(if t=s then bnew else g.β t)=g.β t;by_cases qg:t=s;subst qg;rcases hbn with⟨h2,_⟩|⟨_,h2⟩;simp[h2];rw[h2]at hc;cases hc;simp[qg]
 have hle:(cv C g st w).Le (cv C g' (st.eh s (some cs)) w'):=Rc rfl Xu IT JK;have ahi:(RC.mk hw' β' C.A g.hdr (kO st) st.ep (fY st) w').Le (cv C g' (st.eh s (some cs)) w'):=⟨rfl,λ_ ht=>⟨ht,rfl⟩,λ_ _ _ _ _ hu=>hu,bc _,λt ht=>⟨(hle.Kh t ht).1,rfl⟩,λ_ b o u ho hu=>⟨ho,hu⟩⟩
 refine⟨g',by show(if s=s then bnew else g.β s)=bnew;simp,h.step (λx=>¬cX (some x)/\x≠ .box s) hle h.defers h.size ?_ IM ?_ ?_ ?_ ?_ ?_ (.inl ⟨⟨by simp[fe],by simp⟩,rfl⟩)⟩;show(st.eh s (some cs)).boxes.length=st.slots.length;rw[jS,bg];exact h.bsize;intro b x hx;have zU:(if b=bnew\/b∈fp then some (iO.box s) else if cX (g.dE b) then none else g.dE b)=some x:=hx;by_cases hm:b=bnew\/b∈fp;rcases hm with rfl|hm;refine⟨gM,?_⟩;rcases hbn with⟨_,h2⟩|h2;exact(h.ff b _ h2).2;exact .inl (bf h.frame.size h2.1);refine⟨(B5 b hm).1,?_⟩;rcases(B5 b hm).2 with h2|h2|h2;cases hy:g.dE b with|none=>rw[hy]at h2;cases h2|some y=>exact(h.ff b y hy).2
 exact(h.ff b _ h2).2;exact .inl (bf h.frame.size h2);rw[aG hm]at zU;split at zU;cases zU;have hl:=h.ff b x zU;have hz:=gu.size;exact⟨by omega,hl.2⟩;intro b x hk hx;have Zn:=D2 b x hx hk.2;refine⟨?_,hkp b x hx hk.1 hk.2,Br b x hx hk.1 Zn⟩;show(if b=bnew\/b∈fp then some (iO.box s) else if cX (g.dE b) then none else g.dE b)=some x;have SE:¬(b=bnew\/b∈fp):=by rintro(hm|hm);exact Zn hm;rcases(B5 b hm).2 with h2|h2|h2;rw[hx]at h2;exact hk.1 h2;rw[hx]at h2;exact hk.2 (by simpa using h2);have:=(h.ff b x hx).1;omega
 rw[aG SE,aG (by rw[hx];exact hk.1),hx];intro i av hi;exact .inl ⟨⟨by simp[fe],by simp⟩,hi,rfl⟩;intro t mr hb;have gA:(st.boxes.set s (some cs))[t]?=some (some mr):=by rw[<-jS];exact hb
 by_cases qg:t=s;subst qg;rw[bj]at gA;simp only[bF]at gA;split at gA;simp at gA;subst gA;have afF:β' t=bnew:=by show(if t=t then bnew else g.β t)=bnew;simp
 refine .inr ⟨arr,T,fr,fp,?_,qf,hr.mono ahi (λb _=>⟨rfl,rfl⟩),hn,?_,?_,?_,?_⟩;show w'.heap[β' t]?=_;rw[afF];exact iZ;show β' t∉fp;rw[afF];exact sr;intro b hb;show(if b=bnew\/b∈fp then _ else _)=_;rw[aH (.inr hb)];show(if β' t=bnew\/β' t∈fp then _ else _)=_;rw[aH (.inl afF)];show hw' (β' t)=0;rw[afF];exact apz;cases gA;rw[aS (cC qg)]at gA;exact .inl ⟨⟨by simp[fe],by simpa using qg⟩,gA,by show(if t=s then bnew else g.β t)=_;simp[qg]⟩;intro k u bv hk;simp at hk
def jR.owner:jR->iO
 | .slot s _=> .slot s
 | .box s _=> .box s
 | .io _=> .io
theorem bn.agM {c:RC}{vs:gO}{cs:aq AC}(hr:bn c vs cs fp){j:Nat}{x:AC}(hx:cs[j]?=some x): ∃v f1 f2 f3,vs[j]?=some v/\fp=f1++f2++f3/\gy c v x f2/\ ∀(c':RC),c.Le c'->∀x' f2',gy c' v x' f2'->(∀b∈f1++f3,c'.w.heap[b]?=c.w.heap[b]?/\c'.hw b=c.hw b)-> bn c' vs (cs.set j x') (f1++f2'++f3):=by
 have hj:j<cs.length:=(aD.1 hx).1;obtain⟨f1,fr,rfl,r1,r2⟩:=hr.split j;have hlen:=hr.length;have hjv:j<vs.length:=by omega
 have ecs:cs.drop j=x::cs.drop (j+1):=by rw[cc hj];congr 1;rw[ax hj]at hx;simpa using hx
 have evs:vs.drop j=vs[j]::vs.drop (j+1):=cc hjv;rw[ecs,evs]at r2;obtain⟨f2,f3,rfl,r2,r3⟩:=r2;refine⟨vs[j],f1,f2,f3,ax hjv,by simp,r2,λc' hle x' f2' zU hb=>?_⟩;have e1:vs=vs.take j++(vs[j]::vs.drop (j+1)):=by rw[<-evs,cg]
 have e2:cs.set j x'=cs.take j++(x'::cs.drop (j+1)):=by rw[List.set_eq_take_append_cons_drop,aH hj]
 rw[e1,e2,aO];refine bn.append (r1.mono hle (λb gA=>hb b (bh _ gA))) ⟨f2',f3,rfl,zU,?_⟩;exact r3.mono hle (λb gA=>hb b (aX _ gA))
def Gh.wrote (g:Gh)(o:iO)(fp:dy)(hw':Nat->Nat):Gh:=
 ⟨hw',g.β,λb=>if b∈fp then some o else if cX (g.dE b) then none else g.dE b,g.hdr⟩
theorem dr.LA (h:dr C g st a w hs)(o:iO)(L2:¬cX (some o)){vs:gO}{cs:aq AC}{j:Nat}(dx:bn (cv C g st w) vs cs fp)(hn:fp.Nodup)(hl:∀b∈fp,g.dE b=some o)(hx:cs[j]?=some x0): ∃v f1 f2 f3,vs[j]?=some v/\fp=f1++f2++f3/\gy (cv C g st w) v x0 f2/\f2.Nodup/\(∀b∈f2,g.dE b=some o)/\ ∀(w':World)(hw':Nat->Nat)(st':AS)(x1:AC)(jj:dy),st'.ep=st.ep+1->st'.iss=st.iss->(∀s,fY st s->fY st' s)-> (∀c',(cv C g st w).Le c'->c'.w=w'->c'.hw=hw'->gy c' v x1 jj)->jj.Nodup->(∀b∈jj,b<w'.heap.size/\(b∈f2\/cX (g.dE b)))-> Fr (λb=>cX (g.dE b)\/b∈f2) w w'->(∀b x,g.dE b=some x->¬cX (some x)->b∉f2->hw' b=g.hw b)-> (cv C g st w).Le (cv C (g.wrote o (f1++jj++f3) hw') st' w')/\ bn (cv C (g.wrote o (f1++jj++f3) hw') st' w') vs (cs.set j x1) (f1++jj++f3)/\(f1++jj++f3).Nodup/\ (∀b∈f1++jj++f3,(g.wrote o (f1++jj++f3) hw').dE b=some o)/\ (∀b x,¬cX (some x)->x≠o->g.dE b=some x->(g.wrote o (f1++jj++f3) hw').dE b=some x/\w'.heap[b]?=w.heap[b]?/\hw' b=g.hw b)/\ (∀b,g.dE b=some o->b∉fp->(g.wrote o (f1++jj++f3) hw').dE b=some o/\w'.heap[b]?=w.heap[b]?/\hw' b=g.hw b)/\ Fr C.M C.w0 w'/\(∀b x,(g.wrote o (f1++jj++f3) hw').dE b=some x->b<w'.heap.size/\(C.w0.heap.size<=b\/C.M b)):=by
 obtain⟨v,f1,f2,f3,hv,rfl,P0,Dt⟩:=dx.agM hx;have Ae:=hn;rw[aO]at Ae;have n1:=aB.1 Ae;have n2:=aB.1 n1.2.1;have zB:∀b∈f1++f3,b∉f2:=by intro b hb h2;rcases ay.1 hb with hb|hb;exact n1.2.2 b hb b (bh _ h2) rfl;exact n2.2.2 b h2 b hb rfl
 refine⟨v,f1,f2,f3,hv,rfl,P0,n2.1,λb hb=>hl b (by simp[hb]),?_⟩;intro w' hw' st' x1 jj xg FV qe eK D1 nH gu Br;have Xu:∀k b o u,C.A k b o->w.cell? ⟨b,o,none⟩=some u->w'.cell? ⟨b,o,none⟩=some u:=by
  intro k b o u hA hu;have hb:b<w.heap.size:=World.block_lt_of_cell? w _ hu;have Jm:¬(cX (g.dE b)\/b∈f2):=by
   rintro(hh|hm);cases hx:g.dE b with|none=>rw[hx]at hh;cases hh|some x=>exact h.Lf hx k o hA
   exact h.Lf (hl b (by simp[hm])) k o hA
  rw[World.cell?_of_block (a:=⟨b,o,none⟩) (gu.block b hb Jm)];exact hu
 have hle:(cv C g st w).Le (cv C (g.wrote o (f1++jj++f3) hw') st' w'):=⟨rfl,λt ht=>⟨by show kO st' t;have TN:kO st t:=ht;simpa[kO,FV]using TN,rfl⟩,Xu,by show st.ep<=st'.ep;omega,λs hs=>⟨qe s hs,rfl⟩,λhe=>absurd he (by show st'.ep≠st.ep;omega)⟩
 have lg:∀b x,¬cX (some x)->g.dE b=some x->b∉f2->w'.heap[b]?=w.heap[b]?/\hw' b=g.hw b:=by intro b x hh hb hm;exact⟨gu.block b (h.ff b _ hb).1 (by rintro(k|k);rw[hb]at k;exact hh k;exact hm k),Br b _ hb hh hm⟩
 have hd1:∀b∈f1++f3,b∉jj:=by intro b hb hm;rcases(nH b hm).2 with h2|h2;exact zB b hb h2;have QU:g.dE b=some o:=hl b (by rcases ay.1 hb with hb|hb<;>simp[hb]);rw[QU]at h2;exact L2 h2
 refine⟨hle,?_,?_,?_,?_,?_,?_,?_⟩;refine Dt _ hle _ jj (eK _ hle rfl rfl) (λb hb=>?_);exact lg b o L2 (hl b (by rcases ay.1 hb with hb|hb<;>simp[hb])) (zB b hb);rw[aO];refine aB.2 ⟨n1.1,aB.2 ⟨D1,n2.2.1,?_⟩,?_⟩;rintro b hb c hc rfl;exact hd1 b (by simp[hc]) hb;rintro b hb c hc rfl;rcases ay.1 hc with hc|hc;exact hd1 b (by simp[hb]) hc;exact n1.2.2 b hb b (aX _ hc) rfl;intro b hb;show(if b∈f1++jj++f3 then _ else _)=_;rw[aH hb];intro b x hh hxo hb;have Zt:b∉f2:=λhm=>hxo (by have:=hl b (by simp[hm]);rw[hb]at this;simpa using this);refine⟨?_,lg b x hh hb Zt⟩;show(if b∈f1++jj++f3 then _ else if cX (g.dE b) then none else g.dE b)=_;have SE:b∉f1++jj++f3:=by intro hm;simp only[ay]at hm;rcases hm with(hm|hm)|hm;exact hxo (by have:=hl b (by simp[hm]);rw[hb]at this;simpa using this);rcases(nH b hm).2 with h2|h2;exact Zt h2;rw[hb]at h2;exact hh h2;exact hxo (by have:=hl b (by simp[hm]);rw[hb]at this;simpa using this)
 rw[aG SE,aG (by rw[hb];exact hh),hb];intro b hb hm;have Zt:b∉f2:=λk=>hm (by simp[k]);refine⟨?_,lg b o L2 hb Zt⟩;show(if b∈f1++jj++f3 then _ else if cX (g.dE b) then none else g.dE b)=_;rw[aG (c:=cX (g.dE b)) (by rw[hb];exact L2),hb];split<;>rfl;refine h.frame.trans gu (λb hb hh=>?_);rcases hh with hh|hm;cases hx:g.dE b with|none=>rw[hx]at hh;cases hh|some x=>rcases(h.ff b x hx).2 with h2|h2;omega;exact h2
 rcases(h.ff b o (hl b (by simp[hm]))).2 with h2|h2;omega;exact h2;intro b x hx;have zU:(if b∈f1++jj++f3 then some o else if cX (g.dE b) then none else g.dE b)=some x:=hx;have hz:=gu.size;have old:∀y,g.dE b=some y->b<w'.heap.size/\(C.w0.heap.size<=b\/C.M b):=λy hy=>⟨gC (h.ff b y hy).1 hz,(h.ff b y hy).2⟩
 split at zU;rename_i hm;simp only[ay]at hm;rcases hm with(hm|hm)|hm;exact old o (hl b (by simp[hm]));rcases(nH b hm).2 with h2|h2;exact old o (hl b (by simp[h2]));cases hy:g.dE b with|none=>rw[hy]at h2;cases h2|some y=>exact old y hy
 exact old o (hl b (by simp[hm]));split at zU;cases zU;exact old x zU
theorem dr.aez (h:dr C g st a w hs)(s j:Nat)(D2:x0≠ .bot)(gI:st.eF (.slot s j)=some x0): ∃v f2,gy (cv C g st w) v x0 f2/\f2.Nodup/\(∀b∈f2,g.dE b=some (.slot s))/\ ∀(w':World)(hw':Nat->Nat)(x1:AC)(jj:dy),(∀c',(cv C g st w).Le c'->c'.w=w'->c'.hw=hw'->gy c' v x1 jj)->jj.Nodup->(∀b∈jj,b<w'.heap.size/\(b∈f2\/cX (g.dE b)))-> Fr (λb=>cX (g.dE b)\/b∈f2) w w'->(∀b x,g.dE b=some x->¬cX (some x)->b∉f2->hw' b=g.hw b)-> ∃g',dr C g' {st.eM (.slot s j) x1 with ep:=st.ep+1} a w' []:=by
 have xn:s<st.slots.length:=by
  rcases bH s st.slots.length with gM|Ad;exact gM;have:st.get s=.bot:=by simp[AS.get,dv,br Ad]
  rw[AS.eF,this]at gI;cases j with|zero=>simp[nth]at gI;exact absurd gI.symm D2|succ j=>simp[nth]at gI
 have hsl:st.slots[s]?=some (st.get s):=by rw[get_eq (ax xn)];exact ax xn
 obtain⟨fp,hr,hn,hl⟩:=h.slots s _ hsl;cases hg:st.get s with
 |uT ts=>rw[AS.eF,hg]at gI;cases gI
 |val gg cs=>
  have hgx:cs[j]?=some x0:=by rw[AS.eF,hg]at gI;simpa[dv]using gI
  rw[hg]at hr;obtain⟨vs,dU,hr⟩:=hr;obtain⟨v,f1,f2,f3,hv,rfl,eK,B6,zT,kJ⟩:=h.LA (.slot s) (by simp[fe]) hr hn hl hgx;refine⟨v,f2,eK,B6,zT,?_⟩;intro w' hw' x1 jj Ds D1 nH gu Br;let st':AS:={st.eM (.slot s j) x1 with ep:=st.ep+1}
  have jL:st'={st with slots:=st.slots.set s (.val gg (cs.set j x1)),ep:=st.ep+1}:=by show({st.eM (.slot s j) x1 with ep:=st.ep+1}:AS)=_;simp only[AS.eM,hg,AS.put,eN]
  obtain⟨hle,dx,IQ,hll,hk1,hk2,IM,Gl⟩:=kJ w' hw' st' x1 jj rfl (by rw[jL]) (λs hs=>by rw[jL];exact hs) Ds D1 nH gu Br;refine⟨_,h.step (λx=>¬cX (some x)/\x≠ .slot s) hle h.defers ?_ ?_ IM Gl (λb x hk hx=>hk1 b x hk.1 hk.2 hx) ?_ ?_ (λk u bv hk=>by simp at hk) (.inl ⟨⟨by simp[fe],by simp⟩,by show st'.io=st.io;rw[jL]⟩)⟩;show _=st'.slots.length;rw[jL];simpa using h.size;show st'.boxes.length=st'.slots.length;rw[jL];simpa using h.bsize;intro i av hi;have pV:(st.slots.set s (.val gg (cs.set j x1)))[i]?=some av:=by have:st'.slots[i]?=some av:=hi;rw[jL]at this;exact this
  by_cases XA:i=s;subst XA;rw[bj]at pV;simp only[bF,xn]at pV;simp at pV;subst pV;exact .inr ⟨_,⟨vs,dU,dx⟩,IQ,hll⟩;rw[aS (cC XA)]at pV;exact .inl ⟨⟨by simp[fe],by simpa using XA⟩,pV,rfl⟩;intro t mr hb;have gA:st.boxes[t]?=some (some mr):=by have:st'.boxes[t]?=some (some mr):=hb;rw[jL]at this;exact this
  exact .inl ⟨⟨by simp[fe],by simp⟩,gA,rfl⟩
theorem dr.af1 (h:dr C g st a w hs)(s j:Nat)(gI:st.eF (.box s j)=some x0): ∃v f2,gy (cv C g st w) v x0 f2/\f2.Nodup/\(∀b∈f2,g.dE b=some (.box s))/\ ∀(w':World)(hw':Nat->Nat)(x1:AC)(jj:dy),(∀c',(cv C g st w).Le c'->c'.w=w'->c'.hw=hw'->gy c' v x1 jj)->jj.Nodup->(∀b∈jj,b<w'.heap.size/\(b∈f2\/cX (g.dE b)))-> Fr (λb=>cX (g.dE b)\/b∈f2) w w'->(∀b x,g.dE b=some x->¬cX (some x)->b∉f2->hw' b=g.hw b)-> ∃g',dr C g' {st.eM (.box s j) x1 with ep:=st.ep+1} a w' []:=by
 have ji:∃cs,st.boxes[s]?=some (some cs)/\cs[j]?=some x0:=by rw[AS.eF,dv]at gI;cases hb:st.boxes[s]? with|none=>simp[hb]at gI|some o=>cases o with|none=>simp[hb]at gI|some cs=>exact⟨cs,rfl,by simpa[hb,dv]using gI⟩
 obtain⟨cs,ji,hgx⟩:=ji;have xn:s<st.boxes.length:=(aD.1 ji).1;obtain⟨arr,T,fr,fp,iZ,qf,hr,hn,sr,hl,HQ,H8⟩:=h.boxes s cs ji;obtain⟨v,f1,f2,f3,hv,rfl,eK,B6,zT,kJ⟩:=h.LA (.box s) (by simp[fe]) hr hn hl hgx;refine⟨v,f2,eK,B6,zT,?_⟩;intro w' hw' x1 jj Ds D1 nH gu Br;let st':AS:={st.eM (.box s j) x1 with ep:=st.ep+1}
 have jL:st'={st with boxes:=st.boxes.set s (some (cs.set j x1)),ep:=st.ep+1}:=by show({st.eM (.box s j) x1 with ep:=st.ep+1}:AS)=_;simp only[AS.eM,dv,ji,fb,AS.eh,eN]
 obtain⟨hle,dx,IQ,hll,hk1,hk2,IM,Gl⟩:=kJ w' hw' st' x1 jj rfl (by rw[jL]) (λt ht=>by rw[jL];obtain⟨c0,WC⟩:=ht;by_cases qg:s=t;subst qg;exact⟨cs.set j x1,by simp[xn]⟩;exact⟨c0,by rw[aS qg];exact WC⟩) Ds D1 nH gu Br;have IT:=hk2 (g.β s) HQ sr;refine⟨_,h.step (λx=>¬cX (some x)/\x≠ .box s) hle h.defers ?_ ?_ IM Gl (λb x hk hx=>hk1 b x hk.1 hk.2 hx) ?_ ?_ (λk u bv hk=>by simp at hk) (.inl ⟨⟨by simp[fe],by simp⟩,by show st'.io=st.io;rw[jL]⟩)⟩;show _=st'.slots.length;rw[jL];exact h.size;show st'.boxes.length=st'.slots.length;rw[jL];simpa using h.bsize;intro i av hi;have pV:st.slots[i]?=some av:=by have:st'.slots[i]?=some av:=hi;rw[jL]at this;exact this
 exact .inl ⟨⟨by simp[fe],by simp⟩,pV,rfl⟩;intro t mr hb;have gA:(st.boxes.set s (some (cs.set j x1)))[t]?=some (some mr):=by have:st'.boxes[t]?=some (some mr):=hb;rw[jL]at this;exact this
 by_cases qg:t=s;subst qg;rw[bj]at gA;simp only[bF,xn]at gA;simp at gA;subst gA;have HR:g.β t∉f1++jj++f3:=by intro hm;simp only[ay]at hm;rcases hm with(hm|hm)|hm;exact sr (by simp[hm]);rcases(nH _ hm).2 with h2|h2;exact sr (by simp[h2]);rw[HQ]at h2;cases h2;exact sr (by simp[hm])
 exact .inr ⟨arr,T,fr,_,IT.2.1.trans iZ,qf,dx,IQ,HR,hll,IT.1,IT.2.2.trans H8⟩;rw[aS (cC qg)]at gA;exact .inl ⟨⟨by simp[fe],by simpa using qg⟩,gA,rfl⟩
theorem dr.ahM (h:dr C g st a w hs)(j:Nat)(gI:st.eF (.io j)=some x0): ∃v f2,gy (cv C g st w) v x0 f2/\f2.Nodup/\(∀b∈f2,g.dE b=some .io)/\ ∀(w':World)(hw':Nat->Nat)(x1:AC)(jj:dy),(∀c',(cv C g st w).Le c'->c'.w=w'->c'.hw=hw'->gy c' v x1 jj)->jj.Nodup->(∀b∈jj,b<w'.heap.size/\(b∈f2\/cX (g.dE b)))-> Fr (λb=>cX (g.dE b)\/b∈f2) w w'->(∀b x,g.dE b=some x->¬cX (some x)->b∉f2->hw' b=g.hw b)-> ∃g',dr C g' {st.eM (.io j) x1 with ep:=st.ep+1} a w' []:=by
 have hgx:st.io[j]?=some x0:=by rw[AS.eF,dv]at gI;exact gI
 obtain⟨fp,hr,hn,hl⟩:=h.io;obtain⟨v,f1,f2,f3,hv,rfl,eK,B6,zT,kJ⟩:=h.LA .io (by simp[fe]) hr hn hl hgx;refine⟨v,f2,eK,B6,zT,?_⟩;intro w' hw' x1 jj Ds D1 nH gu Br;let st':AS:={st.eM (.io j) x1 with ep:=st.ep+1}
 have jL:st'={st with io:=st.io.set j x1,ep:=st.ep+1}:=by show({st.eM (.io j) x1 with ep:=st.ep+1}:AS)=_;simp only[AS.eM,eN]
 obtain⟨hle,dx,IQ,hll,hk1,hk2,IM,Gl⟩:=kJ w' hw' st' x1 jj rfl (by rw[jL]) (λs hs=>by rw[jL];exact hs) Ds D1 nH gu Br
 refine⟨_,h.step (λx=>¬cX (some x)/\x≠ .io) hle h.defers ?_ ?_ IM Gl (λb x hk hx=>hk1 b x hk.1 hk.2 hx) ?_ ?_ (λk u bv hk=>by simp at hk) (.inr ⟨_,by
  have:st'.io=st.io.set j x1:=by rw[jL]
  show bn _ _ st'.io _;rw[this];exact dx,IQ,hll⟩)⟩
 show _=st'.slots.length;rw[jL];exact h.size;show st'.boxes.length=st'.slots.length;rw[jL];exact h.bsize;intro i av hi;have pV:st.slots[i]?=some av:=by have:st'.slots[i]?=some av:=hi;rw[jL]at this;exact this
 exact .inl ⟨⟨by simp[fe],by simp⟩,pV,rfl⟩;intro t mr hb;have gA:st.boxes[t]?=some (some mr):=by have:st'.boxes[t]?=some (some mr):=hb;rw[jL]at this;exact this
 exact .inl ⟨⟨by simp[fe],by simp⟩,gA,rfl⟩
theorem dr.Tc (h:dr C g st a w hs)(r:jR)(D2:x0≠ .bot)(gI:st.eF r=some x0): ∃v f2,gy (cv C g st w) v x0 f2/\f2.Nodup/\(∀b∈f2,g.dE b=some r.owner)/\ ∀(w':World)(hw':Nat->Nat)(x1:AC)(jj:dy),(∀c',(cv C g st w).Le c'->c'.w=w'->c'.hw=hw'->gy c' v x1 jj)->jj.Nodup->(∀b∈jj,b<w'.heap.size/\(b∈f2\/cX (g.dE b)))-> Fr (λb=>cX (g.dE b)\/b∈f2) w w'->(∀b x,g.dE b=some x->¬cX (some x)->b∉f2->hw' b=g.hw b)-> ∃g',dr C g' {st.eM r x1 with ep:=st.ep+1} a w' []:=by cases r with|slot s j=>exact h.aez s j D2 gI|box s j=>exact h.af1 s j gI|io j=>exact h.ahM j gI
theorem dr.Td (h:dr C g st a w hs)(r:jR){tag:ar Nat}{e:CT}{xs:aq e.D}(gI:st.eF r=some (.sl (.own tag) e xs)): ∃v f2,(∀t,tag=some t->v=g.hdr t)/\dY g.hw w (.sl e) [v] xs f2/\f2.Nodup/\(∀b∈f2,g.dE b=some r.owner)/\ ∀(w':World)(hw':Nat->Nat)(PM:aq e.D)(jj:dy),dY hw' w' (.sl e) [v] PM jj->jj.Nodup->(∀b∈jj,b<w'.heap.size/\(b∈f2\/cX (g.dE b)))-> Fr (λb=>cX (g.dE b)\/b∈f2) w w'->(∀b x,g.dE b=some x->¬cX (some x)->b∉f2->hw' b=g.hw b)-> ∃g',dr C g' {st.eM r (.sl (.own tag) e PM)with ep:=st.ep+1} a w' []:=by obtain⟨v,f2,dx,B6,zT,kJ⟩:=h.Tc r (by simp) gI;refine⟨v,f2,λt ht=>(dx.2 t ht).2,dx.1,B6,zT,λw' hw' PM jj eK D1 nH gu Br=>kJ w' hw' (.sl (.own tag) e PM) jj (λc' hle Mz Bn=>⟨?_,λt ht=>?_⟩) D1 nH gu Br⟩;rw[Mz,Bn];exact eK;have h1:=dx.2 t ht;exact⟨(hle.hdr t h1.1).1,by rw[(hle.hdr t h1.1).2];exact h1.2⟩
theorem dr.aeA (h:dr C g st a w [])(r:jR)(D2:x0≠ .bot)(gI:st.eF r=some x0): ∃v f2,gy (cv C g st w) v x0 f2/\f2.Nodup/\(∀b∈f2,g.dE b=some r.owner)/\ ∀(x1:AC)(jj fh:dy)(u:Value)(av:AV),(∀c',(cv C g st w).Le c'->c'.w=w->c'.hw=g.hw->c'.ep=st.ep->gy c' v x1 jj)->jj.Nodup->fh.Nodup->(∀b∈jj,b∈f2/\b∉fh)->(∀b∈fh,b∈f2)-> fA (cv C g st w) u av fh->∃g',dr C g' (st.eM r x1) a w [(u,av)]:=by
 have core:∀(o:iO){vs:gO}{cs:aq AC}{fp:dy}{j:Nat},bn (cv C g st w) vs cs fp->fp.Nodup->(∀b∈fp,g.dE b=some o)->cs[j]?=some x0->
  ∃v f2,gy (cv C g st w) v x0 f2/\f2.Nodup/\(∀b∈f2,g.dE b=some o/\b∈fp)/\
   ∀(st':AS)(x1:AC)(jj fh:dy)(u:Value)(av:AV),st'.ep=st.ep->st'.iss=st.iss->(∀s,fY st s->fY st' s)->(∀c',(cv C g st w).Le c'->c'.w=w->c'.hw=g.hw->c'.ep=st.ep->gy c' v x1 jj)->jj.Nodup->fh.Nodup->(∀b∈jj,b∈f2/\b∉fh)->(∀b∈fh,b∈f2)->fA (cv C g st w) u av fh->
    (cv C g st w).Le (cv C {g with dE:=λb=>if b∈fh then some (.hand 0) else g.dE b} st' w)/\
    ∃hZ,bn (cv C {g with dE:=λb=>if b∈fh then some (.hand 0) else g.dE b} st' w) vs (cs.set j x1) hZ/\hZ.Nodup/\(∀b∈hZ,b∉fh/\b∈fp)/\
    KT C {g with dE:=λb=>if b∈fh then some (.hand 0) else g.dE b} st' w 0 u av:=by
  intro o vs cs fp j dx hn hl hx
  obtain⟨v,f1,f2,f3,hv,rfl,P0,Dt⟩:=dx.agM hx
  have Ae:=hn
  rw[aO]at Ae
  have n1:=aB.1 Ae
  have n2:=aB.1 n1.2.1
  refine⟨v,f2,P0,n2.1,λb hb=>⟨hl b (by simp[hb]),by simp[hb]⟩,?_⟩
  intro st' x1 jj fh u av xg FV qe hx1 D1 L2 nH PX hu
  have hle:(cv C g st w).Le (cv C {g with dE:=λb=>if b∈fh then some (.hand 0) else g.dE b} st' w):=
   ⟨rfl,λt ht=>⟨by show kO st' t;have TN:kO st t:=ht;simpa[kO,FV]using TN,rfl⟩,λ_ _ _ _ _ hu=>hu,by show st.ep<=st'.ep;omega,λs hs=>⟨qe s hs,rfl⟩,λ_ b o u ho hu=>⟨ho,hu⟩⟩
  have zB:∀b∈f1++f3,b∉f2:=by intro b hb h2;rcases ay.1 hb with hb|hb;exact n1.2.2 b hb b (bh _ h2) rfl;exact n2.2.2 b h2 b hb rfl
  refine⟨hle,f1++jj++f3,Dt _ hle _ jj (hx1 _ hle rfl rfl xg) (λ_ _=>⟨rfl,rfl⟩),?_,?_,fh,hu.mono hle (λ_ _=>⟨rfl,rfl⟩),L2,λb hb=>?_⟩
  ·rw[aO]
   refine aB.2 ⟨n1.1,aB.2 ⟨D1,n2.2.1,?_⟩,?_⟩
   ·rintro b hb c hc rfl;exact zB b (by simp[hc]) (nH b hb).1
   ·rintro b hb c hc rfl
    rcases ay.1 hc with hc|hc
    ·exact zB b (by simp[hb]) (nH b hc).1
    ·exact n1.2.2 b hb b (aX _ hc) rfl
  ·intro b hb
   simp only[ay]at hb
   rcases hb with(hb|hb)|hb
   ·exact⟨λhm=>zB b (by simp[hb]) (PX b hm),by simp[hb]⟩
   ·exact⟨(nH b hb).2,by simp[(nH b hb).1]⟩
   ·exact⟨λhm=>zB b (by simp[hb]) (PX b hm),by simp[hb]⟩
  ·show(if b∈fh then _ else _)=_
   rw[aH hb]
 have Ou:∀(fh:dy),∀b x,(if b∈fh then some (iO.hand 0) else g.dE b)=some x->(b∈fh->∃y,g.dE b=some y)->b<w.heap.size/\(C.w0.heap.size<=b\/C.M b):=by intro fh b x hx hy;by_cases hm:b∈fh;obtain⟨y,hy⟩:=hy hm;exact h.ff b y hy;rw[aG hm]at hx;exact h.ff b x hx
 have X1:∀(fh:dy)(o:iO),(∀b∈fh,g.dE b=some o)->∀b x,x≠o->g.dE b=some x->(if b∈fh then some (iO.hand 0) else g.dE b)=some x:=by intro fh o PX b x hxo hb;rw[aG (λhm=>hxo (by have:=PX b hm;rw[hb]at this;simpa using this))];exact hb
 cases r with
 |slot s j=>
  have xn:s<st.slots.length:=by
   rcases bH s st.slots.length with gM|Ad;exact gM;have:st.get s=.bot:=by simp[AS.get,dv,br Ad]
   rw[AS.eF,this]at gI;cases j with|zero=>simp[nth]at gI;exact absurd gI.symm D2|succ j=>simp[nth]at gI
  have hsl:st.slots[s]?=some (st.get s):=by rw[get_eq (ax xn)];exact ax xn
  obtain⟨fp,hr,hn,hl⟩:=h.slots s _ hsl;cases hg:st.get s with
  |uT ts=>rw[AS.eF,hg]at gI;cases gI
  |val gg cs=>
   have hgx:cs[j]?=some x0:=by rw[AS.eF,hg]at gI;simpa[dv]using gI
   rw[hg]at hr;obtain⟨vs,dU,hr⟩:=hr;have lh:∀x1,st.eM (.slot s j) x1={st with slots:=st.slots.set s (.val gg (cs.set j x1))}:=λx1=>by simp only[AS.eM,hg,AS.put,eN]
   obtain⟨v,f2,QW,B6,zT,kJ⟩:=core (.slot s) hr hn hl hgx;refine⟨v,f2,QW,B6,λb hb=>(zT b hb).1,?_⟩;intro x1 jj fh u av hx1 D1 L2 nH PX hu;obtain⟨hle,hZ,dx,IQ,Ek,Gj⟩:=kJ (st.eM (.slot s j) x1) x1 jj fh u av (by rw[lh]) (by rw[lh]) (λ_ q=>by rw[lh];exact q) hx1 D1 L2 nH PX hu;have hfo:∀b∈fh,g.dE b=some (.slot s):=λb hb=>(zT b (PX b hb)).1;refine⟨_,h.step (λx=>x≠ .slot s) hle h.defers ?_ ?_ h.frame (λb x hx=>Ou fh b x hx (λhm=>⟨_,hfo b hm⟩)) (λb x hk hb=>⟨X1 fh _ hfo b x hk hb,rfl,rfl⟩) ?_ ?_ ?_ (.inl ⟨by simp,by rw[lh]⟩)⟩;rw[lh];simpa using h.size;rw[lh];simpa using h.bsize;intro i bv hi;rw[lh]at hi;have pV:(st.slots.set s (.val gg (cs.set j x1)))[i]?=some bv:=hi;by_cases XA:i=s;subst XA;rw[bj]at pV;simp only[bF,xn]at pV;simp at pV;subst pV;refine .inr ⟨hZ,⟨vs,dU,dx⟩,IQ,λb hb=>?_⟩;show(if b∈fh then _ else _)=_;rw[aG (Ek b hb).1];exact hl b (Ek b hb).2;rw[aS (cC XA)]at pV;exact .inl ⟨by simpa using XA,pV,rfl⟩;intro t mr hb;rw[lh]at hb;exact .inl ⟨by simp,hb,rfl⟩;intro k u' bv hk;cases k with
   |zero=>simp only[cm,aZ,Prod.mk.injEq]at hk;obtain⟨rfl,rfl⟩:=hk;exact .inr Gj
   |succ k=>simp at hk
 |box s j=>
  have ji:∃cs,st.boxes[s]?=some (some cs)/\cs[j]?=some x0:=by rw[AS.eF,dv]at gI;cases hb:st.boxes[s]? with|none=>simp[hb]at gI|some o=>cases o with|none=>simp[hb]at gI|some cs=>exact⟨cs,rfl,by simpa[hb,dv]using gI⟩
  obtain⟨cs,ji,hgx⟩:=ji;have xn:s<st.boxes.length:=(aD.1 ji).1;obtain⟨arr,T,fr,fp,iZ,qf,hr,hn,sr,hl,HQ,H8⟩:=h.boxes s cs ji;have lh:∀x1,st.eM (.box s j) x1={st with boxes:=st.boxes.set s (some (cs.set j x1))}:=λx1=>by simp only[AS.eM,dv,ji,fb,AS.eh,eN]
  obtain⟨v,f2,QW,B6,zT,kJ⟩:=core (.box s) hr hn hl hgx;refine⟨v,f2,QW,B6,λb hb=>(zT b hb).1,?_⟩;intro x1 jj fh u av hx1 D1 L2 nH PX hu;obtain⟨hle,hZ,dx,IQ,Ek,Gj⟩:=kJ (st.eM (.box s j) x1) x1 jj fh u av (by rw[lh]) (by rw[lh]) (λt ht=>by rw[lh];obtain⟨c0,WC⟩:=ht;by_cases qg:s=t;subst qg;exact⟨cs.set j x1,by simp[xn]⟩;exact⟨c0,by rw[aS qg];exact WC⟩) hx1 D1 L2 nH PX hu;have hfo:∀b∈fh,g.dE b=some (.box s):=λb hb=>(zT b (PX b hb)).1;refine⟨_,h.step (λx=>x≠ .box s) hle h.defers ?_ ?_ h.frame (λb x hx=>Ou fh b x hx (λhm=>⟨_,hfo b hm⟩)) (λb x hk hb=>⟨X1 fh _ hfo b x hk hb,rfl,rfl⟩) ?_ ?_ ?_ (.inl ⟨by simp,by rw[lh]⟩)⟩;rw[lh];exact h.size;rw[lh];simpa using h.bsize;intro i bv hi;rw[lh]at hi;exact .inl ⟨by simp,hi,rfl⟩;intro t mr hb;rw[lh]at hb;have gA:(st.boxes.set s (some (cs.set j x1)))[t]?=some (some mr):=hb;by_cases qg:t=s;subst qg;rw[bj]at gA;simp only[bF,xn]at gA;simp at gA;subst gA;have IT:g.β t∉fh:=λhm=>sr (zT _ (PX _ hm)).2;refine .inr ⟨arr,T,fr,hZ,iZ,qf,dx,IQ,λhm=>sr (Ek _ hm).2,λb hb=>?_,?_,H8⟩;show(if b∈fh then _ else _)=_;rw[aG (Ek b hb).1];exact hl b (Ek b hb).2;show(if g.β t∈fh then _ else _)=_;rw[aG IT];exact HQ;rw[aS (cC qg)]at gA;exact .inl ⟨by simpa using qg,gA,rfl⟩;intro k u' bv hk;cases k with
  |zero=>simp only[cm,aZ,Prod.mk.injEq]at hk;obtain⟨rfl,rfl⟩:=hk;exact .inr Gj
  |succ k=>simp at hk
 |io j=>
  have hgx:st.io[j]?=some x0:=by rw[AS.eF,dv]at gI;exact gI
  obtain⟨fp,hr,hn,hl⟩:=h.io;have lh:∀x1,st.eM (.io j) x1={st with io:=st.io.set j x1}:=λx1=>by simp only[AS.eM,eN]
  obtain⟨v,f2,QW,B6,zT,kJ⟩:=core .io hr hn hl hgx;refine⟨v,f2,QW,B6,λb hb=>(zT b hb).1,?_⟩;intro x1 jj fh u av hx1 D1 L2 nH PX hu;obtain⟨hle,hZ,dx,IQ,Ek,Gj⟩:=kJ (st.eM (.io j) x1) x1 jj fh u av (by rw[lh]) (by rw[lh]) (λ_ q=>by rw[lh];exact q) hx1 D1 L2 nH PX hu;have hfo:∀b∈fh,g.dE b=some .io:=λb hb=>(zT b (PX b hb)).1;refine⟨_,h.step (λx=>x≠ .io) hle h.defers ?_ ?_ h.frame (λb x hx=>Ou fh b x hx (λhm=>⟨_,hfo b hm⟩)) (λb x hk hb=>⟨X1 fh _ hfo b x hk hb,rfl,rfl⟩) ?_ ?_ ?_ (.inr ⟨hZ,?_,IQ,λb hb=>?_⟩)⟩;rw[lh];exact h.size;rw[lh];exact h.bsize;intro i bv hi;rw[lh]at hi;exact .inl ⟨by simp,hi,rfl⟩;intro t mr hb;rw[lh]at hb;exact .inl ⟨by simp,hb,rfl⟩;intro k u' bv hk;cases k with
  |zero=>simp only[cm,aZ,Prod.mk.injEq]at hk;obtain⟨rfl,rfl⟩:=hk;exact .inr Gj
  |succ k=>simp at hk
  have:(st.eM (.io j) x1).io=st.io.set j x1:=by rw[lh]
  rw[this];exact dx;show(if b∈fh then _ else _)=_;rw[aG (Ek b hb).1];exact hl b (Ek b hb).2
theorem dr.Xs (h:dr C g st a w hs){v:Value}{x:AC}(r:gy (cv C g st w) v x []):gy (cv C g st w) v (st.fresh x) []:=by
 unfold AS.fresh;split;rename_i ep rt t e xs;cases xg:(ep==st.ep)with
 |true=>exact r
 |false=>
  simp only[ae];split;rename_i t' e' ys gI;split;rename_i he;subst he;cases ht:(t'==t)with
  |false=>exact r
  |true=>
   have:t'=t:=by simpa using ht
   subst this;simp only[af];obtain⟨v0,f2,hh,eK,_,_,_⟩:=h.Td rt gI;obtain⟨h1,h2,h3,h4,h5⟩:=r;obtain⟨k1,k2⟩:=h5 rt t' rfl;have hv:v0=v:=(hh t' rfl).trans k2.symm;subst hv;exact⟨h1,bc _,Kf eK,λ_=>dY.rep (λb o ho=> .inr ho) eK,λr1 t1 hp=>by simp at hp;obtain⟨_,rfl⟩:=hp;exact⟨k1,k2⟩⟩
  exact r;exact r
 exact r
theorem dr.LW (h:dr C g st a w hs):∀{vs:gO}{xs:aq AC},bn (cv C g st w) vs xs []->bn (cv C g st w) vs (xs.map st.fresh) []
 |[],[],r=>r
 |_::_,_::_,r=>by
  obtain⟨f1,f2,he,r1,r2⟩:=r;have h1:f1=[]:=by have:=he.symm;simp at this;exact this.1
  have h2:f2=[]:=by have:=he.symm;simp at this;exact this.2
  subst h1;subst h2;exact⟨[],[],rfl,h.Xs r1,h.LW r2⟩
 |[],_::_,r=>r.elim
 |_::_,[],r=>r.elim
theorem dr.fresh (h:dr C g st a w hs){v:Value}{x:AV}(r:fA (cv C g st w) v x []):fA (cv C g st w) v (x.fresh st) []:=by
 cases x with
 |val gg cs=>obtain⟨vs,hv,r⟩:=r;exact⟨vs,hv,h.LW r⟩
 |uT ts=>exact r
end Go.Dn
