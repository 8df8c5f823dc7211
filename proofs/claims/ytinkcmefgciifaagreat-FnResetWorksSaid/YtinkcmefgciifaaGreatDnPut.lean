import Derived.Test.YtinkcmefgciifaaGreatDnSim
/- The ways in which a state goes on: a slot is written, an operand is taken over, memory grows. -/
namespace Go.Dn
open Go.RowKit
variable {C:Ctx} {g:Gh} {st:AS} {a:Act} {w:World} {hs:az (Value×AV)}
variable {d:aC Nat}
theorem UB (d:aC Nat)(av:AV):(dp C g st w).Le (dp C g (st.put d av) w):=by refine⟨rfl,λt ht=>⟨by show oz (st.put d av) t;rw[JC];exact ht,rfl⟩,λ_ _ _ _ _ hv=>hv,?_,λs hs=>⟨by show ky (st.put d av) s;rw[Lm];exact hs,rfl⟩,λ_ b o u ho hu=>⟨ho,hu⟩⟩;show st.ep<=(st.put d av).ep;rw[KG];exact aX _
theorem eX.quiet (h:eX C g st a w hs)(d:aC Nat){v:Value}{av:AV}(hr:iu (dp C g st w) v av []): eX C g (st.put d av) (a.put d v) w hs:=by cases d with|none=>exact h|some d=>have hle:= @UB C g st w (some d) av;refine h.step (λx=>x≠ .slot d) hle (by rw[Of];exact h.defers) (by rw[X2,gW,aD];exact h.size) (by rw[mr,gW,aD];exact h.bsize) h.frame h.iw (λb x _ hx=>⟨hx,rfl,rfl⟩) ?_ ?_ ?_ ?_;intro i bv hi;by_cases Wt:i=d;subst Wt;rw[gW,bL]at hi;simp only[cr]at hi;split at hi;rename_i iz;simp at hi;subst hi;refine .inr ⟨[],?_,by simp,by simp⟩;rw[Kj];simp only[true_and,h.size,iz,cr];exact hr.mono hle (by simp);cases hi;refine .inl ⟨by simpa using Wt,?_,by rw[Kj];simp[Wt]⟩;rwa[gW,aF (cd Wt)]at hi;intro s cs hb;rw[mr]at hb;exact .inl ⟨by simp,hb,rfl⟩;intro k u bv hk;exact .inl ⟨by simp,hk⟩;exact .inl ⟨by simp,rfl⟩
theorem Bz {w w':World}(hf:Fr (λ_=>False) w w'){b o:Nat}{v:Value}(h:w.cell? ⟨b,o,none⟩=some v):w'.cell? ⟨b,o,none⟩=some v:=by have hb:b<w.heap.size:=World.block_lt_of_cell? w _ h;rw[World.cell?_of_block (a:=⟨b,o,none⟩) (hf.block b hb (λm=>m))];exact h
theorem eX.grow (h:eX C g st a w hs){w':World}(hf:Fr (λ_=>False) w w'):eX C g st a w' hs:=by
 have hle:(dp C g st w).Le (dp C g st w'):=⟨rfl,λ_ ht=>⟨ht,rfl⟩,λ_ _ _ _ _ hv=>Bz hf hv,aX _,λ_ hs=>⟨hs,rfl⟩,λ_ b o u ho hu=>⟨ho,Bz hf hu⟩⟩
 refine h.step (λ_=>True) hle h.defers h.size h.bsize (h.frame.trans hf (λb _ m=>m.elim)) (λb x hx=>?_) (λb x _ hx=>⟨hx,hf.block b (h.iw b x hx).1 (λm=>m),rfl⟩) ?_ ?_ ?_ ?_;have hx:=h.iw b x hx;have:=hf.size;exact⟨by omega,hx.2⟩;exact λi av hi=> .inl ⟨cM,hi,rfl⟩;exact λs cs hb=> .inl ⟨cM,hb,rfl⟩;exact λk v av hk=> .inl ⟨cM,hk⟩;exact .inl ⟨cM,rfl⟩
theorem Fr.drew (M:Nat->Prop)(w:World):Fr M w w.drew:=⟨rfl,rfl,rfl,aX _,λ_ _ _=>rfl⟩
theorem Fr.alloc (M:Nat->Prop)(w:World)(o:Obj):Fr M w (w.alloc o):=⟨rfl,rfl,rfl,by simp,λb hb _=>heap_alloc_old w o b hb⟩
def lX:aC lI->Bool
 |some (.hand _)=>true
 |_=>false
abbrev eM (x:aC lI):Prop:=lX x=true
theorem KY {v:AV}:(st.put d v).io=st.io:=by cases d<;>rfl
theorem JA:(st.gO d).io=st.io:=by cases d<;>rfl
theorem vZ:(st.gO d).slots=st.slots:=by cases d<;>rfl
theorem Cv:(st.gO d).boxes=st.boxes:=by cases d<;>rfl
theorem BO:(st.gO d).ep=st.ep:=by cases d<;>rfl
theorem EC {t:Nat}(h:oz st t):oz (st.gO d) t:=by cases d with|none=>exact h|some d=>rcases h with h|h;exact .inl h;refine .inr ?_;simp only[AS.gO,eT,gL,bL]at h⊢;split;split<;>simp;exact h
theorem rr {j t:Nat}(h:st.jz d j=some t):¬oz st t/\oz (st.gO d) t/\∃d',d=some d'/\t=Kc d' j/\j<4096:=by
 cases d with
 |none=>simp[AS.jz]at h
 |some d=>
  simp only[AS.jz]at h;cases hi:(nth st.iss d).getD true with
  |true=>rw[hi]at h;simp at h
  |false=>
   rw[hi]at h;simp only[af]at h;cases hj:Nat.ble 4096 j with
   |true=>rw[hj]at h;simp at h
   |false=>
    rw[hj]at h;simp only[af,bw]at h;have hjl:j<4096:=by rcases ca j 4096 with hl|hg;exact hl;rw[jk hg]at hj;cases hj
    have hdiv:t/3/4096=d:=by rw[<-h,Kc];omega
    have alS:t%3=2:=by rw[<-h,Kc];omega
    refine⟨?_,.inr ?_,d,rfl,h.symm,hjl⟩;rintro(h1|h1);exact h1 alS;rw[hdiv,hi]at h1;cases h1;simp only[AS.gO,eT,gL,hdiv];rw[eT]at hi;have iz:d<st.iss.length:=by rcases ca d st.iss.length with hl|hg;exact hl;rw[bS hg]at hi;simp at hi
    simp[iz]
theorem eX.PY (h:eX C g st a w hs)(d:aC Nat){v:Value}{av:AV}{fp:gk}{w':World}{hw':Nat->Nat}{hdr':Nat->Value}{st1:AS}(ast:st1.io=st.io)(hs1:st1.slots=st.slots)(hb1:st1.boxes=st.boxes)(he1:st1.ep=st.ep)(hi1:∀t,oz st t->oz st1 t/\hdr' t=g.hdr t)(kB:Fr (λb=>eM (g.fL b)) w w')(GV:∀b x,g.fL b=some x->¬eM (some x)->hw' b=g.hw b)(Je:∀b o u,o<g.hw b->w.cell? ⟨b,o,none⟩=some u->o<hw' b/\w'.cell? ⟨b,o,none⟩=some u)(hr:iu (dp C {g with hw:=hw',hdr:=hdr'} st1 w') v av fp)(hn:fp.Nodup)(Fh:∀b∈fp,b<w'.heap.size/\(eM (g.fL b)\/w.heap.size<=b)): ∃g',eX C g' (st1.put d av) (a.put d v) w' []:=by
 have hcA:∀k b o u,C.A k b o->w.cell? ⟨b,o,none⟩=some u->w'.cell? ⟨b,o,none⟩=some u:=by
  intro k b o u hA hu;have hb:b<w.heap.size:=World.block_lt_of_cell? w _ hu;have L8:¬eM (g.fL b):=by intro hh;cases hx:g.fL b with|none=>rw[hx]at hh;cases hh|some x=>exact h.Pn hx k o hA
  rw[World.cell?_of_block (a:=⟨b,o,none⟩) (kB.block b hb L8)];exact hu
 have hkp:∀b x,g.fL b=some x->¬eM (some x)->w'.heap[b]?=w.heap[b]?:=λb x hx hh=>kB.block b (h.iw b x hx).1 (by rw[hx];exact hh);let ad3:Nat->aC lI:=λb=>if b∈fp then d.map .slot else if eM (g.fL b) then none else g.fL b
 have Um:Fr C.M C.w0 w':=h.frame.trans kB (λb hb hh=>by cases hx:g.fL b with|none=>rw[hx]at hh;cases hh|some x=>rcases(h.iw b x hx).2 with h2|h2;omega;exact h2);have hpr:∀s,ky st s->ky (st1.put d av) s:=by intro s hs;rw[Lm];simpa[ky,hb1]using hs
 have alN:(dp C {g with hw:=hw',hdr:=hdr'} st1 w').Le (dp C ⟨hw',g.β,ad3,hdr'⟩ (st1.put d av) w'):=by refine⟨rfl,λt ht=>⟨by show oz (st1.put d av) t;rw[JC];exact ht,rfl⟩,λ_ _ _ _ _ hu=>hu,?_,λs hs=>⟨by show ky (st1.put d av) s;rw[Lm];exact hs,rfl⟩,λ_ b o u ho hu=>⟨ho,hu⟩⟩;show st1.ep<=(st1.put d av).ep;rw[KG];exact aX _
 have hle:(dp C g st w).Le (dp C ⟨hw',g.β,ad3,hdr'⟩ (st1.put d av) w'):=by refine⟨rfl,λt ht=>⟨by show oz (st1.put d av) t;rw[JC];exact(hi1 t ht).1,(hi1 t ht).2⟩,hcA,?_,λs hs=>⟨hpr s hs,rfl⟩,λ_ b o u ho hu=>Je b o u ho hu⟩;show st.ep<=(st1.put d av).ep;rw[KG,he1];exact aX _
 have alW:∀b x,g.fL b=some x->¬eM (some x)->b∉fp:=by intro b x hx hh hm;rcases(Fh b hm).2 with h2|h2;rw[hx]at h2;exact hh h2;have:=(h.iw b x hx).1;omega
 have anR:∀b x,g.fL b=some x->¬eM (some x)->ad3 b=some x:=by intro b x hx hh;show(if b∈fp then d.map lI.slot else if eM (g.fL b) then none else g.fL b)=some x;rw[aI (alW b x hx hh),aI (by rw[hx];exact hh),hx]
 refine⟨⟨hw',g.β,ad3,hdr'⟩,h.step (λx=>¬eM (some x)/\some x≠d.map .slot) hle (by rw[Of];exact h.defers) ?_ ?_ Um ?_ ?_ ?_ ?_ ?_ (.inl ⟨⟨by simp[lX],by cases d<;>simp⟩,by rw[KY,ast]⟩)⟩;rw[X2];cases d with|none=>show _=st1.slots.length;rw[hs1];exact h.size|some d=>rw[gW,aD,hs1];exact h.size
 rw[mr,hb1];cases d with|none=>show _=st1.slots.length;rw[hs1];exact h.bsize|some d=>rw[gW,aD,hs1];exact h.bsize
 intro b x hx;have BE:(if b∈fp then d.map lI.slot else if eM (g.fL b) then none else g.fL b)=some x:=hx;by_cases hm:b∈fp;refine⟨(Fh b hm).1,?_⟩;rcases(Fh b hm).2 with h2|h2;cases hy:g.fL b with|none=>rw[hy]at h2;cases h2|some y=>exact(h.iw b y hy).2
 exact .inl (bH h.frame.size h2);rw[aI hm]at BE;split at BE;cases BE;have:=h.iw b x BE;have hz:=kB.size;exact⟨by omega,this.2⟩;intro b x hk hx;exact⟨anR b x hx hk.1,hkp b x hx hk.1,GV b x hx hk.1⟩;intro i bv hi;cases d with
 |none=>
  have wF:st.slots[i]?=some bv:=by rw[<-hs1];exact hi
  exact .inl ⟨⟨by simp[lX],by simp⟩,wF,rfl⟩
 |some d=>
  have wF:(st.slots.set d av)[i]?=some bv:=by rw[<-hs1,<-gW];exact hi
  by_cases Wt:i=d;subst Wt;rw[bL]at wF;simp only[cr]at wF;split at wF;rename_i iz;simp at wF;subst wF;refine .inr ⟨fp,?_,hn,λb hb=>?_⟩;rw[Kj];simp only[true_and,h.size,iz,cr];exact hr.mono alN (λb _=>⟨rfl,rfl⟩);show(if b∈fp then _ else _)=_;rw[aJ hb];rfl;cases wF;refine .inl ⟨⟨by simp[lX],by simpa using Wt⟩,?_,by rw[Kj];simp[Wt]⟩;rwa[aF (cd Wt)]at wF
 intro s cs hb;have iB:st.boxes[s]?=some (some cs):=by rw[<-hb1,<-mr (d:=d) (v:=av)];exact hb
 exact .inl ⟨⟨by simp[lX],by cases d<;>simp⟩,iB,rfl⟩;intro k u bv hk;simp at hk
theorem eX.aiU (h:eX C g st a w hs)(x:Operand):∃g',(g'.β=g.β/\g'.hw=g.hw/\g'.hdr=g.hdr/\∀b s,g.fL b=some (.box s)->g'.fL b=some (.box s))/\eX C g' (st.take x).2 a w (hs++[(a.eval x,(st.take x).1)]):=by
 have plain:∀y,(st.take y)=(st.rd y,st)->∃g',(g'.β=g.β/\g'.hw=g.hw/\g'.hdr=g.hdr/\∀b s,g.fL b=some (.box s)->g'.fL b=some (.box s))/\eX C g' (st.take y).2 a w (hs++[(a.eval y,(st.take y).1)]):=by
  intro y hy;rw[hy];refine⟨g,⟨rfl,rfl,rfl,λ_ _ hb=>hb⟩,h.defers,h.size,h.bsize,h.slots,h.boxes,λk v av hk=>?_,h.iw,h.frame,h.io⟩;rw[List.getElem?_append]at hk;split at hk;exact h.hands k v av hk;cases hm:k-hs.length with
  |zero=>rw[hm]at hk;simp at hk;obtain⟨rfl,rfl⟩:=hk;exact⟨[],h.rd y,by simp,by simp⟩
  |succ n=>rw[hm]at hk;simp at hk
 cases x with
 |const v=>exact plain _ rfl
 |func f=>exact plain _ rfl
 |global gl=>exact plain _ rfl
 |tmp t=>
  obtain⟨fp,hr,hn,hl⟩:=h.slot t;let cc:AS:=st.put (some t) ((st.get t).bg st.ep);let g':Gh:={g with fL:=λb=>if b∈fp then some (.hand hs.length) else g.fL b}
  have hle:(dp C g st w).Le (dp C g' cc w):=by have:= @UB C g st w (some t) ((st.get t).bg st.ep);exact⟨this.A,this.hdr,this.VN,this.ep,this.JT,this.aeN⟩
  have YE:∀b y,y≠ .slot t->g.fL b=some y->g'.fL b=some y:=by intro b y hy hb;show(if b∈fp then _ else _)=_;rw[aI (λhm=>hy (by have:=hl b hm;rw[hb]at this;simpa using this))];exact hb
  refine⟨g',⟨rfl,rfl,rfl,λb s hb=>YE b _ (by simp) hb⟩,?_⟩;show eX C g' cc a w (hs++[(a.tmps.getD t undef,st.get t)]);refine h.step (λy=>y≠ .slot t) hle h.defers (by show _=(st.put (some t) ((st.get t).bg st.ep)).slots.length;rw[gW,aD];exact h.size) (by show(st.put (some t) ((st.get t).bg st.ep)).boxes.length=(st.put (some t) ((st.get t).bg st.ep)).slots.length;rw[mr,gW,aD];exact h.bsize) h.frame ?_ (λb y hy hb=>⟨YE b y hy hb,rfl,rfl⟩) ?_ ?_ ?_ ?_;intro b y hb;have iB:(if b∈fp then some (lI.hand hs.length) else g.fL b)=some y:=hb;by_cases hm:b∈fp;exact h.iw b _ (hl b hm);rw[aI hm]at iB;exact h.iw b y iB;intro i bv hi;have wF:(st.slots.set t ((st.get t).bg st.ep))[i]?=some bv:=by rw[<-gW];exact hi
  by_cases Wt:i=t;subst Wt;rw[bL]at wF;simp only[cr]at wF;split at wF;simp at wF;subst wF;exact .inr ⟨[],(hr.bg).mono hle (by simp),by simp,by simp⟩;cases wF;rw[aF (cd Wt)]at wF;exact .inl ⟨by simpa using Wt,wF,rfl⟩;intro s cs hb;have iB:st.boxes[s]?=some (some cs):=by rw[<-mr (d:=some t) (v:=(st.get t).bg st.ep)];exact hb
  exact .inl ⟨by simp,iB,rfl⟩;intro k v av hk;rw[List.getElem?_append]at hk;split at hk;exact .inl ⟨by simp,hk⟩;rename_i iz;cases hm:k-hs.length with
  |zero=>
   have:k=hs.length:=by omega
   subst this;rw[hm]at hk;simp only[cR,bw,Prod.mk.injEq]at hk;obtain⟨rfl,rfl⟩:=hk;refine .inr ⟨fp,hr.mono hle (λb _=>⟨rfl,rfl⟩),hn,λb hb=>?_⟩;show(if b∈fp then _ else _)=_;rw[aJ hb]
  |succ n=>rw[hm]at hk;simp at hk
  exact .inl ⟨by simp,KY⟩
theorem eX.take (h:eX C g st a w hs)(x:Operand):∃g',eX C g' (st.take x).2 a w (hs++[(a.eval x,(st.take x).1)]):=by obtain⟨g',_,h'⟩:=h.aiU x;exact⟨g',h'⟩
end Go.Dn
