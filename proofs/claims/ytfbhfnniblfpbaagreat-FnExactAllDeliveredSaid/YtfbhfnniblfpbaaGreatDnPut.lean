import Derived.Test.YtfbhfnniblfpbaaGreatDnSim
/- The ways in which a state goes on: a slot is written, an operand is taken over, memory grows. -/
namespace Go.Dn
open Go.RowKit
variable {C:Ctx} {g:Gh} {st:AS} {a:Act} {w:World} {hs:au (Value×AV)}
variable {d:aw Nat}
theorem S2 (d:aw Nat)(av:AV):(cq C g st w).Le (cq C g (st.put d av) w):=by refine⟨rfl,λt ht=>⟨by show ll (st.put d av) t;rw[JO];exact ht,rfl⟩,λ_ _ _ _ _ hv=>hv,?_,λs hs=>⟨by show fX (st.put d av) s;rw[Lh];exact hs,rfl⟩,λ_ b o u ho hu=>⟨ho,hu⟩⟩;show st.ep<=(st.put d av).ep;rw[KN];exact aX _
theorem dk.quiet (h:dk C g st a w hs)(d:aw Nat){v:Value}{av:AV}(hr:fy (cq C g st w) v av []): dk C g (st.put d av) (a.put d v) w hs:=by cases d with|none=>exact h|some d=>have hle:= @S2 C g st w (some d) av;refine h.step (λx=>x≠ .slot d) hle (by rw[NB];exact h.defers) (by rw[VV,fw,aJ];exact h.size) (by rw[kx,fw,aJ];exact h.bsize) h.frame h.fa (λb x _ hx=>⟨hx,rfl,rfl⟩) ?_ ?_ ?_ ?_;intro i bv hi;by_cases UJ:i=d;subst UJ;rw[fw,bk]at hi;simp only[bN]at hi;split at hi;rename_i gq;simp at hi;subst hi;refine .inr ⟨[],?_,by simp,by simp⟩;rw[Kt];simp only[true_and,h.size,gq,bN];exact hr.mono hle (by simp);cases hi;refine .inl ⟨by simpa using UJ,?_,by rw[Kt];simp[UJ]⟩;rwa[fw,aN (cD UJ)]at hi;intro s cs hb;rw[kx]at hb;exact .inl ⟨by simp,hb,rfl⟩;intro k u bv hk;exact .inl ⟨by simp,hk⟩;exact .inl ⟨by simp,rfl⟩
theorem AP {w w':World}(hf:Fr (λ_=>False) w w'){b o:Nat}{v:Value}(h:w.cell? ⟨b,o,none⟩=some v):w'.cell? ⟨b,o,none⟩=some v:=by have hb:b<w.heap.size:=World.block_lt_of_cell? w _ h;rw[World.cell?_of_block (a:=⟨b,o,none⟩) (hf.block b hb (λm=>m))];exact h
theorem dk.grow (h:dk C g st a w hs){w':World}(hf:Fr (λ_=>False) w w'):dk C g st a w' hs:=by
 have hle:(cq C g st w).Le (cq C g st w'):=⟨rfl,λ_ ht=>⟨ht,rfl⟩,λ_ _ _ _ _ hv=>AP hf hv,aX _,λ_ hs=>⟨hs,rfl⟩,λ_ b o u ho hu=>⟨ho,AP hf hu⟩⟩
 refine h.step (λ_=>True) hle h.defers h.size h.bsize (h.frame.trans hf (λb _ m=>m.elim)) (λb x hx=>?_) (λb x _ hx=>⟨hx,hf.block b (h.fa b x hx).1 (λm=>m),rfl⟩) ?_ ?_ ?_ ?_;have hx:=h.fa b x hx;have:=hf.size;exact⟨by omega,hx.2⟩;exact λi av hi=> .inl ⟨df,hi,rfl⟩;exact λs cs hb=> .inl ⟨df,hb,rfl⟩;exact λk v av hk=> .inl ⟨df,hk⟩;exact .inl ⟨df,rfl⟩
theorem Fr.drew (M:Nat->Prop)(w:World):Fr M w w.drew:=⟨rfl,rfl,rfl,aX _,λ_ _ _=>rfl⟩
theorem Fr.alloc (M:Nat->Prop)(w:World)(o:Obj):Fr M w (w.alloc o):=⟨rfl,rfl,rfl,by simp,λb hb _=>heap_alloc_old w o b hb⟩
def eZ:aw iT->Bool
 |some (.hand _)=>true
 |_=>false
abbrev cQ (x:aw iT):Prop:=eZ x=true
theorem KZ {v:AV}:(st.put d v).io=st.io:=by cases d<;>rfl
theorem JN:(st.eX d).io=st.io:=by cases d<;>rfl
theorem vj:(st.eX d).slots=st.slots:=by cases d<;>rfl
theorem Cd:(st.eX d).boxes=st.boxes:=by cases d<;>rfl
theorem Bc:(st.eX d).ep=st.ep:=by cases d<;>rfl
theorem Em {t:Nat}(h:ll st t):ll (st.eX d) t:=by cases d with|none=>exact h|some d=>rcases h with h|h;exact .inl h;refine .inr ?_;simp only[AS.eX,dv,eJ,bk]at h⊢;split;split<;>simp;exact h
theorem py {j t:Nat}(h:st.gV d j=some t):¬ll st t/\ll (st.eX d) t/\∃d',d=some d'/\t=Kn d' j/\j<4096:=by
 cases d with
 |none=>simp[AS.gV]at h
 |some d=>
  simp only[AS.gV]at h;cases hi:(nth st.iss d).getD true with
  |true=>rw[hi]at h;simp at h
  |false=>
   rw[hi]at h;simp only[ae]at h;cases hj:Nat.ble 4096 j with
   |true=>rw[hj]at h;simp at h
   |false=>
    rw[hj]at h;simp only[ae,aZ]at h;have hjl:j<4096:=by rcases bL j 4096 with hl|hg;exact hl;rw[gC hg]at hj;cases hj
    have hdiv:t/3/4096=d:=by rw[<-h,Kn];omega
    have ahc:t%3=2:=by rw[<-h,Kn];omega
    refine⟨?_,.inr ?_,d,rfl,h.symm,hjl⟩;rintro(h1|h1);exact h1 ahc;rw[hdiv,hi]at h1;cases h1;simp only[AS.eX,dv,eJ,hdiv];rw[dv]at hi;have gq:d<st.iss.length:=by rcases bL d st.iss.length with hl|hg;exact hl;rw[bE hg]at hi;simp at hi
    simp[gq]
theorem dk.OU (h:dk C g st a w hs)(d:aw Nat){v:Value}{av:AV}{fp:dI}{w':World}{hw':Nat->Nat}{hdr':Nat->Value}{st1:AS}(aoQ:st1.io=st.io)(hs1:st1.slots=st.slots)(Zt:st1.boxes=st.boxes)(he1:st1.ep=st.ep)(hi1:∀t,ll st t->ll st1 t/\hdr' t=g.hdr t)(gw:Fr (λb=>cQ (g.dB b)) w w')(Bl:∀b x,g.dB b=some x->¬cQ (some x)->hw' b=g.hw b)(Jq:∀b o u,o<g.hw b->w.cell? ⟨b,o,none⟩=some u->o<hw' b/\w'.cell? ⟨b,o,none⟩=some u)(hr:fy (cq C {g with hw:=hw',hdr:=hdr'} st1 w') v av fp)(hn:fp.Nodup)(B7:∀b∈fp,b<w'.heap.size/\(cQ (g.dB b)\/w.heap.size<=b)): ∃g',dk C g' (st1.put d av) (a.put d v) w' []:=by
 have Xx:∀k b o u,C.A k b o->w.cell? ⟨b,o,none⟩=some u->w'.cell? ⟨b,o,none⟩=some u:=by
  intro k b o u hA hu;have hb:b<w.heap.size:=World.block_lt_of_cell? w _ hu;have I3:¬cQ (g.dB b):=by intro hh;cases hx:g.dB b with|none=>rw[hx]at hh;cases hh|some x=>exact h.K1 hx k o hA
  rw[World.cell?_of_block (a:=⟨b,o,none⟩) (gw.block b hb I3)];exact hu
 have hkp:∀b x,g.dB b=some x->¬cQ (some x)->w'.heap[b]?=w.heap[b]?:=λb x hx hh=>gw.block b (h.fa b x hx).1 (by rw[hx];exact hh);let abf:Nat->aw iT:=λb=>if b∈fp then d.map .slot else if cQ (g.dB b) then none else g.dB b
 have Iz:Fr C.M C.w0 w':=h.frame.trans gw (λb hb hh=>by cases hx:g.dB b with|none=>rw[hx]at hh;cases hh|some x=>rcases(h.fa b x hx).2 with h2|h2;omega;exact h2);have PO:∀s,fX st s->fX (st1.put d av) s:=by intro s hs;rw[Lh];simpa[fX,Zt]using hs
 have ag7:(cq C {g with hw:=hw',hdr:=hdr'} st1 w').Le (cq C ⟨hw',g.β,abf,hdr'⟩ (st1.put d av) w'):=by refine⟨rfl,λt ht=>⟨by show ll (st1.put d av) t;rw[JO];exact ht,rfl⟩,λ_ _ _ _ _ hu=>hu,?_,λs hs=>⟨by show fX (st1.put d av) s;rw[Lh];exact hs,rfl⟩,λ_ b o u ho hu=>⟨ho,hu⟩⟩;show st1.ep<=(st1.put d av).ep;rw[KN];exact aX _
 have hle:(cq C g st w).Le (cq C ⟨hw',g.β,abf,hdr'⟩ (st1.put d av) w'):=by refine⟨rfl,λt ht=>⟨by show ll (st1.put d av) t;rw[JO];exact(hi1 t ht).1,(hi1 t ht).2⟩,Xx,?_,λs hs=>⟨PO s hs,rfl⟩,λ_ b o u ho hu=>Jq b o u ho hu⟩;show st.ep<=(st1.put d av).ep;rw[KN,he1];exact aX _
 have ahf:∀b x,g.dB b=some x->¬cQ (some x)->b∉fp:=by intro b x hx hh hm;rcases(B7 b hm).2 with h2|h2;rw[hx]at h2;exact hh h2;have:=(h.fa b x hx).1;omega
 have aia:∀b x,g.dB b=some x->¬cQ (some x)->abf b=some x:=by intro b x hx hh;show(if b∈fp then d.map iT.slot else if cQ (g.dB b) then none else g.dB b)=some x;rw[aE (ahf b x hx hh),aE (by rw[hx];exact hh),hx]
 refine⟨⟨hw',g.β,abf,hdr'⟩,h.step (λx=>¬cQ (some x)/\some x≠d.map .slot) hle (by rw[NB];exact h.defers) ?_ ?_ Iz ?_ ?_ ?_ ?_ ?_ (.inl ⟨⟨by simp[eZ],by cases d<;>simp⟩,by rw[KZ,aoQ]⟩)⟩;rw[VV];cases d with|none=>show _=st1.slots.length;rw[hs1];exact h.size|some d=>rw[fw,aJ,hs1];exact h.size
 rw[kx,Zt];cases d with|none=>show _=st1.slots.length;rw[hs1];exact h.bsize|some d=>rw[fw,aJ,hs1];exact h.bsize
 intro b x hx;have zY:(if b∈fp then d.map iT.slot else if cQ (g.dB b) then none else g.dB b)=some x:=hx;by_cases hm:b∈fp;refine⟨(B7 b hm).1,?_⟩;rcases(B7 b hm).2 with h2|h2;cases hy:g.dB b with|none=>rw[hy]at h2;cases h2|some y=>exact(h.fa b y hy).2
 exact .inl (aH h.frame.size h2);rw[aE hm]at zY;split at zY;cases zY;have:=h.fa b x zY;have hz:=gw.size;exact⟨by omega,this.2⟩;intro b x hk hx;exact⟨aia b x hx hk.1,hkp b x hx hk.1,Bl b x hx hk.1⟩;intro i bv hi;cases d with
 |none=>
  have rn:st.slots[i]?=some bv:=by rw[<-hs1];exact hi
  exact .inl ⟨⟨by simp[eZ],by simp⟩,rn,rfl⟩
 |some d=>
  have rn:(st.slots.set d av)[i]?=some bv:=by rw[<-hs1,<-fw];exact hi
  by_cases UJ:i=d;subst UJ;rw[bk]at rn;simp only[bN]at rn;split at rn;rename_i gq;simp at rn;subst rn;refine .inr ⟨fp,?_,hn,λb hb=>?_⟩;rw[Kt];simp only[true_and,h.size,gq,bN];exact hr.mono ag7 (λb _=>⟨rfl,rfl⟩);show(if b∈fp then _ else _)=_;rw[aF hb];rfl;cases rn;refine .inl ⟨⟨by simp[eZ],by simpa using UJ⟩,?_,by rw[Kt];simp[UJ]⟩;rwa[aN (cD UJ)]at rn
 intro s cs hb;have gn:st.boxes[s]?=some (some cs):=by rw[<-Zt,<-kx (d:=d) (v:=av)];exact hb
 exact .inl ⟨⟨by simp[eZ],by cases d<;>simp⟩,gn,rfl⟩;intro k u bv hk;simp at hk
theorem dk.aeV (h:dk C g st a w hs)(x:Operand):∃g',(g'.β=g.β/\g'.hw=g.hw/\g'.hdr=g.hdr/\∀b s,g.dB b=some (.box s)->g'.dB b=some (.box s))/\dk C g' (st.take x).2 a w (hs++[(a.eval x,(st.take x).1)]):=by
 have plain:∀y,(st.take y)=(st.rd y,st)->∃g',(g'.β=g.β/\g'.hw=g.hw/\g'.hdr=g.hdr/\∀b s,g.dB b=some (.box s)->g'.dB b=some (.box s))/\dk C g' (st.take y).2 a w (hs++[(a.eval y,(st.take y).1)]):=by
  intro y hy;rw[hy];refine⟨g,⟨rfl,rfl,rfl,λ_ _ hb=>hb⟩,h.defers,h.size,h.bsize,h.slots,h.boxes,λk v av hk=>?_,h.fa,h.frame,h.io⟩;rw[List.getElem?_append]at hk;split at hk;exact h.hands k v av hk;cases hm:k-hs.length with
  |zero=>rw[hm]at hk;simp at hk;obtain⟨rfl,rfl⟩:=hk;exact⟨[],h.rd y,by simp,by simp⟩
  |succ n=>rw[hm]at hk;simp at hk
 cases x with
 |const v=>exact plain _ rfl
 |func f=>exact plain _ rfl
 |global gl=>exact plain _ rfl
 |tmp t=>
  obtain⟨fp,hr,hn,hl⟩:=h.slot t;let st':AS:=st.put (some t) ((st.get t).aS st.ep);let g':Gh:={g with dB:=λb=>if b∈fp then some (.hand hs.length) else g.dB b}
  have hle:(cq C g st w).Le (cq C g' st' w):=by have:= @S2 C g st w (some t) ((st.get t).aS st.ep);exact⟨this.A,this.hdr,this.Uh,this.ep,this.JW,this.abQ⟩
  have WL:∀b y,y≠ .slot t->g.dB b=some y->g'.dB b=some y:=by intro b y hy hb;show(if b∈fp then _ else _)=_;rw[aE (λhm=>hy (by have:=hl b hm;rw[hb]at this;simpa using this))];exact hb
  refine⟨g',⟨rfl,rfl,rfl,λb s hb=>WL b _ (by simp) hb⟩,?_⟩;show dk C g' st' a w (hs++[(a.tmps.getD t undef,st.get t)]);refine h.step (λy=>y≠ .slot t) hle h.defers (by show _=(st.put (some t) ((st.get t).aS st.ep)).slots.length;rw[fw,aJ];exact h.size) (by show(st.put (some t) ((st.get t).aS st.ep)).boxes.length=(st.put (some t) ((st.get t).aS st.ep)).slots.length;rw[kx,fw,aJ];exact h.bsize) h.frame ?_ (λb y hy hb=>⟨WL b y hy hb,rfl,rfl⟩) ?_ ?_ ?_ ?_;intro b y hb;have gn:(if b∈fp then some (iT.hand hs.length) else g.dB b)=some y:=hb;by_cases hm:b∈fp;exact h.fa b _ (hl b hm);rw[aE hm]at gn;exact h.fa b y gn;intro i bv hi;have rn:(st.slots.set t ((st.get t).aS st.ep))[i]?=some bv:=by rw[<-fw];exact hi
  by_cases UJ:i=t;subst UJ;rw[bk]at rn;simp only[bN]at rn;split at rn;simp at rn;subst rn;exact .inr ⟨[],(hr.aS).mono hle (by simp),by simp,by simp⟩;cases rn;rw[aN (cD UJ)]at rn;exact .inl ⟨by simpa using UJ,rn,rfl⟩;intro s cs hb;have gn:st.boxes[s]?=some (some cs):=by rw[<-kx (d:=some t) (v:=(st.get t).aS st.ep)];exact hb
  exact .inl ⟨by simp,gn,rfl⟩;intro k v av hk;rw[List.getElem?_append]at hk;split at hk;exact .inl ⟨by simp,hk⟩;rename_i gq;cases hm:k-hs.length with
  |zero=>
   have:k=hs.length:=by omega
   subst this;rw[hm]at hk;simp only[ch,aZ,Prod.mk.injEq]at hk;obtain⟨rfl,rfl⟩:=hk;refine .inr ⟨fp,hr.mono hle (λb _=>⟨rfl,rfl⟩),hn,λb hb=>?_⟩;show(if b∈fp then _ else _)=_;rw[aF hb]
  |succ n=>rw[hm]at hk;simp at hk
  exact .inl ⟨by simp,KZ⟩
theorem dk.take (h:dk C g st a w hs)(x:Operand):∃g',dk C g' (st.take x).2 a w (hs++[(a.eval x,(st.take x).1)]):=by obtain⟨g',_,h'⟩:=h.aeV x;exact⟨g',h'⟩
end Go.Dn
