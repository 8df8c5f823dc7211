import Derived.Test.YthllnaiaikjelaaGreatDnSim
/- The ways in which a state goes on: a slot is written, an operand is taken over, memory grows. -/
namespace Go.Dn
open Go.RowKit
variable {C:Ctx} {g:Gh} {st:AS} {a:Act} {w:World} {hs:aq (Value×AV)}
variable {d:ar Nat}
theorem SV (d:ar Nat)(av:AV):(cv C g st w).Le (cv C g (st.put d av) w):=by refine⟨rfl,λt ht=>⟨by show kO (st.put d av) t;rw[J9];exact ht,rfl⟩,λ_ _ _ _ _ hv=>hv,?_,λs hs=>⟨by show fY (st.put d av) s;rw[Lx];exact hs,rfl⟩,λ_ b o u ho hu=>⟨ho,hu⟩⟩;show st.ep<=(st.put d av).ep;rw[K2];exact bc _
theorem dr.quiet (h:dr C g st a w hs)(d:ar Nat){v:Value}{av:AV}(hr:fA (cv C g st w) v av []): dr C g (st.put d av) (a.put d v) w hs:=by cases d with|none=>exact h|some d=>have hle:= @SV C g st w (some d) av;refine h.step (λx=>x≠ .slot d) hle (by rw[NC];exact h.defers) (by rw[VQ,fz,bg];exact h.size) (by rw[ki,fz,bg];exact h.bsize) h.frame h.ff (λb x _ hx=>⟨hx,rfl,rfl⟩) ?_ ?_ ?_ ?_;intro i bv hi;by_cases UJ:i=d;subst UJ;rw[fz,bj]at hi;simp only[bF]at hi;split at hi;rename_i gM;simp at hi;subst hi;refine .inr ⟨[],?_,by simp,by simp⟩;rw[KI];simp only[true_and,h.size,gM,bF];exact hr.mono hle (by simp);cases hi;refine .inl ⟨by simpa using UJ,?_,by rw[KI];simp[UJ]⟩;rwa[fz,aS (cC UJ)]at hi;intro s cs hb;rw[ki]at hb;exact .inl ⟨by simp,hb,rfl⟩;intro k u bv hk;exact .inl ⟨by simp,hk⟩;exact .inl ⟨by simp,rfl⟩
theorem AW {w w':World}(hf:Fr (λ_=>False) w w'){b o:Nat}{v:Value}(h:w.cell? ⟨b,o,none⟩=some v):w'.cell? ⟨b,o,none⟩=some v:=by have hb:b<w.heap.size:=World.block_lt_of_cell? w _ h;rw[World.cell?_of_block (a:=⟨b,o,none⟩) (hf.block b hb (λm=>m))];exact h
theorem dr.grow (h:dr C g st a w hs){w':World}(hf:Fr (λ_=>False) w w'):dr C g st a w' hs:=by
 have hle:(cv C g st w).Le (cv C g st w'):=⟨rfl,λ_ ht=>⟨ht,rfl⟩,λ_ _ _ _ _ hv=>AW hf hv,bc _,λ_ hs=>⟨hs,rfl⟩,λ_ b o u ho hu=>⟨ho,AW hf hu⟩⟩
 refine h.step (λ_=>True) hle h.defers h.size h.bsize (h.frame.trans hf (λb _ m=>m.elim)) (λb x hx=>?_) (λb x _ hx=>⟨hx,hf.block b (h.ff b x hx).1 (λm=>m),rfl⟩) ?_ ?_ ?_ ?_;have hx:=h.ff b x hx;have:=hf.size;exact⟨by omega,hx.2⟩;exact λi av hi=> .inl ⟨bX,hi,rfl⟩;exact λs cs hb=> .inl ⟨bX,hb,rfl⟩;exact λk v av hk=> .inl ⟨bX,hk⟩;exact .inl ⟨bX,rfl⟩
theorem Fr.drew (M:Nat->Prop)(w:World):Fr M w w.drew:=⟨rfl,rfl,rfl,bc _,λ_ _ _=>rfl⟩
theorem Fr.alloc (M:Nat->Prop)(w:World)(o:Obj):Fr M w (w.alloc o):=⟨rfl,rfl,rfl,by simp,λb hb _=>heap_alloc_old w o b hb⟩
def fe:ar iO->Bool
 |some (.hand _)=>true
 |_=>false
abbrev cX (x:ar iO):Prop:=fe x=true
theorem Lc {v:AV}:(st.put d v).io=st.io:=by cases d<;>rfl
theorem J8:(st.eX d).io=st.io:=by cases d<;>rfl
theorem uM:(st.eX d).slots=st.slots:=by cases d<;>rfl
theorem Cc:(st.eX d).boxes=st.boxes:=by cases d<;>rfl
theorem Bh:(st.eX d).ep=st.ep:=by cases d<;>rfl
theorem Eu {t:Nat}(h:kO st t):kO (st.eX d) t:=by cases d with|none=>exact h|some d=>rcases h with h|h;exact .inl h;refine .inr ?_;simp only[AS.eX,dv,eN,bj]at h⊢;split;split<;>simp;exact h
theorem oS {j t:Nat}(h:st.gV d j=some t):¬kO st t/\kO (st.eX d) t/\∃d',d=some d'/\t=KE d' j/\j<4096:=by
 cases d with
 |none=>simp[AS.gV]at h
 |some d=>
  simp only[AS.gV]at h;cases hi:(nth st.iss d).getD true with
  |true=>rw[hi]at h;simp at h
  |false=>
   rw[hi]at h;simp only[ae]at h;cases hj:Nat.ble 4096 j with
   |true=>rw[hj]at h;simp at h
   |false=>
    rw[hj]at h;simp only[ae,aZ]at h;have hjl:j<4096:=by rcases bH j 4096 with hl|hg;exact hl;rw[gE hg]at hj;cases hj
    have hdiv:t/3/4096=d:=by rw[<-h,KE];omega
    have ahn:t%3=2:=by rw[<-h,KE];omega
    refine⟨?_,.inr ?_,d,rfl,h.symm,hjl⟩;rintro(h1|h1);exact h1 ahn;rw[hdiv,hi]at h1;cases h1;simp only[AS.eX,dv,eN,hdiv];rw[dv]at hi;have gM:d<st.iss.length:=by rcases bH d st.iss.length with hl|hg;exact hl;rw[br hg]at hi;simp at hi
    simp[gM]
theorem dr.OT (h:dr C g st a w hs)(d:ar Nat){v:Value}{av:AV}{fp:dy}{w':World}{hw':Nat->Nat}{hdr':Nat->Value}{st1:AS}(apB:st1.io=st.io)(hs1:st1.slots=st.slots)(Zn:st1.boxes=st.boxes)(he1:st1.ep=st.ep)(hi1:∀t,kO st t->kO st1 t/\hdr' t=g.hdr t)(gu:Fr (λb=>cX (g.dE b)) w w')(Br:∀b x,g.dE b=some x->¬cX (some x)->hw' b=g.hw b)(JK:∀b o u,o<g.hw b->w.cell? ⟨b,o,none⟩=some u->o<hw' b/\w'.cell? ⟨b,o,none⟩=some u)(hr:fA (cv C {g with hw:=hw',hdr:=hdr'} st1 w') v av fp)(hn:fp.Nodup)(B5:∀b∈fp,b<w'.heap.size/\(cX (g.dE b)\/w.heap.size<=b)): ∃g',dr C g' (st1.put d av) (a.put d v) w' []:=by
 have Xu:∀k b o u,C.A k b o->w.cell? ⟨b,o,none⟩=some u->w'.cell? ⟨b,o,none⟩=some u:=by
  intro k b o u hA hu;have hb:b<w.heap.size:=World.block_lt_of_cell? w _ hu;have Jm:¬cX (g.dE b):=by intro hh;cases hx:g.dE b with|none=>rw[hx]at hh;cases hh|some x=>exact h.Lf hx k o hA
  rw[World.cell?_of_block (a:=⟨b,o,none⟩) (gu.block b hb Jm)];exact hu
 have hkp:∀b x,g.dE b=some x->¬cX (some x)->w'.heap[b]?=w.heap[b]?:=λb x hx hh=>gu.block b (h.ff b x hx).1 (by rw[hx];exact hh);let aba:Nat->ar iO:=λb=>if b∈fp then d.map .slot else if cX (g.dE b) then none else g.dE b
 have IM:Fr C.M C.w0 w':=h.frame.trans gu (λb hb hh=>by cases hx:g.dE b with|none=>rw[hx]at hh;cases hh|some x=>rcases(h.ff b x hx).2 with h2|h2;omega;exact h2);have PI:∀s,fY st s->fY (st1.put d av) s:=by intro s hs;rw[Lx];simpa[fY,Zn]using hs
 have ahi:(cv C {g with hw:=hw',hdr:=hdr'} st1 w').Le (cv C ⟨hw',g.β,aba,hdr'⟩ (st1.put d av) w'):=by refine⟨rfl,λt ht=>⟨by show kO (st1.put d av) t;rw[J9];exact ht,rfl⟩,λ_ _ _ _ _ hu=>hu,?_,λs hs=>⟨by show fY (st1.put d av) s;rw[Lx];exact hs,rfl⟩,λ_ b o u ho hu=>⟨ho,hu⟩⟩;show st1.ep<=(st1.put d av).ep;rw[K2];exact bc _
 have hle:(cv C g st w).Le (cv C ⟨hw',g.β,aba,hdr'⟩ (st1.put d av) w'):=by refine⟨rfl,λt ht=>⟨by show kO (st1.put d av) t;rw[J9];exact(hi1 t ht).1,(hi1 t ht).2⟩,Xu,?_,λs hs=>⟨PI s hs,rfl⟩,λ_ b o u ho hu=>JK b o u ho hu⟩;show st.ep<=(st1.put d av).ep;rw[K2,he1];exact bc _
 have ahq:∀b x,g.dE b=some x->¬cX (some x)->b∉fp:=by intro b x hx hh hm;rcases(B5 b hm).2 with h2|h2;rw[hx]at h2;exact hh h2;have:=(h.ff b x hx).1;omega
 have aim:∀b x,g.dE b=some x->¬cX (some x)->aba b=some x:=by intro b x hx hh;show(if b∈fp then d.map iO.slot else if cX (g.dE b) then none else g.dE b)=some x;rw[aG (ahq b x hx hh),aG (by rw[hx];exact hh),hx]
 refine⟨⟨hw',g.β,aba,hdr'⟩,h.step (λx=>¬cX (some x)/\some x≠d.map .slot) hle (by rw[NC];exact h.defers) ?_ ?_ IM ?_ ?_ ?_ ?_ ?_ (.inl ⟨⟨by simp[fe],by cases d<;>simp⟩,by rw[Lc,apB]⟩)⟩;rw[VQ];cases d with|none=>show _=st1.slots.length;rw[hs1];exact h.size|some d=>rw[fz,bg,hs1];exact h.size
 rw[ki,Zn];cases d with|none=>show _=st1.slots.length;rw[hs1];exact h.bsize|some d=>rw[fz,bg,hs1];exact h.bsize
 intro b x hx;have zU:(if b∈fp then d.map iO.slot else if cX (g.dE b) then none else g.dE b)=some x:=hx;by_cases hm:b∈fp;refine⟨(B5 b hm).1,?_⟩;rcases(B5 b hm).2 with h2|h2;cases hy:g.dE b with|none=>rw[hy]at h2;cases h2|some y=>exact(h.ff b y hy).2
 exact .inl (bf h.frame.size h2);rw[aG hm]at zU;split at zU;cases zU;have:=h.ff b x zU;have hz:=gu.size;exact⟨by omega,this.2⟩;intro b x hk hx;exact⟨aim b x hx hk.1,hkp b x hx hk.1,Br b x hx hk.1⟩;intro i bv hi;cases d with
 |none=>
  have pV:st.slots[i]?=some bv:=by rw[<-hs1];exact hi
  exact .inl ⟨⟨by simp[fe],by simp⟩,pV,rfl⟩
 |some d=>
  have pV:(st.slots.set d av)[i]?=some bv:=by rw[<-hs1,<-fz];exact hi
  by_cases UJ:i=d;subst UJ;rw[bj]at pV;simp only[bF]at pV;split at pV;rename_i gM;simp at pV;subst pV;refine .inr ⟨fp,?_,hn,λb hb=>?_⟩;rw[KI];simp only[true_and,h.size,gM,bF];exact hr.mono ahi (λb _=>⟨rfl,rfl⟩);show(if b∈fp then _ else _)=_;rw[aH hb];rfl;cases pV;refine .inl ⟨⟨by simp[fe],by simpa using UJ⟩,?_,by rw[KI];simp[UJ]⟩;rwa[aS (cC UJ)]at pV
 intro s cs hb;have gA:st.boxes[s]?=some (some cs):=by rw[<-Zn,<-ki (d:=d) (v:=av)];exact hb
 exact .inl ⟨⟨by simp[fe],by cases d<;>simp⟩,gA,rfl⟩;intro k u bv hk;simp at hk
theorem dr.ae9 (h:dr C g st a w hs)(x:Operand):∃g',(g'.β=g.β/\g'.hw=g.hw/\g'.hdr=g.hdr/\∀b s,g.dE b=some (.box s)->g'.dE b=some (.box s))/\dr C g' (st.take x).2 a w (hs++[(a.eval x,(st.take x).1)]):=by
 have plain:∀y,(st.take y)=(st.rd y,st)->∃g',(g'.β=g.β/\g'.hw=g.hw/\g'.hdr=g.hdr/\∀b s,g.dE b=some (.box s)->g'.dE b=some (.box s))/\dr C g' (st.take y).2 a w (hs++[(a.eval y,(st.take y).1)]):=by
  intro y hy;rw[hy];refine⟨g,⟨rfl,rfl,rfl,λ_ _ hb=>hb⟩,h.defers,h.size,h.bsize,h.slots,h.boxes,λk v av hk=>?_,h.ff,h.frame,h.io⟩;rw[List.getElem?_append]at hk;split at hk;exact h.hands k v av hk;cases hm:k-hs.length with
  |zero=>rw[hm]at hk;simp at hk;obtain⟨rfl,rfl⟩:=hk;exact⟨[],h.rd y,by simp,by simp⟩
  |succ n=>rw[hm]at hk;simp at hk
 cases x with
 |const v=>exact plain _ rfl
 |func f=>exact plain _ rfl
 |global gl=>exact plain _ rfl
 |tmp t=>
  obtain⟨fp,hr,hn,hl⟩:=h.slot t;let st':AS:=st.put (some t) ((st.get t).aR st.ep);let g':Gh:={g with dE:=λb=>if b∈fp then some (.hand hs.length) else g.dE b}
  have hle:(cv C g st w).Le (cv C g' st' w):=by have:= @SV C g st w (some t) ((st.get t).aR st.ep);exact⟨this.A,this.hdr,this.T9,this.ep,this.Kh,this.abJ⟩
  have WG:∀b y,y≠ .slot t->g.dE b=some y->g'.dE b=some y:=by intro b y hy hb;show(if b∈fp then _ else _)=_;rw[aG (λhm=>hy (by have:=hl b hm;rw[hb]at this;simpa using this))];exact hb
  refine⟨g',⟨rfl,rfl,rfl,λb s hb=>WG b _ (by simp) hb⟩,?_⟩;show dr C g' st' a w (hs++[(a.tmps.getD t undef,st.get t)]);refine h.step (λy=>y≠ .slot t) hle h.defers (by show _=(st.put (some t) ((st.get t).aR st.ep)).slots.length;rw[fz,bg];exact h.size) (by show(st.put (some t) ((st.get t).aR st.ep)).boxes.length=(st.put (some t) ((st.get t).aR st.ep)).slots.length;rw[ki,fz,bg];exact h.bsize) h.frame ?_ (λb y hy hb=>⟨WG b y hy hb,rfl,rfl⟩) ?_ ?_ ?_ ?_;intro b y hb;have gA:(if b∈fp then some (iO.hand hs.length) else g.dE b)=some y:=hb;by_cases hm:b∈fp;exact h.ff b _ (hl b hm);rw[aG hm]at gA;exact h.ff b y gA;intro i bv hi;have pV:(st.slots.set t ((st.get t).aR st.ep))[i]?=some bv:=by rw[<-fz];exact hi
  by_cases UJ:i=t;subst UJ;rw[bj]at pV;simp only[bF]at pV;split at pV;simp at pV;subst pV;exact .inr ⟨[],(hr.aR).mono hle (by simp),by simp,by simp⟩;cases pV;rw[aS (cC UJ)]at pV;exact .inl ⟨by simpa using UJ,pV,rfl⟩;intro s cs hb;have gA:st.boxes[s]?=some (some cs):=by rw[<-ki (d:=some t) (v:=(st.get t).aR st.ep)];exact hb
  exact .inl ⟨by simp,gA,rfl⟩;intro k v av hk;rw[List.getElem?_append]at hk;split at hk;exact .inl ⟨by simp,hk⟩;rename_i gM;cases hm:k-hs.length with
  |zero=>
   have:k=hs.length:=by omega
   subst this;rw[hm]at hk;simp only[cm,aZ,Prod.mk.injEq]at hk;obtain⟨rfl,rfl⟩:=hk;refine .inr ⟨fp,hr.mono hle (λb _=>⟨rfl,rfl⟩),hn,λb hb=>?_⟩;show(if b∈fp then _ else _)=_;rw[aH hb]
  |succ n=>rw[hm]at hk;simp at hk
  exact .inl ⟨by simp,Lc⟩
theorem dr.take (h:dr C g st a w hs)(x:Operand):∃g',dr C g' (st.take x).2 a w (hs++[(a.eval x,(st.take x).1)]):=by obtain⟨g',_,h'⟩:=h.ae9 x;exact⟨g',h'⟩
end Go.Dn
