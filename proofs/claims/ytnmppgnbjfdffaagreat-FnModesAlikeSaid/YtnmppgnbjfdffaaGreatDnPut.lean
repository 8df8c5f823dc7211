import Derived.Test.YtnmppgnbjfdffaaGreatDnSim
/- The ways in which a state goes on: a slot is written, an operand is taken over, memory grows. -/
namespace Go.Dn
open Go.RowKit
variable {C:Ctx} {g:Gh} {st:AS} {a:Act} {w:World} {hs:ay (Value×AV)}
variable {d:aC Nat}
theorem R1 (d:aC Nat)(av:AV):(dk C g st w).Le (dk C g (st.put d av) w):=by refine⟨rfl,λt ht=>⟨by show nq (st.put d av) t;rw[HL];exact ht,rfl⟩,λ_ _ _ _ _ hv=>hv,?_,λs hs=>⟨by show jO (st.put d av) s;rw[Jr];exact hs,rfl⟩,λ_ b o u ho hu=>⟨ho,hu⟩⟩;show st.ep<=(st.put d av).ep;rw[IP];exact aV _
theorem eK.quiet (h:eK C g st a w hs)(d:aC Nat){v:Value}{av:AV}(hr:gW (dk C g st w) v av []): eK C g (st.put d av) (a.put d v) w hs:=by cases d with|none=>exact h|some d=>have hle:= @R1 C g st w (some d) av;refine h.step (λx=>x≠ .slot d) hle (by rw[LZ];exact h.defers) (by rw[Vr,gE,aK];exact h.size) (by rw[lr,gE,aK];exact h.bsize) h.frame h.gY (λb x _ hx=>⟨hx,rfl,rfl⟩) ?_ ?_ ?_ ?_;intro i bv hi;by_cases TV:i=d;subst TV;rw[gE,bH]at hi;simp only[cc]at hi;split at hi;rename_i ir;simp at hi;subst hi;refine .inr ⟨[],?_,by simp,by simp⟩;rw[Is];simp only[true_and,h.size,ir,cc];exact hr.mono hle (by simp);cases hi;refine .inl ⟨by simpa using TV,?_,by rw[Is];simp[TV]⟩;rwa[gE,aJ (cr TV)]at hi;intro s cs hb;rw[lr]at hb;exact .inl ⟨by simp,hb,rfl⟩;intro k u bv hk;exact .inl ⟨by simp,hk⟩;exact .inl ⟨by simp,rfl⟩
theorem zF {w w':World}(hf:Fr (λ_=>False) w w'){b o:Nat}{v:Value}(h:w.cell? ⟨b,o,none⟩=some v):w'.cell? ⟨b,o,none⟩=some v:=by have hb:b<w.heap.size:=World.block_lt_of_cell? w _ h;rw[World.cell?_of_block (a:=⟨b,o,none⟩) (hf.block b hb (λm=>m))];exact h
theorem eK.grow (h:eK C g st a w hs){w':World}(hf:Fr (λ_=>False) w w'):eK C g st a w' hs:=by
 have hle:(dk C g st w).Le (dk C g st w'):=⟨rfl,λ_ ht=>⟨ht,rfl⟩,λ_ _ _ _ _ hv=>zF hf hv,aV _,λ_ hs=>⟨hs,rfl⟩,λ_ b o u ho hu=>⟨ho,zF hf hu⟩⟩
 refine h.step (λ_=>True) hle h.defers h.size h.bsize (h.frame.trans hf (λb _ m=>m.elim)) (λb x hx=>?_) (λb x _ hx=>⟨hx,hf.block b (h.gY b x hx).1 (λm=>m),rfl⟩) ?_ ?_ ?_ ?_;have hx:=h.gY b x hx;have:=hf.size;exact⟨by omega,hx.2⟩;exact λi av hi=> .inl ⟨dq,hi,rfl⟩;exact λs cs hb=> .inl ⟨dq,hb,rfl⟩;exact λk v av hk=> .inl ⟨dq,hk⟩;exact .inl ⟨dq,rfl⟩
theorem Fr.drew (M:Nat->Prop)(w:World):Fr M w w.drew:=⟨rfl,rfl,rfl,aV _,λ_ _ _=>rfl⟩
theorem Fr.alloc (M:Nat->Prop)(w:World)(o:Obj):Fr M w (w.alloc o):=⟨rfl,rfl,rfl,by simp,λb hb _=>heap_alloc_old w o b hb⟩
def kW:aC kI->Bool
 |some (.hand _)=>true
 |_=>false
abbrev eE (x:aC kI):Prop:=kW x=true
theorem I6 {v:AV}:(st.put d v).io=st.io:=by cases d<;>rfl
theorem HJ:(st.gv d).io=st.io:=by cases d<;>rfl
theorem uC:(st.gv d).slots=st.slots:=by cases d<;>rfl
theorem AN:(st.gv d).boxes=st.boxes:=by cases d<;>rfl
theorem zS:(st.gv d).ep=st.ep:=by cases d<;>rfl
theorem CU {t:Nat}(h:nq st t):nq (st.gv d) t:=by cases d with|none=>exact h|some d=>rcases h with h|h;exact .inl h;refine .inr ?_;simp only[AS.gv,eH,gr,bH]at h⊢;split;split<;>simp;exact h
theorem pX {j t:Nat}(h:st.je d j=some t):¬nq st t/\nq (st.gv d) t/\∃d',d=some d'/\t=Im d' j/\j<4096:=by
 cases d with
 |none=>simp[AS.je]at h
 |some d=>
  simp only[AS.je]at h;cases hi:(nth st.iss d).getD true with
  |true=>rw[hi]at h;simp at h
  |false=>
   rw[hi]at h;simp only[af]at h;cases hj:Nat.ble 4096 j with
   |true=>rw[hj]at h;simp at h
   |false=>
    rw[hj]at h;simp only[af,bu]at h;have hjl:j<4096:=by rcases bW j 4096 with hl|hg;exact hl;rw[iK hg]at hj;cases hj
    have hdiv:t/3/4096=d:=by rw[<-h,Im];omega
    have ajm:t%3=2:=by rw[<-h,Im];omega
    refine⟨?_,.inr ?_,d,rfl,h.symm,hjl⟩;rintro(h1|h1);exact h1 ajm;rw[hdiv,hi]at h1;cases h1;simp only[AS.gv,eH,gr,hdiv];rw[eH]at hi;have ir:d<st.iss.length:=by rcases bW d st.iss.length with hl|hg;exact hl;rw[bM hg]at hi;simp at hi
    simp[ir]
theorem eK.Np (h:eK C g st a w hs)(d:aC Nat){v:Value}{av:AV}{fp:fR}{w':World}{hw':Nat->Nat}{hdr':Nat->Value}{st1:AS}(apw:st1.io=st.io)(hs1:st1.slots=st.slots)(hb1:st1.boxes=st.boxes)(he1:st1.ep=st.ep)(hi1:∀t,nq st t->nq st1 t/\hdr' t=g.hdr t)(jQ:Fr (λb=>eE (g.fe b)) w w')(Fb:∀b x,g.fe b=some x->¬eE (some x)->hw' b=g.hw b)(Hn:∀b o u,o<g.hw b->w.cell? ⟨b,o,none⟩=some u->o<hw' b/\w'.cell? ⟨b,o,none⟩=some u)(hr:gW (dk C {g with hw:=hw',hdr:=hdr'} st1 w') v av fp)(hn:fp.Nodup)(Dw:∀b∈fp,b<w'.heap.size/\(eE (g.fe b)\/w.heap.size<=b)): ∃g',eK C g' (st1.put d av) (a.put d v) w' []:=by
 have hcA:∀k b o u,C.A k b o->w.cell? ⟨b,o,none⟩=some u->w'.cell? ⟨b,o,none⟩=some u:=by
  intro k b o u hA hu;have hb:b<w.heap.size:=World.block_lt_of_cell? w _ hu;have J8:¬eE (g.fe b):=by intro hh;cases hx:g.fe b with|none=>rw[hx]at hh;cases hh|some x=>exact h.MU hx k o hA
  rw[World.cell?_of_block (a:=⟨b,o,none⟩) (jQ.block b hb J8)];exact hu
 have hkp:∀b x,g.fe b=some x->¬eE (some x)->w'.heap[b]?=w.heap[b]?:=λb x hx hh=>jQ.block b (h.gY b x hx).1 (by rw[hx];exact hh);let abn:Nat->aC kI:=λb=>if b∈fp then d.map .slot else if eE (g.fe b) then none else g.fe b
 have RK:Fr C.M C.w0 w':=h.frame.trans jQ (λb hb hh=>by cases hx:g.fe b with|none=>rw[hx]at hh;cases hh|some x=>rcases(h.gY b x hx).2 with h2|h2;omega;exact h2);have hpr:∀s,jO st s->jO (st1.put d av) s:=by intro s hs;rw[Jr];simpa[jO,hb1]using hs
 have ajh:(dk C {g with hw:=hw',hdr:=hdr'} st1 w').Le (dk C ⟨hw',g.β,abn,hdr'⟩ (st1.put d av) w'):=by refine⟨rfl,λt ht=>⟨by show nq (st1.put d av) t;rw[HL];exact ht,rfl⟩,λ_ _ _ _ _ hu=>hu,?_,λs hs=>⟨by show jO (st1.put d av) s;rw[Jr];exact hs,rfl⟩,λ_ b o u ho hu=>⟨ho,hu⟩⟩;show st1.ep<=(st1.put d av).ep;rw[IP];exact aV _
 have hle:(dk C g st w).Le (dk C ⟨hw',g.β,abn,hdr'⟩ (st1.put d av) w'):=by refine⟨rfl,λt ht=>⟨by show nq (st1.put d av) t;rw[HL];exact(hi1 t ht).1,(hi1 t ht).2⟩,hcA,?_,λs hs=>⟨hpr s hs,rfl⟩,λ_ b o u ho hu=>Hn b o u ho hu⟩;show st.ep<=(st1.put d av).ep;rw[IP,he1];exact aV _
 have ajq:∀b x,g.fe b=some x->¬eE (some x)->b∉fp:=by intro b x hx hh hm;rcases(Dw b hm).2 with h2|h2;rw[hx]at h2;exact hh h2;have:=(h.gY b x hx).1;omega
 have ale:∀b x,g.fe b=some x->¬eE (some x)->abn b=some x:=by intro b x hx hh;show(if b∈fp then d.map kI.slot else if eE (g.fe b) then none else g.fe b)=some x;rw[aH (ajq b x hx hh),aH (by rw[hx];exact hh),hx]
 refine⟨⟨hw',g.β,abn,hdr'⟩,h.step (λx=>¬eE (some x)/\some x≠d.map .slot) hle (by rw[LZ];exact h.defers) ?_ ?_ RK ?_ ?_ ?_ ?_ ?_ (.inl ⟨⟨by simp[kW],by cases d<;>simp⟩,by rw[I6,apw]⟩)⟩;rw[Vr];cases d with|none=>show _=st1.slots.length;rw[hs1];exact h.size|some d=>rw[gE,aK,hs1];exact h.size
 rw[lr,hb1];cases d with|none=>show _=st1.slots.length;rw[hs1];exact h.bsize|some d=>rw[gE,aK,hs1];exact h.bsize
 intro b x hx;have AG:(if b∈fp then d.map kI.slot else if eE (g.fe b) then none else g.fe b)=some x:=hx;by_cases hm:b∈fp;refine⟨(Dw b hm).1,?_⟩;rcases(Dw b hm).2 with h2|h2;cases hy:g.fe b with|none=>rw[hy]at h2;cases h2|some y=>exact(h.gY b y hy).2
 exact .inl (bT h.frame.size h2);rw[aH hm]at AG;split at AG;cases AG;have:=h.gY b x AG;have hz:=jQ.size;exact⟨by omega,this.2⟩;intro b x hk hx;exact⟨ale b x hx hk.1,hkp b x hx hk.1,Fb b x hx hk.1⟩;intro i bv hi;cases d with
 |none=>
  have wk:st.slots[i]?=some bv:=by rw[<-hs1];exact hi
  exact .inl ⟨⟨by simp[kW],by simp⟩,wk,rfl⟩
 |some d=>
  have wk:(st.slots.set d av)[i]?=some bv:=by rw[<-hs1,<-gE];exact hi
  by_cases TV:i=d;subst TV;rw[bH]at wk;simp only[cc]at wk;split at wk;rename_i ir;simp at wk;subst wk;refine .inr ⟨fp,?_,hn,λb hb=>?_⟩;rw[Is];simp only[true_and,h.size,ir,cc];exact hr.mono ajh (λb _=>⟨rfl,rfl⟩);show(if b∈fp then _ else _)=_;rw[aF hb];rfl;cases wk;refine .inl ⟨⟨by simp[kW],by simpa using TV⟩,?_,by rw[Is];simp[TV]⟩;rwa[aJ (cr TV)]at wk
 intro s cs hb;have im:st.boxes[s]?=some (some cs):=by rw[<-hb1,<-lr (d:=d) (v:=av)];exact hb
 exact .inl ⟨⟨by simp[kW],by cases d<;>simp⟩,im,rfl⟩;intro k u bv hk;simp at hk
theorem eK.af5 (h:eK C g st a w hs)(x:Operand):∃g',(g'.β=g.β/\g'.hw=g.hw/\g'.hdr=g.hdr/\∀b s,g.fe b=some (.box s)->g'.fe b=some (.box s))/\eK C g' (st.take x).2 a w (hs++[(a.eval x,(st.take x).1)]):=by
 have plain:∀y,(st.take y)=(st.rd y,st)->∃g',(g'.β=g.β/\g'.hw=g.hw/\g'.hdr=g.hdr/\∀b s,g.fe b=some (.box s)->g'.fe b=some (.box s))/\eK C g' (st.take y).2 a w (hs++[(a.eval y,(st.take y).1)]):=by
  intro y hy;rw[hy];refine⟨g,⟨rfl,rfl,rfl,λ_ _ hb=>hb⟩,h.defers,h.size,h.bsize,h.slots,h.boxes,λk v av hk=>?_,h.gY,h.frame,h.io⟩;rw[List.getElem?_append]at hk;split at hk;exact h.hands k v av hk;cases hm:k-hs.length with
  |zero=>rw[hm]at hk;simp at hk;obtain⟨rfl,rfl⟩:=hk;exact⟨[],h.rd y,by simp,by simp⟩
  |succ n=>rw[hm]at hk;simp at hk
 cases x with
 |const v=>exact plain _ rfl
 |func f=>exact plain _ rfl
 |global gl=>exact plain _ rfl
 |tmp t=>
  obtain⟨fp,hr,hn,hl⟩:=h.slot t;let bX:AS:=st.put (some t) ((st.get t).bf st.ep);let g':Gh:={g with fe:=λb=>if b∈fp then some (.hand hs.length) else g.fe b}
  have hle:(dk C g st w).Le (dk C g' bX w):=by have:= @R1 C g st w (some t) ((st.get t).bf st.ep);exact⟨this.A,this.hdr,this.Td,this.ep,this.H2,this.acb⟩
  have VX:∀b y,y≠ .slot t->g.fe b=some y->g'.fe b=some y:=by intro b y hy hb;show(if b∈fp then _ else _)=_;rw[aH (λhm=>hy (by have:=hl b hm;rw[hb]at this;simpa using this))];exact hb
  refine⟨g',⟨rfl,rfl,rfl,λb s hb=>VX b _ (by simp) hb⟩,?_⟩;show eK C g' bX a w (hs++[(a.tmps.getD t undef,st.get t)]);refine h.step (λy=>y≠ .slot t) hle h.defers (by show _=(st.put (some t) ((st.get t).bf st.ep)).slots.length;rw[gE,aK];exact h.size) (by show(st.put (some t) ((st.get t).bf st.ep)).boxes.length=(st.put (some t) ((st.get t).bf st.ep)).slots.length;rw[lr,gE,aK];exact h.bsize) h.frame ?_ (λb y hy hb=>⟨VX b y hy hb,rfl,rfl⟩) ?_ ?_ ?_ ?_;intro b y hb;have im:(if b∈fp then some (kI.hand hs.length) else g.fe b)=some y:=hb;by_cases hm:b∈fp;exact h.gY b _ (hl b hm);rw[aH hm]at im;exact h.gY b y im;intro i bv hi;have wk:(st.slots.set t ((st.get t).bf st.ep))[i]?=some bv:=by rw[<-gE];exact hi
  by_cases TV:i=t;subst TV;rw[bH]at wk;simp only[cc]at wk;split at wk;simp at wk;subst wk;exact .inr ⟨[],(hr.bf).mono hle (by simp),by simp,by simp⟩;cases wk;rw[aJ (cr TV)]at wk;exact .inl ⟨by simpa using TV,wk,rfl⟩;intro s cs hb;have im:st.boxes[s]?=some (some cs):=by rw[<-lr (d:=some t) (v:=(st.get t).bf st.ep)];exact hb
  exact .inl ⟨by simp,im,rfl⟩;intro k v av hk;rw[List.getElem?_append]at hk;split at hk;exact .inl ⟨by simp,hk⟩;rename_i ir;cases hm:k-hs.length with
  |zero=>
   have:k=hs.length:=by omega
   subst this;rw[hm]at hk;simp only[cM,bu,Prod.mk.injEq]at hk;obtain⟨rfl,rfl⟩:=hk;refine .inr ⟨fp,hr.mono hle (λb _=>⟨rfl,rfl⟩),hn,λb hb=>?_⟩;show(if b∈fp then _ else _)=_;rw[aF hb]
  |succ n=>rw[hm]at hk;simp at hk
  exact .inl ⟨by simp,I6⟩
theorem eK.take (h:eK C g st a w hs)(x:Operand):∃g',eK C g' (st.take x).2 a w (hs++[(a.eval x,(st.take x).1)]):=by obtain⟨g',_,h'⟩:=h.af5 x;exact⟨g',h'⟩
end Go.Dn
