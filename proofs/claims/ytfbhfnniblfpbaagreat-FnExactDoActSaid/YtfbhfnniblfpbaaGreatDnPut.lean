import Derived.Test.YtfbhfnniblfpbaaGreatDnSim
/- The ways in which a state goes on: a slot is written, an operand is taken over, memory grows. -/
namespace Go.Dn
open Go.RowKit
variable {C:Ctx} {g:Gh} {st:AS} {a:Act} {w:World} {hs:ar (Value×AV)}
variable {d:aw Nat}
theorem Tq (d:aw Nat)(av:AV):(cy C g st w).Le (cy C g (st.put d av) w):=by refine⟨rfl,λt ht=>⟨by show lI (st.put d av) t;rw[Kl];exact ht,rfl⟩,λ_ _ _ _ _ hv=>hv,?_,λs hs=>⟨by show gx (st.put d av) s;rw[LJ];exact hs,rfl⟩,λ_ b o u ho hu=>⟨ho,hu⟩⟩;show st.ep<=(st.put d av).ep;rw[Lc];exact aU _
theorem dw.quiet (h:dw C g st a w hs)(d:aw Nat){v:Value}{av:AV}(hr:fL (cy C g st w) v av []): dw C g (st.put d av) (a.put d v) w hs:=by cases d with|none=>exact h|some d=>have hle:= @Tq C g st w (some d) av;refine h.step (λx=>x≠ .slot d) hle (by rw[NX];exact h.defers) (by rw[Wp,fK,aH];exact h.size) (by rw[kO,fK,aH];exact h.bsize) h.frame h.fA (λb x _ hx=>⟨hx,rfl,rfl⟩) ?_ ?_ ?_ ?_;intro i bv hi;by_cases Vf:i=d;subst Vf;rw[fK,bk]at hi;simp only[bL]at hi;split at hi;rename_i gV;simp at hi;subst hi;refine .inr ⟨[],?_,by simp,by simp⟩;rw[KT];simp only[true_and,h.size,gV,bL];exact hr.mono hle (by simp);cases hi;refine .inl ⟨by simpa using Vf,?_,by rw[KT];simp[Vf]⟩;rwa[fK,aO (cG Vf)]at hi;intro s cs hb;rw[kO]at hb;exact .inl ⟨by simp,hb,rfl⟩;intro k u bv hk;exact .inl ⟨by simp,hk⟩;exact .inl ⟨by simp,rfl⟩
theorem BA {w w':World}(hf:Fr (λ_=>False) w w'){b o:Nat}{v:Value}(h:w.cell? ⟨b,o,none⟩=some v):w'.cell? ⟨b,o,none⟩=some v:=by have hb:b<w.heap.size:=World.block_lt_of_cell? w _ h;rw[World.cell?_of_block (a:=⟨b,o,none⟩) (hf.block b hb (λm=>m))];exact h
theorem dw.grow (h:dw C g st a w hs){w':World}(hf:Fr (λ_=>False) w w'):dw C g st a w' hs:=by
 have hle:(cy C g st w).Le (cy C g st w'):=⟨rfl,λ_ ht=>⟨ht,rfl⟩,λ_ _ _ _ _ hv=>BA hf hv,aU _,λ_ hs=>⟨hs,rfl⟩,λ_ b o u ho hu=>⟨ho,BA hf hu⟩⟩
 refine h.step (λ_=>True) hle h.defers h.size h.bsize (h.frame.trans hf (λb _ m=>m.elim)) (λb x hx=>?_) (λb x _ hx=>⟨hx,hf.block b (h.fA b x hx).1 (λm=>m),rfl⟩) ?_ ?_ ?_ ?_;have hx:=h.fA b x hx;have:=hf.size;exact⟨by omega,hx.2⟩;exact λi av hi=> .inl ⟨bV,hi,rfl⟩;exact λs cs hb=> .inl ⟨bV,hb,rfl⟩;exact λk v av hk=> .inl ⟨bV,hk⟩;exact .inl ⟨bV,rfl⟩
theorem Fr.drew (M:Nat->Prop)(w:World):Fr M w w.drew:=⟨rfl,rfl,rfl,aU _,λ_ _ _=>rfl⟩
theorem Fr.alloc (M:Nat->Prop)(w:World)(o:Obj):Fr M w (w.alloc o):=⟨rfl,rfl,rfl,by simp,λb hb _=>heap_alloc_old w o b hb⟩
def fz:aw jc->Bool
 |some (.hand _)=>true
 |_=>false
abbrev cX (x:aw jc):Prop:=fz x=true
theorem Lp {v:AV}:(st.put d v).io=st.io:=by cases d<;>rfl
theorem Kk:(st.fu d).io=st.io:=by cases d<;>rfl
theorem vJ:(st.fu d).slots=st.slots:=by cases d<;>rfl
theorem CX:(st.fu d).boxes=st.boxes:=by cases d<;>rfl
theorem BO:(st.fu d).ep=st.ep:=by cases d<;>rfl
theorem E3 {t:Nat}(h:lI st t):lI (st.fu d) t:=by cases d with|none=>exact h|some d=>rcases h with h|h;exact .inl h;refine .inr ?_;simp only[AS.fu,dA,eV,bk]at h⊢;split;split<;>simp;exact h
theorem pT {j t:Nat}(h:st.ik d j=some t):¬lI st t/\lI (st.fu d) t/\∃d',d=some d'/\t=KP d' j/\j<4096:=by
 cases d with
 |none=>simp[AS.ik]at h
 |some d=>
  simp only[AS.ik]at h;cases hi:(nth st.iss d).getD true with
  |true=>rw[hi]at h;simp at h
  |false=>
   rw[hi]at h;simp only[ae]at h;cases hj:Nat.ble 4096 j with
   |true=>rw[hj]at h;simp at h
   |false=>
    rw[hj]at h;simp only[ae,aZ]at h;have hjl:j<4096:=by rcases bQ j 4096 with hl|hg;exact hl;rw[gQ hg]at hj;cases hj
    have hdiv:t/3/4096=d:=by rw[<-h,KP];omega
    have ah3:t%3=2:=by rw[<-h,KP];omega
    refine⟨?_,.inr ?_,d,rfl,h.symm,hjl⟩;rintro(h1|h1);exact h1 ah3;rw[hdiv,hi]at h1;cases h1;simp only[AS.fu,dA,eV,hdiv];rw[dA]at hi;have gV:d<st.iss.length:=by rcases bQ d st.iss.length with hl|hg;exact hl;rw[bH hg]at hi;simp at hi
    simp[gV]
theorem dw.Pd (h:dw C g st a w hs)(d:aw Nat){v:Value}{av:AV}{fp:dV}{w':World}{hw':Nat->Nat}{hdr':Nat->Value}{st1:AS}(ap9:st1.io=st.io)(hs1:st1.slots=st.slots)(Z5:st1.boxes=st.boxes)(he1:st1.ep=st.ep)(hi1:∀t,lI st t->lI st1 t/\hdr' t=g.hdr t)(gM:Fr (λb=>cX (g.dJ b)) w w')(BX:∀b x,g.dJ b=some x->¬cX (some x)->hw' b=g.hw b)(JY:∀b o u,o<g.hw b->w.cell? ⟨b,o,none⟩=some u->o<hw' b/\w'.cell? ⟨b,o,none⟩=some u)(hr:fL (cy C {g with hw:=hw',hdr:=hdr'} st1 w') v av fp)(hn:fp.Nodup)(CP:∀b∈fp,b<w'.heap.size/\(cX (g.dJ b)\/w.heap.size<=b)): ∃g',dw C g' (st1.put d av) (a.put d v) w' []:=by
 have X0:∀k b o u,C.A k b o->w.cell? ⟨b,o,none⟩=some u->w'.cell? ⟨b,o,none⟩=some u:=by
  intro k b o u hA hu;have hb:b<w.heap.size:=World.block_lt_of_cell? w _ hu;have JD:¬cX (g.dJ b):=by intro hh;cases hx:g.dJ b with|none=>rw[hx]at hh;cases hh|some x=>exact h.Lr hx k o hA
  rw[World.cell?_of_block (a:=⟨b,o,none⟩) (gM.block b hb JD)];exact hu
 have hkp:∀b x,g.dJ b=some x->¬cX (some x)->w'.heap[b]?=w.heap[b]?:=λb x hx hh=>gM.block b (h.fA b x hx).1 (by rw[hx];exact hh);let abR:Nat->aw jc:=λb=>if b∈fp then d.map .slot else if cX (g.dJ b) then none else g.dJ b
 have Je:Fr C.M C.w0 w':=h.frame.trans gM (λb hb hh=>by cases hx:g.dJ b with|none=>rw[hx]at hh;cases hh|some x=>rcases(h.fA b x hx).2 with h2|h2;omega;exact h2);have P9:∀s,gx st s->gx (st1.put d av) s:=by intro s hs;rw[LJ];simpa[gx,Z5]using hs
 have ahY:(cy C {g with hw:=hw',hdr:=hdr'} st1 w').Le (cy C ⟨hw',g.β,abR,hdr'⟩ (st1.put d av) w'):=by refine⟨rfl,λt ht=>⟨by show lI (st1.put d av) t;rw[Kl];exact ht,rfl⟩,λ_ _ _ _ _ hu=>hu,?_,λs hs=>⟨by show gx (st1.put d av) s;rw[LJ];exact hs,rfl⟩,λ_ b o u ho hu=>⟨ho,hu⟩⟩;show st1.ep<=(st1.put d av).ep;rw[Lc];exact aU _
 have hle:(cy C g st w).Le (cy C ⟨hw',g.β,abR,hdr'⟩ (st1.put d av) w'):=by refine⟨rfl,λt ht=>⟨by show lI (st1.put d av) t;rw[Kl];exact(hi1 t ht).1,(hi1 t ht).2⟩,X0,?_,λs hs=>⟨P9 s hs,rfl⟩,λ_ b o u ho hu=>JY b o u ho hu⟩;show st.ep<=(st1.put d av).ep;rw[Lc,he1];exact aU _
 have ah6:∀b x,g.dJ b=some x->¬cX (some x)->b∉fp:=by intro b x hx hh hm;rcases(CP b hm).2 with h2|h2;rw[hx]at h2;exact hh h2;have:=(h.fA b x hx).1;omega
 have ai2:∀b x,g.dJ b=some x->¬cX (some x)->abR b=some x:=by intro b x hx hh;show(if b∈fp then d.map jc.slot else if cX (g.dJ b) then none else g.dJ b)=some x;rw[aF (ah6 b x hx hh),aF (by rw[hx];exact hh),hx]
 refine⟨⟨hw',g.β,abR,hdr'⟩,h.step (λx=>¬cX (some x)/\some x≠d.map .slot) hle (by rw[NX];exact h.defers) ?_ ?_ Je ?_ ?_ ?_ ?_ ?_ (.inl ⟨⟨by simp[fz],by cases d<;>simp⟩,by rw[Lp,ap9]⟩)⟩;rw[Wp];cases d with|none=>show _=st1.slots.length;rw[hs1];exact h.size|some d=>rw[fK,aH,hs1];exact h.size
 rw[kO,Z5];cases d with|none=>show _=st1.slots.length;rw[hs1];exact h.bsize|some d=>rw[fK,aH,hs1];exact h.bsize
 intro b x hx;have AJ:(if b∈fp then d.map jc.slot else if cX (g.dJ b) then none else g.dJ b)=some x:=hx;by_cases hm:b∈fp;refine⟨(CP b hm).1,?_⟩;rcases(CP b hm).2 with h2|h2;cases hy:g.dJ b with|none=>rw[hy]at h2;cases h2|some y=>exact(h.fA b y hy).2
 exact .inl (aE h.frame.size h2);rw[aF hm]at AJ;split at AJ;cases AJ;have:=h.fA b x AJ;have hz:=gM.size;exact⟨by omega,this.2⟩;intro b x hk hx;exact⟨ai2 b x hx hk.1,hkp b x hx hk.1,BX b x hx hk.1⟩;intro i bv hi;cases d with
 |none=>
  have rF:st.slots[i]?=some bv:=by rw[<-hs1];exact hi
  exact .inl ⟨⟨by simp[fz],by simp⟩,rF,rfl⟩
 |some d=>
  have rF:(st.slots.set d av)[i]?=some bv:=by rw[<-hs1,<-fK];exact hi
  by_cases Vf:i=d;subst Vf;rw[bk]at rF;simp only[bL]at rF;split at rF;rename_i gV;simp at rF;subst rF;refine .inr ⟨fp,?_,hn,λb hb=>?_⟩;rw[KT];simp only[true_and,h.size,gV,bL];exact hr.mono ahY (λb _=>⟨rfl,rfl⟩);show(if b∈fp then _ else _)=_;rw[aG hb];rfl;cases rF;refine .inl ⟨⟨by simp[fz],by simpa using Vf⟩,?_,by rw[KT];simp[Vf]⟩;rwa[aO (cG Vf)]at rF
 intro s cs hb;have gH:st.boxes[s]?=some (some cs):=by rw[<-Z5,<-kO (d:=d) (v:=av)];exact hb
 exact .inl ⟨⟨by simp[fz],by cases d<;>simp⟩,gH,rfl⟩;intro k u bv hk;simp at hk
theorem dw.afN (h:dw C g st a w hs)(x:Operand):∃g',(g'.β=g.β/\g'.hw=g.hw/\g'.hdr=g.hdr/\∀b s,g.dJ b=some (.box s)->g'.dJ b=some (.box s))/\dw C g' (st.take x).2 a w (hs++[(a.eval x,(st.take x).1)]):=by
 have plain:∀y,(st.take y)=(st.rd y,st)->∃g',(g'.β=g.β/\g'.hw=g.hw/\g'.hdr=g.hdr/\∀b s,g.dJ b=some (.box s)->g'.dJ b=some (.box s))/\dw C g' (st.take y).2 a w (hs++[(a.eval y,(st.take y).1)]):=by
  intro y hy;rw[hy];refine⟨g,⟨rfl,rfl,rfl,λ_ _ hb=>hb⟩,h.defers,h.size,h.bsize,h.slots,h.boxes,λk v av hk=>?_,h.fA,h.frame,h.io⟩;rw[List.getElem?_append]at hk;split at hk;exact h.hands k v av hk;cases hm:k-hs.length with
  |zero=>rw[hm]at hk;simp at hk;obtain⟨rfl,rfl⟩:=hk;exact⟨[],h.rd y,by simp,by simp⟩
  |succ n=>rw[hm]at hk;simp at hk
 cases x with
 |const v=>exact plain _ rfl
 |func f=>exact plain _ rfl
 |global gl=>exact plain _ rfl
 |tmp t=>
  obtain⟨fp,hr,hn,hl⟩:=h.slot t;let st':AS:=st.put (some t) ((st.get t).aR st.ep);let g':Gh:={g with dJ:=λb=>if b∈fp then some (.hand hs.length) else g.dJ b}
  have hle:(cy C g st w).Le (cy C g' st' w):=by have:= @Tq C g st w (some t) ((st.get t).aR st.ep);exact⟨this.A,this.hdr,this.UK,this.ep,this.Ku,this.acw⟩
  have Xc:∀b y,y≠ .slot t->g.dJ b=some y->g'.dJ b=some y:=by intro b y hy hb;show(if b∈fp then _ else _)=_;rw[aF (λhm=>hy (by have:=hl b hm;rw[hb]at this;simpa using this))];exact hb
  refine⟨g',⟨rfl,rfl,rfl,λb s hb=>Xc b _ (by simp) hb⟩,?_⟩;show dw C g' st' a w (hs++[(a.tmps.getD t undef,st.get t)]);refine h.step (λy=>y≠ .slot t) hle h.defers (by show _=(st.put (some t) ((st.get t).aR st.ep)).slots.length;rw[fK,aH];exact h.size) (by show(st.put (some t) ((st.get t).aR st.ep)).boxes.length=(st.put (some t) ((st.get t).aR st.ep)).slots.length;rw[kO,fK,aH];exact h.bsize) h.frame ?_ (λb y hy hb=>⟨Xc b y hy hb,rfl,rfl⟩) ?_ ?_ ?_ ?_;intro b y hb;have gH:(if b∈fp then some (jc.hand hs.length) else g.dJ b)=some y:=hb;by_cases hm:b∈fp;exact h.fA b _ (hl b hm);rw[aF hm]at gH;exact h.fA b y gH;intro i bv hi;have rF:(st.slots.set t ((st.get t).aR st.ep))[i]?=some bv:=by rw[<-fK];exact hi
  by_cases Vf:i=t;subst Vf;rw[bk]at rF;simp only[bL]at rF;split at rF;simp at rF;subst rF;exact .inr ⟨[],(hr.aR).mono hle (by simp),by simp,by simp⟩;cases rF;rw[aO (cG Vf)]at rF;exact .inl ⟨by simpa using Vf,rF,rfl⟩;intro s cs hb;have gH:st.boxes[s]?=some (some cs):=by rw[<-kO (d:=some t) (v:=(st.get t).aR st.ep)];exact hb
  exact .inl ⟨by simp,gH,rfl⟩;intro k v av hk;rw[List.getElem?_append]at hk;split at hk;exact .inl ⟨by simp,hk⟩;rename_i gV;cases hm:k-hs.length with
  |zero=>
   have:k=hs.length:=by omega
   subst this;rw[hm]at hk;simp only[cq,aZ,Prod.mk.injEq]at hk;obtain⟨rfl,rfl⟩:=hk;refine .inr ⟨fp,hr.mono hle (λb _=>⟨rfl,rfl⟩),hn,λb hb=>?_⟩;show(if b∈fp then _ else _)=_;rw[aG hb]
  |succ n=>rw[hm]at hk;simp at hk
  exact .inl ⟨by simp,Lp⟩
theorem dw.take (h:dw C g st a w hs)(x:Operand):∃g',dw C g' (st.take x).2 a w (hs++[(a.eval x,(st.take x).1)]):=by obtain⟨g',_,h'⟩:=h.afN x;exact⟨g',h'⟩
end Go.Dn
