import Derived.Test.YthllnaiaikjelaaGreatDnSim
/- The ways in which a state goes on: a slot is written, an operand is taken over, memory grows. -/
namespace Go.Dn
open Go.RowKit
variable {C:Ctx} {g:Gh} {st:AS} {a:Act} {w:World} {hs:ar (Value×AV)}
variable {d:au Nat}
theorem aad (d:au Nat)(av:AV):(cO C g st w).Le (cO C g (st.put d av) w):=by refine⟨rfl,λt ht=>⟨by show nm (st.put d av) t;rw[Qf];exact ht,rfl⟩,λ_ _ _ _ _ hv=>hv,?_,λs hs=>⟨by show ic (st.put d av) s;rw[RU];exact hs,rfl⟩,λ_ b o u ho hu=>⟨ho,hu⟩⟩;show st.ep<=(st.put d av).ep;rw[Rf];exact ba _
theorem dM.quiet (h:dM C g st a w hs)(d:au Nat){v:Value}{av:AV}(hr:gi (cO C g st w) v av []): dM C g (st.put d av) (a.put d v) w hs:=by cases d with|none=>exact h|some d=>have hle:= @aad C g st w (some d) av;refine h.step (λx=>x≠ .slot d) hle (by rw[Uw];exact h.defers) (by rw[adv,gh,aL];exact h.size) (by rw[mm,gh,aL];exact h.bsize) h.frame h.fV (λb x _ hx=>⟨hx,rfl,rfl⟩) ?_ ?_ ?_ ?_;intro i bv hi;by_cases hid:i=d;subst hid;rw[gh,bt]at hi;simp only[cd]at hi;split at hi;rename_i iG;simp at hi;subst hi;refine .inr ⟨[],?_,by simp,by simp⟩;rw[QT];simp only[true_and,h.size,iG,cd];exact hr.mono hle (by simp);cases hi;refine .inl ⟨by simpa using hid,?_,by rw[QT];simp[hid]⟩;rwa[gh,aZ (cW hid)]at hi;intro s cs hb;rw[mm]at hb;exact .inl ⟨by simp,hb,rfl⟩;intro k u bv hk;exact .inl ⟨by simp,hk⟩;exact .inl ⟨by simp,rfl⟩
theorem F2 {w w':World}(hf:Fr (λ_=>False) w w'){b o:Nat}{v:Value}(h:w.cell? ⟨b,o,none⟩=some v):w'.cell? ⟨b,o,none⟩=some v:=by have hb:b<w.heap.size:=World.block_lt_of_cell? w _ h;rw[World.cell?_of_block (a:=⟨b,o,none⟩) (hf.block b hb (λm=>m))];exact h
theorem dM.grow (h:dM C g st a w hs){w':World}(hf:Fr (λ_=>False) w w'):dM C g st a w' hs:=by
 have hle:(cO C g st w).Le (cO C g st w'):=⟨rfl,λ_ ht=>⟨ht,rfl⟩,λ_ _ _ _ _ hv=>F2 hf hv,ba _,λ_ hs=>⟨hs,rfl⟩,λ_ b o u ho hu=>⟨ho,F2 hf hu⟩⟩
 refine h.step (λ_=>True) hle h.defers h.size h.bsize (h.frame.trans hf (λb _ m=>m.elim)) (λb x hx=>?_) (λb x _ hx=>⟨hx,hf.block b (h.fV b x hx).1 (λm=>m),rfl⟩) ?_ ?_ ?_ ?_;have hx:=h.fV b x hx;have:=hf.size;exact⟨by omega,hx.2⟩;exact λi av hi=> .inl ⟨bM,hi,rfl⟩;exact λs cs hb=> .inl ⟨bM,hb,rfl⟩;exact λk v av hk=> .inl ⟨bM,hk⟩;exact .inl ⟨bM,rfl⟩
theorem Fr.drew (M:Nat->Prop)(w:World):Fr M w w.drew:=⟨rfl,rfl,rfl,ba _,λ_ _ _=>rfl⟩
theorem Fr.alloc (M:Nat->Prop)(w:World)(o:Obj):Fr M w (w.alloc o):=⟨rfl,rfl,rfl,by simp,λb hb _=>heap_alloc_old w o b hb⟩
def fU:au kb->Bool
 |some (.hand _)=>true
 |_=>false
abbrev dm (x:au kb):Prop:=fU x=true
theorem Rz {v:AV}:(st.put d v).io=st.io:=by cases d<;>rfl
theorem Qe:(st.fQ d).io=st.io:=by cases d<;>rfl
theorem zN:(st.fQ d).slots=st.slots:=by cases d<;>rfl
theorem Hv:(st.fQ d).boxes=st.boxes:=by cases d<;>rfl
theorem Gm:(st.fQ d).ep=st.ep:=by cases d<;>rfl
theorem JS {t:Nat}(h:nm st t):nm (st.fQ d) t:=by cases d with|none=>exact h|some d=>rcases h with h|h;exact .inl h;refine .inr ?_;simp only[AS.fQ,dV,fD,bt]at h⊢;split;split<;>simp;exact h
theorem sU {j t:Nat}(h:st.iZ d j=some t):¬nm st t/\nm (st.fQ d) t/\∃d',d=some d'/\t=QO d' j/\j<4096:=by
 cases d with
 |none=>simp[AS.iZ]at h
 |some d=>
  simp only[AS.iZ]at h;cases hi:(nth st.iss d).getD true with
  |true=>rw[hi]at h;simp at h
  |false=>
   rw[hi]at h;simp only[ae]at h;cases hj:Nat.ble 4096 j with
   |true=>rw[hj]at h;simp at h
   |false=>
    rw[hj]at h;simp only[ae,bf]at h;have hjl:j<4096:=by rcases bS j 4096 with hl|hg;exact hl;rw[iI hg]at hj;cases hj
    have hdiv:t/3/4096=d:=by rw[<-h,QO];omega
    have aqa:t%3=2:=by rw[<-h,QO];omega
    refine⟨?_,.inr ?_,d,rfl,h.symm,hjl⟩;rintro(h1|h1);exact h1 aqa;rw[hdiv,hi]at h1;cases h1;simp only[AS.fQ,dV,fD,hdiv];rw[dV]at hi;have iG:d<st.iss.length:=by rcases bS d st.iss.length with hl|hg;exact hl;rw[bJ hg]at hi;simp at hi
    simp[iG]
theorem dM.VN (h:dM C g st a w hs)(d:au Nat){v:Value}{av:AV}{fp:ec}{w':World}{hw':Nat->Nat}{hdr':Nat->Value}{st1:AS}(azF:st1.io=st.io)(hs1:st1.slots=st.slots)(hb1:st1.boxes=st.boxes)(he1:st1.ep=st.ep)(hi1:∀t,nm st t->nm st1 t/\hdr' t=g.hdr t)(iw:Fr (λb=>dm (g.eo b)) w w')(Gz:∀b x,g.eo b=some x->¬dm (some x)->hw' b=g.hw b)(PL:∀b o u,o<g.hw b->w.cell? ⟨b,o,none⟩=some u->o<hw' b/\w'.cell? ⟨b,o,none⟩=some u)(hr:gi (cO C {g with hw:=hw',hdr:=hdr'} st1 w') v av fp)(hn:fp.Nodup)(Hp:∀b∈fp,b<w'.heap.size/\(dm (g.eo b)\/w.heap.size<=b)): ∃g',dM C g' (st1.put d av) (a.put d v) w' []:=by
 have hcA:∀k b o u,C.A k b o->w.cell? ⟨b,o,none⟩=some u->w'.cell? ⟨b,o,none⟩=some u:=by
  intro k b o u hA hu;have hb:b<w.heap.size:=World.block_lt_of_cell? w _ hu;have Pf:¬dm (g.eo b):=by intro hh;cases hx:g.eo b with|none=>rw[hx]at hh;cases hh|some x=>exact h.RB hx k o hA
  rw[World.cell?_of_block (a:=⟨b,o,none⟩) (iw.block b hb Pf)];exact hu
 have hkp:∀b x,g.eo b=some x->¬dm (some x)->w'.heap[b]?=w.heap[b]?:=λb x hx hh=>iw.block b (h.fV b x hx).1 (by rw[hx];exact hh);let ajl:Nat->au kb:=λb=>if b∈fp then d.map .slot else if dm (g.eo b) then none else g.eo b
 have OI:Fr C.M C.w0 w':=h.frame.trans iw (λb hb hh=>by cases hx:g.eo b with|none=>rw[hx]at hh;cases hh|some x=>rcases(h.fV b x hx).2 with h2|h2;omega;exact h2);have WH:∀s,ic st s->ic (st1.put d av) s:=by intro s hs;rw[RU];simpa[ic,hb1]using hs
 have ap5:(cO C {g with hw:=hw',hdr:=hdr'} st1 w').Le (cO C ⟨hw',g.β,ajl,hdr'⟩ (st1.put d av) w'):=by refine⟨rfl,λt ht=>⟨by show nm (st1.put d av) t;rw[Qf];exact ht,rfl⟩,λ_ _ _ _ _ hu=>hu,?_,λs hs=>⟨by show ic (st1.put d av) s;rw[RU];exact hs,rfl⟩,λ_ b o u ho hu=>⟨ho,hu⟩⟩;show st1.ep<=(st1.put d av).ep;rw[Rf];exact ba _
 have hle:(cO C g st w).Le (cO C ⟨hw',g.β,ajl,hdr'⟩ (st1.put d av) w'):=by refine⟨rfl,λt ht=>⟨by show nm (st1.put d av) t;rw[Qf];exact(hi1 t ht).1,(hi1 t ht).2⟩,hcA,?_,λs hs=>⟨WH s hs,rfl⟩,λ_ b o u ho hu=>PL b o u ho hu⟩;show st.ep<=(st1.put d av).ep;rw[Rf,he1];exact ba _
 have aqd:∀b x,g.eo b=some x->¬dm (some x)->b∉fp:=by intro b x hx hh hm;rcases(Hp b hm).2 with h2|h2;rw[hx]at h2;exact hh h2;have:=(h.fV b x hx).1;omega
 have are:∀b x,g.eo b=some x->¬dm (some x)->ajl b=some x:=by intro b x hx hh;show(if b∈fp then d.map kb.slot else if dm (g.eo b) then none else g.eo b)=some x;rw[aK (aqd b x hx hh),aK (by rw[hx];exact hh),hx]
 refine⟨⟨hw',g.β,ajl,hdr'⟩,h.step (λx=>¬dm (some x)/\some x≠d.map .slot) hle (by rw[Uw];exact h.defers) ?_ ?_ OI ?_ ?_ ?_ ?_ ?_ (.inl ⟨⟨by simp[fU],by cases d<;>simp⟩,by rw[Rz,azF]⟩)⟩;rw[adv];cases d with|none=>show _=st1.slots.length;rw[hs1];exact h.size|some d=>rw[gh,aL,hs1];exact h.size
 rw[mm,hb1];cases d with|none=>show _=st1.slots.length;rw[hs1];exact h.bsize|some d=>rw[gh,aL,hs1];exact h.bsize
 intro b x hx;have E2:(if b∈fp then d.map kb.slot else if dm (g.eo b) then none else g.eo b)=some x:=hx;by_cases hm:b∈fp;refine⟨(Hp b hm).1,?_⟩;rcases(Hp b hm).2 with h2|h2;cases hy:g.eo b with|none=>rw[hy]at h2;cases h2|some y=>exact(h.fV b y hy).2
 exact .inl (aF h.frame.size h2);rw[aK hm]at E2;split at E2;cases E2;have:=h.fV b x E2;have hz:=iw.size;exact⟨by omega,this.2⟩;intro b x hk hx;exact⟨are b x hx hk.1,hkp b x hx hk.1,Gz b x hx hk.1⟩;intro i bv hi;cases d with
 |none=>
  have uu:st.slots[i]?=some bv:=by rw[<-hs1];exact hi
  exact .inl ⟨⟨by simp[fU],by simp⟩,uu,rfl⟩
 |some d=>
  have uu:(st.slots.set d av)[i]?=some bv:=by rw[<-hs1,<-gh];exact hi
  by_cases hid:i=d;subst hid;rw[bt]at uu;simp only[cd]at uu;split at uu;rename_i iG;simp at uu;subst uu;refine .inr ⟨fp,?_,hn,λb hb=>?_⟩;rw[QT];simp only[true_and,h.size,iG,cd];exact hr.mono ap5 (λb _=>⟨rfl,rfl⟩);show(if b∈fp then _ else _)=_;rw[aM hb];rfl;cases uu;refine .inl ⟨⟨by simp[fU],by simpa using hid⟩,?_,by rw[QT];simp[hid]⟩;rwa[aZ (cW hid)]at uu
 intro s cs hb;have ib:st.boxes[s]?=some (some cs):=by rw[<-hb1,<-mm (d:=d) (v:=av)];exact hb
 exact .inl ⟨⟨by simp[fU],by cases d<;>simp⟩,ib,rfl⟩;intro k u bv hk;simp at hk
theorem dM.anJ (h:dM C g st a w hs)(x:Operand):∃g',(g'.β=g.β/\g'.hw=g.hw/\g'.hdr=g.hdr/\∀b s,g.eo b=some (.box s)->g'.eo b=some (.box s))/\dM C g' (st.take x).2 a w (hs++[(a.eval x,(st.take x).1)]):=by
 have plain:∀y,(st.take y)=(st.rd y,st)->∃g',(g'.β=g.β/\g'.hw=g.hw/\g'.hdr=g.hdr/\∀b s,g.eo b=some (.box s)->g'.eo b=some (.box s))/\dM C g' (st.take y).2 a w (hs++[(a.eval y,(st.take y).1)]):=by
  intro y hy;rw[hy];refine⟨g,⟨rfl,rfl,rfl,λ_ _ hb=>hb⟩,h.defers,h.size,h.bsize,h.slots,h.boxes,λk v av hk=>?_,h.fV,h.frame,h.io⟩;rw[List.getElem?_append]at hk;split at hk;exact h.hands k v av hk;cases hm:k-hs.length with
  |zero=>rw[hm]at hk;simp at hk;obtain⟨rfl,rfl⟩:=hk;exact⟨[],h.rd y,by simp,by simp⟩
  |succ n=>rw[hm]at hk;simp at hk
 cases x with
 |const v=>exact plain _ rfl
 |func f=>exact plain _ rfl
 |global gl=>exact plain _ rfl
 |tmp t=>
  obtain⟨fp,hr,hn,hl⟩:=h.slot t;let st':AS:=st.put (some t) ((st.get t).bc st.ep);let g':Gh:={g with eo:=λb=>if b∈fp then some (.hand hs.length) else g.eo b}
  have hle:(cO C g st w).Le (cO C g' st' w):=by have:= @aad C g st w (some t) ((st.get t).bc st.ep);exact⟨this.A,this.hdr,this.abm,this.ep,this.Qn,this.ajV⟩
  have hlk:∀b y,y≠ .slot t->g.eo b=some y->g'.eo b=some y:=by intro b y hy hb;show(if b∈fp then _ else _)=_;rw[aK (λhm=>hy (by have:=hl b hm;rw[hb]at this;simpa using this))];exact hb
  refine⟨g',⟨rfl,rfl,rfl,λb s hb=>hlk b _ (by simp) hb⟩,?_⟩;show dM C g' st' a w (hs++[(a.tmps.getD t undef,st.get t)]);refine h.step (λy=>y≠ .slot t) hle h.defers (by show _=(st.put (some t) ((st.get t).bc st.ep)).slots.length;rw[gh,aL];exact h.size) (by show(st.put (some t) ((st.get t).bc st.ep)).boxes.length=(st.put (some t) ((st.get t).bc st.ep)).slots.length;rw[mm,gh,aL];exact h.bsize) h.frame ?_ (λb y hy hb=>⟨hlk b y hy hb,rfl,rfl⟩) ?_ ?_ ?_ ?_;intro b y hb;have ib:(if b∈fp then some (kb.hand hs.length) else g.eo b)=some y:=hb;by_cases hm:b∈fp;exact h.fV b _ (hl b hm);rw[aK hm]at ib;exact h.fV b y ib;intro i bv hi;have uu:(st.slots.set t ((st.get t).bc st.ep))[i]?=some bv:=by rw[<-gh];exact hi
  by_cases hid:i=t;subst hid;rw[bt]at uu;simp only[cd]at uu;split at uu;simp at uu;subst uu;exact .inr ⟨[],(hr.bc).mono hle (by simp),by simp,by simp⟩;cases uu;rw[aZ (cW hid)]at uu;exact .inl ⟨by simpa using hid,uu,rfl⟩;intro s cs hb;have ib:st.boxes[s]?=some (some cs):=by rw[<-mm (d:=some t) (v:=(st.get t).bc st.ep)];exact hb
  exact .inl ⟨by simp,ib,rfl⟩;intro k v av hk;rw[List.getElem?_append]at hk;split at hk;exact .inl ⟨by simp,hk⟩;rename_i iG;cases hm:k-hs.length with
  |zero=>
   have:k=hs.length:=by omega
   subst this;rw[hm]at hk;simp only[cL,bf,Prod.mk.injEq]at hk;obtain⟨rfl,rfl⟩:=hk;refine .inr ⟨fp,hr.mono hle (λb _=>⟨rfl,rfl⟩),hn,λb hb=>?_⟩;show(if b∈fp then _ else _)=_;rw[aM hb]
  |succ n=>rw[hm]at hk;simp at hk
  exact .inl ⟨by simp,Rz⟩
theorem dM.take (h:dM C g st a w hs)(x:Operand):∃g',dM C g' (st.take x).2 a w (hs++[(a.eval x,(st.take x).1)]):=by obtain⟨g',_,h'⟩:=h.anJ x;exact⟨g',h'⟩
end Go.Dn
