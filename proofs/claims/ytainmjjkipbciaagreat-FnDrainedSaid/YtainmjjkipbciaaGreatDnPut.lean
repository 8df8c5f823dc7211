import Derived.Test.YtainmjjkipbciaaGreatDnSim
/- The ways in which a state goes on: a slot is written, an operand is taken over, memory grows. -/
namespace Go.Dn
open Go.RowKit
variable {C:Ctx} {g:Gh} {st:AS} {a:Act} {w:World} {hs:ax (Value×AV)}
variable {d:aB Nat}
theorem Oc (d:aB Nat)(av:AV):(cW C g st w).Le (cW C g (st.put d av) w):=by refine⟨rfl,λt ht=>⟨by show mn (st.put d av) t;rw[EI];exact ht,rfl⟩,λ_ _ _ _ _ hv=>hv,?_,λs hs=>⟨by show jf (st.put d av) s;rw[F7];exact hs,rfl⟩,λ_ b o u ho hu=>⟨ho,hu⟩⟩;show st.ep<=(st.put d av).ep;rw[Fz];exact aR _
theorem ew.quiet (h:ew C g st a w hs)(d:aB Nat){v:Value}{av:AV}(hr:gE (cW C g st w) v av []): ew C g (st.put d av) (a.put d v) w hs:=by cases d with|none=>exact h|some d=>have hle:= @Oc C g st w (some d) av;refine h.step (λx=>x≠ .slot d) hle (by rw[IQ];exact h.defers) (by rw[RJ,gk,az];exact h.size) (by rw[kx,gk,az];exact h.bsize) h.frame h.labs (λb x _ hx=>⟨hx,rfl,rfl⟩) ?_ ?_ ?_ ?_;intro i bv hi;by_cases hid:i=d;subst hid;rw[gk,bC]at hi;simp only[bU]at hi;split at hi;rename_i hlt;simp at hi;subst hi;refine .inr ⟨[],?_,by simp,by simp⟩;rw[Fg];simp only[true_and,h.size,hlt,bU];exact hr.mono hle (by simp);cases hi;refine .inl ⟨by simpa using hid,?_,by rw[Fg];simp[hid]⟩;rwa[gk,aF (cc hid)]at hi;intro s cs hb;rw[kx]at hb;exact .inl ⟨by simp,hb,rfl⟩;intro k u bv hk;exact .inl ⟨by simp,hk⟩;exact .inl ⟨by simp,rfl⟩
theorem xD {w w':World}(hf:Fr (λ_=>False) w w'){b o:Nat}{v:Value}(h:w.cell? ⟨b,o,none⟩=some v):w'.cell? ⟨b,o,none⟩=some v:=by have hb:b<w.heap.size:=World.block_lt_of_cell? w _ h;rw[World.cell?_of_block (a:=⟨b,o,none⟩) (hf.block b hb (λm=>m))];exact h
theorem ew.grow (h:ew C g st a w hs){w':World}(hf:Fr (λ_=>False) w w'):ew C g st a w' hs:=by
 have hle:(cW C g st w).Le (cW C g st w'):=⟨rfl,λ_ ht=>⟨ht,rfl⟩,λ_ _ _ _ _ hv=>xD hf hv,aR _,λ_ hs=>⟨hs,rfl⟩,λ_ b o u ho hu=>⟨ho,xD hf hu⟩⟩
 refine h.step (λ_=>True) hle h.defers h.size h.bsize (h.frame.trans hf (λb _ m=>m.elim)) (λb x hx=>?_) (λb x _ hx=>⟨hx,hf.block b (h.labs b x hx).1 (λm=>m),rfl⟩) ?_ ?_ ?_ ?_;have hx:=h.labs b x hx;have:=hf.size;exact⟨by omega,hx.2⟩;exact λi av hi=> .inl ⟨cC,hi,rfl⟩;exact λs cs hb=> .inl ⟨cC,hb,rfl⟩;exact λk v av hk=> .inl ⟨cC,hk⟩;exact .inl ⟨cC,rfl⟩
theorem Fr.drew (M:Nat->Prop)(w:World):Fr M w w.drew:=⟨rfl,rfl,rfl,aR _,λ_ _ _=>rfl⟩
theorem Fr.alloc (M:Nat->Prop)(w:World)(o:Obj):Fr M w (w.alloc o):=⟨rfl,rfl,rfl,by simp,λb hb _=>heap_alloc_old w o b hb⟩
def ki:aB jT->Bool
 |some (.hand _)=>true
 |_=>false
abbrev dV (x:aB jT):Prop:=ki x=true
theorem FL {v:AV}:(st.put d v).io=st.io:=by cases d<;>rfl
theorem EH:(st.fU d).io=st.io:=by cases d<;>rfl
theorem sW:(st.fU d).slots=st.slots:=by cases d<;>rfl
theorem yr:(st.fU d).boxes=st.boxes:=by cases d<;>rfl
theorem xP:(st.fU d).ep=st.ep:=by cases d<;>rfl
theorem As {t:Nat}(h:mn st t):mn (st.fU d) t:=by cases d with|none=>exact h|some d=>rcases h with h|h;exact .inl h;refine .inr ?_;simp only[AS.fU,dX,fT,bC]at h⊢;split;split<;>simp;exact h
theorem oP {j t:Nat}(h:st.iu d j=some t):¬mn st t/\mn (st.fU d) t/\∃d',d=some d'/\t=Fa d' j/\j<4096:=by
 cases d with
 |none=>simp[AS.iu]at h
 |some d=>
  simp only[AS.iu]at h;cases hi:(nth st.iss d).getD true with
  |true=>rw[hi]at h;simp at h
  |false=>
   rw[hi]at h;simp only[af]at h;cases hj:Nat.ble 4096 j with
   |true=>rw[hj]at h;simp at h
   |false=>
    rw[hj]at h;simp only[af,bj]at h;have hjl:j<4096:=by rcases ca j 4096 with hl|hg;exact hl;rw[hU hg]at hj;cases hj
    have hdiv:t/3/4096=d:=by rw[<-h,Fa];omega
    have hmod:t%3=2:=by rw[<-h,Fa];omega
    refine⟨?_,.inr ?_,d,rfl,h.symm,hjl⟩;rintro(h1|h1);exact h1 hmod;rw[hdiv,hi]at h1;cases h1;simp only[AS.fU,dX,fT,hdiv];rw[dX]at hi;have hlt:d<st.iss.length:=by rcases ca d st.iss.length with hl|hg;exact hl;rw[bH hg]at hi;simp at hi
    simp[hlt]
theorem ew.J7 (h:ew C g st a w hs)(d:aB Nat){v:Value}{av:AV}{fp:fF}{w':World}{hw':Nat->Nat}{hdr':Nat->Value}{st1:AS}(hio1:st1.io=st.io)(hs1:st1.slots=st.slots)(hb1:st1.boxes=st.boxes)(he1:st1.ep=st.ep)(hi1:∀t,mn st t->mn st1 t/\hdr' t=g.hdr t)(hfr:Fr (λb=>dV (g.lab b)) w w')(hhw:∀b x,g.lab b=some x->¬dV (some x)->hw' b=g.hw b)(hprot:∀b o u,o<g.hw b->w.cell? ⟨b,o,none⟩=some u->o<hw' b/\w'.cell? ⟨b,o,none⟩=some u)(hr:gE (cW C {g with hw:=hw',hdr:=hdr'} st1 w') v av fp)(hn:fp.Nodup)(hfp:∀b∈fp,b<w'.heap.size/\(dV (g.lab b)\/w.heap.size<=b)): ∃g',ew C g' (st1.put d av) (a.put d v) w' []:=by
 have hcA:∀k b o u,C.A k b o->w.cell? ⟨b,o,none⟩=some u->w'.cell? ⟨b,o,none⟩=some u:=by
  intro k b o u hA hu;have hb:b<w.heap.size:=World.block_lt_of_cell? w _ hu;have hnl:¬dV (g.lab b):=by intro hh;cases hx:g.lab b with|none=>rw[hx]at hh;cases hh|some x=>exact h.JD hx k o hA
  rw[World.cell?_of_block (a:=⟨b,o,none⟩) (hfr.block b hb hnl)];exact hu
 have hkp:∀b x,g.lab b=some x->¬dV (some x)->w'.heap[b]?=w.heap[b]?:=λb x hx hh=>hfr.block b (h.labs b x hx).1 (by rw[hx];exact hh);let lab':Nat->aB jT:=λb=>if b∈fp then d.map .slot else if dV (g.lab b) then none else g.lab b
 have hfrC:Fr C.M C.w0 w':=h.frame.trans hfr (λb hb hh=>by cases hx:g.lab b with|none=>rw[hx]at hh;cases hh|some x=>rcases(h.labs b x hx).2 with h2|h2;omega;exact h2);have hpr:∀s,jf st s->jf (st1.put d av) s:=by intro s hs;rw[F7];simpa[jf,hb1]using hs
 have hle1:(cW C {g with hw:=hw',hdr:=hdr'} st1 w').Le (cW C ⟨hw',g.β,lab',hdr'⟩ (st1.put d av) w'):=by refine⟨rfl,λt ht=>⟨by show mn (st1.put d av) t;rw[EI];exact ht,rfl⟩,λ_ _ _ _ _ hu=>hu,?_,λs hs=>⟨by show jf (st1.put d av) s;rw[F7];exact hs,rfl⟩,λ_ b o u ho hu=>⟨ho,hu⟩⟩;show st1.ep<=(st1.put d av).ep;rw[Fz];exact aR _
 have hle:(cW C g st w).Le (cW C ⟨hw',g.β,lab',hdr'⟩ (st1.put d av) w'):=by refine⟨rfl,λt ht=>⟨by show mn (st1.put d av) t;rw[EI];exact(hi1 t ht).1,(hi1 t ht).2⟩,hcA,?_,λs hs=>⟨hpr s hs,rfl⟩,λ_ b o u ho hu=>hprot b o u ho hu⟩;show st.ep<=(st1.put d av).ep;rw[Fz,he1];exact aR _
 have hnotin:∀b x,g.lab b=some x->¬dV (some x)->b∉fp:=by intro b x hx hh hm;rcases(hfp b hm).2 with h2|h2;rw[hx]at h2;exact hh h2;have:=(h.labs b x hx).1;omega
 have hlabk:∀b x,g.lab b=some x->¬dV (some x)->lab' b=some x:=by intro b x hx hh;show(if b∈fp then d.map jT.slot else if dV (g.lab b) then none else g.lab b)=some x;rw[aI (hnotin b x hx hh),aI (by rw[hx];exact hh),hx]
 refine⟨⟨hw',g.β,lab',hdr'⟩,h.step (λx=>¬dV (some x)/\some x≠d.map .slot) hle (by rw[IQ];exact h.defers) ?_ ?_ hfrC ?_ ?_ ?_ ?_ ?_ (.inl ⟨⟨by simp[ki],by cases d<;>simp⟩,by rw[FL,hio1]⟩)⟩;rw[RJ];cases d with|none=>show _=st1.slots.length;rw[hs1];exact h.size|some d=>rw[gk,az,hs1];exact h.size
 rw[kx,hb1];cases d with|none=>show _=st1.slots.length;rw[hs1];exact h.bsize|some d=>rw[gk,az,hs1];exact h.bsize
 intro b x hx;have hx':(if b∈fp then d.map jT.slot else if dV (g.lab b) then none else g.lab b)=some x:=hx;by_cases hm:b∈fp;refine⟨(hfp b hm).1,?_⟩;rcases(hfp b hm).2 with h2|h2;cases hy:g.lab b with|none=>rw[hy]at h2;cases h2|some y=>exact(h.labs b y hy).2
 exact .inl (bE h.frame.size h2);rw[aI hm]at hx';split at hx';cases hx';have:=h.labs b x hx';have hz:=hfr.size;exact⟨by omega,this.2⟩;intro b x hk hx;exact⟨hlabk b x hx hk.1,hkp b x hx hk.1,hhw b x hx hk.1⟩;intro i bv hi;cases d with
 |none=>
  have hi':st.slots[i]?=some bv:=by rw[<-hs1];exact hi
  exact .inl ⟨⟨by simp[ki],by simp⟩,hi',rfl⟩
 |some d=>
  have hi':(st.slots.set d av)[i]?=some bv:=by rw[<-hs1,<-gk];exact hi
  by_cases hid:i=d;subst hid;rw[bC]at hi';simp only[bU]at hi';split at hi';rename_i hlt;simp at hi';subst hi';refine .inr ⟨fp,?_,hn,λb hb=>?_⟩;rw[Fg];simp only[true_and,h.size,hlt,bU];exact hr.mono hle1 (λb _=>⟨rfl,rfl⟩);show(if b∈fp then _ else _)=_;rw[aH hb];rfl;cases hi';refine .inl ⟨⟨by simp[ki],by simpa using hid⟩,?_,by rw[Fg];simp[hid]⟩;rwa[aF (cc hid)]at hi'
 intro s cs hb;have hb':st.boxes[s]?=some (some cs):=by rw[<-hb1,<-kx (d:=d) (v:=av)];exact hb
 exact .inl ⟨⟨by simp[ki],by cases d<;>simp⟩,hb',rfl⟩;intro k u bv hk;simp at hk
theorem ew.abB (h:ew C g st a w hs)(x:Operand):∃g',(g'.β=g.β/\g'.hw=g.hw/\g'.hdr=g.hdr/\∀b s,g.lab b=some (.box s)->g'.lab b=some (.box s))/\ew C g' (st.take x).2 a w (hs++[(a.eval x,(st.take x).1)]):=by
 have plain:∀y,(st.take y)=(st.rd y,st)->∃g',(g'.β=g.β/\g'.hw=g.hw/\g'.hdr=g.hdr/\∀b s,g.lab b=some (.box s)->g'.lab b=some (.box s))/\ew C g' (st.take y).2 a w (hs++[(a.eval y,(st.take y).1)]):=by
  intro y hy;rw[hy];refine⟨g,⟨rfl,rfl,rfl,λ_ _ hb=>hb⟩,h.defers,h.size,h.bsize,h.slots,h.boxes,λk v av hk=>?_,h.labs,h.frame,h.io⟩;rw[List.getElem?_append]at hk;split at hk;exact h.hands k v av hk;cases hm:k-hs.length with
  |zero=>rw[hm]at hk;simp at hk;obtain⟨rfl,rfl⟩:=hk;exact⟨[],h.rd y,by simp,by simp⟩
  |succ n=>rw[hm]at hk;simp at hk
 cases x with
 |const v=>exact plain _ rfl
 |func f=>exact plain _ rfl
 |global gl=>exact plain _ rfl
 |tmp t=>
  obtain⟨fp,hr,hn,hl⟩:=h.slot t;let st':AS:=st.put (some t) ((st.get t).aV st.ep);let g':Gh:={g with lab:=λb=>if b∈fp then some (.hand hs.length) else g.lab b}
  have hle:(cW C g st w).Le (cW C g' st' w):=by have:= @Oc C g st w (some t) ((st.get t).aV st.ep);exact⟨this.A,this.hdr,this.cellA,this.ep,this.pres,this.prot⟩
  have hlk:∀b y,y≠ .slot t->g.lab b=some y->g'.lab b=some y:=by intro b y hy hb;show(if b∈fp then _ else _)=_;rw[aI (λhm=>hy (by have:=hl b hm;rw[hb]at this;simpa using this))];exact hb
  refine⟨g',⟨rfl,rfl,rfl,λb s hb=>hlk b _ (by simp) hb⟩,?_⟩;show ew C g' st' a w (hs++[(a.tmps.getD t undef,st.get t)]);refine h.step (λy=>y≠ .slot t) hle h.defers (by show _=(st.put (some t) ((st.get t).aV st.ep)).slots.length;rw[gk,az];exact h.size) (by show(st.put (some t) ((st.get t).aV st.ep)).boxes.length=(st.put (some t) ((st.get t).aV st.ep)).slots.length;rw[kx,gk,az];exact h.bsize) h.frame ?_ (λb y hy hb=>⟨hlk b y hy hb,rfl,rfl⟩) ?_ ?_ ?_ ?_;intro b y hb;have hb':(if b∈fp then some (jT.hand hs.length) else g.lab b)=some y:=hb;by_cases hm:b∈fp;exact h.labs b _ (hl b hm);rw[aI hm]at hb';exact h.labs b y hb';intro i bv hi;have hi':(st.slots.set t ((st.get t).aV st.ep))[i]?=some bv:=by rw[<-gk];exact hi
  by_cases hid:i=t;subst hid;rw[bC]at hi';simp only[bU]at hi';split at hi';simp at hi';subst hi';exact .inr ⟨[],(hr.aV).mono hle (by simp),by simp,by simp⟩;cases hi';rw[aF (cc hid)]at hi';exact .inl ⟨by simpa using hid,hi',rfl⟩;intro s cs hb;have hb':st.boxes[s]?=some (some cs):=by rw[<-kx (d:=some t) (v:=(st.get t).aV st.ep)];exact hb
  exact .inl ⟨by simp,hb',rfl⟩;intro k v av hk;rw[List.getElem?_append]at hk;split at hk;exact .inl ⟨by simp,hk⟩;rename_i hlt;cases hm:k-hs.length with
  |zero=>
   have:k=hs.length:=by omega
   subst this;rw[hm]at hk;simp only[cH,bj,Prod.mk.injEq]at hk;obtain⟨rfl,rfl⟩:=hk;refine .inr ⟨fp,hr.mono hle (λb _=>⟨rfl,rfl⟩),hn,λb hb=>?_⟩;show(if b∈fp then _ else _)=_;rw[aH hb]
  |succ n=>rw[hm]at hk;simp at hk
  exact .inl ⟨by simp,FL⟩
theorem ew.take (h:ew C g st a w hs)(x:Operand):∃g',ew C g' (st.take x).2 a w (hs++[(a.eval x,(st.take x).1)]):=by obtain⟨g',_,h'⟩:=h.abB x;exact⟨g',h'⟩
end Go.Dn
