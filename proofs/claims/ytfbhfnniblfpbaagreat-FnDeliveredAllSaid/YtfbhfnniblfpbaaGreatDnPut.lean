import Derived.Test.YtfbhfnniblfpbaaGreatDnSim
/- The ways in which a state goes on: a slot is written, an operand is taken over, memory grows. -/
namespace Go.Dn
open Go.RowKit
variable {C:Ctx} {g:Gh} {st:AS} {a:Act} {w:World} {hs:au (Value×AV)}
variable {d:ax Nat}
theorem SL (d:ax Nat)(av:AV):(cQ C g st w).Le (cQ C g (st.put d av) w):=by refine⟨rfl,λt ht=>⟨by show mX (st.put d av) t;rw[I9];exact ht,rfl⟩,λ_ _ _ _ _ hv=>hv,?_,λs hs=>⟨by show jm (st.put d av) s;rw[KK];exact hs,rfl⟩,λ_ b o u ho hu=>⟨ho,hu⟩⟩;show st.ep<=(st.put d av).ep;rw[Kf];exact aU _
theorem dN.quiet (h:dN C g st a w hs)(d:ax Nat){v:Value}{av:AV}(hr:fF (cQ C g st w) v av []): dN C g (st.put d av) (a.put d v) w hs:=by cases d with|none=>exact h|some d=>have hle:= @SL C g st w (some d) av;refine h.step (λx=>x≠ .slot d) hle (by rw[M5];exact h.defers) (by rw[VS,fD,aB];exact h.size) (by rw[kM,fD,aB];exact h.bsize) h.frame h.fR (λb x _ hx=>⟨hx,rfl,rfl⟩) ?_ ?_ ?_ ?_;intro i bv hi;by_cases Ux:i=d;subst Ux;rw[fD,br]at hi;simp only[cp]at hi;split at hi;rename_i gB;simp at hi;subst hi;refine .inr ⟨[],?_,by simp,by simp⟩;rw[JV];simp only[true_and,h.size,gB,cp];exact hr.mono hle (by simp);cases hi;refine .inl ⟨by simpa using Ux,?_,by rw[JV];simp[Ux]⟩;rwa[fD,aR (cY Ux)]at hi;intro s cs hb;rw[kM]at hb;exact .inl ⟨by simp,hb,rfl⟩;intro k u bv hk;exact .inl ⟨by simp,hk⟩;exact .inl ⟨by simp,rfl⟩
theorem Bf {w w':World}(hf:Fr (λ_=>False) w w'){b o:Nat}{v:Value}(h:w.cell? ⟨b,o,none⟩=some v):w'.cell? ⟨b,o,none⟩=some v:=by have hb:b<w.heap.size:=World.block_lt_of_cell? w _ h;rw[World.cell?_of_block (a:=⟨b,o,none⟩) (hf.block b hb (λm=>m))];exact h
theorem dN.grow (h:dN C g st a w hs){w':World}(hf:Fr (λ_=>False) w w'):dN C g st a w' hs:=by
 have hle:(cQ C g st w).Le (cQ C g st w'):=⟨rfl,λ_ ht=>⟨ht,rfl⟩,λ_ _ _ _ _ hv=>Bf hf hv,aU _,λ_ hs=>⟨hs,rfl⟩,λ_ b o u ho hu=>⟨ho,Bf hf hu⟩⟩
 refine h.step (λ_=>True) hle h.defers h.size h.bsize (h.frame.trans hf (λb _ m=>m.elim)) (λb x hx=>?_) (λb x _ hx=>⟨hx,hf.block b (h.fR b x hx).1 (λm=>m),rfl⟩) ?_ ?_ ?_ ?_;have hx:=h.fR b x hx;have:=hf.size;exact⟨by omega,hx.2⟩;exact λi av hi=> .inl ⟨cv,hi,rfl⟩;exact λs cs hb=> .inl ⟨cv,hb,rfl⟩;exact λk v av hk=> .inl ⟨cv,hk⟩;exact .inl ⟨cv,rfl⟩
theorem Fr.drew (M:Nat->Prop)(w:World):Fr M w w.drew:=⟨rfl,rfl,rfl,aU _,λ_ _ _=>rfl⟩
theorem Fr.alloc (M:Nat->Prop)(w:World)(o:Obj):Fr M w (w.alloc o):=⟨rfl,rfl,rfl,by simp,λb hb _=>heap_alloc_old w o b hb⟩
def kB:ax jI->Bool
 |some (.hand _)=>true
 |_=>false
abbrev dD (x:ax jI):Prop:=kB x=true
theorem Kt {v:AV}:(st.put d v).io=st.io:=by cases d<;>rfl
theorem I8:(st.fi d).io=st.io:=by cases d<;>rfl
theorem vC:(st.fi d).slots=st.slots:=by cases d<;>rfl
theorem Ca:(st.fi d).boxes=st.boxes:=by cases d<;>rfl
theorem Bs:(st.fi d).ep=st.ep:=by cases d<;>rfl
theorem D4 {t:Nat}(h:mX st t):mX (st.fi d) t:=by cases d with|none=>exact h|some d=>rcases h with h|h;exact .inl h;refine .inr ?_;simp only[AS.fi,dJ,fg,br]at h⊢;split;split<;>simp;exact h
theorem qj {j t:Nat}(h:st.gZ d j=some t):¬mX st t/\mX (st.fi d) t/\∃d',d=some d'/\t=JO d' j/\j<4096:=by
 cases d with
 |none=>simp[AS.gZ]at h
 |some d=>
  simp only[AS.gZ]at h;cases hi:(nth st.iss d).getD true with
  |true=>rw[hi]at h;simp at h
  |false=>
   rw[hi]at h;simp only[ae]at h;cases hj:Nat.ble 4096 j with
   |true=>rw[hj]at h;simp at h
   |false=>
    rw[hj]at h;simp only[ae,ba]at h;have hjl:j<4096:=by rcases bQ j 4096 with hl|hg;exact hl;rw[gG hg]at hj;cases hj
    have hdiv:t/3/4096=d:=by rw[<-h,JO];omega
    have ahi:t%3=2:=by rw[<-h,JO];omega
    refine⟨?_,.inr ?_,d,rfl,h.symm,hjl⟩;rintro(h1|h1);exact h1 ahi;rw[hdiv,hi]at h1;cases h1;simp only[AS.fi,dJ,fg,hdiv];rw[dJ]at hi;have gB:d<st.iss.length:=by rcases bQ d st.iss.length with hl|hg;exact hl;rw[bJ hg]at hi;simp at hi
    simp[gB]
theorem dN.On (h:dN C g st a w hs)(d:ax Nat){v:Value}{av:AV}{fp:eo}{w':World}{hw':Nat->Nat}{hdr':Nat->Value}{st1:AS}(aon:st1.io=st.io)(hs1:st1.slots=st.slots)(hb1:st1.boxes=st.boxes)(he1:st1.ep=st.ep)(hi1:∀t,mX st t->mX st1 t/\hdr' t=g.hdr t)(jz:Fr (λb=>dD (g.ej b)) w w')(Gs:∀b x,g.ej b=some x->¬dD (some x)->hw' b=g.hw b)(IK:∀b o u,o<g.hw b->w.cell? ⟨b,o,none⟩=some u->o<hw' b/\w'.cell? ⟨b,o,none⟩=some u)(hr:fF (cQ C {g with hw:=hw',hdr:=hdr'} st1 w') v av fp)(hn:fp.Nodup)(EI:∀b∈fp,b<w'.heap.size/\(dD (g.ej b)\/w.heap.size<=b)): ∃g',dN C g' (st1.put d av) (a.put d v) w' []:=by
 have hcA:∀k b o u,C.A k b o->w.cell? ⟨b,o,none⟩=some u->w'.cell? ⟨b,o,none⟩=some u:=by
  intro k b o u hA hu;have hb:b<w.heap.size:=World.block_lt_of_cell? w _ hu;have Lk:¬dD (g.ej b):=by intro hh;cases hx:g.ej b with|none=>rw[hx]at hh;cases hh|some x=>exact h.NY hx k o hA
  rw[World.cell?_of_block (a:=⟨b,o,none⟩) (jz.block b hb Lk)];exact hu
 have hkp:∀b x,g.ej b=some x->¬dD (some x)->w'.heap[b]?=w.heap[b]?:=λb x hx hh=>jz.block b (h.fR b x hx).1 (by rw[hx];exact hh);let aa8:Nat->ax jI:=λb=>if b∈fp then d.map .slot else if dD (g.ej b) then none else g.ej b
 have Sn:Fr C.M C.w0 w':=h.frame.trans jz (λb hb hh=>by cases hx:g.ej b with|none=>rw[hx]at hh;cases hh|some x=>rcases(h.fR b x hx).2 with h2|h2;omega;exact h2);have hpr:∀s,jm st s->jm (st1.put d av) s:=by intro s hs;rw[KK];simpa[jm,hb1]using hs
 have ahc:(cQ C {g with hw:=hw',hdr:=hdr'} st1 w').Le (cQ C ⟨hw',g.β,aa8,hdr'⟩ (st1.put d av) w'):=by refine⟨rfl,λt ht=>⟨by show mX (st1.put d av) t;rw[I9];exact ht,rfl⟩,λ_ _ _ _ _ hu=>hu,?_,λs hs=>⟨by show jm (st1.put d av) s;rw[KK];exact hs,rfl⟩,λ_ b o u ho hu=>⟨ho,hu⟩⟩;show st1.ep<=(st1.put d av).ep;rw[Kf];exact aU _
 have hle:(cQ C g st w).Le (cQ C ⟨hw',g.β,aa8,hdr'⟩ (st1.put d av) w'):=by refine⟨rfl,λt ht=>⟨by show mX (st1.put d av) t;rw[I9];exact(hi1 t ht).1,(hi1 t ht).2⟩,hcA,?_,λs hs=>⟨hpr s hs,rfl⟩,λ_ b o u ho hu=>IK b o u ho hu⟩;show st.ep<=(st1.put d av).ep;rw[Kf,he1];exact aU _
 have ahl:∀b x,g.ej b=some x->¬dD (some x)->b∉fp:=by intro b x hx hh hm;rcases(EI b hm).2 with h2|h2;rw[hx]at h2;exact hh h2;have:=(h.fR b x hx).1;omega
 have ait:∀b x,g.ej b=some x->¬dD (some x)->aa8 b=some x:=by intro b x hx hh;show(if b∈fp then d.map jI.slot else if dD (g.ej b) then none else g.ej b)=some x;rw[aH (ahl b x hx hh),aH (by rw[hx];exact hh),hx]
 refine⟨⟨hw',g.β,aa8,hdr'⟩,h.step (λx=>¬dD (some x)/\some x≠d.map .slot) hle (by rw[M5];exact h.defers) ?_ ?_ Sn ?_ ?_ ?_ ?_ ?_ (.inl ⟨⟨by simp[kB],by cases d<;>simp⟩,by rw[Kt,aon]⟩)⟩;rw[VS];cases d with|none=>show _=st1.slots.length;rw[hs1];exact h.size|some d=>rw[fD,aB,hs1];exact h.size
 rw[kM,hb1];cases d with|none=>show _=st1.slots.length;rw[hs1];exact h.bsize|some d=>rw[fD,aB,hs1];exact h.bsize
 intro b x hx;have B7:(if b∈fp then d.map jI.slot else if dD (g.ej b) then none else g.ej b)=some x:=hx;by_cases hm:b∈fp;refine⟨(EI b hm).1,?_⟩;rcases(EI b hm).2 with h2|h2;cases hy:g.ej b with|none=>rw[hy]at h2;cases h2|some y=>exact(h.fR b y hy).2
 exact .inl (aP h.frame.size h2);rw[aH hm]at B7;split at B7;cases B7;have:=h.fR b x B7;have hz:=jz.size;exact⟨by omega,this.2⟩;intro b x hk hx;exact⟨ait b x hx hk.1,hkp b x hx hk.1,Gs b x hx hk.1⟩;intro i bv hi;cases d with
 |none=>
  have vR:st.slots[i]?=some bv:=by rw[<-hs1];exact hi
  exact .inl ⟨⟨by simp[kB],by simp⟩,vR,rfl⟩
 |some d=>
  have vR:(st.slots.set d av)[i]?=some bv:=by rw[<-hs1,<-fD];exact hi
  by_cases Ux:i=d;subst Ux;rw[br]at vR;simp only[cp]at vR;split at vR;rename_i gB;simp at vR;subst vR;refine .inr ⟨fp,?_,hn,λb hb=>?_⟩;rw[JV];simp only[true_and,h.size,gB,cp];exact hr.mono ahc (λb _=>⟨rfl,rfl⟩);show(if b∈fp then _ else _)=_;rw[aF hb];rfl;cases vR;refine .inl ⟨⟨by simp[kB],by simpa using Ux⟩,?_,by rw[JV];simp[Ux]⟩;rwa[aR (cY Ux)]at vR
 intro s cs hb;have gQ:st.boxes[s]?=some (some cs):=by rw[<-hb1,<-kM (d:=d) (v:=av)];exact hb
 exact .inl ⟨⟨by simp[kB],by cases d<;>simp⟩,gQ,rfl⟩;intro k u bv hk;simp at hk
theorem dN.aeT (h:dN C g st a w hs)(x:Operand):∃g',(g'.β=g.β/\g'.hw=g.hw/\g'.hdr=g.hdr/\∀b s,g.ej b=some (.box s)->g'.ej b=some (.box s))/\dN C g' (st.take x).2 a w (hs++[(a.eval x,(st.take x).1)]):=by
 have plain:∀y,(st.take y)=(st.rd y,st)->∃g',(g'.β=g.β/\g'.hw=g.hw/\g'.hdr=g.hdr/\∀b s,g.ej b=some (.box s)->g'.ej b=some (.box s))/\dN C g' (st.take y).2 a w (hs++[(a.eval y,(st.take y).1)]):=by
  intro y hy;rw[hy];refine⟨g,⟨rfl,rfl,rfl,λ_ _ hb=>hb⟩,h.defers,h.size,h.bsize,h.slots,h.boxes,λk v av hk=>?_,h.fR,h.frame,h.io⟩;rw[List.getElem?_append]at hk;split at hk;exact h.hands k v av hk;cases hm:k-hs.length with
  |zero=>rw[hm]at hk;simp at hk;obtain⟨rfl,rfl⟩:=hk;exact⟨[],h.rd y,by simp,by simp⟩
  |succ n=>rw[hm]at hk;simp at hk
 cases x with
 |const v=>exact plain _ rfl
 |func f=>exact plain _ rfl
 |global gl=>exact plain _ rfl
 |tmp t=>
  obtain⟨fp,hr,hn,hl⟩:=h.slot t;let bM:AS:=st.put (some t) ((st.get t).aS st.ep);let g':Gh:={g with ej:=λb=>if b∈fp then some (.hand hs.length) else g.ej b}
  have hle:(cQ C g st w).Le (cQ C g' bM w):=by have:= @SL C g st w (some t) ((st.get t).aS st.ep);exact⟨this.A,this.hdr,this.TZ,this.ep,this.Jm,this.abO⟩
  have Wy:∀b y,y≠ .slot t->g.ej b=some y->g'.ej b=some y:=by intro b y hy hb;show(if b∈fp then _ else _)=_;rw[aH (λhm=>hy (by have:=hl b hm;rw[hb]at this;simpa using this))];exact hb
  refine⟨g',⟨rfl,rfl,rfl,λb s hb=>Wy b _ (by simp) hb⟩,?_⟩;show dN C g' bM a w (hs++[(a.tmps.getD t undef,st.get t)]);refine h.step (λy=>y≠ .slot t) hle h.defers (by show _=(st.put (some t) ((st.get t).aS st.ep)).slots.length;rw[fD,aB];exact h.size) (by show(st.put (some t) ((st.get t).aS st.ep)).boxes.length=(st.put (some t) ((st.get t).aS st.ep)).slots.length;rw[kM,fD,aB];exact h.bsize) h.frame ?_ (λb y hy hb=>⟨Wy b y hy hb,rfl,rfl⟩) ?_ ?_ ?_ ?_;intro b y hb;have gQ:(if b∈fp then some (jI.hand hs.length) else g.ej b)=some y:=hb;by_cases hm:b∈fp;exact h.fR b _ (hl b hm);rw[aH hm]at gQ;exact h.fR b y gQ;intro i bv hi;have vR:(st.slots.set t ((st.get t).aS st.ep))[i]?=some bv:=by rw[<-fD];exact hi
  by_cases Ux:i=t;subst Ux;rw[br]at vR;simp only[cp]at vR;split at vR;simp at vR;subst vR;exact .inr ⟨[],(hr.aS).mono hle (by simp),by simp,by simp⟩;cases vR;rw[aR (cY Ux)]at vR;exact .inl ⟨by simpa using Ux,vR,rfl⟩;intro s cs hb;have gQ:st.boxes[s]?=some (some cs):=by rw[<-kM (d:=some t) (v:=(st.get t).aS st.ep)];exact hb
  exact .inl ⟨by simp,gQ,rfl⟩;intro k v av hk;rw[List.getElem?_append]at hk;split at hk;exact .inl ⟨by simp,hk⟩;rename_i gB;cases hm:k-hs.length with
  |zero=>
   have:k=hs.length:=by omega
   subst this;rw[hm]at hk;simp only[cz,ba,Prod.mk.injEq]at hk;obtain⟨rfl,rfl⟩:=hk;refine .inr ⟨fp,hr.mono hle (λb _=>⟨rfl,rfl⟩),hn,λb hb=>?_⟩;show(if b∈fp then _ else _)=_;rw[aF hb]
  |succ n=>rw[hm]at hk;simp at hk
  exact .inl ⟨by simp,Kt⟩
theorem dN.take (h:dN C g st a w hs)(x:Operand):∃g',dN C g' (st.take x).2 a w (hs++[(a.eval x,(st.take x).1)]):=by obtain⟨g',_,h'⟩:=h.aeT x;exact⟨g',h'⟩
end Go.Dn
