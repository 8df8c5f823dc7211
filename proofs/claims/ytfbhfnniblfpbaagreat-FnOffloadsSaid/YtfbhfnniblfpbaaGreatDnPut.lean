import Derived.Test.YtfbhfnniblfpbaaGreatDnSim
/- The ways in which a state goes on: a slot is written, an operand is taken over, memory grows. -/
namespace Go.Dn
open Go.RowKit
variable {C:Ctx} {g:Gh} {st:AS} {a:Act} {w:World} {hs:ax (Value×AV)}
variable {d:aA Nat}
theorem Wf (d:aA Nat)(av:AV):(dy C g st w).Le (dy C g (st.put d av) w):=by refine⟨rfl,λt ht=>⟨by show oL (st.put d av) t;rw[Lv];exact ht,rfl⟩,λ_ _ _ _ _ hv=>hv,?_,λs hs=>⟨by show kD (st.put d av) s;rw[Nw];exact hs,rfl⟩,λ_ b o u ho hu=>⟨ho,hu⟩⟩;show st.ep<=(st.put d av).ep;rw[MT];exact bc _
theorem eZ.quiet (h:eZ C g st a w hs)(d:aA Nat){v:Value}{av:AV}(hr:gV (dy C g st w) v av []): eZ C g (st.put d av) (a.put d v) w hs:=by cases d with|none=>exact h|some d=>have hle:= @Wf C g st w (some d) av;refine h.step (λx=>x≠ .slot d) hle (by rw[Qk];exact h.defers) (by rw[Zy,gU,aL];exact h.size) (by rw[mx,gU,aL];exact h.bsize) h.frame h.ir (λb x _ hx=>⟨hx,rfl,rfl⟩) ?_ ?_ ?_ ?_;intro i bv hi;by_cases X4:i=d;subst X4;rw[gU,bO]at hi;simp only[cL]at hi;split at hi;rename_i iA;simp at hi;subst hi;refine .inr ⟨[],?_,by simp,by simp⟩;rw[Ms];simp only[true_and,h.size,iA,cL];exact hr.mono hle (by simp);cases hi;refine .inl ⟨by simpa using X4,?_,by rw[Ms];simp[X4]⟩;rwa[gU,aM (cE X4)]at hi;intro s cs hb;rw[mx]at hb;exact .inl ⟨by simp,hb,rfl⟩;intro k u bv hk;exact .inl ⟨by simp,hk⟩;exact .inl ⟨by simp,rfl⟩
theorem CY {w w':World}(hf:Fr (λ_=>False) w w'){b o:Nat}{v:Value}(h:w.cell? ⟨b,o,none⟩=some v):w'.cell? ⟨b,o,none⟩=some v:=by have hb:b<w.heap.size:=World.block_lt_of_cell? w _ h;rw[World.cell?_of_block (a:=⟨b,o,none⟩) (hf.block b hb (λm=>m))];exact h
theorem eZ.grow (h:eZ C g st a w hs){w':World}(hf:Fr (λ_=>False) w w'):eZ C g st a w' hs:=by
 have hle:(dy C g st w).Le (dy C g st w'):=⟨rfl,λ_ ht=>⟨ht,rfl⟩,λ_ _ _ _ _ hv=>CY hf hv,bc _,λ_ hs=>⟨hs,rfl⟩,λ_ b o u ho hu=>⟨ho,CY hf hu⟩⟩
 refine h.step (λ_=>True) hle h.defers h.size h.bsize (h.frame.trans hf (λb _ m=>m.elim)) (λb x hx=>?_) (λb x _ hx=>⟨hx,hf.block b (h.ir b x hx).1 (λm=>m),rfl⟩) ?_ ?_ ?_ ?_;have hx:=h.ir b x hx;have:=hf.size;exact⟨by omega,hx.2⟩;exact λi av hi=> .inl ⟨dx,hi,rfl⟩;exact λs cs hb=> .inl ⟨dx,hb,rfl⟩;exact λk v av hk=> .inl ⟨dx,hk⟩;exact .inl ⟨dx,rfl⟩
theorem Fr.drew (M:Nat->Prop)(w:World):Fr M w w.drew:=⟨rfl,rfl,rfl,bc _,λ_ _ _=>rfl⟩
theorem Fr.alloc (M:Nat->Prop)(w:World)(o:Obj):Fr M w (w.alloc o):=⟨rfl,rfl,rfl,by simp,λb hb _=>heap_alloc_old w o b hb⟩
def md:aA kX->Bool
 |some (.hand _)=>true
 |_=>false
abbrev eQ (x:aA kX):Prop:=md x=true
theorem Na {v:AV}:(st.put d v).io=st.io:=by cases d<;>rfl
theorem Lu:(st.gD d).io=st.io:=by cases d<;>rfl
theorem xB:(st.gD d).slots=st.slots:=by cases d<;>rfl
theorem Ea:(st.gD d).boxes=st.boxes:=by cases d<;>rfl
theorem Dh:(st.gD d).ep=st.ep:=by cases d<;>rfl
theorem Gq {t:Nat}(h:oL st t):oL (st.gD d) t:=by cases d with|none=>exact h|some d=>rcases h with h|h;exact .inl h;refine .inr ?_;simp only[AS.gD,eV,gB,bO]at h⊢;split;split<;>simp;exact h
theorem sm {j t:Nat}(h:st.jz d j=some t):¬oL st t/\oL (st.gD d) t/\∃d',d=some d'/\t=Mk d' j/\j<4096:=by
 cases d with
 |none=>simp[AS.jz]at h
 |some d=>
  simp only[AS.jz]at h;cases hi:(nth st.iss d).getD true with
  |true=>rw[hi]at h;simp at h
  |false=>
   rw[hi]at h;simp only[ae]at h;cases hj:Nat.ble 4096 j with
   |true=>rw[hj]at h;simp at h
   |false=>
    rw[hj]at h;simp only[ae,br]at h;have hjl:j<4096:=by rcases ca j 4096 with hl|hg;exact hl;rw[jg hg]at hj;cases hj
    have hdiv:t/3/4096=d:=by rw[<-h,Mk];omega
    have alD:t%3=2:=by rw[<-h,Mk];omega
    refine⟨?_,.inr ?_,d,rfl,h.symm,hjl⟩;rintro(h1|h1);exact h1 alD;rw[hdiv,hi]at h1;cases h1;simp only[AS.gD,eV,gB,hdiv];rw[eV]at hi;have iA:d<st.iss.length:=by rcases ca d st.iss.length with hl|hg;exact hl;rw[cd hg]at hi;simp at hi
    simp[iA]
theorem eZ.RL (h:eZ C g st a w hs)(d:aA Nat){v:Value}{av:AV}{fp:fi}{w':World}{hw':Nat->Nat}{hdr':Nat->Value}{st1:AS}(asI:st1.io=st.io)(hs1:st1.slots=st.slots)(hb1:st1.boxes=st.boxes)(he1:st1.ep=st.ep)(hi1:∀t,oL st t->oL st1 t/\hdr' t=g.hdr t)(km:Fr (λb=>eQ (g.fK b)) w w')(IT:∀b x,g.fK b=some x->¬eQ (some x)->hw' b=g.hw b)(K8:∀b o u,o<g.hw b->w.cell? ⟨b,o,none⟩=some u->o<hw' b/\w'.cell? ⟨b,o,none⟩=some u)(hr:gV (dy C {g with hw:=hw',hdr:=hdr'} st1 w') v av fp)(hn:fp.Nodup)(Ha:∀b∈fp,b<w'.heap.size/\(eQ (g.fK b)\/w.heap.size<=b)): ∃g',eZ C g' (st1.put d av) (a.put d v) w' []:=by
 have hcA:∀k b o u,C.A k b o->w.cell? ⟨b,o,none⟩=some u->w'.cell? ⟨b,o,none⟩=some u:=by
  intro k b o u hA hu;have hb:b<w.heap.size:=World.block_lt_of_cell? w _ hu;have Oa:¬eQ (g.fK b):=by intro hh;cases hx:g.fK b with|none=>rw[hx]at hh;cases hh|some x=>exact h.Rf hx k o hA
  rw[World.cell?_of_block (a:=⟨b,o,none⟩) (km.block b hb Oa)];exact hu
 have hkp:∀b x,g.fK b=some x->¬eQ (some x)->w'.heap[b]?=w.heap[b]?:=λb x hx hh=>km.block b (h.ir b x hx).1 (by rw[hx];exact hh);let aeT:Nat->aA kX:=λb=>if b∈fp then d.map .slot else if eQ (g.fK b) then none else g.fK b
 have V0:Fr C.M C.w0 w':=h.frame.trans km (λb hb hh=>by cases hx:g.fK b with|none=>rw[hx]at hh;cases hh|some x=>rcases(h.ir b x hx).2 with h2|h2;omega;exact h2);have hpr:∀s,kD st s->kD (st1.put d av) s:=by intro s hs;rw[Nw];simpa[kD,hb1]using hs
 have aly:(dy C {g with hw:=hw',hdr:=hdr'} st1 w').Le (dy C ⟨hw',g.β,aeT,hdr'⟩ (st1.put d av) w'):=by refine⟨rfl,λt ht=>⟨by show oL (st1.put d av) t;rw[Lv];exact ht,rfl⟩,λ_ _ _ _ _ hu=>hu,?_,λs hs=>⟨by show kD (st1.put d av) s;rw[Nw];exact hs,rfl⟩,λ_ b o u ho hu=>⟨ho,hu⟩⟩;show st1.ep<=(st1.put d av).ep;rw[MT];exact bc _
 have hle:(dy C g st w).Le (dy C ⟨hw',g.β,aeT,hdr'⟩ (st1.put d av) w'):=by refine⟨rfl,λt ht=>⟨by show oL (st1.put d av) t;rw[Lv];exact(hi1 t ht).1,(hi1 t ht).2⟩,hcA,?_,λs hs=>⟨hpr s hs,rfl⟩,λ_ b o u ho hu=>K8 b o u ho hu⟩;show st.ep<=(st1.put d av).ep;rw[MT,he1];exact bc _
 have alG:∀b x,g.fK b=some x->¬eQ (some x)->b∉fp:=by intro b x hx hh hm;rcases(Ha b hm).2 with h2|h2;rw[hx]at h2;exact hh h2;have:=(h.ir b x hx).1;omega
 have amP:∀b x,g.fK b=some x->¬eQ (some x)->aeT b=some x:=by intro b x hx hh;show(if b∈fp then d.map kX.slot else if eQ (g.fK b) then none else g.fK b)=some x;rw[aK (alG b x hx hh),aK (by rw[hx];exact hh),hx]
 refine⟨⟨hw',g.β,aeT,hdr'⟩,h.step (λx=>¬eQ (some x)/\some x≠d.map .slot) hle (by rw[Qk];exact h.defers) ?_ ?_ V0 ?_ ?_ ?_ ?_ ?_ (.inl ⟨⟨by simp[md],by cases d<;>simp⟩,by rw[Na,asI]⟩)⟩;rw[Zy];cases d with|none=>show _=st1.slots.length;rw[hs1];exact h.size|some d=>rw[gU,aL,hs1];exact h.size
 rw[mx,hb1];cases d with|none=>show _=st1.slots.length;rw[hs1];exact h.bsize|some d=>rw[gU,aL,hs1];exact h.bsize
 intro b x hx;have Dv:(if b∈fp then d.map kX.slot else if eQ (g.fK b) then none else g.fK b)=some x:=hx;by_cases hm:b∈fp;refine⟨(Ha b hm).1,?_⟩;rcases(Ha b hm).2 with h2|h2;cases hy:g.fK b with|none=>rw[hy]at h2;cases h2|some y=>exact(h.ir b y hy).2
 exact .inl (bF h.frame.size h2);rw[aK hm]at Dv;split at Dv;cases Dv;have:=h.ir b x Dv;have hz:=km.size;exact⟨by omega,this.2⟩;intro b x hk hx;exact⟨amP b x hx hk.1,hkp b x hx hk.1,IT b x hx hk.1⟩;intro i bv hi;cases d with
 |none=>
  have xQ:st.slots[i]?=some bv:=by rw[<-hs1];exact hi
  exact .inl ⟨⟨by simp[md],by simp⟩,xQ,rfl⟩
 |some d=>
  have xQ:(st.slots.set d av)[i]?=some bv:=by rw[<-hs1,<-gU];exact hi
  by_cases X4:i=d;subst X4;rw[bO]at xQ;simp only[cL]at xQ;split at xQ;rename_i iA;simp at xQ;subst xQ;refine .inr ⟨fp,?_,hn,λb hb=>?_⟩;rw[Ms];simp only[true_and,h.size,iA,cL];exact hr.mono aly (λb _=>⟨rfl,rfl⟩);show(if b∈fp then _ else _)=_;rw[aI hb];rfl;cases xQ;refine .inl ⟨⟨by simp[md],by simpa using X4⟩,?_,by rw[Ms];simp[X4]⟩;rwa[aM (cE X4)]at xQ
 intro s cs hb;have iq:st.boxes[s]?=some (some cs):=by rw[<-hb1,<-mx (d:=d) (v:=av)];exact hb
 exact .inl ⟨⟨by simp[md],by cases d<;>simp⟩,iq,rfl⟩;intro k u bv hk;simp at hk
theorem eZ.ai9 (h:eZ C g st a w hs)(x:Operand):∃g',(g'.β=g.β/\g'.hw=g.hw/\g'.hdr=g.hdr/\∀b s,g.fK b=some (.box s)->g'.fK b=some (.box s))/\eZ C g' (st.take x).2 a w (hs++[(a.eval x,(st.take x).1)]):=by
 have plain:∀y,(st.take y)=(st.rd y,st)->∃g',(g'.β=g.β/\g'.hw=g.hw/\g'.hdr=g.hdr/\∀b s,g.fK b=some (.box s)->g'.fK b=some (.box s))/\eZ C g' (st.take y).2 a w (hs++[(a.eval y,(st.take y).1)]):=by
  intro y hy;rw[hy];refine⟨g,⟨rfl,rfl,rfl,λ_ _ hb=>hb⟩,h.defers,h.size,h.bsize,h.slots,h.boxes,λk v av hk=>?_,h.ir,h.frame,h.io⟩;rw[List.getElem?_append]at hk;split at hk;exact h.hands k v av hk;cases hm:k-hs.length with
  |zero=>rw[hm]at hk;simp at hk;obtain⟨rfl,rfl⟩:=hk;exact⟨[],h.rd y,by simp,by simp⟩
  |succ n=>rw[hm]at hk;simp at hk
 cases x with
 |const v=>exact plain _ rfl
 |func f=>exact plain _ rfl
 |global gl=>exact plain _ rfl
 |tmp t=>
  obtain⟨fp,hr,hn,hl⟩:=h.slot t;let cp:AS:=st.put (some t) ((st.get t).bh st.ep);let g':Gh:={g with fK:=λb=>if b∈fp then some (.hand hs.length) else g.fK b}
  have hle:(dy C g st w).Le (dy C g' cp w):=by have:= @Wf C g st w (some t) ((st.get t).bh st.ep);exact⟨this.A,this.hdr,this.Xw,this.ep,this.LQ,this.afH⟩
  have hlk:∀b y,y≠ .slot t->g.fK b=some y->g'.fK b=some y:=by intro b y hy hb;show(if b∈fp then _ else _)=_;rw[aK (λhm=>hy (by have:=hl b hm;rw[hb]at this;simpa using this))];exact hb
  refine⟨g',⟨rfl,rfl,rfl,λb s hb=>hlk b _ (by simp) hb⟩,?_⟩;show eZ C g' cp a w (hs++[(a.tmps.getD t undef,st.get t)]);refine h.step (λy=>y≠ .slot t) hle h.defers (by show _=(st.put (some t) ((st.get t).bh st.ep)).slots.length;rw[gU,aL];exact h.size) (by show(st.put (some t) ((st.get t).bh st.ep)).boxes.length=(st.put (some t) ((st.get t).bh st.ep)).slots.length;rw[mx,gU,aL];exact h.bsize) h.frame ?_ (λb y hy hb=>⟨hlk b y hy hb,rfl,rfl⟩) ?_ ?_ ?_ ?_;intro b y hb;have iq:(if b∈fp then some (kX.hand hs.length) else g.fK b)=some y:=hb;by_cases hm:b∈fp;exact h.ir b _ (hl b hm);rw[aK hm]at iq;exact h.ir b y iq;intro i bv hi;have xQ:(st.slots.set t ((st.get t).bh st.ep))[i]?=some bv:=by rw[<-gU];exact hi
  by_cases X4:i=t;subst X4;rw[bO]at xQ;simp only[cL]at xQ;split at xQ;simp at xQ;subst xQ;exact .inr ⟨[],(hr.bh).mono hle (by simp),by simp,by simp⟩;cases xQ;rw[aM (cE X4)]at xQ;exact .inl ⟨by simpa using X4,xQ,rfl⟩;intro s cs hb;have iq:st.boxes[s]?=some (some cs):=by rw[<-mx (d:=some t) (v:=(st.get t).bh st.ep)];exact hb
  exact .inl ⟨by simp,iq,rfl⟩;intro k v av hk;rw[List.getElem?_append]at hk;split at hk;exact .inl ⟨by simp,hk⟩;rename_i iA;cases hm:k-hs.length with
  |zero=>
   have:k=hs.length:=by omega
   subst this;rw[hm]at hk;simp only[df,br,Prod.mk.injEq]at hk;obtain⟨rfl,rfl⟩:=hk;refine .inr ⟨fp,hr.mono hle (λb _=>⟨rfl,rfl⟩),hn,λb hb=>?_⟩;show(if b∈fp then _ else _)=_;rw[aI hb]
  |succ n=>rw[hm]at hk;simp at hk
  exact .inl ⟨by simp,Na⟩
theorem eZ.take (h:eZ C g st a w hs)(x:Operand):∃g',eZ C g' (st.take x).2 a w (hs++[(a.eval x,(st.take x).1)]):=by obtain⟨g',_,h'⟩:=h.ai9 x;exact⟨g',h'⟩
end Go.Dn
