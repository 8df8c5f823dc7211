import Derived.Test.YtgbaemfepmabgaaGreatDnSim
/- The ways in which a state goes on: a slot is written, an operand is taken over, memory grows. -/
namespace Go.Dn
open Go.RowKit
variable {C:Ctx} {g:Gh} {st:AS} {a:Act} {w:World} {hs:aw (Value×AV)}
variable {d:az Nat}
theorem Rv (d:az Nat)(av:AV):(dc C g st w).Le (dc C g (st.put d av) w):=by refine⟨rfl,λt ht=>⟨by show mM (st.put d av) t;rw[GY];exact ht,rfl⟩,λ_ _ _ _ _ hv=>hv,?_,λs hs=>⟨by show jq (st.put d av) s;rw[Iz];exact hs,rfl⟩,λ_ b o u ho hu=>⟨ho,hu⟩⟩;show st.ep<=(st.put d av).ep;rw[HT];exact bh _
theorem ez.quiet (h:ez C g st a w hs)(d:az Nat){v:Value}{av:AV}(hr:gE (dc C g st w) v av []): ez C g (st.put d av) (a.put d v) w hs:=by cases d with|none=>exact h|some d=>have hle:= @Rv C g st w (some d) av;refine h.step (λx=>x≠ .slot d) hle (by rw[Lo];exact h.defers) (by rw[Vx,gq,aB];exact h.size) (by rw[kH,gq,aB];exact h.bsize) h.frame h.labs (λb x _ hx=>⟨hx,rfl,rfl⟩) ?_ ?_ ?_ ?_;intro i bv hi;by_cases hid:i=d;subst hid;rw[gq,bH]at hi;simp only[cg]at hi;split at hi;rename_i hlt;simp at hi;subst hi;refine .inr ⟨[],?_,by simp,by simp⟩;rw[Hy];simp only[true_and,h.size,hlt,cg];exact hr.mono hle (by simp);cases hi;refine .inl ⟨by simpa using hid,?_,by rw[Hy];simp[hid]⟩;rwa[gq,aP (cR hid)]at hi;intro s cs hb;rw[kH]at hb;exact .inl ⟨by simp,hb,rfl⟩;intro k u bv hk;exact .inl ⟨by simp,hk⟩;exact .inl ⟨by simp,rfl⟩
theorem ze {w w':World}(hf:Fr (λ_=>False) w w'){b o:Nat}{v:Value}(h:w.cell? ⟨b,o,none⟩=some v):w'.cell? ⟨b,o,none⟩=some v:=by have hb:b<w.heap.size:=World.block_lt_of_cell? w _ h;rw[World.cell?_of_block (a:=⟨b,o,none⟩) (hf.block b hb (λm=>m))];exact h
theorem ez.grow (h:ez C g st a w hs){w':World}(hf:Fr (λ_=>False) w w'):ez C g st a w' hs:=by
 have hle:(dc C g st w).Le (dc C g st w'):=⟨rfl,λ_ ht=>⟨ht,rfl⟩,λ_ _ _ _ _ hv=>ze hf hv,bh _,λ_ hs=>⟨hs,rfl⟩,λ_ b o u ho hu=>⟨ho,ze hf hu⟩⟩
 refine h.step (λ_=>True) hle h.defers h.size h.bsize (h.frame.trans hf (λb _ m=>m.elim)) (λb x hx=>?_) (λb x _ hx=>⟨hx,hf.block b (h.labs b x hx).1 (λm=>m),rfl⟩) ?_ ?_ ?_ ?_;have hx:=h.labs b x hx;have:=hf.size;exact⟨by omega,hx.2⟩;exact λi av hi=> .inl ⟨cx,hi,rfl⟩;exact λs cs hb=> .inl ⟨cx,hb,rfl⟩;exact λk v av hk=> .inl ⟨cx,hk⟩;exact .inl ⟨cx,rfl⟩
theorem Fr.drew (M:Nat->Prop)(w:World):Fr M w w.drew:=⟨rfl,rfl,rfl,bh _,λ_ _ _=>rfl⟩
theorem Fr.alloc (M:Nat->Prop)(w:World)(o:Obj):Fr M w (w.alloc o):=⟨rfl,rfl,rfl,by simp,λb hb _=>heap_alloc_old w o b hb⟩
def ko:az jX->Bool
 |some (.hand _)=>true
 |_=>false
abbrev ed (x:az jX):Prop:=ko x=true
theorem H9 {v:AV}:(st.put d v).io=st.io:=by cases d<;>rfl
theorem GX:(st.fR d).io=st.io:=by cases d<;>rfl
theorem uC:(st.fR d).slots=st.slots:=by cases d<;>rfl
theorem Az:(st.fR d).boxes=st.boxes:=by cases d<;>rfl
theorem zG:(st.fR d).ep=st.ep:=by cases d<;>rfl
theorem Ck {t:Nat}(h:mM st t):mM (st.fR d) t:=by cases d with|none=>exact h|some d=>rcases h with h|h;exact .inl h;refine .inr ?_;simp only[AS.fR,ei,fP,bH]at h⊢;split;split<;>simp;exact h
theorem pK {j t:Nat}(h:st.ix d j=some t):¬mM st t/\mM (st.fR d) t/\∃d',d=some d'/\t=Hr d' j/\j<4096:=by
 cases d with
 |none=>simp[AS.ix]at h
 |some d=>
  simp only[AS.ix]at h;cases hi:(nth st.iss d).getD true with
  |true=>rw[hi]at h;simp at h
  |false=>
   rw[hi]at h;simp only[af]at h;cases hj:Nat.ble 4096 j with
   |true=>rw[hj]at h;simp at h
   |false=>
    rw[hj]at h;simp only[af,br]at h;have hjl:j<4096:=by rcases cq j 4096 with hl|hg;exact hl;rw[ic hg]at hj;cases hj
    have hdiv:t/3/4096=d:=by rw[<-h,Hr];omega
    have hmod:t%3=2:=by rw[<-h,Hr];omega
    refine⟨?_,.inr ?_,d,rfl,h.symm,hjl⟩;rintro(h1|h1);exact h1 hmod;rw[hdiv,hi]at h1;cases h1;simp only[AS.fR,ei,fP,hdiv];rw[ei]at hi;have hlt:d<st.iss.length:=by rcases cq d st.iss.length with hl|hg;exact hl;rw[bG hg]at hi;simp at hi
    simp[hlt]
theorem ez.MD (h:ez C g st a w hs)(d:az Nat){v:Value}{av:AV}{fp:fu}{w':World}{hw':Nat->Nat}{hdr':Nat->Value}{st1:AS}(hio1:st1.io=st.io)(hs1:st1.slots=st.slots)(hb1:st1.boxes=st.boxes)(he1:st1.ep=st.ep)(hi1:∀t,mM st t->mM st1 t/\hdr' t=g.hdr t)(hfr:Fr (λb=>ed (g.lab b)) w w')(hhw:∀b x,g.lab b=some x->¬ed (some x)->hw' b=g.hw b)(hprot:∀b o u,o<g.hw b->w.cell? ⟨b,o,none⟩=some u->o<hw' b/\w'.cell? ⟨b,o,none⟩=some u)(hr:gE (dc C {g with hw:=hw',hdr:=hdr'} st1 w') v av fp)(hn:fp.Nodup)(hfp:∀b∈fp,b<w'.heap.size/\(ed (g.lab b)\/w.heap.size<=b)): ∃g',ez C g' (st1.put d av) (a.put d v) w' []:=by
 have hcA:∀k b o u,C.A k b o->w.cell? ⟨b,o,none⟩=some u->w'.cell? ⟨b,o,none⟩=some u:=by
  intro k b o u hA hu;have hb:b<w.heap.size:=World.block_lt_of_cell? w _ hu;have hnl:¬ed (g.lab b):=by intro hh;cases hx:g.lab b with|none=>rw[hx]at hh;cases hh|some x=>exact h.Me hx k o hA
  rw[World.cell?_of_block (a:=⟨b,o,none⟩) (hfr.block b hb hnl)];exact hu
 have hkp:∀b x,g.lab b=some x->¬ed (some x)->w'.heap[b]?=w.heap[b]?:=λb x hx hh=>hfr.block b (h.labs b x hx).1 (by rw[hx];exact hh);let lab':Nat->az jX:=λb=>if b∈fp then d.map .slot else if ed (g.lab b) then none else g.lab b
 have hfrC:Fr C.M C.w0 w':=h.frame.trans hfr (λb hb hh=>by cases hx:g.lab b with|none=>rw[hx]at hh;cases hh|some x=>rcases(h.labs b x hx).2 with h2|h2;omega;exact h2);have hpr:∀s,jq st s->jq (st1.put d av) s:=by intro s hs;rw[Iz];simpa[jq,hb1]using hs
 have hle1:(dc C {g with hw:=hw',hdr:=hdr'} st1 w').Le (dc C ⟨hw',g.β,lab',hdr'⟩ (st1.put d av) w'):=by refine⟨rfl,λt ht=>⟨by show mM (st1.put d av) t;rw[GY];exact ht,rfl⟩,λ_ _ _ _ _ hu=>hu,?_,λs hs=>⟨by show jq (st1.put d av) s;rw[Iz];exact hs,rfl⟩,λ_ b o u ho hu=>⟨ho,hu⟩⟩;show st1.ep<=(st1.put d av).ep;rw[HT];exact bh _
 have hle:(dc C g st w).Le (dc C ⟨hw',g.β,lab',hdr'⟩ (st1.put d av) w'):=by refine⟨rfl,λt ht=>⟨by show mM (st1.put d av) t;rw[GY];exact(hi1 t ht).1,(hi1 t ht).2⟩,hcA,?_,λs hs=>⟨hpr s hs,rfl⟩,λ_ b o u ho hu=>hprot b o u ho hu⟩;show st.ep<=(st1.put d av).ep;rw[HT,he1];exact bh _
 have hnotin:∀b x,g.lab b=some x->¬ed (some x)->b∉fp:=by intro b x hx hh hm;rcases(hfp b hm).2 with h2|h2;rw[hx]at h2;exact hh h2;have:=(h.labs b x hx).1;omega
 have hlabk:∀b x,g.lab b=some x->¬ed (some x)->lab' b=some x:=by intro b x hx hh;show(if b∈fp then d.map jX.slot else if ed (g.lab b) then none else g.lab b)=some x;rw[aD (hnotin b x hx hh),aD (by rw[hx];exact hh),hx]
 refine⟨⟨hw',g.β,lab',hdr'⟩,h.step (λx=>¬ed (some x)/\some x≠d.map .slot) hle (by rw[Lo];exact h.defers) ?_ ?_ hfrC ?_ ?_ ?_ ?_ ?_ (.inl ⟨⟨by simp[ko],by cases d<;>simp⟩,by rw[H9,hio1]⟩)⟩;rw[Vx];cases d with|none=>show _=st1.slots.length;rw[hs1];exact h.size|some d=>rw[gq,aB,hs1];exact h.size
 rw[kH,hb1];cases d with|none=>show _=st1.slots.length;rw[hs1];exact h.bsize|some d=>rw[gq,aB,hs1];exact h.bsize
 intro b x hx;have hx':(if b∈fp then d.map jX.slot else if ed (g.lab b) then none else g.lab b)=some x:=hx;by_cases hm:b∈fp;refine⟨(hfp b hm).1,?_⟩;rcases(hfp b hm).2 with h2|h2;cases hy:g.lab b with|none=>rw[hy]at h2;cases h2|some y=>exact(h.labs b y hy).2
 exact .inl (bt h.frame.size h2);rw[aD hm]at hx';split at hx';cases hx';have:=h.labs b x hx';have hz:=hfr.size;exact⟨by omega,this.2⟩;intro b x hk hx;exact⟨hlabk b x hx hk.1,hkp b x hx hk.1,hhw b x hx hk.1⟩;intro i bv hi;cases d with
 |none=>
  have hi':st.slots[i]?=some bv:=by rw[<-hs1];exact hi
  exact .inl ⟨⟨by simp[ko],by simp⟩,hi',rfl⟩
 |some d=>
  have hi':(st.slots.set d av)[i]?=some bv:=by rw[<-hs1,<-gq];exact hi
  by_cases hid:i=d;subst hid;rw[bH]at hi';simp only[cg]at hi';split at hi';rename_i hlt;simp at hi';subst hi';refine .inr ⟨fp,?_,hn,λb hb=>?_⟩;rw[Hy];simp only[true_and,h.size,hlt,cg];exact hr.mono hle1 (λb _=>⟨rfl,rfl⟩);show(if b∈fp then _ else _)=_;rw[aE hb];rfl;cases hi';refine .inl ⟨⟨by simp[ko],by simpa using hid⟩,?_,by rw[Hy];simp[hid]⟩;rwa[aP (cR hid)]at hi'
 intro s cs hb;have hb':st.boxes[s]?=some (some cs):=by rw[<-hb1,<-kH (d:=d) (v:=av)];exact hb
 exact .inl ⟨⟨by simp[ko],by cases d<;>simp⟩,hb',rfl⟩;intro k u bv hk;simp at hk
theorem ez.agl (h:ez C g st a w hs)(x:Operand):∃g',(g'.β=g.β/\g'.hw=g.hw/\g'.hdr=g.hdr/\∀b s,g.lab b=some (.box s)->g'.lab b=some (.box s))/\ez C g' (st.take x).2 a w (hs++[(a.eval x,(st.take x).1)]):=by
 have plain:∀y,(st.take y)=(st.rd y,st)->∃g',(g'.β=g.β/\g'.hw=g.hw/\g'.hdr=g.hdr/\∀b s,g.lab b=some (.box s)->g'.lab b=some (.box s))/\ez C g' (st.take y).2 a w (hs++[(a.eval y,(st.take y).1)]):=by
  intro y hy;rw[hy];refine⟨g,⟨rfl,rfl,rfl,λ_ _ hb=>hb⟩,h.defers,h.size,h.bsize,h.slots,h.boxes,λk v av hk=>?_,h.labs,h.frame,h.io⟩;rw[List.getElem?_append]at hk;split at hk;exact h.hands k v av hk;cases hm:k-hs.length with
  |zero=>rw[hm]at hk;simp at hk;obtain⟨rfl,rfl⟩:=hk;exact⟨[],h.rd y,by simp,by simp⟩
  |succ n=>rw[hm]at hk;simp at hk
 cases x with
 |const v=>exact plain _ rfl
 |func f=>exact plain _ rfl
 |global gl=>exact plain _ rfl
 |tmp t=>
  obtain⟨fp,hr,hn,hl⟩:=h.slot t;let st':AS:=st.put (some t) ((st.get t).bc st.ep);let g':Gh:={g with lab:=λb=>if b∈fp then some (.hand hs.length) else g.lab b}
  have hle:(dc C g st w).Le (dc C g' st' w):=by have:= @Rv C g st w (some t) ((st.get t).bc st.ep);exact⟨this.A,this.hdr,this.cellA,this.ep,this.pres,this.prot⟩
  have hlk:∀b y,y≠ .slot t->g.lab b=some y->g'.lab b=some y:=by intro b y hy hb;show(if b∈fp then _ else _)=_;rw[aD (λhm=>hy (by have:=hl b hm;rw[hb]at this;simpa using this))];exact hb
  refine⟨g',⟨rfl,rfl,rfl,λb s hb=>hlk b _ (by simp) hb⟩,?_⟩;show ez C g' st' a w (hs++[(a.tmps.getD t undef,st.get t)]);refine h.step (λy=>y≠ .slot t) hle h.defers (by show _=(st.put (some t) ((st.get t).bc st.ep)).slots.length;rw[gq,aB];exact h.size) (by show(st.put (some t) ((st.get t).bc st.ep)).boxes.length=(st.put (some t) ((st.get t).bc st.ep)).slots.length;rw[kH,gq,aB];exact h.bsize) h.frame ?_ (λb y hy hb=>⟨hlk b y hy hb,rfl,rfl⟩) ?_ ?_ ?_ ?_;intro b y hb;have hb':(if b∈fp then some (jX.hand hs.length) else g.lab b)=some y:=hb;by_cases hm:b∈fp;exact h.labs b _ (hl b hm);rw[aD hm]at hb';exact h.labs b y hb';intro i bv hi;have hi':(st.slots.set t ((st.get t).bc st.ep))[i]?=some bv:=by rw[<-gq];exact hi
  by_cases hid:i=t;subst hid;rw[bH]at hi';simp only[cg]at hi';split at hi';simp at hi';subst hi';exact .inr ⟨[],(hr.bc).mono hle (by simp),by simp,by simp⟩;cases hi';rw[aP (cR hid)]at hi';exact .inl ⟨by simpa using hid,hi',rfl⟩;intro s cs hb;have hb':st.boxes[s]?=some (some cs):=by rw[<-kH (d:=some t) (v:=(st.get t).bc st.ep)];exact hb
  exact .inl ⟨by simp,hb',rfl⟩;intro k v av hk;rw[List.getElem?_append]at hk;split at hk;exact .inl ⟨by simp,hk⟩;rename_i hlt;cases hm:k-hs.length with
  |zero=>
   have:k=hs.length:=by omega
   subst this;rw[hm]at hk;simp only[cA,br,Prod.mk.injEq]at hk;obtain⟨rfl,rfl⟩:=hk;refine .inr ⟨fp,hr.mono hle (λb _=>⟨rfl,rfl⟩),hn,λb hb=>?_⟩;show(if b∈fp then _ else _)=_;rw[aE hb]
  |succ n=>rw[hm]at hk;simp at hk
  exact .inl ⟨by simp,H9⟩
theorem ez.take (h:ez C g st a w hs)(x:Operand):∃g',ez C g' (st.take x).2 a w (hs++[(a.eval x,(st.take x).1)]):=by obtain⟨g',_,h'⟩:=h.agl x;exact⟨g',h'⟩
end Go.Dn
