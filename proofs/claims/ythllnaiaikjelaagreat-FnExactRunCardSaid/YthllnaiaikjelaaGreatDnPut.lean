import Derived.Test.YthllnaiaikjelaaGreatDnSim
/- The ways in which a state goes on: a slot is written, an operand is taken over, memory grows. -/
namespace Go.Dn
open Go.RowKit
variable {C:Ctx} {g:Gh} {st:AS} {a:Act} {w:World} {hs:ar (Value×AV)}
variable {d:au Nat}
theorem aav (d:au Nat)(av:AV):(cP C g st w).Le (cP C g (st.put d av) w):=by refine⟨rfl,λt ht=>⟨by show nr (st.put d av) t;rw[Qx];exact ht,rfl⟩,λ_ _ _ _ _ hv=>hv,?_,λs hs=>⟨by show ij (st.put d av) s;rw[Sf];exact hs,rfl⟩,λ_ b o u ho hu=>⟨ho,hu⟩⟩;show st.ep<=(st.put d av).ep;rw[RB];exact ba _
theorem dN.quiet (h:dN C g st a w hs)(d:au Nat){v:Value}{av:AV}(hr:gj (cP C g st w) v av []): dN C g (st.put d av) (a.put d v) w hs:=by cases d with|none=>exact h|some d=>have hle:= @aav C g st w (some d) av;refine h.step (λx=>x≠ .slot d) hle (by rw[UR];exact h.defers) (by rw[adQ,gi,aL];exact h.size) (by rw[mx,gi,aL];exact h.bsize) h.frame h.fW (λb x _ hx=>⟨hx,rfl,rfl⟩) ?_ ?_ ?_ ?_;intro i bv hi;by_cases hid:i=d;subst hid;rw[gi,bu]at hi;simp only[cd]at hi;split at hi;rename_i iJ;simp at hi;subst hi;refine .inr ⟨[],?_,by simp,by simp⟩;rw[Rc];simp only[true_and,h.size,iJ,cd];exact hr.mono hle (by simp);cases hi;refine .inl ⟨by simpa using hid,?_,by rw[Rc];simp[hid]⟩;rwa[gi,aZ (cX hid)]at hi;intro s cs hb;rw[mx]at hb;exact .inl ⟨by simp,hb,rfl⟩;intro k u bv hk;exact .inl ⟨by simp,hk⟩;exact .inl ⟨by simp,rfl⟩
theorem Gc {w w':World}(hf:Fr (λ_=>False) w w'){b o:Nat}{v:Value}(h:w.cell? ⟨b,o,none⟩=some v):w'.cell? ⟨b,o,none⟩=some v:=by have hb:b<w.heap.size:=World.block_lt_of_cell? w _ h;rw[World.cell?_of_block (a:=⟨b,o,none⟩) (hf.block b hb (λm=>m))];exact h
theorem dN.grow (h:dN C g st a w hs){w':World}(hf:Fr (λ_=>False) w w'):dN C g st a w' hs:=by
 have hle:(cP C g st w).Le (cP C g st w'):=⟨rfl,λ_ ht=>⟨ht,rfl⟩,λ_ _ _ _ _ hv=>Gc hf hv,ba _,λ_ hs=>⟨hs,rfl⟩,λ_ b o u ho hu=>⟨ho,Gc hf hu⟩⟩
 refine h.step (λ_=>True) hle h.defers h.size h.bsize (h.frame.trans hf (λb _ m=>m.elim)) (λb x hx=>?_) (λb x _ hx=>⟨hx,hf.block b (h.fW b x hx).1 (λm=>m),rfl⟩) ?_ ?_ ?_ ?_;have hx:=h.fW b x hx;have:=hf.size;exact⟨by omega,hx.2⟩;exact λi av hi=> .inl ⟨bF,hi,rfl⟩;exact λs cs hb=> .inl ⟨bF,hb,rfl⟩;exact λk v av hk=> .inl ⟨bF,hk⟩;exact .inl ⟨bF,rfl⟩
theorem Fr.drew (M:Nat->Prop)(w:World):Fr M w w.drew:=⟨rfl,rfl,rfl,ba _,λ_ _ _=>rfl⟩
theorem Fr.alloc (M:Nat->Prop)(w:World)(o:Obj):Fr M w (w.alloc o):=⟨rfl,rfl,rfl,by simp,λb hb _=>heap_alloc_old w o b hb⟩
def fV:au ki->Bool
 |some (.hand _)=>true
 |_=>false
abbrev dq (x:au ki):Prop:=fV x=true
theorem RU {v:AV}:(st.put d v).io=st.io:=by cases d<;>rfl
theorem Qw:(st.fR d).io=st.io:=by cases d<;>rfl
theorem zY:(st.fR d).slots=st.slots:=by cases d<;>rfl
theorem HJ:(st.fR d).boxes=st.boxes:=by cases d<;>rfl
theorem Gy:(st.fR d).ep=st.ep:=by cases d<;>rfl
theorem J8 {t:Nat}(h:nr st t):nr (st.fR d) t:=by cases d with|none=>exact h|some d=>rcases h with h|h;exact .inl h;refine .inr ?_;simp only[AS.fR,dY,fE,bu]at h⊢;split;split<;>simp;exact h
theorem sX {j t:Nat}(h:st.jb d j=some t):¬nr st t/\nr (st.fR d) t/\∃d',d=some d'/\t=Q7 d' j/\j<4096:=by
 cases d with
 |none=>simp[AS.jb]at h
 |some d=>
  simp only[AS.jb]at h;cases hi:(nth st.iss d).getD true with
  |true=>rw[hi]at h;simp at h
  |false=>
   rw[hi]at h;simp only[ae]at h;cases hj:Nat.ble 4096 j with
   |true=>rw[hj]at h;simp at h
   |false=>
    rw[hj]at h;simp only[ae,bf]at h;have hjl:j<4096:=by rcases bS j 4096 with hl|hg;exact hl;rw[iL hg]at hj;cases hj
    have hdiv:t/3/4096=d:=by rw[<-h,Q7];omega
    have aqA:t%3=2:=by rw[<-h,Q7];omega
    refine⟨?_,.inr ?_,d,rfl,h.symm,hjl⟩;rintro(h1|h1);exact h1 aqA;rw[hdiv,hi]at h1;cases h1;simp only[AS.fR,dY,fE,hdiv];rw[dY]at hi;have iJ:d<st.iss.length:=by rcases bS d st.iss.length with hl|hg;exact hl;rw[bL hg]at hi;simp at hi
    simp[iJ]
theorem dN.V7 (h:dN C g st a w hs)(d:au Nat){v:Value}{av:AV}{fp:ei}{w':World}{hw':Nat->Nat}{hdr':Nat->Value}{st1:AS}(az7:st1.io=st.io)(hs1:st1.slots=st.slots)(hb1:st1.boxes=st.boxes)(he1:st1.ep=st.ep)(hi1:∀t,nr st t->nr st1 t/\hdr' t=g.hdr t)(iA:Fr (λb=>dq (g.eC b)) w w')(GL:∀b x,g.eC b=some x->¬dq (some x)->hw' b=g.hw b)(P6:∀b o u,o<g.hw b->w.cell? ⟨b,o,none⟩=some u->o<hw' b/\w'.cell? ⟨b,o,none⟩=some u)(hr:gj (cP C {g with hw:=hw',hdr:=hdr'} st1 w') v av fp)(hn:fp.Nodup)(HD:∀b∈fp,b<w'.heap.size/\(dq (g.eC b)\/w.heap.size<=b)): ∃g',dN C g' (st1.put d av) (a.put d v) w' []:=by
 have hcA:∀k b o u,C.A k b o->w.cell? ⟨b,o,none⟩=some u->w'.cell? ⟨b,o,none⟩=some u:=by
  intro k b o u hA hu;have hb:b<w.heap.size:=World.block_lt_of_cell? w _ hu;have PA:¬dq (g.eC b):=by intro hh;cases hx:g.eC b with|none=>rw[hx]at hh;cases hh|some x=>exact h.RX hx k o hA
  rw[World.cell?_of_block (a:=⟨b,o,none⟩) (iA.block b hb PA)];exact hu
 have hkp:∀b x,g.eC b=some x->¬dq (some x)->w'.heap[b]?=w.heap[b]?:=λb x hx hh=>iA.block b (h.fW b x hx).1 (by rw[hx];exact hh);let ajJ:Nat->au ki:=λb=>if b∈fp then d.map .slot else if dq (g.eC b) then none else g.eC b
 have O0:Fr C.M C.w0 w':=h.frame.trans iA (λb hb hh=>by cases hx:g.eC b with|none=>rw[hx]at hh;cases hh|some x=>rcases(h.fW b x hx).2 with h2|h2;omega;exact h2);have W1:∀s,ij st s->ij (st1.put d av) s:=by intro s hs;rw[Sf];simpa[ij,hb1]using hs
 have aqv:(cP C {g with hw:=hw',hdr:=hdr'} st1 w').Le (cP C ⟨hw',g.β,ajJ,hdr'⟩ (st1.put d av) w'):=by refine⟨rfl,λt ht=>⟨by show nr (st1.put d av) t;rw[Qx];exact ht,rfl⟩,λ_ _ _ _ _ hu=>hu,?_,λs hs=>⟨by show ij (st1.put d av) s;rw[Sf];exact hs,rfl⟩,λ_ b o u ho hu=>⟨ho,hu⟩⟩;show st1.ep<=(st1.put d av).ep;rw[RB];exact ba _
 have hle:(cP C g st w).Le (cP C ⟨hw',g.β,ajJ,hdr'⟩ (st1.put d av) w'):=by refine⟨rfl,λt ht=>⟨by show nr (st1.put d av) t;rw[Qx];exact(hi1 t ht).1,(hi1 t ht).2⟩,hcA,?_,λs hs=>⟨W1 s hs,rfl⟩,λ_ b o u ho hu=>P6 b o u ho hu⟩;show st.ep<=(st1.put d av).ep;rw[RB,he1];exact ba _
 have aqD:∀b x,g.eC b=some x->¬dq (some x)->b∉fp:=by intro b x hx hh hm;rcases(HD b hm).2 with h2|h2;rw[hx]at h2;exact hh h2;have:=(h.fW b x hx).1;omega
 have arH:∀b x,g.eC b=some x->¬dq (some x)->ajJ b=some x:=by intro b x hx hh;show(if b∈fp then d.map ki.slot else if dq (g.eC b) then none else g.eC b)=some x;rw[aK (aqD b x hx hh),aK (by rw[hx];exact hh),hx]
 refine⟨⟨hw',g.β,ajJ,hdr'⟩,h.step (λx=>¬dq (some x)/\some x≠d.map .slot) hle (by rw[UR];exact h.defers) ?_ ?_ O0 ?_ ?_ ?_ ?_ ?_ (.inl ⟨⟨by simp[fV],by cases d<;>simp⟩,by rw[RU,az7]⟩)⟩;rw[adQ];cases d with|none=>show _=st1.slots.length;rw[hs1];exact h.size|some d=>rw[gi,aL,hs1];exact h.size
 rw[mx,hb1];cases d with|none=>show _=st1.slots.length;rw[hs1];exact h.bsize|some d=>rw[gi,aL,hs1];exact h.bsize
 intro b x hx;have Fe:(if b∈fp then d.map ki.slot else if dq (g.eC b) then none else g.eC b)=some x:=hx;by_cases hm:b∈fp;refine⟨(HD b hm).1,?_⟩;rcases(HD b hm).2 with h2|h2;cases hy:g.eC b with|none=>rw[hy]at h2;cases h2|some y=>exact(h.fW b y hy).2
 exact .inl (aF h.frame.size h2);rw[aK hm]at Fe;split at Fe;cases Fe;have:=h.fW b x Fe;have hz:=iA.size;exact⟨by omega,this.2⟩;intro b x hk hx;exact⟨arH b x hx hk.1,hkp b x hx hk.1,GL b x hx hk.1⟩;intro i bv hi;cases d with
 |none=>
  have uw:st.slots[i]?=some bv:=by rw[<-hs1];exact hi
  exact .inl ⟨⟨by simp[fV],by simp⟩,uw,rfl⟩
 |some d=>
  have uw:(st.slots.set d av)[i]?=some bv:=by rw[<-hs1,<-gi];exact hi
  by_cases hid:i=d;subst hid;rw[bu]at uw;simp only[cd]at uw;split at uw;rename_i iJ;simp at uw;subst uw;refine .inr ⟨fp,?_,hn,λb hb=>?_⟩;rw[Rc];simp only[true_and,h.size,iJ,cd];exact hr.mono aqv (λb _=>⟨rfl,rfl⟩);show(if b∈fp then _ else _)=_;rw[aM hb];rfl;cases uw;refine .inl ⟨⟨by simp[fV],by simpa using hid⟩,?_,by rw[Rc];simp[hid]⟩;rwa[aZ (cX hid)]at uw
 intro s cs hb;have ig:st.boxes[s]?=some (some cs):=by rw[<-hb1,<-mx (d:=d) (v:=av)];exact hb
 exact .inl ⟨⟨by simp[fV],by cases d<;>simp⟩,ig,rfl⟩;intro k u bv hk;simp at hk
theorem dN.an8 (h:dN C g st a w hs)(x:Operand):∃g',(g'.β=g.β/\g'.hw=g.hw/\g'.hdr=g.hdr/\∀b s,g.eC b=some (.box s)->g'.eC b=some (.box s))/\dN C g' (st.take x).2 a w (hs++[(a.eval x,(st.take x).1)]):=by
 have plain:∀y,(st.take y)=(st.rd y,st)->∃g',(g'.β=g.β/\g'.hw=g.hw/\g'.hdr=g.hdr/\∀b s,g.eC b=some (.box s)->g'.eC b=some (.box s))/\dN C g' (st.take y).2 a w (hs++[(a.eval y,(st.take y).1)]):=by
  intro y hy;rw[hy];refine⟨g,⟨rfl,rfl,rfl,λ_ _ hb=>hb⟩,h.defers,h.size,h.bsize,h.slots,h.boxes,λk v av hk=>?_,h.fW,h.frame,h.io⟩;rw[List.getElem?_append]at hk;split at hk;exact h.hands k v av hk;cases hm:k-hs.length with
  |zero=>rw[hm]at hk;simp at hk;obtain⟨rfl,rfl⟩:=hk;exact⟨[],h.rd y,by simp,by simp⟩
  |succ n=>rw[hm]at hk;simp at hk
 cases x with
 |const v=>exact plain _ rfl
 |func f=>exact plain _ rfl
 |global gl=>exact plain _ rfl
 |tmp t=>
  obtain⟨fp,hr,hn,hl⟩:=h.slot t;let st':AS:=st.put (some t) ((st.get t).bc st.ep);let g':Gh:={g with eC:=λb=>if b∈fp then some (.hand hs.length) else g.eC b}
  have hle:(cP C g st w).Le (cP C g' st' w):=by have:= @aav C g st w (some t) ((st.get t).bc st.ep);exact⟨this.A,this.hdr,this.abI,this.ep,this.QF,this.akj⟩
  have hlk:∀b y,y≠ .slot t->g.eC b=some y->g'.eC b=some y:=by intro b y hy hb;show(if b∈fp then _ else _)=_;rw[aK (λhm=>hy (by have:=hl b hm;rw[hb]at this;simpa using this))];exact hb
  refine⟨g',⟨rfl,rfl,rfl,λb s hb=>hlk b _ (by simp) hb⟩,?_⟩;show dN C g' st' a w (hs++[(a.tmps.getD t undef,st.get t)]);refine h.step (λy=>y≠ .slot t) hle h.defers (by show _=(st.put (some t) ((st.get t).bc st.ep)).slots.length;rw[gi,aL];exact h.size) (by show(st.put (some t) ((st.get t).bc st.ep)).boxes.length=(st.put (some t) ((st.get t).bc st.ep)).slots.length;rw[mx,gi,aL];exact h.bsize) h.frame ?_ (λb y hy hb=>⟨hlk b y hy hb,rfl,rfl⟩) ?_ ?_ ?_ ?_;intro b y hb;have ig:(if b∈fp then some (ki.hand hs.length) else g.eC b)=some y:=hb;by_cases hm:b∈fp;exact h.fW b _ (hl b hm);rw[aK hm]at ig;exact h.fW b y ig;intro i bv hi;have uw:(st.slots.set t ((st.get t).bc st.ep))[i]?=some bv:=by rw[<-gi];exact hi
  by_cases hid:i=t;subst hid;rw[bu]at uw;simp only[cd]at uw;split at uw;simp at uw;subst uw;exact .inr ⟨[],(hr.bc).mono hle (by simp),by simp,by simp⟩;cases uw;rw[aZ (cX hid)]at uw;exact .inl ⟨by simpa using hid,uw,rfl⟩;intro s cs hb;have ig:st.boxes[s]?=some (some cs):=by rw[<-mx (d:=some t) (v:=(st.get t).bc st.ep)];exact hb
  exact .inl ⟨by simp,ig,rfl⟩;intro k v av hk;rw[List.getElem?_append]at hk;split at hk;exact .inl ⟨by simp,hk⟩;rename_i iJ;cases hm:k-hs.length with
  |zero=>
   have:k=hs.length:=by omega
   subst this;rw[hm]at hk;simp only[cL,bf,Prod.mk.injEq]at hk;obtain⟨rfl,rfl⟩:=hk;refine .inr ⟨fp,hr.mono hle (λb _=>⟨rfl,rfl⟩),hn,λb hb=>?_⟩;show(if b∈fp then _ else _)=_;rw[aM hb]
  |succ n=>rw[hm]at hk;simp at hk
  exact .inl ⟨by simp,RU⟩
theorem dN.take (h:dN C g st a w hs)(x:Operand):∃g',dN C g' (st.take x).2 a w (hs++[(a.eval x,(st.take x).1)]):=by obtain⟨g',_,h'⟩:=h.an8 x;exact⟨g',h'⟩
end Go.Dn
