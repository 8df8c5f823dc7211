import Derived.Test.YtfbhfnniblfpbaaGreatDnSim
/- The ways in which a state goes on: a slot is written, an operand is taken over, memory grows. -/
namespace Go.Dn
open Go.RowKit
variable {C:Ctx} {g:Gh} {st:AS} {a:Act} {w:World} {hs:aq (Value×AV)}
variable {d:au Nat}
theorem TM (d:au Nat)(av:AV):(cy C g st w).Le (cy C g (st.put d av) w):=by refine⟨rfl,λt ht=>⟨by show lL (st.put d av) t;rw[KA];exact ht,rfl⟩,λ_ _ _ _ _ hv=>hv,?_,λs hs=>⟨by show gA (st.put d av) s;rw[L6];exact hs,rfl⟩,λ_ b o u ho hu=>⟨ho,hu⟩⟩;show st.ep<=(st.put d av).ep;rw[Lv];exact aR _
theorem dx.quiet (h:dx C g st a w hs)(d:au Nat){v:Value}{av:AV}(hr:fL (cy C g st w) v av []): dx C g (st.put d av) (a.put d v) w hs:=by cases d with|none=>exact h|some d=>have hle:= @TM C g st w (some d) av;refine h.step (λx=>x≠ .slot d) hle (by rw[Og];exact h.defers) (by rw[WO,fK,aH];exact h.size) (by rw[kR,fK,aH];exact h.bsize) h.frame h.fB (λb x _ hx=>⟨hx,rfl,rfl⟩) ?_ ?_ ?_ ?_;intro i bv hi;by_cases VB:i=d;subst VB;rw[fK,bl]at hi;simp only[bL]at hi;split at hi;rename_i gV;simp at hi;subst hi;refine .inr ⟨[],?_,by simp,by simp⟩;rw[La];simp only[true_and,h.size,gV,bL];exact hr.mono hle (by simp);cases hi;refine .inl ⟨by simpa using VB,?_,by rw[La];simp[VB]⟩;rwa[fK,aO (cJ VB)]at hi;intro s cs hb;rw[kR]at hb;exact .inl ⟨by simp,hb,rfl⟩;intro k u bv hk;exact .inl ⟨by simp,hk⟩;exact .inl ⟨by simp,rfl⟩
theorem BJ {w w':World}(hf:Fr (λ_=>False) w w'){b o:Nat}{v:Value}(h:w.cell? ⟨b,o,none⟩=some v):w'.cell? ⟨b,o,none⟩=some v:=by have hb:b<w.heap.size:=World.block_lt_of_cell? w _ h;rw[World.cell?_of_block (a:=⟨b,o,none⟩) (hf.block b hb (λm=>m))];exact h
theorem dx.grow (h:dx C g st a w hs){w':World}(hf:Fr (λ_=>False) w w'):dx C g st a w' hs:=by
 have hle:(cy C g st w).Le (cy C g st w'):=⟨rfl,λ_ ht=>⟨ht,rfl⟩,λ_ _ _ _ _ hv=>BJ hf hv,aR _,λ_ hs=>⟨hs,rfl⟩,λ_ b o u ho hu=>⟨ho,BJ hf hu⟩⟩
 refine h.step (λ_=>True) hle h.defers h.size h.bsize (h.frame.trans hf (λb _ m=>m.elim)) (λb x hx=>?_) (λb x _ hx=>⟨hx,hf.block b (h.fB b x hx).1 (λm=>m),rfl⟩) ?_ ?_ ?_ ?_;have hx:=h.fB b x hx;have:=hf.size;exact⟨by omega,hx.2⟩;exact λi av hi=> .inl ⟨bN,hi,rfl⟩;exact λs cs hb=> .inl ⟨bN,hb,rfl⟩;exact λk v av hk=> .inl ⟨bN,hk⟩;exact .inl ⟨bN,rfl⟩
theorem Fr.drew (M:Nat->Prop)(w:World):Fr M w w.drew:=⟨rfl,rfl,rfl,aR _,λ_ _ _=>rfl⟩
theorem Fr.alloc (M:Nat->Prop)(w:World)(o:Obj):Fr M w (w.alloc o):=⟨rfl,rfl,rfl,by simp,λb hb _=>heap_alloc_old w o b hb⟩
def fA:au je->Bool
 |some (.hand _)=>true
 |_=>false
abbrev cY (x:au je):Prop:=fA x=true
theorem LI {v:AV}:(st.put d v).io=st.io:=by cases d<;>rfl
theorem Kz:(st.fw d).io=st.io:=by cases d<;>rfl
theorem vN:(st.fw d).slots=st.slots:=by cases d<;>rfl
theorem C6:(st.fw d).boxes=st.boxes:=by cases d<;>rfl
theorem BX:(st.fw d).ep=st.ep:=by cases d<;>rfl
theorem Fg {t:Nat}(h:lL st t):lL (st.fw d) t:=by cases d with|none=>exact h|some d=>rcases h with h|h;exact .inl h;refine .inr ?_;simp only[AS.fw,dB,eV,bl]at h⊢;split;split<;>simp;exact h
theorem pU {j t:Nat}(h:st.il d j=some t):¬lL st t/\lL (st.fw d) t/\∃d',d=some d'/\t=K6 d' j/\j<4096:=by
 cases d with
 |none=>simp[AS.il]at h
 |some d=>
  simp only[AS.il]at h;cases hi:(nth st.iss d).getD true with
  |true=>rw[hi]at h;simp at h
  |false=>
   rw[hi]at h;simp only[ae]at h;cases hj:Nat.ble 4096 j with
   |true=>rw[hj]at h;simp at h
   |false=>
    rw[hj]at h;simp only[ae,aZ]at h;have hjl:j<4096:=by rcases bS j 4096 with hl|hg;exact hl;rw[gU hg]at hj;cases hj
    have hdiv:t/3/4096=d:=by rw[<-h,K6];omega
    have aip:t%3=2:=by rw[<-h,K6];omega
    refine⟨?_,.inr ?_,d,rfl,h.symm,hjl⟩;rintro(h1|h1);exact h1 aip;rw[hdiv,hi]at h1;cases h1;simp only[AS.fw,dB,eV,hdiv];rw[dB]at hi;have gV:d<st.iss.length:=by rcases bS d st.iss.length with hl|hg;exact hl;rw[bH hg]at hi;simp at hi
    simp[gV]
theorem dx.Pz (h:dx C g st a w hs)(d:au Nat){v:Value}{av:AV}{fp:dX}{w':World}{hw':Nat->Nat}{hdr':Nat->Value}{st1:AS}(aqv:st1.io=st.io)(hs1:st1.slots=st.slots)(hb1:st1.boxes=st.boxes)(he1:st1.ep=st.ep)(hi1:∀t,lL st t->lL st1 t/\hdr' t=g.hdr t)(gP:Fr (λb=>cY (g.dK b)) w w')(Ca:∀b x,g.dK b=some x->¬cY (some x)->hw' b=g.hw b)(Kc:∀b o u,o<g.hw b->w.cell? ⟨b,o,none⟩=some u->o<hw' b/\w'.cell? ⟨b,o,none⟩=some u)(hr:fL (cy C {g with hw:=hw',hdr:=hdr'} st1 w') v av fp)(hn:fp.Nodup)(C1:∀b∈fp,b<w'.heap.size/\(cY (g.dK b)\/w.heap.size<=b)): ∃g',dx C g' (st1.put d av) (a.put d v) w' []:=by
 have Yo:∀k b o u,C.A k b o->w.cell? ⟨b,o,none⟩=some u->w'.cell? ⟨b,o,none⟩=some u:=by
  intro k b o u hA hu;have hb:b<w.heap.size:=World.block_lt_of_cell? w _ hu;have JS:¬cY (g.dK b):=by intro hh;cases hx:g.dK b with|none=>rw[hx]at hh;cases hh|some x=>exact h.LM hx k o hA
  rw[World.cell?_of_block (a:=⟨b,o,none⟩) (gP.block b hb JS)];exact hu
 have hkp:∀b x,g.dK b=some x->¬cY (some x)->w'.heap[b]?=w.heap[b]?:=λb x hx hh=>gP.block b (h.fB b x hx).1 (by rw[hx];exact hh);let ab7:Nat->au je:=λb=>if b∈fp then d.map .slot else if cY (g.dK b) then none else g.dK b
 have Jt:Fr C.M C.w0 w':=h.frame.trans gP (λb hb hh=>by cases hx:g.dK b with|none=>rw[hx]at hh;cases hh|some x=>rcases(h.fB b x hx).2 with h2|h2;omega;exact h2);have Qs:∀s,gA st s->gA (st1.put d av) s:=by intro s hs;rw[L6];simpa[gA,hb1]using hs
 have aik:(cy C {g with hw:=hw',hdr:=hdr'} st1 w').Le (cy C ⟨hw',g.β,ab7,hdr'⟩ (st1.put d av) w'):=by refine⟨rfl,λt ht=>⟨by show lL (st1.put d av) t;rw[KA];exact ht,rfl⟩,λ_ _ _ _ _ hu=>hu,?_,λs hs=>⟨by show gA (st1.put d av) s;rw[L6];exact hs,rfl⟩,λ_ b o u ho hu=>⟨ho,hu⟩⟩;show st1.ep<=(st1.put d av).ep;rw[Lv];exact aR _
 have hle:(cy C g st w).Le (cy C ⟨hw',g.β,ab7,hdr'⟩ (st1.put d av) w'):=by refine⟨rfl,λt ht=>⟨by show lL (st1.put d av) t;rw[KA];exact(hi1 t ht).1,(hi1 t ht).2⟩,Yo,?_,λs hs=>⟨Qs s hs,rfl⟩,λ_ b o u ho hu=>Kc b o u ho hu⟩;show st.ep<=(st1.put d av).ep;rw[Lv,he1];exact aR _
 have ais:∀b x,g.dK b=some x->¬cY (some x)->b∉fp:=by intro b x hx hh hm;rcases(C1 b hm).2 with h2|h2;rw[hx]at h2;exact hh h2;have:=(h.fB b x hx).1;omega
 have ajn:∀b x,g.dK b=some x->¬cY (some x)->ab7 b=some x:=by intro b x hx hh;show(if b∈fp then d.map je.slot else if cY (g.dK b) then none else g.dK b)=some x;rw[aF (ais b x hx hh),aF (by rw[hx];exact hh),hx]
 refine⟨⟨hw',g.β,ab7,hdr'⟩,h.step (λx=>¬cY (some x)/\some x≠d.map .slot) hle (by rw[Og];exact h.defers) ?_ ?_ Jt ?_ ?_ ?_ ?_ ?_ (.inl ⟨⟨by simp[fA],by cases d<;>simp⟩,by rw[LI,aqv]⟩)⟩;rw[WO];cases d with|none=>show _=st1.slots.length;rw[hs1];exact h.size|some d=>rw[fK,aH,hs1];exact h.size
 rw[kR,hb1];cases d with|none=>show _=st1.slots.length;rw[hs1];exact h.bsize|some d=>rw[fK,aH,hs1];exact h.bsize
 intro b x hx;have AR:(if b∈fp then d.map je.slot else if cY (g.dK b) then none else g.dK b)=some x:=hx;by_cases hm:b∈fp;refine⟨(C1 b hm).1,?_⟩;rcases(C1 b hm).2 with h2|h2;cases hy:g.dK b with|none=>rw[hy]at h2;cases h2|some y=>exact(h.fB b y hy).2
 exact .inl (aE h.frame.size h2);rw[aF hm]at AR;split at AR;cases AR;have:=h.fB b x AR;have hz:=gP.size;exact⟨by omega,this.2⟩;intro b x hk hx;exact⟨ajn b x hx hk.1,hkp b x hx hk.1,Ca b x hx hk.1⟩;intro i bv hi;cases d with
 |none=>
  have rJ:st.slots[i]?=some bv:=by rw[<-hs1];exact hi
  exact .inl ⟨⟨by simp[fA],by simp⟩,rJ,rfl⟩
 |some d=>
  have rJ:(st.slots.set d av)[i]?=some bv:=by rw[<-hs1,<-fK];exact hi
  by_cases VB:i=d;subst VB;rw[bl]at rJ;simp only[bL]at rJ;split at rJ;rename_i gV;simp at rJ;subst rJ;refine .inr ⟨fp,?_,hn,λb hb=>?_⟩;rw[La];simp only[true_and,h.size,gV,bL];exact hr.mono aik (λb _=>⟨rfl,rfl⟩);show(if b∈fp then _ else _)=_;rw[aG hb];rfl;cases rJ;refine .inl ⟨⟨by simp[fA],by simpa using VB⟩,?_,by rw[La];simp[VB]⟩;rwa[aO (cJ VB)]at rJ
 intro s cs hb;have gL:st.boxes[s]?=some (some cs):=by rw[<-hb1,<-kR (d:=d) (v:=av)];exact hb
 exact .inl ⟨⟨by simp[fA],by cases d<;>simp⟩,gL,rfl⟩;intro k u bv hk;simp at hk
theorem dx.af2 (h:dx C g st a w hs)(x:Operand):∃g',(g'.β=g.β/\g'.hw=g.hw/\g'.hdr=g.hdr/\∀b s,g.dK b=some (.box s)->g'.dK b=some (.box s))/\dx C g' (st.take x).2 a w (hs++[(a.eval x,(st.take x).1)]):=by
 have plain:∀y,(st.take y)=(st.rd y,st)->∃g',(g'.β=g.β/\g'.hw=g.hw/\g'.hdr=g.hdr/\∀b s,g.dK b=some (.box s)->g'.dK b=some (.box s))/\dx C g' (st.take y).2 a w (hs++[(a.eval y,(st.take y).1)]):=by
  intro y hy;rw[hy];refine⟨g,⟨rfl,rfl,rfl,λ_ _ hb=>hb⟩,h.defers,h.size,h.bsize,h.slots,h.boxes,λk v av hk=>?_,h.fB,h.frame,h.io⟩;rw[List.getElem?_append]at hk;split at hk;exact h.hands k v av hk;cases hm:k-hs.length with
  |zero=>rw[hm]at hk;simp at hk;obtain⟨rfl,rfl⟩:=hk;exact⟨[],h.rd y,by simp,by simp⟩
  |succ n=>rw[hm]at hk;simp at hk
 cases x with
 |const v=>exact plain _ rfl
 |func f=>exact plain _ rfl
 |global gl=>exact plain _ rfl
 |tmp t=>
  obtain⟨fp,hr,hn,hl⟩:=h.slot t;let st':AS:=st.put (some t) ((st.get t).aS st.ep);let g':Gh:={g with dK:=λb=>if b∈fp then some (.hand hs.length) else g.dK b}
  have hle:(cy C g st w).Le (cy C g' st' w):=by have:= @TM C g st w (some t) ((st.get t).aS st.ep);exact⟨this.A,this.hdr,this.U7,this.ep,this.KJ,this.acM⟩
  have XA:∀b y,y≠ .slot t->g.dK b=some y->g'.dK b=some y:=by intro b y hy hb;show(if b∈fp then _ else _)=_;rw[aF (λhm=>hy (by have:=hl b hm;rw[hb]at this;simpa using this))];exact hb
  refine⟨g',⟨rfl,rfl,rfl,λb s hb=>XA b _ (by simp) hb⟩,?_⟩;show dx C g' st' a w (hs++[(a.tmps.getD t undef,st.get t)]);refine h.step (λy=>y≠ .slot t) hle h.defers (by show _=(st.put (some t) ((st.get t).aS st.ep)).slots.length;rw[fK,aH];exact h.size) (by show(st.put (some t) ((st.get t).aS st.ep)).boxes.length=(st.put (some t) ((st.get t).aS st.ep)).slots.length;rw[kR,fK,aH];exact h.bsize) h.frame ?_ (λb y hy hb=>⟨XA b y hy hb,rfl,rfl⟩) ?_ ?_ ?_ ?_;intro b y hb;have gL:(if b∈fp then some (je.hand hs.length) else g.dK b)=some y:=hb;by_cases hm:b∈fp;exact h.fB b _ (hl b hm);rw[aF hm]at gL;exact h.fB b y gL;intro i bv hi;have rJ:(st.slots.set t ((st.get t).aS st.ep))[i]?=some bv:=by rw[<-fK];exact hi
  by_cases VB:i=t;subst VB;rw[bl]at rJ;simp only[bL]at rJ;split at rJ;simp at rJ;subst rJ;exact .inr ⟨[],(hr.aS).mono hle (by simp),by simp,by simp⟩;cases rJ;rw[aO (cJ VB)]at rJ;exact .inl ⟨by simpa using VB,rJ,rfl⟩;intro s cs hb;have gL:st.boxes[s]?=some (some cs):=by rw[<-kR (d:=some t) (v:=(st.get t).aS st.ep)];exact hb
  exact .inl ⟨by simp,gL,rfl⟩;intro k v av hk;rw[List.getElem?_append]at hk;split at hk;exact .inl ⟨by simp,hk⟩;rename_i gV;cases hm:k-hs.length with
  |zero=>
   have:k=hs.length:=by omega
   subst this;rw[hm]at hk;simp only[cq,aZ,Prod.mk.injEq]at hk;obtain⟨rfl,rfl⟩:=hk;refine .inr ⟨fp,hr.mono hle (λb _=>⟨rfl,rfl⟩),hn,λb hb=>?_⟩;show(if b∈fp then _ else _)=_;rw[aG hb]
  |succ n=>rw[hm]at hk;simp at hk
  exact .inl ⟨by simp,LI⟩
theorem dx.take (h:dx C g st a w hs)(x:Operand):∃g',dx C g' (st.take x).2 a w (hs++[(a.eval x,(st.take x).1)]):=by obtain⟨g',_,h'⟩:=h.af2 x;exact⟨g',h'⟩
end Go.Dn
