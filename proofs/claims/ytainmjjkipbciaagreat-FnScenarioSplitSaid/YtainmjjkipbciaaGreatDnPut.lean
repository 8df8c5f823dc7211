import Derived.Test.YtainmjjkipbciaaGreatDnSim
/- The ways in which a state goes on: a slot is written, an operand is taken over, memory grows. -/
namespace Go.Dn
open Go.RowKit
variable {C:Ctx} {g:Gh} {st:AS} {a:Act} {w:World} {hs:aw (Value×AV)}
variable {d:ax Nat}
theorem PN (d:ax Nat)(av:AV):(cG C g st w).Le (cG C g (st.put d av) w):=by refine⟨rfl,λt ht=>⟨by show lT (st.put d av) t;rw[FE];exact ht,rfl⟩,λ_ _ _ _ _ hv=>hv,?_,λs hs=>⟨by show iR (st.put d av) s;rw[G8];exact hs,rfl⟩,λ_ b o u ho hu=>⟨ho,hu⟩⟩;show st.ep<=(st.put d av).ep;rw[GA];exact aU _
theorem dP.quiet (h:dP C g st a w hs)(d:ax Nat){v:Value}{av:AV}(hr:fR (cG C g st w) v av []): dP C g (st.put d av) (a.put d v) w hs:=by cases d with|none=>exact h|some d=>have hle:= @PN C g st w (some d) av;refine h.step (λx=>x≠ .slot d) hle (by rw[JP];exact h.defers) (by rw[Tu,fH,aC];exact h.size) (by rw[jX,fH,aC];exact h.bsize) h.frame h.fS (λb x _ hx=>⟨hx,rfl,rfl⟩) ?_ ?_ ?_ ?_;intro i bv hi;by_cases RZ:i=d;subst RZ;rw[fH,bu]at hi;simp only[bP]at hi;split at hi;rename_i gW;simp at hi;subst hi;refine .inr ⟨[],?_,by simp,by simp⟩;rw[Ge];simp only[true_and,h.size,gW,bP];exact hr.mono hle (by simp);cases hi;refine .inl ⟨by simpa using RZ,?_,by rw[Ge];simp[RZ]⟩;rwa[fH,aR (cM RZ)]at hi;intro s cs hb;rw[jX]at hb;exact .inl ⟨by simp,hb,rfl⟩;intro k u bv hk;exact .inl ⟨by simp,hk⟩;exact .inl ⟨by simp,rfl⟩
theorem xC {w w':World}(hf:Fr (λ_=>False) w w'){b o:Nat}{v:Value}(h:w.cell? ⟨b,o,none⟩=some v):w'.cell? ⟨b,o,none⟩=some v:=by have hb:b<w.heap.size:=World.block_lt_of_cell? w _ h;rw[World.cell?_of_block (a:=⟨b,o,none⟩) (hf.block b hb (λm=>m))];exact h
theorem dP.grow (h:dP C g st a w hs){w':World}(hf:Fr (λ_=>False) w w'):dP C g st a w' hs:=by
 have hle:(cG C g st w).Le (cG C g st w'):=⟨rfl,λ_ ht=>⟨ht,rfl⟩,λ_ _ _ _ _ hv=>xC hf hv,aU _,λ_ hs=>⟨hs,rfl⟩,λ_ b o u ho hu=>⟨ho,xC hf hu⟩⟩
 refine h.step (λ_=>True) hle h.defers h.size h.bsize (h.frame.trans hf (λb _ m=>m.elim)) (λb x hx=>?_) (λb x _ hx=>⟨hx,hf.block b (h.fS b x hx).1 (λm=>m),rfl⟩) ?_ ?_ ?_ ?_;have hx:=h.fS b x hx;have:=hf.size;exact⟨by omega,hx.2⟩;exact λi av hi=> .inl ⟨cx,hi,rfl⟩;exact λs cs hb=> .inl ⟨cx,hb,rfl⟩;exact λk v av hk=> .inl ⟨cx,hk⟩;exact .inl ⟨cx,rfl⟩
theorem Fr.drew (M:Nat->Prop)(w:World):Fr M w w.drew:=⟨rfl,rfl,rfl,aU _,λ_ _ _=>rfl⟩
theorem Fr.alloc (M:Nat->Prop)(w:World)(o:Obj):Fr M w (w.alloc o):=⟨rfl,rfl,rfl,by simp,λb hb _=>heap_alloc_old w o b hb⟩
def jL:ax jx->Bool
 |some (.hand _)=>true
 |_=>false
abbrev dE (x:ax jx):Prop:=jL x=true
theorem GO {v:AV}:(st.put d v).io=st.io:=by cases d<;>rfl
theorem FD:(st.fi d).io=st.io:=by cases d<;>rfl
theorem sP:(st.fi d).slots=st.slots:=by cases d<;>rfl
theorem yB:(st.fi d).boxes=st.boxes:=by cases d<;>rfl
theorem xQ:(st.fi d).ep=st.ep:=by cases d<;>rfl
theorem AN {t:Nat}(h:lT st t):lT (st.fi d) t:=by cases d with|none=>exact h|some d=>rcases h with h|h;exact .inl h;refine .inr ?_;simp only[AS.fi,dI,fe,bu]at h⊢;split;split<;>simp;exact h
theorem oy {j t:Nat}(h:st.gR d j=some t):¬lT st t/\lT (st.fi d) t/\∃d',d=some d'/\t=F9 d' j/\j<4096:=by
 cases d with
 |none=>simp[AS.gR]at h
 |some d=>
  simp only[AS.gR]at h;cases hi:(nth st.iss d).getD true with
  |true=>rw[hi]at h;simp at h
  |false=>
   rw[hi]at h;simp only[af]at h;cases hj:Nat.ble 4096 j with
   |true=>rw[hj]at h;simp at h
   |false=>
    rw[hj]at h;simp only[af,ba]at h;have hjl:j<4096:=by rcases cf j 4096 with hl|hg;exact hl;rw[gD hg]at hj;cases hj
    have hdiv:t/3/4096=d:=by rw[<-h,F9];omega
    have ahW:t%3=2:=by rw[<-h,F9];omega
    refine⟨?_,.inr ?_,d,rfl,h.symm,hjl⟩;rintro(h1|h1);exact h1 ahW;rw[hdiv,hi]at h1;cases h1;simp only[AS.fi,dI,fe,hdiv];rw[dI]at hi;have gW:d<st.iss.length:=by rcases cf d st.iss.length with hl|hg;exact hl;rw[br hg]at hi;simp at hi
    simp[gW]
theorem dP.K7 (h:dP C g st a w hs)(d:ax Nat){v:Value}{av:AV}{fp:fg}{w':World}{hw':Nat->Nat}{hdr':Nat->Value}{st1:AS}(arL:st1.io=st.io)(hs1:st1.slots=st.slots)(hb1:st1.boxes=st.boxes)(he1:st1.ep=st.ep)(hi1:∀t,lT st t->lT st1 t/\hdr' t=g.hdr t)(jf:Fr (λb=>dE (g.ef b)) w w')(C6:∀b x,g.ef b=some x->¬dE (some x)->hw' b=g.hw b)(Fg:∀b o u,o<g.hw b->w.cell? ⟨b,o,none⟩=some u->o<hw' b/\w'.cell? ⟨b,o,none⟩=some u)(hr:fR (cG C {g with hw:=hw',hdr:=hdr'} st1 w') v av fp)(hn:fp.Nodup)(Bw:∀b∈fp,b<w'.heap.size/\(dE (g.ef b)\/w.heap.size<=b)): ∃g',dP C g' (st1.put d av) (a.put d v) w' []:=by
 have Yu:∀k b o u,C.A k b o->w.cell? ⟨b,o,none⟩=some u->w'.cell? ⟨b,o,none⟩=some u:=by
  intro k b o u hA hu;have hb:b<w.heap.size:=World.block_lt_of_cell? w _ hu;have HJ:¬dE (g.ef b):=by intro hh;cases hx:g.ef b with|none=>rw[hx]at hh;cases hh|some x=>exact h.KI hx k o hA
  rw[World.cell?_of_block (a:=⟨b,o,none⟩) (jf.block b hb HJ)];exact hu
 have hkp:∀b x,g.ef b=some x->¬dE (some x)->w'.heap[b]?=w.heap[b]?:=λb x hx hh=>jf.block b (h.fS b x hx).1 (by rw[hx];exact hh);let Zm:Nat->ax jx:=λb=>if b∈fp then d.map .slot else if dE (g.ef b) then none else g.ef b
 have Pp:Fr C.M C.w0 w':=h.frame.trans jf (λb hb hh=>by cases hx:g.ef b with|none=>rw[hx]at hh;cases hh|some x=>rcases(h.fS b x hx).2 with h2|h2;omega;exact h2);have YD:∀s,iR st s->iR (st1.put d av) s:=by intro s hs;rw[G8];simpa[iR,hb1]using hs
 have ahQ:(cG C {g with hw:=hw',hdr:=hdr'} st1 w').Le (cG C ⟨hw',g.β,Zm,hdr'⟩ (st1.put d av) w'):=by refine⟨rfl,λt ht=>⟨by show lT (st1.put d av) t;rw[FE];exact ht,rfl⟩,λ_ _ _ _ _ hu=>hu,?_,λs hs=>⟨by show iR (st1.put d av) s;rw[G8];exact hs,rfl⟩,λ_ b o u ho hu=>⟨ho,hu⟩⟩;show st1.ep<=(st1.put d av).ep;rw[GA];exact aU _
 have hle:(cG C g st w).Le (cG C ⟨hw',g.β,Zm,hdr'⟩ (st1.put d av) w'):=by refine⟨rfl,λt ht=>⟨by show lT (st1.put d av) t;rw[FE];exact(hi1 t ht).1,(hi1 t ht).2⟩,Yu,?_,λs hs=>⟨YD s hs,rfl⟩,λ_ b o u ho hu=>Fg b o u ho hu⟩;show st.ep<=(st1.put d av).ep;rw[GA,he1];exact aU _
 have ah0:∀b x,g.ef b=some x->¬dE (some x)->b∉fp:=by intro b x hx hh hm;rcases(Bw b hm).2 with h2|h2;rw[hx]at h2;exact hh h2;have:=(h.fS b x hx).1;omega
 have amK:∀b x,g.ef b=some x->¬dE (some x)->Zm b=some x:=by intro b x hx hh;show(if b∈fp then d.map jx.slot else if dE (g.ef b) then none else g.ef b)=some x;rw[aH (ah0 b x hx hh),aH (by rw[hx];exact hh),hx]
 refine⟨⟨hw',g.β,Zm,hdr'⟩,h.step (λx=>¬dE (some x)/\some x≠d.map .slot) hle (by rw[JP];exact h.defers) ?_ ?_ Pp ?_ ?_ ?_ ?_ ?_ (.inl ⟨⟨by simp[jL],by cases d<;>simp⟩,by rw[GO,arL]⟩)⟩;rw[Tu];cases d with|none=>show _=st1.slots.length;rw[hs1];exact h.size|some d=>rw[fH,aC,hs1];exact h.size
 rw[jX,hb1];cases d with|none=>show _=st1.slots.length;rw[hs1];exact h.bsize|some d=>rw[fH,aC,hs1];exact h.bsize
 intro b x hx;have zt:(if b∈fp then d.map jx.slot else if dE (g.ef b) then none else g.ef b)=some x:=hx;by_cases hm:b∈fp;refine⟨(Bw b hm).1,?_⟩;rcases(Bw b hm).2 with h2|h2;cases hy:g.ef b with|none=>rw[hy]at h2;cases h2|some y=>exact(h.fS b y hy).2
 exact .inl (bA h.frame.size h2);rw[aH hm]at zt;split at zt;cases zt;have:=h.fS b x zt;have hz:=jf.size;exact⟨by omega,this.2⟩;intro b x hk hx;exact⟨amK b x hx hk.1,hkp b x hx hk.1,C6 b x hx hk.1⟩;intro i bv hi;cases d with
 |none=>
  have ng:st.slots[i]?=some bv:=by rw[<-hs1];exact hi
  exact .inl ⟨⟨by simp[jL],by simp⟩,ng,rfl⟩
 |some d=>
  have ng:(st.slots.set d av)[i]?=some bv:=by rw[<-hs1,<-fH];exact hi
  by_cases RZ:i=d;subst RZ;rw[bu]at ng;simp only[bP]at ng;split at ng;rename_i gW;simp at ng;subst ng;refine .inr ⟨fp,?_,hn,λb hb=>?_⟩;rw[Ge];simp only[true_and,h.size,gW,bP];exact hr.mono ahQ (λb _=>⟨rfl,rfl⟩);show(if b∈fp then _ else _)=_;rw[aF hb];rfl;cases ng;refine .inl ⟨⟨by simp[jL],by simpa using RZ⟩,?_,by rw[Ge];simp[RZ]⟩;rwa[aR (cM RZ)]at ng
 intro s cs hb;have gM:st.boxes[s]?=some (some cs):=by rw[<-hb1,<-jX (d:=d) (v:=av)];exact hb
 exact .inl ⟨⟨by simp[jL],by cases d<;>simp⟩,gM,rfl⟩;intro k u bv hk;simp at hk
theorem dP.aef (h:dP C g st a w hs)(x:Operand):∃g',(g'.β=g.β/\g'.hw=g.hw/\g'.hdr=g.hdr/\∀b s,g.ef b=some (.box s)->g'.ef b=some (.box s))/\dP C g' (st.take x).2 a w (hs++[(a.eval x,(st.take x).1)]):=by
 have plain:∀y,(st.take y)=(st.rd y,st)->∃g',(g'.β=g.β/\g'.hw=g.hw/\g'.hdr=g.hdr/\∀b s,g.ef b=some (.box s)->g'.ef b=some (.box s))/\dP C g' (st.take y).2 a w (hs++[(a.eval y,(st.take y).1)]):=by
  intro y hy;rw[hy];refine⟨g,⟨rfl,rfl,rfl,λ_ _ hb=>hb⟩,h.defers,h.size,h.bsize,h.slots,h.boxes,λk v av hk=>?_,h.fS,h.frame,h.io⟩;rw[List.getElem?_append]at hk;split at hk;exact h.hands k v av hk;cases hm:k-hs.length with
  |zero=>rw[hm]at hk;simp at hk;obtain⟨rfl,rfl⟩:=hk;exact⟨[],h.rd y,by simp,by simp⟩
  |succ n=>rw[hm]at hk;simp at hk
 cases x with
 |const v=>exact plain _ rfl
 |func f=>exact plain _ rfl
 |global gl=>exact plain _ rfl
 |tmp t=>
  obtain⟨fp,hr,hn,hl⟩:=h.slot t;let bK:AS:=st.put (some t) ((st.get t).aQ st.ep);let g':Gh:={g with ef:=λb=>if b∈fp then some (.hand hs.length) else g.ef b}
  have hle:(cG C g st w).Le (cG C g' bK w):=by have:= @PN C g st w (some t) ((st.get t).aQ st.ep);exact⟨this.A,this.hdr,this.QZ,this.ep,this.FQ,this.Z5⟩
  have T1:∀b y,y≠ .slot t->g.ef b=some y->g'.ef b=some y:=by intro b y hy hb;show(if b∈fp then _ else _)=_;rw[aH (λhm=>hy (by have:=hl b hm;rw[hb]at this;simpa using this))];exact hb
  refine⟨g',⟨rfl,rfl,rfl,λb s hb=>T1 b _ (by simp) hb⟩,?_⟩;show dP C g' bK a w (hs++[(a.tmps.getD t undef,st.get t)]);refine h.step (λy=>y≠ .slot t) hle h.defers (by show _=(st.put (some t) ((st.get t).aQ st.ep)).slots.length;rw[fH,aC];exact h.size) (by show(st.put (some t) ((st.get t).aQ st.ep)).boxes.length=(st.put (some t) ((st.get t).aQ st.ep)).slots.length;rw[jX,fH,aC];exact h.bsize) h.frame ?_ (λb y hy hb=>⟨T1 b y hy hb,rfl,rfl⟩) ?_ ?_ ?_ ?_;intro b y hb;have gM:(if b∈fp then some (jx.hand hs.length) else g.ef b)=some y:=hb;by_cases hm:b∈fp;exact h.fS b _ (hl b hm);rw[aH hm]at gM;exact h.fS b y gM;intro i bv hi;have ng:(st.slots.set t ((st.get t).aQ st.ep))[i]?=some bv:=by rw[<-fH];exact hi
  by_cases RZ:i=t;subst RZ;rw[bu]at ng;simp only[bP]at ng;split at ng;simp at ng;subst ng;exact .inr ⟨[],(hr.aQ).mono hle (by simp),by simp,by simp⟩;cases ng;rw[aR (cM RZ)]at ng;exact .inl ⟨by simpa using RZ,ng,rfl⟩;intro s cs hb;have gM:st.boxes[s]?=some (some cs):=by rw[<-jX (d:=some t) (v:=(st.get t).aQ st.ep)];exact hb
  exact .inl ⟨by simp,gM,rfl⟩;intro k v av hk;rw[List.getElem?_append]at hk;split at hk;exact .inl ⟨by simp,hk⟩;rename_i gW;cases hm:k-hs.length with
  |zero=>
   have:k=hs.length:=by omega
   subst this;rw[hm]at hk;simp only[cr,ba,Prod.mk.injEq]at hk;obtain⟨rfl,rfl⟩:=hk;refine .inr ⟨fp,hr.mono hle (λb _=>⟨rfl,rfl⟩),hn,λb hb=>?_⟩;show(if b∈fp then _ else _)=_;rw[aF hb]
  |succ n=>rw[hm]at hk;simp at hk
  exact .inl ⟨by simp,GO⟩
theorem dP.take (h:dP C g st a w hs)(x:Operand):∃g',dP C g' (st.take x).2 a w (hs++[(a.eval x,(st.take x).1)]):=by obtain⟨g',_,h'⟩:=h.aef x;exact⟨g',h'⟩
end Go.Dn
