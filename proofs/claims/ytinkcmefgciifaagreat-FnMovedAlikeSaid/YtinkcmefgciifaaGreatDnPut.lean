import Derived.Test.YtinkcmefgciifaaGreatDnSim
/- The ways in which a state goes on: a slot is written, an operand is taken over, memory grows. -/
namespace Go.Dn
open Go.RowKit
variable {C:Ctx} {g:Gh} {st:AS} {a:Act} {w:World} {hs:ax (Value×AV)}
variable {d:ay Nat}
theorem P0 (d:ay Nat)(av:AV):(cM C g st w).Le (cM C g (st.put d av) w):=by refine⟨rfl,λt ht=>⟨by show mC (st.put d av) t;rw[Gk];exact ht,rfl⟩,λ_ _ _ _ _ hv=>hv,?_,λs hs=>⟨by show jb (st.put d av) s;rw[HY];exact hs,rfl⟩,λ_ b o u ho hu=>⟨ho,hu⟩⟩;show st.ep<=(st.put d av).ep;rw[Hq];exact aS _
theorem dP.quiet (h:dP C g st a w hs)(d:ay Nat){v:Value}{av:AV}(hr:fX (cM C g st w) v av []): dP C g (st.put d av) (a.put d v) w hs:=by cases d with|none=>exact h|some d=>have hle:= @P0 C g st w (some d) av;refine h.step (λx=>x≠ .slot d) hle (by rw[Km];exact h.defers) (by rw[Tv,fM,aC];exact h.size) (by rw[kA,fM,aC];exact h.bsize) h.frame h.fY (λb x _ hx=>⟨hx,rfl,rfl⟩) ?_ ?_ ?_ ?_;intro i bv hi;by_cases RR:i=d;subst RR;rw[fM,br]at hi;simp only[bQ]at hi;split at hi;rename_i gY;simp at hi;subst hi;refine .inr ⟨[],?_,by simp,by simp⟩;rw[G4];simp only[true_and,h.size,gY,bQ];exact hr.mono hle (by simp);cases hi;refine .inl ⟨by simpa using RR,?_,by rw[G4];simp[RR]⟩;rwa[fM,aN (cO RR)]at hi;intro s cs hb;rw[kA]at hb;exact .inl ⟨by simp,hb,rfl⟩;intro k u bv hk;exact .inl ⟨by simp,hk⟩;exact .inl ⟨by simp,rfl⟩
theorem yl {w w':World}(hf:Fr (λ_=>False) w w'){b o:Nat}{v:Value}(h:w.cell? ⟨b,o,none⟩=some v):w'.cell? ⟨b,o,none⟩=some v:=by have hb:b<w.heap.size:=World.block_lt_of_cell? w _ h;rw[World.cell?_of_block (a:=⟨b,o,none⟩) (hf.block b hb (λm=>m))];exact h
theorem dP.grow (h:dP C g st a w hs){w':World}(hf:Fr (λ_=>False) w w'):dP C g st a w' hs:=by
 have hle:(cM C g st w).Le (cM C g st w'):=⟨rfl,λ_ ht=>⟨ht,rfl⟩,λ_ _ _ _ _ hv=>yl hf hv,aS _,λ_ hs=>⟨hs,rfl⟩,λ_ b o u ho hu=>⟨ho,yl hf hu⟩⟩
 refine h.step (λ_=>True) hle h.defers h.size h.bsize (h.frame.trans hf (λb _ m=>m.elim)) (λb x hx=>?_) (λb x _ hx=>⟨hx,hf.block b (h.fY b x hx).1 (λm=>m),rfl⟩) ?_ ?_ ?_ ?_;have hx:=h.fY b x hx;have:=hf.size;exact⟨by omega,hx.2⟩;exact λi av hi=> .inl ⟨cq,hi,rfl⟩;exact λs cs hb=> .inl ⟨cq,hb,rfl⟩;exact λk v av hk=> .inl ⟨cq,hk⟩;exact .inl ⟨cq,rfl⟩
theorem Fr.drew (M:Nat->Prop)(w:World):Fr M w w.drew:=⟨rfl,rfl,rfl,aS _,λ_ _ _=>rfl⟩
theorem Fr.alloc (M:Nat->Prop)(w:World)(o:Obj):Fr M w (w.alloc o):=⟨rfl,rfl,rfl,by simp,λb hb _=>heap_alloc_old w o b hb⟩
def kg:ay jM->Bool
 |some (.hand _)=>true
 |_=>false
abbrev dG (x:ay jM):Prop:=kg x=true
theorem HF {v:AV}:(st.put d v).io=st.io:=by cases d<;>rfl
theorem Gj:(st.fz d).io=st.io:=by cases d<;>rfl
theorem tA:(st.fz d).slots=st.slots:=by cases d<;>rfl
theorem zk:(st.fz d).boxes=st.boxes:=by cases d<;>rfl
theorem yy:(st.fz d).ep=st.ep:=by cases d<;>rfl
theorem Br {t:Nat}(h:mC st t):mC (st.fz d) t:=by cases d with|none=>exact h|some d=>rcases h with h|h;exact .inl h;refine .inr ?_;simp only[AS.fz,dK,fu,br]at h⊢;split;split<;>simp;exact h
theorem pj {j t:Nat}(h:st.hZ d j=some t):¬mC st t/\mC (st.fz d) t/\∃d',d=some d'/\t=GW d' j/\j<4096:=by
 cases d with
 |none=>simp[AS.hZ]at h
 |some d=>
  simp only[AS.hZ]at h;cases hi:(nth st.iss d).getD true with
  |true=>rw[hi]at h;simp at h
  |false=>
   rw[hi]at h;simp only[af]at h;cases hj:Nat.ble 4096 j with
   |true=>rw[hj]at h;simp at h
   |false=>
    rw[hj]at h;simp only[af,bc]at h;have hjl:j<4096:=by rcases cd j 4096 with hl|hg;exact hl;rw[gN hg]at hj;cases hj
    have hdiv:t/3/4096=d:=by rw[<-h,GW];omega
    have ahJ:t%3=2:=by rw[<-h,GW];omega
    refine⟨?_,.inr ?_,d,rfl,h.symm,hjl⟩;rintro(h1|h1);exact h1 ahJ;rw[hdiv,hi]at h1;cases h1;simp only[AS.fz,dK,fu,hdiv];rw[dK]at hi;have gY:d<st.iss.length:=by rcases cd d st.iss.length with hl|hg;exact hl;rw[bn hg]at hi;simp at hi
    simp[gY]
theorem dP.LB (h:dP C g st a w hs)(d:ay Nat){v:Value}{av:AV}{fp:fy}{w':World}{hw':Nat->Nat}{hdr':Nat->Value}{st1:AS}(aok:st1.io=st.io)(hs1:st1.slots=st.slots)(hb1:st1.boxes=st.boxes)(he1:st1.ep=st.ep)(hi1:∀t,mC st t->mC st1 t/\hdr' t=g.hdr t)(jq:Fr (λb=>dG (g.ej b)) w w')(Dz:∀b x,g.ej b=some x->¬dG (some x)->hw' b=g.hw b)(FX:∀b o u,o<g.hw b->w.cell? ⟨b,o,none⟩=some u->o<hw' b/\w'.cell? ⟨b,o,none⟩=some u)(hr:fX (cM C {g with hw:=hw',hdr:=hdr'} st1 w') v av fp)(hn:fp.Nodup)(BU:∀b∈fp,b<w'.heap.size/\(dG (g.ej b)\/w.heap.size<=b)): ∃g',dP C g' (st1.put d av) (a.put d v) w' []:=by
 have Zb:∀k b o u,C.A k b o->w.cell? ⟨b,o,none⟩=some u->w'.cell? ⟨b,o,none⟩=some u:=by
  intro k b o u hA hu;have hb:b<w.heap.size:=World.block_lt_of_cell? w _ hu;have IG:¬dG (g.ej b):=by intro hh;cases hx:g.ej b with|none=>rw[hx]at hh;cases hh|some x=>exact h.Lc hx k o hA
  rw[World.cell?_of_block (a:=⟨b,o,none⟩) (jq.block b hb IG)];exact hu
 have hkp:∀b x,g.ej b=some x->¬dG (some x)->w'.heap[b]?=w.heap[b]?:=λb x hx hh=>jq.block b (h.fY b x hx).1 (by rw[hx];exact hh);let ZU:Nat->ay jM:=λb=>if b∈fp then d.map .slot else if dG (g.ej b) then none else g.ej b
 have PC:Fr C.M C.w0 w':=h.frame.trans jq (λb hb hh=>by cases hx:g.ej b with|none=>rw[hx]at hh;cases hh|some x=>rcases(h.fY b x hx).2 with h2|h2;omega;exact h2);have Zl:∀s,jb st s->jb (st1.put d av) s:=by intro s hs;rw[HY];simpa[jb,hb1]using hs
 have ahD:(cM C {g with hw:=hw',hdr:=hdr'} st1 w').Le (cM C ⟨hw',g.β,ZU,hdr'⟩ (st1.put d av) w'):=by refine⟨rfl,λt ht=>⟨by show mC (st1.put d av) t;rw[Gk];exact ht,rfl⟩,λ_ _ _ _ _ hu=>hu,?_,λs hs=>⟨by show jb (st1.put d av) s;rw[HY];exact hs,rfl⟩,λ_ b o u ho hu=>⟨ho,hu⟩⟩;show st1.ep<=(st1.put d av).ep;rw[Hq];exact aS _
 have hle:(cM C g st w).Le (cM C ⟨hw',g.β,ZU,hdr'⟩ (st1.put d av) w'):=by refine⟨rfl,λt ht=>⟨by show mC (st1.put d av) t;rw[Gk];exact(hi1 t ht).1,(hi1 t ht).2⟩,Zb,?_,λs hs=>⟨Zl s hs,rfl⟩,λ_ b o u ho hu=>FX b o u ho hu⟩;show st.ep<=(st1.put d av).ep;rw[Hq,he1];exact aS _
 have ahN:∀b x,g.ej b=some x->¬dG (some x)->b∉fp:=by intro b x hx hh hm;rcases(BU b hm).2 with h2|h2;rw[hx]at h2;exact hh h2;have:=(h.fY b x hx).1;omega
 have ajN:∀b x,g.ej b=some x->¬dG (some x)->ZU b=some x:=by intro b x hx hh;show(if b∈fp then d.map jM.slot else if dG (g.ej b) then none else g.ej b)=some x;rw[aI (ahN b x hx hh),aI (by rw[hx];exact hh),hx]
 refine⟨⟨hw',g.β,ZU,hdr'⟩,h.step (λx=>¬dG (some x)/\some x≠d.map .slot) hle (by rw[Km];exact h.defers) ?_ ?_ PC ?_ ?_ ?_ ?_ ?_ (.inl ⟨⟨by simp[kg],by cases d<;>simp⟩,by rw[HF,aok]⟩)⟩;rw[Tv];cases d with|none=>show _=st1.slots.length;rw[hs1];exact h.size|some d=>rw[fM,aC,hs1];exact h.size
 rw[kA,hb1];cases d with|none=>show _=st1.slots.length;rw[hs1];exact h.bsize|some d=>rw[fM,aC,hs1];exact h.bsize
 intro b x hx;have Ab:(if b∈fp then d.map jM.slot else if dG (g.ej b) then none else g.ej b)=some x:=hx;by_cases hm:b∈fp;refine⟨(BU b hm).1,?_⟩;rcases(BU b hm).2 with h2|h2;cases hy:g.ej b with|none=>rw[hy]at h2;cases h2|some y=>exact(h.fY b y hy).2
 exact .inl (bw h.frame.size h2);rw[aI hm]at Ab;split at Ab;cases Ab;have:=h.fY b x Ab;have hz:=jq.size;exact⟨by omega,this.2⟩;intro b x hk hx;exact⟨ajN b x hx hk.1,hkp b x hx hk.1,Dz b x hx hk.1⟩;intro i bv hi;cases d with
 |none=>
  have nN:st.slots[i]?=some bv:=by rw[<-hs1];exact hi
  exact .inl ⟨⟨by simp[kg],by simp⟩,nN,rfl⟩
 |some d=>
  have nN:(st.slots.set d av)[i]?=some bv:=by rw[<-hs1,<-fM];exact hi
  by_cases RR:i=d;subst RR;rw[br]at nN;simp only[bQ]at nN;split at nN;rename_i gY;simp at nN;subst nN;refine .inr ⟨fp,?_,hn,λb hb=>?_⟩;rw[G4];simp only[true_and,h.size,gY,bQ];exact hr.mono ahD (λb _=>⟨rfl,rfl⟩);show(if b∈fp then _ else _)=_;rw[aH hb];rfl;cases nN;refine .inl ⟨⟨by simp[kg],by simpa using RR⟩,?_,by rw[G4];simp[RR]⟩;rwa[aN (cO RR)]at nN
 intro s cs hb;have gX:st.boxes[s]?=some (some cs):=by rw[<-hb1,<-kA (d:=d) (v:=av)];exact hb
 exact .inl ⟨⟨by simp[kg],by cases d<;>simp⟩,gX,rfl⟩;intro k u bv hk;simp at hk
theorem dP.aeG (h:dP C g st a w hs)(x:Operand):∃g',(g'.β=g.β/\g'.hw=g.hw/\g'.hdr=g.hdr/\∀b s,g.ej b=some (.box s)->g'.ej b=some (.box s))/\dP C g' (st.take x).2 a w (hs++[(a.eval x,(st.take x).1)]):=by
 have plain:∀y,(st.take y)=(st.rd y,st)->∃g',(g'.β=g.β/\g'.hw=g.hw/\g'.hdr=g.hdr/\∀b s,g.ej b=some (.box s)->g'.ej b=some (.box s))/\dP C g' (st.take y).2 a w (hs++[(a.eval y,(st.take y).1)]):=by
  intro y hy;rw[hy];refine⟨g,⟨rfl,rfl,rfl,λ_ _ hb=>hb⟩,h.defers,h.size,h.bsize,h.slots,h.boxes,λk v av hk=>?_,h.fY,h.frame,h.io⟩;rw[List.getElem?_append]at hk;split at hk;exact h.hands k v av hk;cases hm:k-hs.length with
  |zero=>rw[hm]at hk;simp at hk;obtain⟨rfl,rfl⟩:=hk;exact⟨[],h.rd y,by simp,by simp⟩
  |succ n=>rw[hm]at hk;simp at hk
 cases x with
 |const v=>exact plain _ rfl
 |func f=>exact plain _ rfl
 |global gl=>exact plain _ rfl
 |tmp t=>
  obtain⟨fp,hr,hn,hl⟩:=h.slot t;let bN:AS:=st.put (some t) ((st.get t).aU st.ep);let g':Gh:={g with ej:=λb=>if b∈fp then some (.hand hs.length) else g.ej b}
  have hle:(cM C g st w).Le (cM C g' bN w):=by have:= @P0 C g st w (some t) ((st.get t).aU st.ep);exact⟨this.A,this.hdr,this.Q7,this.ep,this.Gy,this.aaA⟩
  have T3:∀b y,y≠ .slot t->g.ej b=some y->g'.ej b=some y:=by intro b y hy hb;show(if b∈fp then _ else _)=_;rw[aI (λhm=>hy (by have:=hl b hm;rw[hb]at this;simpa using this))];exact hb
  refine⟨g',⟨rfl,rfl,rfl,λb s hb=>T3 b _ (by simp) hb⟩,?_⟩;show dP C g' bN a w (hs++[(a.tmps.getD t undef,st.get t)]);refine h.step (λy=>y≠ .slot t) hle h.defers (by show _=(st.put (some t) ((st.get t).aU st.ep)).slots.length;rw[fM,aC];exact h.size) (by show(st.put (some t) ((st.get t).aU st.ep)).boxes.length=(st.put (some t) ((st.get t).aU st.ep)).slots.length;rw[kA,fM,aC];exact h.bsize) h.frame ?_ (λb y hy hb=>⟨T3 b y hy hb,rfl,rfl⟩) ?_ ?_ ?_ ?_;intro b y hb;have gX:(if b∈fp then some (jM.hand hs.length) else g.ej b)=some y:=hb;by_cases hm:b∈fp;exact h.fY b _ (hl b hm);rw[aI hm]at gX;exact h.fY b y gX;intro i bv hi;have nN:(st.slots.set t ((st.get t).aU st.ep))[i]?=some bv:=by rw[<-fM];exact hi
  by_cases RR:i=t;subst RR;rw[br]at nN;simp only[bQ]at nN;split at nN;simp at nN;subst nN;exact .inr ⟨[],(hr.aU).mono hle (by simp),by simp,by simp⟩;cases nN;rw[aN (cO RR)]at nN;exact .inl ⟨by simpa using RR,nN,rfl⟩;intro s cs hb;have gX:st.boxes[s]?=some (some cs):=by rw[<-kA (d:=some t) (v:=(st.get t).aU st.ep)];exact hb
  exact .inl ⟨by simp,gX,rfl⟩;intro k v av hk;rw[List.getElem?_append]at hk;split at hk;exact .inl ⟨by simp,hk⟩;rename_i gY;cases hm:k-hs.length with
  |zero=>
   have:k=hs.length:=by omega
   subst this;rw[hm]at hk;simp only[cv,bc,Prod.mk.injEq]at hk;obtain⟨rfl,rfl⟩:=hk;refine .inr ⟨fp,hr.mono hle (λb _=>⟨rfl,rfl⟩),hn,λb hb=>?_⟩;show(if b∈fp then _ else _)=_;rw[aH hb]
  |succ n=>rw[hm]at hk;simp at hk
  exact .inl ⟨by simp,HF⟩
theorem dP.take (h:dP C g st a w hs)(x:Operand):∃g',dP C g' (st.take x).2 a w (hs++[(a.eval x,(st.take x).1)]):=by obtain⟨g',_,h'⟩:=h.aeG x;exact⟨g',h'⟩
end Go.Dn
