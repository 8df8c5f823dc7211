import Derived.Test.YtbebkmajekhclaaGreatDnSim
/- The ways in which a state goes on: a slot is written, an operand is taken over, memory grows. -/
namespace Go.Dn
open Go.RowKit
variable {C:Ctx} {g:Gh} {st:AS} {a:Act} {w:World} {hs:aw (Value×AV)}
variable {d:az Nat}
theorem W7 (d:az Nat)(av:AV):(dq C g st w).Le (dq C g (st.put d av) w):=by refine⟨rfl,λt ht=>⟨by show nH (st.put d av) t;rw[LC];exact ht,rfl⟩,λ_ _ _ _ _ hv=>hv,?_,λs hs=>⟨by show jL (st.put d av) s;rw[Ng];exact hs,rfl⟩,λ_ b o u ho hu=>⟨ho,hu⟩⟩;show st.ep<=(st.put d av).ep;rw[MO];exact bt _
theorem eE.quiet (h:eE C g st a w hs)(d:az Nat){v:Value}{av:AV}(hr:gS (dq C g st w) v av []): eE C g (st.put d av) (a.put d v) w hs:=by cases d with|none=>exact h|some d=>have hle:= @W7 C g st w (some d) av;refine h.step (λx=>x≠ .slot d) hle (by rw[Qr];exact h.defers) (by rw[aa9,gx,ay];exact h.size) (by rw[ly,gx,ay];exact h.bsize) h.frame h.gN (λb x _ hx=>⟨hx,rfl,rfl⟩) ?_ ?_ ?_ ?_;intro i bv hi;by_cases Zp:i=d;subst Zp;rw[gx,bO]at hi;simp only[cz]at hi;split at hi;rename_i gr;simp at hi;subst hi;refine .inr ⟨[],?_,by simp,by simp⟩;rw[Mr];simp only[true_and,h.size,gr,cz];exact hr.mono hle (by simp);cases hi;refine .inl ⟨by simpa using Zp,?_,by rw[Mr];simp[Zp]⟩;rwa[gx,aR (df Zp)]at hi;intro s cs hb;rw[ly]at hb;exact .inl ⟨by simp,hb,rfl⟩;intro k u bv hk;exact .inl ⟨by simp,hk⟩;exact .inl ⟨by simp,rfl⟩
theorem Ct {w w':World}(hf:Fr (λ_=>False) w w'){b o:Nat}{v:Value}(h:w.cell? ⟨b,o,none⟩=some v):w'.cell? ⟨b,o,none⟩=some v:=by have hb:b<w.heap.size:=World.block_lt_of_cell? w _ h;rw[World.cell?_of_block (a:=⟨b,o,none⟩) (hf.block b hb (λm=>m))];exact h
theorem eE.grow (h:eE C g st a w hs){w':World}(hf:Fr (λ_=>False) w w'):eE C g st a w' hs:=by
 have hle:(dq C g st w).Le (dq C g st w'):=⟨rfl,λ_ ht=>⟨ht,rfl⟩,λ_ _ _ _ _ hv=>Ct hf hv,bt _,λ_ hs=>⟨hs,rfl⟩,λ_ b o u ho hu=>⟨ho,Ct hf hu⟩⟩
 refine h.step (λ_=>True) hle h.defers h.size h.bsize (h.frame.trans hf (λb _ m=>m.elim)) (λb x hx=>?_) (λb x _ hx=>⟨hx,hf.block b (h.gN b x hx).1 (λm=>m),rfl⟩) ?_ ?_ ?_ ?_;have hx:=h.gN b x hx;have:=hf.size;exact⟨by omega,hx.2⟩;exact λi av hi=> .inl ⟨cq,hi,rfl⟩;exact λs cs hb=> .inl ⟨cq,hb,rfl⟩;exact λk v av hk=> .inl ⟨cq,hk⟩;exact .inl ⟨cq,rfl⟩
theorem Fr.drew (M:Nat->Prop)(w:World):Fr M w w.drew:=⟨rfl,rfl,rfl,bt _,λ_ _ _=>rfl⟩
theorem Fr.alloc (M:Nat->Prop)(w:World)(o:Obj):Fr M w (w.alloc o):=⟨rfl,rfl,rfl,by simp,λb hb _=>heap_alloc_old w o b hb⟩
def lg:az kK->Bool
 |some (.hand _)=>true
 |_=>false
abbrev ej (x:az kK):Prop:=lg x=true
theorem M0 {v:AV}:(st.put d v).io=st.io:=by cases d<;>rfl
theorem LB:(st.fW d).io=st.io:=by cases d<;>rfl
theorem xa:(st.fW d).slots=st.slots:=by cases d<;>rfl
theorem DL:(st.fW d).boxes=st.boxes:=by cases d<;>rfl
theorem CN:(st.fW d).ep=st.ep:=by cases d<;>rfl
theorem Ga {t:Nat}(h:nH st t):nH (st.fW d) t:=by cases d with|none=>exact h|some d=>rcases h with h|h;exact .inl h;refine .inr ?_;simp only[AS.fW,ez,fV,bO]at h⊢;split;split<;>simp;exact h
theorem qX {j t:Nat}(h:st.iU d j=some t):¬nH st t/\nH (st.fW d) t/\∃d',d=some d'/\t=Mm d' j/\j<4096:=by
 cases d with
 |none=>simp[AS.iU]at h
 |some d=>
  simp only[AS.iU]at h;cases hi:(nth st.iss d).getD true with
  |true=>rw[hi]at h;simp at h
  |false=>
   rw[hi]at h;simp only[ae]at h;cases hj:Nat.ble 4096 j with
   |true=>rw[hj]at h;simp at h
   |false=>
    rw[hj]at h;simp only[ae,bq]at h;have X0:j<4096:=by rcases bT j 4096 with hl|hg;exact hl;rw[iE hg]at hj;cases hj
    have hdiv:t/3/4096=d:=by rw[<-h,Mm];omega
    have aqs:t%3=2:=by rw[<-h,Mm];omega
    refine⟨?_,.inr ?_,d,rfl,h.symm,X0⟩;rintro(h1|h1);exact h1 aqs;rw[hdiv,hi]at h1;cases h1;simp only[AS.fW,ez,fV,hdiv];rw[ez]at hi;have gr:d<st.iss.length:=by rcases bT d st.iss.length with hl|hg;exact hl;rw[bJ hg]at hi;simp at hi
    simp[gr]
theorem eE.RV (h:eE C g st a w hs)(d:az Nat){v:Value}{av:AV}{fp:fA}{w':World}{hw':Nat->Nat}{hdr':Nat->Value}{st1:AS}(ayl:st1.io=st.io)(hs1:st1.slots=st.slots)(hb1:st1.boxes=st.boxes)(he1:st1.ep=st.ep)(hi1:∀t,nH st t->nH st1 t/\hdr' t=g.hdr t)(jt:Fr (λb=>ej (g.fj b)) w w')(II:∀b x,g.fj b=some x->¬ej (some x)->hw' b=g.hw b)(Lr:∀b o u,o<g.hw b->w.cell? ⟨b,o,none⟩=some u->o<hw' b/\w'.cell? ⟨b,o,none⟩=some u)(hr:gS (dq C {g with hw:=hw',hdr:=hdr'} st1 w') v av fp)(hn:fp.Nodup)(GR:∀b∈fp,b<w'.heap.size/\(ej (g.fj b)\/w.heap.size<=b)): ∃g',eE C g' (st1.put d av) (a.put d v) w' []:=by
 have hcA:∀k b o u,C.A k b o->w.cell? ⟨b,o,none⟩=some u->w'.cell? ⟨b,o,none⟩=some u:=by
  intro k b o u hA hu;have hb:b<w.heap.size:=World.block_lt_of_cell? w _ hu;have N3:¬ej (g.fj b):=by intro hh;cases hx:g.fj b with|none=>rw[hx]at hh;cases hh|some x=>exact h.Rq hx k o hA
  rw[World.cell?_of_block (a:=⟨b,o,none⟩) (jt.block b hb N3)];exact hu
 have hkp:∀b x,g.fj b=some x->¬ej (some x)->w'.heap[b]?=w.heap[b]?:=λb x hx hh=>jt.block b (h.gN b x hx).1 (by rw[hx];exact hh);let ahv:Nat->az kK:=λb=>if b∈fp then d.map .slot else if ej (g.fj b) then none else g.fj b
 have WK:Fr C.M C.w0 w':=h.frame.trans jt (λb hb hh=>by cases hx:g.fj b with|none=>rw[hx]at hh;cases hh|some x=>rcases(h.gN b x hx).2 with h2|h2;omega;exact h2);have hpr:∀s,jL st s->jL (st1.put d av) s:=by intro s hs;rw[Ng];simpa[jL,hb1]using hs
 have aqm:(dq C {g with hw:=hw',hdr:=hdr'} st1 w').Le (dq C ⟨hw',g.β,ahv,hdr'⟩ (st1.put d av) w'):=by refine⟨rfl,λt ht=>⟨by show nH (st1.put d av) t;rw[LC];exact ht,rfl⟩,λ_ _ _ _ _ hu=>hu,?_,λs hs=>⟨by show jL (st1.put d av) s;rw[Ng];exact hs,rfl⟩,λ_ b o u ho hu=>⟨ho,hu⟩⟩;show st1.ep<=(st1.put d av).ep;rw[MO];exact bt _
 have hle:(dq C g st w).Le (dq C ⟨hw',g.β,ahv,hdr'⟩ (st1.put d av) w'):=by refine⟨rfl,λt ht=>⟨by show nH (st1.put d av) t;rw[LC];exact(hi1 t ht).1,(hi1 t ht).2⟩,hcA,?_,λs hs=>⟨hpr s hs,rfl⟩,λ_ b o u ho hu=>Lr b o u ho hu⟩;show st.ep<=(st1.put d av).ep;rw[MO,he1];exact bt _
 have aqw:∀b x,g.fj b=some x->¬ej (some x)->b∉fp:=by intro b x hx hh hm;rcases(GR b hm).2 with h2|h2;rw[hx]at h2;exact hh h2;have:=(h.gN b x hx).1;omega
 have asD:∀b x,g.fj b=some x->¬ej (some x)->ahv b=some x:=by intro b x hx hh;show(if b∈fp then d.map kK.slot else if ej (g.fj b) then none else g.fj b)=some x;rw[aK (aqw b x hx hh),aK (by rw[hx];exact hh),hx]
 refine⟨⟨hw',g.β,ahv,hdr'⟩,h.step (λx=>¬ej (some x)/\some x≠d.map .slot) hle (by rw[Qr];exact h.defers) ?_ ?_ WK ?_ ?_ ?_ ?_ ?_ (.inl ⟨⟨by simp[lg],by cases d<;>simp⟩,by rw[M0,ayl]⟩)⟩;rw[aa9];cases d with|none=>show _=st1.slots.length;rw[hs1];exact h.size|some d=>rw[gx,ay,hs1];exact h.size
 rw[ly,hb1];cases d with|none=>show _=st1.slots.length;rw[hs1];exact h.bsize|some d=>rw[gx,ay,hs1];exact h.bsize
 intro b x hx;have D6:(if b∈fp then d.map kK.slot else if ej (g.fj b) then none else g.fj b)=some x:=hx;by_cases hm:b∈fp;refine⟨(GR b hm).1,?_⟩;rcases(GR b hm).2 with h2|h2;cases hy:g.fj b with|none=>rw[hy]at h2;cases h2|some y=>exact(h.gN b y hy).2
 exact .inl (bp h.frame.size h2);rw[aK hm]at D6;split at D6;cases D6;have:=h.gN b x D6;have hz:=jt.size;exact⟨by omega,this.2⟩;intro b x hk hx;exact⟨asD b x hx hk.1,hkp b x hx hk.1,II b x hx hk.1⟩;intro i bv hi;cases d with
 |none=>
  have wV:st.slots[i]?=some bv:=by rw[<-hs1];exact hi
  exact .inl ⟨⟨by simp[lg],by simp⟩,wV,rfl⟩
 |some d=>
  have wV:(st.slots.set d av)[i]?=some bv:=by rw[<-hs1,<-gx];exact hi
  by_cases Zp:i=d;subst Zp;rw[bO]at wV;simp only[cz]at wV;split at wV;rename_i gr;simp at wV;subst wV;refine .inr ⟨fp,?_,hn,λb hb=>?_⟩;rw[Mr];simp only[true_and,h.size,gr,cz];exact hr.mono aqm (λb _=>⟨rfl,rfl⟩);show(if b∈fp then _ else _)=_;rw[aI hb];rfl;cases wV;refine .inl ⟨⟨by simp[lg],by simpa using Zp⟩,?_,by rw[Mr];simp[Zp]⟩;rwa[aR (df Zp)]at wV
 intro s cs hb;have iz:st.boxes[s]?=some (some cs):=by rw[<-hb1,<-ly (d:=d) (v:=av)];exact hb
 exact .inl ⟨⟨by simp[lg],by cases d<;>simp⟩,iz,rfl⟩;intro k u bv hk;simp at hk
theorem eE.amS (h:eE C g st a w hs)(x:Operand):∃g',(g'.β=g.β/\g'.hw=g.hw/\g'.hdr=g.hdr/\∀b s,g.fj b=some (.box s)->g'.fj b=some (.box s))/\eE C g' (st.take x).2 a w (hs++[(a.eval x,(st.take x).1)]):=by
 have plain:∀y,(st.take y)=(st.rd y,st)->∃g',(g'.β=g.β/\g'.hw=g.hw/\g'.hdr=g.hdr/\∀b s,g.fj b=some (.box s)->g'.fj b=some (.box s))/\eE C g' (st.take y).2 a w (hs++[(a.eval y,(st.take y).1)]):=by
  intro y hy;rw[hy];refine⟨g,⟨rfl,rfl,rfl,λ_ _ hb=>hb⟩,h.defers,h.size,h.bsize,h.slots,h.boxes,λk v av hk=>?_,h.gN,h.frame,h.io⟩;rw[List.getElem?_append]at hk;split at hk;exact h.hands k v av hk;cases hm:k-hs.length with
  |zero=>rw[hm]at hk;simp at hk;obtain⟨rfl,rfl⟩:=hk;exact⟨[],h.rd y,by simp,by simp⟩
  |succ n=>rw[hm]at hk;simp at hk
 cases x with
 |const v=>exact plain _ rfl
 |func f=>exact plain _ rfl
 |global gl=>exact plain _ rfl
 |tmp t=>
  obtain⟨fp,hr,hn,hl⟩:=h.slot t;let cp:AS:=st.put (some t) ((st.get t).bl st.ep);let g':Gh:={g with fj:=λb=>if b∈fp then some (.hand hs.length) else g.fj b}
  have hle:(dq C g st w).Le (dq C g' cp w):=by have:= @W7 C g st w (some t) ((st.get t).bl st.ep);exact⟨this.A,this.hdr,this.Yl,this.ep,this.LS,this.aic⟩
  have hlk:∀b y,y≠ .slot t->g.fj b=some y->g'.fj b=some y:=by intro b y hy hb;show(if b∈fp then _ else _)=_;rw[aK (λhm=>hy (by have:=hl b hm;rw[hb]at this;simpa using this))];exact hb
  refine⟨g',⟨rfl,rfl,rfl,λb s hb=>hlk b _ (by simp) hb⟩,?_⟩;show eE C g' cp a w (hs++[(a.tmps.getD t undef,st.get t)]);refine h.step (λy=>y≠ .slot t) hle h.defers (by show _=(st.put (some t) ((st.get t).bl st.ep)).slots.length;rw[gx,ay];exact h.size) (by show(st.put (some t) ((st.get t).bl st.ep)).boxes.length=(st.put (some t) ((st.get t).bl st.ep)).slots.length;rw[ly,gx,ay];exact h.bsize) h.frame ?_ (λb y hy hb=>⟨hlk b y hy hb,rfl,rfl⟩) ?_ ?_ ?_ ?_;intro b y hb;have iz:(if b∈fp then some (kK.hand hs.length) else g.fj b)=some y:=hb;by_cases hm:b∈fp;exact h.gN b _ (hl b hm);rw[aK hm]at iz;exact h.gN b y iz;intro i bv hi;have wV:(st.slots.set t ((st.get t).bl st.ep))[i]?=some bv:=by rw[<-gx];exact hi
  by_cases Zp:i=t;subst Zp;rw[bO]at wV;simp only[cz]at wV;split at wV;simp at wV;subst wV;exact .inr ⟨[],(hr.bl).mono hle (by simp),by simp,by simp⟩;cases wV;rw[aR (df Zp)]at wV;exact .inl ⟨by simpa using Zp,wV,rfl⟩;intro s cs hb;have iz:st.boxes[s]?=some (some cs):=by rw[<-ly (d:=some t) (v:=(st.get t).bl st.ep)];exact hb
  exact .inl ⟨by simp,iz,rfl⟩;intro k v av hk;rw[List.getElem?_append]at hk;split at hk;exact .inl ⟨by simp,hk⟩;rename_i gr;cases hm:k-hs.length with
  |zero=>
   have:k=hs.length:=by omega
   subst this;rw[hm]at hk;simp only[cR,bq,Prod.mk.injEq]at hk;obtain⟨rfl,rfl⟩:=hk;refine .inr ⟨fp,hr.mono hle (λb _=>⟨rfl,rfl⟩),hn,λb hb=>?_⟩;show(if b∈fp then _ else _)=_;rw[aI hb]
  |succ n=>rw[hm]at hk;simp at hk
  exact .inl ⟨by simp,M0⟩
theorem eE.take (h:eE C g st a w hs)(x:Operand):∃g',eE C g' (st.take x).2 a w (hs++[(a.eval x,(st.take x).1)]):=by obtain⟨g',_,h'⟩:=h.amS x;exact⟨g',h'⟩
end Go.Dn
