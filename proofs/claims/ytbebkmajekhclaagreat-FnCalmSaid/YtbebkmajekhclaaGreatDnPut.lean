import Derived.Test.YtbebkmajekhclaaGreatDnSim
/- The ways in which a state goes on: a slot is written, an operand is taken over, memory grows. -/
namespace Go.Dn
open Go.RowKit
variable {C:Ctx} {g:Gh} {st:AS} {a:Act} {w:World} {hs:aw (Value×AV)}
variable {d:aB Nat}
theorem W9 (d:aB Nat)(av:AV):(dz C g st w).Le (dz C g (st.put d av) w):=by refine⟨rfl,λt ht=>⟨by show oA (st.put d av) t;rw[K5];exact ht,rfl⟩,λ_ _ _ _ _ hv=>hv,?_,λs hs=>⟨by show ku (st.put d av) s;rw[MY];exact hs,rfl⟩,λ_ b o u ho hu=>⟨ho,hu⟩⟩;show st.ep<=(st.put d av).ep;rw[Mf];exact bc _
theorem fb.quiet (h:fb C g st a w hs)(d:aB Nat){v:Value}{av:AV}(hr:il (dz C g st w) v av []): fb C g (st.put d av) (a.put d v) w hs:=by cases d with|none=>exact h|some d=>have hle:= @W9 C g st w (some d) av;refine h.step (λx=>x≠ .slot d) hle (by rw[P6];exact h.defers) (by rw[aa3,gV,az];exact h.size) (by rw[mj,gV,az];exact h.bsize) h.frame h.im (λb x _ hx=>⟨hx,rfl,rfl⟩) ?_ ?_ ?_ ?_;intro i bv hi;by_cases Zh:i=d;subst Zh;rw[gV,bJ]at hi;simp only[cw]at hi;split at hi;rename_i hG;simp at hi;subst hi;refine .inr ⟨[],?_,by simp,by simp⟩;rw[LR];simp only[true_and,h.size,hG,cw];exact hr.mono hle (by simp);cases hi;refine .inl ⟨by simpa using Zh,?_,by rw[LR];simp[Zh]⟩;rwa[gV,aE (cl Zh)]at hi;intro s cs hb;rw[mj]at hb;exact .inl ⟨by simp,hb,rfl⟩;intro k u bv hk;exact .inl ⟨by simp,hk⟩;exact .inl ⟨by simp,rfl⟩
theorem Cc {w w':World}(hf:Fr (λ_=>False) w w'){b o:Nat}{v:Value}(h:w.cell? ⟨b,o,none⟩=some v):w'.cell? ⟨b,o,none⟩=some v:=by have hb:b<w.heap.size:=World.block_lt_of_cell? w _ h;rw[World.cell?_of_block (a:=⟨b,o,none⟩) (hf.block b hb (λm=>m))];exact h
theorem fb.grow (h:fb C g st a w hs){w':World}(hf:Fr (λ_=>False) w w'):fb C g st a w' hs:=by
 have hle:(dz C g st w).Le (dz C g st w'):=⟨rfl,λ_ ht=>⟨ht,rfl⟩,λ_ _ _ _ _ hv=>Cc hf hv,bc _,λ_ hs=>⟨hs,rfl⟩,λ_ b o u ho hu=>⟨ho,Cc hf hu⟩⟩
 refine h.step (λ_=>True) hle h.defers h.size h.bsize (h.frame.trans hf (λb _ m=>m.elim)) (λb x hx=>?_) (λb x _ hx=>⟨hx,hf.block b (h.im b x hx).1 (λm=>m),rfl⟩) ?_ ?_ ?_ ?_;have hx:=h.im b x hx;have:=hf.size;exact⟨by omega,hx.2⟩;exact λi av hi=> .inl ⟨cG,hi,rfl⟩;exact λs cs hb=> .inl ⟨cG,hb,rfl⟩;exact λk v av hk=> .inl ⟨cG,hk⟩;exact .inl ⟨cG,rfl⟩
theorem Fr.drew (M:Nat->Prop)(w:World):Fr M w w.drew:=⟨rfl,rfl,rfl,bc _,λ_ _ _=>rfl⟩
theorem Fr.alloc (M:Nat->Prop)(w:World)(o:Obj):Fr M w (w.alloc o):=⟨rfl,rfl,rfl,by simp,λb hb _=>heap_alloc_old w o b hb⟩
def lS:aB lz->Bool
 |some (.hand _)=>true
 |_=>false
abbrev eQ (x:aB lz):Prop:=lS x=true
theorem Mz {v:AV}:(st.put d v).io=st.io:=by cases d<;>rfl
theorem K4:(st.gJ d).io=st.io:=by cases d<;>rfl
theorem xe:(st.gJ d).slots=st.slots:=by cases d<;>rfl
theorem Dp:(st.gJ d).boxes=st.boxes:=by cases d<;>rfl
theorem Cv:(st.gJ d).ep=st.ep:=by cases d<;>rfl
theorem Fs {t:Nat}(h:oA st t):oA (st.gJ d) t:=by cases d with|none=>exact h|some d=>rcases h with h|h;exact .inl h;refine .inr ?_;simp only[AS.gJ,eU,gH,bJ]at h⊢;split;split<;>simp;exact h
theorem rH {j t:Nat}(h:st.jm d j=some t):¬oA st t/\oA (st.gJ d) t/\∃d',d=some d'/\t=LI d' j/\j<4096:=by
 cases d with
 |none=>simp[AS.jm]at h
 |some d=>
  simp only[AS.jm]at h;cases hi:(nth st.iss d).getD true with
  |true=>rw[hi]at h;simp at h
  |false=>
   rw[hi]at h;simp only[af]at h;cases hj:Nat.ble 4096 j with
   |true=>rw[hj]at h;simp at h
   |false=>
    rw[hj]at h;simp only[af,bu]at h;have hjl:j<4096:=by rcases cg j 4096 with hl|hg;exact hl;rw[iY hg]at hj;cases hj
    have hdiv:t/3/4096=d:=by rw[<-h,LI];omega
    have aqg:t%3=2:=by rw[<-h,LI];omega
    refine⟨?_,.inr ?_,d,rfl,h.symm,hjl⟩;rintro(h1|h1);exact h1 aqg;rw[hdiv,hi]at h1;cases h1;simp only[AS.gJ,eU,gH,hdiv];rw[eU]at hi;have hG:d<st.iss.length:=by rcases cg d st.iss.length with hl|hg;exact hl;rw[bI hg]at hi;simp at hi
    simp[hG]
theorem fb.RL (h:fb C g st a w hs)(d:aB Nat){v:Value}{av:AV}{fp:fM}{w':World}{hw':Nat->Nat}{hdr':Nat->Value}{st1:AS}(axn:st1.io=st.io)(hs1:st1.slots=st.slots)(hb1:st1.boxes=st.boxes)(he1:st1.ep=st.ep)(hi1:∀t,oA st t->oA st1 t/\hdr' t=g.hdr t)(jZ:Fr (λb=>eQ (g.fE b)) w w')(HY:∀b x,g.fE b=some x->¬eQ (some x)->hw' b=g.hw b)(KF:∀b o u,o<g.hw b->w.cell? ⟨b,o,none⟩=some u->o<hw' b/\w'.cell? ⟨b,o,none⟩=some u)(hr:il (dz C {g with hw:=hw',hdr:=hdr'} st1 w') v av fp)(hn:fp.Nodup)(F5:∀b∈fp,b<w'.heap.size/\(eQ (g.fE b)\/w.heap.size<=b)): ∃g',fb C g' (st1.put d av) (a.put d v) w' []:=by
 have hcA:∀k b o u,C.A k b o->w.cell? ⟨b,o,none⟩=some u->w'.cell? ⟨b,o,none⟩=some u:=by
  intro k b o u hA hu;have hb:b<w.heap.size:=World.block_lt_of_cell? w _ hu;have NL:¬eQ (g.fE b):=by intro hh;cases hx:g.fE b with|none=>rw[hx]at hh;cases hh|some x=>exact h.Re hx k o hA
  rw[World.cell?_of_block (a:=⟨b,o,none⟩) (jZ.block b hb NL)];exact hu
 have hkp:∀b x,g.fE b=some x->¬eQ (some x)->w'.heap[b]?=w.heap[b]?:=λb x hx hh=>jZ.block b (h.im b x hx).1 (by rw[hx];exact hh);let ahB:Nat->aB lz:=λb=>if b∈fp then d.map .slot else if eQ (g.fE b) then none else g.fE b
 have WL:Fr C.M C.w0 w':=h.frame.trans jZ (λb hb hh=>by cases hx:g.fE b with|none=>rw[hx]at hh;cases hh|some x=>rcases(h.im b x hx).2 with h2|h2;omega;exact h2);have hpr:∀s,ku st s->ku (st1.put d av) s:=by intro s hs;rw[MY];simpa[ku,hb1]using hs
 have aqb:(dz C {g with hw:=hw',hdr:=hdr'} st1 w').Le (dz C ⟨hw',g.β,ahB,hdr'⟩ (st1.put d av) w'):=by refine⟨rfl,λt ht=>⟨by show oA (st1.put d av) t;rw[K5];exact ht,rfl⟩,λ_ _ _ _ _ hu=>hu,?_,λs hs=>⟨by show ku (st1.put d av) s;rw[MY];exact hs,rfl⟩,λ_ b o u ho hu=>⟨ho,hu⟩⟩;show st1.ep<=(st1.put d av).ep;rw[Mf];exact bc _
 have hle:(dz C g st w).Le (dz C ⟨hw',g.β,ahB,hdr'⟩ (st1.put d av) w'):=by refine⟨rfl,λt ht=>⟨by show oA (st1.put d av) t;rw[K5];exact(hi1 t ht).1,(hi1 t ht).2⟩,hcA,?_,λs hs=>⟨hpr s hs,rfl⟩,λ_ b o u ho hu=>KF b o u ho hu⟩;show st.ep<=(st1.put d av).ep;rw[Mf,he1];exact bc _
 have aqk:∀b x,g.fE b=some x->¬eQ (some x)->b∉fp:=by intro b x hx hh hm;rcases(F5 b hm).2 with h2|h2;rw[hx]at h2;exact hh h2;have:=(h.im b x hx).1;omega
 have asr:∀b x,g.fE b=some x->¬eQ (some x)->ahB b=some x:=by intro b x hx hh;show(if b∈fp then d.map lz.slot else if eQ (g.fE b) then none else g.fE b)=some x;rw[aG (aqk b x hx hh),aG (by rw[hx];exact hh),hx]
 refine⟨⟨hw',g.β,ahB,hdr'⟩,h.step (λx=>¬eQ (some x)/\some x≠d.map .slot) hle (by rw[P6];exact h.defers) ?_ ?_ WL ?_ ?_ ?_ ?_ ?_ (.inl ⟨⟨by simp[lS],by cases d<;>simp⟩,by rw[Mz,axn]⟩)⟩;rw[aa3];cases d with|none=>show _=st1.slots.length;rw[hs1];exact h.size|some d=>rw[gV,az,hs1];exact h.size
 rw[mj,hb1];cases d with|none=>show _=st1.slots.length;rw[hs1];exact h.bsize|some d=>rw[gV,az,hs1];exact h.bsize
 intro b x hx;have Dd:(if b∈fp then d.map lz.slot else if eQ (g.fE b) then none else g.fE b)=some x:=hx;by_cases hm:b∈fp;refine⟨(F5 b hm).1,?_⟩;rcases(F5 b hm).2 with h2|h2;cases hy:g.fE b with|none=>rw[hy]at h2;cases h2|some y=>exact(h.im b y hy).2
 exact .inl (bq h.frame.size h2);rw[aG hm]at Dd;split at Dd;cases Dd;have:=h.im b x Dd;have hz:=jZ.size;exact⟨by omega,this.2⟩;intro b x hk hx;exact⟨asr b x hx hk.1,hkp b x hx hk.1,HY b x hx hk.1⟩;intro i bv hi;cases d with
 |none=>
  have xk:st.slots[i]?=some bv:=by rw[<-hs1];exact hi
  exact .inl ⟨⟨by simp[lS],by simp⟩,xk,rfl⟩
 |some d=>
  have xk:(st.slots.set d av)[i]?=some bv:=by rw[<-hs1,<-gV];exact hi
  by_cases Zh:i=d;subst Zh;rw[bJ]at xk;simp only[cw]at xk;split at xk;rename_i hG;simp at xk;subst xk;refine .inr ⟨fp,?_,hn,λb hb=>?_⟩;rw[LR];simp only[true_and,h.size,hG,cw];exact hr.mono aqb (λb _=>⟨rfl,rfl⟩);show(if b∈fp then _ else _)=_;rw[aH hb];rfl;cases xk;refine .inl ⟨⟨by simp[lS],by simpa using Zh⟩,?_,by rw[LR];simp[Zh]⟩;rwa[aE (cl Zh)]at xk
 intro s cs hb;have iy:st.boxes[s]?=some (some cs):=by rw[<-hb1,<-mj (d:=d) (v:=av)];exact hb
 exact .inl ⟨⟨by simp[lS],by cases d<;>simp⟩,iy,rfl⟩;intro k u bv hk;simp at hk
theorem fb.amM (h:fb C g st a w hs)(x:Operand):∃g',(g'.β=g.β/\g'.hw=g.hw/\g'.hdr=g.hdr/\∀b s,g.fE b=some (.box s)->g'.fE b=some (.box s))/\fb C g' (st.take x).2 a w (hs++[(a.eval x,(st.take x).1)]):=by
 have plain:∀y,(st.take y)=(st.rd y,st)->∃g',(g'.β=g.β/\g'.hw=g.hw/\g'.hdr=g.hdr/\∀b s,g.fE b=some (.box s)->g'.fE b=some (.box s))/\fb C g' (st.take y).2 a w (hs++[(a.eval y,(st.take y).1)]):=by
  intro y hy;rw[hy];refine⟨g,⟨rfl,rfl,rfl,λ_ _ hb=>hb⟩,h.defers,h.size,h.bsize,h.slots,h.boxes,λk v av hk=>?_,h.im,h.frame,h.io⟩;rw[List.getElem?_append]at hk;split at hk;exact h.hands k v av hk;cases hm:k-hs.length with
  |zero=>rw[hm]at hk;simp at hk;obtain⟨rfl,rfl⟩:=hk;exact⟨[],h.rd y,by simp,by simp⟩
  |succ n=>rw[hm]at hk;simp at hk
 cases x with
 |const v=>exact plain _ rfl
 |func f=>exact plain _ rfl
 |global gl=>exact plain _ rfl
 |tmp t=>
  obtain⟨fp,hr,hn,hl⟩:=h.slot t;let cj:AS:=st.put (some t) ((st.get t).bg st.ep);let g':Gh:={g with fE:=λb=>if b∈fp then some (.hand hs.length) else g.fE b}
  have hle:(dz C g st w).Le (dz C g' cj w):=by have:= @W9 C g st w (some t) ((st.get t).bg st.ep);exact⟨this.A,this.hdr,this.Yj,this.ep,this.Lp,this.ain⟩
  have hlk:∀b y,y≠ .slot t->g.fE b=some y->g'.fE b=some y:=by intro b y hy hb;show(if b∈fp then _ else _)=_;rw[aG (λhm=>hy (by have:=hl b hm;rw[hb]at this;simpa using this))];exact hb
  refine⟨g',⟨rfl,rfl,rfl,λb s hb=>hlk b _ (by simp) hb⟩,?_⟩;show fb C g' cj a w (hs++[(a.tmps.getD t undef,st.get t)]);refine h.step (λy=>y≠ .slot t) hle h.defers (by show _=(st.put (some t) ((st.get t).bg st.ep)).slots.length;rw[gV,az];exact h.size) (by show(st.put (some t) ((st.get t).bg st.ep)).boxes.length=(st.put (some t) ((st.get t).bg st.ep)).slots.length;rw[mj,gV,az];exact h.bsize) h.frame ?_ (λb y hy hb=>⟨hlk b y hy hb,rfl,rfl⟩) ?_ ?_ ?_ ?_;intro b y hb;have iy:(if b∈fp then some (lz.hand hs.length) else g.fE b)=some y:=hb;by_cases hm:b∈fp;exact h.im b _ (hl b hm);rw[aG hm]at iy;exact h.im b y iy;intro i bv hi;have xk:(st.slots.set t ((st.get t).bg st.ep))[i]?=some bv:=by rw[<-gV];exact hi
  by_cases Zh:i=t;subst Zh;rw[bJ]at xk;simp only[cw]at xk;split at xk;simp at xk;subst xk;exact .inr ⟨[],(hr.bg).mono hle (by simp),by simp,by simp⟩;cases xk;rw[aE (cl Zh)]at xk;exact .inl ⟨by simpa using Zh,xk,rfl⟩;intro s cs hb;have iy:st.boxes[s]?=some (some cs):=by rw[<-mj (d:=some t) (v:=(st.get t).bg st.ep)];exact hb
  exact .inl ⟨by simp,iy,rfl⟩;intro k v av hk;rw[List.getElem?_append]at hk;split at hk;exact .inl ⟨by simp,hk⟩;rename_i hG;cases hm:k-hs.length with
  |zero=>
   have:k=hs.length:=by omega
   subst this;rw[hm]at hk;simp only[cM,bu,Prod.mk.injEq]at hk;obtain⟨rfl,rfl⟩:=hk;refine .inr ⟨fp,hr.mono hle (λb _=>⟨rfl,rfl⟩),hn,λb hb=>?_⟩;show(if b∈fp then _ else _)=_;rw[aH hb]
  |succ n=>rw[hm]at hk;simp at hk
  exact .inl ⟨by simp,Mz⟩
theorem fb.take (h:fb C g st a w hs)(x:Operand):∃g',fb C g' (st.take x).2 a w (hs++[(a.eval x,(st.take x).1)]):=by obtain⟨g',_,h'⟩:=h.amM x;exact⟨g',h'⟩
end Go.Dn
