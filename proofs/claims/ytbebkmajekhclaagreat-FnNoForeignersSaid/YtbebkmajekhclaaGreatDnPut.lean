import Derived.Test.YtbebkmajekhclaaGreatDnSim
/- The ways in which a state goes on: a slot is written, an operand is taken over, memory grows. -/
namespace Go.Dn
open Go.RowKit
variable {C:Ctx} {g:Gh} {st:AS} {a:Act} {w:World} {hs:ax (Value×AV)}
variable {d:az Nat}
theorem VJ (d:az Nat)(av:AV):(df C g st w).Le (df C g (st.put d av) w):=by refine⟨rfl,λt ht=>⟨by show oc (st.put d av) t;rw[Kq];exact ht,rfl⟩,λ_ _ _ _ _ hv=>hv,?_,λs hs=>⟨by show jW (st.put d av) s;rw[Mb];exact hs,rfl⟩,λ_ b o u ho hu=>⟨ho,hu⟩⟩;show st.ep<=(st.put d av).ep;rw[Lw];exact bj _
theorem eJ.quiet (h:eJ C g st a w hs)(d:az Nat){v:Value}{av:AV}(hr:gU (df C g st w) v av []): eJ C g (st.put d av) (a.put d v) w hs:=by cases d with|none=>exact h|some d=>have hle:= @VJ C g st w (some d) av;refine h.step (λx=>x≠ .slot d) hle (by rw[Pb];exact h.defers) (by rw[ZD,gG,aC];exact h.size) (by rw[lR,gG,aC];exact h.bsize) h.frame h.gW (λb x _ hx=>⟨hx,rfl,rfl⟩) ?_ ?_ ?_ ?_;intro i bv hi;by_cases XM:i=d;subst XM;rw[gG,bJ]at hi;simp only[ch]at hi;split at hi;rename_i gH;simp at hi;subst hi;refine .inr ⟨[],?_,by simp,by simp⟩;rw[K7];simp only[true_and,h.size,gH,ch];exact hr.mono hle (by simp);cases hi;refine .inl ⟨by simpa using XM,?_,by rw[K7];simp[XM]⟩;rwa[gG,aP (cZ XM)]at hi;intro s cs hb;rw[lR]at hb;exact .inl ⟨by simp,hb,rfl⟩;intro k u bv hk;exact .inl ⟨by simp,hk⟩;exact .inl ⟨by simp,rfl⟩
theorem BI {w w':World}(hf:Fr (λ_=>False) w w'){b o:Nat}{v:Value}(h:w.cell? ⟨b,o,none⟩=some v):w'.cell? ⟨b,o,none⟩=some v:=by have hb:b<w.heap.size:=World.block_lt_of_cell? w _ h;rw[World.cell?_of_block (a:=⟨b,o,none⟩) (hf.block b hb (λm=>m))];exact h
theorem eJ.grow (h:eJ C g st a w hs){w':World}(hf:Fr (λ_=>False) w w'):eJ C g st a w' hs:=by
 have hle:(df C g st w).Le (df C g st w'):=⟨rfl,λ_ ht=>⟨ht,rfl⟩,λ_ _ _ _ _ hv=>BI hf hv,bj _,λ_ hs=>⟨hs,rfl⟩,λ_ b o u ho hu=>⟨ho,BI hf hu⟩⟩
 refine h.step (λ_=>True) hle h.defers h.size h.bsize (h.frame.trans hf (λb _ m=>m.elim)) (λb x hx=>?_) (λb x _ hx=>⟨hx,hf.block b (h.gW b x hx).1 (λm=>m),rfl⟩) ?_ ?_ ?_ ?_;have hx:=h.gW b x hx;have:=hf.size;exact⟨by omega,hx.2⟩;exact λi av hi=> .inl ⟨cB,hi,rfl⟩;exact λs cs hb=> .inl ⟨cB,hb,rfl⟩;exact λk v av hk=> .inl ⟨cB,hk⟩;exact .inl ⟨cB,rfl⟩
theorem Fr.drew (M:Nat->Prop)(w:World):Fr M w w.drew:=⟨rfl,rfl,rfl,bj _,λ_ _ _=>rfl⟩
theorem Fr.alloc (M:Nat->Prop)(w:World)(o:Obj):Fr M w (w.alloc o):=⟨rfl,rfl,rfl,by simp,λb hb _=>heap_alloc_old w o b hb⟩
def lB:az kZ->Bool
 |some (.hand _)=>true
 |_=>false
abbrev eE (x:az kZ):Prop:=lB x=true
theorem LP {v:AV}:(st.put d v).io=st.io:=by cases d<;>rfl
theorem Kn:(st.gn d).io=st.io:=by cases d<;>rfl
theorem wF:(st.gn d).slots=st.slots:=by cases d<;>rfl
theorem CV:(st.gn d).boxes=st.boxes:=by cases d<;>rfl
theorem B6:(st.gn d).ep=st.ep:=by cases d<;>rfl
theorem E0 {t:Nat}(h:oc st t):oc (st.gn d) t:=by cases d with|none=>exact h|some d=>rcases h with h|h;exact .inl h;refine .inr ?_;simp only[AS.gn,eH,gj,bJ]at h⊢;split;split<;>simp;exact h
theorem rf {j t:Nat}(h:st.ja d j=some t):¬oc st t/\oc (st.gn d) t/\∃d',d=some d'/\t=K0 d' j/\j<4096:=by
 cases d with
 |none=>simp[AS.ja]at h
 |some d=>
  simp only[AS.ja]at h;cases hi:(nth st.iss d).getD true with
  |true=>rw[hi]at h;simp at h
  |false=>
   rw[hi]at h;simp only[af]at h;cases hj:Nat.ble 4096 j with
   |true=>rw[hj]at h;simp at h
   |false=>
    rw[hj]at h;simp only[af,bq]at h;have hjl:j<4096:=by rcases cr j 4096 with hl|hg;exact hl;rw[iG hg]at hj;cases hj
    have hdiv:t/3/4096=d:=by rw[<-h,K0];omega
    have aor:t%3=2:=by rw[<-h,K0];omega
    refine⟨?_,.inr ?_,d,rfl,h.symm,hjl⟩;rintro(h1|h1);exact h1 aor;rw[hdiv,hi]at h1;cases h1;simp only[AS.gn,eH,gj,hdiv];rw[eH]at hi;have gH:d<st.iss.length:=by rcases cr d st.iss.length with hl|hg;exact hl;rw[bI hg]at hi;simp at hi
    simp[gH]
theorem eJ.QE (h:eJ C g st a w hs)(d:az Nat){v:Value}{av:AV}{fp:fK}{w':World}{hw':Nat->Nat}{hdr':Nat->Value}{st1:AS}(avA:st1.io=st.io)(hs1:st1.slots=st.slots)(hb1:st1.boxes=st.boxes)(he1:st1.ep=st.ep)(hi1:∀t,oc st t->oc st1 t/\hdr' t=g.hdr t)(kb:Fr (λb=>eE (g.ft b)) w w')(Hr:∀b x,g.ft b=some x->¬eE (some x)->hw' b=g.hw b)(JY:∀b o u,o<g.hw b->w.cell? ⟨b,o,none⟩=some u->o<hw' b/\w'.cell? ⟨b,o,none⟩=some u)(hr:gU (df C {g with hw:=hw',hdr:=hdr'} st1 w') v av fp)(hn:fp.Nodup)(FC:∀b∈fp,b<w'.heap.size/\(eE (g.ft b)\/w.heap.size<=b)): ∃g',eJ C g' (st1.put d av) (a.put d v) w' []:=by
 have hcA:∀k b o u,C.A k b o->w.cell? ⟨b,o,none⟩=some u->w'.cell? ⟨b,o,none⟩=some u:=by
  intro k b o u hA hu;have hb:b<w.heap.size:=World.block_lt_of_cell? w _ hu;have MW:¬eE (g.ft b):=by intro hh;cases hx:g.ft b with|none=>rw[hx]at hh;cases hh|some x=>exact h.Qd hx k o hA
  rw[World.cell?_of_block (a:=⟨b,o,none⟩) (kb.block b hb MW)];exact hu
 have hkp:∀b x,g.ft b=some x->¬eE (some x)->w'.heap[b]?=w.heap[b]?:=λb x hx hh=>kb.block b (h.gW b x hx).1 (by rw[hx];exact hh);let af3:Nat->az kZ:=λb=>if b∈fp then d.map .slot else if eE (g.ft b) then none else g.ft b
 have Vk:Fr C.M C.w0 w':=h.frame.trans kb (λb hb hh=>by cases hx:g.ft b with|none=>rw[hx]at hh;cases hh|some x=>rcases(h.gW b x hx).2 with h2|h2;omega;exact h2);have hpr:∀s,jW st s->jW (st1.put d av) s:=by intro s hs;rw[Mb];simpa[jW,hb1]using hs
 have aol:(df C {g with hw:=hw',hdr:=hdr'} st1 w').Le (df C ⟨hw',g.β,af3,hdr'⟩ (st1.put d av) w'):=by refine⟨rfl,λt ht=>⟨by show oc (st1.put d av) t;rw[Kq];exact ht,rfl⟩,λ_ _ _ _ _ hu=>hu,?_,λs hs=>⟨by show jW (st1.put d av) s;rw[Mb];exact hs,rfl⟩,λ_ b o u ho hu=>⟨ho,hu⟩⟩;show st1.ep<=(st1.put d av).ep;rw[Lw];exact bj _
 have hle:(df C g st w).Le (df C ⟨hw',g.β,af3,hdr'⟩ (st1.put d av) w'):=by refine⟨rfl,λt ht=>⟨by show oc (st1.put d av) t;rw[Kq];exact(hi1 t ht).1,(hi1 t ht).2⟩,hcA,?_,λs hs=>⟨hpr s hs,rfl⟩,λ_ b o u ho hu=>JY b o u ho hu⟩;show st.ep<=(st1.put d av).ep;rw[Lw,he1];exact bj _
 have aov:∀b x,g.ft b=some x->¬eE (some x)->b∉fp:=by intro b x hx hh hm;rcases(FC b hm).2 with h2|h2;rw[hx]at h2;exact hh h2;have:=(h.gW b x hx).1;omega
 have aqz:∀b x,g.ft b=some x->¬eE (some x)->af3 b=some x:=by intro b x hx hh;show(if b∈fp then d.map kZ.slot else if eE (g.ft b) then none else g.ft b)=some x;rw[aG (aov b x hx hh),aG (by rw[hx];exact hh),hx]
 refine⟨⟨hw',g.β,af3,hdr'⟩,h.step (λx=>¬eE (some x)/\some x≠d.map .slot) hle (by rw[Pb];exact h.defers) ?_ ?_ Vk ?_ ?_ ?_ ?_ ?_ (.inl ⟨⟨by simp[lB],by cases d<;>simp⟩,by rw[LP,avA]⟩)⟩;rw[ZD];cases d with|none=>show _=st1.slots.length;rw[hs1];exact h.size|some d=>rw[gG,aC,hs1];exact h.size
 rw[lR,hb1];cases d with|none=>show _=st1.slots.length;rw[hs1];exact h.bsize|some d=>rw[gG,aC,hs1];exact h.bsize
 intro b x hx;have DE:(if b∈fp then d.map kZ.slot else if eE (g.ft b) then none else g.ft b)=some x:=hx;by_cases hm:b∈fp;refine⟨(FC b hm).1,?_⟩;rcases(FC b hm).2 with h2|h2;cases hy:g.ft b with|none=>rw[hy]at h2;cases h2|some y=>exact(h.gW b y hy).2
 exact .inl (bp h.frame.size h2);rw[aG hm]at DE;split at DE;cases DE;have:=h.gW b x DE;have hz:=kb.size;exact⟨by omega,this.2⟩;intro b x hk hx;exact⟨aqz b x hx hk.1,hkp b x hx hk.1,Hr b x hx hk.1⟩;intro i bv hi;cases d with
 |none=>
  have wL:st.slots[i]?=some bv:=by rw[<-hs1];exact hi
  exact .inl ⟨⟨by simp[lB],by simp⟩,wL,rfl⟩
 |some d=>
  have wL:(st.slots.set d av)[i]?=some bv:=by rw[<-hs1,<-gG];exact hi
  by_cases XM:i=d;subst XM;rw[bJ]at wL;simp only[ch]at wL;split at wL;rename_i gH;simp at wL;subst wL;refine .inr ⟨fp,?_,hn,λb hb=>?_⟩;rw[K7];simp only[true_and,h.size,gH,ch];exact hr.mono aol (λb _=>⟨rfl,rfl⟩);show(if b∈fp then _ else _)=_;rw[aI hb];rfl;cases wL;refine .inl ⟨⟨by simp[lB],by simpa using XM⟩,?_,by rw[K7];simp[XM]⟩;rwa[aP (cZ XM)]at wL
 intro s cs hb;have iI:st.boxes[s]?=some (some cs):=by rw[<-hb1,<-lR (d:=d) (v:=av)];exact hb
 exact .inl ⟨⟨by simp[lB],by cases d<;>simp⟩,iI,rfl⟩;intro k u bv hk;simp at hk
theorem eJ.ak9 (h:eJ C g st a w hs)(x:Operand):∃g',(g'.β=g.β/\g'.hw=g.hw/\g'.hdr=g.hdr/\∀b s,g.ft b=some (.box s)->g'.ft b=some (.box s))/\eJ C g' (st.take x).2 a w (hs++[(a.eval x,(st.take x).1)]):=by
 have plain:∀y,(st.take y)=(st.rd y,st)->∃g',(g'.β=g.β/\g'.hw=g.hw/\g'.hdr=g.hdr/\∀b s,g.ft b=some (.box s)->g'.ft b=some (.box s))/\eJ C g' (st.take y).2 a w (hs++[(a.eval y,(st.take y).1)]):=by
  intro y hy;rw[hy];refine⟨g,⟨rfl,rfl,rfl,λ_ _ hb=>hb⟩,h.defers,h.size,h.bsize,h.slots,h.boxes,λk v av hk=>?_,h.gW,h.frame,h.io⟩;rw[List.getElem?_append]at hk;split at hk;exact h.hands k v av hk;cases hm:k-hs.length with
  |zero=>rw[hm]at hk;simp at hk;obtain⟨rfl,rfl⟩:=hk;exact⟨[],h.rd y,by simp,by simp⟩
  |succ n=>rw[hm]at hk;simp at hk
 cases x with
 |const v=>exact plain _ rfl
 |func f=>exact plain _ rfl
 |global gl=>exact plain _ rfl
 |tmp t=>
  obtain⟨fp,hr,hn,hl⟩:=h.slot t;let bZ:AS:=st.put (some t) ((st.get t).bf st.ep);let g':Gh:={g with ft:=λb=>if b∈fp then some (.hand hs.length) else g.ft b}
  have hle:(df C g st w).Le (df C g' bZ w):=by have:= @VJ C g st w (some t) ((st.get t).bf st.ep);exact⟨this.A,this.hdr,this.WU,this.ep,this.KI,this.agO⟩
  have hlk:∀b y,y≠ .slot t->g.ft b=some y->g'.ft b=some y:=by intro b y hy hb;show(if b∈fp then _ else _)=_;rw[aG (λhm=>hy (by have:=hl b hm;rw[hb]at this;simpa using this))];exact hb
  refine⟨g',⟨rfl,rfl,rfl,λb s hb=>hlk b _ (by simp) hb⟩,?_⟩;show eJ C g' bZ a w (hs++[(a.tmps.getD t undef,st.get t)]);refine h.step (λy=>y≠ .slot t) hle h.defers (by show _=(st.put (some t) ((st.get t).bf st.ep)).slots.length;rw[gG,aC];exact h.size) (by show(st.put (some t) ((st.get t).bf st.ep)).boxes.length=(st.put (some t) ((st.get t).bf st.ep)).slots.length;rw[lR,gG,aC];exact h.bsize) h.frame ?_ (λb y hy hb=>⟨hlk b y hy hb,rfl,rfl⟩) ?_ ?_ ?_ ?_;intro b y hb;have iI:(if b∈fp then some (kZ.hand hs.length) else g.ft b)=some y:=hb;by_cases hm:b∈fp;exact h.gW b _ (hl b hm);rw[aG hm]at iI;exact h.gW b y iI;intro i bv hi;have wL:(st.slots.set t ((st.get t).bf st.ep))[i]?=some bv:=by rw[<-gG];exact hi
  by_cases XM:i=t;subst XM;rw[bJ]at wL;simp only[ch]at wL;split at wL;simp at wL;subst wL;exact .inr ⟨[],(hr.bf).mono hle (by simp),by simp,by simp⟩;cases wL;rw[aP (cZ XM)]at wL;exact .inl ⟨by simpa using XM,wL,rfl⟩;intro s cs hb;have iI:st.boxes[s]?=some (some cs):=by rw[<-lR (d:=some t) (v:=(st.get t).bf st.ep)];exact hb
  exact .inl ⟨by simp,iI,rfl⟩;intro k v av hk;rw[List.getElem?_append]at hk;split at hk;exact .inl ⟨by simp,hk⟩;rename_i gH;cases hm:k-hs.length with
  |zero=>
   have:k=hs.length:=by omega
   subst this;rw[hm]at hk;simp only[cD,bq,Prod.mk.injEq]at hk;obtain⟨rfl,rfl⟩:=hk;refine .inr ⟨fp,hr.mono hle (λb _=>⟨rfl,rfl⟩),hn,λb hb=>?_⟩;show(if b∈fp then _ else _)=_;rw[aI hb]
  |succ n=>rw[hm]at hk;simp at hk
  exact .inl ⟨by simp,LP⟩
theorem eJ.take (h:eJ C g st a w hs)(x:Operand):∃g',eJ C g' (st.take x).2 a w (hs++[(a.eval x,(st.take x).1)]):=by obtain⟨g',_,h'⟩:=h.ak9 x;exact⟨g',h'⟩
end Go.Dn
