import Derived.Test.YtpgnehchfeikmaaGreatDnSim
/- The ways in which a state goes on: a slot is written, an operand is taken over, memory grows. -/
namespace Go.Dn
open Go.RowKit
variable {C:Ctx} {g:Gh} {st:AS} {a:Act} {w:World} {hs:List (Value×AV)}
theorem Gm (d:Option Nat)(av:AV):(bH C g st w).Le (bH C g (st.put d av) w):=by refine⟨rfl,λt ht=>⟨by show gJ (st.put d av) t;rw[yg];exact ht,rfl⟩,λ_ _ _ _ _ hv=>hv,?_,λs hs=>⟨by show dS (st.put d av) s;rw[zB];exact hs,rfl⟩,λ_ b o u ho hu=>⟨ho,hu⟩⟩;show st.ep≤(st.put d av).ep;rw[zd];exact aQ _
theorem cw.quiet (h:cw C g st a w hs)(d:Option Nat){v:Value}{av:AV}(hr:dG (bH C g st w) v av []): cw C g (st.put d av) (a.put d v) w hs:=by cases d with|none=>exact h|some d=>have hle:= @Gm C g st w (some d) av;refine h.step (λx=>x≠ .slot d) hle (by rw[B3];exact h.defers) (by rw[JI,dE,aP];exact h.size) (by rw[fH,dE,aP];exact h.bsize) h.frame h.labs (λb x _ hx=>⟨hx,rfl,rfl⟩) ?_ ?_ ?_ ?_;intro i bv hi;by_cases hid:i=d;subst hid;rw[dE,List.getElem?_set]at hi;simp only[bj]at hi;split at hi;rename_i hlt;simp at hi;subst hi;refine .inr ⟨[],?_,by simp,by simp⟩;rw[yM];simp only[true_and,h.size,hlt,bj];exact hr.mono hle (by simp);cases hi;refine .inl ⟨by simpa using hid,?_,by rw[yM];simp[hid]⟩;rwa[dE,List.getElem?_set_ne (bL hid)]at hi;intro s cs hb;rw[fH]at hb;exact .inl ⟨by simp,hb,rfl⟩;intro k u bv hk;exact .inl ⟨by simp,hk⟩;exact .inl ⟨by simp,rfl⟩
theorem rz {w w':World}(hf:Fr (λ_=>False) w w'){b o:Nat}{v:Value}(h:w.cell? ⟨b,o,none⟩=some v):w'.cell? ⟨b,o,none⟩=some v:=by have hb:b<w.heap.size:=World.block_lt_of_cell? w _ h;rw[World.cell?_of_block (a:=⟨b,o,none⟩) (hf.block b hb (λm=>m))];exact h
theorem cw.grow (h:cw C g st a w hs){w':World}(hf:Fr (λ_=>False) w w'):cw C g st a w' hs:=by
 have hle:(bH C g st w).Le (bH C g st w'):=⟨rfl,λ_ ht=>⟨ht,rfl⟩,λ_ _ _ _ _ hv=>rz hf hv,aQ _,λ_ hs=>⟨hs,rfl⟩,λ_ b o u ho hu=>⟨ho,rz hf hu⟩⟩
 refine h.step (λ_=>True) hle h.defers h.size h.bsize (h.frame.trans hf (λb _ m=>m.elim)) (λb x hx=>?_) (λb x _ hx=>⟨hx,hf.block b (h.labs b x hx).1 (λm=>m),rfl⟩) ?_ ?_ ?_ ?_;have hx:=h.labs b x hx;have:=hf.size;exact⟨by omega,hx.2⟩;exact λi av hi=> .inl ⟨trivial,hi,rfl⟩;exact λs cs hb=> .inl ⟨trivial,hb,rfl⟩;exact λk v av hk=> .inl ⟨trivial,hk⟩;exact .inl ⟨trivial,rfl⟩
theorem Fr.drew (M:Nat→Prop)(w:World):Fr M w w.drew:=⟨rfl,rfl,rfl,aQ _,λ_ _ _=>rfl⟩
theorem Fr.alloc (M:Nat→Prop)(w:World)(o:Obj):Fr M w (w.alloc o):=⟨rfl,rfl,rfl,by simp,λb hb _=>heap_alloc_old w o b hb⟩
def dr:Option fj→Bool
 |some (.hand _)=>true
 |_=>false
abbrev ca (x:Option fj):Prop:=dr x=true
theorem zn {d:Option Nat}{v:AV}:(st.put d v).io=st.io:=by cases d<;>rfl
theorem ye {d:Option Nat}:(st.dp d).io=st.io:=by cases d<;>rfl
theorem nB {d:Option Nat}:(st.dp d).slots=st.slots:=by cases d<;>rfl
theorem qg {d:Option Nat}:(st.dp d).boxes=st.boxes:=by cases d<;>rfl
theorem rJ {d:Option Nat}:(st.dp d).ep=st.ep:=by cases d<;>rfl
theorem uv {d:Option Nat}{t:Nat}(h:gJ st t):gJ (st.dp d) t:=by cases d with|none=>exact h|some d=>rcases h with h|h;exact .inl h;refine .inr ?_;simp only[AS.dp,cz,di,List.getElem?_set]at h⊢;split;split<;>simp;exact h
theorem Ux {d:Option Nat}:dS (st.dp d)=dS st:=by funext s;simp[dS,qg]
theorem jY {d:Option Nat}{j t:Nat}(h:st.eD d j=some t):¬gJ st t∧gJ (st.dp d) t∧∃d',d=some d'∧t=yJ d' j∧j<4096:=by
 cases d with
 |none=>simp[AS.eD]at h
 |some d=>
  simp only[AS.eD]at h;cases hi:(nth st.iss d).getD true with
  |true=>rw[hi]at h;simp at h
  |false=>
   rw[hi]at h;simp only[ai]at h;cases hj:Nat.ble 4096 j with
   |true=>rw[hj]at h;simp at h
   |false=>
    rw[hj]at h;simp only[ai,aO]at h;have hjl:j<4096:=by rcases bB j 4096 with hl|hg;exact hl;rw[eu hg]at hj;cases hj
    have hdiv:t/3/4096=d:=by rw[←h,yJ];omega
    have hmod:t%3=2:=by rw[←h,yJ];omega
    refine⟨?_,.inr ?_,d,rfl,h.symm,hjl⟩;rintro(h1|h1);exact h1 hmod;rw[hdiv,hi]at h1;cases h1;simp only[AS.dp,cz,di,hdiv];rw[cz]at hi;have hlt:d<st.iss.length:=by rcases bB d st.iss.length with hl|hg;exact hl;rw[List.getElem?_eq_none hg]at hi;simp at hi
    simp[hlt]
theorem cw.CU (h:cw C g st a w hs)(d:Option Nat){v:Value}{av:AV}{fp:List Nat}{w':World}{hw':Nat→Nat}{hdr':Nat→Value}{st1:AS}(hio1:st1.io=st.io)(hs1:st1.slots=st.slots)(hb1:st1.boxes=st.boxes)(he1:st1.ep=st.ep)(hi1:∀t,gJ st t→gJ st1 t∧hdr' t=g.hdr t)(hfr:Fr (λb=>ca (g.lab b)) w w')(hhw:∀b x,g.lab b=some x→¬ca (some x)→hw' b=g.hw b)(hprot:∀b o u,o<g.hw b→w.cell? ⟨b,o,none⟩=some u→o<hw' b∧w'.cell? ⟨b,o,none⟩=some u)(hr:dG (bH C {g with hw:=hw',hdr:=hdr'} st1 w') v av fp)(hn:fp.Nodup)(hfp:∀b∈fp,b<w'.heap.size∧(ca (g.lab b)∨w.heap.size≤b)): ∃g',cw C g' (st1.put d av) (a.put d v) w' []:=by
 have hcA:∀k b o u,C.A k b o→w.cell? ⟨b,o,none⟩=some u→w'.cell? ⟨b,o,none⟩=some u:=by
  intro k b o u hA hu;have hb:b<w.heap.size:=World.block_lt_of_cell? w _ hu;have hnl:¬ca (g.lab b):=by intro hh;cases hx:g.lab b with|none=>rw[hx]at hh;cases hh|some x=>exact h.zq hx k o hA
  rw[World.cell?_of_block (a:=⟨b,o,none⟩) (hfr.block b hb hnl)];exact hu
 have hkp:∀b x,g.lab b=some x→¬ca (some x)→w'.heap[b]?=w.heap[b]?:=λb x hx hh=>hfr.block b (h.labs b x hx).1 (by rw[hx];exact hh);let lab':Nat→Option fj:=λb=>if b∈fp then d.map .slot else if ca (g.lab b) then none else g.lab b
 have hfrC:Fr C.M C.w0 w':=h.frame.trans hfr (λb hb hh=>by cases hx:g.lab b with|none=>rw[hx]at hh;cases hh|some x=>rcases(h.labs b x hx).2 with h2|h2;omega;exact h2);have hpr:∀s,dS st s→dS (st1.put d av) s:=by intro s hs;rw[zB];simpa[dS,hb1]using hs
 have hle1:(bH C {g with hw:=hw',hdr:=hdr'} st1 w').Le (bH C ⟨hw',g.β,lab',hdr'⟩ (st1.put d av) w'):=by refine⟨rfl,λt ht=>⟨by show gJ (st1.put d av) t;rw[yg];exact ht,rfl⟩,λ_ _ _ _ _ hu=>hu,?_,λs hs=>⟨by show dS (st1.put d av) s;rw[zB];exact hs,rfl⟩,λ_ b o u ho hu=>⟨ho,hu⟩⟩;show st1.ep≤(st1.put d av).ep;rw[zd];exact aQ _
 have hle:(bH C g st w).Le (bH C ⟨hw',g.β,lab',hdr'⟩ (st1.put d av) w'):=by refine⟨rfl,λt ht=>⟨by show gJ (st1.put d av) t;rw[yg];exact(hi1 t ht).1,(hi1 t ht).2⟩,hcA,?_,λs hs=>⟨hpr s hs,rfl⟩,λ_ b o u ho hu=>hprot b o u ho hu⟩;show st.ep≤(st1.put d av).ep;rw[zd,he1];exact aQ _
 have hnotin:∀b x,g.lab b=some x→¬ca (some x)→b∉fp:=by intro b x hx hh hm;rcases(hfp b hm).2 with h2|h2;rw[hx]at h2;exact hh h2;have:=(h.labs b x hx).1;omega
 have hlabk:∀b x,g.lab b=some x→¬ca (some x)→lab' b=some x:=by intro b x hx hh;show(if b∈fp then d.map fj.slot else if ca (g.lab b) then none else g.lab b)=some x;rw[aq (hnotin b x hx hh),aq (by rw[hx];exact hh),hx]
 refine⟨⟨hw',g.β,lab',hdr'⟩,h.step (λx=>¬ca (some x)∧some x≠d.map .slot) hle (by rw[B3];exact h.defers) ?_ ?_ hfrC ?_ ?_ ?_ ?_ ?_ (.inl ⟨⟨by simp[dr],by cases d<;>simp⟩,by rw[zn,hio1]⟩)⟩;rw[JI];cases d with|none=>show _=st1.slots.length;rw[hs1];exact h.size|some d=>rw[dE,aP,hs1];exact h.size
 rw[fH,hb1];cases d with|none=>show _=st1.slots.length;rw[hs1];exact h.bsize|some d=>rw[dE,aP,hs1];exact h.bsize
 intro b x hx;have hx':(if b∈fp then d.map fj.slot else if ca (g.lab b) then none else g.lab b)=some x:=hx;by_cases hm:b∈fp;refine⟨(hfp b hm).1,?_⟩;rcases(hfp b hm).2 with h2|h2;cases hy:g.lab b with|none=>rw[hy]at h2;cases h2|some y=>exact(h.labs b y hy).2
 exact .inl (bS h.frame.size h2);rw[aq hm]at hx';split at hx';cases hx';have:=h.labs b x hx';have hz:=hfr.size;exact⟨by omega,this.2⟩;intro b x hk hx;exact⟨hlabk b x hx hk.1,hkp b x hx hk.1,hhw b x hx hk.1⟩;intro i bv hi;cases d with
 |none=>
  have hi':st.slots[i]?=some bv:=by rw[←hs1];exact hi
  exact .inl ⟨⟨by simp[dr],by simp⟩,hi',rfl⟩
 |some d=>
  have hi':(st.slots.set d av)[i]?=some bv:=by rw[←hs1,←dE];exact hi
  by_cases hid:i=d;subst hid;rw[List.getElem?_set]at hi';simp only[bj]at hi';split at hi';rename_i hlt;simp at hi';subst hi';refine .inr ⟨fp,?_,hn,λb hb=>?_⟩;rw[yM];simp only[true_and,h.size,hlt,bj];exact hr.mono hle1 (λb _=>⟨rfl,rfl⟩);show(if b∈fp then _ else _)=_;rw[au hb];rfl;cases hi';refine .inl ⟨⟨by simp[dr],by simpa using hid⟩,?_,by rw[yM];simp[hid]⟩;rwa[List.getElem?_set_ne (bL hid)]at hi'
 intro s cs hb;have hb':st.boxes[s]?=some (some cs):=by rw[←hb1,←fH (d:=d) (v:=av)];exact hb
 exact .inl ⟨⟨by simp[dr],by cases d<;>simp⟩,hb',rfl⟩;intro k u bv hk;simp at hk
theorem cw.Sy (h:cw C g st a w hs)(x:Operand):∃g',(g'.β=g.β∧g'.hw=g.hw∧g'.hdr=g.hdr∧∀b s,g.lab b=some (.box s)→g'.lab b=some (.box s))∧cw C g' (st.take x).2 a w (hs++[(a.eval x,(st.take x).1)]):=by
 have plain:∀y,(st.take y)=(st.rd y,st)→∃g',(g'.β=g.β∧g'.hw=g.hw∧g'.hdr=g.hdr∧∀b s,g.lab b=some (.box s)→g'.lab b=some (.box s))∧cw C g' (st.take y).2 a w (hs++[(a.eval y,(st.take y).1)]):=by
  intro y hy;rw[hy];refine⟨g,⟨rfl,rfl,rfl,λ_ _ hb=>hb⟩,h.defers,h.size,h.bsize,h.slots,h.boxes,λk v av hk=>?_,h.labs,h.frame,h.io⟩;rw[List.getElem?_append]at hk;split at hk;exact h.hands k v av hk;cases hm:k-hs.length with
  |zero=>rw[hm]at hk;simp at hk;obtain⟨rfl,rfl⟩:=hk;exact⟨[],h.rd y,by simp,by simp⟩
  |succ n=>rw[hm]at hk;simp at hk
 cases x with
 |const v=>exact plain _ rfl
 |func f=>exact plain _ rfl
 |global gl=>exact plain _ rfl
 |tmp t=>
  obtain⟨fp,hr,hn,hl⟩:=h.slot t;let st':AS:=st.put (some t) ((st.get t).aE st.ep);let g':Gh:={g with lab:=λb=>if b∈fp then some (.hand hs.length) else g.lab b}
  have hle:(bH C g st w).Le (bH C g' st' w):=by have:= @Gm C g st w (some t) ((st.get t).aE st.ep);exact⟨this.A,this.hdr,this.cellA,this.ep,this.pres,this.prot⟩
  have hlk:∀b y,y≠ .slot t→g.lab b=some y→g'.lab b=some y:=by intro b y hy hb;show(if b∈fp then _ else _)=_;rw[aq (λhm=>hy (by have:=hl b hm;rw[hb]at this;simpa using this))];exact hb
  refine⟨g',⟨rfl,rfl,rfl,λb s hb=>hlk b _ (by simp) hb⟩,?_⟩;show cw C g' st' a w (hs++[(a.tmps.getD t undef,st.get t)]);refine h.step (λy=>y≠ .slot t) hle h.defers (by show _=(st.put (some t) ((st.get t).aE st.ep)).slots.length;rw[dE,aP];exact h.size) (by show(st.put (some t) ((st.get t).aE st.ep)).boxes.length=(st.put (some t) ((st.get t).aE st.ep)).slots.length;rw[fH,dE,aP];exact h.bsize) h.frame ?_ (λb y hy hb=>⟨hlk b y hy hb,rfl,rfl⟩) ?_ ?_ ?_ ?_;intro b y hb;have hb':(if b∈fp then some (fj.hand hs.length) else g.lab b)=some y:=hb;by_cases hm:b∈fp;exact h.labs b _ (hl b hm);rw[aq hm]at hb';exact h.labs b y hb';intro i bv hi;have hi':(st.slots.set t ((st.get t).aE st.ep))[i]?=some bv:=by rw[←dE];exact hi
  by_cases hid:i=t;subst hid;rw[List.getElem?_set]at hi';simp only[bj]at hi';split at hi';simp at hi';subst hi';exact .inr ⟨[],(hr.aE).mono hle (by simp),by simp,by simp⟩;cases hi';rw[List.getElem?_set_ne (bL hid)]at hi';exact .inl ⟨by simpa using hid,hi',rfl⟩;intro s cs hb;have hb':st.boxes[s]?=some (some cs):=by rw[←fH (d:=some t) (v:=(st.get t).aE st.ep)];exact hb
  exact .inl ⟨by simp,hb',rfl⟩;intro k v av hk;rw[List.getElem?_append]at hk;split at hk;exact .inl ⟨by simp,hk⟩;rename_i hlt;cases hm:k-hs.length with
  |zero=>
   have:k=hs.length:=by omega
   subst this;rw[hm]at hk;simp only[List.getElem?_cons_zero,aO,Prod.mk.injEq]at hk;obtain⟨rfl,rfl⟩:=hk;refine .inr ⟨fp,hr.mono hle (λb _=>⟨rfl,rfl⟩),hn,λb hb=>?_⟩;show(if b∈fp then _ else _)=_;rw[au hb]
  |succ n=>rw[hm]at hk;simp at hk
  exact .inl ⟨by simp,zn⟩
theorem cw.take (h:cw C g st a w hs)(x:Operand):∃g',cw C g' (st.take x).2 a w (hs++[(a.eval x,(st.take x).1)]):=by obtain⟨g',_,h'⟩:=h.Sy x;exact⟨g',h'⟩
theorem Vy (x:Operand):(st.take x).2.boxes=st.boxes:=by cases x<;>simp[AS.take,fH]
end Go.Dn
