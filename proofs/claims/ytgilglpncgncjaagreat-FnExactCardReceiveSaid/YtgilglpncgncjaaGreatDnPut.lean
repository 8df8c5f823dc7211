import Derived.Test.YtgilglpncgncjaaGreatDnSim
/- The ways in which a state goes on: a slot is written, an operand is taken over, memory grows. -/
namespace Go.Dn
open Go.RowKit
variable {C:Ctx} {g:Gh} {st:AS} {a:Act} {w:World} {hs:List (Value×AV)}
theorem Jd (d:Option Nat)(av:AV):(aP C g st w).Le (aP C g (st.put d av) w):=by
 refine ⟨rfl,fun t ht=>⟨by show gk (st.put d av) t;rw [Ah];exact ht,rfl⟩,fun _ _ _ _ hv=>hv, ?_,fun s hs=>⟨by show cC (st.put d av) s;rw [BE];exact hs,rfl⟩,fun _ b o u ho hu=>⟨ho,hu⟩⟩
 show st.ep≤(st.put d av).ep;rw [Bh];exact Nat.le_refl _
theorem bh.quiet (h:bh C g st a w hs)(d:Option Nat){v:Value}{av:AV}(hr:cq (aP C g st w) v av []):
 bh C g (st.put d av) (a.put d v) w hs:=by
 cases d with
 |none=>exact h
 |some d=>
  have hle:= @Jd C g st w (some d) av
  refine h.step (fun x=>x≠ .slot d) hle (by rw [D9];exact h.defers) (by rw [Mi,bZ,List.length_set];exact h.size)
   (by rw [dJ,bZ,List.length_set];exact h.bsize) h.frame h.labs (fun b x _ hx=>⟨hx,rfl,rfl⟩) ?_ ?_ ?_ ?_
  ·intro i bv hi
   by_cases hid:i=d
   ·subst hid
    rw [bZ,List.getElem?_set] at hi
    simp only [if_true] at hi
    split at hi
    ·rename_i hlt
     simp at hi;subst hi
     refine .inr ⟨[], ?_,by simp,by simp⟩
     rw [AN];simp only [true_and,h.size,hlt,if_true]
     exact hr.mono hle (by simp)
    ·cases hi
   ·refine .inl ⟨by simpa using hid, ?_,by rw [AN];simp [hid]⟩
    rwa [bZ,List.getElem?_set_ne (Ne.symm hid)] at hi
  ·intro s cs hb
   rw [dJ] at hb
   exact .inl ⟨by simp,hb,rfl⟩
  ·intro k u bv hk
   exact .inl ⟨by simp,hk⟩
  ·exact .inl ⟨by simp,rfl⟩
theorem uL {w w':World}(hf:Fr (fun _=>False) w w'){b o:Nat}{v:Value}(h:w.cell? ⟨b,o,none⟩=some v):w'.cell? ⟨b,o,none⟩=some v:=by
 have hb:b<w.heap.size:=World.block_lt_of_cell? w _ h
 rw [World.cell?_of_block (a:=⟨b,o,none⟩) (hf.block b hb (fun m=>m))];exact h
theorem bh.grow (h:bh C g st a w hs){w':World}(hf:Fr (fun _=>False) w w'):bh C g st a w' hs:=by
 have hle:(aP C g st w).Le (aP C g st w'):=
  ⟨rfl,fun _ ht=>⟨ht,rfl⟩,fun _ _ _ _ hv=>uL hf hv,Nat.le_refl _,fun _ hs=>⟨hs,rfl⟩,fun _ b o u ho hu=>⟨ho,uL hf hu⟩⟩
 refine h.step (fun _=>True) hle h.defers h.size h.bsize (h.frame.trans hf (fun b _ m=>m.elim)) (fun b x hx=> ?_) (fun b x _ hx=>⟨hx,hf.block b (h.labs b x hx).1 (fun m=>m),rfl⟩) ?_ ?_ ?_ ?_
 ·have hx:=h.labs b x hx;have:=hf.size;exact ⟨by omega,hx.2⟩
 ·exact fun i av hi=> .inl ⟨trivial,hi,rfl⟩
 ·exact fun s cs hb=> .inl ⟨trivial,hb,rfl⟩
 ·exact fun k v av hk=> .inl ⟨trivial,hk⟩
 ·exact .inl ⟨trivial,rfl⟩
theorem Fr.drew (M:Nat→Prop)(w:World):Fr M w w.drew:=⟨rfl,rfl,rfl,Nat.le_refl _,fun _ _ _=>rfl⟩
theorem Fr.alloc (M:Nat→Prop)(w:World)(o:Obj):Fr M w (w.alloc o):=⟨rfl,rfl,rfl,by simp,fun b hb _=>heap_alloc_old w o b hb⟩
def bR:Option dH→Bool
 |some (.hand _)=>true
 |_=>false
abbrev aX (x:Option dH):Prop:=bR x=true
theorem Bo {d:Option Nat}{v:AV}:(st.put d v).io=st.io:=by cases d<;>rfl
theorem EG {d:Option Nat}:(st.cp d).io=st.io:=by cases d<;>rfl
theorem qU {d:Option Nat}:(st.cp d).slots=st.slots:=by cases d<;>rfl
theorem tN {d:Option Nat}:(st.cp d).boxes=st.boxes:=by cases d<;>rfl
theorem zG {d:Option Nat}:(st.cp d).ep=st.ep:=by cases d<;>rfl
theorem yY {d:Option Nat}{t:Nat}(h:gk st t):gk (st.cp d) t:=by
 cases d with
 |none=>exact h
 |some d=>
  rcases h with h|h
  ·exact .inl h
  ·refine .inr ?_
   simp only [AS.cp,bm,bL,List.getElem?_set] at h⊢
   split
   ·split<;>simp
   ·exact h
theorem XY {d:Option Nat}:cC (st.cp d)=cC st:=by funext s;simp [cC,tN]
theorem ny {d:Option Nat}{j t:Nat}(h:st.eN d j=some t):¬gk st t∧gk (st.cp d) t∧∃d',d=some d'∧t=AM d' j∧j<4096:=by
 cases d with
 |none=>simp [AS.eN] at h
 |some d=>
  simp only [AS.eN] at h
  cases hi:(nth st.iss d).getD true with
  |true=>rw [hi] at h;simp at h
  |false=>
   rw [hi] at h
   simp only [cond_false] at h
   cases hj:Nat.ble 4096 j with
   |true=>rw [hj] at h;simp at h
   |false=>
    rw [hj] at h
    simp only [cond_false,Option.some.injEq] at h
    have hjl:j<4096:=by
     rcases Nat.lt_or_ge j 4096 with hl|hg
     ·exact hl
     ·rw [Nat.ble_eq_true_of_le hg] at hj;cases hj
    have hdiv:t/3/4096=d:=by rw [←h,AM];omega
    have hmod:t%3=2:=by rw [←h,AM];omega
    refine ⟨?_,.inr ?_,d,rfl,h.symm,hjl⟩
    ·rintro (h1|h1)
     ·exact h1 hmod
     ·rw [hdiv,hi] at h1;cases h1
    ·simp only [AS.cp,bm,bL,hdiv]
     rw [bm] at hi
     have hlt:d<st.iss.length:=by
      rcases Nat.lt_or_ge d st.iss.length with hl|hg
      ·exact hl
      ·rw [List.getElem?_eq_none hg] at hi;simp at hi
     simp [hlt]
theorem bh.Jp (h:bh C g st a w hs)(d:Option Nat){v:Value}{av:AV}{fp:List Nat}{w':World}{hw':Nat→Nat}{hdr':Nat→Value}{st1:AS}
 (hio1:st1.io=st.io) (hs1:st1.slots=st.slots) (hb1:st1.boxes=st.boxes) (he1:st1.ep=st.ep) (hi1:∀t,gk st t→gk st1 t∧hdr' t=g.hdr t)
 (hfr:Fr (fun b=>aX (g.lab b)) w w') (hhw:∀b x,g.lab b=some x→¬aX (some x)→hw' b=g.hw b)
 (hprot:∀b o u,o<g.hw b→w.cell? ⟨b,o,none⟩=some u→o<hw' b∧w'.cell? ⟨b,o,none⟩=some u)
 (hr:cq (aP C {g with hw:=hw',hdr:=hdr'} st1 w') v av fp) (hn:fp.Nodup) (hfp:∀b∈fp,b<w'.heap.size∧(aX (g.lab b)∨w.heap.size≤b)):
 ∃g',bh C g' (st1.put d av) (a.put d v) w' []:=by
 have hcA:∀b o u,C.A b o→w.cell? ⟨b,o,none⟩=some u→w'.cell? ⟨b,o,none⟩=some u:=by
  intro b o u hA hu
  have hb:b<w.heap.size:=World.block_lt_of_cell? w _ hu
  have hnl:¬aX (g.lab b):=by
   intro hh
   cases hx:g.lab b with
   |none=>rw [hx] at hh;cases hh
   |some x=>exact h.FW hx o hA
  rw [World.cell?_of_block (a:=⟨b,o,none⟩) (hfr.block b hb hnl)];exact hu
 have hkp:∀b x,g.lab b=some x→¬aX (some x)→w'.heap[b]?=w.heap[b]?:=fun b x hx hh=>hfr.block b (h.labs b x hx).1 (by rw [hx];exact hh)
 let lab':Nat→Option dH:=fun b=>if b∈fp then d.map .slot else if aX (g.lab b) then none else g.lab b
 have hfrC:Fr C.M C.w0 w':=h.frame.trans hfr (fun b hb hh=>by
  cases hx:g.lab b with
  |none=>rw [hx] at hh;cases hh
  |some x=>rcases (h.labs b x hx).2 with h2|h2
           ·omega
           ·exact h2)
 have hpr:∀s,cC st s→cC (st1.put d av) s:=by intro s hs;rw [BE];simpa [cC,hb1] using hs
 have hle1:(aP C {g with hw:=hw',hdr:=hdr'} st1 w').Le (aP C ⟨hw',g.β,lab',hdr'⟩ (st1.put d av) w'):=by
  refine ⟨rfl,fun t ht=>⟨by show gk (st1.put d av) t;rw [Ah];exact ht,rfl⟩,fun _ _ _ _ hu=>hu, ?_,fun s hs=>⟨by show cC (st1.put d av) s;rw [BE];exact hs,rfl⟩,fun _ b o u ho hu=>⟨ho,hu⟩⟩
  show st1.ep≤(st1.put d av).ep;rw [Bh];exact Nat.le_refl _
 have hle:(aP C g st w).Le (aP C ⟨hw',g.β,lab',hdr'⟩ (st1.put d av) w'):=by
  refine ⟨rfl,fun t ht=>⟨by show gk (st1.put d av) t;rw [Ah];exact (hi1 t ht).1,(hi1 t ht).2⟩,hcA, ?_,fun s hs=>⟨hpr s hs,rfl⟩,fun _ b o u ho hu=>hprot b o u ho hu⟩
  show st.ep≤(st1.put d av).ep;rw [Bh,he1];exact Nat.le_refl _
 have hnotin:∀b x,g.lab b=some x→¬aX (some x)→b∉fp:=by
  intro b x hx hh hm
  rcases (hfp b hm).2 with h2|h2
  ·rw [hx] at h2;exact hh h2
  ·have:=(h.labs b x hx).1;omega
 have hlabk:∀b x,g.lab b=some x→¬aX (some x)→lab' b=some x:=by
  intro b x hx hh
  show (if b∈fp then d.map dH.slot else if aX (g.lab b) then none else g.lab b)=some x
  rw [if_neg (hnotin b x hx hh),if_neg (by rw [hx];exact hh),hx]
 refine ⟨⟨hw',g.β,lab',hdr'⟩,h.step (fun x=>¬aX (some x)∧some x≠d.map .slot) hle (by rw [D9];exact h.defers) ?_ ?_ hfrC ?_ ?_ ?_ ?_ ?_ (.inl ⟨⟨by simp [bR],by cases d<;>simp⟩,by rw [Bo,hio1]⟩)⟩
 ·rw [Mi]
  cases d with
  |none=>show _=st1.slots.length;rw [hs1];exact h.size
  |some d=>rw [bZ,List.length_set,hs1];exact h.size
 ·rw [dJ,hb1]
  cases d with
  |none=>show _=st1.slots.length;rw [hs1];exact h.bsize
  |some d=>rw [bZ,List.length_set,hs1];exact h.bsize
 ·intro b x hx
  have hx':(if b∈fp then d.map dH.slot else if aX (g.lab b) then none else g.lab b)=some x:=hx
  by_cases hm:b∈fp
  ·refine ⟨(hfp b hm).1, ?_⟩
   rcases (hfp b hm).2 with h2|h2
   ·cases hy:g.lab b with
    |none=>rw [hy] at h2;cases h2
    |some y=>exact (h.labs b y hy).2
   ·exact .inl (Nat.le_trans h.frame.size h2)
  ·rw [if_neg hm] at hx'
   split at hx'
   ·cases hx'
   ·have:=h.labs b x hx';have hz:=hfr.size;exact ⟨by omega,this.2⟩
 ·intro b x hk hx
  exact ⟨hlabk b x hx hk.1,hkp b x hx hk.1,hhw b x hx hk.1⟩
 ·intro i bv hi
  cases d with
  |none=>
   have hi':st.slots[i]?=some bv:=by rw [←hs1];exact hi
   exact .inl ⟨⟨by simp [bR],by simp⟩,hi',rfl⟩
  |some d=>
   have hi':(st.slots.set d av)[i]?=some bv:=by rw [←hs1,←bZ];exact hi
   by_cases hid:i=d
   ·subst hid
    rw [List.getElem?_set] at hi'
    simp only [if_true] at hi'
    split at hi'
    ·rename_i hlt
     simp at hi';subst hi'
     refine .inr ⟨fp, ?_,hn,fun b hb=> ?_⟩
     ·rw [AN];simp only [true_and,h.size,hlt,if_true]
      exact hr.mono hle1 (fun b _=>⟨rfl,rfl⟩)
     ·show (if b∈fp then _ else _)=_
      rw [if_pos hb];rfl
    ·cases hi'
   ·refine .inl ⟨⟨by simp [bR],by simpa using hid⟩, ?_,by rw [AN];simp [hid]⟩
    rwa [List.getElem?_set_ne (Ne.symm hid)] at hi'
 ·intro s cs hb
  have hb':st.boxes[s]?=some (some cs):=by rw [←hb1,←dJ (d:=d) (v:=av)];exact hb
  exact .inl ⟨⟨by simp [bR],by cases d<;>simp⟩,hb',rfl⟩
 ·intro k u bv hk
  simp at hk
theorem bh.Wj (h:bh C g st a w hs)(x:Operand):∃g',(g'.β=g.β∧g'.hw=g.hw∧g'.hdr=g.hdr∧∀b s,g.lab b=some (.box s)→g'.lab b=some (.box s))∧bh C g' (st.take x).2 a w (hs++[(a.eval x,(st.take x).1)]):=by
 have plain:∀y,(st.take y)=(st.rd y,st)→∃g',(g'.β=g.β∧g'.hw=g.hw∧g'.hdr=g.hdr∧∀b s,g.lab b=some (.box s)→g'.lab b=some (.box s))∧bh C g' (st.take y).2 a w (hs++[(a.eval y,(st.take y).1)]):=by
  intro y hy
  rw [hy]
  refine ⟨g,⟨rfl,rfl,rfl,fun _ _ hb=>hb⟩,h.defers,h.size,h.bsize,h.slots,h.boxes,fun k v av hk=> ?_,h.labs,h.frame,h.io⟩
  rw [List.getElem?_append] at hk
  split at hk
  ·exact h.hands k v av hk
  ·cases hm:k-hs.length with
   |zero=>
    rw [hm] at hk;simp at hk
    obtain ⟨rfl,rfl⟩:=hk
    exact ⟨[],h.rd y,by simp,by simp⟩
   |succ n=>rw [hm] at hk;simp at hk
 cases x with
 |const v=>exact plain _ rfl
 |func f=>exact plain _ rfl
 |global gl=>exact plain _ rfl
 |tmp t=>
  obtain ⟨fp,hr,hn,hl⟩:=h.slot t
  let st':AS:=st.put (some t) ((st.get t).au st.ep)
  let g':Gh:={g with lab:=fun b=>if b∈fp then some (.hand hs.length) else g.lab b}
  have hle:(aP C g st w).Le (aP C g' st' w):=by
   have:= @Jd C g st w (some t) ((st.get t).au st.ep)
   exact ⟨this.A,this.hdr,this.cellA,this.ep,this.pres,this.prot⟩
  have hlk:∀b y,y≠ .slot t→g.lab b=some y→g'.lab b=some y:=by
   intro b y hy hb
   show (if b∈fp then _ else _)=_
   rw [if_neg (fun hm=>hy (by have:=hl b hm;rw [hb] at this;simpa using this))]
   exact hb
  refine ⟨g',⟨rfl,rfl,rfl,fun b s hb=>hlk b _ (by simp) hb⟩, ?_⟩
  show bh C g' st' a w (hs++[(a.tmps.getD t undef,st.get t)])
  refine h.step (fun y=>y≠ .slot t) hle h.defers (by show _=(st.put (some t) ((st.get t).au st.ep)).slots.length;rw [bZ,List.length_set];exact h.size)
   (by show (st.put (some t) ((st.get t).au st.ep)).boxes.length=(st.put (some t) ((st.get t).au st.ep)).slots.length;rw [dJ,bZ,List.length_set];exact h.bsize) h.frame ?_ (fun b y hy hb=>⟨hlk b y hy hb,rfl,rfl⟩) ?_ ?_ ?_ ?_
  ·intro b y hb
   have hb':(if b∈fp then some (dH.hand hs.length) else g.lab b)=some y:=hb
   by_cases hm:b∈fp
   ·exact h.labs b _ (hl b hm)
   ·rw [if_neg hm] at hb';exact h.labs b y hb'
  ·intro i bv hi
   have hi':(st.slots.set t ((st.get t).au st.ep))[i]?=some bv:=by rw [←bZ];exact hi
   by_cases hid:i=t
   ·subst hid
    rw [List.getElem?_set] at hi'
    simp only [if_true] at hi'
    split at hi'
    ·simp at hi';subst hi'
     exact .inr ⟨[],(hr.au).mono hle (by simp),by simp,by simp⟩
    ·cases hi'
   ·rw [List.getElem?_set_ne (Ne.symm hid)] at hi'
    exact .inl ⟨by simpa using hid,hi',rfl⟩
  ·intro s cs hb
   have hb':st.boxes[s]?=some (some cs):=by rw [←dJ (d:=some t) (v:=(st.get t).au st.ep)];exact hb
   exact .inl ⟨by simp,hb',rfl⟩
  ·intro k v av hk
   rw [List.getElem?_append] at hk
   split at hk
   ·exact .inl ⟨by simp,hk⟩
   ·rename_i hlt
    cases hm:k-hs.length with
    |zero=>
     have:k=hs.length:=by omega
     subst this
     rw [hm] at hk
     simp only [List.getElem?_cons_zero,Option.some.injEq,Prod.mk.injEq] at hk
     obtain ⟨rfl,rfl⟩:=hk
     refine .inr ⟨fp,hr.mono hle (fun b _=>⟨rfl,rfl⟩),hn,fun b hb=> ?_⟩
     show (if b∈fp then _ else _)=_
     rw [if_pos hb]
    |succ n=>rw [hm] at hk;simp at hk
  ·exact .inl ⟨by simp,Bo⟩
theorem bh.take (h:bh C g st a w hs)(x:Operand):∃g',bh C g' (st.take x).2 a w (hs++[(a.eval x,(st.take x).1)]):=by
 obtain ⟨g',_,h'⟩:=h.Wj x
 exact ⟨g',h'⟩
theorem YX (x:Operand):(st.take x).2.boxes=st.boxes:=by
 cases x<;>simp [AS.take,dJ]
end Go.Dn
