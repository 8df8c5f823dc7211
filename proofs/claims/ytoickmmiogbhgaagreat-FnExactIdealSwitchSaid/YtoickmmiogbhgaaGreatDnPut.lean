import Derived.Test.YtoickmmiogbhgaaGreatDnSim
/- The ways in which a state goes on: a slot is written, an operand is taken over, memory grows. -/
namespace Go.Dn
open Go.RowKit

variable {C : Ctx} {g : Gh} {st : AS} {a : Act} {w : World} {hs : List (Value × AV)}

theorem le_put (d : Option Nat) (av : AV) : (rcOf C g st w).Le (rcOf C g (st.put d av) w) := by
  refine ⟨rfl, fun t ht => ⟨by show issP (st.put d av) t; rw [issP_put]; exact ht, rfl⟩, fun _ _ _ _ hv => hv, ?_, fun s hs => ⟨by show presP (st.put d av) s; rw [presP_put]; exact hs, rfl⟩, fun _ b o u ho hu => ⟨ho, hu⟩⟩
  show st.ep ≤ (st.put d av).ep; rw [ep_put]; exact Nat.le_refl _

theorem SimG.quiet (h : SimG C g st a w hs) (d : Option Nat) {v : Value} {av : AV} (hr : RelV (rcOf C g st w) v av []) :
    SimG C g (st.put d av) (a.put d v) w hs := by
  cases d with
  | none => exact h
  | some d =>
    have hle := @le_put C g st w (some d) av
    refine h.step (fun x => x ≠ .slot d) hle (by rw [defers_put]; exact h.defers) (by rw [size_put, slots_put, List.length_set]; exact h.size)
      (by rw [boxes_put, slots_put, List.length_set]; exact h.bsize) h.frame h.labs (fun b x _ hx => ⟨hx, rfl, rfl⟩) ?_ ?_ ?_ ?_
    · intro i bv hi
      by_cases hid : i = d
      · subst hid
        rw [slots_put, List.getElem?_set] at hi
        simp only [if_true] at hi
        split at hi
        · rename_i hlt
          simp at hi; subst hi
          refine .inr ⟨[], ?_, by simp, by simp⟩
          rw [tmps_put]; simp only [true_and, h.size, hlt, if_true]
          exact hr.mono hle (by simp)
        · cases hi
      · refine .inl ⟨by simpa using hid, ?_, by rw [tmps_put]; simp [hid]⟩
        rwa [slots_put, List.getElem?_set_ne (Ne.symm hid)] at hi
    · intro s cs hb
      rw [boxes_put] at hb
      exact .inl ⟨by simp, hb, rfl⟩
    · intro k u bv hk
      exact .inl ⟨by simp, hk⟩
    · exact .inl ⟨by simp, rfl⟩

/-- memory grows, nothing that was there turns -/
theorem cell_grow {w w' : World} (hf : Fr (fun _ => False) w w') {b o : Nat} {v : Value} (h : w.cell? ⟨b, o, none⟩ = some v) : w'.cell? ⟨b, o, none⟩ = some v := by
  have hb : b < w.heap.size := World.block_lt_of_cell? w _ h
  rw [World.cell?_of_block (a := ⟨b, o, none⟩) (hf.block b hb (fun m => m))]; exact h

theorem SimG.grow (h : SimG C g st a w hs) {w' : World} (hf : Fr (fun _ => False) w w') : SimG C g st a w' hs := by
  have hle : (rcOf C g st w).Le (rcOf C g st w') :=
    ⟨rfl, fun _ ht => ⟨ht, rfl⟩, fun _ _ _ _ hv => cell_grow hf hv, Nat.le_refl _, fun _ hs => ⟨hs, rfl⟩, fun _ b o u ho hu => ⟨ho, cell_grow hf hu⟩⟩
  refine h.step (fun _ => True) hle h.defers h.size h.bsize (h.frame.trans hf (fun b _ m => m.elim)) (fun b x hx => ?_) (fun b x _ hx => ⟨hx, hf.block b (h.labs b x hx).1 (fun m => m), rfl⟩) ?_ ?_ ?_ ?_
  · have hx := h.labs b x hx; have := hf.size; exact ⟨by omega, hx.2⟩
  · exact fun i av hi => .inl ⟨trivial, hi, rfl⟩
  · exact fun s cs hb => .inl ⟨trivial, hb, rfl⟩
  · exact fun k v av hk => .inl ⟨trivial, hk⟩
  · exact .inl ⟨trivial, rfl⟩

theorem Fr.drew (M : Nat → Prop) (w : World) : Fr M w w.drew := ⟨rfl, rfl, rfl, Nat.le_refl _, fun _ _ _ => rfl⟩
theorem Fr.alloc (M : Nat → Prop) (w : World) (o : Obj) : Fr M w (w.alloc o) := ⟨rfl, rfl, rfl, by simp, fun b hb _ => heap_alloc_old w o b hb⟩

def isHandB : Option Owner → Bool
  | some (.hand _) => true
  | _ => false
abbrev isHand (x : Option Owner) : Prop := isHandB x = true

theorem io_put {d : Option Nat} {v : AV} : (st.put d v).io = st.io := by cases d <;> rfl
theorem io_issue {d : Option Nat} : (st.issue d).io = st.io := by cases d <;> rfl
theorem slots_issue {d : Option Nat} : (st.issue d).slots = st.slots := by cases d <;> rfl
theorem boxes_issue {d : Option Nat} : (st.issue d).boxes = st.boxes := by cases d <;> rfl
theorem ep_issue {d : Option Nat} : (st.issue d).ep = st.ep := by cases d <;> rfl
theorem issP_issue {d : Option Nat} {t : Nat} (h : issP st t) : issP (st.issue d) t := by
  cases d with
  | none => exact h
  | some d =>
    rcases h with h | h
    · exact .inl h
    · refine .inr ?_
      simp only [AS.issue, nth_eq, setl_eq, List.getElem?_set] at h ⊢
      split
      · split <;> simp
      · exact h
theorem presP_issue {d : Option Nat} : presP (st.issue d) = presP st := by funext s; simp [presP, boxes_issue]

/-- what is minted was not in use, and is in use behind it -/
theorem mint_spec {d : Option Nat} {j t : Nat} (h : st.mint d j = some t) : ¬issP st t ∧ issP (st.issue d) t ∧ ∃ d', d = some d' ∧ t = stampOf d' j ∧ j < 4096 := by
  cases d with
  | none => simp [AS.mint] at h
  | some d =>
    simp only [AS.mint] at h
    cases hi : (nth st.iss d).getD true with
    | true => rw [hi] at h; simp at h
    | false =>
      rw [hi] at h
      simp only [cond_false] at h
      cases hj : Nat.ble 4096 j with
      | true => rw [hj] at h; simp at h
      | false =>
        rw [hj] at h
        simp only [cond_false, Option.some.injEq] at h
        have hjl : j < 4096 := by
          rcases Nat.lt_or_ge j 4096 with hl | hg
          · exact hl
          · rw [Nat.ble_eq_true_of_le hg] at hj; cases hj
        have hdiv : t / 3 / 4096 = d := by rw [← h, stampOf]; omega
        have hmod : t % 3 = 2 := by rw [← h, stampOf]; omega
        refine ⟨?_, .inr ?_, d, rfl, h.symm, hjl⟩
        · rintro (h1 | h1)
          · exact h1 hmod
          · rw [hdiv, hi] at h1; cases h1
        · simp only [AS.issue, nth_eq, setl_eq, hdiv]
          rw [nth_eq] at hi
          have hlt : d < st.iss.length := by
            rcases Nat.lt_or_ge d st.iss.length with hl | hg
            · exact hl
            · rw [List.getElem?_eq_none hg] at hi; simp at hi
          simp [hlt]

/-- a slot is written with what hands held, or with what is new -/
theorem SimG.putOwn (h : SimG C g st a w hs) (d : Option Nat) {v : Value} {av : AV} {fp : List Nat} {w' : World} {hw' : Nat → Nat} {hdr' : Nat → Value} {st1 : AS}
    (hio1 : st1.io = st.io) (hs1 : st1.slots = st.slots) (hb1 : st1.boxes = st.boxes) (he1 : st1.ep = st.ep) (hi1 : ∀ t, issP st t → issP st1 t ∧ hdr' t = g.hdr t)
    (hfr : Fr (fun b => isHand (g.lab b)) w w') (hhw : ∀ b x, g.lab b = some x → ¬isHand (some x) → hw' b = g.hw b)
    (hprot : ∀ b o u, o < g.hw b → w.cell? ⟨b, o, none⟩ = some u → o < hw' b ∧ w'.cell? ⟨b, o, none⟩ = some u)
    (hr : RelV (rcOf C { g with hw := hw', hdr := hdr' } st1 w') v av fp) (hn : fp.Nodup) (hfp : ∀ b ∈ fp, b < w'.heap.size ∧ (isHand (g.lab b) ∨ w.heap.size ≤ b)) :
    ∃ g', SimG C g' (st1.put d av) (a.put d v) w' [] := by
  have hcA : ∀ b o u, C.A b o → w.cell? ⟨b, o, none⟩ = some u → w'.cell? ⟨b, o, none⟩ = some u := by
    intro b o u hA hu
    have hb : b < w.heap.size := World.block_lt_of_cell? w _ hu
    have hnl : ¬isHand (g.lab b) := by
      intro hh
      cases hx : g.lab b with
      | none => rw [hx] at hh; cases hh
      | some x => exact h.labA hx o hA
    rw [World.cell?_of_block (a := ⟨b, o, none⟩) (hfr.block b hb hnl)]; exact hu
  have hkp : ∀ b x, g.lab b = some x → ¬isHand (some x) → w'.heap[b]? = w.heap[b]? := fun b x hx hh => hfr.block b (h.labs b x hx).1 (by rw [hx]; exact hh)
  let lab' : Nat → Option Owner := fun b => if b ∈ fp then d.map .slot else if isHand (g.lab b) then none else g.lab b
  have hfrC : Fr C.M C.w0 w' := h.frame.trans hfr (fun b hb hh => by
    cases hx : g.lab b with
    | none => rw [hx] at hh; cases hh
    | some x => rcases (h.labs b x hx).2 with h2 | h2
                · omega
                · exact h2)
  have hpr : ∀ s, presP st s → presP (st1.put d av) s := by intro s hs; rw [presP_put]; simpa [presP, hb1] using hs
  have hle1 : (rcOf C { g with hw := hw', hdr := hdr' } st1 w').Le (rcOf C ⟨hw', g.β, lab', hdr'⟩ (st1.put d av) w') := by
    refine ⟨rfl, fun t ht => ⟨by show issP (st1.put d av) t; rw [issP_put]; exact ht, rfl⟩, fun _ _ _ _ hu => hu, ?_, fun s hs => ⟨by show presP (st1.put d av) s; rw [presP_put]; exact hs, rfl⟩, fun _ b o u ho hu => ⟨ho, hu⟩⟩
    show st1.ep ≤ (st1.put d av).ep; rw [ep_put]; exact Nat.le_refl _
  have hle : (rcOf C g st w).Le (rcOf C ⟨hw', g.β, lab', hdr'⟩ (st1.put d av) w') := by
    refine ⟨rfl, fun t ht => ⟨by show issP (st1.put d av) t; rw [issP_put]; exact (hi1 t ht).1, (hi1 t ht).2⟩, hcA, ?_, fun s hs => ⟨hpr s hs, rfl⟩, fun _ b o u ho hu => hprot b o u ho hu⟩
    show st.ep ≤ (st1.put d av).ep; rw [ep_put, he1]; exact Nat.le_refl _
  have hnotin : ∀ b x, g.lab b = some x → ¬isHand (some x) → b ∉ fp := by
    intro b x hx hh hm
    rcases (hfp b hm).2 with h2 | h2
    · rw [hx] at h2; exact hh h2
    · have := (h.labs b x hx).1; omega
  have hlabk : ∀ b x, g.lab b = some x → ¬isHand (some x) → lab' b = some x := by
    intro b x hx hh
    show (if b ∈ fp then d.map Owner.slot else if isHand (g.lab b) then none else g.lab b) = some x
    rw [if_neg (hnotin b x hx hh), if_neg (by rw [hx]; exact hh), hx]
  refine ⟨⟨hw', g.β, lab', hdr'⟩, h.step (fun x => ¬isHand (some x) ∧ some x ≠ d.map .slot) hle (by rw [defers_put]; exact h.defers) ?_ ?_ hfrC ?_ ?_ ?_ ?_ ?_ (.inl ⟨⟨by simp [isHandB], by cases d <;> simp⟩, by rw [io_put, hio1]⟩)⟩
  · rw [size_put]
    cases d with
    | none => show _ = st1.slots.length; rw [hs1]; exact h.size
    | some d => rw [slots_put, List.length_set, hs1]; exact h.size
  · rw [boxes_put, hb1]
    cases d with
    | none => show _ = st1.slots.length; rw [hs1]; exact h.bsize
    | some d => rw [slots_put, List.length_set, hs1]; exact h.bsize
  · intro b x hx
    have hx' : (if b ∈ fp then d.map Owner.slot else if isHand (g.lab b) then none else g.lab b) = some x := hx
    by_cases hm : b ∈ fp
    · refine ⟨(hfp b hm).1, ?_⟩
      rcases (hfp b hm).2 with h2 | h2
      · cases hy : g.lab b with
        | none => rw [hy] at h2; cases h2
        | some y => exact (h.labs b y hy).2
      · exact .inl (Nat.le_trans h.frame.size h2)
    · rw [if_neg hm] at hx'
      split at hx'
      · cases hx'
      · have := h.labs b x hx'; have hz := hfr.size; exact ⟨by omega, this.2⟩
  · intro b x hk hx
    exact ⟨hlabk b x hx hk.1, hkp b x hx hk.1, hhw b x hx hk.1⟩
  · intro i bv hi
    cases d with
    | none =>
      have hi' : st.slots[i]? = some bv := by rw [← hs1]; exact hi
      exact .inl ⟨⟨by simp [isHandB], by simp⟩, hi', rfl⟩
    | some d =>
      have hi' : (st.slots.set d av)[i]? = some bv := by rw [← hs1, ← slots_put]; exact hi
      by_cases hid : i = d
      · subst hid
        rw [List.getElem?_set] at hi'
        simp only [if_true] at hi'
        split at hi'
        · rename_i hlt
          simp at hi'; subst hi'
          refine .inr ⟨fp, ?_, hn, fun b hb => ?_⟩
          · rw [tmps_put]; simp only [true_and, h.size, hlt, if_true]
            exact hr.mono hle1 (fun b _ => ⟨rfl, rfl⟩)
          · show (if b ∈ fp then _ else _) = _
            rw [if_pos hb]; rfl
        · cases hi'
      · refine .inl ⟨⟨by simp [isHandB], by simpa using hid⟩, ?_, by rw [tmps_put]; simp [hid]⟩
        rwa [List.getElem?_set_ne (Ne.symm hid)] at hi'
  · intro s cs hb
    have hb' : st.boxes[s]? = some (some cs) := by rw [← hb1, ← boxes_put (d := d) (v := av)]; exact hb
    exact .inl ⟨⟨by simp [isHandB], by cases d <;> simp⟩, hb', rfl⟩
  · intro k u bv hk
    simp at hk

/-- whatever a slot owns is taken over into a hand -/
theorem SimG.take' (h : SimG C g st a w hs) (x : Operand) : ∃ g', (g'.β = g.β ∧ g'.hw = g.hw ∧ g'.hdr = g.hdr ∧ ∀ b s, g.lab b = some (.box s) → g'.lab b = some (.box s)) ∧ SimG C g' (st.take x).2 a w (hs ++ [(a.eval x, (st.take x).1)]) := by
  have plain : ∀ y, (st.take y) = (st.rd y, st) → ∃ g', (g'.β = g.β ∧ g'.hw = g.hw ∧ g'.hdr = g.hdr ∧ ∀ b s, g.lab b = some (.box s) → g'.lab b = some (.box s)) ∧ SimG C g' (st.take y).2 a w (hs ++ [(a.eval y, (st.take y).1)]) := by
    intro y hy
    rw [hy]
    refine ⟨g, ⟨rfl, rfl, rfl, fun _ _ hb => hb⟩, h.defers, h.size, h.bsize, h.slots, h.boxes, fun k v av hk => ?_, h.labs, h.frame, h.io⟩
    rw [List.getElem?_append] at hk
    split at hk
    · exact h.hands k v av hk
    · cases hm : k - hs.length with
      | zero =>
        rw [hm] at hk; simp at hk
        obtain ⟨rfl, rfl⟩ := hk
        exact ⟨[], h.rd y, by simp, by simp⟩
      | succ n => rw [hm] at hk; simp at hk
  cases x with
  | const v => exact plain _ rfl
  | func f => exact plain _ rfl
  | global gl => exact plain _ rfl
  | tmp t =>
    obtain ⟨fp, hr, hn, hl⟩ := h.slot t
    let st' : AS := st.put (some t) ((st.get t).borrowBare st.ep)
    let g' : Gh := { g with lab := fun b => if b ∈ fp then some (.hand hs.length) else g.lab b }
    have hle : (rcOf C g st w).Le (rcOf C g' st' w) := by
      have := @le_put C g st w (some t) ((st.get t).borrowBare st.ep)
      exact ⟨this.A, this.hdr, this.cellA, this.ep, this.pres, this.prot⟩
    have hlk : ∀ b y, y ≠ .slot t → g.lab b = some y → g'.lab b = some y := by
      intro b y hy hb
      show (if b ∈ fp then _ else _) = _
      rw [if_neg (fun hm => hy (by have := hl b hm; rw [hb] at this; simpa using this))]
      exact hb
    refine ⟨g', ⟨rfl, rfl, rfl, fun b s hb => hlk b _ (by simp) hb⟩, ?_⟩
    show SimG C g' st' a w (hs ++ [(a.tmps.getD t undef, st.get t)])
    refine h.step (fun y => y ≠ .slot t) hle h.defers (by show _ = (st.put (some t) ((st.get t).borrowBare st.ep)).slots.length; rw [slots_put, List.length_set]; exact h.size)
      (by show (st.put (some t) ((st.get t).borrowBare st.ep)).boxes.length = (st.put (some t) ((st.get t).borrowBare st.ep)).slots.length; rw [boxes_put, slots_put, List.length_set]; exact h.bsize) h.frame ?_ (fun b y hy hb => ⟨hlk b y hy hb, rfl, rfl⟩) ?_ ?_ ?_ ?_
    · intro b y hb
      have hb' : (if b ∈ fp then some (Owner.hand hs.length) else g.lab b) = some y := hb
      by_cases hm : b ∈ fp
      · exact h.labs b _ (hl b hm)
      · rw [if_neg hm] at hb'; exact h.labs b y hb'
    · intro i bv hi
      have hi' : (st.slots.set t ((st.get t).borrowBare st.ep))[i]? = some bv := by rw [← slots_put]; exact hi
      by_cases hid : i = t
      · subst hid
        rw [List.getElem?_set] at hi'
        simp only [if_true] at hi'
        split at hi'
        · simp at hi'; subst hi'
          exact .inr ⟨[], (hr.borrowBare).mono hle (by simp), by simp, by simp⟩
        · cases hi'
      · rw [List.getElem?_set_ne (Ne.symm hid)] at hi'
        exact .inl ⟨by simpa using hid, hi', rfl⟩
    · intro s cs hb
      have hb' : st.boxes[s]? = some (some cs) := by rw [← boxes_put (d := some t) (v := (st.get t).borrowBare st.ep)]; exact hb
      exact .inl ⟨by simp, hb', rfl⟩
    · intro k v av hk
      rw [List.getElem?_append] at hk
      split at hk
      · exact .inl ⟨by simp, hk⟩
      · rename_i hlt
        cases hm : k - hs.length with
        | zero =>
          have : k = hs.length := by omega
          subst this
          rw [hm] at hk
          simp only [List.getElem?_cons_zero, Option.some.injEq, Prod.mk.injEq] at hk
          obtain ⟨rfl, rfl⟩ := hk
          refine .inr ⟨fp, hr.mono hle (fun b _ => ⟨rfl, rfl⟩), hn, fun b hb => ?_⟩
          show (if b ∈ fp then _ else _) = _
          rw [if_pos hb]
        | succ n => rw [hm] at hk; simp at hk
    · exact .inl ⟨by simp, io_put⟩

theorem SimG.take (h : SimG C g st a w hs) (x : Operand) : ∃ g', SimG C g' (st.take x).2 a w (hs ++ [(a.eval x, (st.take x).1)]) := by
  obtain ⟨g', _, h'⟩ := h.take' x
  exact ⟨g', h'⟩

theorem boxes_take (x : Operand) : (st.take x).2.boxes = st.boxes := by
  cases x <;> simp [AS.take, boxes_put]

end Go.Dn
