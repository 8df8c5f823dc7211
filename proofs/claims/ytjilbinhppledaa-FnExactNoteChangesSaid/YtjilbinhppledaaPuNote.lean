import Derived.Test.YtjilbinhppledaaPuMove
/- NoteChanges: the program's and the reference's answers are one. -/
namespace Go.Pu
open Go.Dn

/-- p before the first number that is greater -/
def insP (p : Int) : List Int → List Int
  | [] => [p]
  | x :: r => if p < x then p :: x :: r else x :: insP p r
theorem insP_len (p : Int) : ∀ l, (insP p l).length = l.length + 1
  | [] => rfl
  | x :: r => by unfold insP; split <;> simp [insP_len p r]

theorem implAdd (a : List Int) (p : Int) (h : a.length ≤ 100000000) : impl_addOrdered a p = some (insP p a) := by
  unfold impl_addOrdered
  have hfu := fuel_ge
  have key := iter_list (T := impl_addOrdered_T4 (fun (y3 : List Int) (y4 : Bool) (_ : Int) => cond (!y4) (room (List.length y3 + List.length ([p])) (some (y3 ++ ([p])))) (some y3)) p a ((List.length a : Int))) a (fun (s : List Int × Bool) i => (s.1, s.2, (i : Int)))
    (fun x s k => cond (!s.2 && decide (p < x)) (room (s.1.length + 1) (room (s.1.length + 1 + 1) (k (s.1 ++ [p] ++ [x], true)))) (room (s.1.length + 1) (k (s.1 ++ [x], s.2))))
    (fun s => cond (!s.2) (room (s.1.length + 1) (some (s.1 ++ [p]))) (some s.1))
    (fun i hi s nx => by
      simp only [impl_addOrdered_T4]
      rw [decide_eq_true (by omega), idx_lt hi, wrap64 (by omega) (by omega)]
      simp only [cond_true, bindO_some, bindO_cond_some, List.length_append, List.length_cons, List.length_nil, Nat.zero_add]
      cases s.2 <;> simp only [Bool.not_false, Bool.not_true, cond_true, cond_false, Bool.true_and, Bool.false_and] <;> rfl)
    (fun s nx => by
      simp only [impl_addOrdered_T4]
      rw [decide_eq_false (by omega)]; rfl)
    fuel 0 (([] : List Int), false) (by omega) (by omega)
  rw [List.drop_zero] at key
  refine key.trans ?_
  have done : ∀ (l acc : List Int), acc.length + l.length ≤ 200000000 → foldK (fun x (s : List Int × Bool) k => cond (!s.2 && decide (p < x)) (room (s.1.length + 1) (room (s.1.length + 1 + 1) (k (s.1 ++ [p] ++ [x], true)))) (room (s.1.length + 1) (k (s.1 ++ [x], s.2))))
      (fun s => cond (!s.2) (room (s.1.length + 1) (some (s.1 ++ [p]))) (some s.1)) l (acc, true) = some (acc ++ l) := by
    intro l
    induction l with
    | nil => intro acc _; simp [foldK]
    | cons x l ih =>
      intro acc hl
      simp only [List.length_cons] at hl
      rw [foldK]
      simp only [Bool.not_true, Bool.false_and, cond_false]
      rw [room_le (by omega), ih _ (by simp; omega)]
      simp
  have main : ∀ (l acc : List Int), acc.length + l.length ≤ 100000000 → foldK (fun x (s : List Int × Bool) k => cond (!s.2 && decide (p < x)) (room (s.1.length + 1) (room (s.1.length + 1 + 1) (k (s.1 ++ [p] ++ [x], true)))) (room (s.1.length + 1) (k (s.1 ++ [x], s.2))))
      (fun s => cond (!s.2) (room (s.1.length + 1) (some (s.1 ++ [p]))) (some s.1)) l (acc, false) = some (acc ++ insP p l) := by
    intro l
    induction l with
    | nil => intro acc hl; simp only [foldK, insP, Bool.not_false, cond_true]; rw [room_le (by simp at hl; omega)]
    | cons x l ih =>
      intro acc hl
      simp only [List.length_cons] at hl
      rw [foldK]
      simp only [Bool.not_false, Bool.true_and]
      by_cases hp : p < x
      · rw [decide_eq_true hp]
        simp only [cond_true]
        rw [room_le (by omega), room_le (by omega), done _ _ (by simp; omega)]
        simp [insP, hp]
      · rw [decide_eq_false hp]
        simp only [cond_false]
        rw [room_le (by omega), ih _ (by simp; omega)]
        simp [insP, hp]
  exact (main a [] (by simp; omega)).trans (by simp)

/-- the place of p -/
def posP (p : Int) : List Int → Nat
  | [] => 0
  | x :: r => if x < p then posP p r + 1 else 0
theorem posP_le (p : Int) : ∀ l, posP p l ≤ l.length
  | [] => Nat.le_refl _
  | x :: r => by have := posP_le p r; unfold posP; split <;> simp <;> omega
theorem posP_ins (p : Int) : ∀ l : List Int, (∀ x ∈ l, x ≠ p) → l.take (posP p l) ++ [p] ++ l.drop (posP p l) = insP p l
  | [], _ => rfl
  | x :: r, h => by
    have hx := h x (by simp)
    have ih := posP_ins p r (fun y hy => h y (by simp [hy]))
    unfold posP insP
    by_cases hlt : x < p
    · rw [if_pos hlt, if_neg (by omega)]
      simp only [List.take_succ_cons, List.drop_succ_cons, List.cons_append]
      rw [ih]
    · rw [if_neg hlt, if_pos (by omega)]
      simp

theorem specPos {R : Type} (k : Int → Option R) (v8 : List Int) (v9 p : Int) (b6 b7 : Move) (hp : idx v8 v9 = some p) (h : b7.2.1.length ≤ 100000000) :
    iterL (spec_NoteChanges_T8 k v8 v9 b6 b7) fuel 0 = k (posP p b7.2.1) := by
  have hfu := fuel_ge
  have key : ∀ n i, i ≤ b7.2.1.length → b7.2.1.length - i < n → iterL (spec_NoteChanges_T8 k v8 v9 b6 b7) n (i : Int) = k ((i + posP p (b7.2.1.drop i) : Nat) : Int) := by
    intro n
    induction n with
    | zero => intro i _ h; omega
    | succ n ih =>
      intro i hi hn
      rw [iterL]
      simp only [spec_NoteChanges_T8]
      rcases Nat.lt_or_ge i b7.2.1.length with hlt | hge
      · rw [decide_eq_true (by omega), idx_lt hlt, hp, wrap64 (by omega) (by omega)]
        simp only [cond_true, bindO_some]
        rw [List.drop_eq_getElem_cons hlt]
        unfold posP
        by_cases hx : b7.2.1[i] < p
        · rw [decide_eq_true hx, if_pos hx]
          simp only [cond_true]
          have := ih (i + 1) (by omega) (by omega)
          rw [show ((i : Int) + 1) = ((i + 1 : Nat) : Int) by omega, this]
          congr 2
          omega
        · rw [decide_eq_false hx, if_neg hx]; rfl
      · have : i = b7.2.1.length := by omega
        subst this
        rw [decide_eq_false (by omega), List.drop_length]; rfl
  have := key fuel 0 (by omega) (by omega)
  simpa using this

/-- one page is noted -/
def noteP (s : Move) (p : Int) : Move := if s.2.1.any (· == p) then s else (s.1, insP p s.2.1, s.2.2)
theorem noteP_len (s : Move) (p : Int) : (noteP s p).2.1.length ≤ s.2.1.length + 1 := by unfold noteP; split <;> simp [insP_len]
theorem noteP_copy (s : Move) (p : Int) : (noteP s p).1 = s.1 := by unfold noteP; split <;> rfl

theorem note_foldK {R : Type} (fin : Move → Option R) (step : Int → Move → (Move → Option R) → Option R) (hs : ∀ p s k, s.2.1.length ≤ 10000000 → step p s k = k (noteP s p)) : ∀ (l : List Int) (s : Move), s.2.1.length + l.length ≤ 10000000 → foldK step fin l s = fin (l.foldl noteP s)
  | [], _, _ => rfl
  | p :: l, s, h => by
    simp only [List.length_cons] at h
    rw [foldK, hs p s _ (by omega), List.foldl_cons]
    exact note_foldK fin step hs l _ (by have := noteP_len s p; omega)

theorem notes_len : ∀ (l : List Int) (s : Move), (l.foldl noteP s).2.1.length ≤ s.2.1.length + l.length
  | [], _ => Nat.le_refl _
  | p :: l, s => by have := notes_len l (noteP s p); have := noteP_len s p; rw [List.foldl_cons]; simp only [List.length_cons]; omega
theorem notes_copy : ∀ (l : List Int) (s : Move), (l.foldl noteP s).1 = s.1
  | [], _ => rfl
  | p :: l, s => by rw [List.foldl_cons, notes_copy l, noteP_copy]

theorem implNote (v : Move) (a b : List Bytes) (h1 : v.1.length ≤ 1048576) (h2 : v.2.1.length ≤ 1048576) (hb : b.length ≤ 1048576) : impl_NoteChanges v a b = some ((changed a b 0).foldl noteP v) := by
  unfold impl_NoteChanges
  have hc : impl_copyInts v.2.1 = some v.2.1 := by
    simp only [impl_copyInts]
    rw [room_le (by simp; omega)]; rfl
  have hcl := changed_len a b 0
  rw [copyMemory_eq _ (by omega), hc, implChanged a b hb]
  simp only [bindO_some]
  have hfu := fuel_ge
  generalize changed a b 0 = L at hcl
  have key := iter_list (T := impl_NoteChanges_T3 (fun (_ : Int) (y8 : Move) => some y8) L ((List.length L : Int)) (([] : List Bytes), ([] : List Int), 0)) L (fun (s : Move) i => ((i : Int), s))
    (fun p s k => bindO (impl_hasInt s.2.1 p) fun r5 => cond (!r5) (bindO (impl_addOrdered s.2.1 p) fun r6 => k (s.1, r6, s.2.2)) (k s)) (fun s => some s)
    (fun i hi s nx => by
      simp only [impl_NoteChanges_T3]
      rw [decide_eq_true (by omega), idx_lt hi, wrap64 (by omega) (by omega)]; rfl)
    (fun s nx => by
      simp only [impl_NoteChanges_T3]
      rw [decide_eq_false (by omega)]; rfl)
    fuel 0 v (by omega) (by omega)
  rw [List.drop_zero] at key
  refine key.trans (note_foldK _ _ (fun p s k hl => ?_) L v (by omega))
  rw [implHas _ _ (by omega), bindO_some]
  unfold noteP
  cases s.2.1.any (· == p) with
  | true => rfl
  | false => simp only [Bool.not_false, cond_true, implAdd s.2.1 p (by omega), bindO_some]; rfl

theorem note_upK {R : Type} (L : List Int) (fin : Move → Option R) (step : Nat → Move → (Move → Option R) → Option R) (hs : ∀ i (hi : i < L.length) s k, s.2.1.length ≤ 10000000 → step i s k = k (noteP s L[i])) : ∀ (n i : Nat) (s : Move), i + n = L.length → s.2.1.length + n ≤ 10000000 → upK step fin L.length n i s = fin ((L.drop i).foldl noteP s)
  | 0, i, s, h, _ => by rw [upK, List.drop_of_length_le (by omega)]; rfl
  | n + 1, i, s, h, hl => by
    have hi : i < L.length := by omega
    rw [upK, hs i hi s _ (by omega), List.drop_eq_getElem_cons hi, List.foldl_cons]
    exact note_upK L fin step hs n (i + 1) _ (by omega) (by have := noteP_len s L[i]; omega)

theorem sub_take (l : List Int) (n : Nat) (h : n ≤ l.length) : sub l 0 (n : Int) = some (l.take n) := by
  unfold sub
  rw [if_pos (by omega)]; simp
theorem sub_drop (l : List Int) (n : Nat) (h : n ≤ l.length) : sub l (n : Int) ((l.length : Int)) = some (l.drop n) := by
  unfold sub
  rw [if_pos (by omega)]; simp

theorem specNote (v : Move) (a b : List Bytes) (h1 : v.1.length ≤ 1048576) (h2 : v.2.1.length ≤ 1048576) (hb : b.length ≤ 1048576) : spec_NoteChanges v a b = some ((changed a b 0).foldl noteP v) := by
  unfold spec_NoteChanges
  have hc : spec_l39Copy v = some v := by
    simp only [spec_l39Copy, l16Copy_eq _ (show v.1.length ≤ 1073741824 by omega), bindO_some]
    rw [room_le (by simp; omega)]; rfl
  have hcl := changed_len a b 0
  rw [hc, specChanged a b hb]
  simp only [bindO_some]
  have hfu := fuel_ge
  generalize changed a b 0 = L at hcl
  have key := iter_up (T := spec_NoteChanges_T4 (fun (_ : Int) (y13 : Move) => some y13) L (([] : List Bytes), ([] : List Int), 0)) L.length (fun (s : Move) i => ((i : Int), s))
    (fun i s k => spec_NoteChanges_T4 (fun (_ : Int) (y13 : Move) => some y13) L (([] : List Bytes), ([] : List Int), 0) (fun q => k q.2) ((i : Int), s)) (fun s => some s)
    (fun i s nx hi => by
      simp only [spec_NoteChanges_T4]
      rw [decide_eq_true (by omega), idx_lt hi, wrap64 (by omega) (by omega)]; rfl)
    (fun s nx => by
      simp only [spec_NoteChanges_T4]
      rw [decide_eq_false (by omega)]; rfl)
    fuel 0 v (by omega) (by omega)
  refine key.trans ((note_upK L (fun s => some s) _ (fun i hi s k hl => ?_) L.length 0 v (by omega) (by omega)).trans (by simp))
  simp only [spec_NoteChanges_T4]
  rw [decide_eq_true (by omega), idx_lt hi]
  simp only [cond_true, bindO_some]
  rw [specHas _ _ (by omega), bindO_some]
  unfold noteP
  cases hany : s.2.1.any (· == L[i]) with
  | true => rfl
  | false =>
    simp only [cond_false, Bool.false_eq_true, if_false]
    rw [specPos _ _ _ L[i] _ _ (idx_lt hi) (by omega)]
    have hle := posP_le L[i] s.2.1
    rw [sub_take _ _ hle, sub_drop _ _ hle]
    simp only [bindO_some, List.nil_append, List.length_nil, Nat.zero_add, List.length_append, List.length_cons, List.length_take, List.length_drop]
    rw [room_le (by omega), room_le (by omega), room_le (by omega), posP_ins]
    intro x hx he
    rw [List.any_eq_false] at hany
    exact hany x hx (by simp [he])

theorem noteChanges_true (v : Move) (a b : List Bytes) (hv : In64 TMove v) (ha : In64 (.sl .str) a) (hb : In64 (.sl .str) b) : laws_FnExactNoteChanges v a b = some true := by
  unfold laws_FnExactNoteChanges
  refine (sz_Move v hv).use (by omega) (by omega) fun hl => ?_
  refine (sz_Memory a ha).use (by omega) (by omega) fun hl2 => ?_
  refine (sz_Memory b hb).use (by omega) (by omega) fun hl3 => ?_
  have hV : LenB 1048576 TMove v := szC_len (by omega)
  have hA : LenB 1048576 (.sl .str) a := szC_len (by omega)
  have hB : LenB 1048576 (.sl .str) b := szC_len (by omega)
  have l1 : v.1.length ≤ 1048576 := hV.1.1
  have l2 : v.2.1.length ≤ 1048576 := hV.2.1.1
  have la : a.length ≤ 1048576 := hA.1
  have lb : b.length ≤ 1048576 := hB.1
  have hi := implNote v a b l1 l2 lb
  have hs := specNote v a b l1 l2 lb
  generalize hr : (changed a b 0).foldl noteP v = r at hi hs
  have r1 : r.1 = v.1 := by rw [← hr, notes_copy]
  have r2 : r.2.1.length ≤ 2097152 := by have := notes_len (changed a b 0) v; have := changed_len a b 0; rw [← hr]; omega
  have hR : LenB 1000000000000 TMove r := ⟨by rw [r1]; exact hV.1.mono (by omega), ⟨by omega, fun _ _ => trivial⟩, trivial⟩
  have r3 : r.1.length ≤ 1048576 := by rw [r1]; exact l1
  obtain ⟨p1, d1, a1, _⟩ := mark_Move v (by omega) (by omega) 1 (by omega) (by omega)
  obtain ⟨x', b1, _⟩ := mark_Memory a (by omega) (1 + (v.1.length + v.2.1.length : Nat)) (by omega) (by omega)
  obtain ⟨x2, b2, _⟩ := mark_Memory b (by omega) (1 + (v.1.length + v.2.1.length : Nat) + a.length) (by omega) (by omega)
  obtain ⟨p, d, n1, n2⟩ := mark_Move r (by omega) (by omega) 1 (by omega) (by omega)
  simp only [to_Move v hV, to_Memory a hA, to_Memory b hB, bindO_some, hi, hs, eq_Move _ hR, eq_Move _ (hV.mono (by omega)), eq_Memory _ (hA.mono (by omega)), eq_Memory _ (hB.mono (by omega)), Bool.not_true, cond_false, a1, b1, b2, n1, n2]
  rw [decide_eq_false (by omega)]
  simp only [cond_false, bindO_some]
  rw [decide_eq_false (by omega)]
  simp

end Go.Pu
