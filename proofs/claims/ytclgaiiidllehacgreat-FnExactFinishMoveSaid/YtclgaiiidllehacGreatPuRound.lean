import Derived.Test.YtclgaiiidllehacGreatPuSteer
/- CopyRound: the program's and the reference's results are one. -/
namespace Go.Pu
open Go.Dn
set_option linter.unusedSimpArgs false
set_option linter.unusedVariables false
noncomputable section

theorem copyMemory_eq (a : List Bytes) (h : a.length ≤ 1073741824) : impl_copyMemory a = some a := by
  simp only [impl_copyMemory, impl_copyStrings]
  rw [room_le (by simpa using h)]; rfl
theorem l16Copy_eq (a : List Bytes) (h : a.length ≤ 1073741824) : spec_l16Copy a = some a := by
  simp only [spec_l16Copy]
  rw [room_le (by simpa using h)]; rfl

-- a round of copying
def roundM (m : List Bytes) (s : Move) (p : Int) : Move :=
  if 0 ≤ p ∧ p < m.length ∧ p < s.1.length then (s.1.set p.toNat (m.getD p.toNat []), s.2.1, IntKind.wrap .i64 (s.2.2 + 1)) else s
theorem roundM_len (m : List Bytes) (s : Move) (p : Int) : (roundM m s p).1.length = s.1.length := by unfold roundM; split <;> simp
theorem roundM_dirty (m : List Bytes) (s : Move) (p : Int) : (roundM m s p).2.1 = s.2.1 := by unfold roundM; split <;> rfl
theorem rounds_len (m : List Bytes) : ∀ (l : List Int) (s : Move), (l.foldl (roundM m) s).1.length = s.1.length
  | [], _ => rfl
  | p :: l, s => by rw [List.foldl_cons, rounds_len m l, roundM_len]
theorem rounds_dirty (m : List Bytes) : ∀ (l : List Int) (s : Move), (l.foldl (roundM m) s).2.1 = s.2.1
  | [], _ => rfl
  | p :: l, s => by rw [List.foldl_cons, rounds_dirty m l, roundM_dirty]
/-- the dirty list takes no part -/
theorem rounds_apart (m : List Bytes) : ∀ (l : List Int) (s t : Move), s.1 = t.1 → s.2.2 = t.2.2 → (l.foldl (roundM m) s).1 = (l.foldl (roundM m) t).1 ∧ (l.foldl (roundM m) s).2.2 = (l.foldl (roundM m) t).2.2
  | [], _, _, h1, h2 => ⟨h1, h2⟩
  | p :: l, s, t, h1, h2 => by
    rw [List.foldl_cons, List.foldl_cons]
    refine rounds_apart m l _ _ ?_ ?_
    · unfold roundM; rw [h1]; split <;> simp [h1]
    · unfold roundM; rw [h1, h2]; split <;> simp [h2]

theorem round_step {R : Type} (m : List Bytes) (s : Move) (p : Int) (k : Move → Option R) :
    (bindO (cond (decide (p ≥ 0)) (cond (decide (p < ((List.length m : Int)))) (some (decide (p < ((List.length s.1 : Int))))) (some false)) (some false)) fun q3 =>
      cond q3 (bindO (idx m p) fun x4 => bindO (idx s.1 p) fun _ => bindO (idx s.1 p) fun _ => k (List.set s.1 (Int.toNat p) x4, s.2.1, IntKind.wrap .i64 (s.2.2 + 1))) (k s)) = k (roundM m s p) := by
  unfold roundM
  by_cases h : 0 ≤ p ∧ p < m.length ∧ p < s.1.length
  · obtain ⟨h0, h1, h2⟩ := h
    obtain ⟨n, rfl⟩ := Int.eq_ofNat_of_zero_le h0
    rw [if_pos ⟨h0, h1, h2⟩, decide_eq_true (show (n : Int) ≥ 0 from h0), decide_eq_true h1, decide_eq_true h2]
    have hn1 : n < m.length := by omega
    have hn2 : n < s.1.length := by omega
    simp only [cond_true, bindO_some, idx_lt hn1, idx_lt hn2, Int.toNat_natCast]
    rw [List.getD_eq_getElem?_getD, List.getElem?_eq_getElem hn1]; rfl
  · rw [if_neg h]
    by_cases h0 : p ≥ 0
    · rw [decide_eq_true h0]
      by_cases h1 : p < m.length
      · rw [decide_eq_true h1, decide_eq_false (by omega)]; rfl
      · rw [decide_eq_false h1]; rfl
    · rw [decide_eq_false h0]; rfl

theorem foldK_next {α σ R : Type} (f : σ → α → σ) (fin : σ → Option R) : ∀ (xs : List α) (s : σ), foldK (fun x s k => k (f s x)) fin xs s = fin (xs.foldl f s)
  | [], _ => rfl
  | x :: xs, s => by rw [foldK, List.foldl_cons]; exact foldK_next f fin xs (f s x)

theorem implCopyRound (v : Move) (m : List Bytes) (h1 : v.1.length ≤ 1073741824) (h2 : v.2.1.length ≤ 1073741824) : impl_CopyRound v m = some (v.2.1.foldl (roundM m) (v.1, ([] : List Int), v.2.2)) := by
  unfold impl_CopyRound
  rw [copyMemory_eq _ h1, bindO_some]
  have hfu := fuel_ge
  have key := iter_list (T := impl_CopyRound_T3 (fun (_ : Int) (y8 : Move) => some y8) v.2.1 ((List.length v.2.1 : Int)) m (([] : List Bytes), ([] : List Int), 0)) v.2.1 (fun (s : Move) i => ((i : Int), s)) (fun p s k => k (roundM m s p)) (fun s => some s)
    (fun i hi s nx => by
      simp only [impl_CopyRound_T3]
      rw [decide_eq_true (by omega), idx_lt hi, wrap64 (by omega) (by omega)]
      simp only [cond_true, bindO_some]
      exact round_step m s v.2.1[i] (fun s' => nx ((i : Int) + 1, s')))
    (fun s nx => by
      simp only [impl_CopyRound_T3]
      rw [decide_eq_false (by omega)]; rfl)
    fuel 0 (v.1, ([] : List Int), v.2.2) (by omega) (by omega)
  rw [List.drop_zero, foldK_next] at key
  exact key

theorem specCopyRound (v : Move) (m : List Bytes) (h1 : v.1.length ≤ 1073741824) (h2 : v.2.1.length ≤ 1073741824) : spec_CopyRound v m = some (v.2.1.foldl (roundM m) (v.1, ([] : List Int), v.2.2)) := by
  unfold spec_CopyRound
  have hc : spec_l39Copy v = some v := by
    simp only [spec_l39Copy, l16Copy_eq _ h1, bindO_some]
    rw [room_le (by simpa using h2)]; rfl
  rw [hc, bindO_some]
  have hfu := fuel_ge
  have key := iter_list (T := spec_CopyRound_T3 (fun (_ : Int) (y8 : Move) => some (y8.1, ([] : List Int), y8.2.2)) v m (([] : List Bytes), ([] : List Int), 0)) v.2.1 (fun (s : Move) i => ((i : Int), s)) (fun p s k => k (roundM m s p)) (fun s => some (s.1, ([] : List Int), s.2.2))
    (fun i hi s nx => by
      simp only [spec_CopyRound_T3]
      rw [decide_eq_true (by omega), idx_lt hi, wrap64 (by omega) (by omega)]
      simp only [cond_true, bindO_some]
      exact round_step m s v.2.1[i] (fun s' => nx ((i : Int) + 1, s')))
    (fun s nx => by
      simp only [spec_CopyRound_T3]
      rw [decide_eq_false (by omega)]; rfl)
    fuel 0 v (by omega) (by omega)
  rw [List.drop_zero, foldK_next] at key
  refine key.trans ?_
  obtain ⟨e1, e2⟩ := rounds_apart m v.2.1 v (v.1, ([] : List Int), v.2.2) rfl rfl
  have e3 := rounds_dirty m v.2.1 (v.1, ([] : List Int), v.2.2)
  rw [e1, e2]
  congr 1
  exact Prod.ext rfl (Prod.ext e3.symm rfl)


end

end Go.Pu
