import Derived.Test.YtclgaiiidllehabGreatPuHostOk
import Derived.Test.YtclgaiiidllehabGreatPuBytes
/- Reads through mappings: the program's and the reference's results are one. -/
namespace Go.Pu
open Go.Dn
set_option linter.unusedSimpArgs false
set_option linter.unusedVariables false
noncomputable section

theorem bytes_ints (s : Bytes) : bytesOf (intsOf s) = s := by
  unfold bytesOf intsOf
  rw [List.map_map]
  conv => rhs; rw [← List.map_id s]
  refine List.map_congr_left fun b _ => ?_
  simp
theorem ints_app (s t : Bytes) : intsOf (s ++ t) = intsOf s ++ intsOf t := List.map_append
theorem ints_len (s : Bytes) : (intsOf s).length = s.length := List.length_map ..
theorem sub_nat {α : Type} (l : List α) (i j : Nat) (h : i ≤ j) (h2 : j ≤ l.length) : sub l (i : Int) (j : Int) = some ((l.drop i).take (j - i)) := by
  unfold sub
  rw [if_pos (by omega)]
  simp [List.take_drop, Nat.add_sub_cancel' h]
theorem tdivN (a k : Nat) : Int.tdiv (a : Int) (k : Int) = ((a / k : Nat) : Int) := (Int.ofNat_tdiv a k).symm
theorem tmodN (a k : Nat) : Int.tmod (a : Int) (k : Int) = ((a % k : Nat) : Int) := (Int.ofNat_tmod a k).symm

-- memory as one row of bytes
theorem mem_iff {m : List Bytes} : memoryB m = true ↔ (∀ x ∈ m, x.length = 128) ∧ m.length ≤ 64 := by
  simp only [memoryB, Bool.and_eq_true, List.all_eq_true, beq_iff_eq, decide_eq_true_eq]
  constructor
  · rintro ⟨h1, h2⟩; exact ⟨fun x hx => by have := h1 x hx; omega, by omega⟩
  · rintro ⟨h1, h2⟩; exact ⟨fun x hx => by have := h1 x hx; omega, by omega⟩
theorem flat_len : ∀ {m : List Bytes}, (∀ x ∈ m, x.length = 128) → m.flatten.length = 128 * m.length
  | [], _ => rfl
  | x :: m, h => by
    have := flat_len (m := m) (fun y hy => h y (by simp [hy]))
    have := h x (by simp)
    simp only [List.flatten_cons, List.length_append, List.length_cons]; omega
theorem flat_page : ∀ {m : List Bytes} (_ : ∀ x ∈ m, x.length = 128) (p : Nat) (hp : p < m.length) (o c : Nat), o + c ≤ 128 → (m.flatten.drop (128 * p + o)).take c = (m[p].drop o).take c
  | x :: m, h, 0, hp, o, c, ho => by
    have := h x (by simp)
    simp only [List.flatten_cons, List.getElem_cons_zero]
    rw [List.drop_append_of_le_length (by omega), List.take_append_of_le_length (by simp; omega)]
    simp
  | x :: m, h, p + 1, hp, o, c, ho => by
    have hx := h x (by simp)
    simp only [List.flatten_cons, List.getElem_cons_succ]
    rw [show 128 * (p + 1) + o = x.length + (128 * p + o) by omega, List.drop_length_add_append]
    exact flat_page (m := m) (fun y hy => h y (by simp [hy])) p (by simpa using hp) o c ho
def readM (m : List Bytes) (a n : Nat) : Bytes := (m.flatten.drop a).take n
theorem readM_len {m : List Bytes} {a n : Nat} (h : memoryB m = true) (hn : a + n ≤ 128 * m.length) : (readM m a n).length = n := by
  have := flat_len (mem_iff.1 h).1
  simp only [readM, List.length_take, List.length_drop]; omega
theorem readM_le (m : List Bytes) (a n : Nat) : (readM m a n).length ≤ n := by simp [readM]; omega
theorem readM_add (m : List Bytes) (a k c : Nat) : readM m a (k + c) = readM m a k ++ readM m (a + k) c := by
  unfold readM; rw [List.take_add, List.drop_drop]
theorem readM_page {m : List Bytes} (h : memoryB m = true) {p : Nat} (hp : p < m.length) {o c : Nat} (ho : o + c ≤ 128) {a : Nat} (ha : a = 128 * p + o) : (m[p].drop o).take c = readM m a c := by
  subst ha; exact (flat_page (mem_iff.1 h).1 p hp o c ho).symm
def withinM (m : List Bytes) (a n : Int) : Bool := memoryB m && decide (0 ≤ n ∧ 0 ≤ a ∧ a + n ≤ 128 * (m.length : Int))
theorem implWithinM (m : List Bytes) (a n : Int) (h : m.length ≤ 1000000000) : impl_within m a n = some (withinM m a n) := by
  unfold impl_within withinM
  rw [implMemory m h, bindO_some, wrap64 (n := (m.length : Int) * 128) (by omega) (by omega)]
  cases hm : memoryB m with
  | false => rfl
  | true =>
    simp only [cond_true, Bool.true_and]
    by_cases h1 : n ≥ 0
    · by_cases h2 : n ≤ (m.length : Int) * 128
      · rw [wrap64 (n := (m.length : Int) * 128 - n) (by omega) (by omega)]
        by_cases h3 : a ≥ 0
        · simp only [decide_eq_true h1, decide_eq_true h2, decide_eq_true h3, cond_true, bindO_some]
          exact congrArg some (decide_eq_decide.2 (by omega))
        · simp only [decide_eq_true h1, decide_eq_true h2, decide_eq_false h3, cond_true, cond_false, bindO_some]
          exact congrArg some (decide_eq_false (by omega)).symm
      · simp only [decide_eq_true h1, decide_eq_false h2, cond_true, cond_false, bindO_some]
        exact congrArg some (decide_eq_false (by omega)).symm
    · simp only [decide_eq_false h1, cond_false, bindO_some]
      exact congrArg some (decide_eq_false (by omega)).symm
theorem specWithinM (m : List Bytes) (a n : Int) (h : m.length ≤ 1000000000) : spec_l16Within m a n = some (withinM m a n) := by
  unfold spec_l16Within withinM
  rw [specMemory m h, bindO_some, wrap64 (n := 128 * (m.length : Int)) (by omega) (by omega)]
  cases hm : memoryB m with
  | false => rfl
  | true =>
    simp only [cond_true, Bool.true_and]
    by_cases h1 : n ≥ 0
    · by_cases h3 : a ≥ 0
      · by_cases h2 : a ≤ 128 * (m.length : Int)
        · rw [wrap64 (n := 128 * (m.length : Int) - a) (by omega) (by omega)]
          simp only [decide_eq_true h1, decide_eq_true h2, decide_eq_true h3, cond_true, bindO_some]
          exact congrArg some (decide_eq_decide.2 (by omega))
        · simp only [decide_eq_true h1, decide_eq_false h2, decide_eq_true h3, cond_true, cond_false, bindO_some]
          exact congrArg some (decide_eq_false (by omega)).symm
      · simp only [decide_eq_true h1, decide_eq_false h3, cond_true, cond_false, bindO_some]
        exact congrArg some (decide_eq_false (by omega)).symm
    · simp only [decide_eq_false h1, cond_false, bindO_some]
      exact congrArg some (decide_eq_false (by omega)).symm
theorem implReadLoop {R : Type} {m : List Bytes} (hm : memoryB m = true) (K : Int → List Int → Option R) : ∀ (n r k a f : Nat), r ≤ n → n < f → a + k + r ≤ 128 * m.length →
    iterL (impl_ReadMemory_T4 K ((k + r : Nat) : Int) m) f (((a + k : Nat) : Int), intsOf (readM m a k)) = K ((a + k + r : Nat) : Int) (intsOf (readM m a (k + r)))
  | n, r, k, a, 0, _, hf, _ => by omega
  | n, 0, k, a, f + 1, hr, hf, hb => by
    rw [iterL]
    simp only [impl_ReadMemory_T4, ints_len, readM_len hm (show a + k ≤ 128 * m.length by omega), Nat.add_zero]
    rw [decide_eq_false (by omega), cond_false]
  | 0, r + 1, k, a, f + 1, hr, hf, hb => by omega
  | n + 1, r + 1, k, a, f + 1, hr, hf, hb => by
    have h64 := (mem_iff.1 hm).2
    have hl := readM_len hm (show a + k ≤ 128 * m.length by omega)
    obtain ⟨p, hp⟩ : ∃ p, (a + k) / 128 = p := ⟨_, rfl⟩
    obtain ⟨o, ho⟩ : ∃ o, (a + k) % 128 = o := ⟨_, rfl⟩
    have hpo : a + k = 128 * p + o := by omega
    have ho2 : o < 128 := by omega
    have hpl : p < m.length := by omega
    obtain ⟨c, hc⟩ : ∃ c, min (r + 1) (128 - o) = c := ⟨_, rfl⟩
    have hpg := (mem_iff.1 hm).1 _ (List.getElem_mem hpl)
    have e1 : Int.tdiv ((a + k : Nat) : Int) 128 = (p : Int) := by rw [← hp]; exact tdivN (a + k) 128
    have e2 : Int.tmod ((a + k : Nat) : Int) 128 = (o : Int) := by rw [← ho]; exact tmodN (a + k) 128
    have key := implReadLoop hm K n (r + 1 - c) (k + c) a f (by omega) (by omega) (by omega)
    rw [iterL]
    simp only [impl_ReadMemory_T4, ints_len, hl, e1, e2]
    rw [decide_eq_true (by omega), cond_true, if_neg (by omega), wrap64 (n := (p : Int)) (by omega) (by omega), idx_lt hpl, bindO_some, if_neg (by omega)]
    rw [wrap64 (n := (o : Int) + ((k + (r + 1) : Nat) : Int)) (by omega) (by omega), wrap64 (n := (o : Int) + ((k + (r + 1) : Nat) : Int) - (k : Int)) (by omega) (by omega)]
    rw [show (if (o : Int) + ((k + (r + 1) : Nat) : Int) - (k : Int) < 128 then (o : Int) + ((k + (r + 1) : Nat) : Int) - (k : Int) else 128) = ((o + c : Nat) : Int) by split <;> omega]
    rw [sub_nat _ _ _ (by omega) (by omega), bindO_some, show o + c - o = c by omega, readM_page hm hpl (show o + c ≤ 128 by omega) hpo]
    have hl2 := readM_len hm (show a + k + c ≤ 128 * m.length by omega)
    rw [hl2, room_le (by omega), wrap64 (by omega) (by omega), ← ints_app, ← readM_add]
    rw [show ((a + k : Nat) : Int) + (c : Int) = ((a + (k + c) : Nat) : Int) by omega]
    rw [show k + c + (r + 1 - c) = k + (r + 1) by omega, show a + (k + c) + (r + 1 - c) = a + k + (r + 1) by omega] at key
    exact key
theorem implRead (m : List Bytes) (a n : Int) (h : m.length ≤ 1000000000) : impl_ReadMemory m a n = some (bif withinM m a n then (readM m a.toNat n.toNat, true) else ([], false)) := by
  have hfu := fuel_ge
  unfold impl_ReadMemory
  rw [implWithinM m a n h, bindO_some]
  cases hw : withinM m a n with
  | false => rfl
  | true =>
    simp only [withinM, Bool.and_eq_true, decide_eq_true_eq] at hw
    obtain ⟨hm, h1, h2, h3⟩ := hw
    have h64 := (mem_iff.1 hm).2
    simp only [Bool.not_true, cond_false, cond_true]
    rw [if_pos (by omega), room_le (by omega)]
    obtain ⟨a, rfl⟩ := Int.eq_ofNat_of_zero_le h2
    obtain ⟨n, rfl⟩ := Int.eq_ofNat_of_zero_le h1
    have := implReadLoop hm (fun (y4 : Int) (y5 : List Int) => some (bytesOf y5, true)) n n 0 a fuel (by omega) (by omega) (by omega)
    rw [Nat.zero_add, Nat.add_zero] at this
    refine Eq.trans this ?_
    simp only [bytes_ints, Int.toNat_natCast]
theorem specReadLoop {R : Type} {m : List Bytes} (hm : memoryB m = true) (K : Int → Int → Bytes → Option R) : ∀ (n r k a f : Nat), r ≤ n → n < f → a + k + r ≤ 128 * m.length →
    iterL (spec_ReadMemory_T4 K m) f (((a + k : Nat) : Int), (r : Int), readM m a k) = K ((a + k + r : Nat) : Int) 0 (readM m a (k + r))
  | n, r, k, a, 0, _, hf, _ => by omega
  | n, 0, k, a, f + 1, hr, hf, hb => by
    rw [iterL]
    simp only [spec_ReadMemory_T4]
    rw [decide_eq_false (by omega), cond_false]; rfl
  | 0, r + 1, k, a, f + 1, hr, hf, hb => by omega
  | n + 1, r + 1, k, a, f + 1, hr, hf, hb => by
    have h64 := (mem_iff.1 hm).2
    have hl := readM_len hm (show a + k ≤ 128 * m.length by omega)
    obtain ⟨p, hp⟩ : ∃ p, (a + k) / 128 = p := ⟨_, rfl⟩
    obtain ⟨o, ho⟩ : ∃ o, (a + k) % 128 = o := ⟨_, rfl⟩
    have hpo : a + k = 128 * p + o := by omega
    have ho2 : o < 128 := by omega
    have hpl : p < m.length := by omega
    obtain ⟨c, hc⟩ : ∃ c, min (r + 1) (128 - o) = c := ⟨_, rfl⟩
    have hpg := (mem_iff.1 hm).1 _ (List.getElem_mem hpl)
    have e1 : Int.tdiv ((a + k : Nat) : Int) 128 = (p : Int) := by rw [← hp]; exact tdivN (a + k) 128
    have e2 : Int.tmod ((a + k : Nat) : Int) 128 = (o : Int) := by rw [← ho]; exact tmodN (a + k) 128
    have key := specReadLoop hm K n (r + 1 - c) (k + c) a f (by omega) (by omega) (by omega)
    rw [iterL]
    simp only [spec_ReadMemory_T4, e1, e2]
    rw [decide_eq_true (by omega), cond_true, if_neg (by omega), if_neg (by omega), wrap64 (n := (p : Int)) (by omega) (by omega), idx_lt hpl, bindO_some]
    rw [wrap64 (n := 128 - (o : Int)) (by omega) (by omega)]
    rw [show (if 128 - (o : Int) < ((r + 1 : Nat) : Int) then 128 - (o : Int) else ((r + 1 : Nat) : Int)) = (c : Int) by split <;> omega]
    rw [wrap64 (n := (o : Int) + (c : Int)) (by omega) (by omega), show (o : Int) + (c : Int) = ((o + c : Nat) : Int) by omega]
    rw [sub_nat _ _ _ (by omega) (by omega), bindO_some, show o + c - o = c by omega, readM_page hm hpl (show o + c ≤ 128 by omega) hpo]
    have hl2 := readM_len hm (show a + k + c ≤ 128 * m.length by omega)
    rw [hl2, hl, room_le (by omega), wrap64 (n := ((a + k : Nat) : Int) + (c : Int)) (by omega) (by omega), wrap64 (n := ((r + 1 : Nat) : Int) - (c : Int)) (by omega) (by omega), ← readM_add]
    rw [show ((a + k : Nat) : Int) + (c : Int) = ((a + (k + c) : Nat) : Int) by omega, show ((r + 1 : Nat) : Int) - (c : Int) = ((r + 1 - c : Nat) : Int) by omega]
    rw [show k + c + (r + 1 - c) = k + (r + 1) by omega, show a + (k + c) + (r + 1 - c) = a + k + (r + 1) by omega] at key
    exact key
theorem specRead (m : List Bytes) (a n : Int) (h : m.length ≤ 1000000000) : spec_ReadMemory m a n = some (bif withinM m a n then (readM m a.toNat n.toNat, true) else ([], false)) := by
  have hfu := fuel_ge
  unfold spec_ReadMemory
  rw [specWithinM m a n h, bindO_some]
  cases hw : withinM m a n with
  | false => rfl
  | true =>
    simp only [withinM, Bool.and_eq_true, decide_eq_true_eq] at hw
    obtain ⟨hm, h1, h2, h3⟩ := hw
    have h64 := (mem_iff.1 hm).2
    simp only [Bool.not_true, cond_false, cond_true]
    obtain ⟨a, rfl⟩ := Int.eq_ofNat_of_zero_le h2
    obtain ⟨n, rfl⟩ := Int.eq_ofNat_of_zero_le h1
    have := specReadLoop hm (fun (y4 : Int) (y5 : Int) (y6 : Bytes) => some (y6, true)) n n 0 a fuel (by omega) (by omega) (by omega)
    rw [Nat.zero_add, Nat.add_zero] at this
    exact this

end

end Go.Pu
