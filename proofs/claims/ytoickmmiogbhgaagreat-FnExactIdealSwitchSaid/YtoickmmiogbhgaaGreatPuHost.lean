import Derived.Test.YtoickmmiogbhgaaGreatPuSteer
/- Memory, mappings, pools, rings, queues, vectors, hosts: the program's and the reference's judgements are one. -/
namespace Go.Pu
open Go.Dn
set_option linter.unusedSimpArgs false
noncomputable section

-- memory
def memoryB (m : List Bytes) : Bool := m.all (fun x => (x.length : Int) == 128) && decide ((m.length : Int) ≤ 64)
-- mappings
-- pools
def freeB (n : Int) (l : List Int) (i : Nat) : Bool := inB (l.getD i 0) 0 (n - 1) && !((l.take i).contains (l.getD i 0))
/-- which numbers below n the list has -/
def seenL (n : Int) (l : List Int) : List Bool := (List.range n.toNat).map fun k : Nat => l.contains (k : Int)
theorem seenL_len (n : Int) (l : List Int) : (seenL n l).length = n.toNat := by simp [seenL]
theorem seenL_get (n : Int) (l : List Int) (k : Nat) (h : k < (seenL n l).length) : (seenL n l)[k] = l.contains (k : Int) := by simp [seenL]
theorem seenL_set (n : Int) (l : List Int) (k : Nat) (h : k < n.toNat) : (seenL n l).set k true = seenL n (l ++ [(k : Int)]) := by
  apply List.ext_getElem
  · simp [seenL]
  · intro j h1 h2
    rw [List.getElem_set]
    split
    · rename_i e; subst e; rw [seenL_get]; simp
    · rename_i e
      rw [seenL_get, seenL_get]
      simp only [List.contains_append]
      have : ([(k : Int)].contains (j : Int)) = false := by simp; omega
      rw [this]; simp
theorem poolLoop {T : (List Bool × Int → Option Bool) → List Bool × Int → Option Bool} (n : Int) (l : List Int) (hl : l.length ≤ 1000000000)
    (hs : ∀ i (hi : i < l.length) (s : List Bool) nx, T nx (s, (i : Int)) = bindO (cond (!(inB l[i] 0 (n - 1))) (some true) (bindO (idx s l[i]) fun x => some x)) fun q =>
      cond q (some false) (bindO (idx s l[i]) fun _ => bindO (idx s l[i]) fun _ => nx (s.set l[i].toNat true, ((i + 1 : Nat) : Int)))) (hf : ∀ s nx, T nx (s, (l.length : Int)) = some true) :
    iterL T fuel (List.replicate n.toNat false, 0) = some ((List.range l.length).all (freeB n l)) := by
  have e0 : (List.replicate n.toNat false, (0 : Int)) = (seenL n (l.take 0), ((0 : Nat) : Int)) := by
    congr 1
    simp only [seenL, List.take_zero, List.contains_nil, List.map_const', List.length_range]
  rw [e0, allx_iter (hit := some false) (fin := some true) (fun i => (seenL n (l.take i), (i : Int))) (freeB n l) l.length (by omega) (fun i nx hi hp => ?hs) (fun _ nx => hf _ nx)]
  case hs =>
    rw [hs i hi]
    unfold freeB
    rw [getD_lt hi]
    by_cases hin : inB l[i] 0 (n - 1) = true
    · have hb := hin
      rw [inB_iff] at hb
      obtain ⟨k, hk⟩ : ∃ k : Nat, l[i] = (k : Int) := ⟨l[i].toNat, by omega⟩
      have hkn : k < (seenL n (l.take i)).length := by rw [seenL_len]; omega
      rw [hin, hk, idx_lt hkn, seenL_get]
      simp only [Bool.not_true, cond_false, bindO_some, Bool.true_and, Bool.not_not, Int.toNat_natCast]
      rw [seenL_set _ _ _ (by rw [seenL_len] at hkn; exact hkn), ← hk, ← List.take_succ_eq_append_getElem hi]
    · have hin' : inB l[i] 0 (n - 1) = false := by simpa using hin
      rw [hin']; rfl
  cases (List.range l.length).all (freeB n l) <;> rfl
-- rings
def ringSizeB (n : Int) : Bool := (n == 2) || ((n == 4) || ((n == 8) || (n == 16)))
theorem ringSizeB_iff {n : Int} : ringSizeB n = true ↔ n = 2 ∨ n = 4 ∨ n = 8 ∨ n = 16 := by simp [ringSizeB]
theorem wrap_emod (x : Int) (k : Nat) (hk : k ≤ 64) : IntKind.wrap .i64 x % (2 ^ k : Int) = x % (2 ^ k : Int) := by
  obtain ⟨c, hc⟩ : ∃ c : Int, (18446744073709551616 : Int) = 2 ^ k * c := ⟨2 ^ (64 - k), by rw [← Int.pow_add, show k + (64 - k) = 64 by omega]; rfl⟩
  have : IntKind.wrap .i64 x = x ∨ ∃ q : Int, IntKind.wrap .i64 x = x + 18446744073709551616 * q := by
    right
    simp only [IntKind.wrap, IntKind.bits, IntKind.signed]
    simp
    have h1 : x = x % 18446744073709551616 + 18446744073709551616 * (x / 18446744073709551616) := by omega
    split
    · exact ⟨-(x / 18446744073709551616) - 1, by omega⟩
    · exact ⟨-(x / 18446744073709551616), by omega⟩
  rcases this with h | ⟨q, h⟩
  · rw [h]
  · rw [h, hc, Int.mul_assoc, Int.add_mul_emod_self_left]
theorem and_mask (x : Int) (k : Nat) (hk : k < 63) : ((BitVec.ofInt (IntKind.bits .i64) x &&& BitVec.ofInt (IntKind.bits .i64) (2 ^ k - 1)).toNat : Int) = x % 2 ^ k := by
  have h2 : (2 : Int) ^ k ≤ 2 ^ 62 := by
    have : (2 : Nat) ^ k ≤ 2 ^ 62 := Nat.pow_le_pow_right (by omega) (by omega)
    exact_mod_cast this
  have h0 : (1 : Int) ≤ 2 ^ k := by
    have : 1 ≤ (2 : Nat) ^ k := Nat.one_le_two_pow
    exact_mod_cast this
  have hm : (BitVec.ofInt (IntKind.bits .i64) (2 ^ k - 1)).toNat = 2 ^ k - 1 := by
    show (BitVec.ofInt 64 (2 ^ k - 1)).toNat = 2 ^ k - 1
    rw [BitVec.toNat_ofInt, Int.emod_eq_of_lt (by omega) (by omega)]
    have : ((2 : Int) ^ k - 1) = ((2 ^ k - 1 : Nat) : Int) := by
      have : 1 ≤ (2 : Nat) ^ k := Nat.one_le_two_pow
      push_cast [this]; rfl
    rw [this]; rfl
  rw [BitVec.toNat_and, hm, Nat.and_two_pow_sub_one_eq_mod]
  show (((BitVec.ofInt 64 x).toNat % 2 ^ k : Nat) : Int) = x % 2 ^ k
  rw [BitVec.toNat_ofInt]
  have hx : 0 ≤ x % 18446744073709551616 := by omega
  have e : (((x % 18446744073709551616).toNat % 2 ^ k : Nat) : Int) = (x % 18446744073709551616) % 2 ^ k := by
    push_cast
    rw [Int.toNat_of_nonneg hx]
  refine e.trans ?_
  exact Int.emod_emod_of_dvd x ⟨2 ^ (64 - k), by rw [← Int.pow_add, show k + (64 - k) = 64 by omega]; rfl⟩

theorem modulo_eq (x n : Int) (h0 : 0 < n) (h1 : n ≤ 4611686018427387904) : impl_modulo x n = some (x % n) := by
  unfold impl_modulo
  have := Int.emod_nonneg x (show n ≠ 0 by omega)
  have := Int.emod_lt_of_pos x h0
  have hn : (n.natAbs : Int) = n := by omega
  rw [if_neg (by omega), Int.tmod_eq_emod]
  split
  · rw [decide_eq_false (by omega)]; simp
  · rw [decide_eq_true (by omega), wrap64 (by omega) (by omega)]; simp only [cond_true, hn]; congr 1; omega
def ringUsed (r : (Int × Int × Int × Int)) : Int := if ringSizeB r.2.1 then (r.2.2.2 - r.2.2.1) % (2 * r.2.1) else 0
def ringB (r : (Int × Int × Int × Int)) : Bool := inB r.1 0 130944 && (ringSizeB r.2.1 && (inB r.2.2.1 0 (2 * r.2.1 - 1) && (inB r.2.2.2 0 (2 * r.2.1 - 1) && decide (ringUsed r ≤ r.2.1))))
theorem size_wrap {n : Int} (h : ringSizeB n = true) : IntKind.wrap .i64 (IntKind.wrap .i64 (2 * n) - 1) = 2 * n - 1 := by
  have := ringSizeB_iff.1 h
  rw [wrap64 (n := 2 * n) (by omega) (by omega), wrap64 (by omega) (by omega)]
-- buffers given back
theorem copyInts_eq (l : List Int) (h : l.length ≤ 1000000000) : impl_copyInts l = some l := by
  unfold impl_copyInts
  rw [room_le (by simp; omega)]; rfl
-- the sender's queue
end

end Go.Pu
