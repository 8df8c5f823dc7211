import Derived.Test.YtdkhimfkfepnjaaPuCodec
/- Filters, rules, tables, spreads, steering: the program's and the reference's answers are one. -/
namespace Go.Pu
open Go.Dn
set_option linter.unusedSimpArgs false
noncomputable section

def inB (a lo hi : Int) : Bool := decide (lo ≤ a) && decide (a ≤ hi)
theorem inB_iff {a lo hi : Int} : inB a lo hi = true ↔ lo ≤ a ∧ a ≤ hi := by simp [inB]
theorem l01In_eq (a b c : Int) : spec_l01In a b c = some (inB a b c) := by
  simp only [spec_l01In, cond_some, bindO_some, inB]
  cases h : decide (a ≥ b) <;> rfl
theorem between_eq (a b c : Int) : impl_between a b c = some (inB a b c) := l01In_eq a b c

theorem getD_lt {α : Type} {l : List α} {i : Nat} (h : i < l.length) (d : α) : l.getD i d = l[i] := by rw [List.getD_eq_getElem?_getD, List.getElem?_eq_getElem h]; rfl
theorem dec_true {p : Prop} [Decidable p] (h : p) : decide p = true := decide_eq_true h
theorem dec_false {p : Prop} [Decidable p] (h : ¬ p) : decide p = false := decide_eq_false h

-- filters
def vlanB (l : List Int) (i : Nat) : Bool := inB (l.getD i 0) 0 4095 && !(decide (0 < i) && decide (l.getD i 0 ≤ l.getD (i - 1) 0))
def filterB (f : Filter) : Bool := (List.range f.2.2.length).all (vlanB f.2.2) && (inB f.1 0 281474976710654 && decide ((f.2.2.length : Int) ≤ 8))

theorem specFilter (f : Filter) (h : f.2.2.length ≤ 1000000000) : spec_FilterOk f = some (filterB f) := by
  unfold spec_FilterOk
  rw [alln_iter (hit := some false) (fin := some (inB f.1 0 281474976710654 && decide ((f.2.2.length : Int) ≤ 8))) (vlanB f.2.2) f.2.2.length (by omega) (fun i nx hi => ?hs) (fun nx => ?hf)]
  case hs =>
    simp only [spec_FilterOk_T2]
    rw [decide_eq_true (by omega), idx_lt hi, wrap64 (n := (i : Int) + 1) (by omega) (by omega)]
    simp only [cond_true, bindO_some, l01In_eq, vlanB, getD_lt hi]
    by_cases h0 : 0 < i
    · have e : IntKind.wrap .i64 ((i : Int) - 1) = ((i - 1 : Nat) : Int) := by rw [wrap64 (by omega) (by omega)]; omega
      have hp : i - 1 < f.2.2.length := by omega
      rw [e, idx_lt hp, decide_eq_true (show (i : Int) > 0 by omega), decide_eq_true h0, getD_lt hp]
      simp only [cond_true, bindO_some, Bool.true_and]
      cases inB f.2.2[i] 0 4095 <;> cases decide (f.2.2[i] ≤ f.2.2[i - 1]) <;> rfl
    · rw [decide_eq_false (show ¬ (i : Int) > 0 by omega), decide_eq_false h0]
      simp only [cond_false, Bool.false_and]
      cases inB f.2.2[i] 0 4095 <;> rfl
  case hf =>
    simp only [spec_FilterOk_T2]
    rw [decide_eq_false (by omega)]
    simp only [cond_false, l01In_eq, bindO_some, bindO_cond_some, cond_some]
    cases inB f.1 0 281474976710654 <;> rfl
  unfold filterB
  cases (List.range f.2.2.length).all (vlanB f.2.2) <;> rfl

theorem implFilter (f : Filter) (h : f.2.2.length ≤ 1000000000) : impl_FilterOk f = some (filterB f) := by
  unfold impl_FilterOk
  rw [alln_iter (hit := some false) (fin := some (inB f.1 0 281474976710654 && decide ((f.2.2.length : Int) ≤ 8))) (vlanB f.2.2) f.2.2.length (by omega) (fun i nx hi => ?hs) (fun nx => ?hf)]
  case hs =>
    simp only [impl_FilterOk_T2]
    rw [decide_eq_true (by omega), idx_lt hi, wrap64 (n := (i : Int) + 1) (by omega) (by omega)]
    simp only [cond_true, bindO_some, between_eq, vlanB, getD_lt hi]
    by_cases h0 : 0 < i
    · have e : IntKind.wrap .i64 ((i : Int) - 1) = ((i - 1 : Nat) : Int) := by rw [wrap64 (by omega) (by omega)]; omega
      have hp : i - 1 < f.2.2.length := by omega
      rw [e, idx_lt hp, decide_eq_true (show (i : Int) > 0 by omega), decide_eq_true h0, getD_lt hp]
      simp only [cond_true, bindO_some, Bool.true_and, ge_iff_le]
      cases inB f.2.2[i] 0 4095 <;> cases decide (f.2.2[i] ≤ f.2.2[i - 1]) <;> rfl
    · rw [decide_eq_false (show ¬ (i : Int) > 0 by omega), decide_eq_false h0]
      simp only [cond_false, Bool.false_and]
      cases inB f.2.2[i] 0 4095 <;> rfl
  case hf =>
    simp only [impl_FilterOk_T2]
    rw [decide_eq_false (by omega)]
    simp only [cond_false, between_eq, bindO_some, bindO_cond_some, cond_some]
    cases inB f.1 0 281474976710654 <;> rfl
  unfold filterB
  cases (List.range f.2.2.length).all (vlanB f.2.2) <;> rfl

-- rules
-- home slots
theorem and7 (x : Int) : ((BitVec.ofInt 64 x &&& BitVec.ofInt 64 7).toNat : Int) = x % 8 := by
  have h7 : (BitVec.ofInt 64 7).toNat = 2 ^ 3 - 1 := by decide
  rw [BitVec.toNat_and, h7, Nat.and_two_pow_sub_one_eq_mod]
  simp only [BitVec.toNat_ofInt]
  omega
theorem and7' (x : Int) : ((BitVec.ofInt (IntKind.bits .i64) x &&& BitVec.ofInt (IntKind.bits .i64) 7).toNat : Int) = x % 8 := and7 x
theorem tmod8 {n : Int} (h : 0 ≤ n) : Int.tmod n 8 = n % 8 := Int.tmod_eq_emod_of_nonneg h
-- the table's ways
-- both say the same of the whole table
-- spreads
def sizeB (n : Int) : Bool := (n == 1) || (n == 2) || (n == 4) || (n == 8) || (n == 16)
-- steering
end

end Go.Pu
