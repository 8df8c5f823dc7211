import Derived.Test.YtoickmmiogbhgaaGreatPuBytes
import Derived.Test.YtoickmmiogbhgaaGreatPuFns
import Derived.Test.YtoickmmiogbhgaaGreatPuHostOk
/- CardOk: the program's and the reference's answers are one. -/
namespace Go.Pu
open Go.Dn
set_option linter.unusedSimpArgs false
set_option linter.unusedVariables false
noncomputable section

-- images
def imageOf (v : Int) (b : Bytes) : Bytes := ((word32 v ++ word32 (b.length : Int)) ++ b) ++ word32 (crc32 ((word32 v ++ word32 (b.length : Int)) ++ b))
def makeImage (v : Int) (b : Bytes) : Bytes × Bool := bif inB v 0 1000000 && decide (b.length ≤ 84) then (imageOf v b, true) else ([], false)
def verN (s : Bytes) (n : Nat) : Int := bif (makeImage (get32 s 0) ((s.take (8 + n)).drop 8)).2 && ((makeImage (get32 s 0) ((s.take (8 + n)).drop 8)).1 == s.take (12 + n)) then get32 s 0 else -1
def verOf (s : Bytes) : Int := if 0 ≤ get32 s 4 ∧ get32 s 4 ≤ (s.length : Int) - 12 then verN s (get32 s 4).toNat else -1
theorem get32_le (s : Bytes) (a : Int) : -1 ≤ get32 s a ∧ get32 s a ≤ 4294967295 := by
  unfold get32
  cases withinB s a 4 with
  | false => simp only [cond_false]; omega
  | true =>
    have b0 := byteAt_lt s a.toNat
    have b1 := byteAt_lt s (a.toNat + 1)
    have b2 := byteAt_lt s (a.toNat + 2)
    have b3 := byteAt_lt s (a.toNat + 3)
    simp only [cond_true]
    omega
theorem verN_long {s : Bytes} {n : Nat} (h : ¬ n ≤ 84) (hs : n + 12 ≤ s.length) : verN s n = -1 := by
  have : (makeImage (get32 s 0) ((s.take (8 + n)).drop 8)).2 = false := by
    unfold makeImage
    rw [decide_eq_false (by simp only [List.length_drop, List.length_take]; omega), Bool.and_false]; rfl
  unfold verN
  rw [this]; rfl
def flashB (f : List Bytes) : Bool := ((f.length : Int) == 2) && ((((f.getD 0 []).length : Int) == 96) && (((f.getD 1 []).length : Int) == 96))
theorem flash_two {f : List Bytes} (h : flashB f = true) : f = [f.getD 0 [], f.getD 1 []] ∧ (f.getD 0 []).length = 96 ∧ (f.getD 1 []).length = 96 := by
  simp only [flashB, Bool.and_eq_true, beq_iff_eq] at h
  match f, h with
  | [a, b], h =>
    have h1 : (a.length : Int) = 96 := h.2.1
    have h2 : (b.length : Int) = 96 := h.2.2
    exact ⟨rfl, by show a.length = 96; omega, by show b.length = 96; omega⟩
def bootOf (f : List Bytes) : Int := bif flashB f then (if verOf (f.getD 0 []) < 0 ∧ verOf (f.getD 1 []) < 0 then -1 else if verOf (f.getD 1 []) > verOf (f.getD 0 []) then 1 else 0) else -1
def clockB (c : Int × Int × Int × Int) : Bool := inB c.1 0 1125899906842624 && (inB c.2.1 0 1048575 && (inB c.2.2.1 0 67108864 && inB c.2.2.2 0 1099511627776))
-- cards
theorem all_and2 : ∀ (l : List Nat) (p q : Nat → Bool), l.all (fun x => p x && q x) = (l.all p && l.all q) := by
  intro l p q
  induction l with
  | nil => rfl
  | cons x l ih => simp only [List.all_cons, ih]; cases p x <;> cases q x <;> cases l.all p <;> rfl
end

end Go.Pu
