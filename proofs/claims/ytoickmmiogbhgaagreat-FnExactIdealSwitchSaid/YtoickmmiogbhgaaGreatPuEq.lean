import Derived.Test.YtoickmmiogbhgaaGreatPuSteer
/- Equality of lists, as loops ask for it. -/
namespace Go.Pu
open Go.Dn
set_option linter.unusedSimpArgs false
noncomputable section

def eqQ {α : Type} (a b : α) : Bool := @decide (a = b) (Classical.propDecidable _)
theorem eqQ_iff {α : Type} {a b : α} : eqQ a b = true ↔ a = b := by unfold eqQ; exact @decide_eq_true_iff _ (Classical.propDecidable _)
theorem eqQ_of {α : Type} {a b : α} {x : Bool} (h : x = true ↔ a = b) : x = eqQ a b := by rw [Bool.eq_iff_iff, eqQ_iff]; exact h
theorem beqQ {α : Type} [BEq α] [LawfulBEq α] (a b : α) : (a == b) = eqQ a b := eqQ_of beq_iff_eq
theorem eqQ_pair {α β : Type} (a b : α) (c d : β) : eqQ (a, c) (b, d) = (eqQ a b && eqQ c d) := by
  rw [Bool.eq_iff_iff]; simp only [Bool.and_eq_true, eqQ_iff, Prod.mk.injEq]
theorem eqQ_prod {α β : Type} (a b : α × β) : eqQ a b = (eqQ a.1 b.1 && eqQ a.2 b.2) := eqQ_pair a.1 b.1 a.2 b.2
theorem eqQ_true {α : Type} {a b : α} (h : a = b) : eqQ a b = true := eqQ_iff.2 h
theorem eqQ_false {α : Type} {a b : α} (h : ¬ a = b) : eqQ a b = false := by rw [Bool.eq_false_iff, ne_eq, eqQ_iff]; exact h

theorem eqs_loop {α R : Type} {T : (Int → Option R) → Int → Option R} {fin hit : Option R} (p : α → α → Bool) (hp : ∀ x y, p x y = true ↔ x = y) (a b : List α) (hl : a.length = b.length) (h : a.length ≤ 1000000000)
    (hs : ∀ i (hi : i < a.length) nx, T nx (i : Int) = cond (!(p a[i] (b[i]'(hl ▸ hi)))) hit (nx ((i + 1 : Nat) : Int))) (hf : ∀ nx, T nx (a.length : Int) = fin) :
    iterL T fuel 0 = cond (eqQ a b) fin hit := by
  have hq : ∀ i, i < a.length → i < b.length := fun i hi => hl ▸ hi
  rw [alln_iter (fin := fin) (hit := hit) (fun i => eqQ a[i]? b[i]?) a.length (by omega) ?hs hf]
  case hs =>
    intro i nx hi
    rw [hs i hi, List.getElem?_eq_getElem hi, List.getElem?_eq_getElem (hq i hi)]
    have : p a[i] (b[i]'(hq i hi)) = eqQ (some a[i]) (some (b[i]'(hq i hi))) := eqQ_of (by rw [hp, Option.some.injEq])
    rw [this]
  congr 1
  apply eqQ_of
  rw [List.all_eq_true]
  constructor
  · intro k
    apply List.ext_getElem?
    intro i
    by_cases hi : i < a.length
    · exact eqQ_iff.1 (k i (List.mem_range.2 hi))
    · rw [List.getElem?_eq_none (by omega), List.getElem?_eq_none (by omega)]
  · rintro rfl i _; exact eqQ_true rfl
theorem eqs_fun {α : Type} {T : (Int → Option Bool) → Int → Option Bool} (p : α → α → Bool) (hp : ∀ x y, p x y = true ↔ x = y) (a b : List α) (h : a.length ≤ 1000000000)
    (hs : a.length = b.length → ∀ i (hi : i < a.length) (hi' : i < b.length) nx, T nx (i : Int) = cond (!(p a[i] b[i])) (some false) (nx ((i + 1 : Nat) : Int))) (hf : ∀ nx, T nx (a.length : Int) = some true) :
    cond ((a.length : Int) != (b.length : Int)) (some false) (iterL T fuel 0) = some (eqQ a b) := by
  by_cases hl : a.length = b.length
  · rw [eqs_loop p hp a b hl h (fun i hi nx => hs hl i hi (hl ▸ hi) nx) hf]
    rw [show ((a.length : Int) != (b.length : Int)) = false by simp [hl]]
    cases eqQ a b <;> rfl
  · rw [eqQ_false (fun e => hl (by rw [e]))]
    rw [show ((a.length : Int) != (b.length : Int)) = true by simp; omega]
    rfl
theorem implInts (a b : List Int) (h : a.length ≤ 1000000000) : slices_Equal_int a b = some (eqQ a b) := by
  unfold slices_Equal_int
  refine eqs_fun (fun x y => x == y) (fun x y => beq_iff_eq) a b h (fun hl i hi hi' nx => ?_) (fun nx => ?_)
  · simp only [slices_Equal_int_T4]
    rw [decide_eq_true (by omega), idx_lt hi, idx_lt hi', wrap64 (by omega) (by omega)]; rfl
  · simp only [slices_Equal_int_T4]
    rw [decide_eq_false (by omega)]; rfl
theorem specInts (a b : List Int) (h : a.length ≤ 1000000000) : spec_l39Ints a b = some (eqQ a b) := implInts a b h
theorem implFilterEq (a b : Filter) (h : a.2.2.length ≤ 1000000000) : impl_sameFilter a b = some (eqQ a b) := by
  simp only [impl_sameFilter, implInts _ _ h, bindO_some, cond_some, cF, eqQ_prod a b, eqQ_prod a.2 b.2, beqQ]

end

end Go.Pu
