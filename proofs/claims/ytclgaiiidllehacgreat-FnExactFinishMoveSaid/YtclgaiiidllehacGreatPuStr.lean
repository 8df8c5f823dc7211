import Derived.Test.YtclgaiiidllehacGreatPuEq
/- Lists of texts are compared. -/
namespace Go.Pu
open Go.Dn
set_option linter.unusedSimpArgs false
noncomputable section

theorem implStrings (a b : List Bytes) (h : a.length ≤ 1000000000) : slices_Equal_string a b = some (eqQ a b) := by
  unfold slices_Equal_string
  refine eqs_fun (fun x y => x == y) (fun x y => beq_iff_eq) a b h (fun hl i hi hi' nx => ?_) (fun nx => ?_)
  · simp only [slices_Equal_string_T4]
    rw [decide_eq_true (by omega), idx_lt hi, idx_lt hi', wrap64 (by omega) (by omega)]; rfl
  · simp only [slices_Equal_string_T4]
    rw [decide_eq_false (by omega)]; rfl

end

end Go.Pu
