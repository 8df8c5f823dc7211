import Derived.Test.YtclgaiiidllehadGreatPuRunSoft
import Derived.Test.YtclgaiiidllehadGreatPuMarks
/- FnExactRunSoft, the plain law. -/
namespace Go.Pu
open Go.Dn
set_option linter.unusedSimpArgs false
set_option linter.unusedVariables false

theorem runSoft_true (a : Soft) (l : List Act) (v : List Int) (ha : In64 TSoft a) (hl0 : In64 (.sl TAct) l) (hv0 : In64 (.sl (.int .i64)) v) : laws_FnExactRunSoft a l v = some true := by
  unfold laws_FnExactRunSoft
  by_cases hv : (v.length : Int) > 1048576
  · rw [decide_eq_true hv]; rfl
  rw [decide_eq_false hv, cond_false]
  refine (sz_Soft a ha).use (by omega) (by omega) fun hl => ?_
  refine (sz_ActS l hl0).use (by omega) (by omega) fun hl2 => ?_
  have hA : LenB 1048576 TSoft a := szC_len (by omega)
  have hL : LenB 1048576 (.sl TAct) l := szC_len (by omega)
  have hV : LenB 1048576 (.sl (.int .i64)) v := ⟨by show v.length ≤ _; omega, fun _ _ => trivial⟩
  have hs := specRunSoft a l v (hA.mono (by omega)) (hL.mono (by omega))
  have hi := implRunSoft a l v (hA.mono (by omega)) (hL.mono (by omega))
  have hR : LenB 1061456 TSoft (runSoftR a l v) := runSoftR_len (by omega) hA
  generalize runSoftR a l v = r at hs hi hR
  have c1 : cntT TSoft a ≤ bnd 1048576 TSoft := Nat.le_trans cntT_le (cnt_len hA)
  have c2 : cntT TSoft r ≤ bnd 1061456 TSoft := Nat.le_trans cntT_le (cnt_len hR)
  have c3 : cnt (.sl TAct) l ≤ bnd 1048576 (.sl TAct) := cnt_len hL
  have c4 : cnt (.sl (.int .i64)) v ≤ bnd 1048576 (.sl (.int .i64)) := cnt_len hV
  have b1 : bnd 1048576 TSoft ≤ 400000000000000 := by decide
  have b2 : bnd 1061456 TSoft ≤ 900000000000000 := by decide
  have b3 : bnd 1048576 (.sl TAct) ≤ 400000000000000 := by decide
  have b4 : bnd 1048576 (.sl (.int .i64)) ≤ 100000000000000 := by decide
  have m1 := mt_Soft a (hA.mono (by omega)) 1 (by omega) (by omega)
  have m4 := mk_ActS l (hL.mono (by omega)) (1 + (cntT TSoft a : Int)) (by omega) (by omega)
  have m5 := mk_IntS v (hV.mono (by omega)) (1 + (cntT TSoft a : Int) + (cnt (.sl TAct) l : Int)) (by omega) (by omega)
  have m2 := mt_Soft r (hR.mono (by omega)) 1 (by omega) (by omega)
  have m3 : ∀ t, t = mkT TSoft r 1 → laws_heldSoft t 1 = some (1 + (cntT TSoft r : Int)) := by rintro _ rfl; exact ht_Soft r (hR.mono (by omega)) 1 (by omega) (by omega)
  simp (disch := omega) only [to_Soft a hA, to_ActS l hL, to_IntS v hV, bindO_some, hs, hi, eq_Soft r (hR.mono (by omega)), eq_Soft a (hA.mono (by omega)), eq_ActS l (hL.mono (by omega)), eq_IntS v (hV.mono (by omega)), beq_self_eq_true, bne_self_eq_false, Bool.not_true, cond_false, m1, m2, m4, m5, dec_neg]
  rw [m3]
  · simp (disch := omega) only [bindO_some, dec_neg, cond_false, bne_self_eq_false]
  · rfl

end Go.Pu
