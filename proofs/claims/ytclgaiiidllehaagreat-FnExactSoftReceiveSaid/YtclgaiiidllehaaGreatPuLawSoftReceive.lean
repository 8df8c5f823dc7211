import Derived.Test.YtclgaiiidllehaaGreatPuReceive
import Derived.Test.YtclgaiiidllehaaGreatPuMarks
/- FnExactSoftReceive, the plain law. -/
namespace Go.Pu
open Go.Dn
set_option linter.unusedSimpArgs false

theorem softReceive_true (a : Soft) (x : Bytes) (ha : In64 TSoft a) (hx : In64 .str x) : laws_FnExactSoftReceive a x = some true := by
  unfold laws_FnExactSoftReceive
  by_cases hl : (x.length : Int) > 1048576
  · rw [decide_eq_true hl]; rfl
  rw [decide_eq_false hl, cond_false]
  refine (sz_Soft a ha).use (by omega) (by omega) fun hl => ?_
  have hA : LenB 1048576 TSoft a := szC_len (by omega)
  have hs := specReceive a x (hA.mono (by omega)) (by omega)
  have hi := implReceive a x (hA.mono (by omega)) (by omega)
  have hR : LenB 1048898 TSoft (receiveR a x) := receiveR_len hA
  generalize receiveR a x = r at hs hi hR
  have c1 : cntT TSoft a ≤ bnd 1048576 TSoft := Nat.le_trans cntT_le (cnt_len hA)
  have c2 : cntT TSoft r ≤ bnd 1048898 TSoft := Nat.le_trans cntT_le (cnt_len hR)
  have b1 : bnd 1048576 TSoft ≤ 900000000000000 := by decide
  have b2 : bnd 1048898 TSoft ≤ 900000000000000 := by decide
  have m1 := mt_Soft a (hA.mono (by omega)) 1 (by omega) (by omega)
  have m2 := mt_Soft r (hR.mono (by omega)) 1 (by omega) (by omega)
  have m3 : ∀ t, t = mkT TSoft r 1 → laws_heldSoft t 1 = some (1 + (cntT TSoft r : Int)) := by rintro _ rfl; exact ht_Soft r (hR.mono (by omega)) 1 (by omega) (by omega)
  simp (disch := omega) only [to_Soft a hA, bindO_some, hs, hi, eq_Soft r (hR.mono (by omega)), eq_Soft a (hA.mono (by omega)), beq_self_eq_true, bne_self_eq_false, Bool.not_true, cond_false, m1, m2, dec_neg]
  rw [m3]
  · simp (disch := omega) only [bindO_some, dec_neg, cond_false, bne_self_eq_false]
  · rfl

end Go.Pu
