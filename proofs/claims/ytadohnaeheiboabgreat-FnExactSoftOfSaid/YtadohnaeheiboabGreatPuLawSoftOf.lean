import Derived.Test.YtadohnaeheiboabGreatPuCopy
import Derived.Test.YtadohnaeheiboabGreatPuMarks
/- FnExactSoftOf, the plain law. -/
namespace Go.Pu
open Go.Dn
set_option linter.unusedSimpArgs false

theorem softOf_true (a : Host) (ha : In64 THost a) : laws_FnExactSoftOf a = some true := by
  unfold laws_FnExactSoftOf
  refine (sz_Host a ha).use (by omega) (by omega) fun hl => ?_
  have hA : LenB 1048576 THost a := szC_len (by omega)
  have hz : HostSz a := hostSz_c (by omega)
  have hs := specSoftOf a (hA.mono (by omega)) hz
  have hi := implSoftOf a (hA.mono (by omega)) hz
  have hR : LenB 1048576 TSoft (softR a) := softR_len a hA
  generalize softR a = r at hs hi hR
  have c1 : cntT THost a ≤ bnd 1048576 THost := Nat.le_trans cntT_le (cnt_len hA)
  have c2 : cntT TSoft r ≤ bnd 1048576 TSoft := Nat.le_trans cntT_le (cnt_len hR)
  have b1 : bnd 1048576 THost ≤ 100000000000000 := by decide
  have b2 : bnd 1048576 TSoft ≤ 100000000000000 := by decide
  have m1 := mt_Host a (hA.mono (by omega)) 1 (by omega) (by omega)
  have m2 := mt_Soft r (hR.mono (by omega)) 1 (by omega) (by omega)
  have m3 : ∀ t, t = mkT TSoft r 1 → laws_heldSoft t 1 = some (1 + (cntT TSoft r : Int)) := by rintro _ rfl; exact ht_Soft r (hR.mono (by omega)) 1 (by omega) (by omega)
  simp (disch := omega) only [to_Host a hA, bindO_some, hs, hi, eq_Soft r (hR.mono (by omega)), eq_Host a (hA.mono (by omega)), beq_self_eq_true, bne_self_eq_false, Bool.not_true, cond_false, m1, m2, dec_neg]
  rw [m3]
  · simp (disch := omega) only [bindO_some, dec_neg, cond_false, bne_self_eq_false]
  · rfl

end Go.Pu
