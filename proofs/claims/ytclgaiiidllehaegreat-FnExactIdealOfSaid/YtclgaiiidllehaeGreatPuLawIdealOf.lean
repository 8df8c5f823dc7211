import Derived.Test.YtclgaiiidllehaeGreatPuIdealOf
import Derived.Test.YtclgaiiidllehaeGreatPuMarks
/- FnExactIdealOf, the plain law. -/
namespace Go.Pu
open Go.Dn
set_option linter.unusedSimpArgs false

theorem cardSz_c {c : Card} (k : szC TCard c ≤ 1048576) : CardSz c := by
  have hA : LenB 1048576 TCard c := szC_len k
  have g : ∀ {n : Nat}, n ≤ 1048576 → n ≤ 1000000000 := fun h => Nat.le_trans h (by omega)
  refine ⟨g hA.1.1, g hA.2.1.1, fun m hm => g (hA.2.2.1.2 m hm).1.2.2.1, fun h hh => hostSz_c ?_⟩
  have h1 := mem_sum_le (szC THost) c.1 h hh
  have h2 : (c.1.map (szC THost)).sum ≤ szC TCard c := by
    show _ ≤ (c.1.length + (c.1.map (szC THost)).sum) + _
    omega
  omega

theorem idealOf_true (a : Card) (ha : In64 TCard a) : laws_FnExactIdealOf a = some true := by
  unfold laws_FnExactIdealOf
  refine (sz_Card a ha).use (by omega) (by omega) fun hl => ?_
  have hA : LenB 1048576 TCard a := szC_len (by omega)
  have hz : CardSz a := cardSz_c (by omega)
  have hs := specIdealOf a (hA.mono (by omega)) hz
  have hi := implIdealOf a (hA.mono (by omega)) hz
  have hR : LenB 1048576 TIdeal (idealOfR a) := idealOfR_len a hA
  generalize idealOfR a = r at hs hi hR
  have c0 : cnt TCard a ≤ wt TCard * (szC TCard a + 1) := cnt_sz
  have w0 : wt TCard ≤ 1000 := by decide
  have c3 : cnt TCard a ≤ 1000 * (szC TCard a + 1) := Nat.le_trans c0 (Nat.mul_le_mul_right _ w0)
  have c1 : cntT TCard a ≤ cnt TCard a := cntT_le
  have c2 : cntT TIdeal r ≤ bnd 1048576 TIdeal := Nat.le_trans cntT_le (cnt_len hR)
  have b2 : bnd 1048576 TIdeal ≤ 900000000000000 := by decide
  have m1 := mt_Card a (hA.mono (by omega)) 1 (by omega) (by omega)
  have m2 := mt_Ideal r (hR.mono (by omega)) 1 (by omega) (by omega)
  have m3 : ∀ t, t = mkT TIdeal r 1 → laws_heldIdeal t 1 = some (1 + (cntT TIdeal r : Int)) := by rintro _ rfl; exact ht_Ideal r (hR.mono (by omega)) 1 (by omega) (by omega)
  simp (disch := omega) only [to_Card a hA, bindO_some, hs, hi, eq_Ideal r (hR.mono (by omega)), eq_Card a (hA.mono (by omega)), beq_self_eq_true, bne_self_eq_false, Bool.not_true, cond_false, m1, m2, dec_neg]
  rw [m3]
  · simp (disch := omega) only [bindO_some, dec_neg, cond_false, bne_self_eq_false]
  · rfl

end Go.Pu
