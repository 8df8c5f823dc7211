import Derived.Test.YtibebpcialcgdaaPuSoft
/- FnExactSoftOk, the plain law. -/
namespace Go.Pu
open Go.Dn

theorem softOk_true (a : Soft) (ha : In64 TSoft a) : laws_FnExactSoftOk a = some true := by
  unfold laws_FnExactSoftOk
  refine (sz_Soft a ha).use (by omega) (by omega) fun hl => ?_
  have hA : LenB 1048576 TSoft a := szC_len (by omega)
  have h0 : a.1.2.2.length ≤ 1000000000 := Nat.le_trans hA.1.2.2.1 (by omega)
  have h1 : a.2.1.1.length ≤ 1000000000 := Nat.le_trans hA.2.1.1.1 (by omega)
  have h2 : a.2.1.2.1.length ≤ 1000000000 := Nat.le_trans hA.2.1.2.1.1 (by omega)
  have h3 : a.2.1.2.2.2.length ≤ 1000000000 := Nat.le_trans hA.2.1.2.2.2.1 (by omega)
  simp only [to_Soft a hA, bindO_some, specSoft a h0 h1 h2 h3, implSoft a h0 h1 h2 h3, beq_self_eq_true, Bool.not_true, cond_false, eq_Soft a (hA.mono (by omega))]

end Go.Pu
