import Derived.Test.YthnncngicmfmjabGreatPuDropped
/- FnExactCardDropped, the plain law. -/
namespace Go.Pu
open Go.Dn

theorem cardDropped_true (a : Card) (ha : In64 TCard a) : laws_FnExactCardDropped a = some true := by
  unfold laws_FnExactCardDropped
  refine (sz_Card a ha).use (by omega) (by omega) fun hl => ?_
  have hA : LenB 1048576 TCard a := szC_len (by omega)
  have h0 : a.1.length ≤ 1000000000 := Nat.le_trans hA.1.1 (by omega)
  have h1 : ∀ h ∈ a.1, h.2.2.2.1.length ≤ 1000000000 := fun h hm => Nat.le_trans (hA.1.2 h hm).2.2.2.1.1 (by omega)
  simp only [to_Card a hA, bindO_some, specCardDropped a h0 h1, implCardDropped a h0 h1, bne_self_eq_false, cond_false, eq_Card a (hA.mono (by omega)), Bool.not_true]

end Go.Pu
