import Derived.Test.YtpnmgicfhmidcaaGreatPuCard
import Derived.Test.YtpnmgicfhmidcaaGreatPuCopy
/- FnExactCardOk, the plain law. -/
namespace Go.Pu
open Go.Dn
set_option linter.unusedSimpArgs false

theorem cardSz_c {c : Card} (k : szC TCard c ≤ 1048576) : CardSz c := by
  have hA : LenB 1048576 TCard c := szC_len k
  have g : ∀ {n : Nat}, n ≤ 1048576 → n ≤ 1000000000 := fun h => Nat.le_trans h (by omega)
  refine ⟨g hA.1.1, g hA.2.1.1, fun m hm => g (hA.2.2.1.2 m hm).1.2.2.1, fun h hh => hostSz_c ?_⟩
  have h1 := mem_sum_le (szC THost) c.1 h hh
  have h2 : (c.1.map (szC THost)).sum ≤ szC TCard c := by
    show _ ≤ (c.1.length + (c.1.map (szC THost)).sum) + _
    omega
  omega

theorem cardOk_true (a : Card) (ha : In64 TCard a) : laws_FnExactCardOk a = some true := by
  unfold laws_FnExactCardOk
  refine (sz_Card a ha).use (by omega) (by omega) fun hl => ?_
  have hA : LenB 1048576 TCard a := szC_len (by omega)
  have z : CardSz a := cardSz_c (by omega)
  simp only [to_Card a hA, bindO_some, specCard a z, implCard a z, beq_self_eq_true, Bool.not_true, cond_false, eq_Card a (hA.mono (by omega))]

end Go.Pu
