import Derived.Test.YtclgaiiidllehabGreatPuHostOk
import Derived.Test.YtclgaiiidllehabGreatPuRound
import Derived.Test.YtclgaiiidllehabGreatPuEq
/- Copies of hosts and of their parts are what was copied. -/
namespace Go.Pu
open Go.Dn
set_option linter.unusedSimpArgs false
set_option linter.unusedVariables false
noncomputable section

theorem sent_take (l : List Sent) (i : Nat) (hi : i < l.length) : l.take i ++ [(l[i].1, l[i].2.1, l[i].2.2)] = l.take (i + 1) := (List.take_succ_eq_append_getElem hi).symm
structure TxSz (t : TxQueue) : Prop where
  p : t.2.1.2.2.2.length ≤ 1000000000
  w : t.2.2.1.length ≤ 1000000000
  x : ∀ x ∈ t.2.2.1, x.2.2.length ≤ 1000000000
theorem lenTx {h : Host} (z : LenB 1000000000 THost h) : TxSz h.2.2.1 := ⟨z.2.2.1.2.1.2.2.2.1, z.2.2.1.2.2.1.1, fun x hx => (z.2.2.1.2.2.1.2 x hx).2.2.1⟩
theorem bufs_sz : ∀ l : List Sent, (buffersOf l).length ≤ szC (.sl TSent) l
  | [] => by simp [buffersOf]
  | x :: l => by
    have := bufs_sz l
    simp only [buffersOf, szC, List.flatMap_cons, List.length_append, List.map_cons, List.sum_cons, List.length_cons] at this ⊢
    omega
theorem hostSz_of {h : Host} (z : LenB 1000000000 THost h) (k : szC TTxQueue h.2.2.1 ≤ 500000000) : HostSz h := by
  have hb := bufs_sz h.2.2.1.2.2.1
  have hp : h.2.2.1.2.1.2.2.2.length ≤ szC TTxQueue h.2.2.1 := by simp only [szC]; omega
  have hw : szC (.sl TSent) h.2.2.1.2.2.1 ≤ szC TTxQueue h.2.2.1 := by simp only [szC]; omega
  exact ⟨z.1.1, z.2.1.1, z.2.2.1.2.2.1.1, by omega, z.2.2.2.2.2.2.2.1.2.2.1, z.2.2.2.2.2.2.2.2.1.1.1, z.2.2.2.2.2.2.2.2.1.2.1.1, z.2.2.2.2.2.2.2.2.1.2.2.2.1, fun p hp => (z.2.2.2.2.1.2 p hp).2.2.2.1⟩
theorem hostSz_c {h : Host} (k : szC THost h ≤ 1048576) : HostSz h := by
  refine hostSz_of ((szC_len (n := 1048576) (by omega)).mono (by omega)) ?_
  have : szC TTxQueue h.2.2.1 ≤ szC THost h := by simp only [szC]; omega
  omega

-- software hosts
-- FinishMove
end

end Go.Pu
