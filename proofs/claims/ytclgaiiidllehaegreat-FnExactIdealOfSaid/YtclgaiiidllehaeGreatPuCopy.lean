import Derived.Test.YtclgaiiidllehaeGreatPuHostOk
import Derived.Test.YtclgaiiidllehaeGreatPuRound
import Derived.Test.YtclgaiiidllehaeGreatPuEq
/- Copies of hosts and of their parts are what was copied. -/
namespace Go.Pu
open Go.Dn
set_option linter.unusedSimpArgs false
set_option linter.unusedVariables false
noncomputable section

theorem implCopyStrings (l : List Bytes) (h : l.length ≤ 1000000000) : impl_copyStrings l = some l := by
  simp only [impl_copyStrings, room_nil h, List.nil_append]
theorem implCopyFilter (f : Filter) (h : f.2.2.length ≤ 1000000000) : impl_copyFilter f = some f := by
  simp only [impl_copyFilter, copyInts_eq _ h, bindO_some]
theorem specCopyFilter (f : Filter) (h : f.2.2.length ≤ 1000000000) : spec_l24Copy f = some f := by
  simp only [spec_l24Copy, room_nil h, List.nil_append]
theorem implCopyStreams (l : List Stream) (h : l.length ≤ 1000000000) : impl_copyStreams l = some l := by
  simp only [impl_copyStreams, room_nil h, List.nil_append]
theorem implCopyTable (t : List Slot) (h : t.length ≤ 1000000000) : impl_copyTable t = some t := by
  simp only [impl_copyTable, room_nil h, List.nil_append]
theorem implCopySpread (s : Spread) (h : s.2.length ≤ 1000000000) : impl_copySpread s = some s := by
  simp only [impl_copySpread, copyInts_eq _ h, bindO_some]
theorem implCopySteer (s : Steering) (h1 : s.1.length ≤ 1000000000) (h2 : s.2.1.length ≤ 1000000000) (h3 : s.2.2.2.length ≤ 1000000000) : impl_copySteering s = some s := by
  simp only [impl_copySteering, room_nil h1, implCopyTable _ h2, implCopySpread _ h3, bindO_some, List.nil_append]
theorem specCopyTable (t : List Slot) (h : t.length ≤ 1000000000) : spec_l13Copy t = some t := by
  simp only [spec_l13Copy, room_nil h, List.nil_append]
theorem specCopySteer (s : Steering) (h1 : s.1.length ≤ 1000000000) (h2 : s.2.1.length ≤ 1000000000) (h3 : s.2.2.2.length ≤ 1000000000) : spec_l15Copy s = some s := by
  simp only [spec_l15Copy, room_nil h1, specCopyTable _ h2, room_nil h3, bindO_some, List.nil_append]
theorem sent_take (l : List Sent) (i : Nat) (hi : i < l.length) : l.take i ++ [(l[i].1, l[i].2.1, l[i].2.2)] = l.take (i + 1) := (List.take_succ_eq_append_getElem hi).symm
structure TxSz (t : TxQueue) : Prop where
  p : t.2.1.2.2.2.length ≤ 1000000000
  w : t.2.2.1.length ≤ 1000000000
  x : ∀ x ∈ t.2.2.1, x.2.2.length ≤ 1000000000
theorem lenTx {h : Host} (z : LenB 1000000000 THost h) : TxSz h.2.2.1 := ⟨z.2.2.1.2.1.2.2.2.1, z.2.2.1.2.2.1.1, fun x hx => (z.2.2.1.2.2.1.2 x hx).2.2.1⟩
theorem bufs_sz : ∀ l : List Sent, (buffersOf l).length ≤ szC (.sl TSent) l
  | [] => by simp [buffersOf]
  | x :: l => by
    have := bufs_sz l
    simp only [buffersOf, szC, List.flatMap_cons, List.length_append, List.map_cons, List.sum_cons, List.length_cons] at this ⊢
    omega
theorem hostSz_of {h : Host} (z : LenB 1000000000 THost h) (k : szC TTxQueue h.2.2.1 ≤ 500000000) : HostSz h := by
  have hb := bufs_sz h.2.2.1.2.2.1
  have hp : h.2.2.1.2.1.2.2.2.length ≤ szC TTxQueue h.2.2.1 := by simp only [szC]; omega
  have hw : szC (.sl TSent) h.2.2.1.2.2.1 ≤ szC TTxQueue h.2.2.1 := by simp only [szC]; omega
  exact ⟨z.1.1, z.2.1.1, z.2.2.1.2.2.1.1, by omega, z.2.2.2.2.2.2.2.1.2.2.1, z.2.2.2.2.2.2.2.2.1.1.1, z.2.2.2.2.2.2.2.2.1.2.1.1, z.2.2.2.2.2.2.2.2.1.2.2.2.1, fun p hp => (z.2.2.2.2.1.2 p hp).2.2.2.1⟩
theorem hostSz_c {h : Host} (k : szC THost h ≤ 1048576) : HostSz h := by
  refine hostSz_of ((szC_len (n := 1048576) (by omega)).mono (by omega)) ?_
  have : szC TTxQueue h.2.2.1 ≤ szC THost h := by simp only [szC]; omega
  omega

-- software hosts
theorem implCopySoft (s : Soft) (z : LenB 1000000000 TSoft s) : impl_copySoft s = some s := by
  simp only [impl_copySoft, implCopyFilter _ z.1.2.2.1, implCopySteer _ z.2.1.1.1 z.2.1.2.1.1 z.2.1.2.2.2.1, implCopyStreams _ z.2.2.2.1.1, implCopyStrings _ z.2.2.2.2.1, bindO_some]
def soft0 : Soft := ((0, false, ([] : List Int)), (([] : List Rule), ([] : List Slot), ([] : Bytes), ([] : List Int)), 0, ([] : List Stream), ([] : List Bytes))
def softR (h : Host) : Soft := bif hostB h then (h.2.2.2.2.2.2.2.1, h.2.2.2.2.2.2.2.2.1, (h.2.2.2.1.length : Int), h.2.2.2.2.2.2.2.2.2.1, ([] : List Bytes)) else soft0
theorem specSoftOf (h : Host) (z : LenB 1000000000 THost h) (k : HostSz h) : spec_SoftOf h = some (softR h) := by
  simp only [spec_SoftOf, specHost h k, bindO_some, softR]
  cases hostB h with
  | false => rfl
  | true =>
    simp only [Bool.not_true, cond_false, cond_true, specCopyFilter _ z.2.2.2.2.2.2.2.1.2.2.1, specCopySteer _ z.2.2.2.2.2.2.2.2.1.1.1 z.2.2.2.2.2.2.2.2.1.2.1.1 z.2.2.2.2.2.2.2.2.1.2.2.2.1, room_nil z.2.2.2.2.2.2.2.2.2.1.1, bindO_some, List.nil_append]
theorem softR_len (h : Host) {n : Nat} (z : LenB n THost h) : LenB n TSoft (softR h) := by
  unfold softR
  cases hostB h with
  | false => exact ⟨⟨trivial, trivial, Nat.zero_le _, fun _ h => nomatch h⟩, ⟨⟨Nat.zero_le _, fun _ h => nomatch h⟩, ⟨Nat.zero_le _, fun _ h => nomatch h⟩, Nat.zero_le _, Nat.zero_le _, fun _ h => nomatch h⟩, trivial, ⟨Nat.zero_le _, fun _ h => nomatch h⟩, Nat.zero_le _, fun _ h => nomatch h⟩
  | true => exact ⟨z.2.2.2.2.2.2.2.1, z.2.2.2.2.2.2.2.2.1, trivial, z.2.2.2.2.2.2.2.2.2.1, Nat.zero_le _, fun _ h => nomatch h⟩
theorem implSoftOf (h : Host) (z : LenB 1000000000 THost h) (k : HostSz h) : impl_SoftOf h = some (softR h) := by
  have hl := softR_len h z
  simp only [impl_SoftOf, implHost h k, bindO_some, softR] at hl ⊢
  cases hb : hostB h with
  | false => rfl
  | true =>
    rw [hb] at hl
    simp only [Bool.not_true, cond_false, cond_true] at hl ⊢
    simp only [implCopySoft _ hl, bindO_some]

-- FinishMove
end

end Go.Pu
