import Derived.Test.YtclgaiiidllehafGreatPuHostOk
import Derived.Test.YtclgaiiidllehafGreatPuRound
import Derived.Test.YtclgaiiidllehafGreatPuEq
/- Copies of hosts and of their parts are what was copied. -/
namespace Go.Pu
open Go.Dn
set_option linter.unusedSimpArgs false
set_option linter.unusedVariables false
noncomputable section

theorem implCopyStrings (l : List Bytes) (h : l.length ≤ 1000000000) : impl_copyStrings l = some l := by
  simp only [impl_copyStrings, room_nil h, List.nil_append]
theorem implCopyFilter (f : Filter) (h : f.2.2.length ≤ 1000000000) : impl_copyFilter f = some f := by
  simp only [impl_copyFilter, copyInts_eq _ h, bindO_some]
theorem specCopyFilter (f : Filter) (h : f.2.2.length ≤ 1000000000) : spec_l24Copy f = some f := by
  simp only [spec_l24Copy, room_nil h, List.nil_append]
theorem implCopyStreams (l : List Stream) (h : l.length ≤ 1000000000) : impl_copyStreams l = some l := by
  simp only [impl_copyStreams, room_nil h, List.nil_append]
theorem implCopyTable (t : List Slot) (h : t.length ≤ 1000000000) : impl_copyTable t = some t := by
  simp only [impl_copyTable, room_nil h, List.nil_append]
theorem implCopySpread (s : Spread) (h : s.2.length ≤ 1000000000) : impl_copySpread s = some s := by
  simp only [impl_copySpread, copyInts_eq _ h, bindO_some]
theorem implCopySteer (s : Steering) (h1 : s.1.length ≤ 1000000000) (h2 : s.2.1.length ≤ 1000000000) (h3 : s.2.2.2.length ≤ 1000000000) : impl_copySteering s = some s := by
  simp only [impl_copySteering, room_nil h1, implCopyTable _ h2, implCopySpread _ h3, bindO_some, List.nil_append]
theorem specCopyTable (t : List Slot) (h : t.length ≤ 1000000000) : spec_l13Copy t = some t := by
  simp only [spec_l13Copy, room_nil h, List.nil_append]
theorem specCopySteer (s : Steering) (h1 : s.1.length ≤ 1000000000) (h2 : s.2.1.length ≤ 1000000000) (h3 : s.2.2.2.length ≤ 1000000000) : spec_l15Copy s = some s := by
  simp only [spec_l15Copy, room_nil h1, specCopyTable _ h2, room_nil h3, bindO_some, List.nil_append]
theorem sent_take (l : List Sent) (i : Nat) (hi : i < l.length) : l.take i ++ [(l[i].1, l[i].2.1, l[i].2.2)] = l.take (i + 1) := (List.take_succ_eq_append_getElem hi).symm
theorem implCopySent (l : List Sent) (h : l.length ≤ 1000000000) (hx : ∀ x ∈ l, x.2.2.length ≤ 1000000000) : impl_copySent l = some l := by
  unfold impl_copySent
  refine (walk_iter (fun i => (l.take i, (i : Int))) l.length (by omega) (fun i nx hi => ?_) (fun nx => ?_))
  · simp only [impl_copySent_T3]
    rw [decide_eq_true (by omega), idx_lt hi, wrap64 (by omega) (by omega)]
    simp only [cond_true, bindO_some, copyInts_eq _ (hx _ (List.getElem_mem hi))]
    rw [room_le (by simp; omega), sent_take l i hi]; rfl
  · simp only [impl_copySent_T3]
    rw [decide_eq_false (by omega), List.take_length]; rfl
structure TxSz (t : TxQueue) : Prop where
  p : t.2.1.2.2.2.length ≤ 1000000000
  w : t.2.2.1.length ≤ 1000000000
  x : ∀ x ∈ t.2.2.1, x.2.2.length ≤ 1000000000
theorem implCopyTx (t : TxQueue) (z : TxSz t) : impl_copyTx t = some t := by
  simp only [impl_copyTx, copyPool_eq _ z.p, implCopySent _ z.w z.x, bindO_some]
theorem specCopyTx (t : TxQueue) (z : TxSz t) : spec_l22Copy t = some t := by
  have h := z.w
  unfold spec_l22Copy
  simp only [l21Copy_eq _ z.p, bindO_some]
  refine (walk_iter (fun i => ((i : Int), t.1, t.2.1, t.2.2.1.take i, t.2.2.2)) t.2.2.1.length (by omega) (fun i nx hi => ?_) (fun nx => ?_))
  · simp only [spec_l22Copy_T3]
    rw [decide_eq_true (by omega), idx_lt hi, wrap64 (by omega) (by omega)]
    simp only [cond_true, bindO_some, room_nil (z.x _ (List.getElem_mem hi)), List.nil_append]
    rw [room_le (by simp; omega), sent_take _ i hi]; rfl
  · simp only [spec_l22Copy_T3]
    rw [decide_eq_false (by omega), List.take_length]; rfl

theorem lenTx {h : Host} (z : LenB 1000000000 THost h) : TxSz h.2.2.1 := ⟨z.2.2.1.2.1.2.2.2.1, z.2.2.1.2.2.1.1, fun x hx => (z.2.2.1.2.2.1.2 x hx).2.2.1⟩
theorem implCopyHost (h : Host) (z : LenB 1000000000 THost h) : impl_copyHost h = some h := by
  have hp : h.2.2.2.2.1.length ≤ 1000000000 := z.2.2.2.2.1.1
  have hm : h.1.length ≤ 1000000000 := z.1.1
  unfold impl_copyHost
  simp only [copyMemory_eq _ (show h.1.length ≤ 1073741824 by omega), impl_copyMappings, room_nil z.2.1.1, implCopyTx _ (lenTx z), room_nil z.2.2.2.1.1, bindO_some, List.nil_append]
  refine (walk_iter (fun i => ((i : Int), h.1, h.2.1, h.2.2.1, h.2.2.2.1, h.2.2.2.2.1.take i, h.2.2.2.2.2)) h.2.2.2.2.1.length (by omega) (fun i nx hi => ?_) (fun nx => ?_))
  · simp only [impl_copyHost_T8]
    rw [decide_eq_true (by omega), idx_lt hi, wrap64 (by omega) (by omega)]
    simp only [cond_true, bindO_some, copyPool_eq _ (z.2.2.2.2.1.2 _ (List.getElem_mem hi)).2.2.2.1]
    rw [room_le (by simp; omega), ← List.take_succ_eq_append_getElem hi]; rfl
  · simp only [impl_copyHost_T8]
    rw [decide_eq_false (by omega), List.take_length]
    simp only [cond_false, room_nil z.2.2.2.2.2.1.1, room_nil z.2.2.2.2.2.2.1.1, implCopyFilter _ z.2.2.2.2.2.2.2.1.2.2.1, implCopySteer _ z.2.2.2.2.2.2.2.2.1.1.1 z.2.2.2.2.2.2.2.2.1.2.1.1 z.2.2.2.2.2.2.2.2.1.2.2.2.1,
      implCopyStreams _ z.2.2.2.2.2.2.2.2.2.1.1, implCopyStrings _ z.2.2.2.2.2.2.2.2.2.2.2.1.1, copyInts_eq _ z.2.2.2.2.2.2.2.2.2.2.2.2.1.1, copyInts_eq _ z.2.2.2.2.2.2.2.2.2.2.2.2.2.1.1, bindO_some, List.nil_append]
theorem specCopyHost (h : Host) (z : LenB 1000000000 THost h) : spec_l37Copy h = some h := by
  have hp : h.2.2.2.2.1.length ≤ 1000000000 := z.2.2.2.2.1.1
  have hm : h.1.length ≤ 1000000000 := z.1.1
  unfold spec_l37Copy
  simp only [l16Copy_eq _ (show h.1.length ≤ 1073741824 by omega), room_nil z.2.1.1, specCopyTx _ (lenTx z), room_nil z.2.2.2.1.1, bindO_some, List.nil_append]
  refine (walk_iter (fun i => ((i : Int), h.1, h.2.1, h.2.2.1, h.2.2.2.1, h.2.2.2.2.1.take i, h.2.2.2.2.2)) h.2.2.2.2.1.length (by omega) (fun i nx hi => ?_) (fun nx => ?_))
  · simp only [spec_l37Copy_T8]
    rw [decide_eq_true (by omega), idx_lt hi, wrap64 (by omega) (by omega)]
    simp only [cond_true, bindO_some, l21Copy_eq _ (z.2.2.2.2.1.2 _ (List.getElem_mem hi)).2.2.2.1]
    rw [room_le (by simp; omega), ← List.take_succ_eq_append_getElem hi]; rfl
  · simp only [spec_l37Copy_T8]
    rw [decide_eq_false (by omega), List.take_length]
    simp only [cond_false, room_nil z.2.2.2.2.2.1.1, room_nil z.2.2.2.2.2.2.1.1, specCopyFilter _ z.2.2.2.2.2.2.2.1.2.2.1, specCopySteer _ z.2.2.2.2.2.2.2.2.1.1.1 z.2.2.2.2.2.2.2.2.1.2.1.1 z.2.2.2.2.2.2.2.2.1.2.2.2.1,
      room_nil z.2.2.2.2.2.2.2.2.2.1.1, room_nil z.2.2.2.2.2.2.2.2.2.2.2.1.1, room_nil z.2.2.2.2.2.2.2.2.2.2.2.2.1.1, room_nil z.2.2.2.2.2.2.2.2.2.2.2.2.2.1.1, bindO_some, List.nil_append]

theorem bufs_sz : ∀ l : List Sent, (buffersOf l).length ≤ szC (.sl TSent) l
  | [] => by simp [buffersOf]
  | x :: l => by
    have := bufs_sz l
    simp only [buffersOf, szC, List.flatMap_cons, List.length_append, List.map_cons, List.sum_cons, List.length_cons] at this ⊢
    omega
theorem hostSz_of {h : Host} (z : LenB 1000000000 THost h) (k : szC TTxQueue h.2.2.1 ≤ 500000000) : HostSz h := by
  have hb := bufs_sz h.2.2.1.2.2.1
  have hp : h.2.2.1.2.1.2.2.2.length ≤ szC TTxQueue h.2.2.1 := by simp only [szC]; omega
  have hw : szC (.sl TSent) h.2.2.1.2.2.1 ≤ szC TTxQueue h.2.2.1 := by simp only [szC]; omega
  exact ⟨z.1.1, z.2.1.1, z.2.2.1.2.2.1.1, by omega, z.2.2.2.2.2.2.2.1.2.2.1, z.2.2.2.2.2.2.2.2.1.1.1, z.2.2.2.2.2.2.2.2.1.2.1.1, z.2.2.2.2.2.2.2.2.1.2.2.2.1, fun p hp => (z.2.2.2.2.1.2 p hp).2.2.2.1⟩
theorem hostSz_c {h : Host} (k : szC THost h ≤ 1048576) : HostSz h := by
  refine hostSz_of ((szC_len (n := 1048576) (by omega)).mono (by omega)) ?_
  have : szC TTxQueue h.2.2.1 ≤ szC THost h := by simp only [szC]; omega
  omega

-- software hosts
-- FinishMove
end

end Go.Pu
