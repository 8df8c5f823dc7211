import Derived.Test.YtclgaiiidllehaeGreatPuCard
import Derived.Test.YtclgaiiidllehaeGreatPuCopy
/- IdealOf: the program's and the reference's results are one. -/
namespace Go.Pu
open Go.Dn
set_option linter.unusedSimpArgs false
set_option linter.unusedVariables false
noncomputable section

theorem map_take {α β : Type} (f : α → β) (l : List α) (i : Nat) (hi : i < l.length) : (l.take i).map f ++ [f l[i]] = (l.take (i + 1)).map f := by
  rw [List.take_succ_eq_append_getElem hi, List.map_append]; rfl
theorem rep_succ {α : Type} (x : α) (i : Nat) : List.replicate i x ++ [x] = List.replicate (i + 1) x := by
  rw [← List.replicate_append_replicate]; rfl

-- boxes copied
theorem implCopyMailbox (m : Mailbox) (h : m.1.2.2.length ≤ 1000000000) : impl_copyMailbox m = some m := by
  simp only [impl_copyMailbox, implCopyFilter _ h, bindO_some]
theorem specCopyMailbox (m : Mailbox) (h : m.1.2.2.length ≤ 1000000000) : spec_l35Copy m = some m := by
  simp only [spec_l35Copy, specCopyFilter _ h, bindO_some]
theorem implCopyBoxes (l : List Mailbox) (h : l.length ≤ 1000000000) (hx : ∀ m ∈ l, m.1.2.2.length ≤ 1000000000) : impl_copyBoxes l = some l := by
  unfold impl_copyBoxes
  refine (walk_iter (fun i => (l.take i, (i : Int))) l.length (by omega) (fun i nx hi => ?_) (fun nx => ?_))
  · simp only [impl_copyBoxes_T3]
    rw [decide_eq_true (by omega), idx_lt hi, wrap64 (by omega) (by omega)]
    simp only [cond_true, bindO_some, implCopyMailbox _ (hx _ (List.getElem_mem hi))]
    rw [room_le (by simp; omega), ← List.take_succ_eq_append_getElem hi]; rfl
  · simp only [impl_copyBoxes_T3]
    rw [decide_eq_false (by omega), List.take_length]; rfl
theorem implCopyFunctions (l : List VirtualFunction) (h : l.length ≤ 1000000000) : impl_copyFunctions l = some l := by
  simp only [impl_copyFunctions, room_nil h, List.nil_append]

def ideal0 : Ideal := (([] : List Soft), ([] : List (List Bytes)), ([] : List VirtualFunction), ([] : List Mailbox), ([] : List Bytes))
def idealOfR (c : Card) : Ideal := bif cardB c then (c.1.map softR, List.replicate c.1.length ([] : List Bytes), c.2.1, c.2.2.1, c.2.2.2.2.2.2) else ideal0
theorem cardB_lens {c : Card} (h : cardB c = true) : c.1.length = c.2.2.1.length ∧ c.2.1.length = c.2.2.1.length := by
  unfold cardB at h
  simp only [Bool.and_eq_true] at h
  exact lens2_iff h.2.1
theorem implIdealOf (c : Card) (hl : LenB 1000000000 TCard c) (z : CardSz c) : impl_IdealOf c = some (idealOfR c) := by
  have h0 := z.h0
  unfold impl_IdealOf idealOfR
  rw [implCard c z, bindO_some]
  cases hc : cardB c with
  | false => rfl
  | true =>
    simp only [Bool.not_true, cond_false, cond_true, implCopyFunctions _ hl.2.1.1, implCopyBoxes _ hl.2.2.1.1 z.m, implCopyStrings _ hl.2.2.2.2.2.2.1, bindO_some]
    refine (walk_iter (fun i => ((i : Int), (c.1.take i).map softR, List.replicate i ([] : List Bytes), c.2.1, c.2.2.1, c.2.2.2.2.2.2)) c.1.length (by omega) (fun i nx hi => ?_) (fun nx => ?_))
    · have hm := List.getElem_mem hi
      simp only [impl_IdealOf_T5]
      rw [decide_eq_true (by omega), idx_lt hi, wrap64 (by omega) (by omega)]
      simp only [cond_true, bindO_some, implSoftOf _ (hl.1.2 _ hm) (z.h1 _ hm)]
      rw [room_le (by simp; omega), room_le (by simp; omega), map_take _ _ _ hi, rep_succ]; rfl
    · simp only [impl_IdealOf_T5]
      rw [decide_eq_false (by omega), List.take_length]; rfl
theorem specIdealOf (c : Card) (hl : LenB 1000000000 TCard c) (z : CardSz c) : spec_IdealOf c = some (idealOfR c) := by
  have h0 := z.h0
  unfold spec_IdealOf idealOfR
  rw [specCard c z, bindO_some]
  cases hc : cardB c with
  | false => rfl
  | true =>
    have hL := cardB_lens hc
    simp only [Bool.not_true, cond_false, cond_true, room_nil hl.2.1.1, room_nil hl.2.2.2.2.2.2.1, List.nil_append]
    refine (walk_iter (fun i => ((i : Int), (c.1.take i).map softR, List.replicate i ([] : List Bytes), c.2.1, c.2.2.1.take i, c.2.2.2.2.2.2)) c.1.length (by omega) (fun i nx hi => ?_) (fun nx => ?_))
    · have hm := List.getElem_mem hi
      have hi2 : i < c.2.2.1.length := by omega
      simp only [spec_IdealOf_T5]
      rw [decide_eq_true (by omega), idx_lt hi, idx_lt hi2, wrap64 (by omega) (by omega)]
      simp only [cond_true, bindO_some, specSoftOf _ (hl.1.2 _ hm) (z.h1 _ hm), specCopyMailbox _ (z.m _ (List.getElem_mem hi2))]
      rw [room_le (by simp; omega), room_le (by simp; omega), room_le (by simp; omega), map_take _ _ _ hi, rep_succ, ← List.take_succ_eq_append_getElem hi2]; rfl
    · simp only [spec_IdealOf_T5]
      rw [decide_eq_false (by omega), List.take_length, hL.1, List.take_length]; rfl
theorem idealOfR_len (c : Card) {n : Nat} (z : LenB n TCard c) : LenB n TIdeal (idealOfR c) := by
  unfold idealOfR
  cases cardB c with
  | false => exact ⟨⟨Nat.zero_le _, fun _ h => nomatch h⟩, ⟨Nat.zero_le _, fun _ h => nomatch h⟩, ⟨Nat.zero_le _, fun _ h => nomatch h⟩, ⟨Nat.zero_le _, fun _ h => nomatch h⟩, Nat.zero_le _, fun _ h => nomatch h⟩
  | true =>
    refine ⟨⟨?_, fun x hx => ?_⟩, ⟨?_, fun x hx => ?_⟩, z.2.1, z.2.2.1, z.2.2.2.2.2.2⟩
    · show (c.1.map softR).length ≤ n
      rw [List.length_map]; exact z.1.1
    · obtain ⟨h, hh, rfl⟩ := List.mem_map.1 hx
      exact softR_len h (z.1.2 h hh)
    · show (List.replicate c.1.length ([] : List Bytes)).length ≤ n
      rw [List.length_replicate]; exact z.1.1
    · have := List.eq_of_mem_replicate hx
      subst this
      exact ⟨Nat.zero_le _, fun _ h => nomatch h⟩

end

end Go.Pu
