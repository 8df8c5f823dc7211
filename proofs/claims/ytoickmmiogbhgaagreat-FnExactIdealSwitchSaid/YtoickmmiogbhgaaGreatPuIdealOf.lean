import Derived.Test.YtoickmmiogbhgaaGreatPuCard
import Derived.Test.YtoickmmiogbhgaaGreatPuCopy
/- IdealOf: the program's and the reference's results are one. -/
namespace Go.Pu
open Go.Dn
set_option linter.unusedSimpArgs false
set_option linter.unusedVariables false
noncomputable section

theorem map_take {α β : Type} (f : α → β) (l : List α) (i : Nat) (hi : i < l.length) : (l.take i).map f ++ [f l[i]] = (l.take (i + 1)).map f := by
  rw [List.take_succ_eq_append_getElem hi, List.map_append]; rfl
theorem rep_succ {α : Type} (x : α) (i : Nat) : List.replicate i x ++ [x] = List.replicate (i + 1) x := by
  rw [← List.replicate_append_replicate]; rfl

-- boxes copied
theorem implCopyMailbox (m : Mailbox) (h : m.1.2.2.length ≤ 1000000000) : impl_copyMailbox m = some m := by
  simp only [impl_copyMailbox, implCopyFilter _ h, bindO_some]
theorem specCopyMailbox (m : Mailbox) (h : m.1.2.2.length ≤ 1000000000) : spec_l35Copy m = some m := by
  simp only [spec_l35Copy, specCopyFilter _ h, bindO_some]
theorem implCopyBoxes (l : List Mailbox) (h : l.length ≤ 1000000000) (hx : ∀ m ∈ l, m.1.2.2.length ≤ 1000000000) : impl_copyBoxes l = some l := by
  unfold impl_copyBoxes
  refine (walk_iter (fun i => (l.take i, (i : Int))) l.length (by omega) (fun i nx hi => ?_) (fun nx => ?_))
  · simp only [impl_copyBoxes_T3]
    rw [decide_eq_true (by omega), idx_lt hi, wrap64 (by omega) (by omega)]
    simp only [cond_true, bindO_some, implCopyMailbox _ (hx _ (List.getElem_mem hi))]
    rw [room_le (by simp; omega), ← List.take_succ_eq_append_getElem hi]; rfl
  · simp only [impl_copyBoxes_T3]
    rw [decide_eq_false (by omega), List.take_length]; rfl
theorem implCopyFunctions (l : List VirtualFunction) (h : l.length ≤ 1000000000) : impl_copyFunctions l = some l := by
  simp only [impl_copyFunctions, room_nil h, List.nil_append]

def ideal0 : Ideal := (([] : List Soft), ([] : List (List Bytes)), ([] : List VirtualFunction), ([] : List Mailbox), ([] : List Bytes))
end

end Go.Pu
