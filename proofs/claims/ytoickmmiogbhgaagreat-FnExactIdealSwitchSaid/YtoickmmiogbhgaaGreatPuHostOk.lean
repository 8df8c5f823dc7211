import Derived.Test.YtoickmmiogbhgaaGreatPuHost
/- HostOk: the program's and the reference's answers are one. -/
namespace Go.Pu
open Go.Dn

noncomputable section
-- segments and packets
def segB (s : Segment) : Bool := inB s.2.1 0 65535 && (inB s.2.2.1 0 65535 && (!decide ((List.length s.2.2.2.2.2.2.2 : Int) > 320) &&
  (bif s.1 == 17 then (s.2.2.2.1 == 0) && ((s.2.2.2.2.1 == 0) && ((s.2.2.2.2.2.1 == 0) && (s.2.2.2.2.2.2.1 == 0)))
   else (s.1 == 6) && (inB s.2.2.2.1 0 4294967295 && (inB s.2.2.2.2.1 0 4294967295 && (inB s.2.2.2.2.2.1 0 31 && inB s.2.2.2.2.2.2.1 0 65535))))))
theorem specSeg (s : Segment) : spec_SegmentOk s = some (segB s) := by
  simp only [spec_SegmentOk, l01In_eq, bindO_some, cond_some, cF, cT, cN, Bool.not_or, Bool.not_not, Bool.and_assoc, segB]
theorem implSeg (s : Segment) : impl_SegmentOk s = some (segB s) := by
  simp only [impl_SegmentOk, between_eq, bindO_some, cond_some, cF, cT, cN, Bool.not_or, Bool.not_not, Bool.and_assoc, segB]
  by_cases h : s.1 = 17
  · rw [h]; rfl
  · rw [show (s.1 == 17) = false from by simpa using h]
    cases s.1 == 6 <;> rfl

def flagsB (f : Int) : Bool := (f == 16) || (f == 17) || (f == 24) || (f == 25)
theorem flags_spec (f : Int) (h : inB f 0 31 = true) : (IntKind.wrap .i64 (BitVec.toNat (BitVec.ofInt (IntKind.bits .i64) f &&& ~~~ BitVec.ofInt (IntKind.bits .i64) 9)) == 16) = flagsB f := by
  have key : ∀ k : Fin 32, (IntKind.wrap .i64 (BitVec.toNat (BitVec.ofInt (IntKind.bits .i64) (k.val : Int) &&& ~~~ BitVec.ofInt (IntKind.bits .i64) 9)) == 16) = flagsB (k.val : Int) := by decide
  rw [inB_iff] at h
  have := key ⟨f.toNat, by omega⟩
  rwa [show ((f.toNat : Nat) : Int) = f by omega] at this
theorem flags_impl (f : Int) (h : inB f 0 31 = true) : impl_streaming f = some (flagsB f) := by
  have key : ∀ k : Fin 32, ((IntKind.wrap .i64 (BitVec.toNat (BitVec.ofInt (IntKind.bits .i64) (k.val : Int) &&& BitVec.ofInt (IntKind.bits .i64) 16)) != 0) && (IntKind.wrap .i64 (BitVec.toNat (BitVec.ofInt (IntKind.bits .i64) (k.val : Int) &&& ~~~ BitVec.ofInt (IntKind.bits .i64) 25)) == 0)) = flagsB (k.val : Int) := by decide
  rw [inB_iff] at h
  have := key ⟨f.toNat, by omega⟩
  rw [show ((f.toNat : Nat) : Int) = f by omega] at this
  simp only [impl_streaming, cond_some, bindO_some, cF]
  rw [this]
theorem seg_flags {s : Segment} (h : segB s = true) (h6 : (s.1 == 6) = true) : inB s.2.2.2.2.2.1 0 31 = true := by
  have : s.1 = 6 := by simpa using h6
  unfold segB at h
  rw [this] at h
  simp only [Bool.and_eq_true] at h
  have h := h.2.2.2
  simp at h
  exact h.2.2.1
def headB (p : Packet) : Bool := inB p.1 0 281474976710655 && (inB p.2.1 0 281474976710655 && (inB p.2.2.1 (-1) 4095 && (inB p.2.2.2.1 0 255 && (inB p.2.2.2.2.2.1 0 255 && (inB p.2.2.2.2.1 0 65535 && (inB p.2.2.2.2.2.2.1 0 4294967295 && (inB p.2.2.2.2.2.2.2.1 0 4294967295 && segB p.2.2.2.2.2.2.2.2)))))))
def superB (p : Packet) : Bool := headB p && (decide ((List.length p.2.2.2.2.2.2.2.2.2.2.2.2.2.2.2 : Int) ≤ 128) || (p.2.2.2.2.2.2.2.2.1 == 6) && flagsB p.2.2.2.2.2.2.2.2.2.2.2.2.2.1)
theorem head_seg {p : Packet} (h : headB p = true) : segB p.2.2.2.2.2.2.2.2 = true := by
  unfold headB at h
  simp only [Bool.and_eq_true] at h
  exact h.2.2.2.2.2.2.2.2
theorem specSuper (p : Packet) : spec_SuperOk p = some (superB p) := by
  unfold spec_SuperOk superB
  simp only [l01In_eq, specSeg, bindO_some, cond_some, cF, cT, cN, Bool.not_or, Bool.not_not]
  rw [show (inB p.1 0 281474976710655 && (inB p.2.1 0 281474976710655 && (inB p.2.2.1 (-1) 4095 && (inB p.2.2.2.1 0 255 && (inB p.2.2.2.2.2.1 0 255 && (inB p.2.2.2.2.1 0 65535 && (inB p.2.2.2.2.2.2.1 0 4294967295 && (inB p.2.2.2.2.2.2.2.1 0 4294967295 && segB p.2.2.2.2.2.2.2.2)))))))) = headB p from rfl]
  cases hh : headB p with
  | false => rfl
  | true =>
    cases h6 : p.2.2.2.2.2.2.2.2.1 == 6 with
    | false => simp
    | true =>
      rw [flags_spec _ (seg_flags (head_seg hh) h6)]
      simp [Bool.or_comm]
theorem implSuper (p : Packet) : impl_SuperOk p = some (superB p) := by
  unfold impl_SuperOk superB
  simp only [between_eq, implSeg, bindO_some]
  have e : ∀ X : Option Bool, (cond (inB p.1 0 281474976710655) (cond (inB p.2.1 0 281474976710655) (cond (inB p.2.2.1 (-1) 4095) (cond (inB p.2.2.2.1 0 255) (cond (inB p.2.2.2.2.2.1 0 255) (cond (inB p.2.2.2.2.1 0 65535) (cond (inB p.2.2.2.2.2.2.1 0 4294967295) (cond (inB p.2.2.2.2.2.2.2.1 0 4294967295) (cond (segB p.2.2.2.2.2.2.2.2) X (some false)) (some false)) (some false)) (some false)) (some false)) (some false)) (some false)) (some false)) (some false)) = cond (headB p) X (some false) := by
    intro X
    unfold headB
    cases inB p.1 0 281474976710655 with | false => rfl | true => ?_
    cases inB p.2.1 0 281474976710655 with | false => rfl | true => ?_
    cases inB p.2.2.1 (-1) 4095 with | false => rfl | true => ?_
    cases inB p.2.2.2.1 0 255 with | false => rfl | true => ?_
    cases inB p.2.2.2.2.2.1 0 255 with | false => rfl | true => ?_
    cases inB p.2.2.2.2.1 0 65535 with | false => rfl | true => ?_
    cases inB p.2.2.2.2.2.2.1 0 4294967295 with | false => rfl | true => ?_
    cases inB p.2.2.2.2.2.2.2.1 0 4294967295 <;> rfl
  rw [e]
  cases hh : headB p with
  | false => rfl
  | true =>
    cases h6 : p.2.2.2.2.2.2.2.2.1 == 6 with
    | false => simp [cond_some]
    | true =>
      rw [flags_impl _ (seg_flags (head_seg hh) h6)]
      simp only [cond_true, bindO_some, cond_some, cT, Bool.true_and]

-- the receiver's queue
def queueB (q : (Int × Int × Int)) : Bool := inB q.1 0 130944 && (ringSizeB q.2.1 && inB q.2.2 0 (IntKind.wrap .i64 ((IntKind.wrap .i64 (2 * q.2.1)) - 1)))
-- vectors
-- the host
theorem range_all {α : Type} (l : List α) (p : α → Bool) : (List.range l.length).all (fun i => l[i]?.all p) = l.all p := by
  rw [Bool.eq_iff_iff, List.all_eq_true, List.all_eq_true]
  constructor
  · intro h x hx
    obtain ⟨i, hi, rfl⟩ := List.getElem_of_mem hx
    have := h i (List.mem_range.2 hi)
    rwa [List.getElem?_eq_getElem hi] at this
  · intro h i hi
    rw [List.getElem?_eq_getElem (List.mem_range.1 hi)]
    exact h _ (List.getElem_mem _)
theorem all_and {α : Type} (l : List α) (p q : α → Bool) : l.all (fun x => p x && q x) = (l.all p && l.all q) := by
  induction l with
  | nil => rfl
  | cons x l ih => simp only [List.all_cons, ih]; cases p x <;> cases q x <;> cases l.all p <;> rfl
end

end Go.Pu
