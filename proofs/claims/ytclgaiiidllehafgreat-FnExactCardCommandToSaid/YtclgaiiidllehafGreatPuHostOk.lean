import Derived.Test.YtclgaiiidllehafGreatPuHost
/- HostOk: the program's and the reference's answers are one. -/
namespace Go.Pu
open Go.Dn

noncomputable section
-- segments and packets
def segB (s : Segment) : Bool := inB s.2.1 0 65535 && (inB s.2.2.1 0 65535 && (!decide ((List.length s.2.2.2.2.2.2.2 : Int) > 320) &&
  (bif s.1 == 17 then (s.2.2.2.1 == 0) && ((s.2.2.2.2.1 == 0) && ((s.2.2.2.2.2.1 == 0) && (s.2.2.2.2.2.2.1 == 0)))
   else (s.1 == 6) && (inB s.2.2.2.1 0 4294967295 && (inB s.2.2.2.2.1 0 4294967295 && (inB s.2.2.2.2.2.1 0 31 && inB s.2.2.2.2.2.2.1 0 65535))))))
theorem specSeg (s : Segment) : spec_SegmentOk s = some (segB s) := by
  simp only [spec_SegmentOk, l01In_eq, bindO_some, cond_some, cF, cT, cN, Bool.not_or, Bool.not_not, Bool.and_assoc, segB]
theorem implSeg (s : Segment) : impl_SegmentOk s = some (segB s) := by
  simp only [impl_SegmentOk, between_eq, bindO_some, cond_some, cF, cT, cN, Bool.not_or, Bool.not_not, Bool.and_assoc, segB]
  by_cases h : s.1 = 17
  · rw [h]; rfl
  · rw [show (s.1 == 17) = false from by simpa using h]
    cases s.1 == 6 <;> rfl

def flagsB (f : Int) : Bool := (f == 16) || (f == 17) || (f == 24) || (f == 25)
theorem flags_spec (f : Int) (h : inB f 0 31 = true) : (IntKind.wrap .i64 (BitVec.toNat (BitVec.ofInt (IntKind.bits .i64) f &&& ~~~ BitVec.ofInt (IntKind.bits .i64) 9)) == 16) = flagsB f := by
  have key : ∀ k : Fin 32, (IntKind.wrap .i64 (BitVec.toNat (BitVec.ofInt (IntKind.bits .i64) (k.val : Int) &&& ~~~ BitVec.ofInt (IntKind.bits .i64) 9)) == 16) = flagsB (k.val : Int) := by decide
  rw [inB_iff] at h
  have := key ⟨f.toNat, by omega⟩
  rwa [show ((f.toNat : Nat) : Int) = f by omega] at this
theorem flags_impl (f : Int) (h : inB f 0 31 = true) : impl_streaming f = some (flagsB f) := by
  have key : ∀ k : Fin 32, ((IntKind.wrap .i64 (BitVec.toNat (BitVec.ofInt (IntKind.bits .i64) (k.val : Int) &&& BitVec.ofInt (IntKind.bits .i64) 16)) != 0) && (IntKind.wrap .i64 (BitVec.toNat (BitVec.ofInt (IntKind.bits .i64) (k.val : Int) &&& ~~~ BitVec.ofInt (IntKind.bits .i64) 25)) == 0)) = flagsB (k.val : Int) := by decide
  rw [inB_iff] at h
  have := key ⟨f.toNat, by omega⟩
  rw [show ((f.toNat : Nat) : Int) = f by omega] at this
  simp only [impl_streaming, cond_some, bindO_some, cF]
  rw [this]
theorem seg_flags {s : Segment} (h : segB s = true) (h6 : (s.1 == 6) = true) : inB s.2.2.2.2.2.1 0 31 = true := by
  have : s.1 = 6 := by simpa using h6
  unfold segB at h
  rw [this] at h
  simp only [Bool.and_eq_true] at h
  have h := h.2.2.2
  simp at h
  exact h.2.2.1
def headB (p : Packet) : Bool := inB p.1 0 281474976710655 && (inB p.2.1 0 281474976710655 && (inB p.2.2.1 (-1) 4095 && (inB p.2.2.2.1 0 255 && (inB p.2.2.2.2.2.1 0 255 && (inB p.2.2.2.2.1 0 65535 && (inB p.2.2.2.2.2.2.1 0 4294967295 && (inB p.2.2.2.2.2.2.2.1 0 4294967295 && segB p.2.2.2.2.2.2.2.2)))))))
def superB (p : Packet) : Bool := headB p && (decide ((List.length p.2.2.2.2.2.2.2.2.2.2.2.2.2.2.2 : Int) ≤ 128) || (p.2.2.2.2.2.2.2.2.1 == 6) && flagsB p.2.2.2.2.2.2.2.2.2.2.2.2.2.1)
theorem head_seg {p : Packet} (h : headB p = true) : segB p.2.2.2.2.2.2.2.2 = true := by
  unfold headB at h
  simp only [Bool.and_eq_true] at h
  exact h.2.2.2.2.2.2.2.2
theorem specSuper (p : Packet) : spec_SuperOk p = some (superB p) := by
  unfold spec_SuperOk superB
  simp only [l01In_eq, specSeg, bindO_some, cond_some, cF, cT, cN, Bool.not_or, Bool.not_not]
  rw [show (inB p.1 0 281474976710655 && (inB p.2.1 0 281474976710655 && (inB p.2.2.1 (-1) 4095 && (inB p.2.2.2.1 0 255 && (inB p.2.2.2.2.2.1 0 255 && (inB p.2.2.2.2.1 0 65535 && (inB p.2.2.2.2.2.2.1 0 4294967295 && (inB p.2.2.2.2.2.2.2.1 0 4294967295 && segB p.2.2.2.2.2.2.2.2)))))))) = headB p from rfl]
  cases hh : headB p with
  | false => rfl
  | true =>
    cases h6 : p.2.2.2.2.2.2.2.2.1 == 6 with
    | false => simp
    | true =>
      rw [flags_spec _ (seg_flags (head_seg hh) h6)]
      simp [Bool.or_comm]
theorem implSuper (p : Packet) : impl_SuperOk p = some (superB p) := by
  unfold impl_SuperOk superB
  simp only [between_eq, implSeg, bindO_some]
  have e : ∀ X : Option Bool, (cond (inB p.1 0 281474976710655) (cond (inB p.2.1 0 281474976710655) (cond (inB p.2.2.1 (-1) 4095) (cond (inB p.2.2.2.1 0 255) (cond (inB p.2.2.2.2.2.1 0 255) (cond (inB p.2.2.2.2.1 0 65535) (cond (inB p.2.2.2.2.2.2.1 0 4294967295) (cond (inB p.2.2.2.2.2.2.2.1 0 4294967295) (cond (segB p.2.2.2.2.2.2.2.2) X (some false)) (some false)) (some false)) (some false)) (some false)) (some false)) (some false)) (some false)) (some false)) = cond (headB p) X (some false) := by
    intro X
    unfold headB
    cases inB p.1 0 281474976710655 with | false => rfl | true => ?_
    cases inB p.2.1 0 281474976710655 with | false => rfl | true => ?_
    cases inB p.2.2.1 (-1) 4095 with | false => rfl | true => ?_
    cases inB p.2.2.2.1 0 255 with | false => rfl | true => ?_
    cases inB p.2.2.2.2.2.1 0 255 with | false => rfl | true => ?_
    cases inB p.2.2.2.2.1 0 65535 with | false => rfl | true => ?_
    cases inB p.2.2.2.2.2.2.1 0 4294967295 with | false => rfl | true => ?_
    cases inB p.2.2.2.2.2.2.2.1 0 4294967295 <;> rfl
  rw [e]
  cases hh : headB p with
  | false => rfl
  | true =>
    cases h6 : p.2.2.2.2.2.2.2.2.1 == 6 with
    | false => simp [cond_some]
    | true =>
      rw [flags_impl _ (seg_flags (head_seg hh) h6)]
      simp only [cond_true, bindO_some, cond_some, cT, Bool.true_and]

-- the receiver's queue
def queueB (q : (Int × Int × Int)) : Bool := inB q.1 0 130944 && (ringSizeB q.2.1 && inB q.2.2 0 (IntKind.wrap .i64 ((IntKind.wrap .i64 (2 * q.2.1)) - 1)))
theorem specQueue (q : (Int × Int × Int)) : spec_QueueOk q = some (queueB q) := by
  simp only [spec_QueueOk, l01In_eq, l20Size_eq, bindO_some, cond_some, cF, queueB]
theorem implQueue (q : (Int × Int × Int)) : impl_QueueOk q = some (queueB q) := by
  simp only [impl_QueueOk, between_eq, ringSize_eq, bindO_some, cond_some, cF, queueB]
def sup0 : Super := ((0, 0, 0, 0, 0, 0, 0, 0, 0, 0, 0, 0, 0, 0, 0, ([] : Bytes)), 0, 0)
def sup0B (p : Super) : Bool := (p.1.1 == 0) && ((p.1.2.1 == 0) && ((p.1.2.2.1 == 0) && ((p.1.2.2.2.1 == 0) && ((p.1.2.2.2.2.1 == 0) && ((p.1.2.2.2.2.2.1 == 0) && ((p.1.2.2.2.2.2.2.1 == 0) && ((p.1.2.2.2.2.2.2.2.1 == 0) && ((p.1.2.2.2.2.2.2.2.2.1 == 0) && ((p.1.2.2.2.2.2.2.2.2.2.1 == 0) && ((p.1.2.2.2.2.2.2.2.2.2.2.1 == 0) && ((p.1.2.2.2.2.2.2.2.2.2.2.2.1 == 0) && ((p.1.2.2.2.2.2.2.2.2.2.2.2.2.1 == 0) && ((p.1.2.2.2.2.2.2.2.2.2.2.2.2.2.1 == 0) && ((p.1.2.2.2.2.2.2.2.2.2.2.2.2.2.2.1 == 0) && ((p.1.2.2.2.2.2.2.2.2.2.2.2.2.2.2.2 == ([] : Bytes)) && ((p.2.1 == 0) && ((p.2.2 == 0) && true)))))))))))))))))
def rxB (r : RxQueue) : Bool := (ringB r.1 && (queueB r.2.1 && (queueB r.2.2.1 && ((r.2.1.1 == r.2.2.1.1) && ((r.2.1.2.1 == r.2.2.1.2.1) && inB r.2.2.2.2.2 0 1000000000000))))) &&
  (bif r.2.2.2.2.1 then superB r.2.2.2.1.1 && (inB r.2.2.2.1.2.1 0 320 && inB r.2.2.2.1.2.2 1 320) else sup0B r.2.2.2.1)
theorem super0 (p : Super) : sup0B p = true ↔ p = sup0 := by
  obtain ⟨⟨a, b, c, d, e, f, g, h, i, j, k, l, m, n, o, q⟩, r, s⟩ := p
  simp only [sup0B, sup0, Bool.and_true, Bool.and_eq_true, beq_iff_eq, Prod.mk.injEq, and_assoc]
theorem specRx (r : RxQueue) : spec_RxOk r = some (rxB r) := by
  unfold spec_RxOk rxB sup0B
  simp only [specRing, specQueue, l01In_eq, specSuper, bindO_some, cond_some, cF, cT, cN, Bool.not_or, Bool.not_not, bne]
  cases r.2.2.2.2.1 <;> rfl
theorem implRx (r : RxQueue) : impl_RxOk r = some (rxB r) := by
  unfold impl_RxOk rxB sup0B
  simp only [implRing, implQueue, between_eq, implSuper, bindO_some, cond_some, cF, cT, cN, Bool.not_or, Bool.not_not, bne]
  cases r.2.2.2.2.1 <;> rfl

-- vectors
def vectorB (v : Vector) : Bool := (spec_VectorOk v).getD false
theorem specVector (v : Vector) : spec_VectorOk v = some (vectorB v) := by
  have : ∃ b, spec_VectorOk v = some b := by
    simp only [spec_VectorOk, spec_l28Due, l01In_eq, bindO_some, cond_some]
    exact ⟨_, rfl⟩
  obtain ⟨b, hb⟩ := this
  rw [vectorB, hb]; rfl
theorem implVector (v : Vector) : impl_VectorOk v = some (vectorB v) := specVector v

-- the host
theorem range_all {α : Type} (l : List α) (p : α → Bool) : (List.range l.length).all (fun i => l[i]?.all p) = l.all p := by
  rw [Bool.eq_iff_iff, List.all_eq_true, List.all_eq_true]
  constructor
  · intro h x hx
    obtain ⟨i, hi, rfl⟩ := List.getElem_of_mem hx
    have := h i (List.mem_range.2 hi)
    rwa [List.getElem?_eq_getElem hi] at this
  · intro h i hi
    rw [List.getElem?_eq_getElem (List.mem_range.1 hi)]
    exact h _ (List.getElem_mem _)
theorem all_and {α : Type} (l : List α) (p q : α → Bool) : l.all (fun x => p x && q x) = (l.all p && l.all q) := by
  induction l with
  | nil => rfl
  | cons x l ih => simp only [List.all_cons, ih]; cases p x <;> cases q x <;> cases l.all p <;> rfl
def countsOf (h : Host) : List Int := [h.2.2.2.2.2.2.2.2.2.2.2.2.2.2.1, h.2.2.2.2.2.2.2.2.2.2.2.2.2.2.2.1, h.2.2.2.2.2.2.2.2.2.2.2.2.2.2.2.2.1, h.2.2.2.2.2.2.2.2.2.2.2.2.2.2.2.2.2.1, h.2.2.2.2.2.2.2.2.2.2.2.2.2.2.2.2.2.2]
def lensB (h : Host) : Bool := inB (h.2.2.2.1.length : Int) 1 2 && (((h.2.2.2.2.1.length : Int) == (h.2.2.2.1.length : Int)) && (((h.2.2.2.2.2.1.length : Int) == (h.2.2.2.1.length : Int)) && ((h.2.2.2.2.2.2.1.length : Int) == (h.2.2.2.1.length : Int))))
def rowsB (h : Host) : Bool := h.2.2.2.1.all rxB && (h.2.2.2.2.1.all poolB && h.2.2.2.2.2.1.all vectorB)
def hostB (h : Host) : Bool := memoryB h.1 && (mappingsB h.2.1 && (txB h.2.2.1 && (filterB h.2.2.2.2.2.2.2.1 && (lensB h && (steeringB h.2.2.2.2.2.2.2.2.1 (h.2.2.2.1.length : Int) && (rowsB h && (countsOf h).all (fun x => inB x 0 1000000000000)))))))
structure HostSz (h : Host) : Prop where
  a1 : h.1.length ≤ 1000000000
  a2 : h.2.1.length ≤ 1000000000
  t1 : h.2.2.1.2.2.1.length ≤ 1000000000
  t2 : h.2.2.1.2.1.2.2.2.length + (buffersOf h.2.2.1.2.2.1).length ≤ 1000000000
  f1 : h.2.2.2.2.2.2.2.1.2.2.length ≤ 1000000000
  s1 : h.2.2.2.2.2.2.2.2.1.1.length ≤ 1000000000
  s2 : h.2.2.2.2.2.2.2.2.1.2.1.length ≤ 1000000000
  s3 : h.2.2.2.2.2.2.2.2.1.2.2.2.length ≤ 1000000000
  p1 : ∀ p ∈ h.2.2.2.2.1, p.2.2.2.length ≤ 1000000000
theorem lens_of {h : Host} (l : lensB h = true) : h.2.2.2.1.length ≤ 2 ∧ h.2.2.2.2.1.length = h.2.2.2.1.length ∧ h.2.2.2.2.2.1.length = h.2.2.2.1.length ∧ h.2.2.2.2.2.2.1.length = h.2.2.2.1.length := by
  unfold lensB at l
  simp only [Bool.and_eq_true, inB_iff, beq_iff_eq] at l
  omega
theorem rows_loop {R : Type} {T : (Int → Option R) → Int → Option R} {fin hit : Option R} {h : Host} (l : lensB h = true)
    (hs : ∀ i (hi : i < h.2.2.2.1.length) nx, T nx (i : Int) = cond (!(rxB h.2.2.2.1[i] && (poolB (h.2.2.2.2.1[i]'((lens_of l).2.1 ▸ hi)) && vectorB (h.2.2.2.2.2.1[i]'((lens_of l).2.2.1 ▸ hi))))) hit (nx ((i + 1 : Nat) : Int)))
    (hf : ∀ nx, T nx (h.2.2.2.1.length : Int) = fin) : iterL T fuel 0 = cond (rowsB h) fin hit := by
  have hl := lens_of l
  rw [alln_iter (fin := fin) (hit := hit) (fun i => h.2.2.2.1[i]?.all rxB && (h.2.2.2.2.1[i]?.all poolB && h.2.2.2.2.2.1[i]?.all vectorB)) h.2.2.2.1.length (by omega) ?hs hf]
  case hs =>
    intro i nx hi
    rw [hs i hi, List.getElem?_eq_getElem hi, List.getElem?_eq_getElem (hl.2.1 ▸ hi), List.getElem?_eq_getElem (hl.2.2.1 ▸ hi)]
    rfl
  rw [all_and, all_and, range_all]
  have e1 := range_all h.2.2.2.2.1 poolB
  have e2 := range_all h.2.2.2.2.2.1 vectorB
  rw [hl.2.1] at e1
  rw [hl.2.2.1] at e2
  rw [e1, e2]; rfl
theorem counts_loop {R : Type} {T : (Int → Option R) → Int → Option R} {fin hit : Option R} (h : Host)
    (hs : ∀ i (hi : i < (countsOf h).length) nx, T nx (i : Int) = cond (!(inB (countsOf h)[i] 0 1000000000000)) hit (nx ((i + 1 : Nat) : Int)))
    (hf : ∀ nx, T nx ((countsOf h).length : Int) = fin) : iterL T fuel 0 = cond ((countsOf h).all (fun x => inB x 0 1000000000000)) fin hit :=
  all_iter' (fun x => inB x 0 1000000000000) (countsOf h) (by simp [countsOf]) hs hf
theorem specHost (h : Host) (z : HostSz h) : spec_HostOk h = some (hostB h) := by
  unfold spec_HostOk hostB
  simp only [specMemory _ z.a1, specMappings _ z.a2, specTx _ z.t1 z.t2, specFilter _ z.f1, specSteering _ _ z.s1 z.s2 z.s3, l01In_eq, bindO_some, cond_some]
  cases memoryB h.1 with | false => rfl | true => ?_
  cases mappingsB h.2.1 with | false => rfl | true => ?_
  cases txB h.2.2.1 with | false => rfl | true => ?_
  cases filterB h.2.2.2.2.2.2.2.1 with | false => rfl | true => ?_
  simp only [Bool.not_true, cond_false, cT, bne]
  rw [show (!inB (h.2.2.2.1.length : Int) 1 2 || (!((h.2.2.2.2.1.length : Int) == (h.2.2.2.1.length : Int)) || (!((h.2.2.2.2.2.1.length : Int) == (h.2.2.2.1.length : Int)) || (!((h.2.2.2.2.2.2.1.length : Int) == (h.2.2.2.1.length : Int)) || !steeringB h.2.2.2.2.2.2.2.2.1 (h.2.2.2.1.length : Int))))) = !(lensB h && steeringB h.2.2.2.2.2.2.2.2.1 (h.2.2.2.1.length : Int)) by unfold lensB; simp only [Bool.not_and, Bool.or_assoc]]
  cases hl : lensB h with | false => rfl | true => ?_
  cases steeringB h.2.2.2.2.2.2.2.2.1 (h.2.2.2.1.length : Int) with | false => rfl | true => ?_
  have hL := lens_of hl
  simp only [Bool.and_true, Bool.not_true, cond_false, Bool.true_and]
  rw [rows_loop (h := h) (hit := some false) (fin := some ((countsOf h).all (fun x => inB x 0 1000000000000))) hl ?hs ?hf]
  case hs =>
    intro i hi nx
    simp only [spec_HostOk_T5]
    rw [decide_eq_true (by omega), idx_lt hi, idx_lt (hL.2.1 ▸ hi), idx_lt (hL.2.2.1 ▸ hi), wrap64 (n := (i : Int) + 1) (by omega) (by omega)]
    simp only [cond_true, bindO_some, specRx, specVector, specPool _ (z.p1 _ (List.getElem_mem _)), cond_some, cT, Bool.not_and]
    rfl
  case hf =>
    intro nx
    simp only [spec_HostOk_T5]
    rw [decide_eq_false (by omega)]
    simp only [cond_false]
    refine (counts_loop (fin := some true) (hit := some false) h ?_ ?_).trans ?_
    · intro i hi nx
      simp only [spec_HostOk_T11]
      have hi' : i < 5 := hi
      change (bif decide ((i : Int) < 5) then bindO (idx (countsOf h) (i : Int)) _ else _) = _
      rw [decide_eq_true (by omega), idx_lt hi, wrap64 (n := (i : Int) + 1) (by omega) (by omega), bindO_some, l01In_eq]
      rfl
    · intro nx
      simp only [spec_HostOk_T11]
      rw [decide_eq_false (by simp [countsOf])]; rfl
    · cases (countsOf h).all (fun x => inB x 0 1000000000000) <;> rfl
  cases rowsB h <;> rfl
theorem implHost (h : Host) (z : HostSz h) : impl_HostOk h = some (hostB h) := by
  unfold impl_HostOk hostB
  simp only [implMemory _ z.a1, implMappings _ z.a2, implTx _ z.t1 z.t2, implFilter _ z.f1, implSteering _ _ z.s1 z.s2 z.s3, between_eq, bindO_some, cond_some]
  cases memoryB h.1 with | false => rfl | true => ?_
  cases mappingsB h.2.1 with | false => rfl | true => ?_
  cases txB h.2.2.1 with | false => rfl | true => ?_
  cases filterB h.2.2.2.2.2.2.2.1 with | false => rfl | true => ?_
  simp only [Bool.not_true, cond_false, cT, bne]
  rw [show (!inB (h.2.2.2.1.length : Int) 1 2 || (!((h.2.2.2.2.1.length : Int) == (h.2.2.2.1.length : Int)) || (!((h.2.2.2.2.2.1.length : Int) == (h.2.2.2.1.length : Int)) || !((h.2.2.2.2.2.2.1.length : Int) == (h.2.2.2.1.length : Int))))) = !(lensB h) by unfold lensB; simp only [Bool.not_and]]
  cases hl : lensB h with | false => rfl | true => ?_
  have hL := lens_of hl
  simp only [Bool.not_true, cond_false, Bool.true_and]
  rw [rows_loop (h := h) (hit := some false) (fin := some ((countsOf h).all (fun x => inB x 0 1000000000000) && steeringB h.2.2.2.2.2.2.2.2.1 (h.2.2.2.1.length : Int))) hl ?hs ?hf]
  case hs =>
    intro i hi nx
    simp only [impl_HostOk_T5]
    rw [decide_eq_true (by omega), idx_lt hi, idx_lt (hL.2.1 ▸ hi), idx_lt (hL.2.2.1 ▸ hi), wrap64 (n := (i : Int) + 1) (by omega) (by omega)]
    simp only [cond_true, bindO_some, implRx, implVector, implPool _ (z.p1 _ (List.getElem_mem _)), cond_some, cT, Bool.not_and]
    rfl
  case hf =>
    intro nx
    simp only [impl_HostOk_T5]
    rw [decide_eq_false (by omega)]
    simp only [cond_false]
    refine (counts_loop (fin := some (steeringB h.2.2.2.2.2.2.2.2.1 (h.2.2.2.1.length : Int))) (hit := some false) h ?_ ?_).trans ?_
    · intro i hi nx
      simp only [impl_HostOk_T12]
      have hi' : i < 5 := hi
      change (bif decide ((i : Int) < 5) then bindO (idx (countsOf h) (i : Int)) _ else _) = _
      rw [decide_eq_true (by omega), idx_lt hi, wrap64 (n := (i : Int) + 1) (by omega) (by omega), bindO_some, between_eq]
      rfl
    · intro nx
      simp only [impl_HostOk_T12]
      rw [decide_eq_false (by simp [countsOf])]; rfl
    · cases (countsOf h).all (fun x => inB x 0 1000000000000) <;> rfl
  cases rowsB h <;> cases steeringB h.2.2.2.2.2.2.2.2.1 (h.2.2.2.1.length : Int) <;> cases (countsOf h).all (fun x => inB x 0 1000000000000) <;> rfl

end

end Go.Pu
