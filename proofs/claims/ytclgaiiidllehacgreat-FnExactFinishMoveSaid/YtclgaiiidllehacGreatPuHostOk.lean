import Derived.Test.YtclgaiiidllehacGreatPuHost
/- HostOk: the program's and the reference's answers are one. -/
namespace Go.Pu
open Go.Dn

noncomputable section
-- segments and packets
def segB (s : Segment) : Bool := inB s.2.1 0 65535 && (inB s.2.2.1 0 65535 && (!decide ((List.length s.2.2.2.2.2.2.2 : Int) > 320) &&
  (bif s.1 == 17 then (s.2.2.2.1 == 0) && ((s.2.2.2.2.1 == 0) && ((s.2.2.2.2.2.1 == 0) && (s.2.2.2.2.2.2.1 == 0)))
   else (s.1 == 6) && (inB s.2.2.2.1 0 4294967295 && (inB s.2.2.2.2.1 0 4294967295 && (inB s.2.2.2.2.2.1 0 31 && inB s.2.2.2.2.2.2.1 0 65535))))))
def flagsB (f : Int) : Bool := (f == 16) || (f == 17) || (f == 24) || (f == 25)
theorem flags_spec (f : Int) (h : inB f 0 31 = true) : (IntKind.wrap .i64 (BitVec.toNat (BitVec.ofInt (IntKind.bits .i64) f &&& ~~~ BitVec.ofInt (IntKind.bits .i64) 9)) == 16) = flagsB f := by
  have key : ∀ k : Fin 32, (IntKind.wrap .i64 (BitVec.toNat (BitVec.ofInt (IntKind.bits .i64) (k.val : Int) &&& ~~~ BitVec.ofInt (IntKind.bits .i64) 9)) == 16) = flagsB (k.val : Int) := by decide
  rw [inB_iff] at h
  have := key ⟨f.toNat, by omega⟩
  rwa [show ((f.toNat : Nat) : Int) = f by omega] at this
theorem seg_flags {s : Segment} (h : segB s = true) (h6 : (s.1 == 6) = true) : inB s.2.2.2.2.2.1 0 31 = true := by
  have : s.1 = 6 := by simpa using h6
  unfold segB at h
  rw [this] at h
  simp only [Bool.and_eq_true] at h
  have h := h.2.2.2
  simp at h
  exact h.2.2.1
def headB (p : Packet) : Bool := inB p.1 0 281474976710655 && (inB p.2.1 0 281474976710655 && (inB p.2.2.1 (-1) 4095 && (inB p.2.2.2.1 0 255 && (inB p.2.2.2.2.2.1 0 255 && (inB p.2.2.2.2.1 0 65535 && (inB p.2.2.2.2.2.2.1 0 4294967295 && (inB p.2.2.2.2.2.2.2.1 0 4294967295 && segB p.2.2.2.2.2.2.2.2)))))))
def superB (p : Packet) : Bool := headB p && (decide ((List.length p.2.2.2.2.2.2.2.2.2.2.2.2.2.2.2 : Int) ≤ 128) || (p.2.2.2.2.2.2.2.2.1 == 6) && flagsB p.2.2.2.2.2.2.2.2.2.2.2.2.2.1)
theorem head_seg {p : Packet} (h : headB p = true) : segB p.2.2.2.2.2.2.2.2 = true := by
  unfold headB at h
  simp only [Bool.and_eq_true] at h
  exact h.2.2.2.2.2.2.2.2
-- the receiver's queue
def queueB (q : (Int × Int × Int)) : Bool := inB q.1 0 130944 && (ringSizeB q.2.1 && inB q.2.2 0 (IntKind.wrap .i64 ((IntKind.wrap .i64 (2 * q.2.1)) - 1)))
def sup0 : Super := ((0, 0, 0, 0, 0, 0, 0, 0, 0, 0, 0, 0, 0, 0, 0, ([] : Bytes)), 0, 0)
def sup0B (p : Super) : Bool := (p.1.1 == 0) && ((p.1.2.1 == 0) && ((p.1.2.2.1 == 0) && ((p.1.2.2.2.1 == 0) && ((p.1.2.2.2.2.1 == 0) && ((p.1.2.2.2.2.2.1 == 0) && ((p.1.2.2.2.2.2.2.1 == 0) && ((p.1.2.2.2.2.2.2.2.1 == 0) && ((p.1.2.2.2.2.2.2.2.2.1 == 0) && ((p.1.2.2.2.2.2.2.2.2.2.1 == 0) && ((p.1.2.2.2.2.2.2.2.2.2.2.1 == 0) && ((p.1.2.2.2.2.2.2.2.2.2.2.2.1 == 0) && ((p.1.2.2.2.2.2.2.2.2.2.2.2.2.1 == 0) && ((p.1.2.2.2.2.2.2.2.2.2.2.2.2.2.1 == 0) && ((p.1.2.2.2.2.2.2.2.2.2.2.2.2.2.2.1 == 0) && ((p.1.2.2.2.2.2.2.2.2.2.2.2.2.2.2.2 == ([] : Bytes)) && ((p.2.1 == 0) && ((p.2.2 == 0) && true)))))))))))))))))
def rxB (r : RxQueue) : Bool := (ringB r.1 && (queueB r.2.1 && (queueB r.2.2.1 && ((r.2.1.1 == r.2.2.1.1) && ((r.2.1.2.1 == r.2.2.1.2.1) && inB r.2.2.2.2.2 0 1000000000000))))) &&
  (bif r.2.2.2.2.1 then superB r.2.2.2.1.1 && (inB r.2.2.2.1.2.1 0 320 && inB r.2.2.2.1.2.2 1 320) else sup0B r.2.2.2.1)
theorem super0 (p : Super) : sup0B p = true ↔ p = sup0 := by
  obtain ⟨⟨a, b, c, d, e, f, g, h, i, j, k, l, m, n, o, q⟩, r, s⟩ := p
  simp only [sup0B, sup0, Bool.and_true, Bool.and_eq_true, beq_iff_eq, Prod.mk.injEq, and_assoc]
-- vectors
-- the host
theorem range_all {α : Type} (l : List α) (p : α → Bool) : (List.range l.length).all (fun i => l[i]?.all p) = l.all p := by
  rw [Bool.eq_iff_iff, List.all_eq_true, List.all_eq_true]
  constructor
  · intro h x hx
    obtain ⟨i, hi, rfl⟩ := List.getElem_of_mem hx
    have := h i (List.mem_range.2 hi)
    rwa [List.getElem?_eq_getElem hi] at this
  · intro h i hi
    rw [List.getElem?_eq_getElem (List.mem_range.1 hi)]
    exact h _ (List.getElem_mem _)
theorem all_and {α : Type} (l : List α) (p q : α → Bool) : l.all (fun x => p x && q x) = (l.all p && l.all q) := by
  induction l with
  | nil => rfl
  | cons x l ih => simp only [List.all_cons, ih]; cases p x <;> cases q x <;> cases l.all p <;> rfl
def countsOf (h : Host) : List Int := [h.2.2.2.2.2.2.2.2.2.2.2.2.2.2.1, h.2.2.2.2.2.2.2.2.2.2.2.2.2.2.2.1, h.2.2.2.2.2.2.2.2.2.2.2.2.2.2.2.2.1, h.2.2.2.2.2.2.2.2.2.2.2.2.2.2.2.2.2.1, h.2.2.2.2.2.2.2.2.2.2.2.2.2.2.2.2.2.2]
def lensB (h : Host) : Bool := inB (h.2.2.2.1.length : Int) 1 2 && (((h.2.2.2.2.1.length : Int) == (h.2.2.2.1.length : Int)) && (((h.2.2.2.2.2.1.length : Int) == (h.2.2.2.1.length : Int)) && ((h.2.2.2.2.2.2.1.length : Int) == (h.2.2.2.1.length : Int))))
structure HostSz (h : Host) : Prop where
  a1 : h.1.length ≤ 1000000000
  a2 : h.2.1.length ≤ 1000000000
  t1 : h.2.2.1.2.2.1.length ≤ 1000000000
  t2 : h.2.2.1.2.1.2.2.2.length + (buffersOf h.2.2.1.2.2.1).length ≤ 1000000000
  f1 : h.2.2.2.2.2.2.2.1.2.2.length ≤ 1000000000
  s1 : h.2.2.2.2.2.2.2.2.1.1.length ≤ 1000000000
  s2 : h.2.2.2.2.2.2.2.2.1.2.1.length ≤ 1000000000
  s3 : h.2.2.2.2.2.2.2.2.1.2.2.2.length ≤ 1000000000
  p1 : ∀ p ∈ h.2.2.2.2.1, p.2.2.2.length ≤ 1000000000
theorem lens_of {h : Host} (l : lensB h = true) : h.2.2.2.1.length ≤ 2 ∧ h.2.2.2.2.1.length = h.2.2.2.1.length ∧ h.2.2.2.2.2.1.length = h.2.2.2.1.length ∧ h.2.2.2.2.2.2.1.length = h.2.2.2.1.length := by
  unfold lensB at l
  simp only [Bool.and_eq_true, inB_iff, beq_iff_eq] at l
  omega
theorem counts_loop {R : Type} {T : (Int → Option R) → Int → Option R} {fin hit : Option R} (h : Host)
    (hs : ∀ i (hi : i < (countsOf h).length) nx, T nx (i : Int) = cond (!(inB (countsOf h)[i] 0 1000000000000)) hit (nx ((i + 1 : Nat) : Int)))
    (hf : ∀ nx, T nx ((countsOf h).length : Int) = fin) : iterL T fuel 0 = cond ((countsOf h).all (fun x => inB x 0 1000000000000)) fin hit :=
  all_iter' (fun x => inB x 0 1000000000000) (countsOf h) (by simp [countsOf]) hs hf
end

end Go.Pu
