import Derived.Test.YtoickmmiogbhgaaGreatPuFns
/- IdealOk: the program's and the reference's answers are one. -/
namespace Go.Pu
open Go.Dn
set_option linter.unusedSimpArgs false
set_option linter.unusedVariables false
noncomputable section

def hostAt (w : Ideal) (i : Nat) : Bool := (w.1[i]?.all softB) && eqQ (w.1[i]?.map (·.1)) (w.2.2.2.1[i]?.map (·.1))
def lens3 (w : Ideal) : Bool := ((w.1.length : Int) == (w.2.2.2.1.length : Int)) && (((w.2.1.length : Int) == (w.2.2.2.1.length : Int)) && ((w.2.2.1.length : Int) == (w.2.2.2.1.length : Int)))
def idealB (w : Ideal) : Bool := (portsR w.2.2.2.1).2 && (lens3 w && (functionsB w.2.2.1 (portsR w.2.2.2.1).1 && ((List.range w.1.length).all (hostAt w) && (List.range w.1.length).all (placeB w.2.2.1))))
structure IdealSz (w : Ideal) : Prop where
  s0 : w.1.length ≤ 1000000000
  f0 : w.2.2.1.length ≤ 1000000000
  m : ∀ m ∈ w.2.2.2.1, m.1.2.2.length ≤ 1000000000
  s1 : ∀ s ∈ w.1, s.1.2.2.length ≤ 1000000000
  s2 : ∀ s ∈ w.1, s.2.1.1.length ≤ 1000000000
  s3 : ∀ s ∈ w.1, s.2.1.2.1.length ≤ 1000000000
  s4 : ∀ s ∈ w.1, s.2.1.2.2.2.length ≤ 1000000000
theorem lens_iff {w : Ideal} (h : lens3 w = true) : w.1.length = w.2.2.2.1.length ∧ w.2.2.1.length = w.2.2.2.1.length := by
  unfold lens3 at h
  simp only [Bool.and_eq_true, beq_iff_eq] at h
  omega
theorem hostAt_lt {w : Ideal} (i : Nat) (hi : i < w.1.length) (hj : i < w.2.2.2.1.length) : hostAt w i = (softB w.1[i] && eqQ w.1[i].1 w.2.2.2.1[i].1) := by
  unfold hostAt
  rw [List.getElem?_eq_getElem hi, List.getElem?_eq_getElem hj]
  congr 1
  apply eqQ_of
  rw [eqQ_iff]; simp
theorem specIdeal (w : Ideal) (z : IdealSz w) : spec_IdealOk w = some (idealB w) := by
  have hp := portsR_sz w.2.2.2.1
  unfold spec_IdealOk idealB
  simp only [specPortsOf _ z.m, specFunctions _ _ z.f0 hp.1 hp.2, bindO_some, cond_some, cT, bne]
  rw [show ((!((w.1.length : Int) == (w.2.2.2.1.length : Int))) || ((!((w.2.1.length : Int) == (w.2.2.2.1.length : Int))) || ((!((w.2.2.1.length : Int) == (w.2.2.2.1.length : Int))) || !functionsB w.2.2.1 (portsR w.2.2.2.1).1))) = !(lens3 w && functionsB w.2.2.1 (portsR w.2.2.2.1).1) by unfold lens3; simp only [Bool.not_and, Bool.or_assoc]]
  cases (portsR w.2.2.2.1).2 with | false => rfl | true => ?_
  cases hl : lens3 w with | false => rfl | true => ?_
  cases functionsB w.2.2.1 (portsR w.2.2.2.1).1 with | false => rfl | true => ?_
  have hL := lens_iff hl
  have h0 := z.s0
  simp only [Bool.not_true, Bool.false_or, Bool.and_true, cond_false, Bool.true_and]
  rw [alln_iter (hit := some false) (fin := some true) (fun i => hostAt w i && placeB w.2.2.1 i) w.2.2.2.1.length (by omega) (fun i nx hi => ?hs) (fun nx => ?hf)]
  case hs =>
    have q1 : i < w.1.length := by omega
    have q2 : i < w.2.2.1.length := by omega
    have hm := List.getElem_mem q1
    rw [hostAt_lt i q1 hi]
    simp only [spec_IdealOk_T6]
    rw [decide_eq_true (by omega), idx_lt q1, idx_lt hi, idx_lt q2, wrap64 (n := (i : Int) + 1) (by omega) (by omega)]
    simp only [cond_true, bindO_some, specSoft _ (z.s1 _ hm) (z.s2 _ hm) (z.s3 _ hm) (z.s4 _ hm), specFilterEq _ _ (z.s1 _ hm), cond_some, cT, bne, placeB, getD_lt q2]
    cases softB w.1[i] <;> cases eqQ w.1[i].1 w.2.2.2.1[i].1 <;> cases w.2.2.1[i].1 == (i : Int) <;> cases w.2.2.1[i].2.1 == (i : Int) + 1 <;> rfl
  case hf =>
    simp only [spec_IdealOk_T6]
    rw [decide_eq_false (by omega)]; rfl
  have e : ∀ (l : List Nat) (p q : Nat → Bool), l.all (fun x => p x && q x) = (l.all p && l.all q) := by
    intro l p q
    induction l with
    | nil => rfl
    | cons x l ih => simp only [List.all_cons, ih]; cases p x <;> cases q x <;> cases l.all p <;> rfl
  rw [e, ← hL.1]
  cases (List.range w.1.length).all (hostAt w) <;> cases (List.range w.1.length).all (placeB w.2.2.1) <;> rfl
theorem implIdeal (w : Ideal) (z : IdealSz w) : impl_IdealOk w = some (idealB w) := by
  have hp := portsR_sz w.2.2.2.1
  unfold impl_IdealOk idealB
  simp only [implPortsOf _ z.m, implFunctions _ _ z.f0 hp.1 hp.2, implPlaces _ z.f0, bindO_some, cond_some, cT, cF, bne]
  rw [show ((!((w.1.length : Int) == (w.2.2.2.1.length : Int))) || ((!((w.2.1.length : Int) == (w.2.2.2.1.length : Int))) || !((w.2.2.1.length : Int) == (w.2.2.2.1.length : Int)))) = !(lens3 w) by unfold lens3; simp only [Bool.not_and]]
  cases (portsR w.2.2.2.1).2 with | false => rfl | true => ?_
  cases hl : lens3 w with | false => rfl | true => ?_
  have hL := lens_iff hl
  have h0 := z.s0
  simp only [Bool.not_true, Bool.false_or, cond_false, Bool.true_and]
  rw [alln_iter (hit := some false) (fin := some (functionsB w.2.2.1 (portsR w.2.2.2.1).1 && (List.range w.2.2.1.length).all (placeB w.2.2.1))) (hostAt w) w.1.length (by omega) (fun i nx hi => ?hs) (fun nx => ?hf)]
  case hs =>
    have q1 : i < w.2.2.2.1.length := by omega
    have hm := List.getElem_mem hi
    rw [hostAt_lt i hi q1]
    simp only [impl_IdealOk_T6]
    rw [decide_eq_true (by omega), idx_lt hi, idx_lt q1, wrap64 (n := (i : Int) + 1) (by omega) (by omega)]
    simp only [cond_true, bindO_some, implSoft _ (z.s1 _ hm) (z.s2 _ hm) (z.s3 _ hm) (z.s4 _ hm), implFilterEq _ _ (z.s1 _ hm), cond_some, cT]
    cases softB w.1[i] <;> cases eqQ w.1[i].1 w.2.2.2.1[i].1 <;> rfl
  case hf =>
    simp only [impl_IdealOk_T6]
    rw [decide_eq_false (by omega)]; rfl
  rw [hL.2, ← hL.1]
  cases (List.range w.1.length).all (hostAt w) <;> cases (List.range w.1.length).all (placeB w.2.2.1) <;> cases functionsB w.2.2.1 (portsR w.2.2.2.1).1 <;> rfl


end

end Go.Pu
