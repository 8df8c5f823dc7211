import Derived.Test.YthnncngicmfmjaaGreatPuPorts
import Derived.Test.YthnncngicmfmjaaGreatPuEq
import Derived.Test.YthnncngicmfmjaaGreatPuSoft
/- FnExactIdealOk, the plain law. -/
namespace Go.Pu
open Go.Dn
set_option linter.unusedSimpArgs false
set_option linter.unusedVariables false
noncomputable section

def fnZ : VirtualFunction := (0, 0, (0, 0, 0), false, 0, 0)
def bucketB (b : Int × Int × Int) : Bool := inB b.1 0 10000 && (inB b.2.1 0 100000 && inB b.2.2 0 b.2.1)
def fnInB (n : Int) (f : VirtualFunction) : Bool := inB f.1 0 7 && (inB f.2.1 1 (IntKind.wrap .i64 (n - 1)) && (bucketB f.2.2.1 && (inB f.2.2.2.2.1 0 1000000000000 && inB f.2.2.2.2.2 0 1000000000000)))
def fnAt (f g : VirtualFunction) : Bool := (g.1 == f.1) || (g.2.1 == f.2.1)
def fnB (l : List VirtualFunction) (n : Int) (i : Nat) : Bool := fnInB n (l.getD i fnZ) && (List.range i).all (fun j => !(fnAt (l.getD i fnZ) (l.getD j fnZ)))
def functionsB (l : List VirtualFunction) (ps : List Port) : Bool := portsB ps && (List.range l.length).all (fnB l (ps.length : Int))
theorem specBucket (b : Int × Int × Int) : spec_BucketOk b = some (bucketB b) := by
  simp only [spec_BucketOk, l01In_eq, bindO_some, cond_some, cF, bucketB]
theorem implBucket (b : Int × Int × Int) : impl_BucketOk b = some (bucketB b) := specBucket b
theorem specFunctions (l : List VirtualFunction) (ps : List Port) (h : l.length ≤ 1000000000) (h1 : ps.length ≤ 1000000000) (h2 : ∀ p ∈ ps, p.2.1.length ≤ 1000000000) : spec_FunctionsOk l ps = some (functionsB l ps) := by
  unfold spec_FunctionsOk functionsB
  rw [alln_iter (hit := some false) (fin := some true) (fnB l (ps.length : Int)) l.length (by omega) (fun i nx hi => ?hs) (fun nx => ?hf)]
  case hs =>
    simp only [spec_FunctionsOk_T4]
    rw [decide_eq_true (by omega), idx_lt hi, wrap64 (n := (i : Int) + 1) (by omega) (by omega)]
    simp only [cond_true, bindO_some, l01In_eq, specBucket, cond_some, cT]
    rw [alln_iter (hit := some false) (fin := nx ((i : Int) + 1)) (fun j => !(fnAt l[i] (l.getD j fnZ))) i (by omega) (fun j nx' hj => ?hs2) (fun nx' => ?hf2)]
    case hs2 =>
      have hjl : j < l.length := by omega
      simp only [spec_FunctionsOk_T10]
      rw [decide_eq_true (by omega), idx_lt hjl, wrap64 (n := (j : Int) + 1) (by omega) (by omega)]
      simp only [cond_true, bindO_some, cond_some, cT, getD_lt hjl, Bool.not_not]; rfl
    case hf2 =>
      simp only [spec_FunctionsOk_T10]
      rw [decide_eq_false (by omega)]; rfl
    simp only [fnB, getD_lt hi]
    rw [show (!inB l[i].1 0 7 || (!inB l[i].2.1 1 (IntKind.wrap .i64 ((ps.length : Int) - 1)) || (!bucketB l[i].2.2.1 || (!inB l[i].2.2.2.2.1 0 1000000000000 || !inB l[i].2.2.2.2.2 0 1000000000000)))) = !fnInB (ps.length : Int) l[i] by unfold fnInB; simp only [Bool.not_and]]
    cases fnInB (ps.length : Int) l[i] <;> cases (List.range i).all (fun j => !(fnAt l[i] (l.getD j fnZ))) <;> rfl
  case hf =>
    simp only [spec_FunctionsOk_T4]
    rw [decide_eq_false (by omega)]; rfl
  simp only [specPorts ps h1 h2, bindO_some]
  cases portsB ps <;> cases (List.range l.length).all (fnB l (ps.length : Int)) <;> rfl
theorem implFunctions (l : List VirtualFunction) (ps : List Port) (h : l.length ≤ 1000000000) (h1 : ps.length ≤ 1000000000) (h2 : ∀ p ∈ ps, p.2.1.length ≤ 1000000000) : impl_FunctionsOk l ps = some (functionsB l ps) := by
  unfold impl_FunctionsOk functionsB
  rw [alln_iter (hit := some false) (fin := some true) (fnB l (ps.length : Int)) l.length (by omega) (fun i nx hi => ?hs) (fun nx => ?hf)]
  case hs =>
    simp only [impl_FunctionsOk_T4]
    rw [decide_eq_true (by omega), idx_lt hi, wrap64 (n := (i : Int) + 1) (by omega) (by omega), sub_take l i (by omega)]
    simp only [cond_true, bindO_some, between_eq, implBucket, cond_some, cT]
    have hti : (l.take i).length = i := by simp; omega
    rw [hti, alln_iter (hit := some false) (fin := nx ((i : Int) + 1)) (fun j => !(fnAt l[i] (l.getD j fnZ))) i (by omega) (fun j nx' hj => ?hs2) (fun nx' => ?hf2)]
    case hs2 =>
      have hjl : j < l.length := by omega
      have hjt : j < (l.take i).length := by omega
      simp only [impl_FunctionsOk_T9]
      rw [decide_eq_true (by omega), idx_lt hjt, wrap64 (n := (j : Int) + 1) (by omega) (by omega), List.getElem_take]
      simp only [cond_true, bindO_some, cond_some, cT, getD_lt hjl, Bool.not_not]; rfl
    case hf2 =>
      simp only [impl_FunctionsOk_T9]
      rw [decide_eq_false (by omega)]; rfl
    simp only [fnB, getD_lt hi]
    rw [show (!inB l[i].1 0 7 || (!inB l[i].2.1 1 (IntKind.wrap .i64 ((ps.length : Int) - 1)) || (!bucketB l[i].2.2.1 || (!inB l[i].2.2.2.2.1 0 1000000000000 || !inB l[i].2.2.2.2.2 0 1000000000000)))) = !fnInB (ps.length : Int) l[i] by unfold fnInB; simp only [Bool.not_and]]
    cases fnInB (ps.length : Int) l[i] <;> cases (List.range i).all (fun j => !(fnAt l[i] (l.getD j fnZ))) <;> rfl
  case hf =>
    simp only [impl_FunctionsOk_T4]
    rw [decide_eq_false (by omega)]; rfl
  simp only [implPorts ps h1 h2, bindO_some]
  cases portsB ps <;> cases (List.range l.length).all (fnB l (ps.length : Int)) <;> rfl
def placeB (l : List VirtualFunction) (i : Nat) : Bool := ((l.getD i fnZ).1 == (i : Int)) && ((l.getD i fnZ).2.1 == (i : Int) + 1)
theorem implPlaces (l : List VirtualFunction) (h : l.length ≤ 1000000000) : impl_ownPlaces l = some ((List.range l.length).all (placeB l)) := by
  unfold impl_ownPlaces
  rw [alln_iter (hit := some false) (fin := some true) (placeB l) l.length (by omega) (fun i nx hi => ?hs) (fun nx => ?hf)]
  case hs =>
    simp only [impl_ownPlaces_T2]
    rw [decide_eq_true (by omega), idx_lt hi, wrap64 (n := (i : Int) + 1) (by omega) (by omega)]
    simp only [cond_true, bindO_some, cond_some, cT, bne, placeB, getD_lt hi]
    cases l[i].1 == (i : Int) <;> cases l[i].2.1 == (i : Int) + 1 <;> rfl
  case hf =>
    simp only [impl_ownPlaces_T2]
    rw [decide_eq_false (by omega)]; rfl
  cases (List.range l.length).all (placeB l) <;> rfl
theorem specFilterEq (a b : Filter) (h : a.2.2.length ≤ 1000000000) : spec_l42SameFilter a b = some (eqQ a b) := implFilterEq a b h

def hostAt (w : Ideal) (i : Nat) : Bool := (w.1[i]?.all softB) && eqQ (w.1[i]?.map (·.1)) (w.2.2.2.1[i]?.map (·.1))
def lens3 (w : Ideal) : Bool := ((w.1.length : Int) == (w.2.2.2.1.length : Int)) && (((w.2.1.length : Int) == (w.2.2.2.1.length : Int)) && ((w.2.2.1.length : Int) == (w.2.2.2.1.length : Int)))
def idealB (w : Ideal) : Bool := (portsR w.2.2.2.1).2 && (lens3 w && (functionsB w.2.2.1 (portsR w.2.2.2.1).1 && ((List.range w.1.length).all (hostAt w) && (List.range w.1.length).all (placeB w.2.2.1))))
structure IdealSz (w : Ideal) : Prop where
  s0 : w.1.length ≤ 1000000000
  f0 : w.2.2.1.length ≤ 1000000000
  m : ∀ m ∈ w.2.2.2.1, m.1.2.2.length ≤ 1000000000
  s1 : ∀ s ∈ w.1, s.1.2.2.length ≤ 1000000000
  s2 : ∀ s ∈ w.1, s.2.1.1.length ≤ 1000000000
  s3 : ∀ s ∈ w.1, s.2.1.2.1.length ≤ 1000000000
  s4 : ∀ s ∈ w.1, s.2.1.2.2.2.length ≤ 1000000000
theorem fold_inv : ∀ (ms : List Mailbox) (i : Nat) (s : List Int × List Port), PInv i s → ms.all mailB = true → PInv (i + ms.length) (ms.foldl stepP s)
  | [], i, s, h, _ => h
  | m :: ms, i, s, h, hm => by
    rw [List.all_cons, Bool.and_eq_true] at hm
    have hu := union_len m.1.2.2 s.1
    have hl := mail_len hm.1
    have := fold_inv ms (i + 1) (stepP s m) (h.port hm.1 _ (by omega)) hm.2
    rw [List.foldl_cons, List.length_cons, show i + (ms.length + 1) = i + 1 + ms.length by omega]
    exact this
theorem portsR_sz (ms : List Mailbox) : (portsR ms).1.length ≤ 1000000000 ∧ ∀ p ∈ (portsR ms).1, p.2.1.length ≤ 1000000000 := by
  unfold portsR
  cases hc : inB (ms.length : Int) 1 3 && (ms.all mailB && portsB (portsOf ms)) with
  | false => exact ⟨by simp, by simp⟩
  | true =>
    simp only [Bool.and_eq_true, inB_iff] at hc
    have := fold_inv ms 0 ([0], []) ⟨by simp, rfl, by simp⟩ hc.2.1
    rw [Nat.zero_add] at this
    exact pinv_bounds this (by omega)
theorem lens_iff {w : Ideal} (h : lens3 w = true) : w.1.length = w.2.2.2.1.length ∧ w.2.2.1.length = w.2.2.2.1.length := by
  unfold lens3 at h
  simp only [Bool.and_eq_true, beq_iff_eq] at h
  omega
theorem hostAt_lt {w : Ideal} (i : Nat) (hi : i < w.1.length) (hj : i < w.2.2.2.1.length) : hostAt w i = (softB w.1[i] && eqQ w.1[i].1 w.2.2.2.1[i].1) := by
  unfold hostAt
  rw [List.getElem?_eq_getElem hi, List.getElem?_eq_getElem hj]
  congr 1
  apply eqQ_of
  rw [eqQ_iff]; simp
theorem specIdeal (w : Ideal) (z : IdealSz w) : spec_IdealOk w = some (idealB w) := by
  have hp := portsR_sz w.2.2.2.1
  unfold spec_IdealOk idealB
  simp only [specPortsOf _ z.m, specFunctions _ _ z.f0 hp.1 hp.2, bindO_some, cond_some, cT, bne]
  rw [show ((!((w.1.length : Int) == (w.2.2.2.1.length : Int))) || ((!((w.2.1.length : Int) == (w.2.2.2.1.length : Int))) || ((!((w.2.2.1.length : Int) == (w.2.2.2.1.length : Int))) || !functionsB w.2.2.1 (portsR w.2.2.2.1).1))) = !(lens3 w && functionsB w.2.2.1 (portsR w.2.2.2.1).1) by unfold lens3; simp only [Bool.not_and, Bool.or_assoc]]
  cases (portsR w.2.2.2.1).2 with | false => rfl | true => ?_
  cases hl : lens3 w with | false => rfl | true => ?_
  cases functionsB w.2.2.1 (portsR w.2.2.2.1).1 with | false => rfl | true => ?_
  have hL := lens_iff hl
  have h0 := z.s0
  simp only [Bool.not_true, Bool.false_or, Bool.and_true, cond_false, Bool.true_and]
  rw [alln_iter (hit := some false) (fin := some true) (fun i => hostAt w i && placeB w.2.2.1 i) w.2.2.2.1.length (by omega) (fun i nx hi => ?hs) (fun nx => ?hf)]
  case hs =>
    have q1 : i < w.1.length := by omega
    have q2 : i < w.2.2.1.length := by omega
    have hm := List.getElem_mem q1
    rw [hostAt_lt i q1 hi]
    simp only [spec_IdealOk_T6]
    rw [decide_eq_true (by omega), idx_lt q1, idx_lt hi, idx_lt q2, wrap64 (n := (i : Int) + 1) (by omega) (by omega)]
    simp only [cond_true, bindO_some, specSoft _ (z.s1 _ hm) (z.s2 _ hm) (z.s3 _ hm) (z.s4 _ hm), specFilterEq _ _ (z.s1 _ hm), cond_some, cT, bne, placeB, getD_lt q2]
    cases softB w.1[i] <;> cases eqQ w.1[i].1 w.2.2.2.1[i].1 <;> cases w.2.2.1[i].1 == (i : Int) <;> cases w.2.2.1[i].2.1 == (i : Int) + 1 <;> rfl
  case hf =>
    simp only [spec_IdealOk_T6]
    rw [decide_eq_false (by omega)]; rfl
  have e : ∀ (l : List Nat) (p q : Nat → Bool), l.all (fun x => p x && q x) = (l.all p && l.all q) := by
    intro l p q
    induction l with
    | nil => rfl
    | cons x l ih => simp only [List.all_cons, ih]; cases p x <;> cases q x <;> cases l.all p <;> rfl
  rw [e, ← hL.1]
  cases (List.range w.1.length).all (hostAt w) <;> cases (List.range w.1.length).all (placeB w.2.2.1) <;> rfl
theorem implIdeal (w : Ideal) (z : IdealSz w) : impl_IdealOk w = some (idealB w) := by
  have hp := portsR_sz w.2.2.2.1
  unfold impl_IdealOk idealB
  simp only [implPortsOf _ z.m, implFunctions _ _ z.f0 hp.1 hp.2, implPlaces _ z.f0, bindO_some, cond_some, cT, cF, bne]
  rw [show ((!((w.1.length : Int) == (w.2.2.2.1.length : Int))) || ((!((w.2.1.length : Int) == (w.2.2.2.1.length : Int))) || !((w.2.2.1.length : Int) == (w.2.2.2.1.length : Int)))) = !(lens3 w) by unfold lens3; simp only [Bool.not_and]]
  cases (portsR w.2.2.2.1).2 with | false => rfl | true => ?_
  cases hl : lens3 w with | false => rfl | true => ?_
  have hL := lens_iff hl
  have h0 := z.s0
  simp only [Bool.not_true, Bool.false_or, cond_false, Bool.true_and]
  rw [alln_iter (hit := some false) (fin := some (functionsB w.2.2.1 (portsR w.2.2.2.1).1 && (List.range w.2.2.1.length).all (placeB w.2.2.1))) (hostAt w) w.1.length (by omega) (fun i nx hi => ?hs) (fun nx => ?hf)]
  case hs =>
    have q1 : i < w.2.2.2.1.length := by omega
    have hm := List.getElem_mem hi
    rw [hostAt_lt i hi q1]
    simp only [impl_IdealOk_T6]
    rw [decide_eq_true (by omega), idx_lt hi, idx_lt q1, wrap64 (n := (i : Int) + 1) (by omega) (by omega)]
    simp only [cond_true, bindO_some, implSoft _ (z.s1 _ hm) (z.s2 _ hm) (z.s3 _ hm) (z.s4 _ hm), implFilterEq _ _ (z.s1 _ hm), cond_some, cT]
    cases softB w.1[i] <;> cases eqQ w.1[i].1 w.2.2.2.1[i].1 <;> rfl
  case hf =>
    simp only [impl_IdealOk_T6]
    rw [decide_eq_false (by omega)]; rfl
  rw [hL.2, ← hL.1]
  cases (List.range w.1.length).all (hostAt w) <;> cases (List.range w.1.length).all (placeB w.2.2.1) <;> cases functionsB w.2.2.1 (portsR w.2.2.2.1).1 <;> rfl

theorem idealOk_true (a : Ideal) (ha : In64 TIdeal a) : laws_FnExactIdealOk a = some true := by
  unfold laws_FnExactIdealOk
  refine (sz_Ideal a ha).use (by omega) (by omega) fun hl => ?_
  have hA : LenB 1048576 TIdeal a := szC_len (by omega)
  have g : ∀ {n : Nat}, n ≤ 1048576 → n ≤ 1000000000 := fun h => Nat.le_trans h (by omega)
  have z : IdealSz a := ⟨g hA.1.1, g hA.2.2.1.1, fun m hm => g (hA.2.2.2.1.2 m hm).1.2.2.1, fun s hs => g (hA.1.2 s hs).1.2.2.1, fun s hs => g (hA.1.2 s hs).2.1.1.1, fun s hs => g (hA.1.2 s hs).2.1.2.1.1, fun s hs => g (hA.1.2 s hs).2.1.2.2.2.1⟩
  simp only [to_Ideal a hA, bindO_some, specIdeal a z, implIdeal a z, beq_self_eq_true, Bool.not_true, cond_false, eq_Ideal a (hA.mono (by omega))]

end

end Go.Pu
