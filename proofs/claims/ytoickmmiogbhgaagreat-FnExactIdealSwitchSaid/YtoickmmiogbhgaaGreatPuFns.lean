import Derived.Test.YtoickmmiogbhgaaGreatPuPorts
import Derived.Test.YtoickmmiogbhgaaGreatPuEq
import Derived.Test.YtoickmmiogbhgaaGreatPuSoft
/- Functions of a card: the program's and the reference's answers are one. -/
namespace Go.Pu
open Go.Dn
set_option linter.unusedSimpArgs false
set_option linter.unusedVariables false
noncomputable section

def fnZ : VirtualFunction := (0, 0, (0, 0, 0), false, 0, 0)
def bucketB (b : Int × Int × Int) : Bool := inB b.1 0 10000 && (inB b.2.1 0 100000 && inB b.2.2 0 b.2.1)
def fnInB (n : Int) (f : VirtualFunction) : Bool := inB f.1 0 7 && (inB f.2.1 1 (IntKind.wrap .i64 (n - 1)) && (bucketB f.2.2.1 && (inB f.2.2.2.2.1 0 1000000000000 && inB f.2.2.2.2.2 0 1000000000000)))
def fnAt (f g : VirtualFunction) : Bool := (g.1 == f.1) || (g.2.1 == f.2.1)
def fnB (l : List VirtualFunction) (n : Int) (i : Nat) : Bool := fnInB n (l.getD i fnZ) && (List.range i).all (fun j => !(fnAt (l.getD i fnZ) (l.getD j fnZ)))
def functionsB (l : List VirtualFunction) (ps : List Port) : Bool := portsB ps && (List.range l.length).all (fnB l (ps.length : Int))
theorem specBucket (b : Int × Int × Int) : spec_BucketOk b = some (bucketB b) := by
  simp only [spec_BucketOk, l01In_eq, bindO_some, cond_some, cF, bucketB]
theorem implBucket (b : Int × Int × Int) : impl_BucketOk b = some (bucketB b) := specBucket b
theorem specFunctions (l : List VirtualFunction) (ps : List Port) (h : l.length ≤ 1000000000) (h1 : ps.length ≤ 1000000000) (h2 : ∀ p ∈ ps, p.2.1.length ≤ 1000000000) : spec_FunctionsOk l ps = some (functionsB l ps) := by
  unfold spec_FunctionsOk functionsB
  rw [alln_iter (hit := some false) (fin := some true) (fnB l (ps.length : Int)) l.length (by omega) (fun i nx hi => ?hs) (fun nx => ?hf)]
  case hs =>
    simp only [spec_FunctionsOk_T4]
    rw [decide_eq_true (by omega), idx_lt hi, wrap64 (n := (i : Int) + 1) (by omega) (by omega)]
    simp only [cond_true, bindO_some, l01In_eq, specBucket, cond_some, cT]
    rw [alln_iter (hit := some false) (fin := nx ((i : Int) + 1)) (fun j => !(fnAt l[i] (l.getD j fnZ))) i (by omega) (fun j nx' hj => ?hs2) (fun nx' => ?hf2)]
    case hs2 =>
      have hjl : j < l.length := by omega
      simp only [spec_FunctionsOk_T10]
      rw [decide_eq_true (by omega), idx_lt hjl, wrap64 (n := (j : Int) + 1) (by omega) (by omega)]
      simp only [cond_true, bindO_some, cond_some, cT, getD_lt hjl, Bool.not_not]; rfl
    case hf2 =>
      simp only [spec_FunctionsOk_T10]
      rw [decide_eq_false (by omega)]; rfl
    simp only [fnB, getD_lt hi]
    rw [show (!inB l[i].1 0 7 || (!inB l[i].2.1 1 (IntKind.wrap .i64 ((ps.length : Int) - 1)) || (!bucketB l[i].2.2.1 || (!inB l[i].2.2.2.2.1 0 1000000000000 || !inB l[i].2.2.2.2.2 0 1000000000000)))) = !fnInB (ps.length : Int) l[i] by unfold fnInB; simp only [Bool.not_and]]
    cases fnInB (ps.length : Int) l[i] <;> cases (List.range i).all (fun j => !(fnAt l[i] (l.getD j fnZ))) <;> rfl
  case hf =>
    simp only [spec_FunctionsOk_T4]
    rw [decide_eq_false (by omega)]; rfl
  simp only [specPorts ps h1 h2, bindO_some]
  cases portsB ps <;> cases (List.range l.length).all (fnB l (ps.length : Int)) <;> rfl
theorem implFunctions (l : List VirtualFunction) (ps : List Port) (h : l.length ≤ 1000000000) (h1 : ps.length ≤ 1000000000) (h2 : ∀ p ∈ ps, p.2.1.length ≤ 1000000000) : impl_FunctionsOk l ps = some (functionsB l ps) := by
  unfold impl_FunctionsOk functionsB
  rw [alln_iter (hit := some false) (fin := some true) (fnB l (ps.length : Int)) l.length (by omega) (fun i nx hi => ?hs) (fun nx => ?hf)]
  case hs =>
    simp only [impl_FunctionsOk_T4]
    rw [decide_eq_true (by omega), idx_lt hi, wrap64 (n := (i : Int) + 1) (by omega) (by omega), sub_take l i (by omega)]
    simp only [cond_true, bindO_some, between_eq, implBucket, cond_some, cT]
    have hti : (l.take i).length = i := by simp; omega
    rw [hti, alln_iter (hit := some false) (fin := nx ((i : Int) + 1)) (fun j => !(fnAt l[i] (l.getD j fnZ))) i (by omega) (fun j nx' hj => ?hs2) (fun nx' => ?hf2)]
    case hs2 =>
      have hjl : j < l.length := by omega
      have hjt : j < (l.take i).length := by omega
      simp only [impl_FunctionsOk_T9]
      rw [decide_eq_true (by omega), idx_lt hjt, wrap64 (n := (j : Int) + 1) (by omega) (by omega), List.getElem_take]
      simp only [cond_true, bindO_some, cond_some, cT, getD_lt hjl, Bool.not_not]; rfl
    case hf2 =>
      simp only [impl_FunctionsOk_T9]
      rw [decide_eq_false (by omega)]; rfl
    simp only [fnB, getD_lt hi]
    rw [show (!inB l[i].1 0 7 || (!inB l[i].2.1 1 (IntKind.wrap .i64 ((ps.length : Int) - 1)) || (!bucketB l[i].2.2.1 || (!inB l[i].2.2.2.2.1 0 1000000000000 || !inB l[i].2.2.2.2.2 0 1000000000000)))) = !fnInB (ps.length : Int) l[i] by unfold fnInB; simp only [Bool.not_and]]
    cases fnInB (ps.length : Int) l[i] <;> cases (List.range i).all (fun j => !(fnAt l[i] (l.getD j fnZ))) <;> rfl
  case hf =>
    simp only [impl_FunctionsOk_T4]
    rw [decide_eq_false (by omega)]; rfl
  simp only [implPorts ps h1 h2, bindO_some]
  cases portsB ps <;> cases (List.range l.length).all (fnB l (ps.length : Int)) <;> rfl
def placeB (l : List VirtualFunction) (i : Nat) : Bool := ((l.getD i fnZ).1 == (i : Int)) && ((l.getD i fnZ).2.1 == (i : Int) + 1)
theorem implPlaces (l : List VirtualFunction) (h : l.length ≤ 1000000000) : impl_ownPlaces l = some ((List.range l.length).all (placeB l)) := by
  unfold impl_ownPlaces
  rw [alln_iter (hit := some false) (fin := some true) (placeB l) l.length (by omega) (fun i nx hi => ?hs) (fun nx => ?hf)]
  case hs =>
    simp only [impl_ownPlaces_T2]
    rw [decide_eq_true (by omega), idx_lt hi, wrap64 (n := (i : Int) + 1) (by omega) (by omega)]
    simp only [cond_true, bindO_some, cond_some, cT, bne, placeB, getD_lt hi]
    cases l[i].1 == (i : Int) <;> cases l[i].2.1 == (i : Int) + 1 <;> rfl
  case hf =>
    simp only [impl_ownPlaces_T2]
    rw [decide_eq_false (by omega)]; rfl
  cases (List.range l.length).all (placeB l) <;> rfl
theorem specFilterEq (a b : Filter) (h : a.2.2.length ≤ 1000000000) : spec_l42SameFilter a b = some (eqQ a b) := implFilterEq a b h

theorem fold_inv : ∀ (ms : List Mailbox) (i : Nat) (s : List Int × List Port), PInv i s → ms.all mailB = true → PInv (i + ms.length) (ms.foldl stepP s)
  | [], i, s, h, _ => h
  | m :: ms, i, s, h, hm => by
    rw [List.all_cons, Bool.and_eq_true] at hm
    have hu := union_len m.1.2.2 s.1
    have hl := mail_len hm.1
    have := fold_inv ms (i + 1) (stepP s m) (h.port hm.1 _ (by omega)) hm.2
    rw [List.foldl_cons, List.length_cons, show i + (ms.length + 1) = i + 1 + ms.length by omega]
    exact this
theorem portsR_sz (ms : List Mailbox) : (portsR ms).1.length ≤ 1000000000 ∧ ∀ p ∈ (portsR ms).1, p.2.1.length ≤ 1000000000 := by
  unfold portsR
  cases hc : inB (ms.length : Int) 1 3 && (ms.all mailB && portsB (portsOf ms)) with
  | false => exact ⟨by simp, by simp⟩
  | true =>
    simp only [Bool.and_eq_true, inB_iff] at hc
    have := fold_inv ms 0 ([0], []) ⟨by simp, rfl, by simp⟩ hc.2.1
    rw [Nat.zero_add] at this
    exact pinv_bounds this (by omega)
theorem portsR_sm (ms : List Mailbox) : (portsR ms).1.length ≤ 4 ∧ ∀ p ∈ (portsR ms).1, p.2.1.length ≤ 28 := by
  unfold portsR
  cases hc : inB (ms.length : Int) 1 3 && (ms.all mailB && portsB (portsOf ms)) with
  | false => exact ⟨by simp, by simp⟩
  | true =>
    simp only [Bool.and_eq_true, inB_iff] at hc
    have h := fold_inv ms 0 ([0], []) ⟨by simp, rfl, by simp⟩ hc.2.1
    rw [Nat.zero_add] at h
    have h1 := h.1
    have h2 := h.2.1
    simp only [cond_true, portsOf]
    refine ⟨by simp only [List.length_cons]; omega, fun p hp => ?_⟩
    rcases List.mem_cons.1 hp with rfl | hp
    · simp only; omega
    · have := h.2.2 p hp; omega

end

end Go.Pu
