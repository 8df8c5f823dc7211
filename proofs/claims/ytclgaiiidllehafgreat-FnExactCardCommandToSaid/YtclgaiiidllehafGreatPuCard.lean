import Derived.Test.YtclgaiiidllehafGreatPuBytes
import Derived.Test.YtclgaiiidllehafGreatPuFns
import Derived.Test.YtclgaiiidllehafGreatPuHostOk
/- CardOk: the program's and the reference's answers are one. -/
namespace Go.Pu
open Go.Dn
set_option linter.unusedSimpArgs false
set_option linter.unusedVariables false
noncomputable section

-- images
def imageOf (v : Int) (b : Bytes) : Bytes := ((word32 v ++ word32 (b.length : Int)) ++ b) ++ word32 (crc32 ((word32 v ++ word32 (b.length : Int)) ++ b))
def makeImage (v : Int) (b : Bytes) : Bytes × Bool := bif inB v 0 1000000 && decide (b.length ≤ 84) then (imageOf v b, true) else ([], false)
theorem specMake (v : Int) (b : Bytes) (h : b.length ≤ 1000000000) : spec_MakeImage v b = some (makeImage v b) := by
  have l1 := word32_le v
  have l2 := word32_le (b.length : Int)
  unfold spec_MakeImage makeImage
  rw [wrap64 (by omega) (by omega)]
  simp only [l01In_eq, bindO_some]
  cases inB v 0 1000000 with
  | false => rfl
  | true =>
    by_cases hb : b.length ≤ 84
    · have l3 := word32_le (crc32 ((word32 v ++ word32 (b.length : Int)) ++ b))
      rw [decide_eq_false (show ¬ ((b.length : Int) + 12 > 96) by omega), decide_eq_true hb]
      simp only [Bool.not_true, cond_false, bindO_some, Bool.and_self, cond_true, specWord32]
      rw [room_le (by omega), room_le (by simp only [List.length_append]; omega), specCrc _ (by simp only [List.length_append]; omega)]
      simp only [bindO_some, specWord32]
      rw [room_le (by simp only [List.length_append]; omega)]; rfl
    · rw [decide_eq_true (show ((b.length : Int) + 12 > 96) by omega), decide_eq_false hb]; rfl
theorem implMake (v : Int) (b : Bytes) (h : b.length ≤ 1000000000) : impl_MakeImage v b = some (makeImage v b) := by
  have l1 := word32_le v
  have l2 := word32_le (b.length : Int)
  unfold impl_MakeImage makeImage
  rw [wrap64 (by omega) (by omega)]
  simp only [between_eq, bindO_some]
  cases inB v 0 1000000 with
  | false => rfl
  | true =>
    by_cases hb : b.length ≤ 84
    · have l3 := word32_le (crc32 ((word32 v ++ word32 (b.length : Int)) ++ b))
      rw [decide_eq_false (show ¬ (12 + (b.length : Int) > 96) by omega), decide_eq_true hb]
      simp only [Bool.not_true, cond_false, bindO_some, Bool.and_self, cond_true, implWord32]
      rw [room_le (by omega), room_le (by simp only [List.length_append]; omega), implCrc _ (by simp only [List.length_append]; omega)]
      simp only [bindO_some, implWord32]
      rw [room_le (by simp only [List.length_append]; omega)]; rfl
    · rw [decide_eq_true (show (12 + (b.length : Int) > 96) by omega), decide_eq_false hb]; rfl
def verN (s : Bytes) (n : Nat) : Int := bif (makeImage (get32 s 0) ((s.take (8 + n)).drop 8)).2 && ((makeImage (get32 s 0) ((s.take (8 + n)).drop 8)).1 == s.take (12 + n)) then get32 s 0 else -1
def verOf (s : Bytes) : Int := if 0 ≤ get32 s 4 ∧ get32 s 4 ≤ (s.length : Int) - 12 then verN s (get32 s 4).toNat else -1
theorem get32_le (s : Bytes) (a : Int) : -1 ≤ get32 s a ∧ get32 s a ≤ 4294967295 := by
  unfold get32
  cases withinB s a 4 with
  | false => simp only [cond_false]; omega
  | true =>
    have b0 := byteAt_lt s a.toNat
    have b1 := byteAt_lt s (a.toNat + 1)
    have b2 := byteAt_lt s (a.toNat + 2)
    have b3 := byteAt_lt s (a.toNat + 3)
    simp only [cond_true]
    omega
theorem verN_long {s : Bytes} {n : Nat} (h : ¬ n ≤ 84) (hs : n + 12 ≤ s.length) : verN s n = -1 := by
  have : (makeImage (get32 s 0) ((s.take (8 + n)).drop 8)).2 = false := by
    unfold makeImage
    rw [decide_eq_false (by simp only [List.length_drop, List.length_take]; omega), Bool.and_false]; rfl
  unfold verN
  rw [this]; rfl
theorem specVer (s : Bytes) (h : s.length ≤ 1000000000) : spec_ImageVersion s = some (verOf s) := by
  unfold spec_ImageVersion verOf
  have hg := get32_le s 4
  simp only [specGet32 s _ h, l01In_eq, bindO_some]
  rw [wrap64 (n := get32 s 4 + 12) (by omega) (by omega), wrap64 (n := 8 + get32 s 4) (by omega) (by omega)]
  generalize get32 s 4 = n at hg
  by_cases hc : 0 ≤ n ∧ n ≤ (s.length : Int) - 12
  · rw [if_pos hc]
    obtain ⟨m, rfl⟩ := Int.eq_ofNat_of_zero_le hc.1
    by_cases h84 : m ≤ 84
    · have e1 : inB (m : Int) 0 84 = true := inB_iff.2 (by omega)
      have e2 : sub s 8 (8 + (m : Int)) = some ((s.take (8 + m)).drop 8) := by
        unfold sub; rw [if_pos (by omega)]; rfl
      have e3 : sub s 0 ((m : Int) + 12) = some (s.take (12 + m)) := by
        unfold sub; rw [if_pos (by omega), show ((m : Int) + 12).toNat = 12 + m by omega]; rfl
      rw [e1, decide_eq_false (show ¬ ((m : Int) + 12 > (s.length : Int)) by omega), e2, e3]
      simp only [Bool.not_true, cond_false, bindO_some, Int.toNat_natCast]
      rw [specMake _ _ (by simp only [List.length_drop, List.length_take]; omega)]
      unfold verN
      simp only [bindO_some]
      cases (makeImage (get32 s 0) ((s.take (8 + m)).drop 8)).2 <;> cases ((makeImage (get32 s 0) ((s.take (8 + m)).drop 8)).1 == s.take (12 + m)) <;> rfl
    · have e1 : inB (m : Int) 0 84 = false := by rw [Bool.eq_false_iff, ne_eq, inB_iff]; omega
      rw [e1, Int.toNat_natCast, verN_long h84 (by omega)]; rfl
  · rw [if_neg hc]
    by_cases hb : inB n 0 84 = true
    · have := inB_iff.1 hb
      rw [hb, decide_eq_true (show n + 12 > (s.length : Int) by omega)]; rfl
    · have hb' : inB n 0 84 = false := by simpa using hb
      rw [hb']; rfl
theorem implVer (s : Bytes) (h : s.length ≤ 1000000000) : impl_ImageVersion s = some (verOf s) := by
  unfold impl_ImageVersion verOf
  have hg := get32_le s 4
  simp only [implGet32 s _ h, bindO_some]
  rw [wrap64 (n := 12 + get32 s 4) (by omega) (by omega), wrap64 (n := 8 + get32 s 4) (by omega) (by omega), wrap64 (n := (s.length : Int) - 12) (by omega) (by omega)]
  generalize get32 s 4 = n at hg
  by_cases hc : 0 ≤ n ∧ n ≤ (s.length : Int) - 12
  · rw [if_pos hc]
    obtain ⟨m, rfl⟩ := Int.eq_ofNat_of_zero_le hc.1
    have e2 : sub s 8 (8 + (m : Int)) = some ((s.take (8 + m)).drop 8) := by
      unfold sub; rw [if_pos (by omega)]; rfl
    have e3 : sub s 0 (12 + (m : Int)) = some (s.take (12 + m)) := by
      unfold sub; rw [if_pos (by omega), show (12 + (m : Int)).toNat = 12 + m by omega]; rfl
    rw [decide_eq_false (show ¬ ((m : Int) < 0) by omega), decide_eq_false (show ¬ ((m : Int) > (s.length : Int) - 12) by omega), e2, e3]
    simp only [cond_false, bindO_some, Int.toNat_natCast]
    rw [implMake _ _ (by simp only [List.length_drop, List.length_take]; omega)]
    unfold verN
    simp only [bindO_some]
    cases (makeImage (get32 s 0) ((s.take (8 + m)).drop 8)).2 <;> cases ((makeImage (get32 s 0) ((s.take (8 + m)).drop 8)).1 == s.take (12 + m)) <;> rfl
  · rw [if_neg hc]
    by_cases h0 : n < 0
    · rw [decide_eq_true h0]; rfl
    · rw [decide_eq_false h0, decide_eq_true (show n > (s.length : Int) - 12 by omega)]; rfl
def flashB (f : List Bytes) : Bool := ((f.length : Int) == 2) && ((((f.getD 0 []).length : Int) == 96) && (((f.getD 1 []).length : Int) == 96))
theorem flash_two {f : List Bytes} (h : flashB f = true) : f = [f.getD 0 [], f.getD 1 []] ∧ (f.getD 0 []).length = 96 ∧ (f.getD 1 []).length = 96 := by
  simp only [flashB, Bool.and_eq_true, beq_iff_eq] at h
  match f, h with
  | [a, b], h =>
    have h1 : (a.length : Int) = 96 := h.2.1
    have h2 : (b.length : Int) = 96 := h.2.2
    exact ⟨rfl, by show a.length = 96; omega, by show b.length = 96; omega⟩
theorem specFlash (f : List Bytes) : spec_FlashOk f = some (flashB f) := by
  unfold spec_FlashOk flashB
  match f with
  | [] => rfl
  | [a] => rfl
  | [a, b] =>
    have i0 : idx [a, b] 0 = some a := rfl
    have i1 : idx [a, b] 1 = some b := rfl
    rw [i0, i1]
    simp only [bindO_some, cond_some, cF]; rfl
  | a :: b :: c :: r =>
    have : (((a :: b :: c :: r).length : Int) == 2) = false := by simp only [List.length_cons, beq_eq_false_iff_ne]; omega
    rw [this]; rfl
theorem implFlash (f : List Bytes) : impl_FlashOk f = some (flashB f) := specFlash f
def bootOf (f : List Bytes) : Int := bif flashB f then (if verOf (f.getD 0 []) < 0 ∧ verOf (f.getD 1 []) < 0 then -1 else if verOf (f.getD 1 []) > verOf (f.getD 0 []) then 1 else 0) else -1
theorem specBoot (f : List Bytes) : spec_BootBank f = some (bootOf f) := by
  unfold spec_BootBank bootOf
  rw [specFlash, bindO_some]
  cases hf : flashB f with
  | false => rfl
  | true =>
    obtain ⟨e, l0, l1⟩ := flash_two hf
    generalize f.getD 0 [] = a at *
    generalize f.getD 1 [] = b at *
    subst e
    have i0 : idx [a, b] 0 = some a := rfl
    have i1 : idx [a, b] 1 = some b := rfl
    simp only [Bool.not_true, cond_false, cond_true, i0, i1, bindO_some, specVer a (by omega), specVer b (by omega)]
    by_cases p : verOf a < 0 <;> by_cases q : verOf b < 0 <;> by_cases r : verOf b > verOf a <;> simp [p, q, r]
theorem implBoot (f : List Bytes) : impl_BootBank f = some (bootOf f) := by
  unfold impl_BootBank bootOf
  rw [implFlash, bindO_some]
  cases hf : flashB f with
  | false => rfl
  | true =>
    obtain ⟨e, l0, l1⟩ := flash_two hf
    generalize f.getD 0 [] = a at *
    generalize f.getD 1 [] = b at *
    subst e
    have i0 : idx [a, b] 0 = some a := rfl
    have i1 : idx [a, b] 1 = some b := rfl
    simp only [Bool.not_true, cond_false, cond_true, i0, i1, bindO_some, implVer a (by omega), implVer b (by omega)]
    by_cases r : verOf b > verOf a
    · have r' : ¬ verOf a ≥ verOf b := by omega
      by_cases p : verOf a < 0 <;> by_cases q : verOf b < 0 <;> simp [p, q, r, r']
    · have r' : verOf a ≥ verOf b := by omega
      by_cases p : verOf a < 0 <;> by_cases q : verOf b < 0 <;> simp [p, q, r, r']
def clockB (c : Int × Int × Int × Int) : Bool := inB c.1 0 1125899906842624 && (inB c.2.1 0 1048575 && (inB c.2.2.1 0 67108864 && inB c.2.2.2 0 1099511627776))
theorem specClock (c : Int × Int × Int × Int) : spec_ClockOk c = some (clockB c) := by
  simp only [spec_ClockOk, l01In_eq, bindO_some, cond_some, cF, clockB]
theorem implClock (c : Int × Int × Int × Int) : impl_ClockOk c = some (clockB c) := specClock c

-- cards
def cHostAt (c : Card) (i : Nat) : Bool := (c.1[i]?.all hostB) && eqQ (c.1[i]?.map (·.2.2.2.2.2.2.2.1)) (c.2.2.1[i]?.map (·.1))
def lens2 (c : Card) : Bool := ((c.1.length : Int) == (c.2.2.1.length : Int)) && ((c.2.1.length : Int) == (c.2.2.1.length : Int))
def cardB (c : Card) : Bool := (portsR c.2.2.1).2 && (lens2 c && (functionsB c.2.1 (portsR c.2.2.1).1 && ((!decide (bootOf c.2.2.2.1 < 0) && clockB c.2.2.2.2.1) && ((List.range c.1.length).all (cHostAt c) && (List.range c.1.length).all (placeB c.2.1)))))
structure CardSz (c : Card) : Prop where
  h0 : c.1.length ≤ 1000000000
  f0 : c.2.1.length ≤ 1000000000
  m : ∀ m ∈ c.2.2.1, m.1.2.2.length ≤ 1000000000
  h1 : ∀ h ∈ c.1, HostSz h
theorem lens2_iff {c : Card} (h : lens2 c = true) : c.1.length = c.2.2.1.length ∧ c.2.1.length = c.2.2.1.length := by
  unfold lens2 at h
  simp only [Bool.and_eq_true, beq_iff_eq] at h
  omega
theorem cHostAt_lt {c : Card} (i : Nat) (hi : i < c.1.length) (hj : i < c.2.2.1.length) : cHostAt c i = (hostB c.1[i] && eqQ c.1[i].2.2.2.2.2.2.2.1 c.2.2.1[i].1) := by
  unfold cHostAt
  rw [List.getElem?_eq_getElem hi, List.getElem?_eq_getElem hj]
  congr 1
  apply eqQ_of
  rw [eqQ_iff]; simp
theorem all_and2 : ∀ (l : List Nat) (p q : Nat → Bool), l.all (fun x => p x && q x) = (l.all p && l.all q) := by
  intro l p q
  induction l with
  | nil => rfl
  | cons x l ih => simp only [List.all_cons, ih]; cases p x <;> cases q x <;> cases l.all p <;> rfl
theorem specCard (c : Card) (z : CardSz c) : spec_CardOk c = some (cardB c) := by
  have hp := portsR_sz c.2.2.1
  unfold spec_CardOk cardB
  simp only [specPortsOf _ z.m, specFunctions _ _ z.f0 hp.1 hp.2, specBoot, specClock, bindO_some, cond_some, cT, bne]
  rw [show ((!((c.1.length : Int) == (c.2.2.1.length : Int))) || ((!((c.2.1.length : Int) == (c.2.2.1.length : Int))) || ((!functionsB c.2.1 (portsR c.2.2.1).1) || (decide (bootOf c.2.2.2.1 < 0) || !clockB c.2.2.2.2.1)))) = !(lens2 c && (functionsB c.2.1 (portsR c.2.2.1).1 && (!decide (bootOf c.2.2.2.1 < 0) && clockB c.2.2.2.2.1))) by unfold lens2; simp only [Bool.not_and, Bool.or_assoc, Bool.not_not]]
  cases (portsR c.2.2.1).2 with | false => rfl | true => ?_
  cases hl : lens2 c with | false => rfl | true => ?_
  cases functionsB c.2.1 (portsR c.2.2.1).1 with | false => rfl | true => ?_
  cases (!decide (bootOf c.2.2.2.1 < 0) && clockB c.2.2.2.2.1) with | false => rfl | true => ?_
  have hL := lens2_iff hl
  have h0 := z.h0
  simp only [Bool.not_true, Bool.false_or, Bool.and_true, cond_false, Bool.true_and]
  rw [alln_iter (hit := some false) (fin := some true) (fun i => cHostAt c i && placeB c.2.1 i) c.2.2.1.length (by omega) (fun i nx hi => ?hs) (fun nx => ?hf)]
  case hs =>
    have q1 : i < c.1.length := by omega
    have q2 : i < c.2.1.length := by omega
    have hm := List.getElem_mem q1
    rw [cHostAt_lt i q1 hi]
    simp only [spec_CardOk_T6]
    rw [decide_eq_true (by omega), idx_lt q1, idx_lt hi, idx_lt q2, wrap64 (n := (i : Int) + 1) (by omega) (by omega)]
    simp only [cond_true, bindO_some, specHost _ (z.h1 _ hm), specFilterEq _ _ (z.h1 _ hm).f1, cond_some, cT, bne, placeB, getD_lt q2]
    cases hostB c.1[i] <;> cases eqQ c.1[i].2.2.2.2.2.2.2.1 c.2.2.1[i].1 <;> cases c.2.1[i].1 == (i : Int) <;> cases c.2.1[i].2.1 == (i : Int) + 1 <;> rfl
  case hf =>
    simp only [spec_CardOk_T6]
    rw [decide_eq_false (by omega)]; rfl
  rw [all_and2, ← hL.1]
  cases (List.range c.1.length).all (cHostAt c) <;> cases (List.range c.1.length).all (placeB c.2.1) <;> rfl
theorem implCard (c : Card) (z : CardSz c) : impl_CardOk c = some (cardB c) := by
  have hp := portsR_sz c.2.2.1
  unfold impl_CardOk cardB
  simp only [implPortsOf _ z.m, implFunctions _ _ z.f0 hp.1 hp.2, implPlaces _ z.f0, implBoot, implClock, bindO_some, cond_some, cT, cF, bne]
  rw [show ((!((c.1.length : Int) == (c.2.2.1.length : Int))) || !((c.2.1.length : Int) == (c.2.2.1.length : Int))) = !(lens2 c) by unfold lens2; simp only [Bool.not_and]]
  cases (portsR c.2.2.1).2 with | false => rfl | true => ?_
  cases hl : lens2 c with | false => rfl | true => ?_
  have hL := lens2_iff hl
  have h0 := z.h0
  simp only [Bool.not_true, Bool.false_or, cond_false, Bool.true_and]
  have hd : decide (bootOf c.2.2.2.1 ≥ 0) = !decide (bootOf c.2.2.2.1 < 0) := by
    by_cases h : bootOf c.2.2.2.1 < 0
    · rw [decide_eq_true h, decide_eq_false (by omega)]; rfl
    · rw [decide_eq_false h, decide_eq_true (by omega)]; rfl
  rw [hd, alln_iter (hit := some false) (fin := some (functionsB c.2.1 (portsR c.2.2.1).1 && ((List.range c.2.1.length).all (placeB c.2.1) && (!decide (bootOf c.2.2.2.1 < 0) && clockB c.2.2.2.2.1)))) (cHostAt c) c.1.length (by omega) (fun i nx hi => ?hs) (fun nx => ?hf)]
  case hs =>
    have q1 : i < c.2.2.1.length := by omega
    have hm := List.getElem_mem hi
    rw [cHostAt_lt i hi q1]
    simp only [impl_CardOk_T5]
    rw [decide_eq_true (by omega), idx_lt hi, idx_lt q1, wrap64 (n := (i : Int) + 1) (by omega) (by omega)]
    simp only [cond_true, bindO_some, implHost _ (z.h1 _ hm), implFilterEq _ _ (z.h1 _ hm).f1, cond_some, cT]
    cases hostB c.1[i] <;> cases eqQ c.1[i].2.2.2.2.2.2.2.1 c.2.2.1[i].1 <;> rfl
  case hf =>
    simp only [impl_CardOk_T5]
    rw [decide_eq_false (by omega)]; rfl
  rw [hL.2, ← hL.1]
  cases (List.range c.1.length).all (cHostAt c) <;> cases (List.range c.1.length).all (placeB c.2.1) <;> cases functionsB c.2.1 (portsR c.2.2.1).1 <;> cases (!decide (bootOf c.2.2.2.1 < 0) && clockB c.2.2.2.2.1) <;> rfl

end

end Go.Pu
