import Derived.Test.YtclgaiiidllehabGreatPuDma
/- Reads and writes by mappings: the pieces, page by page. -/
namespace Go.Pu
open Go.Dn
set_option linter.unusedSimpArgs false
set_option linter.unusedVariables false
noncomputable section

-- the page of a mapping
def mapW (d p : Int) (w : Bool) (x : Mapping) : Bool := mapAt d p x && (x.2.2.2 || !w)
def pageF (l : List Mapping) (d p : Int) (w : Bool) : Int := match l.findIdx? (mapW d p w) with | some i => (l.getD i mapZ).2.2.1 | none => -1
theorem specPage (l : List Mapping) (d p : Int) (w : Bool) (h : l.length ≤ 1000000000) : spec_l17Page l d p w = some (pageF l d p w) := by
  unfold spec_l17Page pageF
  refine Eq.trans (find_iter (p := mapW d p w) (hit := fun i => bindO (idx l i) fun x => some x.2.2.1) (fin := some (-1)) l (by omega) (fun i hi nx => ?_) (fun nx => ?_)) ?_
  · simp only [spec_l17Page_T2]
    rw [decide_eq_true (by omega), idx_lt hi, wrap64 (by omega) (by omega)]
    simp only [cond_true, bindO_some, mapW, mapAt]
    cases l[i].1 == d <;> cases l[i].2.1 == p <;> cases l[i].2.2.2 <;> cases w <;> rfl
  · simp only [spec_l17Page_T2]
    rw [decide_eq_false (by omega)]; rfl
  · cases hf : l.findIdx? (mapW d p w) with
    | none => rfl
    | some i =>
      obtain ⟨hi, _⟩ := List.findIdx?_eq_some_iff_getElem.1 hf
      simp only [idx_lt hi, bindO_some, getD_lt hi]
theorem maps_get {l : List Mapping} (h : mappingsB l = true) {i : Nat} (hi : i < l.length) : mapInB l[i] = true ∧ ∀ j (hj : j < i), mapAt l[i].1 l[i].2.1 (l[j]'(by omega)) = false := by
  simp only [mappingsB, Bool.and_eq_true, List.all_eq_true, List.mem_range] at h
  have := h.2 i hi
  simp only [mapB, Bool.and_eq_true, List.all_eq_true, List.mem_range, getD_lt hi, Bool.not_eq_true'] at this
  exact ⟨this.1, fun j hj => by have := this.2 j hj; rwa [getD_lt (by omega)] at this⟩
theorem mapAt_iff {d p : Int} {m : Mapping} : mapAt d p m = true ↔ m.1 = d ∧ m.2.1 = p := by simp [mapAt]
theorem maps_one {l : List Mapping} (h : mappingsB l = true) {d p : Int} {i j : Nat} (hi : i < l.length) (hj : j < l.length) (h1 : mapAt d p l[i] = true) (h2 : mapAt d p l[j] = true) : i = j := by
  have a := mapAt_iff.1 h1; have b := mapAt_iff.1 h2
  rcases Nat.lt_trichotomy i j with h3 | h3 | h3
  · have := (maps_get h hj).2 i h3; rw [b.1, b.2, h1] at this; cases this
  · exact h3
  · have := (maps_get h hi).2 j h3; rw [a.1, a.2, h2] at this; cases this
theorem pageF_in {l : List Mapping} (h : mappingsB l = true) (d p : Int) (w : Bool) (h1 : 0 ≤ pageF l d p w) : pageF l d p w ≤ 63 ∧ 0 ≤ p ∧ p ≤ 1023 := by
  unfold pageF at h1 ⊢
  cases hf : l.findIdx? (mapW d p w) with
  | none => rw [hf] at h1; simp at h1
  | some i =>
    obtain ⟨hi, h2, _⟩ := List.findIdx?_eq_some_iff_getElem.1 hf
    have h3 := (maps_get h hi).1
    simp only [mapW, Bool.and_eq_true, mapAt_iff] at h2
    simp only [mapInB, Bool.and_eq_true, inB_iff] at h3
    simp only [getD_lt hi]
    omega
theorem pageF_ge {l : List Mapping} (h : mappingsB l = true) (d p : Int) (w : Bool) : pageF l d p w = -1 ∨ 0 ≤ pageF l d p w := by
  unfold pageF
  cases hf : l.findIdx? (mapW d p w) with
  | none => exact .inl rfl
  | some i =>
    obtain ⟨hi, h2, _⟩ := List.findIdx?_eq_some_iff_getElem.1 hf
    have h3 := (maps_get h hi).1
    simp only [mapInB, Bool.and_eq_true, inB_iff] at h3
    simp only [getD_lt hi]
    omega
theorem implPlace (l : List Mapping) (d : Int) (a : Nat) (w : Bool) (h : l.length ≤ 1000000000) (hm : mappingsB l = true) (ha : a ≤ 9223372036854775807) :
    impl_place l d (a : Int) w = some (if 0 ≤ pageF l d ((a / 128 : Nat) : Int) w then pageF l d ((a / 128 : Nat) : Int) w * 128 + ((a % 128 : Nat) : Int) else -1) := by
  have e1 : Int.tdiv (a : Int) 128 = ((a / 128 : Nat) : Int) := tdivN a 128
  have e2 : Int.tmod (a : Int) 128 = ((a % 128 : Nat) : Int) := tmodN a 128
  unfold impl_place
  rw [decide_eq_false (by omega), cond_false, if_neg (by omega), e1, e2, wrap64 (by omega) (by omega), implPage l _ _ h, bindO_some]
  generalize ((a / 128 : Nat) : Int) = p
  have hin := pageF_in hm d p w
  unfold pageM
  cases hf : l.findIdx? (mapAt d p) with
  | none =>
    have hn : pageF l d p w = -1 := by
      unfold pageF
      rw [List.findIdx?_eq_none_iff] at hf
      rw [List.findIdx?_eq_none_iff.2 (fun x hx => by rw [mapW, hf x hx]; rfl)]
    rw [hn]; rfl
  | some i =>
    obtain ⟨hi, h2, h3⟩ := List.findIdx?_eq_some_iff_getElem.1 hf
    simp only
    rw [decide_eq_false (by omega), idx_lt hi]
    simp only [cond_false, bindO_some]
    cases hq : l[i].2.2.2 || !w with
    | true =>
      have hF : pageF l d p w = l[i].2.2.1 := by
        unfold pageF
        rw [List.findIdx?_eq_some_iff_getElem.2 ⟨hi, by rw [mapW, h2, hq]; rfl, fun j hj => by have := h3 j hj; rw [mapW, Bool.eq_false_iff.2 this]; simp⟩]
        exact congrArg (fun x : Mapping => x.2.2.1) (getD_lt hi mapZ)
      have h4 := (maps_get hm hi).1
      simp only [mapInB, Bool.and_eq_true, inB_iff] at h4
      rw [hF, if_pos (show 0 ≤ l[i].2.2.1 by omega), show (bindO (cond w (some (!l[i].2.2.2)) (some false)) fun q3 => cond q3 (some (-1 : Int)) _) = _ from by
        have : (cond w (some (!l[i].2.2.2)) (some false)) = some false := by
          cases w <;> cases hz : l[i].2.2.2 <;> rw [hz] at hq <;> first | rfl | cases hq
        rw [this, bindO_some, cond_false]]
      rw [if_neg (show ¬ (128 : Nat) = 0 by omega), wrap64 (n := l[i].2.2.1 * 128) (by omega) (by omega), wrap64 (by omega) (by omega)]
    | false =>
      have hF : pageF l d p w = -1 := by
        unfold pageF
        rw [List.findIdx?_eq_none_iff.2 (fun x hx => by
          obtain ⟨j, hj, rfl⟩ := List.getElem_of_mem hx
          cases hx2 : mapAt d p l[j] with
          | false => rw [mapW, hx2]; rfl
          | true => have := maps_one hm hi hj h2 hx2; subst this; rw [mapW, hq]; simp)]
      rw [hF, if_neg (show ¬ (0 : Int) ≤ -1 by omega)]
      cases w with
      | false => simp at hq
      | true =>
        simp only [Bool.not_true, Bool.or_false] at hq
        simp only [cond_true, hq, bindO_some, Bool.not_false]

-- the pieces of a run
def partsR (l : List Mapping) (m : List Bytes) (d : Int) (w : Bool) : Nat → Nat → Nat → Option (List (Int × Int))
  | 0, _, _ => some []
  | n + 1, a, r => if r = 0 then some [] else
    if 0 ≤ pageF l d ((a / 128 : Nat) : Int) w ∧ pageF l d ((a / 128 : Nat) : Int) w < (m.length : Int) then
      (partsR l m d w n (a + min (128 - a % 128) r) (r - min (128 - a % 128) r)).map (fun q => (pageF l d ((a / 128 : Nat) : Int) w * 128 + ((a % 128 : Nat) : Int), ((min (128 - a % 128) r : Nat) : Int)) :: q)
    else none
theorem within_piece {m : List Bytes} (hm : memoryB m = true) {f : Int} (h0 : 0 ≤ f) {o c : Nat} (hc : 0 < c) (ho : o + c ≤ 128) : withinM m (f * 128 + (o : Int)) (c : Int) = decide (f < (m.length : Int)) := by
  rw [withinM, hm, Bool.true_and]
  exact decide_eq_decide.2 (by omega)
theorem within_page {m : List Bytes} (hm : memoryB m = true) {f : Int} (h0 : 0 ≤ f) : withinM m (f * 128) 128 = decide (f < (m.length : Int)) := by
  rw [withinM, hm, Bool.true_and]
  exact decide_eq_decide.2 (by omega)
theorem implRunsLoop {l : List Mapping} {m : List Bytes} (hl : mappingsB l = true) (hL : l.length ≤ 1000000000) (hm : memoryB m = true) (d : Int) (w : Bool) : ∀ (n a r f : Nat) (acc : List (Int × Int)), r ≤ n → n < f → acc.length + n ≤ 1000000 → a ≤ 9223372036854775807 →
    iterL (impl_runsOf_T8 (fun (y9 : Int) (y10 : Int) (y11 : List (Int × Int)) => some (y11, true)) (fun (y12 : Int) (y13 : Int) (y14 : List (Int × Int)) (y15 : Bool) (y16 : List (Int × Int)) => some (y14, y15)) l d w ([] : List (Int × Int)) false m) f ((a : Int), (r : Int), acc)
      = match partsR l m d w n a r with | some q => some (acc ++ q, true) | none => some ([], false)
  | n, a, r, 0, acc, _, hf, _, _ => by omega
  | 0, a, r, f + 1, acc, hr, hf, hA, ha => by
    rw [iterL]
    simp only [impl_runsOf_T8]
    rw [decide_eq_false (by omega)]
    simp [partsR]
  | n + 1, a, r, f + 1, acc, hr, hf, hA, ha => by
    have h64 := (mem_iff.1 hm).2
    rw [iterL]
    simp only [impl_runsOf_T8, partsR]
    by_cases h0 : r = 0
    · rw [decide_eq_false (by omega), if_pos h0]; simp
    · have e2 : Int.tmod (a : Int) 128 = ((a % 128 : Nat) : Int) := tmodN a 128
      have hin := pageF_in hl d ((a / 128 : Nat) : Int) w
      rw [decide_eq_true (by omega), if_neg h0, implPlace l d a w hL hl ha, bindO_some, if_neg (by omega), e2, wrap64 (n := 128 - ((a % 128 : Nat) : Int)) (by omega) (by omega)]
      obtain ⟨c, hc⟩ : ∃ c, min (128 - a % 128) r = c := ⟨_, rfl⟩
      rw [hc, show (if 128 - ((a % 128 : Nat) : Int) < (r : Int) then 128 - ((a % 128 : Nat) : Int) else (r : Int)) = (c : Int) by split <;> omega]
      generalize hP : pageF l d ((a / 128 : Nat) : Int) w = P at hin ⊢
      by_cases hP0 : 0 ≤ P
      · have hin := hin hP0
        simp only [if_pos hP0, cond_true]
        rw [decide_eq_false (show ¬ P * 128 + ((a % 128 : Nat) : Int) < 0 by omega), implWithinM m _ _ (by omega), within_piece hm hP0 (by omega) (by omega)]
        simp only [cond_false, bindO_some]
        by_cases hP1 : P < (m.length : Int)
        · rw [decide_eq_true hP1, if_pos ⟨hP0, hP1⟩]
          simp only [Bool.not_true, cond_false]
          rw [room_le (by simp; omega), wrap64 (n := (a : Int) + (c : Int)) (by omega) (by omega), wrap64 (n := (r : Int) - (c : Int)) (by omega) (by omega), decide_eq_false (show ¬ (a : Int) + (c : Int) < 0 by omega)]
          simp only [cond_false, bindO_some]
          have key := implRunsLoop hl hL hm d w n (a + c) (r - c) f (acc ++ [(P * 128 + ((a % 128 : Nat) : Int), (c : Int))]) (by omega) (by omega) (by simp; omega) (by omega)
          rw [show ((a + c : Nat) : Int) = (a : Int) + (c : Int) by omega, show ((r - c : Nat) : Int) = (r : Int) - (c : Int) by omega] at key
          rw [key]
          cases partsR l m d w n (a + c) (r - c) with
          | none => rfl
          | some q => simp
        · rw [decide_eq_false hP1, if_neg (by omega)]; rfl
      · simp only [if_neg hP0, cond_true]
        rw [if_neg (by omega), decide_eq_true (by omega)]; rfl
theorem specRunsLoop {l : List Mapping} {m : List Bytes} (hl : mappingsB l = true) (hL : l.length ≤ 1000000000) (hm : memoryB m = true) (d : Int) (w : Bool) : ∀ (n a r f : Nat) (acc : List (Int × Int)), r ≤ n → n < f → acc.length + n ≤ 1000000 → a ≤ 9223372036854775807 →
    iterL (spec_l17Parts_T5 (fun (y10 : Int) (y11 : Int) (y12 : List Int) (y13 : List Int) => some (y12, y13, true)) (fun (y14 : Int) (y15 : Int) (y16 : List Int) (y17 : List Int) (y18 : Bool) (y19 : List Int) (y20 : List Int) => some (y16, y17, y18)) l d w ([] : List Int) ([] : List Int) false m) f ((a : Int), (r : Int), acc.map (·.1), acc.map (·.2))
      = match partsR l m d w n a r with | some q => some ((acc ++ q).map (·.1), (acc ++ q).map (·.2), true) | none => some ([], [], false)
  | n, a, r, 0, acc, _, hf, _, _ => by omega
  | 0, a, r, f + 1, acc, hr, hf, hA, ha => by
    rw [iterL]
    simp only [spec_l17Parts_T5]
    rw [decide_eq_false (by omega)]
    simp [partsR]
  | n + 1, a, r, f + 1, acc, hr, hf, hA, ha => by
    have h64 := (mem_iff.1 hm).2
    rw [iterL]
    simp only [spec_l17Parts_T5, partsR]
    by_cases h0 : r = 0
    · rw [decide_eq_false (by omega), if_pos h0]; simp
    · have e1 : Int.tdiv (a : Int) 128 = ((a / 128 : Nat) : Int) := tdivN a 128
      have e2 : Int.tmod (a : Int) 128 = ((a % 128 : Nat) : Int) := tmodN a 128
      have hin := pageF_in hl d ((a / 128 : Nat) : Int) w
      rw [decide_eq_true (show (r : Int) > 0 by omega), decide_eq_true (show (a : Int) ≥ 0 by omega), if_neg h0]
      simp only [cond_true]
      rw [if_neg (by omega), e1, e2, wrap64 (n := ((a / 128 : Nat) : Int)) (by omega) (by omega), specPage l _ _ w hL, bindO_some, if_neg (by omega), wrap64 (n := 128 - ((a % 128 : Nat) : Int)) (by omega) (by omega)]
      obtain ⟨c, hc⟩ : ∃ c, min (128 - a % 128) r = c := ⟨_, rfl⟩
      rw [hc, show (if 128 - ((a % 128 : Nat) : Int) < (r : Int) then 128 - ((a % 128 : Nat) : Int) else (r : Int)) = (c : Int) by split <;> omega]
      generalize hP : pageF l d ((a / 128 : Nat) : Int) w = P at hin ⊢
      by_cases hP0 : 0 ≤ P
      · have hin := hin hP0
        rw [decide_eq_false (show ¬ P < 0 by omega), wrap64 (n := P * 128) (by omega) (by omega), specWithinM m _ _ (by omega), within_page hm hP0]
        simp only [cond_false, bindO_some]
        by_cases hP1 : P < (m.length : Int)
        · rw [decide_eq_true hP1, if_pos ⟨hP0, hP1⟩]
          simp only [Bool.not_true, cond_false]
          rw [room_le (by simp; omega), room_le (by simp; omega), wrap64 (n := P * 128 + ((a % 128 : Nat) : Int)) (by omega) (by omega), wrap64 (n := (a : Int) + (c : Int)) (by omega) (by omega), wrap64 (n := (r : Int) - (c : Int)) (by omega) (by omega)]
          have key := specRunsLoop hl hL hm d w n (a + c) (r - c) f (acc ++ [(P * 128 + ((a % 128 : Nat) : Int), (c : Int))]) (by omega) (by omega) (by simp; omega) (by omega)
          rw [show ((a + c : Nat) : Int) = (a : Int) + (c : Int) by omega, show ((r - c : Nat) : Int) = (r : Int) - (c : Int) by omega, List.map_append, List.map_append] at key
          refine Eq.trans key ?_
          cases partsR l m d w n (a + c) (r - c) with
          | none => rfl
          | some q => simp
        · rw [decide_eq_false hP1, if_neg (by omega)]; rfl
      · rw [if_neg (by omega), decide_eq_true (by omega)]; rfl
def runsR (l : List Mapping) (m : List Bytes) (d a n : Int) (w : Bool) : List (Int × Int) × Bool :=
  bif mappingsB l && (memoryB m && inB n 0 4096) then
    (bif n == 0 then ([], true) else bif decide (a < 0) then ([], false) else match partsR l m d w n.toNat a.toNat n.toNat with | some q => (q, true) | none => ([], false))
  else ([], false)
theorem implRuns (l : List Mapping) (m : List Bytes) (d a n : Int) (w : Bool) (hl : l.length ≤ 1000000000) (hm : m.length ≤ 1000000000) (ha : a ≤ 9223372036854775807) : impl_runsOf l m d a n w = some (runsR l m d a n w) := by
  have hfu := fuel_ge
  unfold impl_runsOf runsR
  simp only [implMappings l hl, implMemory m hm, between_eq, bindO_some]
  cases hB : mappingsB l with | false => rfl | true => ?_
  cases hM : memoryB m with | false => rfl | true => ?_
  cases hN : inB n 0 4096 with | false => rfl | true => ?_
  have hn := inB_iff.1 hN
  simp only [Bool.not_true, cond_false, bindO_some, Bool.and_self, cond_true]
  cases h0 : n == 0 with | true => rfl | false => ?_
  by_cases hA : a < 0
  · rw [decide_eq_true hA]; rfl
  · rw [decide_eq_false hA]
    simp only [cond_false]
    obtain ⟨a, rfl⟩ := Int.eq_ofNat_of_zero_le (show 0 ≤ a by omega)
    obtain ⟨n, rfl⟩ := Int.eq_ofNat_of_zero_le hn.1
    rw [implRunsLoop hB hl hM d w n a n fuel [] (by omega) (by omega) (by simp; omega) (by omega)]
    simp only [Int.toNat_natCast]
    cases partsR l m d w n a n <;> rfl
theorem specParts (l : List Mapping) (m : List Bytes) (d a n : Int) (w : Bool) (hl : l.length ≤ 1000000000) (hm : m.length ≤ 1000000000) (ha : a ≤ 9223372036854775807) : spec_l17Parts l m d a n w = some ((runsR l m d a n w).1.map (·.1), (runsR l m d a n w).1.map (·.2), (runsR l m d a n w).2) := by
  have hfu := fuel_ge
  unfold spec_l17Parts runsR
  simp only [specMappings l hl, specMemory m hm, l01In_eq, bindO_some]
  cases hB : mappingsB l with | false => rfl | true => ?_
  cases hM : memoryB m with | false => rfl | true => ?_
  cases hN : inB n 0 4096 with | false => rfl | true => ?_
  have hn := inB_iff.1 hN
  simp only [Bool.not_true, cond_false, bindO_some, Bool.and_self, cond_true]
  obtain ⟨n, rfl⟩ := Int.eq_ofNat_of_zero_le hn.1
  cases h0 : ((n : Int) == 0) with
  | true =>
    have : n = 0 := by simpa using h0
    subst this
    obtain ⟨f, hf⟩ : ∃ f, fuel = f + 1 := ⟨fuel - 1, by omega⟩
    rw [hf, iterL]
    rfl
  | false =>
    have hn0 : n ≠ 0 := by simpa using h0
    by_cases hA : a < 0
    · obtain ⟨f, hf⟩ : ∃ f, fuel = f + 1 := ⟨fuel - 1, by omega⟩
      rw [decide_eq_true hA, hf, iterL]
      simp only [spec_l17Parts_T5]
      rw [decide_eq_true (by omega), decide_eq_false (by omega)]
      rfl
    · rw [decide_eq_false hA]
      simp only [cond_false]
      obtain ⟨a, rfl⟩ := Int.eq_ofNat_of_zero_le (show 0 ≤ a by omega)
      refine Eq.trans (specRunsLoop hB hl hM d w n a n fuel [] (by omega) (by omega) (by simp; omega) (by omega)) ?_
      simp only [Int.toNat_natCast]
      cases partsR l m d w n a n <;> rfl

end

end Go.Pu
