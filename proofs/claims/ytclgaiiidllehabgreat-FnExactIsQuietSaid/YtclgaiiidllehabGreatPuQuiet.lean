import Derived.Test.YtclgaiiidllehabGreatPuParts
/- Completions, and whether a host is quiet. -/
namespace Go.Pu
open Go.Dn
set_option linter.unusedSimpArgs false
set_option linter.unusedVariables false
noncomputable section

theorem partsR_len (l : List Mapping) (m : List Bytes) (d : Int) (w : Bool) : ∀ (n a r : Nat) (q : List (Int × Int)), partsR l m d w n a r = some q → q.length ≤ n
  | 0, a, r, q, h => by simp only [partsR, Option.some.injEq] at h; subst h; simp
  | n + 1, a, r, q, h => by
    simp only [partsR] at h
    split at h
    · simp only [Option.some.injEq] at h; subst h; simp
    · split at h
      · simp only [Option.map_eq_some_iff] at h
        obtain ⟨q', h1, rfl⟩ := h
        have := partsR_len l m d w n _ _ q' h1
        simp only [List.length_cons]; omega
      · cases h
theorem runsR_len (l : List Mapping) (m : List Bytes) (d a n : Int) (w : Bool) : (runsR l m d a n w).1.length ≤ 4096 := by
  unfold runsR
  cases hB : mappingsB l && (memoryB m && inB n 0 4096) with | false => simp | true => ?_
  simp only [Bool.and_eq_true, inB_iff] at hB
  simp only [cond_true]
  cases n == 0 with | true => simp | false => ?_
  cases decide (a < 0) with | true => simp | false => ?_
  simp only [cond_false]
  split
  · rename_i q hq
    have := partsR_len _ _ _ _ _ _ _ _ hq
    show q.length ≤ 4096
    omega
  · simp
def readPiece (m : List Bytes) (p : Int × Int) : Bytes := bif withinM m p.1 p.2 then readM m p.1.toNat p.2.toNat else []
theorem readPiece_len (m : List Bytes) (p : Int × Int) : (readPiece m p).length ≤ 8192 := by
  unfold readPiece
  cases h : withinM m p.1 p.2 with
  | false => simp
  | true =>
    simp only [withinM, Bool.and_eq_true, decide_eq_true_eq] at h
    have := readM_le m p.1.toNat p.2.toNat
    have := (mem_iff.1 h.1).2
    simp only [cond_true]
    omega
theorem readPieces_len (m : List Bytes) : ∀ q : List (Int × Int), (q.flatMap (readPiece m)).length ≤ 8192 * q.length
  | [] => by simp
  | p :: q => by
    have := readPieces_len m q
    have := readPiece_len m p
    simp only [List.flatMap_cons, List.length_append, List.length_cons]; omega
def dmaR (l : List Mapping) (m : List Bytes) (d a n : Int) : Bytes × Bool :=
  bif (runsR l m d a n false).2 then ((runsR l m d a n false).1.flatMap (readPiece m), true) else ([], false)
theorem flatMap_take {α β : Type} (g : α → List β) (l : List α) (i : Nat) (hi : i < l.length) : (l.take (i + 1)).flatMap g = (l.take i).flatMap g ++ g l[i] := by
  rw [List.take_succ_eq_append_getElem hi, List.flatMap_append]; simp
theorem implDmaRead (l : List Mapping) (m : List Bytes) (d a n : Int) (hl : l.length ≤ 1000000000) (hm : m.length ≤ 1000000000) (ha : a ≤ 9223372036854775807) : impl_DmaRead l m d a n = some (dmaR l m d a n) := by
  unfold impl_DmaRead dmaR
  rw [implRuns l m d a n false hl hm ha, bindO_some]
  have hL := runsR_len l m d a n false
  generalize runsR l m d a n false = r at hL ⊢
  cases hr : r.2 with | false => rfl | true => ?_
  simp only [Bool.not_true, cond_false, cond_true]
  refine (walk_iter (fun i => ((r.1.take i).flatMap (readPiece m), (i : Int))) r.1.length (by omega) (fun i nx hi => ?_) (fun nx => ?_))
  · simp only [impl_DmaRead_T6]
    rw [decide_eq_true (by omega), idx_lt hi, wrap64 (by omega) (by omega)]
    have e : impl_ReadMemory m r.1[i].1 r.1[i].2 = some (readPiece m r.1[i], withinM m r.1[i].1 r.1[i].2) := by
      rw [implRead m _ _ hm, readPiece]; cases withinM m r.1[i].1 r.1[i].2 <;> rfl
    have h1 := readPieces_len m (r.1.take i)
    have h2 := readPiece_len m r.1[i]
    simp only [cond_true, bindO_some, e]
    rw [room_le (by rw [List.length_take] at h1; omega), ← flatMap_take]; rfl
  · simp only [impl_DmaRead_T6]
    rw [decide_eq_false (by omega), List.take_length]; rfl
theorem specDmaRead (l : List Mapping) (m : List Bytes) (d a n : Int) (hl : l.length ≤ 1000000000) (hm : m.length ≤ 1000000000) (ha : a ≤ 9223372036854775807) : spec_DmaRead l m d a n = some (dmaR l m d a n) := by
  unfold spec_DmaRead dmaR
  rw [specParts l m d a n false hl hm ha, bindO_some]
  have hL := runsR_len l m d a n false
  generalize runsR l m d a n false = r at hL ⊢
  cases hr : r.2 with | false => rfl | true => ?_
  simp only [Bool.not_true, cond_false, cond_true]
  refine (walk_iter (fun i => ((r.1.take i).flatMap (readPiece m), (i : Int))) r.1.length (by omega) (fun i nx hi => ?_) (fun nx => ?_))
  · simp only [spec_DmaRead_T6]
    have i1 : idx (r.1.map (·.1)) (i : Int) = some r.1[i].1 := by rw [idx_lt (by simpa using hi), List.getElem_map]
    have i2 : idx (r.1.map (·.2)) (i : Int) = some r.1[i].2 := by rw [idx_lt (by simpa using hi), List.getElem_map]
    rw [decide_eq_true (by rw [List.length_map]; omega), i1, i2, wrap64 (by omega) (by omega)]
    have e : spec_ReadMemory m r.1[i].1 r.1[i].2 = some (readPiece m r.1[i], withinM m r.1[i].1 r.1[i].2) := by
      rw [specRead m _ _ hm, readPiece]; cases withinM m r.1[i].1 r.1[i].2 <;> rfl
    have h1 := readPieces_len m (r.1.take i)
    have h2 := readPiece_len m r.1[i]
    simp only [cond_true, bindO_some, e]
    rw [room_le (by rw [List.length_take] at h1; omega), ← flatMap_take]; rfl
  · simp only [spec_DmaRead_T6]
    rw [decide_eq_false (by rw [List.length_map]; omega), List.take_length]; rfl
theorem dmaR_len (l : List Mapping) (m : List Bytes) (d a n : Int) : (dmaR l m d a n).1.length ≤ 100000000 := by
  have hL := runsR_len l m d a n false
  have h1 := readPieces_len m (runsR l m d a n false).1
  unfold dmaR
  cases (runsR l m d a n false).2 with
  | false => simp
  | true => simp only [cond_true]; omega

-- completions
def decodeR (s : Bytes) : (Int × Int × Int × Int × Int) × Int × Bool :=
  bif ((s.length : Int) != 16) || decide (get32 s 12 > 1) then ((0, 0, 0, 0, 0), 0, false) else ((get16 s 0, get16 s 2, get16 s 4, get16 s 6, get32 s 8), get32 s 12, true)
theorem implDecode (s : Bytes) (h : s.length ≤ 1000000000) : impl_DecodeCompletion s = some (decodeR s) := by
  unfold impl_DecodeCompletion decodeR
  cases (s.length : Int) != 16 with | true => rfl | false => ?_
  simp only [implGet16 s _ h, implGet32 s _ h, bindO_some, cond_false, Bool.false_or]
  cases decide (get32 s 12 > 1) <;> rfl
theorem specDecode (s : Bytes) (h : s.length ≤ 1000000000) : spec_DecodeCompletion s = some (decodeR s) := by
  unfold spec_DecodeCompletion decodeR
  cases (s.length : Int) != 16 with | true => rfl | false => ?_
  simp only [specGet16 s _ h, specGet32 s _ h, bindO_some, cond_false, Bool.false_or]
  cases decide (get32 s 12 > 1) <;> rfl
def phaseR (q : Int × Int × Int) : Int := bif decide (q.2.2 < q.2.1) then 1 else 0
theorem implPhase (q : Int × Int × Int) : impl_phaseOf q = some (phaseR q) := by unfold impl_phaseOf phaseR; cases decide (q.2.2 < q.2.1) <;> rfl
theorem queue_in {q : Int × Int × Int} (h : queueB q = true) : 0 ≤ q.1 ∧ q.1 ≤ 130944 ∧ (q.2.1 = 2 ∨ q.2.1 = 4 ∨ q.2.1 = 8 ∨ q.2.1 = 16) ∧ 0 ≤ q.2.2 ∧ q.2.2 ≤ 2 * q.2.1 - 1 := by
  simp only [queueB, Bool.and_eq_true, inB_iff] at h
  obtain ⟨h1, h2, h3⟩ := h
  rw [size_wrap h2] at h3
  exact ⟨h1.1, h1.2, ringSizeB_iff.1 h2, h3⟩
theorem specPhase (q : Int × Int × Int) (h : queueB q = true) : spec_l25Phase q = some (phaseR q) := by
  obtain ⟨_, _, h3, h4, h5⟩ := queue_in h
  have e : Int.tdiv q.2.2 q.2.1 = if q.2.2 < q.2.1 then 0 else 1 := by
    rw [Int.tdiv_eq_ediv_of_nonneg h4]
    split
    · exact Int.ediv_eq_zero_of_lt h4 (by assumption)
    · rcases h3 with g | g | g | g <;> (rw [g]; omega)
  unfold spec_l25Phase phaseR
  rw [if_neg (by omega), e]
  by_cases hq : q.2.2 < q.2.1
  · rw [if_pos hq, decide_eq_true hq]; rfl
  · rw [if_neg hq, decide_eq_false hq]; rfl
def slotI (q : Int × Int × Int) : Int := q.1 + Int.tmod q.2.2 q.2.1 * 16
theorem tmod_in {a b : Int} (h : 0 ≤ a) (hb : 0 < b) : 0 ≤ Int.tmod a b ∧ Int.tmod a b < b := by
  rw [Int.tmod_eq_emod_of_nonneg h]
  exact ⟨Int.emod_nonneg _ (by omega), Int.emod_lt_of_pos _ hb⟩
theorem slot_in {q : Int × Int × Int} (h : queueB q = true) : 0 ≤ Int.tmod q.2.2 q.2.1 ∧ Int.tmod q.2.2 q.2.1 < 16 := by
  obtain ⟨_, _, h3, h4, h5⟩ := queue_in h
  have := tmod_in h4 (show 0 < q.2.1 by omega)
  omega
theorem implSlotC (q : Int × Int × Int) (h : queueB q = true) : impl_slotOfCount q = some (slotI q) := by
  obtain ⟨h1, h2, h3, h4, h5⟩ := queue_in h
  have := slot_in h
  unfold impl_slotOfCount slotI
  rw [if_neg (by omega), wrap64 (n := Int.tmod q.2.2 q.2.1 * 16) (by omega) (by omega), wrap64 (by omega) (by omega)]
def nextQ (q : Int × Int × Int) : Int × Int × Int := (q.1, q.2.1, Int.tmod (q.2.2 + 1) (2 * q.2.1))
def nextOkB (l : List Mapping) (m : List Bytes) (d : Int) (q : Int × Int × Int) : Bool :=
  queueB q && ((dmaR l m d (slotI q) 16).2 && ((decodeR (dmaR l m d (slotI q) 16).1).2.2 && ((decodeR (dmaR l m d (slotI q) 16).1).2.1 == phaseR q)))
def nextR (l : List Mapping) (m : List Bytes) (d : Int) (q : Int × Int × Int) : (Int × Int × Int × Int × Int) × (Int × Int × Int) × Bool :=
  bif nextOkB l m d q then ((decodeR (dmaR l m d (slotI q) 16).1).1, nextQ q, true) else ((0, 0, 0, 0, 0), q, false)
theorem implNext (l : List Mapping) (m : List Bytes) (d : Int) (q : Int × Int × Int) (hl : l.length ≤ 1000000000) (hm : m.length ≤ 1000000000) : impl_NextCompletion l m d q = some (nextR l m d q) := by
  unfold impl_NextCompletion nextR nextOkB
  rw [implQueue q, bindO_some]
  cases hq : queueB q with | false => rfl | true => ?_
  obtain ⟨h1, h2, h3, h4, h5⟩ := queue_in hq
  have hs := slot_in hq
  have hd := dmaR_len l m d (slotI q) 16
  simp only [Bool.not_true, cond_false, implSlotC q hq, bindO_some, implDmaRead l m d (slotI q) 16 hl hm (by unfold slotI; omega), Bool.true_and]
  cases (dmaR l m d (slotI q) 16).2 with | false => rfl | true => ?_
  simp only [Bool.not_true, cond_false, implDecode _ (Nat.le_trans hd (by omega)), bindO_some, Bool.true_and]
  cases (decodeR (dmaR l m d (slotI q) 16).1).2.2 with | false => rfl | true => ?_
  simp only [Bool.not_true, cond_false, implPhase, bindO_some, Bool.true_and, bne]
  cases (decodeR (dmaR l m d (slotI q) 16).1).2.1 == phaseR q with | false => rfl | true => ?_
  simp only [Bool.not_true, cond_false, cond_true]
  rw [wrap64 (n := 2 * q.2.1) (by omega) (by omega), if_neg (by omega), wrap64 (n := q.2.2 + 1) (by omega) (by omega)]; rfl
theorem specNext (l : List Mapping) (m : List Bytes) (d : Int) (q : Int × Int × Int) (hl : l.length ≤ 1000000000) (hm : m.length ≤ 1000000000) : spec_NextCompletion l m d q = some (nextR l m d q) := by
  unfold spec_NextCompletion nextR nextOkB
  rw [specQueue q, bindO_some]
  cases hq : queueB q with | false => rfl | true => ?_
  obtain ⟨h1, h2, h3, h4, h5⟩ := queue_in hq
  have hs := slot_in hq
  have hd := dmaR_len l m d (slotI q) 16
  have es : IntKind.wrap .i64 (q.1 + IntKind.wrap .i64 (16 * Int.tmod q.2.2 q.2.1)) = slotI q := by
    rw [wrap64 (n := 16 * Int.tmod q.2.2 q.2.1) (by omega) (by omega), wrap64 (by omega) (by omega), slotI]; omega
  simp only [Bool.not_true, cond_false]
  rw [if_neg (by omega), es]
  simp only [specDmaRead l m d (slotI q) 16 hl hm (by unfold slotI; omega), bindO_some, Bool.true_and, specDecode _ (Nat.le_trans hd (by omega)), specPhase q hq, bne]
  cases (dmaR l m d (slotI q) 16).2 with | false => rfl | true => ?_
  cases (decodeR (dmaR l m d (slotI q) 16).1).2.2 with | false => rfl | true => ?_
  cases (decodeR (dmaR l m d (slotI q) 16).1).2.1 == phaseR q with | false => rfl | true => ?_
  simp only [Bool.not_true, cond_false, cond_true, bindO_some, Bool.true_and]
  rw [wrap64 (n := 2 * q.2.1) (by omega) (by omega), if_neg (by omega), wrap64 (n := q.2.2 + 1) (by omega) (by omega)]; rfl
def hasComB (l : List Mapping) (m : List Bytes) (d : Int) (r : RxQueue) : Bool := rxB r && (nextR l m d r.2.2.1).2.2
theorem implHasCom (l : List Mapping) (m : List Bytes) (d : Int) (r : RxQueue) (hl : l.length ≤ 1000000000) (hm : m.length ≤ 1000000000) : impl_HasCompletion l m d r = some (hasComB l m d r) := by
  simp only [impl_HasCompletion, implRx, implNext l m d _ hl hm, bindO_some, hasComB]
  cases rxB r <;> rfl
theorem specHasCom (l : List Mapping) (m : List Bytes) (d : Int) (r : RxQueue) (hl : l.length ≤ 1000000000) (hm : m.length ≤ 1000000000) : spec_HasCompletion l m d r = some (hasComB l m d r) := by
  simp only [spec_HasCompletion, specRx, specNext l m d _ hl hm, bindO_some, hasComB]
  cases rxB r <;> rfl

def quietB (h : Host) : Bool := hostB h && (!(decide ((h.2.2.1.2.2.1.length : Int) > 0)) && h.2.2.2.1.all (fun r => !(r.2.2.2.2.1 || hasComB h.2.1 h.1 0 r)))
theorem implQuiet (h : Host) (z : HostSz h) (hl : LenB 1000000000 THost h) : impl_IsQuiet h = some (quietB h) := by
  have hL : h.2.2.2.1.length ≤ 1000000000 := hl.2.2.2.1.1
  unfold impl_IsQuiet quietB
  rw [implHost h z, bindO_some]
  cases hostB h with | false => rfl | true => ?_
  simp only [Bool.not_true, cond_false, bindO_some, Bool.true_and]
  cases decide ((h.2.2.1.2.2.1.length : Int) > 0) with | true => rfl | false => ?_
  simp only [cond_false, Bool.not_false, Bool.true_and]
  rw [all_iter' (hit := some false) (fin := some true) (fun r : RxQueue => !(r.2.2.2.2.1 || hasComB h.2.1 h.1 0 r)) h.2.2.2.1 (by omega) (fun i hi nx => ?hs) (fun nx => ?hf)]
  case hs =>
    simp only [impl_IsQuiet_T4]
    rw [decide_eq_true (by omega), idx_lt hi, wrap64 (by omega) (by omega)]
    simp only [cond_true, bindO_some, implHasCom _ _ _ _ hl.2.1.1 hl.1.1]
    cases h.2.2.2.1[i].2.2.2.2.1 <;> cases hasComB h.2.1 h.1 0 h.2.2.2.1[i] <;> rfl
  case hf =>
    simp only [impl_IsQuiet_T4]
    rw [decide_eq_false (by omega)]; rfl
  cases h.2.2.2.1.all (fun r => !(r.2.2.2.2.1 || hasComB h.2.1 h.1 0 r)) <;> rfl
theorem specQuiet (h : Host) (z : HostSz h) (hl : LenB 1000000000 THost h) : spec_IsQuiet h = some (quietB h) := by
  have hL : h.2.2.2.1.length ≤ 1000000000 := hl.2.2.2.1.1
  unfold spec_IsQuiet quietB
  rw [specHost h z, bindO_some]
  cases hostB h with | false => rfl | true => ?_
  simp only [Bool.not_true, cond_false, bindO_some, Bool.true_and]
  cases decide ((h.2.2.1.2.2.1.length : Int) > 0) with | true => rfl | false => ?_
  simp only [cond_false, Bool.not_false, Bool.true_and]
  rw [all_iter' (hit := some false) (fin := some true) (fun r : RxQueue => !(r.2.2.2.2.1 || hasComB h.2.1 h.1 0 r)) h.2.2.2.1 (by omega) (fun i hi nx => ?hs) (fun nx => ?hf)]
  case hs =>
    simp only [spec_IsQuiet_T4]
    rw [decide_eq_true (by omega), idx_lt hi, wrap64 (by omega) (by omega)]
    simp only [cond_true, bindO_some, specHasCom _ _ _ _ hl.2.1.1 hl.1.1]
    cases h.2.2.2.1[i].2.2.2.2.1 <;> cases hasComB h.2.1 h.1 0 h.2.2.2.1[i] <;> rfl
  case hf =>
    simp only [spec_IsQuiet_T4]
    rw [decide_eq_false (by omega)]; rfl
  cases h.2.2.2.1.all (fun r => !(r.2.2.2.2.1 || hasComB h.2.1 h.1 0 r)) <;> rfl

end

end Go.Pu
