import Derived.Test.YtclgaiiidllehadGreatPuBytes
/- Hashes of flows, and the table of flows: the program's and the reference's results are one. -/
namespace Go.Pu
open Go.Dn
set_option linter.unusedSimpArgs false
set_option linter.unusedVariables false
noncomputable section

-- bits of a key
def bitR (s : Bytes) (i : Nat) : Nat := byteAt s (i / 8) / 2 ^ (7 - i % 8) % 2
theorem bitR_lt (s : Bytes) (i : Nat) : bitR s i < 2 := Nat.mod_lt _ (by omega)
theorem bit_body (b k : Nat) (hb : b < 256) (hk : k ≤ 7) : IntKind.wrap .i64 (BitVec.toNat (BitVec.ofInt (IntKind.bits .i64) (IntKind.wrap .i64 (Int.fdiv (b : Int) ((2 ^ k : Nat) : Int))) &&& BitVec.ofInt (IntKind.bits .i64) 1)) = ((b / 2 ^ k % 2 : Nat) : Int) := by
  have e : Int.fdiv (b : Int) ((2 ^ k : Nat) : Int) = ((b / 2 ^ k : Nat) : Int) := (Int.ofNat_fdiv b (2 ^ k)).symm
  have h1 : b / 2 ^ k ≤ b := Nat.div_le_self _ _
  rw [e, wrapN (n := b / 2 ^ k) (by omega)]
  have := and64 (b / 2 ^ k) 1 (by omega) (by omega)
  rw [show ((1 : Nat) : Int) = 1 from rfl] at this
  rw [this, Nat.and_one_is_mod]
  exact wrapN (by omega)
theorem implBit (s : Bytes) (i : Nat) (hi : i / 8 < s.length) (h : s.length ≤ 1000000000) : impl_keyBit s (i : Int) = some ((bitR s i : Nat) : Int) := by
  have e1 : Int.tdiv (i : Int) 8 = ((i / 8 : Nat) : Int) := (Int.ofNat_tdiv i 8).symm
  have e2 : Int.tmod (i : Int) 8 = ((i % 8 : Nat) : Int) := (Int.ofNat_tmod i 8).symm
  unfold impl_keyBit
  rw [if_neg (by omega), e1, wrap64 (n := ((i / 8 : Nat) : Int)) (by omega) (by omega), idx_lt hi, bindO_some, if_neg (by omega), e2, wrap64 (n := 7 - ((i % 8 : Nat) : Int)) (by omega) (by omega), if_neg (by omega)]
  have e3 : (2 : Int) ^ (min (Int.toNat (7 - ((i % 8 : Nat) : Int))) (IntKind.bits .u8)) = ((2 ^ (7 - i % 8) : Nat) : Int) := by
    rw [show min (Int.toNat (7 - ((i % 8 : Nat) : Int))) (IntKind.bits .u8) = 7 - i % 8 from by show min _ 8 = _; omega]
    push_cast; rfl
  rw [e3, bit_body _ _ (byte_lt _) (by omega), bitR, byteAt, getD_lt hi]
theorem specBit (s : Bytes) (i : Nat) (hi : i / 8 < s.length) (h : s.length ≤ 1000000000) : spec_l11Bit s (i : Int) = some ((bitR s i : Nat) : Int) := by
  have e1 : Int.tdiv (i : Int) 8 = ((i / 8 : Nat) : Int) := (Int.ofNat_tdiv i 8).symm
  have e2 : Int.tmod (i : Int) 8 = ((i % 8 : Nat) : Int) := (Int.ofNat_tmod i 8).symm
  have hb := byte_lt s[i / 8]
  unfold spec_l11Bit
  rw [if_neg (by omega), e1, wrap64 (n := ((i / 8 : Nat) : Int)) (by omega) (by omega), idx_lt hi, bindO_some, if_neg (by omega), e2, wrap64 (n := 7 - ((i % 8 : Nat) : Int)) (by omega) (by omega), if_neg (by omega), wrapN (n := s[i / 8].toNat) (by omega)]
  have e3 : (2 : Int) ^ (min (Int.toNat (7 - ((i % 8 : Nat) : Int))) (IntKind.bits .i64)) = ((2 ^ (7 - i % 8) : Nat) : Int) := by
    rw [show min (Int.toNat (7 - ((i % 8 : Nat) : Int))) (IntKind.bits .i64) = 7 - i % 8 from by show min _ 64 = _; omega]
    push_cast; rfl
  have e4 : Int.fdiv ((s[i / 8].toNat : Nat) : Int) ((2 ^ (7 - i % 8) : Nat) : Int) = ((s[i / 8].toNat / 2 ^ (7 - i % 8) : Nat) : Int) := (Int.ofNat_fdiv _ _).symm
  have h1 : s[i / 8].toNat / 2 ^ (7 - i % 8) ≤ s[i / 8].toNat := Nat.div_le_self _ _
  have key := bit_body s[i / 8].toNat (7 - i % 8) hb (by omega)
  rw [e4, wrapN (n := s[i / 8].toNat / 2 ^ (7 - i % 8)) (by omega)] at key
  rw [e3, e4, key, bitR, byteAt, getD_lt hi]
/-- j bits of the key from a on -/
def win (s : Bytes) (a : Nat) : Nat → Nat
  | 0 => 0
  | j + 1 => 2 * win s a j + bitR s (a + j)
theorem win_lt (s : Bytes) (a : Nat) : ∀ j, win s a j < 2 ^ j
  | 0 => by simp [win]
  | j + 1 => by have := win_lt s a j; have := bitR_lt s (a + j); rw [win, Nat.pow_succ]; omega
theorem win_le (s : Bytes) (a j : Nat) (hj : j ≤ 32) : win s a j < 4294967296 := Nat.lt_of_lt_of_le (win_lt s a j) (Nat.pow_le_pow_right (n := 2) (by omega) hj)
def winR (s : Bytes) (a : Int) : Int := bif ((s.length : Int) != 16) || !inB a 0 96 then -1 else ((win s a.toNat 32 : Nat) : Int)
theorem implWin (s : Bytes) (a : Int) : impl_KeyWindow s a = some (winR s a) := by
  unfold impl_KeyWindow winR
  rw [between_eq]
  cases hs : (s.length : Int) != 16 with | true => rfl | false => ?_
  cases ha : inB a 0 96 with | false => rfl | true => ?_
  have h1 := inB_iff.1 ha
  have h2 : s.length = 16 := by simp at hs; omega
  obtain ⟨a, rfl⟩ := Int.eq_ofNat_of_zero_le h1.1
  simp only [cond_false, bindO_some, Bool.not_true, Bool.or_self, Int.toNat_natCast]
  refine walk_iter (fun i => (((win s a i : Nat) : Int), ((a + i : Nat) : Int))) 32 (by omega) (fun i nx hi => ?_) (fun nx => ?_)
  · have hw := win_le s a i (by omega)
    have hb := bitR_lt s (a + i)
    simp only [impl_KeyWindow_T5]
    rw [wrap64 (n := (a : Int) + 32) (by omega) (by omega), decide_eq_true (by omega), cond_true, if_neg (by omega), implBit s (a + i) (by omega) (by omega), bindO_some, wrap64 (n := ((a + i : Nat) : Int) + 1) (by omega) (by omega)]
    have e1 : IntKind.wrap .i64 (((win s a i : Nat) : Int) * 2 ^ (min (Int.toNat 1) (IntKind.bits .i64))) = ((2 ^ 1 * win s a i : Nat) : Int) := by
      have : (2 : Int) ^ (min (Int.toNat 1) (IntKind.bits .i64)) = 2 := rfl
      rw [this, wrap64 (by omega) (by omega)]; omega
    rw [e1, or_add _ _ _ (by omega) (by omega)]
    rw [show (((a + i : Nat) : Int) + 1) = ((a + (i + 1) : Nat) : Int) by omega]; rfl
  · simp only [impl_KeyWindow_T5]
    rw [wrap64 (n := (a : Int) + 32) (by omega) (by omega), decide_eq_false (by omega)]; rfl
theorem specWin (s : Bytes) (a : Int) : spec_KeyWindow s a = some (winR s a) := by
  unfold spec_KeyWindow winR
  rw [l01In_eq]
  cases hs : (s.length : Int) != 16 with | true => rfl | false => ?_
  cases ha : inB a 0 96 with | false => rfl | true => ?_
  have h1 := inB_iff.1 ha
  have h2 : s.length = 16 := by simp at hs; omega
  obtain ⟨a, rfl⟩ := Int.eq_ofNat_of_zero_le h1.1
  simp only [cond_false, bindO_some, Bool.not_true, Bool.or_self, Int.toNat_natCast]
  refine walk_iter (fun i => (((win s a i : Nat) : Int), (i : Int))) 32 (by omega) (fun i nx hi => ?_) (fun nx => ?_)
  · have hw := win_le s a i (by omega)
    have hb := bitR_lt s (a + i)
    simp only [spec_KeyWindow_T5]
    rw [decide_eq_true (by omega), cond_true, wrap64 (n := (a : Int) + (i : Int)) (by omega) (by omega), show (a : Int) + (i : Int) = ((a + i : Nat) : Int) by omega, specBit s (a + i) (by omega) (by omega), bindO_some, wrap64 (n := (i : Int) + 1) (by omega) (by omega)]
    rw [wrap64 (n := 2 * ((win s a i : Nat) : Int)) (by omega) (by omega), wrap64 (by omega) (by omega), win]
    congr 1
  · simp only [spec_KeyWindow_T5]
    rw [decide_eq_false (by omega)]; rfl
def hashN (s v : Bytes) : Nat → Nat
  | 0 => 0
  | i + 1 => if bitR v i = 1 then hashN s v i ^^^ win s i 32 else hashN s v i
theorem hashN_lt (s v : Bytes) : ∀ i, hashN s v i < 4294967296
  | 0 => by simp [hashN]
  | i + 1 => by
    have := hashN_lt s v i
    rw [hashN]
    split
    · exact xor_lt this (win_le s i 32 (by omega))
    · exact this
def hashB (s v : Bytes) : Int := bif ((s.length : Int) != 16) || decide ((v.length : Int) > 12) then -1 else ((hashN s v (8 * v.length) : Nat) : Int)
theorem implHash (s v : Bytes) : impl_HashBytes s v = some (hashB s v) := by
  unfold impl_HashBytes hashB
  cases hs : (s.length : Int) != 16 with | true => rfl | false => ?_
  cases hv : decide ((v.length : Int) > 12) with | true => rfl | false => ?_
  have h2 : s.length = 16 := by simp at hs; omega
  have h3 : v.length ≤ 12 := by simp at hv; omega
  simp only [cond_false, bindO_some, Bool.or_self]
  refine walk_iter (fun i => (((hashN s v i : Nat) : Int), (i : Int))) (8 * v.length) (by omega) (fun i nx hi => ?_) (fun nx => ?_)
  · have hw := win_le s i 32 (by omega)
    have hh := hashN_lt s v i
    have hb := bitR_lt v i
    have eW : winR s (i : Int) = ((win s i 32 : Nat) : Int) := by
      unfold winR; rw [hs, inB_iff.2 (show (0 : Int) ≤ (i : Int) ∧ (i : Int) ≤ 96 by omega)]; rfl
    simp only [impl_HashBytes_T5]
    rw [wrap64 (n := 8 * (v.length : Int)) (by omega) (by omega), decide_eq_true (by omega), cond_true, implBit v i (by omega) (by omega), bindO_some, implWin, bindO_some, eW, xor64 _ _ (by omega) (by omega), wrap64 (n := (i : Int) + 1) (by omega) (by omega), wrapN (Nat.lt_trans (xor_lt hh hw) (by omega)), hashN]
    by_cases h1 : bitR v i = 1
    · rw [h1, if_pos rfl]; rfl
    · rw [if_neg h1, show (((bitR v i : Nat) : Int) == 1) = false from by simp; omega]; rfl
  · simp only [impl_HashBytes_T5]
    rw [wrap64 (n := 8 * (v.length : Int)) (by omega) (by omega), decide_eq_false (by omega)]; rfl
theorem specHash (s v : Bytes) : spec_HashBytes s v = some (hashB s v) := by
  unfold spec_HashBytes hashB
  cases hs : (s.length : Int) != 16 with | true => rfl | false => ?_
  cases hv : decide ((v.length : Int) > 12) with | true => rfl | false => ?_
  have h2 : s.length = 16 := by simp at hs; omega
  have h3 : v.length ≤ 12 := by simp at hv; omega
  simp only [cond_false, bindO_some, Bool.or_self]
  refine walk_iter (fun i => (((hashN s v i : Nat) : Int), (i : Int))) (8 * v.length) (by omega) (fun i nx hi => ?_) (fun nx => ?_)
  · have hw := win_le s i 32 (by omega)
    have hh := hashN_lt s v i
    have hb := bitR_lt v i
    have eW : winR s (i : Int) = ((win s i 32 : Nat) : Int) := by
      unfold winR; rw [hs, inB_iff.2 (show (0 : Int) ≤ (i : Int) ∧ (i : Int) ≤ 96 by omega)]; rfl
    simp only [spec_HashBytes_T5]
    rw [wrap64 (n := 8 * (v.length : Int)) (by omega) (by omega), decide_eq_true (by omega), cond_true, specBit v i (by omega) (by omega), bindO_some, specWin, bindO_some, eW, xor64 _ _ (by omega) (by omega), wrap64 (n := (i : Int) + 1) (by omega) (by omega), wrapN (Nat.lt_trans (xor_lt hh hw) (by omega)), hashN]
    by_cases h1 : bitR v i = 1
    · rw [h1, if_pos rfl]; rfl
    · rw [if_neg h1, show (((bitR v i : Nat) : Int) == 1) = false from by simp; omega]; rfl
  · simp only [spec_HashBytes_T5]
    rw [wrap64 (n := 8 * (v.length : Int)) (by omega) (by omega), decide_eq_false (by omega)]; rfl
theorem hashB_ge (s v : Bytes) : -1 ≤ hashB s v := by
  unfold hashB
  cases ((s.length : Int) != 16) || decide ((v.length : Int) > 12) with
  | true => exact Int.le_refl _
  | false => simp only [cond_false]; omega
def hashIn (f : Int × Int × Int × Int × Int) : Bytes := ((word32 f.2.1 ++ word32 f.2.2.1) ++ word16 f.2.2.2.1) ++ word16 f.2.2.2.2
theorem hashIn_le (f : Int × Int × Int × Int × Int) : (hashIn f).length ≤ 12 := by
  have := word32_le f.2.1; have := word32_le f.2.2.1; have := word16_le f.2.2.2.1; have := word16_le f.2.2.2.2
  simp only [hashIn, List.length_append]; omega
theorem implHashIn (f : Int × Int × Int × Int × Int) : impl_HashInput f = some (hashIn f) := by
  have := word32_le f.2.1; have := word32_le f.2.2.1; have := word16_le f.2.2.2.1; have := word16_le f.2.2.2.2
  simp only [impl_HashInput, implWord32, implWord16, bindO_some]
  rw [room_le (by omega), room_le (by simp only [List.length_append]; omega), room_le (by simp only [List.length_append]; omega)]; rfl
theorem specHashIn (f : Int × Int × Int × Int × Int) : spec_HashInput f = some (hashIn f) := by
  have := word32_le f.2.1; have := word32_le f.2.2.1; have := word16_le f.2.2.2.1; have := word16_le f.2.2.2.2
  simp only [spec_HashInput, specWord32, specWord16, bindO_some]
  rw [room_le (by omega), room_le (by simp only [List.length_append]; omega), room_le (by simp only [List.length_append]; omega)]; rfl
theorem implHashFlow (s : Bytes) (f : Int × Int × Int × Int × Int) : impl_HashFlow s f = some (hashB s (hashIn f)) := by
  simp only [impl_HashFlow, implHashIn, implHash, bindO_some]
theorem specHashFlow (s : Bytes) (f : Int × Int × Int × Int × Int) : spec_HashFlow s f = some (hashB s (hashIn f)) := by
  simp only [spec_HashFlow, specHashIn, specHash, bindO_some]
def entryR (s : Spread) (f : Int × Int × Int × Int × Int) : Int := bif ((s.2.length : Int) == 0) || decide (hashB s.1 (hashIn f) < 0) then -1 else Int.tmod (hashB s.1 (hashIn f)) (s.2.length : Int)
theorem implEntry (s : Spread) (f : Int × Int × Int × Int × Int) : impl_EntryOf s f = some (entryR s f) := by
  unfold impl_EntryOf entryR
  rw [implHashFlow, bindO_some]
  cases h0 : (s.2.length : Int) == 0 with | true => rfl | false => ?_
  cases decide (hashB s.1 (hashIn f) < 0) with | true => rfl | false => ?_
  simp only [cond_false, bindO_some, Bool.or_self]
  rw [if_neg (by simpa using h0)]
theorem specEntry (s : Spread) (f : Int × Int × Int × Int × Int) : spec_EntryOf s f = some (entryR s f) := by
  unfold spec_EntryOf entryR
  rw [specHashFlow, bindO_some]
  cases h0 : (s.2.length : Int) == 0 with | true => rfl | false => ?_
  cases decide (hashB s.1 (hashIn f) < 0) with | true => rfl | false => ?_
  simp only [cond_false, bindO_some, Bool.or_self]
  rw [if_neg (by simpa using h0)]
theorem entryR_in (s : Spread) (f : Int × Int × Int × Int × Int) (h : ¬ entryR s f < 0) : ∃ n : Nat, entryR s f = (n : Int) ∧ n < s.2.length := by
  unfold entryR at h ⊢
  cases hc : ((s.2.length : Int) == 0) || decide (hashB s.1 (hashIn f) < 0) with
  | true => rw [hc] at h; simp at h
  | false =>
    rw [hc] at h
    simp only [Bool.or_eq_false_iff, beq_eq_false_iff_ne, decide_eq_false_iff_not] at hc
    simp only [cond_false] at h ⊢
    have h1 : 0 ≤ hashB s.1 (hashIn f) := by omega
    rw [Int.tmod_eq_emod_of_nonneg h1] at h ⊢
    have := Int.emod_lt_of_pos (hashB s.1 (hashIn f)) (show (0 : Int) < s.2.length by omega)
    obtain ⟨n, hn⟩ := Int.eq_ofNat_of_zero_le (show 0 ≤ hashB s.1 (hashIn f) % (s.2.length : Int) by omega)
    exact ⟨n, hn, by omega⟩
def spreadR (s : Spread) (q : Int) (f : Int × Int × Int × Int × Int) : Int := bif !spreadB s q || decide (entryR s f < 0) then -1 else s.2.getD (entryR s f).toNat 0
theorem implSpreadQ (s : Spread) (q : Int) (f : Int × Int × Int × Int × Int) (h : s.2.length ≤ 1000000000) : impl_SpreadQueue s q f = some (spreadR s q f) := by
  unfold impl_SpreadQueue spreadR
  rw [implEntry, bindO_some, implSpread s q h, bindO_some]
  cases spreadB s q with | false => rfl | true => ?_
  have hin := entryR_in s f
  cases hd : decide (entryR s f < 0) with | true => rfl | false => ?_
  obtain ⟨n, hn, hl⟩ := hin (of_decide_eq_false hd)
  simp only [Bool.not_true, cond_false, bindO_some, Bool.or_self, hn, idx_lt hl, Int.toNat_natCast, getD_lt hl]
theorem specSpreadQ (s : Spread) (q : Int) (f : Int × Int × Int × Int × Int) (h : s.2.length ≤ 1000000000) : spec_SpreadQueue s q f = some (spreadR s q f) := by
  unfold spec_SpreadQueue spreadR
  rw [specEntry, bindO_some, specSpread s q h, bindO_some]
  cases spreadB s q with | false => rfl | true => ?_
  have hin := entryR_in s f
  cases hd : decide (entryR s f < 0) with | true => rfl | false => ?_
  obtain ⟨n, hn, hl⟩ := hin (of_decide_eq_false hd)
  simp only [Bool.not_true, cond_false, bindO_some, Bool.or_self, hn, idx_lt hl, Int.toNat_natCast, getD_lt hl]

-- the table of flows
theorem walk_none (t : List Slot) (f : Int × Int × Int × Int × Int) (h : ∀ j, j < 8 → usedB (slotAt t j) f = false) : ∀ n k, walk t f n k = -1
  | 0, _ => rfl
  | n + 1, k => by
    unfold walk
    rw [h _ (wayN_lt f k), walk_none t f h n (k + 1)]
    split <;> rfl
theorem firstU_none (f : Int × Int × Int × Int × Int) : ∀ (t : List Slot) (m : Int), (∀ s ∈ t, usedB s f = false) → firstU f t m = -1
  | [], _, _ => rfl
  | s :: r, m, h => by
    unfold firstU
    rw [h s (by simp)]
    exact firstU_none f r (m + 1) (fun x hx => h x (by simp [hx]))
theorem first_walk (t : List Slot) (f : Int × Int × Int × Int × Int) (h : tableB t = true) : firstU f t 0 = walk t f 8 0 := by
  simp only [tableB, Bool.and_eq_true, beq_iff_eq, List.all_eq_true, List.mem_range] at h
  obtain ⟨h8, hs⟩ := h
  by_cases hex : ∃ j, j < t.length ∧ usedB (slotAt t j) f = true
  · obtain ⟨j, hj, hu, e⟩ := firstU_spec f t 0 hex
    have := hs j (by omega)
    simp only [specSlotB, Bool.and_eq_true, Bool.or_eq_true, Bool.not_eq_true', beq_iff_eq] at this
    simp only [usedB, Bool.and_eq_true, beq_iff_eq, decide_eq_true_eq] at hu
    rcases this.2 with g | g
    · rw [hu.1] at g; simp at g
    · rw [hu.2] at g
      rw [show ((0 : Int)) = ((0 : Nat) : Int) from rfl, e, g]; omega
  · have hn : ∀ j, j < t.length → usedB (slotAt t j) f = false := fun j hj => Bool.eq_false_iff.2 fun hu => hex ⟨j, hj, hu⟩
    rw [walk_none t f (fun j hj => hn j (by omega)), firstU_none]
    intro s hs'
    obtain ⟨j, hj, rfl⟩ := List.getElem_of_mem hs'
    have := hn j hj
    rwa [slotAt_lt hj] at this
def findF (t : List Slot) (f : Int × Int × Int × Int × Int) : Int := bif tableB t then walk t f 8 0 else -1
theorem implFindFlow (t : List Slot) (f : Int × Int × Int × Int × Int) (h : t.length ≤ 1000000000) : impl_FindFlow t f = some (findF t f) := by
  unfold impl_FindFlow findF
  rw [implTable, bindO_some]
  cases ht : tableB t with | false => rfl | true => ?_
  simp only [Bool.not_true, cond_false, cond_true, implSlot t f h, bindO_some, first_walk t f ht]
theorem specFindFlow (t : List Slot) (f : Int × Int × Int × Int × Int) : spec_FindFlow t f = some (findF t f) := by
  unfold spec_FindFlow findF
  rw [specTable, bindO_some]
  cases ht : tableB t with | false => rfl | true => ?_
  have h8 : t.length = 8 := by simp only [tableB, Bool.and_eq_true, beq_iff_eq] at ht; exact ht.1
  simp only [Bool.not_true, cond_false, cond_true, specFind t f h8, bindO_some]
theorem walkIn (t : List Slot) (f : Int × Int × Int × Int × Int) : ∀ n k, walk t f n k = -1 ∨ ∃ m : Nat, walk t f n k = (m : Int) ∧ m < 8
  | 0, _ => .inl rfl
  | n + 1, k => by
    unfold walk
    split
    · exact .inl rfl
    · split
      · exact .inr ⟨_, rfl, wayN_lt f k⟩
      · exact walkIn t f n (k + 1)
theorem findF_in (t : List Slot) (f : Int × Int × Int × Int × Int) (h : findF t f ≥ 0) : ∃ m : Nat, findF t f = (m : Int) ∧ m < t.length := by
  unfold findF at h ⊢
  cases ht : tableB t with
  | false => rw [ht] at h; simp at h
  | true =>
    rw [ht] at h
    simp only [cond_true] at h ⊢
    have h8 : t.length = 8 := by simp only [tableB, Bool.and_eq_true, beq_iff_eq] at ht; exact ht.1
    rcases walkIn t f 8 0 with g | ⟨m, g, hm⟩
    · omega
    · exact ⟨m, g, by omega⟩

end

end Go.Pu
