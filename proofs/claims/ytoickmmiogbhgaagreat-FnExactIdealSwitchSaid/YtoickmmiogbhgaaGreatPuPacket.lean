import Derived.Test.YtoickmmiogbhgaaGreatPuBytes
import Derived.Test.YtoickmmiogbhgaaGreatPuHostOk
/- Packets built: the program's and the reference's bytes are one. -/
namespace Go.Pu
open Go.Dn
set_option linter.unusedSimpArgs false
set_option linter.unusedVariables false
noncomputable section

-- sums
def addS (a b : Int) : Int := (spec_AddSums a b).getD 0
theorem specAdd (a b : Int) : spec_AddSums a b = some (addS a b) := by
  unfold addS
  have : ∃ x, spec_AddSums a b = some x := by
    simp only [spec_AddSums, l01In_eq, bindO_some]
    cases inB a 0 65535 <;> cases inB b 0 65535 <;> cases decide (IntKind.wrap .i64 (a + b) > 65535) <;> exact ⟨_, rfl⟩
  obtain ⟨x, hx⟩ := this
  rw [hx]; rfl
theorem implAddS (a b : Int) : impl_AddSums a b = some (addS a b) := specAdd a b
theorem addS_in {a b : Int} (h : 0 ≤ a ∧ a ≤ 65535) (k : 0 ≤ b ∧ b ≤ 65535) : 0 ≤ addS a b ∧ addS a b ≤ 65535 := by
  have e := specAdd a b
  simp only [spec_AddSums, l01In_eq, bindO_some, inB_iff.2 h, inB_iff.2 k, Bool.not_true, cond_false] at e
  rw [wrap64 (n := a + b) (by omega) (by omega)] at e
  by_cases hc : a + b > 65535
  · rw [decide_eq_true hc, cond_true, wrap64 (by omega) (by omega)] at e
    rw [← Option.some.inj e]; omega
  · rw [decide_eq_false hc, cond_false] at e
    rw [← Option.some.inj e]; omega
def sw (s : Bytes) : Nat → Int
  | 0 => 0
  | j + 1 => addS (sw s j) ((byteAt s (2 * j) * 256 + byteAt s (2 * j + 1) : Nat) : Int)
theorem sw_in (s : Bytes) : ∀ j, 0 ≤ sw s j ∧ sw s j ≤ 65535
  | 0 => by simp [sw]
  | j + 1 => by
    have b0 := byteAt_lt s (2 * j)
    have b1 := byteAt_lt s (2 * j + 1)
    exact addS_in (sw_in s j) (by omega)
theorem byteAt_out {s : Bytes} {i : Nat} (h : s.length ≤ i) : byteAt s i = 0 := by
  unfold byteAt
  rw [List.getD_eq_getElem?_getD, List.getElem?_eq_none h]; rfl
theorem specSum (s : Bytes) (h : s.length ≤ 1000000000) : spec_SumWords s = some (sw s ((s.length + 1) / 2)) := by
  unfold spec_SumWords
  refine walk_iter (fun j => (sw s j, ((2 * j : Nat) : Int))) ((s.length + 1) / 2) (by omega) (fun j nx hj => ?_) (fun nx => ?_)
  · have b0 := byteAt_lt s (2 * j)
    have b1 := byteAt_lt s (2 * j + 1)
    obtain ⟨x, hx, ex⟩ := idx_byte (s := s) (i := 2 * j) (by omega)
    simp only [spec_SumWords_T3]
    rw [decide_eq_true (by omega), cond_true, hx, bindO_some, if_neg (by omega), wrap64 (n := ((2 * j : Nat) : Int) + 1) (by omega) (by omega), wrap64 (n := ((2 * j : Nat) : Int) + 2) (by omega) (by omega), ex, wrapN (by omega)]
    have e8 : min (Int.toNat 8) (IntKind.bits .i64) = 8 := rfl
    have en : ((2 * j : Nat) : Int) + 2 = ((2 * (j + 1) : Nat) : Int) := by omega
    rw [e8, wrap64 (n := ((byteAt s (2 * j) : Nat) : Int) * 2 ^ 8) (by omega) (by omega)]
    by_cases hc : 2 * j + 1 < s.length
    · obtain ⟨y, hy, ey⟩ := idx_byte (s := s) (i := 2 * j + 1) hc
      rw [decide_eq_true (by omega), cond_true, show ((2 * j : Nat) : Int) + 1 = ((2 * j + 1 : Nat) : Int) by omega, hy, bindO_some, ey, wrapN (n := byteAt s (2 * j + 1)) (by omega), wrap64 (by omega) (by omega), specAdd, bindO_some, en, show ((byteAt s (2 * j) : Nat) : Int) * 2 ^ 8 + ((byteAt s (2 * j + 1) : Nat) : Int) = ((byteAt s (2 * j) * 256 + byteAt s (2 * j + 1) : Nat) : Int) by omega]; rfl
    · have hz := byteAt_out (s := s) (i := 2 * j + 1) (by omega)
      rw [decide_eq_false (by omega), cond_false, specAdd, bindO_some, en, show ((byteAt s (2 * j) : Nat) : Int) * 2 ^ 8 = ((byteAt s (2 * j) * 256 + byteAt s (2 * j + 1) : Nat) : Int) by rw [hz]; omega]; rfl
  · simp only [spec_SumWords_T3]
    rw [decide_eq_false (by omega)]; rfl
theorem implSum (s : Bytes) (h : s.length ≤ 1000000000) : impl_SumWords s = some (sw s ((s.length + 1) / 2)) := by
  unfold impl_SumWords
  refine walk_iter (fun j => (sw s j, ((2 * j : Nat) : Int))) ((s.length + 1) / 2) (by omega) (fun j nx hj => ?_) (fun nx => ?_)
  · have b0 := byteAt_lt s (2 * j)
    have b1 := byteAt_lt s (2 * j + 1)
    obtain ⟨x, hx, ex⟩ := idx_byte (s := s) (i := 2 * j) (by omega)
    simp only [impl_SumWords_T3]
    rw [decide_eq_true (by omega), cond_true, hx, bindO_some, if_neg (by omega), wrap64 (n := ((2 * j : Nat) : Int) + 1) (by omega) (by omega), wrap64 (n := ((2 * j : Nat) : Int) + 2) (by omega) (by omega), ex, wrapN (by omega)]
    have e8 : min (Int.toNat 8) (IntKind.bits .i64) = 8 := rfl
    have en : ((2 * j : Nat) : Int) + 2 = ((2 * (j + 1) : Nat) : Int) := by omega
    rw [e8, show ((byteAt s (2 * j) : Nat) : Int) * 2 ^ 8 = ((2 ^ 8 * byteAt s (2 * j) : Nat) : Int) by omega, wrapN (n := 2 ^ 8 * byteAt s (2 * j)) (by omega)]
    by_cases hc : 2 * j + 1 < s.length
    · obtain ⟨y, hy, ey⟩ := idx_byte (s := s) (i := 2 * j + 1) hc
      rw [decide_eq_true (by omega), cond_true, show ((2 * j : Nat) : Int) + 1 = ((2 * j + 1 : Nat) : Int) by omega, hy, bindO_some, ey, wrapN (n := byteAt s (2 * j + 1)) (by omega), or_add (byteAt s (2 * j)) 8 (byteAt s (2 * j + 1)) (by omega) (by omega), implAddS, bindO_some, en, show 2 ^ 8 * byteAt s (2 * j) + byteAt s (2 * j + 1) = byteAt s (2 * j) * 256 + byteAt s (2 * j + 1) by omega]; rfl
    · have hz := byteAt_out (s := s) (i := 2 * j + 1) (by omega)
      rw [decide_eq_false (by omega), cond_false, implAddS, bindO_some, en, show ((2 ^ 8 * byteAt s (2 * j) : Nat) : Int) = ((byteAt s (2 * j) * 256 + byteAt s (2 * j + 1) : Nat) : Int) by rw [hz]; omega]; rfl
  · simp only [impl_SumWords_T3]
    rw [decide_eq_false (by omega)]; rfl
def chk (s : Bytes) : Int := 65535 - sw s ((s.length + 1) / 2)
theorem specChk (s : Bytes) (h : s.length ≤ 1000000000) : spec_Checksum s = some (chk s) := by
  have := sw_in s ((s.length + 1) / 2)
  simp only [spec_Checksum, specSum s h, bindO_some]
  rw [wrap64 (by omega) (by omega)]; rfl
theorem implChk (s : Bytes) (h : s.length ≤ 1000000000) : impl_Checksum s = some (chk s) := by
  have := sw_in s ((s.length + 1) / 2)
  simp only [impl_Checksum, implSum s h, bindO_some]
  rw [wrap64 (by omega) (by omega)]; rfl

-- bytes put
def putB (s : Bytes) (a : Int) (p : Bytes) : Bytes := bif withinB s a (p.length : Int) then (s.take a.toNat ++ p) ++ s.drop (a.toNat + p.length) else s
theorem putB_len (s : Bytes) (a : Int) (p : Bytes) : (putB s a p).length = s.length := by
  unfold putB
  cases hw : withinB s a (p.length : Int) with
  | false => rfl
  | true =>
    simp only [withinB, decide_eq_true_eq] at hw
    simp only [cond_true, List.length_append, List.length_take, List.length_drop]
    omega
theorem put_some (s : Bytes) (a : Int) (p : Bytes) (h : s.length ≤ 1000000000) (hw : withinB s a (p.length : Int) = true) :
    (bindO (sub s 0 a) fun x2 => room (List.length x2 + List.length p) (bindO (sub s (IntKind.wrap .i64 (a + ((List.length p : Int)))) ((List.length s : Int))) fun x3 => room (List.length (x2 ++ p) + List.length x3) (some ((x2 ++ p) ++ x3)))) = some (putB s a p) := by
  have hw' := hw
  simp only [withinB, decide_eq_true_eq] at hw'
  obtain ⟨n, rfl⟩ := Int.eq_ofNat_of_zero_le hw'.1
  have e1 : sub s 0 (n : Int) = some (s.take n) := by unfold sub; rw [if_pos (by omega)]; rfl
  have e2 : sub s (((n + p.length : Nat) : Int)) (s.length : Int) = some (s.drop (n + p.length)) := by
    unfold sub; rw [if_pos (by omega), Int.toNat_natCast, Int.toNat_natCast, List.take_length]
  rw [e1, wrap64 (by omega) (by omega), show (n : Int) + (p.length : Int) = ((n + p.length : Nat) : Int) by omega, e2, bindO_some, room_le (by simp only [List.length_take]; omega), bindO_some, room_le (by simp only [List.length_append, List.length_take, List.length_drop]; omega)]
  unfold putB
  rw [hw]; rfl
theorem specPut (s : Bytes) (a : Int) (p : Bytes) (h : s.length ≤ 1000000000) : spec_PutBytes s a p = some (putB s a p) := by
  unfold spec_PutBytes
  rw [specWithinB s a _ h (by omega), bindO_some]
  cases hw : withinB s a (p.length : Int) with
  | false => simp only [Bool.not_false, cond_true, putB, hw, cond_false]
  | true => exact put_some s a p h hw
theorem implPut (s : Bytes) (a : Int) (p : Bytes) (h : s.length ≤ 1000000000) (hp : p.length ≤ 1000000000) : impl_PutBytes s a p = some (putB s a p) := by
  unfold impl_PutBytes
  rw [wrap64 (n := (s.length : Int) - (p.length : Int)) (by omega) (by omega)]
  cases hw : withinB s a (p.length : Int) with
  | true =>
    have hw' := hw
    simp only [withinB, decide_eq_true_eq] at hw'
    rw [decide_eq_false (show ¬ a < 0 by omega), decide_eq_false (show ¬ a > (s.length : Int) - (p.length : Int) by omega)]
    exact put_some s a p h hw
  | false =>
    have hp : putB s a p = s := by unfold putB; rw [hw]; rfl
    rw [hp]
    simp only [withinB, decide_eq_false_iff_not] at hw
    by_cases h0 : a < 0
    · rw [decide_eq_true h0]; rfl
    · rw [decide_eq_false h0, decide_eq_true (show a > (s.length : Int) - (p.length : Int) by omega)]; rfl

-- segments
def bs2 (x y : Int) : Bytes := bytesOf [x, y]
theorem bs2_len (x y : Int) : (bs2 x y).length = 2 := rfl
def pseudoB (a b k n : Int) : Bool := inB a 0 4294967295 && (inB b 0 4294967295 && (inB k 0 255 && inB n 0 65535))
def pseudo (a b k n : Int) : Bytes := ((word32 a ++ word32 b) ++ bs2 0 (IntKind.wrap .u8 k)) ++ word16 n
theorem pseudo_le (a b k n : Int) : (pseudo a b k n).length ≤ 12 := by
  have := word32_le a
  have := word32_le b
  have := word16_le n
  simp only [pseudo, List.length_append, bs2_len]; omega
theorem specPseudo (a b k n : Int) : spec_PseudoHeader a b k n = some (bif pseudoB a b k n then (pseudo a b k n, true) else ([], false)) := by
  have := word32_le a
  have := word32_le b
  have := word16_le n
  unfold spec_PseudoHeader pseudoB
  simp only [l01In_eq, bindO_some, specWord32, specWord16]
  cases inB a 0 4294967295 with | false => rfl | true => ?_
  cases inB b 0 4294967295 with | false => rfl | true => ?_
  cases inB k 0 255 with | false => rfl | true => ?_
  cases inB n 0 65535 with | false => rfl | true => ?_
  simp only [Bool.not_true, cond_false, Bool.and_self, cond_true, bindO_some]
  have e : (bytesOf [0, IntKind.wrap .u8 k]).length = 2 := rfl
  rw [room_le (by omega), room_le (by simp only [List.length_append, e]; omega), room_le (by simp only [List.length_append, e]; omega)]; rfl
theorem implPseudo (a b k n : Int) : impl_PseudoHeader a b k n = some (bif pseudoB a b k n then (pseudo a b k n, true) else ([], false)) := specPseudo a b k n
def bare (g : Segment) : Bytes := bif g.1 == 6 then
    (((((word16 g.2.1 ++ word16 g.2.2.1) ++ word32 g.2.2.2.1) ++ word32 g.2.2.2.2.1) ++ bs2 80 (IntKind.wrap .u8 g.2.2.2.2.2.1)) ++ word16 g.2.2.2.2.2.2.1) ++ word32 0 ++ g.2.2.2.2.2.2.2
  else (((word16 g.2.1 ++ word16 g.2.2.1) ++ word16 (8 + (g.2.2.2.2.2.2.2.length : Int))) ++ word16 0) ++ g.2.2.2.2.2.2.2
theorem bare_le (g : Segment) : (bare g).length ≤ 20 + g.2.2.2.2.2.2.2.length := by
  have := word16_le g.2.1
  have := word16_le g.2.2.1
  have := word32_le g.2.2.2.1
  have := word32_le g.2.2.2.2.1
  have := word16_le g.2.2.2.2.2.2.1
  have := word32_le 0
  have := word16_le 0
  have := word16_le (8 + (g.2.2.2.2.2.2.2.length : Int))
  unfold bare
  cases g.1 == 6 <;> simp only [cond_true, cond_false, List.length_append, bs2_len] <;> omega
theorem word_zero : word16 0 ++ word16 0 = word32 0 := by rfl
theorem implBare (g : Segment) (h : g.2.2.2.2.2.2.2.length ≤ 1000000) : impl_bareSegment g = some (bare g) := by
  have := word16_le g.2.1
  have := word16_le g.2.2.1
  have := word32_le g.2.2.2.1
  have := word32_le g.2.2.2.2.1
  have := word16_le g.2.2.2.2.2.2.1
  have := word16_le 0
  have := word16_le (8 + (g.2.2.2.2.2.2.2.length : Int))
  have e : ∀ x, (bytesOf [80, IntKind.wrap .u8 x]).length = 2 := fun _ => rfl
  unfold impl_bareSegment bare
  rw [wrap64 (n := 8 + (g.2.2.2.2.2.2.2.length : Int)) (by omega) (by omega)]
  simp only [implWord16, implWord32, bindO_some]
  rw [room_le (by omega)]
  cases g.1 == 6 with
  | true =>
    simp only [cond_true]
    rw [room_le (by simp only [List.length_append, e]; omega), room_le (by simp only [List.length_append, e]; omega), room_le (by simp only [List.length_append, e]; omega), room_le (by simp only [List.length_append, e]; omega), room_le (by simp only [List.length_append, e]; omega), room_le (by simp only [List.length_append, e]; omega), room_le (by simp only [List.length_append, e]; omega)]
    rw [← word_zero]
    simp only [bs2, List.append_assoc]
  | false =>
    simp only [cond_false]
    rw [room_le (by simp only [List.length_append]; omega), room_le (by simp only [List.length_append]; omega), room_le (by simp only [List.length_append]; omega)]
def sumOf (a b : Int) (g : Segment) : Int := bif (chk (pseudo a b g.1 ((bare g).length : Int) ++ bare g) == 0) && (g.1 == 17) then 65535 else chk (pseudo a b g.1 ((bare g).length : Int) ++ bare g)
def segOf (a b : Int) (g : Segment) : Bytes := putB (bare g) (bif g.1 == 6 then 16 else 6) (word16 (sumOf a b g))
def segOkB (a b : Int) (g : Segment) : Bool := segB g && pseudoB a b g.1 ((bare g).length : Int)
def segR (a b : Int) (g : Segment) : Bytes × Bool := bif segOkB a b g then (segOf a b g, true) else ([], false)
theorem segB_len {g : Segment} (h : segB g = true) : g.2.2.2.2.2.2.2.length ≤ 320 := by
  simp only [segB, Bool.and_eq_true, Bool.not_eq_true', decide_eq_false_iff_not] at h
  omega
theorem specSegment (a b : Int) (g : Segment) : spec_BuildSegment a b g = some (segR a b g) := by
  unfold spec_BuildSegment segR segOkB
  rw [specSeg, bindO_some]
  cases hg : segB g with | false => rfl | true => ?_
  have hb := segB_len hg
  have hl := bare_le g
  have hp := pseudo_le a b g.1 ((bare g).length : Int)
  have := word16_le g.2.1
  have := word16_le g.2.2.1
  have := word32_le g.2.2.2.1
  have := word32_le g.2.2.2.2.1
  have := word16_le g.2.2.2.2.2.2.1
  have := word32_le 0
  have := word16_le 0
  have := word16_le (8 + (g.2.2.2.2.2.2.2.length : Int))
  have e : ∀ x, (bytesOf [80, IntKind.wrap .u8 x]).length = 2 := fun _ => rfl
  rw [wrap64 (n := 8 + (g.2.2.2.2.2.2.2.length : Int)) (by omega) (by omega)]
  simp only [specWord16, specWord32, bindO_some, Bool.not_true, cond_false, Bool.true_and]
  rw [room_le (by omega)]
  cases h6 : g.1 == 6 with
  | true =>
    have hbare : bare g = (((((word16 g.2.1 ++ word16 g.2.2.1) ++ word32 g.2.2.2.1) ++ word32 g.2.2.2.2.1) ++ bytesOf [80, IntKind.wrap .u8 g.2.2.2.2.2.1]) ++ word16 g.2.2.2.2.2.2.1) ++ word32 0 ++ g.2.2.2.2.2.2.2 := by unfold bare; rw [h6]; rfl
    simp only [cond_true]
    rw [room_le (by simp only [List.length_append, e]; omega), room_le (by simp only [List.length_append, e]; omega), room_le (by simp only [List.length_append, e]; omega), room_le (by simp only [List.length_append, e]; omega), room_le (by simp only [List.length_append, e]; omega), room_le (by simp only [List.length_append, e]; omega), ← hbare, specPseudo, bindO_some]
    cases pseudoB a b g.1 ((bare g).length : Int) with | false => rfl | true => ?_
    simp only [cond_true, Bool.not_true, cond_false]
    rw [room_le (by omega), specChk _ (by simp only [List.length_append]; omega)]
    simp only [bindO_some, cond_some, specPut _ _ _ (show (bare g).length ≤ 1000000000 by omega), segOf, sumOf, h6, cond_true, cF]
    cases (chk (pseudo a b g.1 ((bare g).length : Int) ++ bare g) == 0) && (g.1 == 17) <;> rfl
  | false =>
    have hbare : bare g = (((word16 g.2.1 ++ word16 g.2.2.1) ++ word16 (8 + (g.2.2.2.2.2.2.2.length : Int))) ++ word16 0) ++ g.2.2.2.2.2.2.2 := by unfold bare; rw [h6]; rfl
    simp only [cond_false]
    rw [room_le (by simp only [List.length_append]; omega), room_le (by simp only [List.length_append]; omega), room_le (by simp only [List.length_append]; omega), ← hbare, specPseudo, bindO_some]
    cases pseudoB a b g.1 ((bare g).length : Int) with | false => rfl | true => ?_
    simp only [cond_true, Bool.not_true, cond_false]
    rw [room_le (by omega), specChk _ (by simp only [List.length_append]; omega)]
    simp only [bindO_some, cond_some, specPut _ _ _ (show (bare g).length ≤ 1000000000 by omega), segOf, sumOf, h6, cond_false, cF]
    cases (chk (pseudo a b g.1 ((bare g).length : Int) ++ bare g) == 0) && (g.1 == 17) <;> rfl
theorem implSegment (a b : Int) (g : Segment) : impl_BuildSegment a b g = some (segR a b g) := by
  unfold impl_BuildSegment segR segOkB
  rw [implSeg, bindO_some]
  cases hg : segB g with | false => rfl | true => ?_
  have hb := segB_len hg
  have hl := bare_le g
  have hp := pseudo_le a b g.1 ((bare g).length : Int)
  have hsp : impl_sumPlace g.1 = some (bif g.1 == 6 then 16 else 6) := by unfold impl_sumPlace; rw [cond_some]
  have w1 := word16_le 65535
  have w2 := word16_le (chk (pseudo a b g.1 ((bare g).length : Int) ++ bare g))
  simp only [implBare g (by omega), implPseudo, bindO_some, Bool.not_true, cond_false, Bool.true_and]
  cases pseudoB a b g.1 ((bare g).length : Int) with | false => rfl | true => ?_
  simp only [cond_true, Bool.not_true, cond_false]
  rw [room_le (by omega), implChk _ (by simp only [List.length_append]; omega)]
  simp only [bindO_some, cond_some, hsp, implWord16, implPut _ _ _ (show (bare g).length ≤ 1000000000 by omega) (show (word16 65535).length ≤ 1000000000 by omega), implPut _ _ _ (show (bare g).length ≤ 1000000000 by omega) (show (word16 (chk (pseudo a b g.1 ((bare g).length : Int) ++ bare g))).length ≤ 1000000000 by omega), segOf, sumOf, cF]
  rw [Bool.and_comm]
  cases (chk (pseudo a b g.1 ((bare g).length : Int) ++ bare g) == 0) && (g.1 == 17) <;> rfl
theorem segR_le (a b : Int) (g : Segment) : (segR a b g).1.length ≤ 340 := by
  unfold segR
  cases h : segOkB a b g with
  | false => exact Nat.zero_le _
  | true =>
    simp only [segOkB, Bool.and_eq_true] at h
    have := segB_len h.1
    have := bare_le g
    show (putB _ _ _).length ≤ 340
    rw [putB_len]; omega

end

end Go.Pu
