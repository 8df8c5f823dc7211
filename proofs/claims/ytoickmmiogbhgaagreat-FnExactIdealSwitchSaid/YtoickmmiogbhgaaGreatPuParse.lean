import Derived.Test.YtoickmmiogbhgaaGreatPuFrame
import Derived.Test.YtoickmmiogbhgaaGreatPuPorts
/- Reading frames: the program's and the reference's results are one. -/
namespace Go.Pu
open Go.Dn
set_option linter.unusedSimpArgs false
set_option linter.unusedVariables false
noncomputable section

theorem get16_in {s : Bytes} {a : Int} (h0 : 0 ≤ a) (h : a + 2 ≤ (s.length : Int)) : 0 ≤ get16 s a ∧ get16 s a ≤ 65535 := by
  have h1 := byteAt_lt s a.toNat; have h2 := byteAt_lt s (a.toNat + 1)
  unfold get16 withinB
  rw [decide_eq_true ⟨h0, h⟩]
  simp only [cond_true]; omega
theorem get32_in {s : Bytes} {a : Int} (h0 : 0 ≤ a) (h : a + 4 ≤ (s.length : Int)) : 0 ≤ get32 s a ∧ get32 s a ≤ 4294967295 := by
  have h1 := byteAt_lt s a.toNat; have h2 := byteAt_lt s (a.toNat + 1); have h3 := byteAt_lt s (a.toNat + 2); have h4 := byteAt_lt s (a.toNat + 3)
  unfold get32 withinB
  rw [decide_eq_true ⟨h0, h⟩]
  simp only [cond_true]; omega
theorem mac_or {x y : Int} (hx : 0 ≤ x ∧ x ≤ 65535) (hy : 0 ≤ y ∧ y ≤ 4294967295) : IntKind.wrap .i64 (BitVec.toNat (BitVec.ofInt (IntKind.bits .i64) (IntKind.wrap .i64 (x * 2 ^ (min (Int.toNat 32) (IntKind.bits .i64)))) ||| BitVec.ofInt (IntKind.bits .i64) y)) = x * 4294967296 + y := by
  have e : (2 : Int) ^ (min (Int.toNat 32) (IntKind.bits .i64)) = 4294967296 := rfl
  obtain ⟨x, rfl⟩ := Int.eq_ofNat_of_zero_le hx.1
  obtain ⟨y, rfl⟩ := Int.eq_ofNat_of_zero_le hy.1
  rw [e, wrap64 (n := (x : Int) * 4294967296) (by omega) (by omega), show (x : Int) * 4294967296 = ((2 ^ 32 * x : Nat) : Int) by omega, or_add x 32 y (by omega) (by omega)]
  omega
theorem mac_add {x y : Int} (hx : 0 ≤ x ∧ x ≤ 65535) (hy : 0 ≤ y ∧ y ≤ 4294967295) : IntKind.wrap .i64 (IntKind.wrap .i64 (x * 2 ^ (min (Int.toNat 32) (IntKind.bits .i64))) + y) = x * 4294967296 + y := by
  have e : (2 : Int) ^ (min (Int.toNat 32) (IntKind.bits .i64)) = 4294967296 := rfl
  rw [e, wrap64 (n := x * 4294967296) (by omega) (by omega), wrap64 (by omega) (by omega)]
theorem sub_pre {α : Type} {l : List α} {n : Int} (h0 : 0 ≤ n) (h1 : n ≤ (l.length : Int)) : sub l 0 n = some (l.take n.toNat) := by
  unfold sub; rw [if_pos (by omega)]; simp
theorem sub_end {α : Type} {l : List α} (k : Nat) (h : k ≤ l.length) {a : Int} (ha : a = (k : Int)) : sub l a (l.length : Int) = some (l.drop k) := by
  unfold sub; rw [if_pos (by omega)]; subst ha; simp
theorem sub_mid {α : Type} {l : List α} (k : Nat) {a n : Int} (ha : a = (k : Int)) (h0 : a ≤ n) (h1 : n ≤ (l.length : Int)) : sub l a n = some ((l.take n.toNat).drop k) := by
  unfold sub; rw [if_pos (by omega)]; subst ha; simp

-- checks at the end
def chkFcs (s : Bytes) : Bytes × Bool := bif decide ((s.length : Int) < 4) then ([], false) else bif withFcs (s.take ((s.length : Int) - 4).toNat) == s then (s.take ((s.length : Int) - 4).toNat, true) else ([], false)
theorem specChkFcs (s : Bytes) (h : s.length ≤ 1000000000) : spec_CheckFcs s = some (chkFcs s) := by
  unfold spec_CheckFcs chkFcs
  rw [wrap64 (n := (s.length : Int) - 4) (by omega) (by omega)]
  by_cases h4 : (s.length : Int) < 4
  · rw [decide_eq_true h4]
    rfl
  · rw [decide_eq_false h4, sub_pre (by omega) (by omega)]
    simp only [cond_false, bindO_some, specFcs _ (show (s.take ((s.length : Int) - 4).toNat).length ≤ 1000000000 by rw [List.length_take]; omega)]
    cases withFcs (s.take ((s.length : Int) - 4).toNat) == s <;> rfl
theorem implChkFcs (s : Bytes) (h : s.length ≤ 1000000000) : impl_CheckFcs s = some (chkFcs s) := by
  unfold impl_CheckFcs chkFcs
  rw [wrap64 (n := (s.length : Int) - 4) (by omega) (by omega)]
  by_cases h4 : (s.length : Int) < 4
  · rw [decide_eq_true (show (s.length : Int) - 4 < 0 by omega), decide_eq_true h4]
    rfl
  · rw [decide_eq_false (show ¬ (s.length : Int) - 4 < 0 by omega), decide_eq_false h4, sub_pre (by omega) (by omega)]
    simp only [cond_false, bindO_some, implFcs _ (show (s.take ((s.length : Int) - 4).toNat).length ≤ 1000000000 by rw [List.length_take]; omega)]
    cases withFcs (s.take ((s.length : Int) - 4).toNat) == s <;> rfl

-- frames
def eth0 : Eth := (0, 0, 0, 0, ([] : Bytes))
def mac48 (s : Bytes) (a : Int) : Int := get16 s a * 4294967296 + get32 s (a + 2)
def eTag (s : Bytes) : Eth := (mac48 s 0, mac48 s 6, get16 s 14, get16 s 16, s.drop 18)
def eBare (s : Bytes) : Eth := (mac48 s 0, mac48 s 6, -1, get16 s 12, s.drop 14)
def parseEth (s : Bytes) : Eth × Bool := bif decide ((s.length : Int) < 18) then (eth0, false) else
  bif get16 s 12 == 33024 then (bif ethB (eTag s) then (eTag s, true) else (eth0, false)) else bif ethB (eBare s) then (eBare s, true) else (eth0, false)
theorem specParseEth (s : Bytes) (h : s.length ≤ 1000000000) : spec_ParseEth s = some (parseEth s) := by
  unfold spec_ParseEth parseEth
  by_cases h8 : (s.length : Int) < 18
  · rw [decide_eq_true h8]; rfl
  · rw [decide_eq_false h8]
    simp only [cond_false, specGet16 s _ h, specGet32 s _ h, bindO_some]
    rw [if_neg (by omega), if_neg (by omega), sub_end (l := s) 14 (by omega) (show (14 : Int) = ((14 : Nat) : Int) from rfl), bindO_some, sub_end (l := s) 18 (by omega) (show (18 : Int) = ((18 : Nat) : Int) from rfl)]
    rw [mac_add (get16_in (s := s) (a := 0) (by omega) (by omega)) (get32_in (s := s) (a := 2) (by omega) (by omega)), mac_add (get16_in (s := s) (a := 6) (by omega) (by omega)) (get32_in (s := s) (a := 8) (by omega) (by omega))]
    simp only [bindO_some, specEthOk]
    rw [show ((get16 s 0 * 4294967296 + get32 s 2, get16 s 6 * 4294967296 + get32 s 8, get16 s 14, get16 s 16, s.drop 18) : Eth) = eTag s from rfl, show ((get16 s 0 * 4294967296 + get32 s 2, get16 s 6 * 4294967296 + get32 s 8, -1, get16 s 12, s.drop 14) : Eth) = eBare s from rfl]
    cases get16 s 12 == 33024 <;> cases ethB (eTag s) <;> cases ethB (eBare s) <;> rfl
theorem implParseEth (s : Bytes) (h : s.length ≤ 1000000000) : impl_ParseEth s = some (parseEth s) := by
  unfold impl_ParseEth parseEth
  by_cases h4 : (s.length : Int) < 14
  · rw [decide_eq_true h4, decide_eq_true (show (s.length : Int) < 18 by omega)]; rfl
  · rw [decide_eq_false h4]
    simp only [cond_false, implGet16 s _ h, implGet32 s _ h, bindO_some]
    rw [if_neg (by omega), if_neg (by omega), sub_end (l := s) 14 (by omega) (show (14 : Int) = ((14 : Nat) : Int) from rfl), bindO_some]
    rw [mac_or (get16_in (s := s) (a := 0) (by omega) (by omega)) (get32_in (s := s) (a := 2) (by omega) (by omega)), mac_or (get16_in (s := s) (a := 6) (by omega) (by omega)) (get32_in (s := s) (a := 8) (by omega) (by omega))]
    simp only [bindO_some, implEthOk]
    rw [show ((get16 s 0 * 4294967296 + get32 s 2, get16 s 6 * 4294967296 + get32 s 8, -1, get16 s 12, s.drop 14) : Eth) = eBare s from rfl]
    by_cases h8 : (s.length : Int) < 18
    · have hB : ethB (eBare s) = false := by
        unfold ethB eBare
        have : inB ((s.drop 14).length : Int) 46 400 = false := by
          rw [Bool.eq_false_iff, ne_eq, inB_iff, List.length_drop]; omega
        simp only [this, Bool.and_false]
      rw [decide_eq_true h8, decide_eq_false (show ¬ (s.length : Int) ≥ 18 by omega), hB]
      cases get16 s 12 == 33024 <;> rfl
    · rw [decide_eq_false h8, decide_eq_true (show (s.length : Int) ≥ 18 by omega), sub_end (l := s) 18 (by omega) (show (18 : Int) = ((18 : Nat) : Int) from rfl)]
      simp only [bindO_some]
      rw [show ((get16 s 0 * 4294967296 + get32 s 2, get16 s 6 * 4294967296 + get32 s 8, get16 s 14, get16 s 16, s.drop 18) : Eth) = eTag s from rfl]
      cases get16 s 12 == 33024 <;> cases ethB (eTag s) <;> cases ethB (eBare s) <;> rfl
def ip0 : Ip := (0, 0, 0, 0, 0, 0, ([] : Bytes))
def ipAt (s : Bytes) : Ip := ((byteAt s 1 : Int), get16 s 4, (byteAt s 8 : Int), (byteAt s 9 : Int), get32 s 12, get32 s 16, (s.take (get16 s 2).toNat).drop 20)
def parseIp (s : Bytes) : Ip × Bool := bif decide ((s.length : Int) < 20) || (decide (get16 s 2 < 20) || decide (get16 s 2 > (s.length : Int))) then (ip0, false) else
  bif (ipR (ipAt s)).2 && ((ipR (ipAt s)).1 == s.take (get16 s 2).toNat) then (ipAt s, true) else (ip0, false)
theorem idx_at {s : Bytes} {i : Nat} (h : i < s.length) {a : Int} (ha : a = (i : Int)) {R : Type} (k : Int → Option R) : (bindO (idx s a) fun x => k (IntKind.wrap .i64 (x.toNat : Int))) = k (byteAt s i : Int) := by
  have := byte_lt s[i]
  rw [ha, idx_lt h, bindO_some, wrapN (by omega), byteAt, getD_lt h]
theorem specParseIp (s : Bytes) (h : s.length ≤ 1000000000) : spec_ParseIp s = some (parseIp s) := by
  unfold spec_ParseIp parseIp
  simp only [specGet16 s _ h, specGet32 s _ h, bindO_some]
  by_cases h1 : (s.length : Int) < 20
  · rw [decide_eq_true h1]; rfl
  by_cases h2 : get16 s 2 < 20
  · rw [decide_eq_false h1, decide_eq_true h2]; rfl
  by_cases h3 : get16 s 2 > (s.length : Int)
  · rw [decide_eq_false h1, decide_eq_false h2, decide_eq_true h3]; rfl
  rw [decide_eq_false h1, decide_eq_false h2, decide_eq_false h3]
  have b1 := byte_lt (s[1]'(by omega)); have b8 := byte_lt (s[8]'(by omega)); have b9 := byte_lt (s[9]'(by omega))
  have i1 : idx s 1 = some (s[1]'(by omega)) := idx_lt (i := 1) (by omega)
  have i8 : idx s 8 = some (s[8]'(by omega)) := idx_lt (i := 8) (by omega)
  have i9 : idx s 9 = some (s[9]'(by omega)) := idx_lt (i := 9) (by omega)
  simp only [cond_false, bindO_some, Bool.or_self, i1, i8, i9]
  rw [sub_mid (l := s) 20 (show (20 : Int) = ((20 : Nat) : Int) from rfl) (by omega) (by omega), sub_pre (by omega) (by omega), wrapN (n := (s[1]'(by omega)).toNat) (by omega), wrapN (n := (s[8]'(by omega)).toNat) (by omega), wrapN (n := (s[9]'(by omega)).toNat) (by omega)]
  have e : (((s[1]'(by omega)).toNat : Int), get16 s 4, ((s[8]'(by omega)).toNat : Int), ((s[9]'(by omega)).toNat : Int), get32 s 12, get32 s 16, (s.take (get16 s 2).toNat).drop 20) = ipAt s := by
    simp only [ipAt, byteAt, getD_lt (show 1 < s.length by omega), getD_lt (show 8 < s.length by omega), getD_lt (show 9 < s.length by omega)]
  simp only [bindO_some, e, specIp]
  cases (ipR (ipAt s)).2 <;> cases (ipR (ipAt s)).1 == s.take (get16 s 2).toNat <;> rfl
theorem implParseIp (s : Bytes) (h : s.length ≤ 1000000000) : impl_ParseIp s = some (parseIp s) := by
  unfold impl_ParseIp parseIp
  simp only [implGet16 s _ h, implGet32 s _ h, bindO_some]
  by_cases h1 : (s.length : Int) < 20
  · rw [decide_eq_true h1]; rfl
  by_cases h2 : get16 s 2 < 20
  · rw [decide_eq_false h1, decide_eq_true h2]; rfl
  by_cases h3 : get16 s 2 > (s.length : Int)
  · rw [decide_eq_false h1, decide_eq_false h2, decide_eq_true h3]; rfl
  rw [decide_eq_false h1, decide_eq_false h2, decide_eq_false h3]
  have b1 := byte_lt (s[1]'(by omega)); have b8 := byte_lt (s[8]'(by omega)); have b9 := byte_lt (s[9]'(by omega))
  have i1 : idx s 1 = some (s[1]'(by omega)) := idx_lt (i := 1) (by omega)
  have i8 : idx s 8 = some (s[8]'(by omega)) := idx_lt (i := 8) (by omega)
  have i9 : idx s 9 = some (s[9]'(by omega)) := idx_lt (i := 9) (by omega)
  simp only [cond_false, bindO_some, Bool.or_self, i1, i8, i9]
  rw [sub_mid (l := s) 20 (show (20 : Int) = ((20 : Nat) : Int) from rfl) (by omega) (by omega), sub_pre (by omega) (by omega), wrapN (n := (s[1]'(by omega)).toNat) (by omega), wrapN (n := (s[8]'(by omega)).toNat) (by omega), wrapN (n := (s[9]'(by omega)).toNat) (by omega)]
  have e : (((s[1]'(by omega)).toNat : Int), get16 s 4, ((s[8]'(by omega)).toNat : Int), ((s[9]'(by omega)).toNat : Int), get32 s 12, get32 s 16, (s.take (get16 s 2).toNat).drop 20) = ipAt s := by
    simp only [ipAt, byteAt, getD_lt (show 1 < s.length by omega), getD_lt (show 8 < s.length by omega), getD_lt (show 9 < s.length by omega)]
  simp only [bindO_some, e, implIp]
  cases (ipR (ipAt s)).2 <;> cases (ipR (ipAt s)).1 == s.take (get16 s 2).toNat <;> rfl
def seg0 : Segment := (0, 0, 0, 0, 0, 0, 0, ([] : Bytes))
def segT (k : Int) (s : Bytes) : Segment := (k, get16 s 0, get16 s 2, get32 s 4, get32 s 8, (byteAt s 13 : Int), get16 s 14, s.drop 20)
def segU (k : Int) (s : Bytes) : Segment := (k, get16 s 0, get16 s 2, 0, 0, 0, 0, s.drop 8)
def parseSeg (a b k : Int) (s : Bytes) : Segment × Bool :=
  bif (k == 6) && decide ((s.length : Int) ≥ 20) then (bif (segR a b (segT k s)).2 && ((segR a b (segT k s)).1 == s) then (segT k s, true) else (seg0, false)) else
  bif (k == 17) && decide ((s.length : Int) ≥ 8) then (bif (segR a b (segU k s)).2 && ((segR a b (segU k s)).1 == s) then (segU k s, true) else (seg0, false)) else (seg0, false)
theorem specParseSeg (a b k : Int) (s : Bytes) (h : s.length ≤ 1000000000) : spec_ParseSegment a b k s = some (parseSeg a b k s) := by
  unfold spec_ParseSegment parseSeg
  simp only [specGet16 s _ h, specGet32 s _ h, bindO_some]
  rw [show (bindO (cond (k == 6) (some (decide ((s.length : Int) ≥ 20))) (some false)) : (Bool → Option (Segment × Bool)) → Option (Segment × Bool)) = fun K => K ((k == 6) && decide ((s.length : Int) ≥ 20)) from by funext K; cases k == 6 <;> rfl]
  rw [show (bindO (cond (k == 17) (some (decide ((s.length : Int) ≥ 8))) (some false)) : (Bool → Option (Segment × Bool)) → Option (Segment × Bool)) = fun K => K ((k == 17) && decide ((s.length : Int) ≥ 8)) from by funext K; cases k == 17 <;> rfl]
  simp only
  cases h1 : (k == 6) && decide ((s.length : Int) ≥ 20) with
  | true =>
    simp only [Bool.and_eq_true, decide_eq_true_eq] at h1
    have bb := byte_lt (s[13]'(by omega))
    have i : idx s 13 = some (s[13]'(by omega)) := idx_lt (i := 13) (by omega)
    have e : (k, get16 s 0, get16 s 2, get32 s 4, get32 s 8, ((s[13]'(by omega)).toNat : Int), get16 s 14, s.drop 20) = segT k s := by
      simp only [segT, byteAt, getD_lt (show 13 < s.length by omega)]
    simp only [cond_true, i, bindO_some]
    rw [sub_end (l := s) 20 (by omega) (show (20 : Int) = ((20 : Nat) : Int) from rfl), wrapN (n := (s[13]'(by omega)).toNat) (by omega)]
    simp only [bindO_some, e, specSegment]
    cases (segR a b (segT k s)).2 <;> cases (segR a b (segT k s)).1 == s <;> rfl
  | false =>
    simp only [cond_false]
    cases h2 : (k == 17) && decide ((s.length : Int) ≥ 8) with
    | false => rfl
    | true =>
      simp only [Bool.and_eq_true, decide_eq_true_eq] at h2
      rw [sub_end (l := s) 8 (by omega) (show (8 : Int) = ((8 : Nat) : Int) from rfl)]
      simp only [cond_true, bindO_some, show ((k, get16 s 0, get16 s 2, 0, 0, 0, 0, s.drop 8) : Segment) = segU k s from rfl, specSegment]
      cases (segR a b (segU k s)).2 <;> cases (segR a b (segU k s)).1 == s <;> rfl
theorem implParseSeg (a b k : Int) (s : Bytes) (h : s.length ≤ 1000000000) : impl_ParseSegment a b k s = some (parseSeg a b k s) := by
  unfold impl_ParseSegment parseSeg
  simp only [implGet16 s _ h, implGet32 s _ h, bindO_some]
  rw [show (bindO (cond (k == 6) (some (decide ((s.length : Int) ≥ 20))) (some false)) : (Bool → Option (Segment × Bool)) → Option (Segment × Bool)) = fun K => K ((k == 6) && decide ((s.length : Int) ≥ 20)) from by funext K; cases k == 6 <;> rfl]
  rw [show (bindO (cond (k == 17) (some (decide ((s.length : Int) ≥ 8))) (some false)) : (Bool → Option (Segment × Bool)) → Option (Segment × Bool)) = fun K => K ((k == 17) && decide ((s.length : Int) ≥ 8)) from by funext K; cases k == 17 <;> rfl]
  simp only
  cases h1 : (k == 6) && decide ((s.length : Int) ≥ 20) with
  | true =>
    simp only [Bool.and_eq_true, decide_eq_true_eq] at h1
    have bb := byte_lt (s[13]'(by omega))
    have i : idx s 13 = some (s[13]'(by omega)) := idx_lt (i := 13) (by omega)
    have e : (k, get16 s 0, get16 s 2, get32 s 4, get32 s 8, ((s[13]'(by omega)).toNat : Int), get16 s 14, s.drop 20) = segT k s := by
      simp only [segT, byteAt, getD_lt (show 13 < s.length by omega)]
    simp only [cond_true, i, bindO_some]
    rw [sub_end (l := s) 20 (by omega) (show (20 : Int) = ((20 : Nat) : Int) from rfl), wrapN (n := (s[13]'(by omega)).toNat) (by omega)]
    simp only [bindO_some, e, implSegment]
    cases (segR a b (segT k s)).2 <;> cases (segR a b (segT k s)).1 == s <;> rfl
  | false =>
    simp only [cond_false]
    cases h2 : (k == 17) && decide ((s.length : Int) ≥ 8) with
    | false => rfl
    | true =>
      simp only [Bool.and_eq_true, decide_eq_true_eq] at h2
      rw [sub_end (l := s) 8 (by omega) (show (8 : Int) = ((8 : Nat) : Int) from rfl)]
      simp only [cond_true, bindO_some, show ((k, get16 s 0, get16 s 2, 0, 0, 0, 0, s.drop 8) : Segment) = segU k s from rfl, implSegment]
      cases (segR a b (segU k s)).2 <;> cases (segR a b (segU k s)).1 == s <;> rfl

-- the packet in an image
def pk0 : Packet := (0, 0, 0, 0, 0, 0, 0, 0, 0, 0, 0, 0, 0, 0, 0, ([] : Bytes))
def readI (s : Bytes) : Packet × Int :=
  let e := parseEth s
  bif !e.2 || (e.1.2.2.2.1 != 2048) then (pk0, 2) else
  let i := parseIp e.1.2.2.2.2
  bif !i.2 then (pk0, 3) else
  let g := parseSeg i.1.2.2.2.2.1 i.1.2.2.2.2.2.1 i.1.2.2.2.1 i.1.2.2.2.2.2.2
  bif !g.2 then (pk0, 4) else
  bif !superB (e.1.1, e.1.2.1, e.1.2.2.1, i.1.1, i.1.2.1, i.1.2.2.1, i.1.2.2.2.2.1, i.1.2.2.2.2.2.1, g.1) then (pk0, 5) else
  ((e.1.1, e.1.2.1, e.1.2.2.1, i.1.1, i.1.2.1, i.1.2.2.1, i.1.2.2.2.2.1, i.1.2.2.2.2.2.1, g.1), 0)
theorem parseEth_len (s : Bytes) : (parseEth s).1.2.2.2.2.length ≤ s.length := by
  unfold parseEth
  cases decide ((s.length : Int) < 18) with | true => simp [eth0] | false => ?_
  cases get16 s 12 == 33024 <;> cases ethB (eTag s) <;> cases ethB (eBare s) <;> simp [eth0, eTag, eBare]
theorem parseIp_len (s : Bytes) : (parseIp s).1.2.2.2.2.2.2.length ≤ s.length := by
  unfold parseIp
  cases decide ((s.length : Int) < 20) || (decide (get16 s 2 < 20) || decide (get16 s 2 > (s.length : Int))) with | true => simp [ip0] | false => ?_
  cases (ipR (ipAt s)).2 && ((ipR (ipAt s)).1 == s.take (get16 s 2).toNat) with
  | false => simp [ip0]
  | true => simp [ipAt]; omega
theorem specReadI (s : Bytes) (h : s.length ≤ 1000000000) : spec_ReadImage s = some (readI s) := by
  have h1 := parseEth_len s
  unfold spec_ReadImage readI
  rw [specParseEth s h, bindO_some]
  generalize parseEth s = e at h1 ⊢
  have h2 := parseIp_len e.1.2.2.2.2
  simp only
  cases e.2 with | false => rfl | true => ?_
  cases e.1.2.2.2.1 != 2048 with | true => rfl | false => ?_
  simp only [Bool.not_true, cond_false, bindO_some, Bool.or_self, specParseIp _ (show e.1.2.2.2.2.length ≤ 1000000000 by omega)]
  generalize parseIp e.1.2.2.2.2 = i at h2 ⊢
  cases i.2 with | false => rfl | true => ?_
  simp only [Bool.not_true, cond_false, bindO_some, specParseSeg _ _ _ _ (show i.1.2.2.2.2.2.2.length ≤ 1000000000 by omega)]
  generalize parseSeg i.1.2.2.2.2.1 i.1.2.2.2.2.2.1 i.1.2.2.2.1 i.1.2.2.2.2.2.2 = g
  cases g.2 with | false => rfl | true => ?_
  simp only [Bool.not_true, cond_false, bindO_some, specSuper]
  cases superB (e.1.1, e.1.2.1, e.1.2.2.1, i.1.1, i.1.2.1, i.1.2.2.1, i.1.2.2.2.2.1, i.1.2.2.2.2.2.1, g.1) <;> rfl
theorem implReadI (s : Bytes) (h : s.length ≤ 1000000000) : impl_ReadImage s = some (readI s) := by
  have h1 := parseEth_len s
  unfold impl_ReadImage readI
  rw [implParseEth s h, bindO_some]
  generalize parseEth s = e at h1 ⊢
  have h2 := parseIp_len e.1.2.2.2.2
  simp only
  cases e.2 with | false => rfl | true => ?_
  cases e.1.2.2.2.1 != 2048 with | true => rfl | false => ?_
  simp only [Bool.not_true, cond_false, bindO_some, Bool.or_self, implParseIp _ (show e.1.2.2.2.2.length ≤ 1000000000 by omega)]
  generalize parseIp e.1.2.2.2.2 = i at h2 ⊢
  cases i.2 with | false => rfl | true => ?_
  simp only [Bool.not_true, cond_false, bindO_some, implParseSeg _ _ _ _ (show i.1.2.2.2.2.2.2.length ≤ 1000000000 by omega)]
  generalize parseSeg i.1.2.2.2.2.1 i.1.2.2.2.2.2.1 i.1.2.2.2.1 i.1.2.2.2.2.2.2 = g
  cases g.2 with | false => rfl | true => ?_
  simp only [Bool.not_true, cond_false, bindO_some, implSuper]
  cases superB (e.1.1, e.1.2.1, e.1.2.2.1, i.1.1, i.1.2.1, i.1.2.2.1, i.1.2.2.2.2.1, i.1.2.2.2.2.2.1, g.1) <;> rfl
def readF (s : Bytes) : Packet × Int :=
  let c := chkFcs s
  bif !c.2 then (pk0, 1) else
  let r := readI c.1
  bif r.2 != 0 then (pk0, r.2) else
  bif !packetB r.1 then (pk0, 5) else (r.1, 0)
theorem chkFcs_len (s : Bytes) : (chkFcs s).1.length ≤ s.length := by
  unfold chkFcs
  cases decide ((s.length : Int) < 4) with | true => simp | false => ?_
  cases withFcs (s.take ((s.length : Int) - 4).toNat) == s with
  | false => simp
  | true => simp; omega
theorem specReadF (s : Bytes) (h : s.length ≤ 1000000000) : spec_ReadFrame s = some (readF s) := by
  have h1 := chkFcs_len s
  unfold spec_ReadFrame readF
  rw [specChkFcs s h, bindO_some]
  generalize chkFcs s = c at h1 ⊢
  simp only
  cases c.2 with | false => rfl | true => ?_
  simp only [Bool.not_true, cond_false, bindO_some, specReadI _ (show c.1.length ≤ 1000000000 by omega)]
  generalize readI c.1 = r
  cases r.2 != 0 with | true => rfl | false => ?_
  simp only [cond_false, bindO_some, specPacket]
  cases packetB r.1 <;> rfl
theorem implReadF (s : Bytes) (h : s.length ≤ 1000000000) : impl_ReadFrame s = some (readF s) := by
  have h1 := chkFcs_len s
  unfold impl_ReadFrame readF
  rw [implChkFcs s h, bindO_some]
  generalize chkFcs s = c at h1 ⊢
  simp only
  cases c.2 with | false => rfl | true => ?_
  simp only [Bool.not_true, cond_false, bindO_some, implReadI _ (show c.1.length ≤ 1000000000 by omega)]
  generalize readI c.1 = r
  cases r.2 != 0 with | true => rfl | false => ?_
  simp only [cond_false, bindO_some, implPacket]
  cases packetB r.1 <;> rfl

end

end Go.Pu
