import Derived.Test.YtoickmmiogbhgaaGreatPuSteer
/- Words, sums and check sequences of bytes: the program's and the reference's are one. -/
namespace Go.Pu
open Go.Dn
set_option linter.unusedSimpArgs false
set_option linter.unusedVariables false
noncomputable section

theorem wrapN {n : Nat} (h : n < 9223372036854775808) : IntKind.wrap .i64 (n : Int) = (n : Int) := wrap64 (by omega) (by omega)
theorem wrapU32 {n : Nat} (h : n < 4294967296) : IntKind.wrap .u32 (n : Int) = (n : Int) := by
  simp only [IntKind.wrap, IntKind.bits, IntKind.signed]
  simp
  omega
theorem byte_lt (b : UInt8) : b.toNat < 256 := b.toNat_lt

-- words
def word16 (v : Int) : Bytes := (spec_Word16 v).getD []
theorem specWord16 (v : Int) : spec_Word16 v = some (word16 v) := by
  unfold word16
  have : ∃ x, spec_Word16 v = some x := by
    simp only [spec_Word16, l01In_eq, bindO_some]
    cases inB v 0 65535 <;> exact ⟨_, rfl⟩
  obtain ⟨x, hx⟩ := this
  rw [hx]; rfl
theorem implWord16 (v : Int) : impl_Word16 v = some (word16 v) := specWord16 v
theorem word16_len (v : Int) : (word16 v).length = bif inB v 0 65535 then 2 else 0 := by
  have h := specWord16 v
  simp only [spec_Word16, l01In_eq, bindO_some] at h
  cases hb : inB v 0 65535 <;> rw [hb] at h <;> (rw [← Option.some.inj h]; rfl)
theorem word16_le (v : Int) : (word16 v).length ≤ 2 := by rw [word16_len]; cases inB v 0 65535 <;> simp
def word32 (v : Int) : Bytes := (spec_Word32 v).getD []
theorem specWord32 (v : Int) : spec_Word32 v = some (word32 v) := by
  unfold word32
  have : ∃ x, spec_Word32 v = some x := by
    simp only [spec_Word32, l01In_eq, bindO_some]
    cases inB v 0 4294967295 <;> exact ⟨_, rfl⟩
  obtain ⟨x, hx⟩ := this
  rw [hx]; rfl
theorem implWord32 (v : Int) : impl_Word32 v = some (word32 v) := specWord32 v
theorem word32_len (v : Int) : (word32 v).length = bif inB v 0 4294967295 then 4 else 0 := by
  have h := specWord32 v
  simp only [spec_Word32, l01In_eq, bindO_some] at h
  cases hb : inB v 0 4294967295 <;> rw [hb] at h <;> (rw [← Option.some.inj h]; rfl)
theorem word32_le (v : Int) : (word32 v).length ≤ 4 := by rw [word32_len]; cases inB v 0 4294967295 <;> simp

-- numbers out of bytes
def byteAt (s : Bytes) (i : Nat) : Nat := (s.getD i 0).toNat
theorem byteAt_lt (s : Bytes) (i : Nat) : byteAt s i < 256 := byte_lt _
theorem idx_byte {s : Bytes} {i : Nat} (h : i < s.length) : ∃ x, idx s (i : Int) = some x ∧ x.toNat = byteAt s i := ⟨s[i], idx_lt h, by rw [byteAt, getD_lt h]⟩
def withinB (s : Bytes) (a n : Int) : Bool := decide (0 ≤ a ∧ a + n ≤ (s.length : Int))
theorem specWithinB (s : Bytes) (a n : Int) (h : s.length ≤ 1000000000) (hn : 0 ≤ n) : spec_l02Within s a n = some (withinB s a n) := by
  unfold spec_l02Within withinB
  by_cases h0 : 0 ≤ a
  · by_cases h1 : a ≤ (s.length : Int)
    · rw [decide_eq_true (show a ≥ 0 from h0), decide_eq_true h1, wrap64 (by omega) (by omega)]
      simp only [cond_true, bindO_some]
      congr 1
      rw [decide_eq_decide]; omega
    · rw [decide_eq_true (show a ≥ 0 from h0), decide_eq_false h1, decide_eq_false (show ¬ (0 ≤ a ∧ a + n ≤ (s.length : Int)) by omega)]; rfl
  · rw [decide_eq_false (show ¬ a ≥ 0 from h0), decide_eq_false (show ¬ (0 ≤ a ∧ a + n ≤ (s.length : Int)) by omega)]; rfl
def get16 (s : Bytes) (a : Int) : Int := bif withinB s a 2 then ((byteAt s a.toNat * 256 + byteAt s (a.toNat + 1) : Nat) : Int) else -1
def get32 (s : Bytes) (a : Int) : Int := bif withinB s a 4 then (((byteAt s a.toNat * 256 + byteAt s (a.toNat + 1)) * 65536 + (byteAt s (a.toNat + 2) * 256 + byteAt s (a.toNat + 3)) : Nat) : Int) else -1
theorem specGet16 (s : Bytes) (a : Int) (h : s.length ≤ 1000000000) : spec_Get16 s a = some (get16 s a) := by
  unfold spec_Get16 get16
  rw [specWithinB s a 2 h (by omega), bindO_some]
  cases hw : withinB s a 2 with
  | false => rfl
  | true =>
    simp only [withinB, decide_eq_true_eq] at hw
    obtain ⟨n, rfl⟩ := Int.eq_ofNat_of_zero_le hw.1
    obtain ⟨x, hx, ex⟩ := idx_byte (s := s) (i := n) (by omega)
    obtain ⟨y, hy, ey⟩ := idx_byte (s := s) (i := n + 1) (by omega)
    have hxl := byteAt_lt s n
    have hyl := byteAt_lt s (n + 1)
    rw [wrap64 (n := (n : Int) + 1) (by omega) (by omega), hx, show (n : Int) + 1 = ((n + 1 : Nat) : Int) by omega, hy]
    simp only [Bool.not_true, cond_false, bindO_some, Int.toNat_natCast, cond_true]
    rw [if_neg (by omega), ex, ey, wrapN (by omega), wrapN (by omega)]
    have e8 : min (Int.toNat 8) (IntKind.bits .i64) = 8 := rfl
    rw [e8, wrap64 (n := ((byteAt s n : Nat) : Int) * 2 ^ 8) (by omega) (by omega), wrap64 (by omega) (by omega)]
    congr 1
    all_goals omega
theorem specGet32 (s : Bytes) (a : Int) (h : s.length ≤ 1000000000) : spec_Get32 s a = some (get32 s a) := by
  unfold spec_Get32 get32
  rw [specWithinB s a 4 h (by omega), bindO_some]
  cases hw : withinB s a 4 with
  | false => rfl
  | true =>
    simp only [withinB, decide_eq_true_eq] at hw
    obtain ⟨n, rfl⟩ := Int.eq_ofNat_of_zero_le hw.1
    have w1 : withinB s (n : Int) 2 = true := by simp only [withinB, decide_eq_true_eq]; omega
    have w2 : withinB s ((n : Int) + 2) 2 = true := by simp only [withinB, decide_eq_true_eq]; omega
    have b0 := byteAt_lt s n
    have b1 := byteAt_lt s (n + 1)
    have b2 := byteAt_lt s (n + 2)
    have b3 := byteAt_lt s (n + 3)
    rw [wrap64 (n := (n : Int) + 2) (by omega) (by omega), specGet16 s _ h, specGet16 s _ h]
    simp only [Bool.not_true, cond_false, bindO_some, cond_true, get16, w1, w2, Int.toNat_natCast]
    rw [if_neg (by omega), show ((n : Int) + 2).toNat = n + 2 by omega, show n + 2 + 1 = n + 3 by omega]
    have e8 : min (Int.toNat 16) (IntKind.bits .i64) = 16 := rfl
    rw [e8, wrap64 (n := ((byteAt s n * 256 + byteAt s (n + 1) : Nat) : Int) * 2 ^ 16) (by omega) (by omega), wrap64 (by omega) (by omega)]
    congr 1
    all_goals omega
/-- bits of numbers -/
theorem or64 (a b : Nat) (ha : a < 9223372036854775808) (hb : b < 9223372036854775808) : BitVec.toNat (BitVec.ofInt (IntKind.bits .i64) (a : Int) ||| BitVec.ofInt (IntKind.bits .i64) (b : Int)) = a ||| b := by
  show (BitVec.ofInt 64 (a : Int) ||| BitVec.ofInt 64 (b : Int)).toNat = _
  rw [BitVec.ofInt_natCast, BitVec.ofInt_natCast, BitVec.toNat_or, BitVec.toNat_ofNat, BitVec.toNat_ofNat, Nat.mod_eq_of_lt (by omega), Nat.mod_eq_of_lt (by omega)]
theorem and64 (a b : Nat) (ha : a < 9223372036854775808) (hb : b < 9223372036854775808) : BitVec.toNat (BitVec.ofInt (IntKind.bits .i64) (a : Int) &&& BitVec.ofInt (IntKind.bits .i64) (b : Int)) = a &&& b := by
  show (BitVec.ofInt 64 (a : Int) &&& BitVec.ofInt 64 (b : Int)).toNat = _
  rw [BitVec.ofInt_natCast, BitVec.ofInt_natCast, BitVec.toNat_and, BitVec.toNat_ofNat, BitVec.toNat_ofNat, Nat.mod_eq_of_lt (by omega), Nat.mod_eq_of_lt (by omega)]
theorem xor64 (a b : Nat) (ha : a < 9223372036854775808) (hb : b < 9223372036854775808) : BitVec.toNat (BitVec.ofInt (IntKind.bits .i64) (a : Int) ^^^ BitVec.ofInt (IntKind.bits .i64) (b : Int)) = a ^^^ b := by
  show (BitVec.ofInt 64 (a : Int) ^^^ BitVec.ofInt 64 (b : Int)).toNat = _
  rw [BitVec.ofInt_natCast, BitVec.ofInt_natCast, BitVec.toNat_xor, BitVec.toNat_ofNat, BitVec.toNat_ofNat, Nat.mod_eq_of_lt (by omega), Nat.mod_eq_of_lt (by omega)]
theorem and32 (a b : Nat) (ha : a < 4294967296) (hb : b < 4294967296) : BitVec.toNat (BitVec.ofInt (IntKind.bits .u32) (a : Int) &&& BitVec.ofInt (IntKind.bits .u32) (b : Int)) = a &&& b := by
  show (BitVec.ofInt 32 (a : Int) &&& BitVec.ofInt 32 (b : Int)).toNat = _
  rw [BitVec.ofInt_natCast, BitVec.ofInt_natCast, BitVec.toNat_and, BitVec.toNat_ofNat, BitVec.toNat_ofNat, Nat.mod_eq_of_lt (by omega), Nat.mod_eq_of_lt (by omega)]
theorem xor32 (a b : Nat) (ha : a < 4294967296) (hb : b < 4294967296) : BitVec.toNat (BitVec.ofInt (IntKind.bits .u32) (a : Int) ^^^ BitVec.ofInt (IntKind.bits .u32) (b : Int)) = a ^^^ b := by
  show (BitVec.ofInt 32 (a : Int) ^^^ BitVec.ofInt 32 (b : Int)).toNat = _
  rw [BitVec.ofInt_natCast, BitVec.ofInt_natCast, BitVec.toNat_xor, BitVec.toNat_ofNat, BitVec.toNat_ofNat, Nat.mod_eq_of_lt (by omega), Nat.mod_eq_of_lt (by omega)]
/-- disjoint bits are summed -/
theorem or_add (x k y : Nat) (hy : y < 2 ^ k) (h : 2 ^ k * x + y < 9223372036854775808) : IntKind.wrap .i64 (BitVec.toNat (BitVec.ofInt (IntKind.bits .i64) ((2 ^ k * x : Nat) : Int) ||| BitVec.ofInt (IntKind.bits .i64) (y : Int)) : Int) = ((2 ^ k * x + y : Nat) : Int) := by
  rw [or64 _ _ (by omega) (by omega), ← Nat.two_pow_add_eq_or_of_lt hy]
  exact wrapN h
theorem test_within (s : Bytes) (a n : Int) : (cond (decide (a < 0)) (some true) (some (decide (a > (s.length : Int) - n)))) = some (!withinB s a n) := by
  cases hw : withinB s a n with
  | true =>
    simp only [withinB, decide_eq_true_eq] at hw
    rw [decide_eq_false (show ¬ a < 0 by omega), decide_eq_false (show ¬ a > (s.length : Int) - n by omega)]
    rfl
  | false =>
    simp only [withinB, decide_eq_false_iff_not] at hw
    by_cases h0 : a < 0
    · rw [decide_eq_true h0]; rfl
    · rw [decide_eq_false h0, decide_eq_true (show a > (s.length : Int) - n by omega)]; rfl
theorem implGet16 (s : Bytes) (a : Int) (h : s.length ≤ 1000000000) : impl_Get16 s a = some (get16 s a) := by
  unfold impl_Get16 get16
  rw [wrap64 (n := (s.length : Int) - 2) (by omega) (by omega)]
  rw [test_within, bindO_some]
  cases hw : withinB s a 2 with
  | false => rfl
  | true =>
    simp only [withinB, decide_eq_true_eq] at hw
    obtain ⟨n, rfl⟩ := Int.eq_ofNat_of_zero_le hw.1
    obtain ⟨x, hx, ex⟩ := idx_byte (s := s) (i := n) (by omega)
    obtain ⟨y, hy, ey⟩ := idx_byte (s := s) (i := n + 1) (by omega)
    have hxl := byteAt_lt s n
    have hyl := byteAt_lt s (n + 1)
    rw [wrap64 (n := (n : Int) + 1) (by omega) (by omega), hx, show (n : Int) + 1 = ((n + 1 : Nat) : Int) by omega, hy]
    simp only [Bool.not_true, cond_false, cond_true, bindO_some, Int.toNat_natCast]
    rw [if_neg (by omega), ex, ey, wrapN (n := byteAt s n) (by omega), wrapN (n := byteAt s (n + 1)) (by omega)]
    have e8 : min (Int.toNat 8) (IntKind.bits .i64) = 8 := rfl
    rw [e8, show ((byteAt s n : Nat) : Int) * 2 ^ 8 = ((2 ^ 8 * byteAt s n : Nat) : Int) by omega, wrapN (n := 2 ^ 8 * byteAt s n) (by omega), or_add (byteAt s n) 8 (byteAt s (n + 1)) (by omega) (by omega)]
    congr 1
    all_goals omega
theorem implGet32 (s : Bytes) (a : Int) (h : s.length ≤ 1000000000) : impl_Get32 s a = some (get32 s a) := by
  unfold impl_Get32 get32
  rw [wrap64 (n := (s.length : Int) - 4) (by omega) (by omega)]
  rw [test_within, bindO_some]
  cases hw : withinB s a 4 with
  | false => rfl
  | true =>
    simp only [withinB, decide_eq_true_eq] at hw
    obtain ⟨n, rfl⟩ := Int.eq_ofNat_of_zero_le hw.1
    obtain ⟨x0, h0, e0⟩ := idx_byte (s := s) (i := n) (by omega)
    obtain ⟨x1, h1, e1⟩ := idx_byte (s := s) (i := n + 1) (by omega)
    obtain ⟨x2, h2, e2⟩ := idx_byte (s := s) (i := n + 2) (by omega)
    obtain ⟨x3, h3, e3⟩ := idx_byte (s := s) (i := n + 3) (by omega)
    have b0 := byteAt_lt s n
    have b1 := byteAt_lt s (n + 1)
    have b2 := byteAt_lt s (n + 2)
    have b3 := byteAt_lt s (n + 3)
    rw [wrap64 (n := (n : Int) + 1) (by omega) (by omega), wrap64 (n := (n : Int) + 2) (by omega) (by omega), wrap64 (n := (n : Int) + 3) (by omega) (by omega), h0, show (n : Int) + 1 = ((n + 1 : Nat) : Int) by omega, h1,
      show (n : Int) + 2 = ((n + 2 : Nat) : Int) by omega, h2, show (n : Int) + 3 = ((n + 3 : Nat) : Int) by omega, h3]
    simp only [Bool.not_true, cond_false, cond_true, bindO_some, Int.toNat_natCast]
    rw [if_neg (by omega), if_neg (by omega), if_neg (by omega), e0, e1, e2, e3]
    generalize byteAt s n = p0 at *
    generalize byteAt s (n + 1) = p1 at *
    generalize byteAt s (n + 2) = p2 at *
    generalize byteAt s (n + 3) = p3 at *
    have f24 : min (Int.toNat 24) (IntKind.bits .i64) = 24 := rfl
    have f16 : min (Int.toNat 16) (IntKind.bits .i64) = 16 := rfl
    have f8 : min (Int.toNat 8) (IntKind.bits .i64) = 8 := rfl
    rw [wrapN (n := p0) (by omega), wrapN (n := p1) (by omega), wrapN (n := p2) (by omega), wrapN (n := p3) (by omega), f24, f16, f8,
      show ((p0 : Nat) : Int) * 2 ^ 24 = ((2 ^ 24 * p0 : Nat) : Int) by omega, show ((p1 : Nat) : Int) * 2 ^ 16 = ((2 ^ 16 * p1 : Nat) : Int) by omega, show ((p2 : Nat) : Int) * 2 ^ 8 = ((2 ^ 8 * p2 : Nat) : Int) by omega,
      wrapN (n := 2 ^ 24 * p0) (by omega), wrapN (n := 2 ^ 16 * p1) (by omega), wrapN (n := 2 ^ 8 * p2) (by omega), or_add p0 24 (2 ^ 16 * p1) (by omega) (by omega),
      show 2 ^ 24 * p0 + 2 ^ 16 * p1 = 2 ^ 16 * (2 ^ 8 * p0 + p1) by omega, or_add _ 16 (2 ^ 8 * p2) (by omega) (by omega),
      show 2 ^ 16 * (2 ^ 8 * p0 + p1) + 2 ^ 8 * p2 = 2 ^ 8 * (2 ^ 8 * (2 ^ 8 * p0 + p1) + p2) by omega, or_add _ 8 p3 (by omega) (by omega)]
    congr 1
    all_goals omega

-- the check sequence
def crcBit (c : Nat) : Nat := if c % 2 = 1 then (c / 2) ^^^ 3988292384 else c / 2
def crcB : Nat → Nat → Nat
  | 0, c => c
  | n + 1, c => crcBit (crcB n c)
def crcN (c : Nat) (s : Bytes) : Nat := s.foldl (fun c b => crcB 8 (c ^^^ b.toNat)) c
def crc32 (s : Bytes) : Int := 4294967295 - (crcN 4294967295 s : Int)
theorem xor_lt {a b : Nat} (ha : a < 4294967296) (hb : b < 4294967296) : a ^^^ b < 4294967296 := Nat.xor_lt_two_pow (n := 32) ha hb
theorem crcBit_lt {c : Nat} (h : c < 4294967296) : crcBit c < 4294967296 := by
  unfold crcBit
  split
  · exact xor_lt (by omega) (by omega)
  · omega
theorem crcB_lt {c : Nat} (h : c < 4294967296) : ∀ n, crcB n c < 4294967296
  | 0 => h
  | n + 1 => crcBit_lt (crcB_lt h n)
theorem crcN_lt : ∀ (s : Bytes) {c : Nat}, c < 4294967296 → crcN c s < 4294967296
  | [], _, h => h
  | b :: s, c, h => crcN_lt s (c := crcB 8 (c ^^^ b.toNat)) (crcB_lt (xor_lt h (by have := byte_lt b; omega)) 8)
theorem crc32_in (s : Bytes) : 0 ≤ crc32 s ∧ crc32 s ≤ 4294967295 := by
  have := crcN_lt s (c := 4294967295) (by omega)
  unfold crc32; omega
theorem specBits {R : Type} (k0 : Int → Int → Option R) (k : Int → Option R) (hk : ∀ x y, k0 x y = k x) (v0 : Bytes) (v4 : Int) (c : Nat) (h : c < 4294967296) : iterL (spec_Crc32_T7 k0 v0 v4) fuel ((c : Int), 0) = k (crcB 8 c : Int) := by
  have hfu := fuel_ge
  have key := iter_up (T := spec_Crc32_T7 k0 v0 v4) 8 (fun (_ : Unit) i => ((crcB i c : Int), (i : Int))) (fun _ s nx => nx s) (fun _ => k (crcB 8 c : Int))
    (fun i s nx hi => by
      have hc := crcB_lt h i
      simp only [spec_Crc32_T7]
      have a1 := and64 (crcB i c) 1 (by omega) (by omega)
      have x1 := xor64 (crcB i c / 2) 3988292384 (by omega) (by omega)
      simp only [Int.natCast_one] at a1
      rw [decide_eq_true (by omega), cond_true, a1, Nat.and_one_is_mod,
        show min (Int.toNat 1) (IntKind.bits .i64) = 1 from rfl, show Int.fdiv ((crcB i c : Nat) : Int) (2 ^ 1) = ((crcB i c / 2 : Nat) : Int) from by rw [Int.fdiv_eq_ediv_of_nonneg _ (by omega)]; rfl,
        show (3988292384 : Int) = ((3988292384 : Nat) : Int) from rfl, x1,
        wrapN (n := crcB i c % 2) (by omega), wrapN (n := (crcB i c / 2) ^^^ 3988292384) (by have := xor_lt (a := crcB i c / 2) (b := 3988292384) (by omega) (by omega); omega), if_neg (by omega), if_neg (by omega), wrap64 (n := (i : Int) + 1) (by omega) (by omega)]
      show _ = nx ((crcBit (crcB i c) : Int), ((i + 1 : Nat) : Int))
      unfold crcBit
      by_cases hp : crcB i c % 2 = 1
      · rw [hp, if_pos rfl]; rfl
      · have h0 : crcB i c % 2 = 0 := by omega
        rw [h0, if_neg (by omega)]; rfl)
    (fun s nx => by
      simp only [spec_Crc32_T7]
      rw [decide_eq_false (by omega), cond_false, hk])
    fuel 0 () (by omega) (by omega)
  refine key.trans ?_
  rfl
theorem implBits {R : Type} (k0 : Int → Int → Option R) (k : Int → Option R) (hk : ∀ x y, k0 x y = k x) (v0 : Bytes) (v4 : Int) (c : Nat) (h : c < 4294967296) : iterL (impl_Crc32_T7 k0 v0 v4) fuel ((c : Int), 0) = k (crcB 8 c : Int) := by
  have hfu := fuel_ge
  have key := iter_up (T := impl_Crc32_T7 k0 v0 v4) 8 (fun (_ : Unit) i => ((crcB i c : Int), (i : Int))) (fun _ s nx => nx s) (fun _ => k (crcB 8 c : Int))
    (fun i s nx hi => by
      have hc := crcB_lt h i
      simp only [impl_Crc32_T7]
      have a1 := and32 (crcB i c) 1 (by omega) (by omega)
      have x1 := xor32 (crcB i c / 2) 3988292384 (by omega) (by omega)
      simp only [Int.natCast_one] at a1
      rw [decide_eq_true (by omega), cond_true, a1, Nat.and_one_is_mod,
        show min (Int.toNat 1) (IntKind.bits .u32) = 1 from rfl, show Int.fdiv ((crcB i c : Nat) : Int) (2 ^ 1) = ((crcB i c / 2 : Nat) : Int) from by rw [Int.fdiv_eq_ediv_of_nonneg _ (by omega)]; rfl,
        show (3988292384 : Int) = ((3988292384 : Nat) : Int) from rfl, x1,
        wrapU32 (n := crcB i c % 2) (by omega), wrapU32 (n := (crcB i c / 2) ^^^ 3988292384) (xor_lt (by omega) (by omega)), if_neg (by omega), wrap64 (n := (i : Int) + 1) (by omega) (by omega)]
      show _ = nx ((crcBit (crcB i c) : Int), ((i + 1 : Nat) : Int))
      unfold crcBit
      by_cases hp : crcB i c % 2 = 1
      · rw [hp, if_pos rfl]; rfl
      · have h0 : crcB i c % 2 = 0 := by omega
        rw [h0, if_neg (by omega)]; rfl)
    (fun s nx => by
      simp only [impl_Crc32_T7]
      rw [decide_eq_false (by omega), cond_false, hk])
    fuel 0 () (by omega) (by omega)
  refine key.trans ?_
  rfl
theorem specCrc (s : Bytes) (h : s.length ≤ 1000000000) : spec_Crc32 s = some (crc32 s) := by
  unfold spec_Crc32
  have := run_iter (T := spec_Crc32_T3 (fun (y4 : Int) (_ : Int) => some (IntKind.wrap .i64 (4294967295 - y4))) s) s (fun (c : Nat) i => ((c : Int), (i : Int))) (fun _ c => c < 4294967296) (fun b c => .ok (crcB 8 (c ^^^ b.toNat))) (fun c => some (4294967295 - (c : Int))) (by omega)
    (fun i hi c nx hI => ?hs) (fun i hi c c' hI hg => ?hn) (fun c nx hI => ?hf) 4294967295 (by omega)
  case hs =>
    have hb := byte_lt s[i]
    simp only [spec_Crc32_T3]
    rw [decide_eq_true (by omega), idx_lt hi, cond_true, bindO_some, wrapN (n := s[i].toNat) (by omega), xor64 c s[i].toNat (by omega) (by omega)]
    have hx := xor_lt hI (show s[i].toNat < 4294967296 by omega)
    rw [wrapN (by omega), specBits _ (fun y => nx (y, (i : Int) + 1)) (fun x y => by rw [wrap64 (by omega) (by omega)]) _ _ _ hx]; rfl
  case hn =>
    cases hg
    exact crcB_lt (xor_lt hI (by have := byte_lt s[i]; omega)) 8
  case hf =>
    simp only [spec_Crc32_T3]
    rw [decide_eq_false (by omega), cond_false, wrap64 (by omega) (by omega)]
  rw [runG_ok] at this
  exact this
theorem not_xor (c : Nat) (h : c < 4294967296) : BitVec.toNat (BitVec.ofInt (IntKind.bits .u32) (IntKind.max .u32) ^^^ BitVec.ofInt (IntKind.bits .u32) (c : Int)) = 4294967295 - c := by
  show (BitVec.ofInt 32 4294967295 ^^^ BitVec.ofInt 32 (c : Int)).toNat = _
  rw [show BitVec.ofInt 32 4294967295 = BitVec.allOnes 32 by decide, BitVec.ofInt_natCast, BitVec.allOnes_xor, BitVec.toNat_not, BitVec.toNat_ofNat, Nat.mod_eq_of_lt (show c < 2 ^ 32 by omega)]
theorem implCrc (s : Bytes) (h : s.length ≤ 1000000000) : impl_Crc32 s = some (crc32 s) := by
  unfold impl_Crc32
  have := run_iter (T := impl_Crc32_T3 (fun (y4 : Int) (_ : Int) => some (IntKind.wrap .i64 (IntKind.wrap .u32 (BitVec.toNat (BitVec.ofInt (IntKind.bits .u32) (IntKind.max .u32) ^^^ BitVec.ofInt (IntKind.bits .u32) y4))))) s) s (fun (c : Nat) i => ((c : Int), (i : Int))) (fun _ c => c < 4294967296) (fun b c => .ok (crcB 8 (c ^^^ b.toNat))) (fun c => some (4294967295 - (c : Int))) (by omega)
    (fun i hi c nx hI => ?hs) (fun i hi c c' hI hg => ?hn) (fun c nx hI => ?hf) 4294967295 (by omega)
  case hs =>
    have hb := byte_lt s[i]
    simp only [impl_Crc32_T3]
    rw [decide_eq_true (by omega), idx_lt hi, cond_true, bindO_some, wrapU32 (n := s[i].toNat) (by omega), xor32 c s[i].toNat (by omega) (by omega)]
    have hx := xor_lt hI (show s[i].toNat < 4294967296 by omega)
    rw [wrapU32 hx, implBits _ (fun y => nx (y, (i : Int) + 1)) (fun x y => by rw [wrap64 (by omega) (by omega)]) _ _ _ hx]; rfl
  case hn =>
    cases hg
    exact crcB_lt (xor_lt hI (by have := byte_lt s[i]; omega)) 8
  case hf =>
    simp only [impl_Crc32_T3]
    rw [decide_eq_false (by omega), cond_false, not_xor c hI, wrapU32 (by omega), wrapN (by omega)]
    congr 1
    all_goals omega
  rw [runG_ok] at this
  exact this

end

end Go.Pu
