import Derived.Test.YtclgaiiidllehafGreatPuSteer
/- Memory, mappings, pools, rings, queues, vectors, hosts: the program's and the reference's judgements are one. -/
namespace Go.Pu
open Go.Dn
set_option linter.unusedSimpArgs false
noncomputable section

-- memory
def memoryB (m : List Bytes) : Bool := m.all (fun x => (x.length : Int) == 128) && decide ((m.length : Int) ≤ 64)
theorem specMemory (m : List Bytes) (h : m.length ≤ 1000000000) : spec_MemoryOk m = some (memoryB m) := by
  unfold spec_MemoryOk memoryB
  rw [all_iter' (hit := some false) (fin := some (decide ((m.length : Int) ≤ 64))) (fun x : Bytes => (x.length : Int) == 128) m (by omega) (fun i hi nx => ?hs) (fun nx => ?hf)]
  case hs =>
    simp only [spec_MemoryOk_T2]
    rw [decide_eq_true (by omega), idx_lt hi, wrap64 (by omega) (by omega)]; rfl
  case hf =>
    simp only [spec_MemoryOk_T2]
    rw [decide_eq_false (by omega)]; rfl
  cases m.all (fun x => (x.length : Int) == 128) <;> rfl
theorem implMemory (m : List Bytes) (h : m.length ≤ 1000000000) : impl_MemoryOk m = some (memoryB m) := specMemory m h

-- mappings
def mapZ : Mapping := (0, 0, 0, false)
def mapInB (m : Mapping) : Bool := inB m.1 0 7 && (inB m.2.1 0 1023 && inB m.2.2.1 0 63)
def mapAt (d p : Int) (m : Mapping) : Bool := (m.1 == d) && (m.2.1 == p)
def mapB (l : List Mapping) (i : Nat) : Bool := mapInB (l.getD i mapZ) && (List.range i).all (fun j => !(mapAt (l.getD i mapZ).1 (l.getD i mapZ).2.1 (l.getD j mapZ)))
def mappingsB (l : List Mapping) : Bool := decide ((l.length : Int) ≤ 96) && (List.range l.length).all (mapB l)
theorem specMappings (l : List Mapping) (h : l.length ≤ 1000000000) : spec_MappingsOk l = some (mappingsB l) := by
  unfold spec_MappingsOk mappingsB
  rw [alln_iter (hit := some false) (fin := some true) (mapB l) l.length (by omega) (fun i nx hi => ?hs) (fun nx => ?hf)]
  case hs =>
    simp only [spec_MappingsOk_T4]
    rw [decide_eq_true (by omega), idx_lt hi, wrap64 (by omega) (by omega)]
    simp only [cond_true, bindO_some, l01In_eq, cond_some]
    rw [alln_iter (hit := some false) (fin := nx ((i : Int) + 1)) (fun j => !(mapAt l[i].1 l[i].2.1 (l.getD j mapZ))) i (by omega) (fun j nx hj => ?hs2) (fun nx => ?hf2)]
    case hs2 =>
      have hjl : j < l.length := by omega
      simp only [spec_MappingsOk_T10]
      rw [decide_eq_true (by omega), idx_lt hjl, wrap64 (by omega) (by omega)]
      simp only [cond_true, bindO_some, cond_some, getD_lt hjl, mapAt, cF, Bool.not_not]; rfl
    case hf2 =>
      simp only [spec_MappingsOk_T10]
      rw [decide_eq_false (by omega)]; rfl
    simp only [mapB, mapInB, getD_lt hi, cT]
    cases inB l[i].1 0 7 <;> cases inB l[i].2.1 0 1023 <;> cases inB l[i].2.2.1 0 63 <;> cases (List.range i).all (fun j => !(mapAt l[i].1 l[i].2.1 (l.getD j mapZ))) <;> rfl
  case hf =>
    simp only [spec_MappingsOk_T4]
    rw [decide_eq_false (by omega)]; rfl
  have e : decide ((l.length : Int) > 96) = !decide ((l.length : Int) ≤ 96) := by rw [Bool.eq_iff_iff]; simp
  rw [e]
  cases decide ((l.length : Int) ≤ 96) <;> cases (List.range l.length).all (mapB l) <;> rfl

/-- the first mapping of a page -/
def pageM (l : List Mapping) (d p : Int) : Int := match l.findIdx? (mapAt d p) with | some i => (i : Int) | none => -1
theorem implPage (l : List Mapping) (d p : Int) (h : l.length ≤ 1000000000) : impl_pageMapping l d p = some (pageM l d p) := by
  unfold impl_pageMapping pageM
  rw [find_iter (hit := fun i => some i) (fin := some (-1)) (mapAt d p) l (by omega) (fun i hi nx => ?hs) (fun nx => ?hf)]
  case hs =>
    simp only [impl_pageMapping_T2]
    rw [decide_eq_true (by omega), idx_lt hi, wrap64 (by omega) (by omega)]
    simp only [cond_true, bindO_some, cond_some, cF, mapAt]; rfl
  case hf =>
    simp only [impl_pageMapping_T2]
    rw [decide_eq_false (by omega)]; rfl
  cases l.findIdx? (mapAt d p) <;> rfl
theorem pageM_self (l : List Mapping) (i : Nat) (hi : i < l.length) : (pageM l l[i].1 l[i].2.1 == (i : Int)) = (List.range i).all (fun j => !(mapAt l[i].1 l[i].2.1 (l.getD j mapZ))) := by
  have hself : mapAt l[i].1 l[i].2.1 l[i] = true := by simp [mapAt]
  unfold pageM
  cases hq : l.findIdx? (mapAt l[i].1 l[i].2.1) with
  | none =>
    rw [List.findIdx?_eq_none_iff] at hq
    rw [hq l[i] (List.getElem_mem hi)] at hself; cases hself
  | some k =>
    rw [List.findIdx?_eq_some_iff_getElem] at hq
    obtain ⟨hk, hpk, hlt⟩ := hq
    rw [Bool.eq_iff_iff, List.all_eq_true]
    simp only [List.mem_range, beq_iff_eq, Bool.not_eq_true']
    constructor
    · intro e j hj
      have hjl : j < l.length := by omega
      rw [getD_lt hjl]
      have := hlt j (by omega)
      simpa using this
    · intro hall
      rcases Nat.lt_trichotomy k i with hki | hki | hki
      · have := hall k hki
        rw [getD_lt hk, hpk] at this; cases this
      · omega
      · have := hlt i hki
        rw [hself] at this; simp at this
theorem implMappings (l : List Mapping) (h : l.length ≤ 1000000000) : impl_MappingsOk l = some (mappingsB l) := by
  unfold impl_MappingsOk mappingsB
  rw [alln_iter (hit := some false) (fin := some (decide ((l.length : Int) ≤ 96))) (mapB l) l.length (by omega) (fun i nx hi => ?hs) (fun nx => ?hf)]
  case hs =>
    simp only [impl_MappingsOk_T2]
    rw [decide_eq_true (by omega), idx_lt hi, wrap64 (by omega) (by omega)]
    simp only [cond_true, bindO_some, between_eq, cond_some, implPage _ _ _ h, bne, pageM_self l i hi, mapB, mapInB, getD_lt hi]
    cases inB l[i].1 0 7 <;> cases inB l[i].2.1 0 1023 <;> cases inB l[i].2.2.1 0 63 <;> cases (List.range i).all (fun j => !(mapAt l[i].1 l[i].2.1 (l.getD j mapZ))) <;> rfl
  case hf =>
    simp only [impl_MappingsOk_T2]
    rw [decide_eq_false (by omega)]; rfl
  cases decide ((l.length : Int) ≤ 96) <;> cases (List.range l.length).all (mapB l) <;> rfl

-- pools
def freeB (n : Int) (l : List Int) (i : Nat) : Bool := inB (l.getD i 0) 0 (n - 1) && !((l.take i).contains (l.getD i 0))
def poolB (p : Pool) : Bool := inB p.1 0 130944 && (inB p.2.1 1 512 && (inB p.2.2.1 0 16 && (List.range p.2.2.2.length).all (freeB p.2.2.1 p.2.2.2)))
/-- which numbers below n the list has -/
def seenL (n : Int) (l : List Int) : List Bool := (List.range n.toNat).map fun k : Nat => l.contains (k : Int)
theorem seenL_len (n : Int) (l : List Int) : (seenL n l).length = n.toNat := by simp [seenL]
theorem seenL_get (n : Int) (l : List Int) (k : Nat) (h : k < (seenL n l).length) : (seenL n l)[k] = l.contains (k : Int) := by simp [seenL]
theorem seenL_set (n : Int) (l : List Int) (k : Nat) (h : k < n.toNat) : (seenL n l).set k true = seenL n (l ++ [(k : Int)]) := by
  apply List.ext_getElem
  · simp [seenL]
  · intro j h1 h2
    rw [List.getElem_set]
    split
    · rename_i e; subst e; rw [seenL_get]; simp
    · rename_i e
      rw [seenL_get, seenL_get]
      simp only [List.contains_append]
      have : ([(k : Int)].contains (j : Int)) = false := by simp; omega
      rw [this]; simp
theorem poolLoop {T : (List Bool × Int → Option Bool) → List Bool × Int → Option Bool} (n : Int) (l : List Int) (hl : l.length ≤ 1000000000)
    (hs : ∀ i (hi : i < l.length) (s : List Bool) nx, T nx (s, (i : Int)) = bindO (cond (!(inB l[i] 0 (n - 1))) (some true) (bindO (idx s l[i]) fun x => some x)) fun q =>
      cond q (some false) (bindO (idx s l[i]) fun _ => bindO (idx s l[i]) fun _ => nx (s.set l[i].toNat true, ((i + 1 : Nat) : Int)))) (hf : ∀ s nx, T nx (s, (l.length : Int)) = some true) :
    iterL T fuel (List.replicate n.toNat false, 0) = some ((List.range l.length).all (freeB n l)) := by
  have e0 : (List.replicate n.toNat false, (0 : Int)) = (seenL n (l.take 0), ((0 : Nat) : Int)) := by
    congr 1
    simp only [seenL, List.take_zero, List.contains_nil, List.map_const', List.length_range]
  rw [e0, allx_iter (hit := some false) (fin := some true) (fun i => (seenL n (l.take i), (i : Int))) (freeB n l) l.length (by omega) (fun i nx hi hp => ?hs) (fun _ nx => hf _ nx)]
  case hs =>
    rw [hs i hi]
    unfold freeB
    rw [getD_lt hi]
    by_cases hin : inB l[i] 0 (n - 1) = true
    · have hb := hin
      rw [inB_iff] at hb
      obtain ⟨k, hk⟩ : ∃ k : Nat, l[i] = (k : Int) := ⟨l[i].toNat, by omega⟩
      have hkn : k < (seenL n (l.take i)).length := by rw [seenL_len]; omega
      rw [hin, hk, idx_lt hkn, seenL_get]
      simp only [Bool.not_true, cond_false, bindO_some, Bool.true_and, Bool.not_not, Int.toNat_natCast]
      rw [seenL_set _ _ _ (by rw [seenL_len] at hkn; exact hkn), ← hk, ← List.take_succ_eq_append_getElem hi]
    · have hin' : inB l[i] 0 (n - 1) = false := by simpa using hin
      rw [hin']; rfl
  cases (List.range l.length).all (freeB n l) <;> rfl
theorem specPool (p : Pool) (h : p.2.2.2.length ≤ 1000000000) : spec_PoolOk p = some (poolB p) := by
  unfold spec_PoolOk poolB
  simp only [l01In_eq, bindO_some, cond_some]
  by_cases hn : inB p.2.2.1 0 16 = true
  · have hb := hn
    rw [inB_iff] at hb
    rw [if_pos (by omega), room_le (by omega), poolLoop p.2.2.1 p.2.2.2 h (fun i hi s nx => ?hs) (fun s nx => ?hf)]
    case hs =>
      simp only [spec_PoolOk_T5]
      rw [decide_eq_true (by omega), idx_lt hi, wrap64 (n := (i : Int) + 1) (by omega) (by omega), wrap64 (n := p.2.2.1 - 1) (by omega) (by omega)]
      simp only [cond_true, bindO_some, l01In_eq]; rfl
    case hf =>
      simp only [spec_PoolOk_T5]
      rw [decide_eq_false (by omega)]; rfl
    rw [hn]
    cases inB p.1 0 130944 <;> cases inB p.2.1 1 512 <;> rfl
  · have hn' : inB p.2.2.1 0 16 = false := by simpa using hn
    rw [hn']
    cases inB p.1 0 130944 <;> cases inB p.2.1 1 512 <;> rfl
theorem implPool (p : Pool) (h : p.2.2.2.length ≤ 1000000000) : impl_PoolOk p = some (poolB p) := by
  unfold impl_PoolOk poolB
  simp only [between_eq, bindO_some, cond_some]
  by_cases hn : inB p.2.2.1 0 16 = true
  · have hb := hn
    rw [inB_iff] at hb
    rw [if_pos (by omega), room_le (by omega), poolLoop p.2.2.1 p.2.2.2 h (fun i hi s nx => ?hs) (fun s nx => ?hf)]
    case hs =>
      simp only [impl_PoolOk_T5]
      rw [decide_eq_true (by omega), idx_lt hi, wrap64 (n := (i : Int) + 1) (by omega) (by omega), wrap64 (n := p.2.2.1 - 1) (by omega) (by omega)]
      simp only [cond_true, bindO_some, between_eq]; rfl
    case hf =>
      simp only [impl_PoolOk_T5]
      rw [decide_eq_false (by omega)]; rfl
    rw [hn]
    cases inB p.1 0 130944 <;> cases inB p.2.1 1 512 <;> rfl
  · have hn' : inB p.2.2.1 0 16 = false := by simpa using hn
    rw [hn']
    cases inB p.1 0 130944 <;> cases inB p.2.1 1 512 <;> rfl

-- rings
def ringSizeB (n : Int) : Bool := (n == 2) || ((n == 4) || ((n == 8) || (n == 16)))
theorem l20Size_eq (n : Int) : spec_l20Size n = some (ringSizeB n) := by
  simp only [spec_l20Size, cond_some, bindO_some, ringSizeB, cT]
theorem ringSize_eq (n : Int) : impl_ringSize n = some (ringSizeB n) := l20Size_eq n
theorem ringSizeB_iff {n : Int} : ringSizeB n = true ↔ n = 2 ∨ n = 4 ∨ n = 8 ∨ n = 16 := by simp [ringSizeB]
theorem wrap_emod (x : Int) (k : Nat) (hk : k ≤ 64) : IntKind.wrap .i64 x % (2 ^ k : Int) = x % (2 ^ k : Int) := by
  obtain ⟨c, hc⟩ : ∃ c : Int, (18446744073709551616 : Int) = 2 ^ k * c := ⟨2 ^ (64 - k), by rw [← Int.pow_add, show k + (64 - k) = 64 by omega]; rfl⟩
  have : IntKind.wrap .i64 x = x ∨ ∃ q : Int, IntKind.wrap .i64 x = x + 18446744073709551616 * q := by
    right
    simp only [IntKind.wrap, IntKind.bits, IntKind.signed]
    simp
    have h1 : x = x % 18446744073709551616 + 18446744073709551616 * (x / 18446744073709551616) := by omega
    split
    · exact ⟨-(x / 18446744073709551616) - 1, by omega⟩
    · exact ⟨-(x / 18446744073709551616), by omega⟩
  rcases this with h | ⟨q, h⟩
  · rw [h]
  · rw [h, hc, Int.mul_assoc, Int.add_mul_emod_self_left]
theorem and_mask (x : Int) (k : Nat) (hk : k < 63) : ((BitVec.ofInt (IntKind.bits .i64) x &&& BitVec.ofInt (IntKind.bits .i64) (2 ^ k - 1)).toNat : Int) = x % 2 ^ k := by
  have h2 : (2 : Int) ^ k ≤ 2 ^ 62 := by
    have : (2 : Nat) ^ k ≤ 2 ^ 62 := Nat.pow_le_pow_right (by omega) (by omega)
    exact_mod_cast this
  have h0 : (1 : Int) ≤ 2 ^ k := by
    have : 1 ≤ (2 : Nat) ^ k := Nat.one_le_two_pow
    exact_mod_cast this
  have hm : (BitVec.ofInt (IntKind.bits .i64) (2 ^ k - 1)).toNat = 2 ^ k - 1 := by
    show (BitVec.ofInt 64 (2 ^ k - 1)).toNat = 2 ^ k - 1
    rw [BitVec.toNat_ofInt, Int.emod_eq_of_lt (by omega) (by omega)]
    have : ((2 : Int) ^ k - 1) = ((2 ^ k - 1 : Nat) : Int) := by
      have : 1 ≤ (2 : Nat) ^ k := Nat.one_le_two_pow
      push_cast [this]; rfl
    rw [this]; rfl
  rw [BitVec.toNat_and, hm, Nat.and_two_pow_sub_one_eq_mod]
  show (((BitVec.ofInt 64 x).toNat % 2 ^ k : Nat) : Int) = x % 2 ^ k
  rw [BitVec.toNat_ofInt]
  have hx : 0 ≤ x % 18446744073709551616 := by omega
  have e : (((x % 18446744073709551616).toNat % 2 ^ k : Nat) : Int) = (x % 18446744073709551616) % 2 ^ k := by
    push_cast
    rw [Int.toNat_of_nonneg hx]
  refine e.trans ?_
  exact Int.emod_emod_of_dvd x ⟨2 ^ (64 - k), by rw [← Int.pow_add, show k + (64 - k) = 64 by omega]; rfl⟩

theorem modulo_eq (x n : Int) (h0 : 0 < n) (h1 : n ≤ 4611686018427387904) : impl_modulo x n = some (x % n) := by
  unfold impl_modulo
  have := Int.emod_nonneg x (show n ≠ 0 by omega)
  have := Int.emod_lt_of_pos x h0
  have hn : (n.natAbs : Int) = n := by omega
  rw [if_neg (by omega), Int.tmod_eq_emod]
  split
  · rw [decide_eq_false (by omega)]; simp
  · rw [decide_eq_true (by omega), wrap64 (by omega) (by omega)]; simp only [cond_true, hn]; congr 1; omega
def ringUsed (r : (Int × Int × Int × Int)) : Int := if ringSizeB r.2.1 then (r.2.2.2 - r.2.2.1) % (2 * r.2.1) else 0
theorem specUsed (r : (Int × Int × Int × Int)) : spec_RingUsed r = some (ringUsed r) := by
  unfold spec_RingUsed ringUsed
  rw [l20Size_eq, bindO_some]
  cases hs : ringSizeB r.2.1 with
  | false => rfl
  | true =>
    simp only [Bool.not_true, cond_false, if_true]
    congr 1
    rcases ringSizeB_iff.1 hs with h | h | h | h <;> rw [h]
    · have e : IntKind.wrap .i64 (IntKind.wrap .i64 (2 * 2) - 1) = 2 ^ 2 - 1 := by decide
      rw [e, and_mask _ 2 (by omega), wrap_emod _ 2 (by omega), wrap64 (by omega) (by omega)]; rfl
    · have e : IntKind.wrap .i64 (IntKind.wrap .i64 (2 * 4) - 1) = 2 ^ 3 - 1 := by decide
      rw [e, and_mask _ 3 (by omega), wrap_emod _ 3 (by omega), wrap64 (by omega) (by omega)]; rfl
    · have e : IntKind.wrap .i64 (IntKind.wrap .i64 (2 * 8) - 1) = 2 ^ 4 - 1 := by decide
      rw [e, and_mask _ 4 (by omega), wrap_emod _ 4 (by omega), wrap64 (by omega) (by omega)]; rfl
    · have e : IntKind.wrap .i64 (IntKind.wrap .i64 (2 * 16) - 1) = 2 ^ 5 - 1 := by decide
      rw [e, and_mask _ 5 (by omega), wrap_emod _ 5 (by omega), wrap64 (by omega) (by omega)]; rfl
theorem implUsed (r : (Int × Int × Int × Int)) : impl_RingUsed r = some (ringUsed r) := by
  unfold impl_RingUsed ringUsed
  rw [ringSize_eq, bindO_some]
  cases hs : ringSizeB r.2.1 with
  | false => rfl
  | true =>
    simp only [Bool.not_true, cond_false, if_true]
    have hb := ringSizeB_iff.1 hs
    rw [wrap64 (n := 2 * r.2.1) (by omega) (by omega)]
    have a1 := Int.emod_nonneg r.2.2.2 (show 2 * r.2.1 ≠ 0 by omega)
    have a2 := Int.emod_lt_of_pos r.2.2.2 (show 0 < 2 * r.2.1 by omega)
    have a3 := Int.emod_nonneg r.2.2.1 (show 2 * r.2.1 ≠ 0 by omega)
    have a4 := Int.emod_lt_of_pos r.2.2.1 (show 0 < 2 * r.2.1 by omega)
    simp only [modulo_eq _ (2 * r.2.1) (show 0 < 2 * r.2.1 by omega) (by omega), bindO_some]
    rw [wrap64 (by omega) (by omega), ← Int.sub_emod]
def ringB (r : (Int × Int × Int × Int)) : Bool := inB r.1 0 130944 && (ringSizeB r.2.1 && (inB r.2.2.1 0 (2 * r.2.1 - 1) && (inB r.2.2.2 0 (2 * r.2.1 - 1) && decide (ringUsed r ≤ r.2.1))))
theorem size_wrap {n : Int} (h : ringSizeB n = true) : IntKind.wrap .i64 (IntKind.wrap .i64 (2 * n) - 1) = 2 * n - 1 := by
  have := ringSizeB_iff.1 h
  rw [wrap64 (n := 2 * n) (by omega) (by omega), wrap64 (by omega) (by omega)]
theorem specRing (r : (Int × Int × Int × Int)) : spec_RingOk r = some (ringB r) := by
  unfold spec_RingOk ringB
  simp only [l01In_eq, l20Size_eq, specUsed, bindO_some, cond_some, cF]
  cases hs : ringSizeB r.2.1 with
  | false => rfl
  | true => rw [size_wrap hs]
theorem implRing (r : (Int × Int × Int × Int)) : impl_RingOk r = some (ringB r) := by
  unfold impl_RingOk ringB
  simp only [between_eq, ringSize_eq, implUsed, bindO_some, cond_some, cF]
  cases hs : ringSizeB r.2.1 with
  | false => rfl
  | true => rw [size_wrap hs]

-- buffers given back
theorem l21Copy_eq (p : Pool) (h : p.2.2.2.length ≤ 1000000000) : spec_l21Copy p = some p := by
  unfold spec_l21Copy
  rw [room_le (by simp; omega)]; rfl
theorem copyInts_eq (l : List Int) (h : l.length ≤ 1000000000) : impl_copyInts l = some l := by
  unfold impl_copyInts
  rw [room_le (by simp; omega)]; rfl
theorem copyPool_eq (p : Pool) (h : p.2.2.2.length ≤ 1000000000) : impl_copyPool p = some p := by
  unfold impl_copyPool
  rw [copyInts_eq _ h]; rfl
def poolAdd (p : Pool) (l : List Int) : Pool := (p.1, p.2.1, p.2.2.1, p.2.2.2 ++ l)
def giveB (p : Pool) (l : List Int) : Bool := poolB p && poolB (poolAdd p l)
def give (p : Pool) (l : List Int) : Pool × Bool := bif giveB p l then (poolAdd p l, true) else (p, false)
theorem specGive (p : Pool) (l : List Int) (h : p.2.2.2.length + l.length ≤ 1000000000) : spec_GiveBuffers p l = some (give p l) := by
  unfold spec_GiveBuffers
  rw [l21Copy_eq p (by omega), bindO_some, room_le (by omega), specPool p (by omega)]
  rw [specPool (p.1, p.2.1, p.2.2.1, p.2.2.2 ++ l) (by simp; omega)]
  simp only [bindO_some, cond_some, give, giveB]
  show _ = some (bif poolB p && poolB (p.1, p.2.1, p.2.2.1, p.2.2.2 ++ l) then _ else _)
  cases poolB p <;> cases poolB (p.1, p.2.1, p.2.2.1, p.2.2.2 ++ l) <;> rfl
theorem implGive (p : Pool) (l : List Int) (h : p.2.2.2.length + l.length ≤ 1000000000) : impl_GiveBuffers p l = some (give p l) := by
  unfold impl_GiveBuffers
  rw [copyPool_eq p (by omega), bindO_some, room_le (by omega), implPool p (by omega)]
  rw [implPool (p.1, p.2.1, p.2.2.1, p.2.2.2 ++ l) (by simp; omega)]
  simp only [bindO_some, cond_some, give, giveB]
  show _ = some (bif poolB p && poolB (p.1, p.2.1, p.2.2.1, p.2.2.2 ++ l) then _ else _)
  cases poolB p <;> cases poolB (p.1, p.2.1, p.2.2.1, p.2.2.2 ++ l) <;> rfl
theorem give_2 (p : Pool) (l : List Int) : (give p l).2 = giveB p l := by unfold give; cases giveB p l <;> rfl

-- the sender's queue
def sentInB (n : Int) (s : Sent) : Bool := inB s.2.1 1 n && inB s.1 0 65535
def buffersOf (l : List Sent) : List Int := l.flatMap (·.2.2)
def countOf (l : List Sent) : Int := (l.map (·.2.1)).sum
def txB (t : TxQueue) : Bool := ringB t.1 && (poolB t.2.1 && (inB t.2.2.2 0 65535 && (t.2.2.1.all (sentInB t.1.2.1) && (giveB t.2.1 (buffersOf t.2.2.1) && decide (countOf t.2.2.1 ≤ t.1.2.1)))))
theorem count_nonneg (n : Int) : ∀ l : List Sent, l.all (sentInB n) = true → 0 ≤ countOf l
  | [], _ => by simp [countOf]
  | x :: l, h => by
    simp only [List.all_cons, Bool.and_eq_true] at h
    have := count_nonneg n l h.2
    have hx := h.1
    unfold sentInB at hx
    simp only [Bool.and_eq_true, inB_iff] at hx
    simp only [countOf, List.map_cons, List.sum_cons] at this ⊢
    omega
theorem specSents (p : Pool) (n : Int) (hn : 0 ≤ n ∧ n ≤ 16) (fin : Int × List Int → Option Bool) (hfin : ∀ s : Int × List Int, p.2.2.2.length + s.2.length ≤ 1000000000 → fin s = some (giveB p s.2 && decide (s.1 ≤ n))) :
    ∀ (l : List Sent) (sum : Int) (acc : List Int), 0 ≤ sum → sum + 16 * l.length ≤ 100000000000 → p.2.2.2.length + (acc.length + (buffersOf l).length) ≤ 1000000000 →
    foldK (fun x (s : Int × List Int) k => cond (!(sentInB n x)) (some false) (room (s.2.length + x.2.2.length) (k (IntKind.wrap .i64 (s.1 + x.2.1), s.2 ++ x.2.2)))) fin l (sum, acc)
      = some (l.all (sentInB n) && (giveB p (acc ++ buffersOf l) && decide (sum + countOf l ≤ n)))
  | [], sum, acc, h0, h1, h2 => by
    rw [foldK, hfin _ (by simp [buffersOf] at h2; exact h2)]
    simp [buffersOf, countOf]
  | x :: l, sum, acc, h0, h1, h2 => by
    have hb : buffersOf (x :: l) = x.2.2 ++ buffersOf l := by simp [buffersOf]
    rw [hb, List.length_append] at h2
    rw [foldK, List.all_cons]
    cases hx : sentInB n x with
    | false => rfl
    | true =>
      have hx' := hx
      unfold sentInB at hx'
      simp only [Bool.and_eq_true, inB_iff] at hx'
      simp only [List.length_cons, Int.natCast_add, Int.natCast_one] at h1
      simp only [Bool.not_true, cond_false, Bool.true_and]
      rw [room_le (by omega), wrap64 (by omega) (by omega), specSents p n hn fin hfin l _ _ (by omega) (by omega) (by rw [List.length_append]; omega)]
      rw [hb, List.append_assoc]
      have e : sum + x.2.1 + countOf l = sum + countOf (x :: l) := by simp only [countOf, List.map_cons, List.sum_cons]; omega
      rw [e]
theorem implSents (p : Pool) (n : Int) (hn : n ≤ 16) (fin : Int × List Int → Option Bool) (hfin : ∀ s : Int × List Int, p.2.2.2.length + s.2.length ≤ 1000000000 → fin s = some (giveB p s.2)) :
    ∀ (l : List Sent) (left : Int) (acc : List Int), 0 ≤ left → left ≤ n → p.2.2.2.length + (acc.length + (buffersOf l).length) ≤ 1000000000 →
    foldK (fun x (s : Int × List Int) k => cond (decide (x.2.1 < 1) || (decide (x.2.1 > s.1) || !(inB x.1 0 65535))) (some false) (room (s.2.length + x.2.2.length) (k (IntKind.wrap .i64 (s.1 - x.2.1), s.2 ++ x.2.2)))) fin l (left, acc)
      = some (l.all (sentInB n) && (giveB p (acc ++ buffersOf l) && decide (countOf l ≤ left)))
  | [], left, acc, h0, h1, h2 => by
    rw [foldK, hfin _ (by simp [buffersOf] at h2; exact h2)]
    simp [buffersOf, countOf, h0]
  | x :: l, left, acc, h0, h1, h2 => by
    have hb : buffersOf (x :: l) = x.2.2 ++ buffersOf l := by simp [buffersOf]
    have hc : countOf (x :: l) = x.2.1 + countOf l := by simp only [countOf, List.map_cons, List.sum_cons]
    rw [hb, List.length_append] at h2
    rw [foldK, List.all_cons, hb, hc]
    by_cases c1 : x.2.1 < 1
    · have e : sentInB n x = false := by unfold sentInB inB; rw [decide_eq_false (show ¬ 1 ≤ x.2.1 by omega)]; rfl
      rw [e, decide_eq_true c1]; rfl
    · rw [decide_eq_false c1]
      by_cases c2 : x.2.1 > left
      · rw [decide_eq_true c2]
        simp only [Bool.or_true, Bool.false_or, Bool.true_or, cond_true]
        cases ha : l.all (sentInB n) with
        | false => simp
        | true =>
          have := count_nonneg n l ha
          rw [decide_eq_false (show ¬ x.2.1 + countOf l ≤ left by omega)]; simp
      · rw [decide_eq_false c2]
        have e : sentInB n x = inB x.1 0 65535 := by
          have : inB x.2.1 1 n = true := inB_iff.2 ⟨by omega, by omega⟩
          unfold sentInB; rw [this]; rfl
        rw [e]
        cases inB x.1 0 65535 with
        | false => rfl
        | true =>
          simp only [Bool.false_or, Bool.not_true, cond_false, Bool.true_and]
          rw [room_le (by omega), wrap64 (by omega) (by omega), implSents p n hn fin hfin l _ _ (by omega) (by omega) (by rw [List.length_append]; omega), List.append_assoc]
          have e : decide (countOf l ≤ left - x.2.1) = decide (x.2.1 + countOf l ≤ left) := by rw [Bool.eq_iff_iff]; simp; omega
          rw [e]
theorem specTx (t : TxQueue) (h1 : t.2.2.1.length ≤ 1000000000) (h2 : t.2.1.2.2.2.length + (buffersOf t.2.2.1).length ≤ 1000000000) : spec_TxOk t = some (txB t) := by
  unfold spec_TxOk txB
  simp only [specRing, specPool _ (show t.2.1.2.2.2.length ≤ 1000000000 by omega), l01In_eq, bindO_some, cond_some]
  cases hr : ringB t.1 with
  | false => rfl
  | true =>
    have hn : 0 ≤ t.1.2.1 ∧ t.1.2.1 ≤ 16 := by
      unfold ringB at hr
      simp only [Bool.and_eq_true] at hr
      have := ringSizeB_iff.1 hr.2.1
      omega
    have hfu := fuel_ge
    have key := iter_list (R := Bool) (T := spec_TxOk_T6 (fun (y9 : Int) (y10 : List Int) (_ : Int) => bindO (spec_GiveBuffers t.2.1 y10) fun r12 => some (bif r12.2 then decide (y9 ≤ t.1.2.1) else false))
        (fun (y14 : Bool) (_ : Int) (_ : List Int) (_ : Int) => some y14) false t) t.2.2.1 (fun (s : Int × List Int) i => (s.1, s.2, (i : Int)))
      (fun x (s : Int × List Int) k => cond (!(sentInB t.1.2.1 x)) (some false) (room (s.2.length + x.2.2.length) (k (IntKind.wrap .i64 (s.1 + x.2.1), s.2 ++ x.2.2))))
      (fun s => bindO (spec_GiveBuffers t.2.1 s.2) fun r12 => some (r12.2 && decide (s.1 ≤ t.1.2.1)))
      (fun i hi s nx => by
        simp only [spec_TxOk_T6]
        rw [decide_eq_true (by omega), idx_lt hi, wrap64 (n := (i : Int) + 1) (by omega) (by omega)]
        simp only [cond_true, bindO_some, l01In_eq, cond_some, sentInB]
        cases inB t.2.2.1[i].2.1 1 t.1.2.1 <;> cases inB t.2.2.1[i].1 0 65535 <;> rfl)
      (fun s nx => by
        simp only [spec_TxOk_T6]
        rw [decide_eq_false (by omega)]
        simp only [cond_false, cond_some, bindO_some, cF])
      fuel 0 (0, ([] : List Int)) (by omega) (by omega)
    rw [List.drop_zero, specSents t.2.1 t.1.2.1 hn _ (fun s hs => by rw [specGive _ _ hs, bindO_some, give_2]) _ _ _ (by omega) (by omega) (by simpa using h2)] at key
    cases poolB t.2.1 with
    | false => rfl
    | true =>
      cases inB t.2.2.2 0 65535 with
      | false => rfl
      | true =>
        refine key.trans ?_
        simp
theorem implTx (t : TxQueue) (h1 : t.2.2.1.length ≤ 1000000000) (h2 : t.2.1.2.2.2.length + (buffersOf t.2.2.1).length ≤ 1000000000) : impl_TxOk t = some (txB t) := by
  unfold impl_TxOk txB
  simp only [implRing, implPool _ (show t.2.1.2.2.2.length ≤ 1000000000 by omega), between_eq, bindO_some, cond_some]
  cases hr : ringB t.1 with
  | false => rfl
  | true =>
    have hn : 0 ≤ t.1.2.1 ∧ t.1.2.1 ≤ 16 := by
      unfold ringB at hr
      simp only [Bool.and_eq_true] at hr
      have := ringSizeB_iff.1 hr.2.1
      omega
    have hfu := fuel_ge
    have key := iter_list (R := Bool) (T := impl_TxOk_T6 (fun (_ : Int) (y9 : List Int) (_ : Int) => bindO (impl_GiveBuffers t.2.1 y9) fun r11 => some r11.2)
        (fun (y12 : Bool) (_ : Int) (_ : List Int) (_ : Int) => some y12) false t.2.2.1 ((List.length t.2.2.1 : Int)) t) t.2.2.1 (fun (s : Int × List Int) i => (s.1, s.2, (i : Int)))
      (fun x (s : Int × List Int) k => cond (decide (x.2.1 < 1) || (decide (x.2.1 > s.1) || !(inB x.1 0 65535))) (some false) (room (s.2.length + x.2.2.length) (k (IntKind.wrap .i64 (s.1 - x.2.1), s.2 ++ x.2.2))))
      (fun s => bindO (impl_GiveBuffers t.2.1 s.2) fun r12 => some r12.2)
      (fun i hi s nx => by
        simp only [impl_TxOk_T6]
        rw [decide_eq_true (by omega), idx_lt hi, wrap64 (n := (i : Int) + 1) (by omega) (by omega)]
        simp only [cond_true, bindO_some, between_eq, cond_some, cT]
        rfl)
      (fun s nx => by
        simp only [impl_TxOk_T6]
        rw [decide_eq_false (by omega)]; rfl)
      fuel 0 (t.1.2.1, ([] : List Int)) (by omega) (by omega)
    rw [List.drop_zero, implSents t.2.1 t.1.2.1 (by omega) _ (fun s hs => by rw [implGive _ _ hs, bindO_some, give_2]) _ _ _ (by omega) (by omega) (by simpa using h2)] at key
    cases poolB t.2.1 with
    | false => rfl
    | true =>
      cases inB t.2.2.2 0 65535 with
      | false => rfl
      | true =>
        refine key.trans ?_
        simp

end

end Go.Pu
