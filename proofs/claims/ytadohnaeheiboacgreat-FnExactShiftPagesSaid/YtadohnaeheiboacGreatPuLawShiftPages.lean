import Derived.Test.YtadohnaeheiboacGreatPuCopy
import Derived.Test.YtadohnaeheiboacGreatPuMarks
/- FnExactShiftPages, the plain law. -/
namespace Go.Pu
open Go.Dn
set_option linter.unusedSimpArgs false
set_option linter.unusedVariables false
noncomputable section

def pgs (m : List Bytes) (s : Nat) : Nat → List Bytes
  | 0 => m
  | i + 1 => (pgs m s i).set ((i + s) % m.length) (m.getD i [])
theorem pgs_len (m : List Bytes) (s : Nat) : ∀ i, (pgs m s i).length = m.length
  | 0 => rfl
  | i + 1 => by rw [pgs, List.length_set, pgs_len m s i]
def shiftM (n s : Int) (m : Mapping) : Mapping := (m.1, m.2.1, Int.tmod (IntKind.wrap .i64 (m.2.2.1 + s)) n, m.2.2.2)
def mapsTo (n s : Int) (l : List Mapping) (i : Nat) : List Mapping := (l.take i).map (shiftM n s) ++ l.drop i
theorem mapsTo_len (n s : Int) (l : List Mapping) (i : Nat) : (mapsTo n s l i).length = l.length := by
  simp only [mapsTo, List.length_append, List.length_map, List.length_take, List.length_drop]; omega
theorem mapsTo_get (n s : Int) (l : List Mapping) (i : Nat) (hi : i < l.length) : idx (mapsTo n s l i) (i : Int) = some l[i] := by
  rw [idx_nat, mapsTo, List.getElem?_append_right (by simp; omega), List.getElem?_drop]
  simp only [List.length_map, List.length_take]
  rw [show i + (i - min i l.length) = i by omega, List.getElem?_eq_getElem hi]
theorem mapsTo_set (n s : Int) (l : List Mapping) (i : Nat) (hi : i < l.length) : (mapsTo n s l i).set i (shiftM n s l[i]) = mapsTo n s l (i + 1) := by
  have hl : ((l.take i).map (shiftM n s)).length = i := by simp; omega
  rw [mapsTo, List.set_append_right _ _ (by omega), hl, Nat.sub_self, List.drop_eq_getElem_cons hi, List.set_cons_zero, mapsTo, List.take_succ_eq_append_getElem hi, List.map_append, List.append_assoc]
  rfl
def shiftOk (h : Host) (s : Int) : Bool := hostB h && (!((h.1.length : Int) == 0) && inB s 0 64)
def physB (h : Host) : Bool := (List.range h.2.1.length).all (fun i => !(decide ((h.2.1.getD i mapZ).2.2.1 ≥ (h.1.length : Int))))
def shiftR (h : Host) (s : Int) : Host × Bool := bif shiftOk h s && physB h then ((pgs h.1 s.toNat h.1.length, mapsTo (h.1.length : Int) s h.2.1 h.2.1.length, h.2.2), true) else (h, false)
theorem at_eq {n i : Nat} {s : Int} (hn : n ≤ 64) (hi : i < n) (h0 : 0 ≤ s) (h1 : s ≤ 64) : Int.tmod (IntKind.wrap .i64 ((i : Int) + s)) (n : Int) = (((i + s.toNat) % n : Nat) : Int) := by
  rw [wrap64 (by omega) (by omega), show (i : Int) + s = ((i + s.toNat : Nat) : Int) by omega]
  exact Int.ofNat_tmod _ _
theorem mem64 {h : Host} (b : hostB h = true) : h.1.length ≤ 64 := by
  simp only [hostB, memoryB, Bool.and_eq_true, decide_eq_true_eq] at b
  omega
theorem specShift (h : Host) (s : Int) (z : LenB 1000000000 THost h) (k : HostSz h) : spec_ShiftPages h s = some (shiftR h s) := by
  have hm : h.2.1.length ≤ 1000000000 := z.2.1.1
  unfold spec_ShiftPages
  generalize ((([] : List Bytes), ([] : List Mapping), ((0, 0, 0, 0), (0, 0, 0, ([] : List Int)), ([] : List Sent), 0), ([] : List RxQueue), ([] : List Pool), ([] : List Vector), ([] : List Bool), (0, false, ([] : List Int)), (([] : List Rule), ([] : List Slot), ([] : Bytes), ([] : List Int)), ([] : List Stream), false, ([] : List Bytes), ([] : List Int), ([] : List Int), 0, 0, 0, 0, 0) : Host) = b4
  simp only [specCopyHost h z, specHost h k, l01In_eq, bindO_some, shiftR]
  rw [show (bindO (cond (!hostB h) (some true) (cond ((h.1.length : Int) == 0) (some true) (some (!inB s 0 64)))) fun q4 => cond q4 (some (h, false)) _) = cond (!(shiftOk h s)) (some (h, false)) _ from by
    unfold shiftOk; cases hostB h <;> cases ((h.1.length : Int) == 0) <;> cases inB s 0 64 <;> rfl]
  cases hok : shiftOk h s with
  | false => rfl
  | true =>
    simp only [shiftOk, Bool.and_eq_true, inB_iff, Bool.not_eq_true', beq_eq_false_iff_ne] at hok
    obtain ⟨hb, hne, hs0, hs1⟩ := hok
    have hn := mem64 hb
    simp only [Bool.not_true, cond_false, Bool.true_and]
    refine walk_iter (fun i => ((i : Int), pgs h.1 s.toNat i, h.2)) h.1.length (by omega) (fun i nx hi => ?_) (fun nx => ?_)
    · have hj : (i + s.toNat) % h.1.length < (pgs h.1 s.toNat i).length := by rw [pgs_len]; exact Nat.mod_lt _ (by omega)
      simp only [spec_ShiftPages_T6]
      rw [decide_eq_true (by omega), if_neg hne, idx_lt hi, at_eq hn hi hs0 hs1, idx_lt hj, wrap64 (by omega) (by omega)]
      simp only [cond_true, bindO_some, Int.toNat_natCast, pgs, getD_lt hi]; rfl
    · simp only [spec_ShiftPages_T6]
      rw [decide_eq_false (by omega)]
      simp only [cond_false]
      have key := allx_iter (T := spec_ShiftPages_T10 (fun (_ : Int) (y16 : Host) => some (y16, true)) (fun (y17 : Bool) (_ : Int) (y19 : Host) (_ : Host) => some (y19, y17)) s (h.1.length : Int) h b4)
        (hit := some (h, false)) (fin := some ((pgs h.1 s.toNat h.1.length, mapsTo (h.1.length : Int) s h.2.1 h.2.1.length, h.2.2), true))
        (fun i => ((i : Int), pgs h.1 s.toNat h.1.length, mapsTo (h.1.length : Int) s h.2.1 i, h.2.2)) (fun i => !(decide ((h.2.1.getD i mapZ).2.2.1 ≥ (h.1.length : Int)))) h.2.1.length (by omega) (fun i nx hi hp => ?hs) (fun hp nx => ?hf)
      case hs =>
        simp only [spec_ShiftPages_T10]
        rw [decide_eq_true (by rw [mapsTo_len]; omega), idx_lt hi, mapsTo_get _ _ _ i hi, wrap64 (n := (i : Int) + 1) (by omega) (by omega)]
        simp only [cond_true, bindO_some, specCopyHost h z, if_neg hne, getD_lt hi, Bool.not_not, Int.toNat_natCast]
        have := mapsTo_set (h.1.length : Int) s h.2.1 i hi
        unfold shiftM at this
        rw [this]; rfl
      case hf =>
        simp only [spec_ShiftPages_T10]
        rw [decide_eq_false (by rw [mapsTo_len]; omega)]; rfl
      refine Eq.trans (Eq.trans (congrArg (fun q => iterL _ fuel ((0 : Int), pgs h.1 s.toNat h.1.length, q, h.2.2)) ?_) key) ?_
      · simp [mapsTo]
      · unfold physB; cases (List.range h.2.1.length).all (fun i => !(decide ((h.2.1.getD i mapZ).2.2.1 ≥ (h.1.length : Int)))) <;> rfl
theorem implShift (h : Host) (s : Int) (z : LenB 1000000000 THost h) (k : HostSz h) : impl_ShiftPages h s = some (shiftR h s) := by
  have hm : h.2.1.length ≤ 1000000000 := z.2.1.1
  unfold impl_ShiftPages
  generalize ((([] : List Bytes), ([] : List Mapping), ((0, 0, 0, 0), (0, 0, 0, ([] : List Int)), ([] : List Sent), 0), ([] : List RxQueue), ([] : List Pool), ([] : List Vector), ([] : List Bool), (0, false, ([] : List Int)), (([] : List Rule), ([] : List Slot), ([] : Bytes), ([] : List Int)), ([] : List Stream), false, ([] : List Bytes), ([] : List Int), ([] : List Int), 0, 0, 0, 0, 0) : Host) = b4
  simp only [implCopyHost h z, implHost h k, between_eq, bindO_some, shiftR]
  rw [show (bindO (cond (!hostB h) (some true) (cond ((h.1.length : Int) == 0) (some true) (some (!inB s 0 64)))) fun q4 => cond q4 (some (h, false)) _) = cond (!(shiftOk h s)) (some (h, false)) _ from by
    unfold shiftOk; cases hostB h <;> cases ((h.1.length : Int) == 0) <;> cases inB s 0 64 <;> rfl]
  cases hok : shiftOk h s with
  | false => rfl
  | true =>
    simp only [shiftOk, Bool.and_eq_true, inB_iff, Bool.not_eq_true', beq_eq_false_iff_ne] at hok
    obtain ⟨hb, hne, hs0, hs1⟩ := hok
    have hn := mem64 hb
    simp only [Bool.not_true, cond_false, Bool.true_and]
    have key := allx_iter (T := impl_ShiftPages_T6 (fun (_ : Int) (y10 : Host) => iterL (impl_ShiftPages_T13 (fun (_ : Int) (y15 : Host) => some (y15, true)) s (h.1.length : Int) h.1 (h.1.length : Int) b4) fuel (0, y10)) (fun (y16 : Bool) (_ : Int) (y18 : Host) (_ : Host) => some (y18, y16)) s false (h.1.length : Int) h.2.1 (h.2.1.length : Int) h b4)
      (hit := some (h, false)) (fin := some ((pgs h.1 s.toNat h.1.length, mapsTo (h.1.length : Int) s h.2.1 h.2.1.length, h.2.2), true))
      (fun i => ((i : Int), h.1, mapsTo (h.1.length : Int) s h.2.1 i, h.2.2)) (fun i => !(decide ((h.2.1.getD i mapZ).2.2.1 ≥ (h.1.length : Int)))) h.2.1.length (by omega) (fun i nx hi hp => ?hs) (fun hp nx => ?hf)
    case hs =>
      simp only [impl_ShiftPages_T6]
      rw [decide_eq_true (by omega), idx_lt hi, mapsTo_get _ _ _ i hi, wrap64 (n := (i : Int) + 1) (by omega) (by omega)]
      simp only [cond_true, bindO_some, implCopyHost h z, if_neg hne, getD_lt hi, Bool.not_not, Int.toNat_natCast]
      have := mapsTo_set (h.1.length : Int) s h.2.1 i hi
      unfold shiftM at this
      rw [this]; rfl
    case hf =>
      simp only [impl_ShiftPages_T6]
      rw [decide_eq_false (by omega)]
      simp only [cond_false]
      refine walk_iter (fun i => ((i : Int), pgs h.1 s.toNat i, mapsTo (h.1.length : Int) s h.2.1 h.2.1.length, h.2.2)) h.1.length (by omega) (fun i nx hi => ?_) (fun nx => ?_)
      · have hj : (i + s.toNat) % h.1.length < (pgs h.1 s.toNat i).length := by rw [pgs_len]; exact Nat.mod_lt _ (by omega)
        simp only [impl_ShiftPages_T13]
        rw [decide_eq_true (by omega), idx_lt hi, cond_true, bindO_some, if_neg hne, at_eq hn hi hs0 hs1, idx_lt hj, wrap64 (by omega) (by omega)]
        simp only [bindO_some, Int.toNat_natCast, pgs, getD_lt hi]; rfl
      · simp only [impl_ShiftPages_T13]
        rw [decide_eq_false (by omega)]; rfl
    refine Eq.trans (Eq.trans (congrArg (fun q => iterL _ fuel ((0 : Int), h.1, q, h.2.2)) ?_) key) ?_
    · simp [mapsTo]
    · unfold physB; cases (List.range h.2.1.length).all (fun i => !(decide ((h.2.1.getD i mapZ).2.2.1 ≥ (h.1.length : Int)))) <;> rfl
theorem pgs_bytes {m : List Bytes} {n : Nat} (hm : ∀ x ∈ m, x.length ≤ n) (s : Nat) : ∀ i, ∀ x ∈ pgs m s i, x.length ≤ n
  | 0 => hm
  | i + 1 => fun x hx => by
    rw [pgs] at hx
    rcases List.mem_or_eq_of_mem_set hx with h | h
    · exact pgs_bytes hm s i x h
    · rw [h]
      by_cases hi : i < m.length
      · rw [getD_lt hi]; exact hm _ (List.getElem_mem hi)
      · rw [List.getD_eq_getElem?_getD, List.getElem?_eq_none (by omega)]; exact Nat.zero_le _
theorem shiftR_len {h : Host} {s : Int} {n : Nat} (z : LenB n THost h) : LenB n THost (shiftR h s).1 := by
  unfold shiftR
  cases shiftOk h s && physB h with
  | false => exact z
  | true =>
    refine ⟨⟨?_, ?_⟩, ⟨?_, fun _ _ => ⟨trivial, trivial, trivial, trivial⟩⟩, z.2.2⟩
    · show (pgs h.1 s.toNat h.1.length).length ≤ n; rw [pgs_len]; exact z.1.1
    · exact pgs_bytes z.1.2 _ _
    · show (mapsTo _ _ _ _).length ≤ n; rw [mapsTo_len]; exact z.2.1.1

theorem shiftPages_true (a : Host) (s : Int) (ha : In64 THost a) (hs : In64 (.int .i64) s) : laws_FnExactShiftPages a s = some true := by
  unfold laws_FnExactShiftPages
  refine (sz_Host a ha).use (by omega) (by omega) fun hl => ?_
  have hA : LenB 1048576 THost a := szC_len (by omega)
  have hz : HostSz a := hostSz_c (by omega)
  have hs := specShift a s (hA.mono (by omega)) hz
  have hi := implShift a s (hA.mono (by omega)) hz
  have hR : LenB 1048576 THost (shiftR a s).1 := shiftR_len hA
  generalize shiftR a s = r at hs hi hR
  have c1 : cntT THost a ≤ bnd 1048576 THost := Nat.le_trans cntT_le (cnt_len hA)
  have c2 : cntT THost r.1 ≤ bnd 1048576 THost := Nat.le_trans cntT_le (cnt_len hR)
  have b1 : bnd 1048576 THost ≤ 100000000000000 := by decide
  have m1 := mt_Host a (hA.mono (by omega)) 1 (by omega) (by omega)
  have m2 := mt_Host r.1 (hR.mono (by omega)) 1 (by omega) (by omega)
  have m3 : ∀ t, t = mkT THost r.1 1 → laws_heldHost t 1 = some (1 + (cntT THost r.1 : Int)) := by rintro _ rfl; exact ht_Host r.1 (hR.mono (by omega)) 1 (by omega) (by omega)
  simp (disch := omega) only [to_Host a hA, bindO_some, hs, hi, eq_Host r.1 (hR.mono (by omega)), eq_Host a (hA.mono (by omega)), beq_self_eq_true, bne_self_eq_false, Bool.not_true, cond_false, m1, m2, dec_neg]
  rw [m3]
  · simp (disch := omega) only [bindO_some, dec_neg, cond_false, bne_self_eq_false]
  · rfl

end

end Go.Pu
