import Derived.Test.YtclgaiiidllehacGreatPuCopy
import Derived.Test.YtclgaiiidllehacGreatPuStr
import Derived.Test.YtclgaiiidllehacGreatPuMarks
/- FnExactFinishMove, the plain law. -/
namespace Go.Pu
open Go.Dn
set_option linter.unusedSimpArgs false

theorem implFinish (v : Move) (h : Host) (z : LenB 1000000000 THost h) (h1 : v.1.length ≤ 1000000000) (h2 : v.2.1.length ≤ 1000000000) : impl_FinishMove v h = some (finishR v h) := by
  have hl := rounds_len h.1 v.2.1 (v.1, ([] : List Int), v.2.2)
  simp only [impl_FinishMove, implCopyHost h z, implCopyRound v h.1 (by omega) (by omega), implStrings _ h.1 (show (v.2.1.foldl (roundM h.1) (v.1, ([] : List Int), v.2.2)).1.length ≤ 1000000000 by rw [hl]; exact h1), bindO_some]
  rfl
theorem specFinish (v : Move) (h : Host) (z : LenB 1000000000 THost h) (h1 : v.1.length ≤ 1000000000) (h2 : v.2.1.length ≤ 1000000000) : spec_FinishMove v h = some (finishR v h) := by
  have hl := rounds_len h.1 v.2.1 (v.1, ([] : List Int), v.2.2)
  have hm : h.1.length ≤ 1000000000 := z.1.1
  unfold spec_FinishMove finishR
  simp only [specCopyRound v h.1 (show v.1.length ≤ 1073741824 by omega) (show v.2.1.length ≤ 1073741824 by omega), specCopyHost h z, bindO_some]
  generalize v.2.1.foldl (roundM h.1) (v.1, ([] : List Int), v.2.2) = q at hl
  simp only at hl
  generalize ((([] : List Bytes), ([] : List Mapping), ((0, 0, 0, 0), (0, 0, 0, ([] : List Int)), ([] : List Sent), 0), ([] : List RxQueue), ([] : List Pool), ([] : List Vector), ([] : List Bool), (0, false, ([] : List Int)), (([] : List Rule), ([] : List Slot), ([] : Bytes), ([] : List Int)), ([] : List Stream), false, ([] : List Bytes), ([] : List Int), ([] : List Int), 0, 0, 0, 0, 0) : Host) = b4
  have hfu := fuel_ge
  -- the loop, from any round on
  have key : ∀ (m n i : Nat) (e : Bool), q.1.length = i + m → m < n → (e = true → q.1.length = h.1.length) →
      iterL (spec_FinishMove_T6 (fun (y6 : Bool) (_ : Int) => some ((q.1, h.2), y6)) h b4 q (q.1, h.2)) n (e, (i : Int)) = some ((q.1, h.2), e && eqQ (q.1.drop i) (h.1.drop i)) := by
    intro m
    induction m with
    | zero =>
      intro n i e hi hn hE
      cases n with
      | zero => omega
      | succ n =>
        rw [iterL]
        simp only [spec_FinishMove_T6]
        rw [decide_eq_false (by omega)]
        simp only [cond_false, bindO_some]
        cases e with
        | false => rfl
        | true =>
          have := hE rfl
          rw [List.drop_of_length_le (by omega), List.drop_of_length_le (by omega), eqQ_true rfl]; rfl
    | succ m ih =>
      intro n i e hi hn hE
      cases n with
      | zero => omega
      | succ n =>
        rw [iterL]
        simp only [spec_FinishMove_T6]
        rw [decide_eq_true (by omega)]
        simp only [cond_true, bindO_some]
        cases e with
        | false => rfl
        | true =>
          have hE' := hE rfl
          have hi1 : i < q.1.length := by omega
          have hi2 : i < h.1.length := by omega
          simp only [cond_true, idx_lt hi1, idx_lt hi2, bindO_some]
          rw [wrap64 (by omega) (by omega)]
          have := ih n (i + 1) (q.1[i] == h.1[i]) (by omega) (by omega) (fun _ => hE')
          refine this.trans ?_
          rw [List.drop_eq_getElem_cons hi1, List.drop_eq_getElem_cons hi2]
          congr 2
          rw [Bool.true_and]
          apply eqQ_of
          simp only [Bool.and_eq_true, beq_iff_eq, eqQ_iff, List.cons.injEq]
  have := key q.1.length fuel 0 ((q.1.length : Int) == (h.1.length : Int)) (by omega) (by omega) (fun hh => by simp only [beq_iff_eq] at hh; omega)
  refine this.trans ?_
  rw [List.drop_zero, List.drop_zero]
  congr 2
  apply eqQ_of
  simp only [Bool.and_eq_true, beq_iff_eq, eqQ_iff]
  constructor
  · exact fun x => x.2
  · intro x; rw [x]; exact ⟨rfl, rfl⟩

theorem round_bytes (m : List Bytes) (n : Nat) (hm : ∀ x ∈ m, x.length ≤ n) : ∀ (l : List Int) (s : Move), (∀ x ∈ s.1, x.length ≤ n) → ∀ x ∈ (l.foldl (roundM m) s).1, x.length ≤ n
  | [], s, h => h
  | p :: l, s, h => by
    rw [List.foldl_cons]
    refine round_bytes m n hm l _ (fun x hx => ?_)
    unfold roundM at hx
    split at hx
    · rename_i hc
      rcases List.mem_or_eq_of_mem_set hx with h1 | h1
      · exact h x h1
      · rw [h1, getD_lt (by omega)]; exact hm _ (List.getElem_mem _)
    · exact h x hx

theorem finishMove_true (v : Move) (a : Host) (hv : In64 TMove v) (ha : In64 THost a) : laws_FnExactFinishMove v a = some true := by
  unfold laws_FnExactFinishMove
  refine (sz_Move v hv).use (by omega) (by omega) fun hl => ?_
  refine (sz_Host a ha).use (by omega) (by omega) fun hl2 => ?_
  have hV : LenB 1048576 TMove v := szC_len (by omega)
  have hA : LenB 1048576 THost a := szC_len (by omega)
  have hs := specFinish v a (hA.mono (by omega)) (Nat.le_trans hV.1.1 (by omega)) (Nat.le_trans hV.2.1.1 (by omega))
  have hi := implFinish v a (hA.mono (by omega)) (Nat.le_trans hV.1.1 (by omega)) (Nat.le_trans hV.2.1.1 (by omega))
  have hR : LenB 1048576 THost (finishR v a).1 := by
    refine ⟨⟨?_, ?_⟩, hA.2⟩
    · show (v.2.1.foldl (roundM a.1) (v.1, ([] : List Int), v.2.2)).1.length ≤ _
      rw [rounds_len]; exact hV.1.1
    · exact round_bytes a.1 1048576 hA.1.2 v.2.1 _ hV.1.2
  generalize finishR v a = r at hs hi hR
  have c1 : cntT THost a ≤ bnd 1048576 THost := Nat.le_trans cntT_le (cnt_len hA)
  have c2 : cntT THost r.1 ≤ bnd 1048576 THost := Nat.le_trans cntT_le (cnt_len hR)
  have c3 : cntT TMove v ≤ bnd 1048576 TMove := Nat.le_trans cntT_le (cnt_len hV)
  have b1 : bnd 1048576 THost ≤ 100000000000000 := by decide
  have b2 : bnd 1048576 TMove ≤ 100000000000000 := by decide
  have m0 := mt_Move v (hV.mono (by omega)) 1 (by omega) (by omega)
  have m1 := mt_Host a (hA.mono (by omega)) (1 + cntT TMove v) (by omega) (by omega)
  have m2 := mt_Host r.1 (hR.mono (by omega)) 1 (by omega) (by omega)
  have m3 : ∀ t, t = mkT THost r.1 1 → laws_heldHost t 1 = some (1 + (cntT THost r.1 : Int)) := by rintro _ rfl; exact ht_Host r.1 (hR.mono (by omega)) 1 (by omega) (by omega)
  simp (disch := omega) only [to_Move v hV, to_Host a hA, bindO_some, hs, hi, eq_Host r.1 (hR.mono (by omega)), eq_Host a (hA.mono (by omega)), eq_Move v (hV.mono (by omega)), beq_self_eq_true, bne_self_eq_false, Bool.not_true, cond_false, m0, m1, m2, dec_neg]
  rw [m3]
  · simp (disch := omega) only [bindO_some, dec_neg, cond_false, bne_self_eq_false]
  · rfl

end Go.Pu
