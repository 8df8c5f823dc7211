import Derived.Test.YthnncngicmfmjacGreatPuView
/- FnExactSameView, the plain law. -/
namespace Go.Pu
open Go.Dn
set_option linter.unusedSimpArgs false
noncomputable section

def viewAt (a b : Host) (m n : Mapping) : Bool := (m.1 == n.1) && ((m.2.1 == n.2.1) && ((m.2.2.2 == n.2.2.2) && (decide (m.2.2.1 < (a.1.length : Int)) && (decide (n.2.2.1 < (b.1.length : Int)) && (a.1.getD m.2.2.1.toNat [] == b.1.getD n.2.2.1.toNat [])))))
def viewB (a b : Host) : Bool := a.2.1.all (fun m => b.2.1.any (viewAt a b m))
theorem idx_int {α : Type} {xs : List α} {i : Int} (d : α) (h0 : 0 ≤ i) (h1 : i < (xs.length : Int)) : idx xs i = some (xs.getD i.toNat d) := by
  have e : i = ((i.toNat : Nat) : Int) := by omega
  have hl : i.toNat < xs.length := by omega
  rw [getD_lt hl]
  have := idx_lt hl
  rwa [← e] at this
theorem map_in {l : List Mapping} (h : mappingsB l = true) {m : Mapping} (hm : m ∈ l) : 0 ≤ m.2.2.1 := by
  unfold mappingsB at h
  simp only [Bool.and_eq_true, List.all_eq_true, List.mem_range] at h
  obtain ⟨i, hi, rfl⟩ := List.getElem_of_mem hm
  have := h.2 i hi
  unfold mapB at this
  rw [getD_lt hi] at this
  simp only [Bool.and_eq_true] at this
  have := this.1
  unfold mapInB at this
  simp only [Bool.and_eq_true, inB_iff] at this
  exact this.2.2.1
theorem map_len {l : List Mapping} (h : mappingsB l = true) : l.length ≤ 96 := by
  unfold mappingsB at h
  simp only [Bool.and_eq_true, decide_eq_true_eq] at h
  omega
theorem map_one {l : List Mapping} (h : mappingsB l = true) {i j : Nat} (hi : i < l.length) (hj : j < i) : mapAt l[i].1 l[i].2.1 (l[j]'(by omega)) = false := by
  unfold mappingsB at h
  simp only [Bool.and_eq_true, List.all_eq_true, List.mem_range] at h
  have := h.2 i hi
  unfold mapB at this
  simp only [Bool.and_eq_true, List.all_eq_true, List.mem_range] at this
  have := this.2 j hj
  rw [getD_lt hi, getD_lt (show j < l.length by omega)] at this
  simpa using this
theorem any_first {b : Host} (hb : mappingsB b.2.1 = true) (a : Host) (m : Mapping) : b.2.1.any (viewAt a b m) = (match b.2.1.findIdx? (mapAt m.1 m.2.1) with | some k => viewAt a b m (b.2.1.getD k mapZ) | none => false) := by
  cases hq : b.2.1.findIdx? (mapAt m.1 m.2.1) with
  | none =>
    rw [List.findIdx?_eq_none_iff] at hq
    rw [Bool.eq_false_iff, ne_eq, List.any_eq_true]
    rintro ⟨n, hn, hv⟩
    have := hq n hn
    unfold viewAt at hv
    simp only [Bool.and_eq_true, beq_iff_eq] at hv
    simp [mapAt, hv.1, hv.2.1] at this
  | some k =>
    rw [List.findIdx?_eq_some_iff_getElem] at hq
    obtain ⟨hk, hpk, hlt⟩ := hq
    simp only [getD_lt hk]
    rw [Bool.eq_iff_iff, List.any_eq_true]
    constructor
    · rintro ⟨n, hn, hv⟩
      obtain ⟨j, hj, rfl⟩ := List.getElem_of_mem hn
      have hv' := hv
      unfold viewAt at hv'
      simp only [Bool.and_eq_true, beq_iff_eq] at hv'
      have hat : mapAt m.1 m.2.1 b.2.1[j] = true := by simp [mapAt, hv'.1, hv'.2.1]
      rcases Nat.lt_trichotomy j k with hjk | hjk | hjk
      · have := hlt j hjk; rw [hat] at this; simp at this
      · subst hjk; exact hv
      · have := map_one hb hj hjk
        rw [← hv'.1, ← hv'.2.1, hpk] at this; cases this
    · intro hv; exact ⟨_, List.getElem_mem hk, hv⟩
theorem foldl_any {α : Type} (p : α → Bool) : ∀ (l : List α) (s : Bool), l.foldl (fun s x => s || p x) s = (s || l.any p)
  | [], s => by simp
  | x :: l, s => by rw [List.foldl_cons, foldl_any p l, List.any_cons, Bool.or_assoc]
theorem specMaps {R : Type} (a b : Host) (ha : mappingsB a.2.1 = true) (hb : mappingsB b.2.1 = true) (v4 : Bool) (k0 : Int → Option R) (k1 : Bool → Int → Option R) (fin hit : Option R) (h0 : ∀ x, k0 x = fin) (h1 : ∀ x, k1 false x = hit) :
    iterL (spec_SameView_T4 k0 k1 v4 a b) fuel 0 = cond (viewB a b) fin hit := by
  have la := map_len ha
  have lb := map_len hb
  refine all_iter' (fun m => b.2.1.any (viewAt a b m)) a.2.1 (by omega) (fun i hi nx => ?_) (fun nx => ?_)
  · simp only [spec_SameView_T4]
    rw [decide_eq_true (by omega), wrap64 (n := (i : Int) + 1) (by omega) (by omega)]
    simp only [cond_true]
    have := fold_iter (T := spec_SameView_T8 (fun (y12 : Bool) (_ : Int) => cond (!y12) (k1 false (i : Int)) (nx ((i : Int) + 1))) v4 (i : Int) a b) b.2.1 (fun (s : Bool) i => (s, (i : Int))) (fun s n => s || viewAt a b a.2.1[i] n)
      (fun s => cond (!s) hit (nx ((i : Int) + 1))) (by omega) (fun j hj s nx' => ?hs) (fun s nx' => ?hf) false
    case hs =>
      simp only [spec_SameView_T8]
      rw [decide_eq_true (by omega), idx_lt hi, idx_lt hj, wrap64 (n := (j : Int) + 1) (by omega) (by omega)]
      simp only [cond_true, bindO_some]
      have m0 := map_in ha (List.getElem_mem hi)
      have n0 := map_in hb (List.getElem_mem hj)
      generalize b.2.1[j] = n at *
      generalize a.2.1[i] = m at *
      unfold viewAt
      cases s with
      | true => rfl
      | false =>
        simp only [cond_false, Bool.false_or]
        cases m.1 == n.1 with | false => rfl | true => ?_
        cases m.2.1 == n.2.1 with | false => rfl | true => ?_
        cases m.2.2.2 == n.2.2.2 with | false => rfl | true => ?_
        by_cases c1 : m.2.2.1 < (a.1.length : Int)
        · by_cases c2 : n.2.2.1 < (b.1.length : Int)
          · rw [decide_eq_true c1, decide_eq_true c2, idx_int [] m0 c1, idx_int [] n0 c2]; rfl
          · rw [decide_eq_true c1, decide_eq_false c2]; rfl
        · rw [decide_eq_false c1]; rfl
    case hf =>
      simp only [spec_SameView_T8]
      rw [decide_eq_false (by omega), h1]; rfl
    rw [foldl_any, Bool.false_or] at this
    exact this
  · simp only [spec_SameView_T4]
    rw [decide_eq_false (by omega), h0]; rfl
theorem implMaps {R : Type} (a b : Host) (ha : mappingsB a.2.1 = true) (hb : mappingsB b.2.1 = true) (v4 : Bool) (k0 : Int → Option R) (k1 : Bool → Int → Option R) (fin hit : Option R) (h0 : ∀ x, k0 x = fin) (h1 : ∀ x, k1 false x = hit) :
    iterL (impl_SameView_T4 k0 k1 v4 a.2.1 (a.2.1.length : Int) a b) fuel 0 = cond (viewB a b) fin hit := by
  have la := map_len ha
  have lb := map_len hb
  refine all_iter' (fun m => b.2.1.any (viewAt a b m)) a.2.1 (by omega) (fun i hi nx => ?_) (fun nx => ?_)
  · simp only [impl_SameView_T4]
    rw [decide_eq_true (by omega), wrap64 (n := (i : Int) + 1) (by omega) (by omega), idx_lt hi, any_first hb]
    simp only [cond_true, bindO_some, implPage _ _ _ (show b.2.1.length ≤ 1000000000 by omega), pageM]
    have m0 := map_in ha (List.getElem_mem hi)
    cases hq : b.2.1.findIdx? (mapAt a.2.1[i].1 a.2.1[i].2.1) with
    | none => exact h1 _
    | some k =>
      rw [List.findIdx?_eq_some_iff_getElem] at hq
      obtain ⟨hk, hpk, hlt⟩ := hq
      simp only [getD_lt hk]
      have n0 := map_in hb (List.getElem_mem hk)
      rw [decide_eq_false (show ¬ (k : Int) < 0 by omega), idx_lt hk]
      generalize b.2.1[k] = n at *
      generalize a.2.1[i] = m at *
      simp only [mapAt, Bool.and_eq_true, beq_iff_eq] at hpk
      unfold viewAt
      rw [show (m.1 == n.1) = true by simp [hpk.1], show (m.2.1 == n.2.1) = true by simp [hpk.2], show (m.2.2.2 == n.2.2.2) = (n.2.2.2 == m.2.2.2) from Bool.beq_comm]
      simp only [cond_false, bindO_some]
      cases n.2.2.2 == m.2.2.2 with
      | false => exact h1 _
      | true =>
        have g1 : decide (m.2.2.1 ≥ (a.1.length : Int)) = !decide (m.2.2.1 < (a.1.length : Int)) := by rw [Bool.eq_iff_iff]; simp
        have g2 : decide (n.2.2.1 ≥ (b.1.length : Int)) = !decide (n.2.2.1 < (b.1.length : Int)) := by rw [Bool.eq_iff_iff]; simp
        simp only [cond_false, Bool.not_true, Bool.true_and]
        rw [g1, g2]
        by_cases c1 : m.2.2.1 < (a.1.length : Int)
        · by_cases c2 : n.2.2.1 < (b.1.length : Int)
          · rw [decide_eq_true c1, decide_eq_true c2, idx_int [] m0 c1, idx_int [] n0 c2, h1]
            simp only [Bool.not_true, cond_false, bindO_some, Bool.true_and]; rfl
          · rw [decide_eq_true c1, decide_eq_false c2, h1]; rfl
        · rw [decide_eq_false c1, h1]; rfl
  · simp only [impl_SameView_T4]
    rw [decide_eq_false (by omega), h0]; rfl

def sameB (a b : Host) : Bool := hostB a && (hostB b && (eqQ a.2.2 b.2.2 && (eqQ (a.2.1.length : Int) (b.2.1.length : Int) && viewB a b)))
theorem host_maps {h : Host} (k : hostB h = true) : mappingsB h.2.1 = true := by
  unfold hostB at k
  simp only [Bool.and_eq_true] at k
  exact k.2.1
theorem host_lens {h : Host} (k : hostB h = true) : lensB h = true := by
  unfold hostB at k
  simp only [Bool.and_eq_true] at k
  exact k.2.2.2.2.1
theorem specView (a b : Host) (za : ViewSz a) (zb : ViewSz b) : spec_SameView a b = some (sameB a b) := by
  unfold spec_SameView sameB
  simp only [specHost _ za.z, specHost _ zb.z, bindO_some]
  cases ha : hostB a with | false => rfl | true => ?_
  cases hb : hostB b with | false => rfl | true => ?_
  rw [specQueuesEq a b za (host_lens ha) (host_lens hb), specSteerEq _ _ za.z.s1 za.z.s2 za.z.s3, specLogsEq a b za, specMaps a b (host_maps ha) (host_maps hb) _ _ _ (some true) (some false) (fun _ => rfl) (fun _ => rfl)]
  simp only [bindO_some, cond_some, cT, cN, cF, Bool.not_true, cond_false, Bool.true_and, bne, beqQ]
  congr 1
  rw [eqQ_prod a.2.2 b.2.2, eqQ_prod a.2.2.2 b.2.2.2, eqQ_prod a.2.2.2.2 b.2.2.2.2, eqQ_prod a.2.2.2.2.2 b.2.2.2.2.2, eqQ_prod a.2.2.2.2.2.2 b.2.2.2.2.2.2, eqQ_prod a.2.2.2.2.2.2.2 b.2.2.2.2.2.2.2, eqQ_prod a.2.2.2.2.2.2.2.2 b.2.2.2.2.2.2.2.2]
  simp only [Bool.not_or, Bool.not_not]
  rw [Bool.eq_iff_iff]
  simp only [Bool.and_eq_true]
  constructor
  · rintro ⟨⟨⟨k1, k2, k3, k4, k5⟩, k6, ⟨k7, k8⟩, k9⟩, k10⟩
    refine ⟨⟨k1, k2, k3, k4, k5, k7, k6, k8⟩, k9, ?_⟩
    revert k10; cases viewB a b <;> simp
  · rintro ⟨⟨k1, k2, k3, k4, k5, k7, k6, k8⟩, k9, k10⟩
    refine ⟨⟨⟨k1, k2, k3, k4, k5⟩, k6, ⟨k7, k8⟩, k9⟩, ?_⟩
    rw [k10]; simp
theorem implView (a b : Host) (za : ViewSz a) (zb : ViewSz b) : impl_SameView a b = some (sameB a b) := by
  unfold impl_SameView sameB
  simp only [implHost _ za.z, implHost _ zb.z, implBeside a b za, bindO_some]
  cases ha : hostB a with | false => rfl | true => ?_
  cases hb : hostB b with | false => rfl | true => ?_
  rw [implMaps a b (host_maps ha) (host_maps hb) _ _ _ (some true) (some false) (fun _ => rfl) (fun _ => rfl)]
  simp only [bindO_some, cond_some, cT, cN, cF, Bool.not_true, cond_false, Bool.true_and, bne, beqQ]
  cases eqQ a.2.2 b.2.2 <;> cases eqQ (a.2.1.length : Int) (b.2.1.length : Int) <;> cases viewB a b <;> rfl

theorem buffers_le : ∀ l : List Sent, (buffersOf l).length ≤ (l.map (szC TSent)).sum
  | [] => by simp [buffersOf]
  | x :: l => by
    have := buffers_le l
    simp only [buffersOf, List.flatMap_cons, List.length_append, List.map_cons, List.sum_cons, szC] at this ⊢
    omega
theorem view_sz {h : Host} (k : szC THost h ≤ 1048576) : ViewSz h := by
  have hA : LenB 1048576 THost h := szC_len k
  have hb := buffers_le h.2.2.1.2.2.1
  simp only [szC] at k hb
  have g : ∀ {n : Nat}, n ≤ 1048576 → n ≤ 1000000000 := fun h => Nat.le_trans h (by omega)
  exact ⟨⟨g hA.1.1, g hA.2.1.1, g hA.2.2.1.2.2.1.1, by omega, g hA.2.2.2.2.2.2.2.1.2.2.1, g hA.2.2.2.2.2.2.2.2.1.1.1, g hA.2.2.2.2.2.2.2.2.1.2.1.1, g hA.2.2.2.2.2.2.2.2.1.2.2.2.1, fun p hp => g (hA.2.2.2.2.1.2 p hp).2.2.2.1⟩,
    fun x hx => g (hA.2.2.1.2.2.1.2 x hx).2.2.1, g hA.2.2.2.1.1, g hA.2.2.2.2.1.1, g hA.2.2.2.2.2.1.1, g hA.2.2.2.2.2.2.1.1, g hA.2.2.2.2.2.2.2.2.2.1.1, g hA.2.2.2.2.2.2.2.2.2.2.2.1.1, g hA.2.2.2.2.2.2.2.2.2.2.2.2.1.1, g hA.2.2.2.2.2.2.2.2.2.2.2.2.2.1.1⟩
theorem sameView_true (a b : Host) (ha : In64 THost a) (hb : In64 THost b) : laws_FnExactSameView a b = some true := by
  unfold laws_FnExactSameView
  refine (sz_Host a ha).use (by omega) (by omega) fun hl => ?_
  refine (sz_Host b hb).use (by omega) (by omega) fun hl2 => ?_
  have hA : LenB 1048576 THost a := szC_len (by omega)
  have hB : LenB 1048576 THost b := szC_len (by omega)
  have za : ViewSz a := view_sz (by omega)
  have zb : ViewSz b := view_sz (by omega)
  simp only [to_Host a hA, to_Host b hB, bindO_some, specView a b za zb, implView a b za zb, beq_self_eq_true, Bool.not_true, cond_false, eq_Host a (hA.mono (by omega)), eq_Host b (hB.mono (by omega))]

end

end Go.Pu
