import Derived.Test.YtjilbinhppledaaPuMark
/- StartMove, CopyRound, NoteChanges: the program's and the reference's answers are one. -/
namespace Go.Pu
open Go.Dn

theorem mark_Memory (a : List Bytes) (h : a.length ≤ 1000000000000) : MarkOk laws_markMemory laws_heldMemory a a.length := by
  intro k hk hm
  obtain ⟨x', h1, h2⟩ := mark_StringS a h k hk hm
  refine ⟨x', by simp only [laws_markMemory, h1, bindO_some], ?_⟩
  simp only [laws_heldMemory, h2, bindO_some]
  rw [decide_eq_false (by omega)]; rfl

theorem mark_Move (v : Move) (h1 : v.1.length ≤ 1000000000000) (h2 : v.2.1.length ≤ 1000000000000) :
    ∀ k : Int, 1 ≤ k → k + (v.1.length + v.2.1.length : Nat) ≤ 1000000000000000 → ∃ p d, laws_markMove v k = some (k + (v.1.length + v.2.1.length : Nat), p, d, v.2.2) ∧ ∀ s, laws_heldMove (p, d, s) k = some (k + (v.1.length + v.2.1.length : Nat)) := by
  intro k hk hm
  obtain ⟨p, a1, a2⟩ := mark_Memory v.1 h1 k hk (by omega)
  obtain ⟨d, b1, b2⟩ := mark_IntS v.2.1 h2 (k + v.1.length) (by omega) (by omega)
  have e : k + (v.1.length : Int) + v.2.1.length = k + (v.1.length + v.2.1.length : Nat) := by omega
  rw [e] at b1 b2
  refine ⟨p, d, by simp only [laws_markMove, a1, b1, bindO_some], fun s => ?_⟩
  simp only [laws_heldMove, a2, bindO_some]
  rw [decide_eq_false (by omega)]
  simp only [cond_false, b2, bindO_some]
  rw [decide_eq_false (by omega)]; rfl

theorem copyMemory_eq (a : List Bytes) (h : a.length ≤ 1073741824) : impl_copyMemory a = some a := by
  simp only [impl_copyMemory, impl_copyStrings]
  rw [room_le (by simpa using h)]; rfl
theorem l16Copy_eq (a : List Bytes) (h : a.length ≤ 1073741824) : spec_l16Copy a = some a := by
  simp only [spec_l16Copy]
  rw [room_le (by simpa using h)]; rfl

theorem startMove_true (a : List Bytes) (ha : In64 (.sl .str) a) : laws_FnExactStartMove a = some true := by
  unfold laws_FnExactStartMove
  refine (sz_Memory a ha).use (by omega) (by omega) fun hl => ?_
  have hA : LenB 1048576 (.sl .str) a := szC_len (by omega)
  have la : a.length ≤ 1048576 := hA.1
  have hi : impl_StartMove a = some (a, ([] : List Int), (a.length : Int)) := by simp only [impl_StartMove, copyMemory_eq a (by omega), bindO_some]
  have hs : spec_StartMove a = some (a, ([] : List Int), (a.length : Int)) := by simp only [spec_StartMove, l16Copy_eq a (by omega), bindO_some]
  have hM : LenB 1000000000000 TMove (a, ([] : List Int), (a.length : Int)) := ⟨hA.mono (by omega), ⟨by simp, by simp⟩, trivial⟩
  obtain ⟨x', m1, m2⟩ := mark_Memory a (by omega) 1 (by omega) (by omega)
  obtain ⟨p, d, n1, n2⟩ := mark_Move (a, ([] : List Int), (a.length : Int)) (by simp; omega) (by simp) 1 (by omega) (by simp; omega)
  simp only [to_Memory a hA, bindO_some, hi, hs, eq_Move _ hM, eq_Memory _ (hA.mono (by omega)), Bool.not_true, cond_false, m1, n1, n2]
  rw [decide_eq_false (by omega)]
  simp only [cond_false, bindO_some]
  rw [decide_eq_false (by omega)]
  simp

-- a round of copying
def roundM (m : List Bytes) (s : Move) (p : Int) : Move :=
  if 0 ≤ p ∧ p < m.length ∧ p < s.1.length then (s.1.set p.toNat (m.getD p.toNat []), s.2.1, IntKind.wrap .i64 (s.2.2 + 1)) else s
theorem roundM_len (m : List Bytes) (s : Move) (p : Int) : (roundM m s p).1.length = s.1.length := by unfold roundM; split <;> simp
theorem roundM_dirty (m : List Bytes) (s : Move) (p : Int) : (roundM m s p).2.1 = s.2.1 := by unfold roundM; split <;> rfl
theorem rounds_len (m : List Bytes) : ∀ (l : List Int) (s : Move), (l.foldl (roundM m) s).1.length = s.1.length
  | [], _ => rfl
  | p :: l, s => by rw [List.foldl_cons, rounds_len m l, roundM_len]
theorem rounds_dirty (m : List Bytes) : ∀ (l : List Int) (s : Move), (l.foldl (roundM m) s).2.1 = s.2.1
  | [], _ => rfl
  | p :: l, s => by rw [List.foldl_cons, rounds_dirty m l, roundM_dirty]
/-- the dirty list takes no part -/
theorem rounds_apart (m : List Bytes) : ∀ (l : List Int) (s t : Move), s.1 = t.1 → s.2.2 = t.2.2 → (l.foldl (roundM m) s).1 = (l.foldl (roundM m) t).1 ∧ (l.foldl (roundM m) s).2.2 = (l.foldl (roundM m) t).2.2
  | [], _, _, h1, h2 => ⟨h1, h2⟩
  | p :: l, s, t, h1, h2 => by
    rw [List.foldl_cons, List.foldl_cons]
    refine rounds_apart m l _ _ ?_ ?_
    · unfold roundM; rw [h1]; split <;> simp [h1]
    · unfold roundM; rw [h1, h2]; split <;> simp [h2]

theorem round_step {R : Type} (m : List Bytes) (s : Move) (p : Int) (k : Move → Option R) :
    (bindO (cond (decide (p ≥ 0)) (cond (decide (p < ((List.length m : Int)))) (some (decide (p < ((List.length s.1 : Int))))) (some false)) (some false)) fun q3 =>
      cond q3 (bindO (idx m p) fun x4 => bindO (idx s.1 p) fun _ => bindO (idx s.1 p) fun _ => k (List.set s.1 (Int.toNat p) x4, s.2.1, IntKind.wrap .i64 (s.2.2 + 1))) (k s)) = k (roundM m s p) := by
  unfold roundM
  by_cases h : 0 ≤ p ∧ p < m.length ∧ p < s.1.length
  · obtain ⟨h0, h1, h2⟩ := h
    obtain ⟨n, rfl⟩ := Int.eq_ofNat_of_zero_le h0
    rw [if_pos ⟨h0, h1, h2⟩, decide_eq_true (show (n : Int) ≥ 0 from h0), decide_eq_true h1, decide_eq_true h2]
    have hn1 : n < m.length := by omega
    have hn2 : n < s.1.length := by omega
    simp only [cond_true, bindO_some, idx_lt hn1, idx_lt hn2, Int.toNat_natCast]
    rw [List.getD_eq_getElem?_getD, List.getElem?_eq_getElem hn1]; rfl
  · rw [if_neg h]
    by_cases h0 : p ≥ 0
    · rw [decide_eq_true h0]
      by_cases h1 : p < m.length
      · rw [decide_eq_true h1, decide_eq_false (by omega)]; rfl
      · rw [decide_eq_false h1]; rfl
    · rw [decide_eq_false h0]; rfl

theorem foldK_next {α σ R : Type} (f : σ → α → σ) (fin : σ → Option R) : ∀ (xs : List α) (s : σ), foldK (fun x s k => k (f s x)) fin xs s = fin (xs.foldl f s)
  | [], _ => rfl
  | x :: xs, s => by rw [foldK, List.foldl_cons]; exact foldK_next f fin xs (f s x)

theorem implCopyRound (v : Move) (m : List Bytes) (h1 : v.1.length ≤ 1073741824) (h2 : v.2.1.length ≤ 1073741824) : impl_CopyRound v m = some (v.2.1.foldl (roundM m) (v.1, ([] : List Int), v.2.2)) := by
  unfold impl_CopyRound
  rw [copyMemory_eq _ h1, bindO_some]
  have hfu := fuel_ge
  have key := iter_list (T := impl_CopyRound_T3 (fun (_ : Int) (y8 : Move) => some y8) v.2.1 ((List.length v.2.1 : Int)) m (([] : List Bytes), ([] : List Int), 0)) v.2.1 (fun (s : Move) i => ((i : Int), s)) (fun p s k => k (roundM m s p)) (fun s => some s)
    (fun i hi s nx => by
      simp only [impl_CopyRound_T3]
      rw [decide_eq_true (by omega), idx_lt hi, wrap64 (by omega) (by omega)]
      simp only [cond_true, bindO_some]
      exact round_step m s v.2.1[i] (fun s' => nx ((i : Int) + 1, s')))
    (fun s nx => by
      simp only [impl_CopyRound_T3]
      rw [decide_eq_false (by omega)]; rfl)
    fuel 0 (v.1, ([] : List Int), v.2.2) (by omega) (by omega)
  rw [List.drop_zero, foldK_next] at key
  exact key

theorem specCopyRound (v : Move) (m : List Bytes) (h1 : v.1.length ≤ 1073741824) (h2 : v.2.1.length ≤ 1073741824) : spec_CopyRound v m = some (v.2.1.foldl (roundM m) (v.1, ([] : List Int), v.2.2)) := by
  unfold spec_CopyRound
  have hc : spec_l39Copy v = some v := by
    simp only [spec_l39Copy, l16Copy_eq _ h1, bindO_some]
    rw [room_le (by simpa using h2)]; rfl
  rw [hc, bindO_some]
  have hfu := fuel_ge
  have key := iter_list (T := spec_CopyRound_T3 (fun (_ : Int) (y8 : Move) => some (y8.1, ([] : List Int), y8.2.2)) v m (([] : List Bytes), ([] : List Int), 0)) v.2.1 (fun (s : Move) i => ((i : Int), s)) (fun p s k => k (roundM m s p)) (fun s => some (s.1, ([] : List Int), s.2.2))
    (fun i hi s nx => by
      simp only [spec_CopyRound_T3]
      rw [decide_eq_true (by omega), idx_lt hi, wrap64 (by omega) (by omega)]
      simp only [cond_true, bindO_some]
      exact round_step m s v.2.1[i] (fun s' => nx ((i : Int) + 1, s')))
    (fun s nx => by
      simp only [spec_CopyRound_T3]
      rw [decide_eq_false (by omega)]; rfl)
    fuel 0 v (by omega) (by omega)
  rw [List.drop_zero, foldK_next] at key
  refine key.trans ?_
  obtain ⟨e1, e2⟩ := rounds_apart m v.2.1 v (v.1, ([] : List Int), v.2.2) rfl rfl
  have e3 := rounds_dirty m v.2.1 (v.1, ([] : List Int), v.2.2)
  rw [e1, e2]
  congr 1
  exact Prod.ext rfl (Prod.ext e3.symm rfl)

theorem copyRound_true (v : Move) (m : List Bytes) (hv : In64 TMove v) (hm : In64 (.sl .str) m) : laws_FnExactCopyRound v m = some true := by
  unfold laws_FnExactCopyRound
  refine (sz_Move v hv).use (by omega) (by omega) fun hl => ?_
  refine (sz_Memory m hm).use (by omega) (by omega) fun hl2 => ?_
  have hV : LenB 1048576 TMove v := szC_len (by omega)
  have hM : LenB 1048576 (.sl .str) m := szC_len (by omega)
  have l1 : v.1.length ≤ 1048576 := hV.1.1
  have l2 : v.2.1.length ≤ 1048576 := hV.2.1.1
  have lm : m.length ≤ 1048576 := hM.1
  have hi := implCopyRound v m (by omega) (by omega)
  have hs := specCopyRound v m (by omega) (by omega)
  generalize hr : v.2.1.foldl (roundM m) (v.1, ([] : List Int), v.2.2) = r at hi hs
  have r1 : r.1.length = v.1.length := by rw [← hr, rounds_len]
  have r2 : r.2.1 = [] := by rw [← hr, rounds_dirty]
  have hpages : ∀ x ∈ r.1, x.length ≤ 1000000000000 := by
    rw [← hr]
    have : ∀ (l : List Int) (s : Move), (∀ x ∈ s.1, x.length ≤ 1048576) → ∀ x ∈ (l.foldl (roundM m) s).1, x.length ≤ 1048576 := by
      intro l
      induction l with
      | nil => intro s h; exact h
      | cons p l ih =>
        intro s h
        rw [List.foldl_cons]
        refine ih _ ?_
        unfold roundM
        split
        · rename_i hp
          intro x hx
          rcases List.mem_or_eq_of_mem_set hx with hx | rfl
          · exact h x hx
          · have hn : p.toNat < m.length := by omega
            rw [List.getD_eq_getElem?_getD, List.getElem?_eq_getElem hn]
            exact hM.2 _ (List.getElem_mem hn)
        · exact h
    intro x hx
    have := this v.2.1 (v.1, ([] : List Int), v.2.2) (fun x hx => hV.1.2 x hx) x hx
    omega
  have hR : LenB 1000000000000 TMove r := ⟨⟨by omega, hpages⟩, ⟨by rw [r2]; simp, by rw [r2]; simp⟩, trivial⟩
  obtain ⟨p1, d1, a1, _⟩ := mark_Move v (by omega) (by omega) 1 (by omega) (by omega)
  obtain ⟨x', b1, _⟩ := mark_Memory m (by omega) (1 + (v.1.length + v.2.1.length : Nat)) (by omega) (by omega)
  obtain ⟨p, d, n1, n2⟩ := mark_Move r (by omega) (by rw [r2]; simp) 1 (by omega) (by rw [r2]; simp; omega)
  simp only [to_Move v hV, to_Memory m hM, bindO_some, hi, hs, eq_Move _ hR, eq_Move _ (hV.mono (by omega)), eq_Memory _ (hM.mono (by omega)), Bool.not_true, cond_false, a1, b1, n1, n2]
  rw [decide_eq_false (by omega)]
  simp only [cond_false, bindO_some]
  rw [decide_eq_false (by omega)]
  simp

-- pages that have changed
def changed (a : List Bytes) : List Bytes → Nat → List Int
  | [], _ => []
  | p :: r, i => (if a[i]? = some p then [] else [(i : Int)]) ++ changed a r (i + 1)
theorem changed_len (a : List Bytes) : ∀ (b : List Bytes) (i : Nat), (changed a b i).length ≤ b.length
  | [], _ => by simp [changed]
  | p :: r, i => by have := changed_len a r (i + 1); simp only [changed, List.length_append, List.length_cons]; split <;> simp <;> omega

theorem changed_step {R : Type} (a : List Bytes) (p : Bytes) (i : Nat) (acc : List Int) (h : acc.length ≤ 1048576) (k : List Int → Option R) {t : Option Bool} (ht : t = some (!(decide (a[i]? = some p)))) :
    (bindO t fun q3 => cond q3 (room (List.length acc + List.length ([(i : Int)])) (k (acc ++ ([(i : Int)])))) (k acc)) = k (acc ++ (if a[i]? = some p then [] else [(i : Int)])) := by
  subst ht
  simp only [bindO_some]
  by_cases hp : a[i]? = some p
  · simp [hp]
  · simp only [hp, decide_false, Bool.not_false, cond_true, if_false]
    rw [room_le (by simp; omega)]

theorem changed_test (a : List Bytes) (p : Bytes) (i : Nat) : (cond (decide ((i : Int) ≥ ((List.length a : Int)))) (some true) (bindO (idx a (i : Int)) fun x2 => some (!(x2 == p)))) = some (!(decide (a[i]? = some p))) := by
  by_cases h : (i : Int) ≥ a.length
  · rw [decide_eq_true h, List.getElem?_eq_none (by omega)]; simp
  · rw [decide_eq_false h]
    have hi : i < a.length := by omega
    simp only [cond_false, idx_lt hi, bindO_some, List.getElem?_eq_getElem hi]
    congr 2
    rw [Bool.eq_iff_iff]; simp

theorem changed_foldK (a : List Bytes) (N : Nat) (hN : N ≤ 1048576) : ∀ (b : List Bytes) (i : Nat) (acc : List Int), acc.length ≤ i → i + b.length = N →
    ∀ {R : Type} (k : List Int → Option R) (T : (List Int × Int → Option R) → (List Int × Int) → Option R) (m : Nat), b.length < m →
      (∀ j acc nx, j < N → acc.length ≤ 1048576 → ∀ p, b[j - i]? = some p → i ≤ j → T nx (acc, (j : Int)) = nx (acc ++ (if a[j]? = some p then [] else [(j : Int)]), ((j + 1 : Nat) : Int))) → (∀ acc nx, T nx (acc, (N : Int)) = k acc) →
      iterL T m (acc, (i : Int)) = k (acc ++ changed a b i)
  | [], i, acc, hacc, hi, R, k, T, m, hm, hs, hf => by
    cases m with
    | zero => omega
    | succ m =>
      simp at hi
      subst hi
      rw [iterL, hf]; simp [changed]
  | p :: b, i, acc, hacc, hi, R, k, T, m, hm, hs, hf => by
    cases m with
    | zero => omega
    | succ m =>
      simp only [List.length_cons] at hi hm
      rw [iterL, hs i acc _ (by omega) (by omega) p (by simp) (Nat.le_refl _)]
      have := changed_foldK a N hN b (i + 1) (acc ++ (if a[i]? = some p then [] else [(i : Int)])) (by simp; split <;> simp <;> omega) (by omega) k T m (by omega)
        (fun j acc nx hj ha q hq hij => hs j acc nx hj ha q (by rw [show j - i = (j - (i + 1)) + 1 by omega, List.getElem?_cons_succ]; exact hq) (by omega)) hf
      rw [this, changed, List.append_assoc]

theorem implChanged (a b : List Bytes) (hb : b.length ≤ 1048576) : impl_ChangedPages a b = some (changed a b 0) := by
  unfold impl_ChangedPages
  have hfu := fuel_ge
  refine (changed_foldK a b.length hb b 0 [] (by simp) (by simp) some _ fuel (by omega) (fun j acc nx hj ha p hp _ => ?_) (fun acc nx => ?_)).trans (by simp)
  · simp only [impl_ChangedPages_T3]
    have hpj : b[j] = p := by rw [Nat.sub_zero, List.getElem?_eq_getElem hj] at hp; simpa using hp
    rw [decide_eq_true (by omega), idx_lt hj, wrap64 (by omega) (by omega)]
    simp only [cond_true, bindO_some, hpj]
    exact changed_step a p j acc ha (fun r => nx (r, (j : Int) + 1)) (changed_test a p j)
  · simp only [impl_ChangedPages_T3]
    rw [decide_eq_false (by omega)]; rfl
theorem specChanged (a b : List Bytes) (hb : b.length ≤ 1048576) : spec_ChangedPages a b = some (changed a b 0) := by
  unfold spec_ChangedPages
  have hfu := fuel_ge
  refine (changed_foldK a b.length hb b 0 [] (by simp) (by simp) some _ fuel (by omega) (fun j acc nx hj ha p hp _ => ?_) (fun acc nx => ?_)).trans (by simp)
  · simp only [spec_ChangedPages_T3]
    have hpj : b[j] = p := by rw [Nat.sub_zero, List.getElem?_eq_getElem hj] at hp; simpa using hp
    rw [decide_eq_true (by omega), idx_lt hj, wrap64 (by omega) (by omega)]
    simp only [cond_true, bindO_some, hpj]
    exact changed_step a p j acc ha (fun r => nx (r, (j : Int) + 1)) (changed_test a p j)
  · simp only [spec_ChangedPages_T3]
    rw [decide_eq_false (by omega)]; rfl

-- membership
theorem implHas (a : List Int) (p : Int) (h : a.length ≤ 1000000000000) : impl_hasInt a p = some (a.any (· == p)) := by
  unfold impl_hasInt
  rw [any_iter (hit := some true) (fin := some false) (· == p) a h (fun i hi nx => ?hs) (fun nx => ?hf)]
  case hs =>
    simp only [impl_hasInt_T2]
    rw [decide_eq_true (by omega), idx_lt hi, wrap64 (by omega) (by omega)]; rfl
  case hf =>
    simp only [impl_hasInt_T2]
    rw [decide_eq_false (by omega)]; rfl
  cases a.any (· == p) <;> rfl
theorem specHas (a : List Int) (p : Int) (h : a.length ≤ 1000000000000) : spec_l24Has a p = some (a.any (· == p)) := by
  unfold spec_l24Has
  rw [any_iter (hit := some true) (fin := some false) (· == p) a h (fun i hi nx => ?hs) (fun nx => ?hf)]
  case hs =>
    simp only [spec_l24Has_T2]
    rw [decide_eq_true (by omega), idx_lt hi, wrap64 (by omega) (by omega)]; rfl
  case hf =>
    simp only [spec_l24Has_T2]
    rw [decide_eq_false (by omega)]; rfl
  cases a.any (· == p) <;> rfl

end Go.Pu
