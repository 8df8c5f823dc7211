import Derived.Test.YtpnmgicfhmidcabGreatPuSteer
/- SameData: the program's and the reference's answers are one. -/
namespace Go.Pu
open Go.Dn

-- the index of a flow's first stream
def findS (f : Flow) : List Stream → Int → Int
  | [], _ => -1
  | s :: r, i => if s.1 = f then i else findS f r (i + 1)

theorem index_iter {T : (Int → Option Int) → Int → Option Int} (a : List Stream) (f : Flow) (h : a.length ≤ 1073741824)
    (hs : ∀ i (hi : i < a.length) nx, T nx (i : Int) = cond (decide (a[i].1 = f)) (some (i : Int)) (nx ((i + 1 : Nat) : Int))) (hf : ∀ nx, T nx (a.length : Int) = some (-1)) :
    iterL T fuel 0 = some (findS f a 0) := by
  have hfu := fuel_ge
  have key : ∀ n i, i ≤ a.length → a.length - i < n → iterL T n (i : Int) = some (findS f (a.drop i) i) := by
    intro n
    induction n with
    | zero => intro i _ h; omega
    | succ n ih =>
      intro i hi hn
      rw [iterL]
      rcases Nat.lt_or_ge i a.length with hlt | hge
      · rw [hs i hlt, List.drop_eq_getElem_cons hlt, findS]
        by_cases hq : a[i].1 = f
        · simp [hq]
        · simp only [hq, decide_false, cond_false, if_false]
          exact ih (i + 1) (by omega) (by omega)
      · have : i = a.length := by omega
        subst this
        rw [hf, List.drop_length]; rfl
  exact key fuel 0 (by omega) (by omega)

theorem specIndex (a : List Stream) (f : Flow) (h : a.length ≤ 1073741824) : spec_StreamIndex a f = some (findS f a 0) := by
  unfold spec_StreamIndex
  refine index_iter a f h (fun i hi nx => ?_) (fun nx => ?_)
  · simp only [spec_StreamIndex_T2]
    rw [decide_eq_true (by omega), idx_lt hi, wrap64 (by omega) (by omega)]
    simp only [cond_true, bindO_some, flow_eq]
    rfl
  · simp only [spec_StreamIndex_T2]
    rw [decide_eq_false (by omega)]; rfl
theorem implIndex (a : List Stream) (f : Flow) (h : a.length ≤ 1073741824) : impl_StreamIndex a f = some (findS f a 0) := by
  unfold impl_StreamIndex
  refine index_iter a f h (fun i hi nx => ?_) (fun nx => ?_)
  · simp only [impl_StreamIndex_T2]
    rw [decide_eq_true (by omega), idx_lt hi, wrap64 (by omega) (by omega)]
    simp only [cond_true, bindO_some, flow_eq]
    rfl
  · simp only [impl_StreamIndex_T2]
    rw [decide_eq_false (by omega)]; rfl

theorem findS_spec (f : Flow) : ∀ (a : List Stream) (i : Int), (findS f a i = -1 ∧ ∀ s ∈ a, s.1 ≠ f) ∨ ∃ n : Nat, n < a.length ∧ findS f a i = i + n ∧ ∃ s ∈ a, s.1 = f
  | [], _ => .inl ⟨rfl, by simp⟩
  | s :: r, i => by
    unfold findS
    by_cases h : s.1 = f
    · rw [if_pos h]; exact .inr ⟨0, by simp, by simp, s, by simp, h⟩
    · rw [if_neg h]
      rcases findS_spec f r (i + 1) with ⟨h1, h2⟩ | ⟨n, h1, h2, s', h3, h4⟩
      · exact .inl ⟨h1, by intro t ht; rcases List.mem_cons.1 ht with rfl | ht; exact h; exact h2 t ht⟩
      · exact .inr ⟨n + 1, by simp; omega, by rw [h2]; push_cast; omega, s', by simp [h3], h4⟩
theorem findS_idx (f : Flow) (a : List Stream) : (findS f a 0 = -1 ∧ ∀ s ∈ a, s.1 ≠ f) ∨ ∃ x, 0 ≤ findS f a 0 ∧ idx a (findS f a 0) = some x := by
  rcases findS_spec f a 0 with h | ⟨n, h1, h2, _⟩
  · exact .inl h
  · refine .inr ⟨a[n], by rw [h2]; omega, ?_⟩
    rw [h2, Int.zero_add]; exact idx_lt h1

theorem stream_eq (p q : Stream) : ((p.1.1 == q.1.1) && ((p.1.2.1 == q.1.2.1) && ((p.1.2.2.1 == q.1.2.2.1) && ((p.1.2.2.2.1 == q.1.2.2.2.1) && ((p.1.2.2.2.2 == q.1.2.2.2.2) && ((p.2.1 == q.2.1) && ((p.2.2.1 == q.2.2.1) && ((p.2.2.2 == q.2.2.2) && true)))))))) = decide (p = q) := by
  obtain ⟨⟨a, b, c, d, e⟩, x, y, z⟩ := p
  obtain ⟨⟨a', b', c', d', e'⟩, x', y', z'⟩ := q
  rw [Bool.eq_iff_iff]; simp [and_assoc]

/-- the first streams of a flow exist and agree -/
def agree (a b : List Stream) (f : Flow) : Bool :=
  match idx a (findS f a 0), idx b (findS f b 0) with
  | some x, some y => decide (x = y)
  | _, _ => false
theorem agree_comm (a b : List Stream) (f : Flow) : agree a b f = agree b a f := by
  unfold agree
  cases idx a (findS f a 0) <;> cases idx b (findS f b 0) <;> simp [eq_comm]

theorem sameFirst_eq (a b : List Stream) (f : Flow) (ha : a.length ≤ 1073741824) (hb : b.length ≤ 1073741824) : impl_sameFirst a b f = some (agree a b f) := by
  unfold impl_sameFirst agree
  rw [implIndex a f ha, implIndex b f hb]
  simp only [bindO_some, stream_eq]
  rcases findS_idx f a with ⟨h1, _⟩ | ⟨x, h1, h2⟩
  · rw [h1]; rfl
  · rw [decide_eq_true (show findS f a 0 ≥ 0 from h1), h2]
    rcases findS_idx f b with ⟨k1, _⟩ | ⟨y, k1, k2⟩
    · rw [k1]; rfl
    · rw [decide_eq_true (show findS f b 0 ≥ 0 from k1), k2]
      simp

theorem all_iter {T : (Int → Option Bool) → Int → Option Bool} {fin : Option Bool} (p : Stream → Bool) (a : List Stream) (h : a.length ≤ 1073741824)
    (hs : ∀ i (hi : i < a.length) nx, T nx (i : Int) = cond (!(p a[i])) (some false) (nx ((i + 1 : Nat) : Int))) (hf : ∀ nx, T nx (a.length : Int) = fin) :
    iterL T fuel 0 = cond (a.all p) fin (some false) := by
  have hfu := fuel_ge
  have key : ∀ n i, i ≤ a.length → a.length - i < n → iterL T n (i : Int) = cond ((a.drop i).all p) fin (some false) := by
    intro n
    induction n with
    | zero => intro i _ h; omega
    | succ n ih =>
      intro i hi hn
      rw [iterL]
      rcases Nat.lt_or_ge i a.length with hlt | hge
      · rw [hs i hlt, List.drop_eq_getElem_cons hlt, List.all_cons]
        cases hq : p a[i] with
        | false => rfl
        | true => exact ih (i + 1) (by omega) (by omega)
      · have : i = a.length := by omega
        subst this
        rw [hf, List.drop_length]; rfl
  exact key fuel 0 (by omega) (by omega)

theorem implSame (a b : List Stream) (ha : a.length ≤ 1073741824) (hb : b.length ≤ 1073741824) : impl_SameData a b = some (a.all (fun s => agree a b s.1) && b.all (fun s => agree a b s.1)) := by
  unfold impl_SameData
  rw [all_iter (fun s => agree a b s.1) a ha (fun i hi nx => ?hs) (fun nx => ?hf)]
  case hs =>
    simp only [impl_SameData_T2]
    rw [decide_eq_true (by omega), idx_lt hi, wrap64 (by omega) (by omega)]
    simp only [cond_true, bindO_some, sameFirst_eq _ _ _ ha hb]
    rfl
  case hf =>
    simp only [impl_SameData_T2]
    rw [decide_eq_false (by omega)]
    simp only [cond_false]
    rfl
  rw [all_iter (fun s => agree a b s.1) b hb (fun i hi nx => ?hs) (fun nx => ?hf)]
  case hs =>
    simp only [impl_SameData_T8]
    rw [decide_eq_true (by omega), idx_lt hi, wrap64 (by omega) (by omega)]
    simp only [cond_true, bindO_some, sameFirst_eq _ _ _ ha hb]
    rfl
  case hf =>
    simp only [impl_SameData_T8]
    rw [decide_eq_false (by omega)]
    simp only [cond_false]
    rfl
  cases a.all (fun s => agree a b s.1) <;> cases b.all (fun s => agree a b s.1) <;> rfl

theorem specWithin (a b : List Stream) (ha : a.length ≤ 1073741824) (hb : b.length ≤ 1073741824) : spec_l40Within a b = some (a.all (fun s => agree a b s.1)) := by
  unfold spec_l40Within
  rw [all_iter (fun s => agree a b s.1) a ha (fun i hi nx => ?hs) (fun nx => ?hf)]
  case hs =>
    simp only [spec_l40Within_T2]
    rw [decide_eq_true (by omega), idx_lt hi, wrap64 (by omega) (by omega)]
    simp only [cond_true, bindO_some, specIndex _ _ ha, specIndex _ _ hb, stream_eq]
    rcases findS_idx a[i].1 a with ⟨h1, h3⟩ | ⟨x, h1, h2⟩
    · exact absurd rfl (h3 a[i] (List.getElem_mem hi))
    · unfold agree
      rw [h2]
      rcases findS_idx a[i].1 b with ⟨k1, _⟩ | ⟨y, k1, k2⟩
      · rw [k1]; rfl
      · rw [decide_eq_false (show ¬ findS a[i].1 b 0 < 0 by omega), k2]
        simp
  case hf =>
    simp only [spec_l40Within_T2]
    rw [decide_eq_false (by omega)]
    simp only [cond_false]
    rfl
  cases a.all (fun s => agree a b s.1) <;> rfl

theorem specSame (a b : List Stream) (ha : a.length ≤ 1073741824) (hb : b.length ≤ 1073741824) : spec_SameData a b = some (a.all (fun s => agree a b s.1) && b.all (fun s => agree a b s.1)) := by
  unfold spec_SameData
  rw [specWithin a b ha hb, specWithin b a hb ha]
  have : (fun s : Stream => agree b a s.1) = fun s => agree a b s.1 := funext fun s => agree_comm b a s.1
  rw [this]
  simp only [bindO_some]
  cases a.all (fun s => agree a b s.1) <;> rfl


end Go.Pu
