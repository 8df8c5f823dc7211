import Derived.Test.YtjilbinhppledaaPuCodec
/- Marks: what is written into data is found there again. -/
namespace Go.Pu
open Go.Dn

/-- marks are found again: n numbers are used -/
def MarkOk {α : Type} (mark : α → Int → Option (Int × α)) (held : α → Int → Option Int) (x : α) (n : Nat) : Prop :=
  ∀ k : Int, 1 ≤ k → k + n ≤ 1000000000000000 → ∃ x', mark x k = some (k + n, x') ∧ held x' k = some (k + n)

def markListT {α R : Type} (g : Int → Option α) (k0 : List α → Int → Int → List α → Option R) (nx : (List α × Int × Int × List α) → Option R) (x : List α × Int × Int × List α) : Option R :=
  cond (decide (x.2.2.1 < ((List.length x.1 : Int)))) (
    bindO (g x.2.1) fun r1 =>
    bindO (idx x.1 x.2.2.1) fun _ =>
    bindO (idx x.2.2.2 x.2.2.1) fun _ =>
    nx (List.set x.2.2.2 (Int.toNat x.2.2.1) r1, IntKind.wrap .i64 (x.2.1 + 1), IntKind.wrap .i64 (x.2.2.1 + 1), List.set x.2.2.2 (Int.toNat x.2.2.1) r1)) (
    k0 x.2.2.2 x.2.1 x.2.2.1 x.2.2.2)
noncomputable def markListG {α : Type} (g : Int → Option α) (a0 : List α) (a1 : Int) : Option (Int × List α) :=
  iterL (markListT g (fun _ y5 _ y7 => some (y5, y7))) fuel (a0, a1, 0, a0)

def heldListT {α R : Type} [BEq α] (g : Int → Option α) (k0 : Int → Int → Option R) (k1 : Int → Int → Int → Option R) (v0 : List α) (nx : (Int × Int) → Option R) (x : Int × Int) : Option R :=
  cond (decide (x.2 < ((List.length v0 : Int)))) (
    bindO (idx v0 x.2) fun x1 =>
    bindO (g x.1) fun r2 =>
    cond (!(x1 == r2)) (
      k1 x.1 (-1) x.2) (
      nx (IntKind.wrap .i64 (x.1 + 1), IntKind.wrap .i64 (x.2 + 1)))) (
    k0 x.1 x.2)
noncomputable def heldListG {α : Type} [BEq α] (g : Int → Option α) (a0 : List α) (a1 : Int) : Option Int :=
  iterL (heldListT g (fun y3 _ => some y3) (fun _ y6 _ => some y6) a0) fuel (a1, 0)

theorem map_range_set {α : Type} (f : Nat → α) (xs : List α) (i : Nat) (h : i < xs.length) :
    List.set ((List.range i).map f ++ xs.drop i) i (f i) = (List.range (i + 1)).map f ++ xs.drop (i + 1) := by
  rw [List.set_append_right _ _ (by simp), List.length_map, List.length_range, Nat.sub_self, List.drop_eq_getElem_cons h, List.set_cons_zero, List.range_succ, List.map_append]
  simp

theorem markListG_eq {α : Type} {g : Int → Option α} {f : Int → α} {xs : List α} {k : Int} (hk : 1 ≤ k) (hm : k + xs.length ≤ 1000000000000000) (hl : xs.length ≤ 1000000000000) (hg : ∀ j : Int, 1 ≤ j → j ≤ 1000000000000000 → g j = some (f j)) :
    markListG g xs k = some (k + xs.length, (List.range xs.length).map fun i : Nat => f (k + i)) := by
  unfold markListG
  have hfu := fuel_ge
  have key := iter_up (T := markListT g (fun _ y5 _ y7 => some (y5, y7))) xs.length
    (fun (_ : Unit) i => ((List.range i).map (fun i : Nat => f (k + i)) ++ xs.drop i, k + (i : Int), (i : Int), (List.range i).map (fun i : Nat => f (k + i)) ++ xs.drop i)) (fun _ s c => c s)
    (fun _ => some (k + xs.length, (List.range xs.length).map fun i : Nat => f (k + i)))
    (fun i s nx hi => by
      have hl2 : i < ((List.range i).map (fun i : Nat => f (k + i)) ++ xs.drop i).length := by simp; omega
      have hl3 : ((List.range i).map (fun i : Nat => f (k + i)) ++ xs.drop i).length = xs.length := by simp; omega
      simp only [markListT]
      rw [decide_eq_true (by rw [hl3]; omega), hg _ (by omega) (by omega), idx_lt hl2, wrap64 (by omega) (by omega), wrap64 (by omega) (by omega)]
      simp only [cond_true, bindO_some, Int.toNat_natCast, map_range_set (fun i : Nat => f (k + i)) xs i hi]
      congr 3
      omega)
    (fun s nx => by
      simp only [markListT]
      rw [decide_eq_false (by simp)]
      simp)
    fuel 0 () (by omega) (by omega)
  simp only [List.range_zero, List.map_nil, List.nil_append, List.drop_zero, Nat.sub_zero] at key
  have e : ((0 : Nat) : Int) = 0 := rfl
  rw [e, Int.add_zero] at key
  rw [key]
  have : ∀ n i, upK (R := Int × List α) (fun _ (s : Unit) c => c s) (fun _ => some (k + xs.length, (List.range xs.length).map fun i : Nat => f (k + i))) xs.length n i () = some (k + xs.length, (List.range xs.length).map fun i : Nat => f (k + i)) := by
    intro n
    induction n with
    | zero => intro i; rfl
    | succ n ih => intro i; rw [upK]; exact ih _
  exact this _ _

theorem heldListG_eq {α : Type} [BEq α] [LawfulBEq α] {g : Int → Option α} {f : Int → α} {n : Nat} {k : Int} (hk : 1 ≤ k) (hm : k + n ≤ 1000000000000000) (hl : n ≤ 1000000000000) (hg : ∀ j : Int, 1 ≤ j → j ≤ 1000000000000000 → g j = some (f j)) :
    heldListG g ((List.range n).map fun i : Nat => f (k + i)) k = some (k + n) := by
  unfold heldListG
  have hfu := fuel_ge
  have key := iter_up (T := heldListT g (fun y3 _ => some y3) (fun _ y6 _ => some y6) ((List.range n).map fun i : Nat => f (k + i))) n
    (fun (_ : Unit) i => (k + (i : Int), (i : Int))) (fun _ s c => c s) (fun _ => some (k + n))
    (fun i s nx hi => by
      have hl2 : i < ((List.range n).map fun i : Nat => f (k + i)).length := by simp; omega
      simp only [heldListT]
      rw [decide_eq_true (by simp; omega), idx_lt hl2, hg _ (by omega) (by omega), wrap64 (by omega) (by omega), wrap64 (by omega) (by omega)]
      simp only [cond_true, bindO_some, List.getElem_map, List.getElem_range, beq_self_eq_true, Bool.not_true, cond_false]
      congr 2
      omega)
    (fun s nx => by
      simp only [heldListT]
      rw [decide_eq_false (by simp)]
      simp)
    fuel 0 () (by omega) (by omega)
  have e : ((0 : Nat) : Int) = 0 := rfl
  simp only [Nat.sub_zero] at key
  rw [e, Int.add_zero] at key
  rw [key]
  have : ∀ m i, upK (R := Int) (fun _ (s : Unit) c => c s) (fun _ => some (k + n)) n m i () = some (k + n) := by
    intro m
    induction m with
    | zero => intro i; rfl
    | succ m ih => intro i; rw [upK]; exact ih _
  exact this _ _

theorem MarkOk.list {α : Type} [BEq α] [LawfulBEq α] {g : Int → Option α} {f : Int → α} (hg : ∀ j : Int, 1 ≤ j → j ≤ 1000000000000000 → g j = some (f j)) {xs : List α} (hl : xs.length ≤ 1000000000000) : MarkOk (markListG g) (heldListG g) xs xs.length :=
  fun _ hk hm => ⟨_, markListG_eq hk hm hl hg, heldListG_eq hk hm hl hg⟩

theorem markText_loop {R : Type} (K : Int → Bytes → Option R) : ∀ (n : Nat) (v : Int) (s : Bytes) (m : Nat), 0 ≤ v → v ≤ 1000000000000000 → v < 10 ^ n → s.length + n ≤ 1000 → n < m → ∃ s' : Bytes, s'.length ≤ 1000 ∧ ∃ v', iterL (laws_markText_T4 K) m (v, s) = K v' s'
  | 0, v, s, m, h0, _, h1, hs, hm => by
    have hv : v = 0 := by simp at h1; omega
    subst hv
    cases m with
    | zero => omega
    | succ m => exact ⟨s, by omega, 0, by rw [iterL]; rfl⟩
  | n + 1, v, s, m, h0, hb, h1, hs, hm => by
    cases m with
    | zero => omega
    | succ m =>
      rw [iterL]
      simp only [laws_markText_T4]
      by_cases hv : v > 0
      · have hq : Int.tdiv v 10 = v / 10 := Int.tdiv_eq_ediv_of_nonneg h0
        rw [decide_eq_true hv]
        simp only [cond_true]
        rw [if_neg (by omega), room_le (by simp [bytesOf]; omega), if_neg (by omega), hq, wrap64 (n := v / 10) (by omega) (by omega)]
        exact markText_loop K n (v / 10) _ m (by omega) (by omega) (by rw [Int.pow_succ] at h1; omega) (by simp [bytesOf]; omega) (by omega)
      · rw [decide_eq_false hv]
        exact ⟨s, by omega, v, rfl⟩

theorem markText_some (k : Int) (h1 : 1 ≤ k) (h2 : k ≤ 1000000000000000) : ∃ s, laws_markText k = some s := by
  have hfu := fuel_ge
  unfold laws_markText
  rw [decide_eq_false (by omega)]
  simp only [cond_false]
  obtain ⟨s, hs, v, h⟩ := markText_loop (fun (_ : Int) (y2 : Bytes) => room (List.length ([109] : Bytes) + List.length y2) (some (([109] : Bytes) ++ y2))) 16 k [] fuel (by omega) h2 (by omega) (by simp) (by omega)
  rw [h, room_le (by simp; omega)]
  exact ⟨_, rfl⟩

noncomputable def txt (k : Int) : Bytes := (laws_markText k).getD []
theorem txt_eq (k : Int) (h1 : 1 ≤ k) (h2 : k ≤ 1000000000000000) : laws_markText k = some (txt k) := by
  obtain ⟨s, hs⟩ := markText_some k h1 h2
  rw [txt, hs]; rfl

theorem mark_StringS (a : List Bytes) (h : a.length ≤ 1000000000000) : MarkOk laws_markStringS laws_heldStringS a a.length := MarkOk.list (g := laws_markText) (f := txt) txt_eq h
theorem mark_IntS (a : List Int) (h : a.length ≤ 1000000000000) : MarkOk laws_markIntS laws_heldIntS a a.length := MarkOk.list (g := some) (f := fun x => x) (fun _ _ _ => rfl) h

/-- marks of a law's end: what was marked is held -/
theorem MarkOk.law {α : Type} {mark : α → Int → Option (Int × α)} {held : α → Int → Option Int} {x : α} {n : Nat} (h : MarkOk mark held x n) (hn : n ≤ 100000000000000) :
    ∃ m x', mark x 1 = some (m, x') ∧ held x' 1 = some m ∧ 0 ≤ m := by
  obtain ⟨x', h1, h2⟩ := h 1 (by omega) (by omega)
  exact ⟨_, x', h1, h2, by omega⟩

end Go.Pu
