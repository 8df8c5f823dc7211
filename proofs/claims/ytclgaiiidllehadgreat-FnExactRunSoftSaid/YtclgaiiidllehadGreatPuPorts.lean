import Derived.Test.YtclgaiiidllehadGreatPuSteer
/- Ports of a card: the program's and the reference's lists are one. -/
namespace Go.Pu
open Go.Dn
set_option linter.unusedSimpArgs false
set_option linter.unusedVariables false
noncomputable section

def hasB (l : List Int) (v : Int) : Bool := l.any (· == v)
theorem hasB_iff {l : List Int} {v : Int} : hasB l v = true ↔ v ∈ l := by
  simp only [hasB, List.any_eq_true, beq_iff_eq]
  constructor
  · rintro ⟨x, hx, rfl⟩; exact hx
  · intro h; exact ⟨v, h, rfl⟩
theorem specHas (l : List Int) (v : Int) (h : l.length ≤ 1000000000) : spec_l24Has l v = some (hasB l v) := by
  unfold spec_l24Has hasB
  rw [any_iter (hit := some true) (fin := some false) (fun x : Int => x == v) l (by omega) (fun i hi nx => ?hs) (fun nx => ?hf)]
  case hs =>
    simp only [spec_l24Has_T2]
    rw [decide_eq_true (by omega), idx_lt hi, wrap64 (by omega) (by omega)]; rfl
  case hf =>
    simp only [spec_l24Has_T2]
    rw [decide_eq_false (by omega)]; rfl
  cases l.any (fun x => x == v) <;> rfl
theorem implHas (l : List Int) (v : Int) (h : l.length ≤ 1000000000) : impl_hasInt l v = some (hasB l v) := specHas l v h

/-- a number into its place -/
def ins (v : Int) : List Int → List Int
  | [] => [v]
  | x :: l => bif decide (v < x) then v :: x :: l else x :: ins v l
theorem ins_len (v : Int) : ∀ l, (ins v l).length = l.length + 1
  | [] => rfl
  | x :: l => by
    rw [ins]
    cases decide (v < x) with
    | true => rfl
    | false => simp only [cond_false, List.length_cons, ins_len v l]
theorem mem_ins (v x : Int) : ∀ l, x ∈ ins v l ↔ x = v ∨ x ∈ l
  | [] => by simp [ins]
  | y :: l => by
    rw [ins]
    cases decide (v < y) with
    | true => simp
    | false => simp only [cond_false, List.mem_cons, mem_ins v x l]; constructor <;> (rintro (h | h | h) <;> simp [h])
theorem ins_at (v : Int) : ∀ l : List Int, v ∉ l → l.take (l.findIdx (fun x => !decide (x < v))) ++ [v] ++ l.drop (l.findIdx (fun x => !decide (x < v))) = ins v l
  | [], _ => rfl
  | x :: l, h => by
    rw [ins, List.findIdx_cons]
    have hx : v ≠ x := fun e => h (by simp [e])
    have hl : v ∉ l := fun e => h (by simp [e])
    by_cases c : x < v
    · rw [decide_eq_true c, decide_eq_false (show ¬ v < x by omega)]
      have := ins_at v l hl
      simpa using this
    · rw [decide_eq_false c, decide_eq_true (show v < x by omega)]; rfl
def addV (l : List Int) (v : Int) : List Int := bif hasB l v then l else ins v l
theorem addV_len (l : List Int) (v : Int) : (addV l v).length ≤ l.length + 1 := by
  unfold addV
  cases hasB l v with
  | true => simp
  | false => simp only [cond_false, ins_len]; omega
theorem mem_addV {l : List Int} {v x : Int} (h : x ∈ l) : x ∈ addV l v := by
  unfold addV
  cases hasB l v with
  | true => exact h
  | false => exact (mem_ins v x l).2 (.inr h)
theorem addV_self {l : List Int} {v : Int} (h : v ∈ l) : addV l v = l := by
  unfold addV; rw [hasB_iff.2 h]; rfl
theorem union_len : ∀ (vs l : List Int), (vs.foldl addV l).length ≤ l.length + vs.length
  | [], l => by simp
  | v :: vs, l => by
    have := union_len vs (addV l v)
    have := addV_len l v
    simp only [List.foldl_cons, List.length_cons]; omega
theorem mem_union : ∀ (vs : List Int) {l : List Int} {x : Int}, x ∈ l → x ∈ vs.foldl addV l
  | [], _, _, h => h
  | v :: vs, l, x, h => mem_union vs (l := addV l v) (mem_addV h)
theorem find_idx {α R : Type} (p : α → Bool) (k : Int → Option R) (l : List α) : (match l.findIdx? p with | some i => k (i : Int) | none => k (l.length : Int)) = k (l.findIdx p : Int) := by
  cases h : l.findIdx? p with
  | none => rw [List.findIdx?_eq_none_iff_findIdx_eq] at h; rw [h]
  | some i => rw [List.findIdx?_eq_some_iff_findIdx_eq] at h; rw [h.2]
theorem sub_take {α : Type} (l : List α) (j : Nat) (h : j ≤ l.length) : sub l 0 (j : Int) = some (l.take j) := by
  unfold sub; rw [if_pos (by omega)]; simp
theorem sub_drop {α : Type} (l : List α) (j : Nat) (h : j ≤ l.length) : sub l (j : Int) (l.length : Int) = some (l.drop j) := by
  unfold sub; rw [if_pos (by omega)]; simp
-- ports
theorem range_pred (i : Nat) (q : Nat → Bool) : (List.range (i - 1)).all (fun j => !(q (j + 1))) = (List.range i).all (fun j => !((j != 0) && q j)) := by
  rw [Bool.eq_iff_iff, List.all_eq_true, List.all_eq_true]
  simp only [List.mem_range]
  constructor
  · intro h j hj
    cases j with
    | zero => rfl
    | succ j =>
      have := h j (by omega)
      simpa using this
  · intro h j hj
    have := h (j + 1) (by omega)
    simpa using this
def firstN (p : Nat → Bool) : List Nat → Int
  | [] => -1
  | j :: r => bif p j then (j : Int) else firstN p r
theorem first_at (p : Nat → Bool) : ∀ n s i, s ≤ i → i < s + n → p i = true → (firstN p (List.range' s n) == (i : Int)) = (List.range' s (i - s)).all (fun j => !(p j))
  | 0, s, i, h1, h2, _ => by omega
  | n + 1, s, i, h1, h2, hp => by
    rw [List.range'_succ, firstN]
    rcases Nat.lt_or_ge s i with hlt | hge
    · obtain ⟨k, hk⟩ : ∃ k, i - s = k + 1 := ⟨i - s - 1, by omega⟩
      rw [hk, List.range'_succ, List.all_cons]
      cases hps : p s with
      | true =>
        simp only [cond_true, Bool.not_true, Bool.false_and]
        have : ¬ (s : Int) = (i : Int) := by omega
        simpa using this
      | false =>
        simp only [cond_false, Bool.not_false, Bool.true_and]
        rw [first_at p n (s + 1) i (by omega) (by omega) hp, show i - (s + 1) = k by omega]
    · have : s = i := by omega
      subst this
      rw [hp, Nat.sub_self]
      simp
theorem runG_first {R : Type} (p : Nat → Bool) (hit : Nat → Option R) (fin : Option R) (k : Int → Option R) (h1 : ∀ j : Nat, hit j = k (j : Int)) (h2 : fin = k (-1)) : ∀ l : List Nat, runG (fun (j : Nat) (s : Unit) => bif p j then .error (hit j) else .ok ()) (fun _ => fin) l () = k (firstN p l)
  | [] => h2
  | j :: l => by
    rw [runG, firstN]
    cases p j with
    | true => exact h1 j
    | false => exact runG_first p hit fin k h1 h2 l
-- mailboxes and their ports
theorem runG_all {α σ R : Type} (p : α → Bool) (f : σ → α → σ) (r : Option R) (fin : σ → Option R) : ∀ (l : List α) (s : σ), runG (fun x s => bif p x then .ok (f s x) else .error r) fin l s = bif l.all p then fin (l.foldl f s) else r
  | [], s => rfl
  | x :: l, s => by
    rw [runG, List.all_cons, List.foldl_cons]
    cases p x with
    | false => rfl
    | true => simp only [cond_true, Bool.true_and]; exact runG_all p f r fin l (f s x)
end

end Go.Pu
