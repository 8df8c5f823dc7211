import Derived.Test.YtclgaiiidllehacGreatPuCodec
/- Filters, rules, tables, spreads, steering: the program's and the reference's answers are one. -/
namespace Go.Pu
open Go.Dn
set_option linter.unusedSimpArgs false
noncomputable section

def inB (a lo hi : Int) : Bool := decide (lo ≤ a) && decide (a ≤ hi)
theorem inB_iff {a lo hi : Int} : inB a lo hi = true ↔ lo ≤ a ∧ a ≤ hi := by simp [inB]
theorem getD_lt {α : Type} {l : List α} {i : Nat} (h : i < l.length) (d : α) : l.getD i d = l[i] := by rw [List.getD_eq_getElem?_getD, List.getElem?_eq_getElem h]; rfl
theorem dec_true {p : Prop} [Decidable p] (h : p) : decide p = true := decide_eq_true h
theorem dec_false {p : Prop} [Decidable p] (h : ¬ p) : decide p = false := decide_eq_false h

-- filters
def vlanB (l : List Int) (i : Nat) : Bool := inB (l.getD i 0) 0 4095 && !(decide (0 < i) && decide (l.getD i 0 ≤ l.getD (i - 1) 0))
def filterB (f : Filter) : Bool := (List.range f.2.2.length).all (vlanB f.2.2) && (inB f.1 0 281474976710654 && decide ((f.2.2.length : Int) ≤ 8))

-- rules
-- home slots
theorem and7 (x : Int) : ((BitVec.ofInt 64 x &&& BitVec.ofInt 64 7).toNat : Int) = x % 8 := by
  have h7 : (BitVec.ofInt 64 7).toNat = 2 ^ 3 - 1 := by decide
  rw [BitVec.toNat_and, h7, Nat.and_two_pow_sub_one_eq_mod]
  simp only [BitVec.toNat_ofInt]
  omega
theorem and7' (x : Int) : ((BitVec.ofInt (IntKind.bits .i64) x &&& BitVec.ofInt (IntKind.bits .i64) 7).toNat : Int) = x % 8 := and7 x
def homeI (f : Flow) : Int := (f.1 % 8 + f.2.1 % 8 + f.2.2.1 % 8 + f.2.2.2.1 % 8 + f.2.2.2.2 % 8) % 8
theorem homeI_lt (f : Flow) : 0 ≤ homeI f ∧ homeI f < 8 := by unfold homeI; omega
theorem tmod8 {n : Int} (h : 0 ≤ n) : Int.tmod n 8 = n % 8 := Int.tmod_eq_emod_of_nonneg h
-- the table's ways
def slotAt (t : List Slot) (i : Nat) : Slot := t.getD i (0, (0, 0, 0, 0, 0), 0)
theorem slotAt_lt {t : List Slot} {i : Nat} (h : i < t.length) : slotAt t i = t[i] := getD_lt h _
def wayN (f : Flow) (k : Nat) : Nat := ((homeI f).toNat + k) % 8
theorem wayN_lt (f : Flow) (k : Nat) : wayN f k < 8 := Nat.mod_lt _ (by omega)
theorem wayN_int (f : Flow) (k : Nat) (h : k < 8) : Int.tmod (IntKind.wrap .i64 (homeI f + (k : Int))) 8 = (wayN f k : Int) := by
  have := homeI_lt f
  rw [wrap64 (by omega) (by omega), tmod8 (by omega), wayN]; omega
def usedB (s : Slot) (f : Flow) : Bool := (s.1 == 1) && decide (s.2.1 = f)
theorem flow_eq (p q : Flow) : ((p.1 == q.1) && ((p.2.1 == q.2.1) && ((p.2.2.1 == q.2.2.1) && ((p.2.2.2.1 == q.2.2.2.1) && ((p.2.2.2.2 == q.2.2.2.2) && true))))) = decide (p = q) := by
  obtain ⟨a, b, c, d, e⟩ := p
  obtain ⟨a', b', c', d', e'⟩ := q
  rw [Bool.eq_iff_iff]; simp
/-- the walk of the reference from step k on -/
def walk (t : List Slot) (f : Flow) : Nat → Nat → Int
  | 0, _ => -1
  | n + 1, k => if (slotAt t (wayN f k)).1 = 0 then -1 else if usedB (slotAt t (wayN f k)) f then (wayN f k : Int) else walk t f n (k + 1)
/-- the first used slot of a flow -/
def firstU (f : Flow) : List Slot → Int → Int
  | [], _ => -1
  | s :: r, i => if usedB s f then i else firstU f r (i + 1)
/-- no empty slot on the way to slot i, from step k on -/
def clear (t : List Slot) (f : Flow) (i : Nat) : Nat → Nat → Bool
  | 0, _ => true
  | n + 1, k => if wayN f k = i then true else if (slotAt t (wayN f k)).1 = 0 then false else clear t f i n (k + 1)
def flow0 : Flow := (0, 0, 0, 0, 0)
theorem flow0_eq (p : Flow) : ((p.1 == 0) && ((p.2.1 == 0) && ((p.2.2.1 == 0) && ((p.2.2.2.1 == 0) && ((p.2.2.2.2 == 0) && true))))) = decide (p = flow0) := flow_eq p flow0
/-- a slot, but for its place -/
def slotB (s : Slot) : Bool := inB s.1 0 2 && inB s.2.2 0 3 && ((s.1 == 1) || (s.2.2 == 0) && decide (s.2.1 = flow0))
def specSlotB (t : List Slot) (i : Nat) : Bool := slotB (slotAt t i) && (!((slotAt t i).1 == 1) || (walk t (slotAt t i).2.1 8 0 == (i : Int)))
def implSlotB (t : List Slot) (i : Nat) : Bool := slotB (slotAt t i) && (!((slotAt t i).1 == 1) || (firstU (slotAt t i).2.1 t 0 == (i : Int)) && clear t (slotAt t i).2.1 i 8 0)
def tableB (t : List Slot) : Bool := (t.length == 8) && (List.range 8).all (specSlotB t)

-- both say the same of the whole table
theorem walk_spec (t : List Slot) (f : Flow) (i : Nat) : ∀ n k, walk t f n k = (i : Int) → usedB (slotAt t i) f = true ∧ clear t f i n k = true ∧ ∃ j, j < n ∧ wayN f (k + j) = i
  | 0, k, h => by unfold walk at h; omega
  | n + 1, k, h => by
    unfold walk at h
    unfold clear
    by_cases h0 : (slotAt t (wayN f k)).1 = 0
    · rw [if_pos h0] at h; omega
    · rw [if_neg h0] at h
      by_cases h1 : usedB (slotAt t (wayN f k)) f = true
      · rw [if_pos h1] at h
        have : wayN f k = i := by omega
        subst this
        exact ⟨h1, by simp, 0, by omega, rfl⟩
      · rw [if_neg h1] at h
        obtain ⟨a, b, j, hj, e⟩ := walk_spec t f i n (k + 1) h
        refine ⟨a, ?_, j + 1, by omega, by rw [← e]; congr 1; omega⟩
        rw [if_neg h0, b]; split <;> rfl
theorem walk_of (t : List Slot) (f : Flow) (i : Nat) (hu : usedB (slotAt t i) f = true) (huniq : ∀ j, j < 8 → usedB (slotAt t j) f = true → j = i) : ∀ n k, clear t f i n k = true → (∃ j, j < n ∧ wayN f (k + j) = i) → walk t f n k = (i : Int)
  | 0, k, _, h => by obtain ⟨j, hj, _⟩ := h; omega
  | n + 1, k, hc, ⟨j, hj, e⟩ => by
    unfold walk
    unfold clear at hc
    by_cases h1 : wayN f k = i
    · rw [h1, if_neg, if_pos hu]
      intro h0
      unfold usedB at hu
      rw [h0] at hu
      simp at hu
    · rw [if_neg h1] at hc
      by_cases h0 : (slotAt t (wayN f k)).1 = 0
      · rw [if_pos h0] at hc; cases hc
      · rw [if_neg h0] at hc
        rw [if_neg h0, if_neg (fun hu' => h1 (huniq _ (wayN_lt f k) hu'))]
        refine walk_of t f i hu huniq n (k + 1) hc ?_
        cases j with
        | zero => exact absurd e h1
        | succ j => exact ⟨j, by omega, by rw [← e]; congr 1; omega⟩
theorem way_all (f : Flow) (i : Nat) (hi : i < 8) : ∃ j, j < 8 ∧ wayN f (0 + j) = i := by
  have := homeI_lt f
  refine ⟨(i + 8 - (homeI f).toNat) % 8, by omega, ?_⟩
  unfold wayN; omega
theorem firstU_spec (f : Flow) : ∀ (t : List Slot) (m : Nat), (∃ j, j < t.length ∧ usedB (slotAt t j) f = true) → ∃ j, j < t.length ∧ usedB (slotAt t j) f = true ∧ firstU f t m = ((m + j : Nat) : Int)
  | [], _, h => by obtain ⟨j, hj, _⟩ := h; simp at hj
  | s :: r, m, ⟨j, hj, e⟩ => by
    unfold firstU
    by_cases hs : usedB s f = true
    · rw [if_pos hs]; exact ⟨0, by simp, by simpa [slotAt] using hs, by simp⟩
    · rw [if_neg hs]
      cases j with
      | zero => exact absurd (by simpa [slotAt] using e) hs
      | succ j =>
        obtain ⟨j', h1, h2, h3⟩ := firstU_spec f r (m + 1) ⟨j, by simpa using hj, by simpa [slotAt] using e⟩
        refine ⟨j' + 1, by simpa using h1, by simpa [slotAt] using h2, ?_⟩
        have : ((m : Int) + 1) = ((m + 1 : Nat) : Int) := by omega
        rw [this, h3]; congr 1; omega

theorem slots_same (t : List Slot) (ht : t.length = 8) : (List.range 8).all (implSlotB t) = (List.range 8).all (specSlotB t) := by
  rw [Bool.eq_iff_iff, List.all_eq_true, List.all_eq_true]
  simp only [List.mem_range]
  constructor
  · intro h i hi
    have hI := h i hi
    unfold implSlotB at hI
    unfold specSlotB
    simp only [Bool.and_eq_true, Bool.or_eq_true, Bool.not_eq_true', beq_iff_eq] at hI ⊢
    refine ⟨hI.1, ?_⟩
    rcases hI.2 with h1 | ⟨h1, h2⟩
    · exact .inl h1
    · by_cases hu : ((slotAt t i).1 == 1) = true
      · right
        have hu' : usedB (slotAt t i) (slotAt t i).2.1 = true := by unfold usedB; rw [hu]; simp
        refine walk_of t _ i hu' (fun j hj huj => ?_) 8 0 h2 (way_all _ i hi)
        have hJ := h j hj
        unfold implSlotB at hJ
        unfold usedB at huj
        simp only [Bool.and_eq_true, decide_eq_true_eq] at huj
        simp only [Bool.and_eq_true, Bool.or_eq_true, Bool.not_eq_true', beq_iff_eq] at hJ
        rcases hJ.2 with h3 | ⟨h3, _⟩
        · rw [huj.1] at h3; cases h3
        · rw [huj.2] at h3; omega
      · exact .inl (by simpa using hu)
  · intro h i hi
    have hI := h i hi
    unfold specSlotB at hI
    unfold implSlotB
    simp only [Bool.and_eq_true, Bool.or_eq_true, Bool.not_eq_true', beq_iff_eq] at hI ⊢
    refine ⟨hI.1, ?_⟩
    rcases hI.2 with h1 | h1
    · exact .inl h1
    · right
      obtain ⟨hu, hc, _⟩ := walk_spec t _ i 8 0 h1
      refine ⟨?_, hc⟩
      obtain ⟨j, hj, huj, e⟩ := firstU_spec (slotAt t i).2.1 t 0 ⟨i, by omega, hu⟩
      have hJ := h j (by omega)
      unfold specSlotB at hJ
      unfold usedB at huj
      simp only [Bool.and_eq_true, decide_eq_true_eq] at huj
      simp only [Bool.and_eq_true, Bool.or_eq_true, Bool.not_eq_true', beq_iff_eq] at hJ
      rcases hJ.2 with h3 | h3
      · rw [huj.1] at h3; cases h3
      · rw [huj.2, h1] at h3
        have e' : firstU (slotAt t i).2.1 t 0 = ((0 + j : Nat) : Int) := e
        rw [e']; omega
-- spreads
def sizeB (n : Int) : Bool := (n == 1) || (n == 2) || (n == 4) || (n == 8) || (n == 16)
def spreadB (s : Spread) (q : Int) : Bool := inB q 1 4 && ((s.1.length : Int) == 16) && sizeB s.2.length && s.2.all fun x => inB x 0 (q - 1)
-- steering
end

end Go.Pu
