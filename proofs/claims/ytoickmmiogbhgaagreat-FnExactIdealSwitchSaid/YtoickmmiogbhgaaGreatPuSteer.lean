import Derived.Test.YtoickmmiogbhgaaGreatPuCodec
/- Filters, rules, tables, spreads, steering: the program's and the reference's answers are one. -/
namespace Go.Pu
open Go.Dn
set_option linter.unusedSimpArgs false
noncomputable section

def inB (a lo hi : Int) : Bool := decide (lo ≤ a) && decide (a ≤ hi)
theorem inB_iff {a lo hi : Int} : inB a lo hi = true ↔ lo ≤ a ∧ a ≤ hi := by simp [inB]
theorem l01In_eq (a b c : Int) : spec_l01In a b c = some (inB a b c) := by
  simp only [spec_l01In, cond_some, bindO_some, inB]
  cases h : decide (a ≥ b) <;> rfl
theorem between_eq (a b c : Int) : impl_between a b c = some (inB a b c) := l01In_eq a b c

theorem getD_lt {α : Type} {l : List α} {i : Nat} (h : i < l.length) (d : α) : l.getD i d = l[i] := by rw [List.getD_eq_getElem?_getD, List.getElem?_eq_getElem h]; rfl
theorem dec_true {p : Prop} [Decidable p] (h : p) : decide p = true := decide_eq_true h
theorem dec_false {p : Prop} [Decidable p] (h : ¬ p) : decide p = false := decide_eq_false h

-- filters
def vlanB (l : List Int) (i : Nat) : Bool := inB (l.getD i 0) 0 4095 && !(decide (0 < i) && decide (l.getD i 0 ≤ l.getD (i - 1) 0))
def filterB (f : Filter) : Bool := (List.range f.2.2.length).all (vlanB f.2.2) && (inB f.1 0 281474976710654 && decide ((f.2.2.length : Int) ≤ 8))

theorem specFilter (f : Filter) (h : f.2.2.length ≤ 1000000000) : spec_FilterOk f = some (filterB f) := by
  unfold spec_FilterOk
  rw [alln_iter (hit := some false) (fin := some (inB f.1 0 281474976710654 && decide ((f.2.2.length : Int) ≤ 8))) (vlanB f.2.2) f.2.2.length (by omega) (fun i nx hi => ?hs) (fun nx => ?hf)]
  case hs =>
    simp only [spec_FilterOk_T2]
    rw [decide_eq_true (by omega), idx_lt hi, wrap64 (n := (i : Int) + 1) (by omega) (by omega)]
    simp only [cond_true, bindO_some, l01In_eq, vlanB, getD_lt hi]
    by_cases h0 : 0 < i
    · have e : IntKind.wrap .i64 ((i : Int) - 1) = ((i - 1 : Nat) : Int) := by rw [wrap64 (by omega) (by omega)]; omega
      have hp : i - 1 < f.2.2.length := by omega
      rw [e, idx_lt hp, decide_eq_true (show (i : Int) > 0 by omega), decide_eq_true h0, getD_lt hp]
      simp only [cond_true, bindO_some, Bool.true_and]
      cases inB f.2.2[i] 0 4095 <;> cases decide (f.2.2[i] ≤ f.2.2[i - 1]) <;> rfl
    · rw [decide_eq_false (show ¬ (i : Int) > 0 by omega), decide_eq_false h0]
      simp only [cond_false, Bool.false_and]
      cases inB f.2.2[i] 0 4095 <;> rfl
  case hf =>
    simp only [spec_FilterOk_T2]
    rw [decide_eq_false (by omega)]
    simp only [cond_false, l01In_eq, bindO_some, bindO_cond_some, cond_some]
    cases inB f.1 0 281474976710654 <;> rfl
  unfold filterB
  cases (List.range f.2.2.length).all (vlanB f.2.2) <;> rfl

theorem implFilter (f : Filter) (h : f.2.2.length ≤ 1000000000) : impl_FilterOk f = some (filterB f) := by
  unfold impl_FilterOk
  rw [alln_iter (hit := some false) (fin := some (inB f.1 0 281474976710654 && decide ((f.2.2.length : Int) ≤ 8))) (vlanB f.2.2) f.2.2.length (by omega) (fun i nx hi => ?hs) (fun nx => ?hf)]
  case hs =>
    simp only [impl_FilterOk_T2]
    rw [decide_eq_true (by omega), idx_lt hi, wrap64 (n := (i : Int) + 1) (by omega) (by omega)]
    simp only [cond_true, bindO_some, between_eq, vlanB, getD_lt hi]
    by_cases h0 : 0 < i
    · have e : IntKind.wrap .i64 ((i : Int) - 1) = ((i - 1 : Nat) : Int) := by rw [wrap64 (by omega) (by omega)]; omega
      have hp : i - 1 < f.2.2.length := by omega
      rw [e, idx_lt hp, decide_eq_true (show (i : Int) > 0 by omega), decide_eq_true h0, getD_lt hp]
      simp only [cond_true, bindO_some, Bool.true_and, ge_iff_le]
      cases inB f.2.2[i] 0 4095 <;> cases decide (f.2.2[i] ≤ f.2.2[i - 1]) <;> rfl
    · rw [decide_eq_false (show ¬ (i : Int) > 0 by omega), decide_eq_false h0]
      simp only [cond_false, Bool.false_and]
      cases inB f.2.2[i] 0 4095 <;> rfl
  case hf =>
    simp only [impl_FilterOk_T2]
    rw [decide_eq_false (by omega)]
    simp only [cond_false, between_eq, bindO_some, bindO_cond_some, cond_some]
    cases inB f.1 0 281474976710654 <;> rfl
  unfold filterB
  cases (List.range f.2.2.length).all (vlanB f.2.2) <;> rfl

-- rules
def ruleB (r : Rule) : Bool := (spec_RuleOk r).getD false
theorem specRule (r : Rule) : spec_RuleOk r = some (ruleB r) := by
  have : ∃ b, spec_RuleOk r = some b := by
    simp only [spec_RuleOk, l01In_eq, bindO_some, cond_some]
    exact ⟨_, rfl⟩
  obtain ⟨b, hb⟩ := this
  simp [ruleB, hb]
theorem implRule (r : Rule) : impl_RuleOk r = some (ruleB r) := specRule r
theorem ruleB_queue {r : Rule} (h : ruleB r = true) : r.2.2.2.2.2.2.2.1 = 0 ∨ r.2.2.2.2.2.2.2.2 = 0 := by
  by_cases h0 : r.2.2.2.2.2.2.2.1 = 0
  · exact .inl h0
  · by_cases h1 : r.2.2.2.2.2.2.2.2 = 0
    · exact .inr h1
    · exfalso
      have e0 : (r.2.2.2.2.2.2.2.1 == 0) = false := by simp [h0]
      have e1 : (r.2.2.2.2.2.2.2.2 == 0) = false := by simp [h1]
      revert h
      unfold ruleB
      simp only [spec_RuleOk, l01In_eq, bindO_some, cond_some, e0, e1, cond_false, Option.getD_some]
      have z : ∀ c : Bool, (bif c then false else false) = false := by intro c; cases c <;> rfl
      simp only [z]
      intro h
      cases h

def rulesB (l : List Rule) : Bool := l.all ruleB && decide ((l.length : Int) ≤ 12)
theorem specRules (l : List Rule) (h : l.length ≤ 1000000000) : spec_RulesOk l = some (rulesB l) := by
  unfold spec_RulesOk
  rw [all_iter' (hit := some false) (fin := some (decide ((l.length : Int) ≤ 12))) ruleB l (by omega) (fun i hi nx => ?hs) (fun nx => ?hf)]
  case hs =>
    simp only [spec_RulesOk_T2]
    rw [decide_eq_true (by omega), idx_lt hi, wrap64 (by omega) (by omega)]
    simp only [cond_true, bindO_some, specRule]; rfl
  case hf =>
    simp only [spec_RulesOk_T2]
    rw [decide_eq_false (by omega)]; rfl
  unfold rulesB
  cases l.all ruleB <;> rfl
theorem implRules (l : List Rule) (h : l.length ≤ 1000000000) : impl_RulesOk l = some (rulesB l) := by
  rw [← specRules l h]; rfl

-- home slots
theorem and7 (x : Int) : ((BitVec.ofInt 64 x &&& BitVec.ofInt 64 7).toNat : Int) = x % 8 := by
  have h7 : (BitVec.ofInt 64 7).toNat = 2 ^ 3 - 1 := by decide
  rw [BitVec.toNat_and, h7, Nat.and_two_pow_sub_one_eq_mod]
  simp only [BitVec.toNat_ofInt]
  omega
theorem and7' (x : Int) : ((BitVec.ofInt (IntKind.bits .i64) x &&& BitVec.ofInt (IntKind.bits .i64) 7).toNat : Int) = x % 8 := and7 x
theorem modulo8 (x : Int) : impl_modulo x 8 = some (x % 8) := by
  unfold impl_modulo
  rw [if_neg (by omega), Int.tmod_eq_emod]
  split
  · rw [decide_eq_false (by omega)]; simp
  · rw [decide_eq_true (by simp; omega), wrap64 (by simp; omega) (by simp; omega)]; simp
def homeI (f : Flow) : Int := (f.1 % 8 + f.2.1 % 8 + f.2.2.1 % 8 + f.2.2.2.1 % 8 + f.2.2.2.2 % 8) % 8
theorem homeI_lt (f : Flow) : 0 ≤ homeI f ∧ homeI f < 8 := by unfold homeI; omega
theorem tmod8 {n : Int} (h : 0 ≤ n) : Int.tmod n 8 = n % 8 := Int.tmod_eq_emod_of_nonneg h
theorem specHome (f : Flow) : spec_HomeSlot f = some (homeI f) := by
  unfold spec_HomeSlot
  generalize hL : [f.1, f.2.1, f.2.2.1, f.2.2.2.1, f.2.2.2.2] = L
  have hlen : L.length = 5 := by rw [← hL]; rfl
  have hfu := fuel_ge
  have key := iter_list (R := Int) (T := spec_HomeSlot_T4 (fun (y2 : Int) (y3 : Int) => if 8 = 0 then none else (some (Int.tmod y2 8))) L) L (fun (s : Int) i => (s, (i : Int)))
    (fun x s k => k (IntKind.wrap .i64 (s + IntKind.wrap .i64 (x % 8)))) (fun s => some (Int.tmod s 8))
    (fun i hi s nx => by
      simp only [spec_HomeSlot_T4]
      rw [decide_eq_true (by omega), idx_lt hi, wrap64 (n := (i : Int) + 1) (by omega) (by omega)]
      simp only [cond_true, bindO_some]
      rw [and7' L[i]]; rfl)
    (fun s nx => by
      simp only [spec_HomeSlot_T4]
      rw [decide_eq_false (by omega)]; rfl)
    fuel 0 0 (by omega) (by omega)
  refine key.trans ?_
  rw [← hL]
  simp only [List.drop_zero, foldK]
  rw [wrap64 (n := f.1 % 8) (by omega) (by omega), wrap64 (n := f.2.1 % 8) (by omega) (by omega), wrap64 (n := f.2.2.1 % 8) (by omega) (by omega), wrap64 (n := f.2.2.2.1 % 8) (by omega) (by omega), wrap64 (n := f.2.2.2.2 % 8) (by omega) (by omega)]
  rw [wrap64 (n := 0 + f.1 % 8) (by omega) (by omega), wrap64 (n := 0 + f.1 % 8 + _) (by omega) (by omega), wrap64 (n := 0 + f.1 % 8 + _ + _) (by omega) (by omega), wrap64 (n := 0 + f.1 % 8 + _ + _ + _) (by omega) (by omega), wrap64 (n := 0 + f.1 % 8 + _ + _ + _ + _) (by omega) (by omega)]
  rw [tmod8 (by omega), homeI, Int.zero_add]
theorem implHome (f : Flow) : impl_HomeSlot f = some (homeI f) := by
  unfold impl_HomeSlot
  generalize hL : [f.1, f.2.1, f.2.2.1, f.2.2.2.1, f.2.2.2.2] = L
  have hlen : L.length = 5 := by rw [← hL]; rfl
  have hfu := fuel_ge
  have key := iter_list (R := Int) (T := impl_HomeSlot_T3 (fun (y2 : Int) (y3 : Int) => if 8 = 0 then none else (some (Int.tmod y2 8))) L (L.length : Int)) L (fun (s : Int) i => (s, (i : Int)))
    (fun x s k => k (IntKind.wrap .i64 (s + (x % 8)))) (fun s => some (Int.tmod s 8))
    (fun i hi s nx => by
      simp only [impl_HomeSlot_T3]
      rw [decide_eq_true (by omega), idx_lt hi, wrap64 (n := (i : Int) + 1) (by omega) (by omega)]
      simp only [cond_true, bindO_some, modulo8]
      rfl)
    (fun s nx => by
      simp only [impl_HomeSlot_T3]
      rw [decide_eq_false (by omega)]; rfl)
    fuel 0 0 (by omega) (by omega)
  refine key.trans ?_
  rw [← hL]
  simp only [List.drop_zero, foldK]
  rw [wrap64 (n := 0 + f.1 % 8) (by omega) (by omega), wrap64 (n := 0 + f.1 % 8 + _) (by omega) (by omega), wrap64 (n := 0 + f.1 % 8 + _ + _) (by omega) (by omega), wrap64 (n := 0 + f.1 % 8 + _ + _ + _) (by omega) (by omega), wrap64 (n := 0 + f.1 % 8 + _ + _ + _ + _) (by omega) (by omega)]
  rw [tmod8 (by omega), homeI, Int.zero_add]

-- the table's ways
def slotAt (t : List Slot) (i : Nat) : Slot := t.getD i (0, (0, 0, 0, 0, 0), 0)
theorem slotAt_lt {t : List Slot} {i : Nat} (h : i < t.length) : slotAt t i = t[i] := getD_lt h _
def wayN (f : Flow) (k : Nat) : Nat := ((homeI f).toNat + k) % 8
theorem wayN_lt (f : Flow) (k : Nat) : wayN f k < 8 := Nat.mod_lt _ (by omega)
theorem wayN_int (f : Flow) (k : Nat) (h : k < 8) : Int.tmod (IntKind.wrap .i64 (homeI f + (k : Int))) 8 = (wayN f k : Int) := by
  have := homeI_lt f
  rw [wrap64 (by omega) (by omega), tmod8 (by omega), wayN]; omega
def usedB (s : Slot) (f : Flow) : Bool := (s.1 == 1) && decide (s.2.1 = f)
theorem flow_eq (p q : Flow) : ((p.1 == q.1) && ((p.2.1 == q.2.1) && ((p.2.2.1 == q.2.2.1) && ((p.2.2.2.1 == q.2.2.2.1) && ((p.2.2.2.2 == q.2.2.2.2) && true))))) = decide (p = q) := by
  obtain ⟨a, b, c, d, e⟩ := p
  obtain ⟨a', b', c', d', e'⟩ := q
  rw [Bool.eq_iff_iff]; simp
/-- the walk of the reference from step k on -/
def walk (t : List Slot) (f : Flow) : Nat → Nat → Int
  | 0, _ => -1
  | n + 1, k => if (slotAt t (wayN f k)).1 = 0 then -1 else if usedB (slotAt t (wayN f k)) f then (wayN f k : Int) else walk t f n (k + 1)
theorem specFind (t : List Slot) (f : Flow) (ht : t.length = 8) : spec_l13Find t f = some (walk t f 8 0) := by
  unfold spec_l13Find
  have hfu := fuel_ge
  have key := iter_up (R := Int) (T := spec_l13Find_T2 (fun (y6 : Int) => some (-1)) (fun (y7 : Int) (y8 : Int) => some y7) 0 t f) 8 (fun (_ : Unit) i => (i : Int))
    (fun i s k => if (slotAt t (wayN f i)).1 = 0 then some (-1) else if usedB (slotAt t (wayN f i)) f then some (wayN f i : Int) else k s) (fun _ => some (-1))
    (fun i s nx hi => by
      have hw : wayN f i < t.length := by have := wayN_lt f i; omega
      simp only [spec_l13Find_T2, specHome]
      rw [decide_eq_true (by omega), wrap64 (n := (i : Int) + 1) (by omega) (by omega)]
      simp only [cond_true, bindO_some, wayN_int f i hi, idx_lt hw, slotAt_lt hw, flow_eq, usedB, cond_some, bindO_some]
      rw [if_neg (by omega)]
      by_cases h0 : t[wayN f i].1 = 0
      · simp [h0]
      · have e0 : (t[wayN f i].1 == 0) = false := by simp [h0]
        rw [e0, if_neg h0]
        cases (t[wayN f i].1 == 1) <;> cases decide (t[wayN f i].2.1 = f) <;> rfl)
    (fun s nx => by simp only [spec_l13Find_T2]; rfl)
    fuel 0 () (by omega) (by omega)
  refine key.trans ?_
  have main : ∀ n i, upK (R := Int) (fun i (s : Unit) k => if (slotAt t (wayN f i)).1 = 0 then some (-1) else if usedB (slotAt t (wayN f i)) f then some (wayN f i : Int) else k s) (fun _ => some (-1)) 8 n i () = some (walk t f n i) := by
    intro n
    induction n with
    | zero => intro i; rfl
    | succ n ih =>
      intro i
      rw [upK, walk]
      split
      · rfl
      · split
        · rfl
        · exact ih (i + 1)
  exact main 8 0

/-- the first used slot of a flow -/
def firstU (f : Flow) : List Slot → Int → Int
  | [], _ => -1
  | s :: r, i => if usedB s f then i else firstU f r (i + 1)
theorem implSlot (t : List Slot) (f : Flow) (h : t.length ≤ 1000000000) : impl_slotOf t f = some (firstU f t 0) := by
  unfold impl_slotOf
  have hfu := fuel_ge
  have key : ∀ n i, i ≤ t.length → t.length - i < n → iterL (impl_slotOf_T2 (fun (y3 : Int) => some (-1)) (fun (y4 : Int) (y5 : Int) => some y4) 0 t ((List.length t : Int)) f) n (i : Int) = some (firstU f (t.drop i) i) := by
    intro n
    induction n with
    | zero => intro i _ h; omega
    | succ n ih =>
      intro i hi hn
      rw [iterL]
      simp only [impl_slotOf_T2]
      rcases Nat.lt_or_ge i t.length with hlt | hge
      · rw [decide_eq_true (by omega), idx_lt hlt, List.drop_eq_getElem_cons hlt, firstU, wrap64 (by omega) (by omega)]
        simp only [cond_true, bindO_some, flow_eq, cond_some]
        have e : (bif t[i].1 == 1 then decide (t[i].2.1 = f) else false) = usedB t[i] f := by unfold usedB; cases (t[i].1 == 1) <;> rfl
        rw [e]
        cases usedB t[i] f with
        | true => rfl
        | false => exact ih (i + 1) (by omega) (by omega)
      · have : i = t.length := by omega
        subst this
        rw [decide_eq_false (by omega), List.drop_length]; rfl
  exact key fuel 0 (by omega) (by omega)

theorem implWay (f : Flow) : impl_wayOf f = some ((List.range 8).map fun k => (wayN f k : Int)) := by
  unfold impl_wayOf
  have hfu := fuel_ge
  have key := iter_up (R := List Int) (T := impl_wayOf_T3 (fun (y2 : List Int) (y3 : Int) => some y2) f) 8 (fun (_ : Unit) i => ((List.range i).map (fun k => (wayN f k : Int)), (i : Int)))
    (fun _ s k => k s) (fun _ => some ((List.range 8).map fun k => (wayN f k : Int)))
    (fun i s nx hi => by
      simp only [impl_wayOf_T3, implHome]
      rw [decide_eq_true (by omega), wrap64 (n := (i : Int) + 1) (by omega) (by omega)]
      simp only [cond_true, bindO_some, wayN_int f i hi]
      rw [if_neg (by omega), room_le (by simp; omega), List.range_succ, List.map_append]
      rfl)
    (fun s nx => by simp only [impl_wayOf_T3]; rfl)
    fuel 0 () (by omega) (by omega)
  exact key

/-- no empty slot on the way to slot i, from step k on -/
def clear (t : List Slot) (f : Flow) (i : Nat) : Nat → Nat → Bool
  | 0, _ => true
  | n + 1, k => if wayN f k = i then true else if (slotAt t (wayN f k)).1 = 0 then false else clear t f i n (k + 1)
theorem implClear {R : Type} (k0 : Int → Option R) (k1 : Bool → Int → Option R) (hit fin : Option R) (h0 : ∀ x, k0 x = fin) (h1 : ∀ x, k1 false x = hit) (v2 : Bool) (i : Nat) (v12 : List Slot) (v13 v14 : Int) (t : List Slot) (f : Flow) (ht : t.length = 8) :
    iterL (impl_TableOk_T14 k0 k1 v2 (i : Int) v12 v13 v14 ((List.range 8).map fun k => (wayN f k : Int)) (((List.range 8).map fun k => (wayN f k : Int)).length : Int) t) fuel 0 = cond (clear t f i 8 0) fin hit := by
  have hfu := fuel_ge
  have hl : ((List.range 8).map fun k => (wayN f k : Int)).length = 8 := by simp
  have key := iter_up (R := R) (T := impl_TableOk_T14 k0 k1 v2 (i : Int) v12 v13 v14 ((List.range 8).map fun k => (wayN f k : Int)) (((List.range 8).map fun k => (wayN f k : Int)).length : Int) t) 8 (fun (_ : Unit) i => (i : Int))
    (fun k s c => if wayN f k = i then fin else if (slotAt t (wayN f k)).1 = 0 then hit else c s) (fun _ => fin)
    (fun k s nx hk => by
      have hw : wayN f k < t.length := by have := wayN_lt f k; omega
      simp only [impl_TableOk_T14]
      rw [decide_eq_true (by omega), idx_lt (show k < ((List.range 8).map fun k => (wayN f k : Int)).length by omega), wrap64 (n := (k : Int) + 1) (by omega) (by omega)]
      simp only [cond_true, bindO_some, List.getElem_map, List.getElem_range, idx_lt hw, slotAt_lt hw, h0, h1]
      by_cases e1 : wayN f k = i
      · subst e1; simp
      · have : ((wayN f k : Int) == (i : Int)) = false := by simp; omega
        rw [this, if_neg e1]
        by_cases e2 : t[wayN f k].1 = 0
        · simp [e2]
        · have : (t[wayN f k].1 == 0) = false := by simp [e2]
          rw [this, if_neg e2]; rfl)
    (fun s nx => by
      simp only [impl_TableOk_T14]
      rw [decide_eq_false (by omega)]; exact h0 _)
    fuel 0 () (by omega) (by omega)
  refine key.trans ?_
  have main : ∀ n k, upK (R := R) (fun k (s : Unit) c => if wayN f k = i then fin else if (slotAt t (wayN f k)).1 = 0 then hit else c s) (fun _ => fin) 8 n k () = cond (clear t f i n k) fin hit := by
    intro n
    induction n with
    | zero => intro k; rfl
    | succ n ih =>
      intro k
      rw [upK, clear]
      split
      · rfl
      · split
        · rfl
        · exact ih (k + 1)
  exact main 8 0

def flow0 : Flow := (0, 0, 0, 0, 0)
theorem flow0_eq (p : Flow) : ((p.1 == 0) && ((p.2.1 == 0) && ((p.2.2.1 == 0) && ((p.2.2.2.1 == 0) && ((p.2.2.2.2 == 0) && true))))) = decide (p = flow0) := flow_eq p flow0
/-- a slot, but for its place -/
def slotB (s : Slot) : Bool := inB s.1 0 2 && inB s.2.2 0 3 && ((s.1 == 1) || (s.2.2 == 0) && decide (s.2.1 = flow0))
def specSlotB (t : List Slot) (i : Nat) : Bool := slotB (slotAt t i) && (!((slotAt t i).1 == 1) || (walk t (slotAt t i).2.1 8 0 == (i : Int)))
def implSlotB (t : List Slot) (i : Nat) : Bool := slotB (slotAt t i) && (!((slotAt t i).1 == 1) || (firstU (slotAt t i).2.1 t 0 == (i : Int)) && clear t (slotAt t i).2.1 i 8 0)
def tableB (t : List Slot) : Bool := (t.length == 8) && (List.range 8).all (specSlotB t)

theorem specTable (t : List Slot) : spec_TableOk t = some (tableB t) := by
  unfold spec_TableOk tableB
  by_cases ht : t.length = 8
  · have e : ((t.length : Int) != 8) = false := by rw [ht]; rfl
    have e2 : (t.length == 8) = true := by rw [ht]; rfl
    rw [e, e2]
    simp only [cond_false, Bool.true_and]
    rw [alln_iter (hit := some false) (fin := some true) (specSlotB t) 8 (by omega) (fun i nx hi => ?hs) (fun nx => ?hf)]
    case hs =>
      have hl : i < t.length := by omega
      simp only [spec_TableOk_T4]
      rw [decide_eq_true (by omega), idx_lt hl, wrap64 (by omega) (by omega)]
      simp only [cond_true, bindO_some, l01In_eq, cond_some, flow0_eq, specFind t _ ht, specSlotB, slotAt_lt hl, slotB, bne]
      cases inB t[i].1 0 2 <;> cases inB t[i].2.2 0 3 <;> cases (t[i].1 == 1) <;> cases (t[i].2.2 == 0) <;> cases decide (t[i].2.1 = flow0) <;> first | rfl | (cases (walk t t[i].2.1 8 0 == (i : Int)) <;> rfl)
    case hf =>
      simp only [spec_TableOk_T4]
      rw [decide_eq_false (by omega)]; rfl
    cases (List.range 8).all (specSlotB t) <;> rfl
  · have e : ((t.length : Int) != 8) = true := by simp; omega
    have e2 : (t.length == 8) = false := by simp [ht]
    rw [e, e2]; rfl

theorem implTable0 (t : List Slot) : impl_TableOk t = some ((t.length == 8) && (List.range 8).all (implSlotB t)) := by
  unfold impl_TableOk
  by_cases ht : t.length = 8
  · have e : ((t.length : Int) != 8) = false := by rw [ht]; rfl
    have e2 : (t.length == 8) = true := by rw [ht]; rfl
    rw [e, e2]
    simp only [cond_false, Bool.true_and]
    rw [alln_iter (hit := some false) (fin := some true) (implSlotB t) 8 (by omega) (fun i nx hi => ?hs) (fun nx => ?hf)]
    case hs =>
      have hl : i < t.length := by omega
      simp only [impl_TableOk_T4]
      rw [decide_eq_true (by omega), idx_lt hl, wrap64 (by omega) (by omega)]
      simp only [cond_true, bindO_some, between_eq, cond_some, flow0_eq, implSlot t _ (show t.length ≤ 1000000000 by omega), implWay, implSlotB, slotAt_lt hl, slotB, bne]
      rw [implClear (fun _ => nx ((i : Int) + 1)) (fun (y : Bool) (_ : Int) => some y) (some false) (nx ((i : Int) + 1)) (fun _ => rfl) (fun _ => rfl) _ _ _ _ _ _ _ ht]
      cases inB t[i].1 0 2 <;> cases inB t[i].2.2 0 3 <;> cases (t[i].1 == 1) <;> cases (t[i].2.2 == 0) <;> cases decide (t[i].2.1 = flow0) <;> first | rfl | (cases (firstU t[i].2.1 t 0 == (i : Int)) <;> first | rfl | (cases clear t t[i].2.1 i 8 0 <;> rfl))
    case hf =>
      simp only [impl_TableOk_T4]
      rw [decide_eq_false (by omega)]; rfl
    cases (List.range 8).all (implSlotB t) <;> rfl
  · have e : ((t.length : Int) != 8) = true := by simp; omega
    have e2 : (t.length == 8) = false := by simp [ht]
    rw [e, e2]; rfl

-- both say the same of the whole table
theorem walk_spec (t : List Slot) (f : Flow) (i : Nat) : ∀ n k, walk t f n k = (i : Int) → usedB (slotAt t i) f = true ∧ clear t f i n k = true ∧ ∃ j, j < n ∧ wayN f (k + j) = i
  | 0, k, h => by unfold walk at h; omega
  | n + 1, k, h => by
    unfold walk at h
    unfold clear
    by_cases h0 : (slotAt t (wayN f k)).1 = 0
    · rw [if_pos h0] at h; omega
    · rw [if_neg h0] at h
      by_cases h1 : usedB (slotAt t (wayN f k)) f = true
      · rw [if_pos h1] at h
        have : wayN f k = i := by omega
        subst this
        exact ⟨h1, by simp, 0, by omega, rfl⟩
      · rw [if_neg h1] at h
        obtain ⟨a, b, j, hj, e⟩ := walk_spec t f i n (k + 1) h
        refine ⟨a, ?_, j + 1, by omega, by rw [← e]; congr 1; omega⟩
        rw [if_neg h0, b]; split <;> rfl
theorem walk_of (t : List Slot) (f : Flow) (i : Nat) (hu : usedB (slotAt t i) f = true) (huniq : ∀ j, j < 8 → usedB (slotAt t j) f = true → j = i) : ∀ n k, clear t f i n k = true → (∃ j, j < n ∧ wayN f (k + j) = i) → walk t f n k = (i : Int)
  | 0, k, _, h => by obtain ⟨j, hj, _⟩ := h; omega
  | n + 1, k, hc, ⟨j, hj, e⟩ => by
    unfold walk
    unfold clear at hc
    by_cases h1 : wayN f k = i
    · rw [h1, if_neg, if_pos hu]
      intro h0
      unfold usedB at hu
      rw [h0] at hu
      simp at hu
    · rw [if_neg h1] at hc
      by_cases h0 : (slotAt t (wayN f k)).1 = 0
      · rw [if_pos h0] at hc; cases hc
      · rw [if_neg h0] at hc
        rw [if_neg h0, if_neg (fun hu' => h1 (huniq _ (wayN_lt f k) hu'))]
        refine walk_of t f i hu huniq n (k + 1) hc ?_
        cases j with
        | zero => exact absurd e h1
        | succ j => exact ⟨j, by omega, by rw [← e]; congr 1; omega⟩
theorem way_all (f : Flow) (i : Nat) (hi : i < 8) : ∃ j, j < 8 ∧ wayN f (0 + j) = i := by
  have := homeI_lt f
  refine ⟨(i + 8 - (homeI f).toNat) % 8, by omega, ?_⟩
  unfold wayN; omega
theorem firstU_spec (f : Flow) : ∀ (t : List Slot) (m : Nat), (∃ j, j < t.length ∧ usedB (slotAt t j) f = true) → ∃ j, j < t.length ∧ usedB (slotAt t j) f = true ∧ firstU f t m = ((m + j : Nat) : Int)
  | [], _, h => by obtain ⟨j, hj, _⟩ := h; simp at hj
  | s :: r, m, ⟨j, hj, e⟩ => by
    unfold firstU
    by_cases hs : usedB s f = true
    · rw [if_pos hs]; exact ⟨0, by simp, by simpa [slotAt] using hs, by simp⟩
    · rw [if_neg hs]
      cases j with
      | zero => exact absurd (by simpa [slotAt] using e) hs
      | succ j =>
        obtain ⟨j', h1, h2, h3⟩ := firstU_spec f r (m + 1) ⟨j, by simpa using hj, by simpa [slotAt] using e⟩
        refine ⟨j' + 1, by simpa using h1, by simpa [slotAt] using h2, ?_⟩
        have : ((m : Int) + 1) = ((m + 1 : Nat) : Int) := by omega
        rw [this, h3]; congr 1; omega

theorem slots_same (t : List Slot) (ht : t.length = 8) : (List.range 8).all (implSlotB t) = (List.range 8).all (specSlotB t) := by
  rw [Bool.eq_iff_iff, List.all_eq_true, List.all_eq_true]
  simp only [List.mem_range]
  constructor
  · intro h i hi
    have hI := h i hi
    unfold implSlotB at hI
    unfold specSlotB
    simp only [Bool.and_eq_true, Bool.or_eq_true, Bool.not_eq_true', beq_iff_eq] at hI ⊢
    refine ⟨hI.1, ?_⟩
    rcases hI.2 with h1 | ⟨h1, h2⟩
    · exact .inl h1
    · by_cases hu : ((slotAt t i).1 == 1) = true
      · right
        have hu' : usedB (slotAt t i) (slotAt t i).2.1 = true := by unfold usedB; rw [hu]; simp
        refine walk_of t _ i hu' (fun j hj huj => ?_) 8 0 h2 (way_all _ i hi)
        have hJ := h j hj
        unfold implSlotB at hJ
        unfold usedB at huj
        simp only [Bool.and_eq_true, decide_eq_true_eq] at huj
        simp only [Bool.and_eq_true, Bool.or_eq_true, Bool.not_eq_true', beq_iff_eq] at hJ
        rcases hJ.2 with h3 | ⟨h3, _⟩
        · rw [huj.1] at h3; cases h3
        · rw [huj.2] at h3; omega
      · exact .inl (by simpa using hu)
  · intro h i hi
    have hI := h i hi
    unfold specSlotB at hI
    unfold implSlotB
    simp only [Bool.and_eq_true, Bool.or_eq_true, Bool.not_eq_true', beq_iff_eq] at hI ⊢
    refine ⟨hI.1, ?_⟩
    rcases hI.2 with h1 | h1
    · exact .inl h1
    · right
      obtain ⟨hu, hc, _⟩ := walk_spec t _ i 8 0 h1
      refine ⟨?_, hc⟩
      obtain ⟨j, hj, huj, e⟩ := firstU_spec (slotAt t i).2.1 t 0 ⟨i, by omega, hu⟩
      have hJ := h j (by omega)
      unfold specSlotB at hJ
      unfold usedB at huj
      simp only [Bool.and_eq_true, decide_eq_true_eq] at huj
      simp only [Bool.and_eq_true, Bool.or_eq_true, Bool.not_eq_true', beq_iff_eq] at hJ
      rcases hJ.2 with h3 | h3
      · rw [huj.1] at h3; cases h3
      · rw [huj.2, h1] at h3
        have e' : firstU (slotAt t i).2.1 t 0 = ((0 + j : Nat) : Int) := e
        rw [e']; omega
theorem implTable (t : List Slot) : impl_TableOk t = some (tableB t) := by
  rw [implTable0, tableB]
  by_cases ht : t.length = 8
  · rw [slots_same t ht]
  · have e2 : (t.length == 8) = false := by simp [ht]
    rw [e2]; rfl

-- spreads
theorem tableSize_eq (n : Int) : impl_tableSize n = spec_l12Size n := rfl
def sizeB (n : Int) : Bool := (n == 1) || (n == 2) || (n == 4) || (n == 8) || (n == 16)
theorem l12Size_eq (n : Int) : spec_l12Size n = some (sizeB n) := by
  simp only [spec_l12Size, cond_some, bindO_some, sizeB]
  cases (n == 1) <;> cases (n == 2) <;> cases (n == 4) <;> cases (n == 8) <;> rfl
def spreadB (s : Spread) (q : Int) : Bool := inB q 1 4 && ((s.1.length : Int) == 16) && sizeB s.2.length && s.2.all fun x => inB x 0 (q - 1)
theorem specSpread (s : Spread) (q : Int) (h : s.2.length ≤ 1000000000) : spec_SpreadOk s q = some (spreadB s q) := by
  unfold spec_SpreadOk spreadB
  simp only [l01In_eq, l12Size_eq, bindO_some, cond_some, bne]
  by_cases hq : inB q 1 4 = true
  · rw [all_iter' (hit := some false) (fin := some true) (fun x => inB x 0 (q - 1)) s.2 (by omega) (fun i hi nx => ?hs) (fun nx => ?hf)]
    case hs =>
      rw [inB_iff] at hq
      simp only [spec_SpreadOk_T4]
      rw [decide_eq_true (by omega), idx_lt hi, wrap64 (n := (i : Int) + 1) (by omega) (by omega), wrap64 (n := q - 1) (by omega) (by omega)]
      simp only [cond_true, bindO_some, l01In_eq]; rfl
    case hf =>
      simp only [spec_SpreadOk_T4]
      rw [decide_eq_false (by omega)]; rfl
    rw [hq]
    cases ((s.1.length : Int) == 16) <;> cases sizeB s.2.length <;> cases s.2.all (fun x => inB x 0 (q - 1)) <;> rfl
  · have hq' : inB q 1 4 = false := by simpa using hq
    rw [hq']; rfl
theorem implSpread (s : Spread) (q : Int) (h : s.2.length ≤ 1000000000) : impl_SpreadOk s q = some (spreadB s q) := by
  rw [← specSpread s q h]; rfl

-- steering
def steeringB (s : Steering) (q : Int) : Bool := rulesB s.1 && tableB s.2.1 && spreadB s.2.2 q && s.1.all (fun r => !(decide (r.2.2.2.2.2.2.2.2 ≥ q))) && s.2.1.all (fun x => !(decide (x.2.2 ≥ q)))
theorem specSteering (s : Steering) (q : Int) (h1 : s.1.length ≤ 1000000000) (h2 : s.2.1.length ≤ 1000000000) (h3 : s.2.2.2.length ≤ 1000000000) : spec_SteeringOk s q = some (steeringB s q) := by
  unfold spec_SteeringOk steeringB
  simp only [specRules _ h1, specTable, specSpread _ _ h3, bindO_some, cond_some]
  rw [all_iter' (hit := some false) (fin := cond (s.2.1.all (fun x => !(decide (x.2.2 ≥ q)))) (some true) (some false)) (fun r : Rule => !(decide (r.2.2.2.2.2.2.2.2 ≥ q))) s.1 (by omega) (fun i hi nx => ?hs) (fun nx => ?hf)]
  case hs =>
    simp only [spec_SteeringOk_T4]
    rw [decide_eq_true (by omega), idx_lt hi, wrap64 (by omega) (by omega)]
    simp only [cond_true, bindO_some, Bool.not_not]; rfl
  case hf =>
    simp only [spec_SteeringOk_T4]
    rw [decide_eq_false (by omega)]
    simp only [cond_false]
    rw [all_iter' (hit := some false) (fin := some true) (fun x : Slot => !(decide (x.2.2 ≥ q))) s.2.1 (by omega) (fun i hi nx => ?hs) (fun nx => ?hf)]
    case hs =>
      simp only [spec_SteeringOk_T9]
      rw [decide_eq_true (by omega), idx_lt hi, wrap64 (by omega) (by omega)]
      simp only [cond_true, bindO_some, Bool.not_not]; rfl
    case hf =>
      simp only [spec_SteeringOk_T9]
      rw [decide_eq_false (by omega)]; rfl
  cases rulesB s.1 <;> cases tableB s.2.1 <;> cases spreadB s.2.2 q <;> cases s.1.all (fun r => !(decide (r.2.2.2.2.2.2.2.2 ≥ q))) <;> cases s.2.1.all (fun x => !(decide (x.2.2 ≥ q))) <;> rfl

theorem implSteering (s : Steering) (q : Int) (h1 : s.1.length ≤ 1000000000) (h2 : s.2.1.length ≤ 1000000000) (h3 : s.2.2.2.length ≤ 1000000000) : impl_SteeringOk s q = some (steeringB s q) := by
  unfold impl_SteeringOk steeringB
  simp only [implRules _ h1, implTable, implSpread _ _ h3, bindO_some, cond_some]
  rw [all_iter' (hit := some false) (fin := cond (s.2.1.all (fun x => !((x.1 == 1) && decide (x.2.2 ≥ q)))) (some true) (some false)) (fun r : Rule => !((r.2.2.2.2.2.2.2.1 == 0) && decide (r.2.2.2.2.2.2.2.2 ≥ q))) s.1 (by omega) (fun i hi nx => ?hs) (fun nx => ?hf)]
  case hs =>
    simp only [impl_SteeringOk_T4]
    rw [decide_eq_true (by omega), idx_lt hi, wrap64 (by omega) (by omega)]
    simp only [cond_true, bindO_some, Bool.not_not, cond_some]
    cases (s.1[i].2.2.2.2.2.2.2.1 == 0) <;> rfl
  case hf =>
    simp only [impl_SteeringOk_T4]
    rw [decide_eq_false (by omega)]
    simp only [cond_false]
    rw [all_iter' (hit := some false) (fin := some true) (fun x : Slot => !((x.1 == 1) && decide (x.2.2 ≥ q))) s.2.1 (by omega) (fun i hi nx => ?hs) (fun nx => ?hf)]
    case hs =>
      simp only [impl_SteeringOk_T10]
      rw [decide_eq_true (by omega), idx_lt hi, wrap64 (by omega) (by omega)]
      simp only [cond_true, bindO_some, Bool.not_not, cond_some]
      cases (s.2.1[i].1 == 1) <;> rfl
    case hf =>
      simp only [impl_SteeringOk_T10]
      rw [decide_eq_false (by omega)]; rfl
  cases hr : rulesB s.1 with
  | false => rfl
  | true =>
    cases ht : tableB s.2.1 with
    | false => rfl
    | true =>
      cases hs : spreadB s.2.2 q with
      | false => rfl
      | true =>
        have hq : 1 ≤ q := by
          unfold spreadB at hs
          simp only [Bool.and_eq_true, inB_iff] at hs
          exact hs.1.1.1.1
        have e1 : s.1.all (fun r => !((r.2.2.2.2.2.2.2.1 == 0) && decide (r.2.2.2.2.2.2.2.2 ≥ q))) = s.1.all (fun r => !(decide (r.2.2.2.2.2.2.2.2 ≥ q))) := by
          unfold rulesB at hr
          simp only [Bool.and_eq_true, List.all_eq_true] at hr
          rw [Bool.eq_iff_iff, List.all_eq_true, List.all_eq_true]
          refine forall_congr' fun r => forall_congr' fun hm => ?_
          rcases ruleB_queue (hr.1 r hm) with h0 | h0
          · rw [h0]; simp
          · rw [h0]
            simp only [decide_eq_false (show ¬ (0 : Int) ≥ q by omega), Bool.and_false]
        have e2 : s.2.1.all (fun x => !((x.1 == 1) && decide (x.2.2 ≥ q))) = s.2.1.all (fun x => !(decide (x.2.2 ≥ q))) := by
          unfold tableB at ht
          simp only [Bool.and_eq_true, List.all_eq_true, List.mem_range, beq_iff_eq] at ht
          rw [Bool.eq_iff_iff, List.all_eq_true, List.all_eq_true]
          refine forall_congr' fun x => forall_congr' fun hm => ?_
          obtain ⟨i, hi, rfl⟩ := List.mem_iff_getElem.1 hm
          have hsl := ht.2 i (by omega)
          unfold specSlotB slotB at hsl
          rw [slotAt_lt hi] at hsl
          simp only [Bool.and_eq_true, Bool.or_eq_true, beq_iff_eq] at hsl
          rcases hsl.1.2 with h0 | ⟨h0, _⟩
          · rw [h0]; simp
          · rw [h0]
            simp only [decide_eq_false (show ¬ (0 : Int) ≥ q by omega), Bool.and_false]
        rw [e1, e2]
        cases s.1.all (fun r => !(decide (r.2.2.2.2.2.2.2.2 ≥ q))) <;> cases s.2.1.all (fun x => !(decide (x.2.2 ≥ q))) <;> rfl

end

end Go.Pu
