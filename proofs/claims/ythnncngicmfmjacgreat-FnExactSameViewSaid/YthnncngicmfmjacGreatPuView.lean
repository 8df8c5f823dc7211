import Derived.Test.YthnncngicmfmjacGreatPuHostOk
/- SameView: the program's and the reference's answers are one. -/
namespace Go.Pu
open Go.Dn
set_option linter.unusedSimpArgs false
noncomputable section

def eqQ {α : Type} (a b : α) : Bool := @decide (a = b) (Classical.propDecidable _)
theorem eqQ_iff {α : Type} {a b : α} : eqQ a b = true ↔ a = b := by unfold eqQ; exact @decide_eq_true_iff _ (Classical.propDecidable _)
theorem eqQ_of {α : Type} {a b : α} {x : Bool} (h : x = true ↔ a = b) : x = eqQ a b := by rw [Bool.eq_iff_iff, eqQ_iff]; exact h
theorem beqQ {α : Type} [BEq α] [LawfulBEq α] (a b : α) : (a == b) = eqQ a b := eqQ_of beq_iff_eq
theorem eqQ_pair {α β : Type} (a b : α) (c d : β) : eqQ (a, c) (b, d) = (eqQ a b && eqQ c d) := by
  rw [Bool.eq_iff_iff]; simp only [Bool.and_eq_true, eqQ_iff, Prod.mk.injEq]
theorem eqQ_prod {α β : Type} (a b : α × β) : eqQ a b = (eqQ a.1 b.1 && eqQ a.2 b.2) := eqQ_pair a.1 b.1 a.2 b.2
theorem eqQ_true {α : Type} {a b : α} (h : a = b) : eqQ a b = true := eqQ_iff.2 h
theorem eqQ_false {α : Type} {a b : α} (h : ¬ a = b) : eqQ a b = false := by rw [Bool.eq_false_iff, ne_eq, eqQ_iff]; exact h

theorem eqs_loop {α R : Type} {T : (Int → Option R) → Int → Option R} {fin hit : Option R} (p : α → α → Bool) (hp : ∀ x y, p x y = true ↔ x = y) (a b : List α) (hl : a.length = b.length) (h : a.length ≤ 1000000000)
    (hs : ∀ i (hi : i < a.length) nx, T nx (i : Int) = cond (!(p a[i] (b[i]'(hl ▸ hi)))) hit (nx ((i + 1 : Nat) : Int))) (hf : ∀ nx, T nx (a.length : Int) = fin) :
    iterL T fuel 0 = cond (eqQ a b) fin hit := by
  have hq : ∀ i, i < a.length → i < b.length := fun i hi => hl ▸ hi
  rw [alln_iter (fin := fin) (hit := hit) (fun i => eqQ a[i]? b[i]?) a.length (by omega) ?hs hf]
  case hs =>
    intro i nx hi
    rw [hs i hi, List.getElem?_eq_getElem hi, List.getElem?_eq_getElem (hq i hi)]
    have : p a[i] (b[i]'(hq i hi)) = eqQ (some a[i]) (some (b[i]'(hq i hi))) := eqQ_of (by rw [hp, Option.some.injEq])
    rw [this]
  congr 1
  apply eqQ_of
  rw [List.all_eq_true]
  constructor
  · intro k
    apply List.ext_getElem?
    intro i
    by_cases hi : i < a.length
    · exact eqQ_iff.1 (k i (List.mem_range.2 hi))
    · rw [List.getElem?_eq_none (by omega), List.getElem?_eq_none (by omega)]
  · rintro rfl i _; exact eqQ_true rfl
theorem eqs_fun {α : Type} {T : (Int → Option Bool) → Int → Option Bool} (p : α → α → Bool) (hp : ∀ x y, p x y = true ↔ x = y) (a b : List α) (h : a.length ≤ 1000000000)
    (hs : a.length = b.length → ∀ i (hi : i < a.length) (hi' : i < b.length) nx, T nx (i : Int) = cond (!(p a[i] b[i])) (some false) (nx ((i + 1 : Nat) : Int))) (hf : ∀ nx, T nx (a.length : Int) = some true) :
    cond ((a.length : Int) != (b.length : Int)) (some false) (iterL T fuel 0) = some (eqQ a b) := by
  by_cases hl : a.length = b.length
  · rw [eqs_loop p hp a b hl h (fun i hi nx => hs hl i hi (hl ▸ hi) nx) hf]
    rw [show ((a.length : Int) != (b.length : Int)) = false by simp [hl]]
    cases eqQ a b <;> rfl
  · rw [eqQ_false (fun e => hl (by rw [e]))]
    rw [show ((a.length : Int) != (b.length : Int)) = true by simp; omega]
    rfl
theorem implInts (a b : List Int) (h : a.length ≤ 1000000000) : slices_Equal_int a b = some (eqQ a b) := by
  unfold slices_Equal_int
  refine eqs_fun (fun x y => x == y) (fun x y => beq_iff_eq) a b h (fun hl i hi hi' nx => ?_) (fun nx => ?_)
  · simp only [slices_Equal_int_T4]
    rw [decide_eq_true (by omega), idx_lt hi, idx_lt hi', wrap64 (by omega) (by omega)]; rfl
  · simp only [slices_Equal_int_T4]
    rw [decide_eq_false (by omega)]; rfl
theorem specInts (a b : List Int) (h : a.length ≤ 1000000000) : spec_l39Ints a b = some (eqQ a b) := implInts a b h
theorem implStrings (a b : List Bytes) (h : a.length ≤ 1000000000) : slices_Equal_string a b = some (eqQ a b) := by
  unfold slices_Equal_string
  refine eqs_fun (fun x y => x == y) (fun x y => beq_iff_eq) a b h (fun hl i hi hi' nx => ?_) (fun nx => ?_)
  · simp only [slices_Equal_string_T4]
    rw [decide_eq_true (by omega), idx_lt hi, idx_lt hi', wrap64 (by omega) (by omega)]; rfl
  · simp only [slices_Equal_string_T4]
    rw [decide_eq_false (by omega)]; rfl
theorem implBools (a b : List Bool) (h : a.length ≤ 1000000000) : slices_Equal_bool a b = some (eqQ a b) := by
  unfold slices_Equal_bool
  refine eqs_fun (fun x y => x == y) (fun x y => beq_iff_eq) a b h (fun hl i hi hi' nx => ?_) (fun nx => ?_)
  · simp only [slices_Equal_bool_T4]
    rw [decide_eq_true (by omega), idx_lt hi, idx_lt hi', wrap64 (by omega) (by omega)]; rfl
  · simp only [slices_Equal_bool_T4]
    rw [decide_eq_false (by omega)]; rfl
def rxEq (x1 x2 : RxQueue) : Bool := (x1.1.1 == x2.1.1) && ((x1.1.2.1 == x2.1.2.1) && ((x1.1.2.2.1 == x2.1.2.2.1) && ((x1.1.2.2.2 == x2.1.2.2.2) && ((x1.2.1.1 == x2.2.1.1) && ((x1.2.1.2.1 == x2.2.1.2.1) && ((x1.2.1.2.2 == x2.2.1.2.2) && ((x1.2.2.1.1 == x2.2.2.1.1) && ((x1.2.2.1.2.1 == x2.2.2.1.2.1) && ((x1.2.2.1.2.2 == x2.2.2.1.2.2) && ((x1.2.2.2.1.1.1 == x2.2.2.2.1.1.1) && ((x1.2.2.2.1.1.2.1 == x2.2.2.2.1.1.2.1) && ((x1.2.2.2.1.1.2.2.1 == x2.2.2.2.1.1.2.2.1) && ((x1.2.2.2.1.1.2.2.2.1 == x2.2.2.2.1.1.2.2.2.1) && ((x1.2.2.2.1.1.2.2.2.2.1 == x2.2.2.2.1.1.2.2.2.2.1) && ((x1.2.2.2.1.1.2.2.2.2.2.1 == x2.2.2.2.1.1.2.2.2.2.2.1) && ((x1.2.2.2.1.1.2.2.2.2.2.2.1 == x2.2.2.2.1.1.2.2.2.2.2.2.1) && ((x1.2.2.2.1.1.2.2.2.2.2.2.2.1 == x2.2.2.2.1.1.2.2.2.2.2.2.2.1) && ((x1.2.2.2.1.1.2.2.2.2.2.2.2.2.1 == x2.2.2.2.1.1.2.2.2.2.2.2.2.2.1) && ((x1.2.2.2.1.1.2.2.2.2.2.2.2.2.2.1 == x2.2.2.2.1.1.2.2.2.2.2.2.2.2.2.1) && ((x1.2.2.2.1.1.2.2.2.2.2.2.2.2.2.2.1 == x2.2.2.2.1.1.2.2.2.2.2.2.2.2.2.2.1) && ((x1.2.2.2.1.1.2.2.2.2.2.2.2.2.2.2.2.1 == x2.2.2.2.1.1.2.2.2.2.2.2.2.2.2.2.2.1) && ((x1.2.2.2.1.1.2.2.2.2.2.2.2.2.2.2.2.2.1 == x2.2.2.2.1.1.2.2.2.2.2.2.2.2.2.2.2.2.1) && ((x1.2.2.2.1.1.2.2.2.2.2.2.2.2.2.2.2.2.2.1 == x2.2.2.2.1.1.2.2.2.2.2.2.2.2.2.2.2.2.2.1) && ((x1.2.2.2.1.1.2.2.2.2.2.2.2.2.2.2.2.2.2.2.1 == x2.2.2.2.1.1.2.2.2.2.2.2.2.2.2.2.2.2.2.2.1) && ((x1.2.2.2.1.1.2.2.2.2.2.2.2.2.2.2.2.2.2.2.2 == x2.2.2.2.1.1.2.2.2.2.2.2.2.2.2.2.2.2.2.2.2) && ((x1.2.2.2.1.2.1 == x2.2.2.2.1.2.1) && ((x1.2.2.2.1.2.2 == x2.2.2.2.1.2.2) && ((x1.2.2.2.2.1 == x2.2.2.2.2.1) && ((x1.2.2.2.2.2 == x2.2.2.2.2.2) && true)))))))))))))))))))))))))))))
theorem rxEq_iff (x y : RxQueue) : rxEq x y = true ↔ x = y := by
  obtain ⟨⟨a1, a2, a3, a4⟩, ⟨a5, a6, a7⟩, ⟨a8, a9, a10⟩, ⟨⟨b1, b2, b3, b4, b5, b6, b7, b8, b9, b10, b11, b12, b13, b14, b15, b16⟩, b17, b18⟩, a11, a12⟩ := x
  obtain ⟨⟨c1, c2, c3, c4⟩, ⟨c5, c6, c7⟩, ⟨c8, c9, c10⟩, ⟨⟨d1, d2, d3, d4, d5, d6, d7, d8, d9, d10, d11, d12, d13, d14, d15, d16⟩, d17, d18⟩, c11, c12⟩ := y
  simp only [rxEq, Bool.and_true, Bool.and_eq_true, beq_iff_eq, Prod.mk.injEq, and_assoc]
theorem implRxs (a b : List RxQueue) (h : a.length ≤ 1000000000) : slices_Equal_RxQueue a b = some (eqQ a b) := by
  unfold slices_Equal_RxQueue
  refine eqs_fun rxEq rxEq_iff a b h (fun hl i hi hi' nx => ?_) (fun nx => ?_)
  · simp only [slices_Equal_RxQueue_T4]
    rw [decide_eq_true (by omega), idx_lt hi, idx_lt hi', wrap64 (by omega) (by omega)]; rfl
  · simp only [slices_Equal_RxQueue_T4]
    rw [decide_eq_false (by omega)]; rfl
def vecEq (x1 x2 : Vector) : Bool := (x1.1 == x2.1) && ((x1.2.1 == x2.2.1) && ((x1.2.2.1 == x2.2.2.1) && ((x1.2.2.2.1 == x2.2.2.2.1) && ((x1.2.2.2.2.1 == x2.2.2.2.2.1) && ((x1.2.2.2.2.2 == x2.2.2.2.2.2) && true)))))
theorem vecEq_iff (x y : Vector) : vecEq x y = true ↔ x = y := by
  obtain ⟨a1, a2, a3, a4, a5, a6⟩ := x
  obtain ⟨c1, c2, c3, c4, c5, c6⟩ := y
  simp only [vecEq, Bool.and_true, Bool.and_eq_true, beq_iff_eq, Prod.mk.injEq, and_assoc]
theorem implVectors (a b : List Vector) (h : a.length ≤ 1000000000) : slices_Equal_Vector a b = some (eqQ a b) := by
  unfold slices_Equal_Vector
  refine eqs_fun vecEq vecEq_iff a b h (fun hl i hi hi' nx => ?_) (fun nx => ?_)
  · simp only [slices_Equal_Vector_T4]
    rw [decide_eq_true (by omega), idx_lt hi, idx_lt hi', wrap64 (by omega) (by omega)]; rfl
  · simp only [slices_Equal_Vector_T4]
    rw [decide_eq_false (by omega)]; rfl
def ruleEq (x1 x2 : Rule) : Bool := (x1.1 == x2.1) && ((x1.2.1 == x2.2.1) && ((x1.2.2.1 == x2.2.2.1) && ((x1.2.2.2.1 == x2.2.2.2.1) && ((x1.2.2.2.2.1 == x2.2.2.2.2.1) && ((x1.2.2.2.2.2.1 == x2.2.2.2.2.2.1) && ((x1.2.2.2.2.2.2.1 == x2.2.2.2.2.2.2.1) && ((x1.2.2.2.2.2.2.2.1 == x2.2.2.2.2.2.2.2.1) && ((x1.2.2.2.2.2.2.2.2 == x2.2.2.2.2.2.2.2.2) && true))))))))
theorem ruleEq_iff (x y : Rule) : ruleEq x y = true ↔ x = y := by
  obtain ⟨a1, a2, a3, a4, a5, a6, a7, a8, a9⟩ := x
  obtain ⟨c1, c2, c3, c4, c5, c6, c7, c8, c9⟩ := y
  simp only [ruleEq, Bool.and_true, Bool.and_eq_true, beq_iff_eq, Prod.mk.injEq, and_assoc]
theorem implRuleS (a b : List Rule) (h : a.length ≤ 1000000000) : slices_Equal_Rule a b = some (eqQ a b) := by
  unfold slices_Equal_Rule
  refine eqs_fun ruleEq ruleEq_iff a b h (fun hl i hi hi' nx => ?_) (fun nx => ?_)
  · simp only [slices_Equal_Rule_T4]
    rw [decide_eq_true (by omega), idx_lt hi, idx_lt hi', wrap64 (by omega) (by omega)]; rfl
  · simp only [slices_Equal_Rule_T4]
    rw [decide_eq_false (by omega)]; rfl
def slotEq (x1 x2 : Slot) : Bool := (x1.1 == x2.1) && ((x1.2.1.1 == x2.2.1.1) && ((x1.2.1.2.1 == x2.2.1.2.1) && ((x1.2.1.2.2.1 == x2.2.1.2.2.1) && ((x1.2.1.2.2.2.1 == x2.2.1.2.2.2.1) && ((x1.2.1.2.2.2.2 == x2.2.1.2.2.2.2) && ((x1.2.2 == x2.2.2) && true))))))
theorem slotEq_iff (x y : Slot) : slotEq x y = true ↔ x = y := by
  obtain ⟨a1, ⟨a2, a3, a4, a5, a6⟩, a7⟩ := x
  obtain ⟨c1, ⟨c2, c3, c4, c5, c6⟩, c7⟩ := y
  simp only [slotEq, Bool.and_true, Bool.and_eq_true, beq_iff_eq, Prod.mk.injEq, and_assoc]
theorem implSlots (a b : List Slot) (h : a.length ≤ 1000000000) : slices_Equal_Slot a b = some (eqQ a b) := by
  unfold slices_Equal_Slot
  refine eqs_fun slotEq slotEq_iff a b h (fun hl i hi hi' nx => ?_) (fun nx => ?_)
  · simp only [slices_Equal_Slot_T4]
    rw [decide_eq_true (by omega), idx_lt hi, idx_lt hi', wrap64 (by omega) (by omega)]; rfl
  · simp only [slices_Equal_Slot_T4]
    rw [decide_eq_false (by omega)]; rfl
def streamEq (x1 x2 : Stream) : Bool := (x1.1.1 == x2.1.1) && ((x1.1.2.1 == x2.1.2.1) && ((x1.1.2.2.1 == x2.1.2.2.1) && ((x1.1.2.2.2.1 == x2.1.2.2.2.1) && ((x1.1.2.2.2.2 == x2.1.2.2.2.2) && ((x1.2.1 == x2.2.1) && ((x1.2.2.1 == x2.2.2.1) && ((x1.2.2.2 == x2.2.2.2) && true)))))))
theorem streamEq_iff (x y : Stream) : streamEq x y = true ↔ x = y := by
  obtain ⟨⟨a2, a3, a4, a5, a6⟩, a7, a8, a9⟩ := x
  obtain ⟨⟨c2, c3, c4, c5, c6⟩, c7, c8, c9⟩ := y
  simp only [streamEq, Bool.and_true, Bool.and_eq_true, beq_iff_eq, Prod.mk.injEq, and_assoc]
theorem implStreams (a b : List Stream) (h : a.length ≤ 1000000000) : slices_Equal_Stream a b = some (eqQ a b) := by
  unfold slices_Equal_Stream
  refine eqs_fun streamEq streamEq_iff a b h (fun hl i hi hi' nx => ?_) (fun nx => ?_)
  · simp only [slices_Equal_Stream_T4]
    rw [decide_eq_true (by omega), idx_lt hi, idx_lt hi', wrap64 (by omega) (by omega)]; rfl
  · simp only [slices_Equal_Stream_T4]
    rw [decide_eq_false (by omega)]; rfl
theorem implFilterEq (a b : Filter) (h : a.2.2.length ≤ 1000000000) : impl_sameFilter a b = some (eqQ a b) := by
  simp only [impl_sameFilter, implInts _ _ h, bindO_some, cond_some, cF, eqQ_prod a b, eqQ_prod a.2 b.2, beqQ]
theorem implPoolEq (a b : Pool) (h : a.2.2.2.length ≤ 1000000000) : impl_samePool a b = some (eqQ a b) := by
  simp only [impl_samePool, implInts _ _ h, bindO_some, cond_some, cF, eqQ_prod a b, eqQ_prod a.2 b.2, eqQ_prod a.2.2 b.2.2, beqQ]
theorem specPoolEq (a b : Pool) (h : a.2.2.2.length ≤ 1000000000) : spec_l39Pool a b = some (eqQ a b) := implPoolEq a b h
theorem implSentEq (a b : Sent) (h : a.2.2.length ≤ 1000000000) : impl_sameSent a b = some (eqQ a b) := by
  simp only [impl_sameSent, implInts _ _ h, bindO_some, cond_some, cF, eqQ_prod a b, eqQ_prod a.2 b.2, beqQ]
theorem implSentS (a b : List Sent) (h : a.length ≤ 1000000000) (hx : ∀ x ∈ a, x.2.2.length ≤ 1000000000) : slices_EqualFunc_Sent a b = some (eqQ a b) := by
  unfold slices_EqualFunc_Sent
  refine eqs_fun eqQ (fun _ _ => eqQ_iff) a b h (fun hl i hi hi' nx => ?_) (fun nx => ?_)
  · simp only [slices_EqualFunc_Sent_T4]
    rw [decide_eq_true (by omega), idx_lt hi, idx_lt hi', wrap64 (by omega) (by omega)]
    simp only [cond_true, bindO_some, implSentEq _ _ (hx _ (List.getElem_mem hi))]; rfl
  · simp only [slices_EqualFunc_Sent_T4]
    rw [decide_eq_false (by omega)]; rfl
theorem implPoolS (a b : List Pool) (h : a.length ≤ 1000000000) (hx : ∀ x ∈ a, x.2.2.2.length ≤ 1000000000) : slices_EqualFunc_Pool a b = some (eqQ a b) := by
  unfold slices_EqualFunc_Pool
  refine eqs_fun eqQ (fun _ _ => eqQ_iff) a b h (fun hl i hi hi' nx => ?_) (fun nx => ?_)
  · simp only [slices_EqualFunc_Pool_T4]
    rw [decide_eq_true (by omega), idx_lt hi, idx_lt hi', wrap64 (by omega) (by omega)]
    simp only [cond_true, bindO_some, implPoolEq _ _ (hx _ (List.getElem_mem hi))]; rfl
  · simp only [slices_EqualFunc_Pool_T4]
    rw [decide_eq_false (by omega)]; rfl
def ringEq (a b : Ring) : Bool := (a.1 == b.1) && ((a.2.1 == b.2.1) && ((a.2.2.1 == b.2.2.1) && ((a.2.2.2 == b.2.2.2) && true)))
theorem ringEq_eq (a b : Ring) : ringEq a b = eqQ a b := by
  simp only [ringEq, eqQ_prod a b, eqQ_prod a.2 b.2, eqQ_prod a.2.2 b.2.2, beqQ, Bool.and_true]

-- what lies beside memory and mappings
theorem implTxEq (a b : TxQueue) (h1 : a.2.2.1.length ≤ 1000000000) (h2 : a.2.1.2.2.2.length ≤ 1000000000) (h3 : ∀ x ∈ a.2.2.1, x.2.2.length ≤ 1000000000) : impl_sameTx a b = some (eqQ a b) := by
  unfold impl_sameTx
  rw [show ((a.1.1 == b.1.1) && ((a.1.2.1 == b.1.2.1) && ((a.1.2.2.1 == b.1.2.2.1) && ((a.1.2.2.2 == b.1.2.2.2) && true)))) = eqQ a.1 b.1 from ringEq_eq a.1 b.1]
  simp only [implPoolEq _ _ h2, implSentS _ _ h1 h3, bindO_some, cond_some, cF, eqQ_prod a b, eqQ_prod a.2 b.2, eqQ_prod a.2.2 b.2.2, beqQ]
  cases eqQ a.1 b.1 <;> cases eqQ a.2.1 b.2.1 <;> cases eqQ a.2.2.1 b.2.2.1 <;> cases eqQ a.2.2.2 b.2.2.2 <;> rfl
theorem implSteerEq (a b : Steering) (h1 : a.1.length ≤ 1000000000) (h2 : a.2.1.length ≤ 1000000000) (h3 : a.2.2.2.length ≤ 1000000000) : impl_sameSteering a b = some (eqQ a b) := by
  simp only [impl_sameSteering, implRuleS _ _ h1, implSlots _ _ h2, implInts _ _ h3, bindO_some, cond_some, cF, eqQ_prod a b, eqQ_prod a.2 b.2, eqQ_prod a.2.2 b.2.2, beqQ]
/-- sizes -/
structure ViewSz (h : Host) : Prop where
  z : HostSz h
  t3 : ∀ x ∈ h.2.2.1.2.2.1, x.2.2.length ≤ 1000000000
  r : h.2.2.2.1.length ≤ 1000000000
  p : h.2.2.2.2.1.length ≤ 1000000000
  v : h.2.2.2.2.2.1.length ≤ 1000000000
  b : h.2.2.2.2.2.2.1.length ≤ 1000000000
  s : h.2.2.2.2.2.2.2.2.2.1.length ≤ 1000000000
  l : h.2.2.2.2.2.2.2.2.2.2.2.1.length ≤ 1000000000
  i : h.2.2.2.2.2.2.2.2.2.2.2.2.1.length ≤ 1000000000
  j : h.2.2.2.2.2.2.2.2.2.2.2.2.2.1.length ≤ 1000000000
theorem implBeside (a b : Host) (z : ViewSz a) : impl_sameBeside a b = some (eqQ a.2.2 b.2.2) := by
  have ht := z.z.t2
  simp only [impl_sameBeside, implTxEq _ _ z.z.t1 (by omega) z.t3, implRxs _ _ z.r, implPoolS _ _ z.p z.z.p1, implVectors _ _ z.v, implBools _ _ z.b, implFilterEq _ _ z.z.f1, implSteerEq _ _ z.z.s1 z.z.s2 z.z.s3,
    implStreams _ _ z.s, implStrings _ _ z.l, implInts _ _ z.i, implInts _ _ z.j, bindO_some, cond_some, cF, beqQ]
  congr 1
  apply eqQ_of
  simp only [Bool.and_true, Bool.and_eq_true, eqQ_iff, Prod.ext_iff]
theorem specQueuesEq (a b : Host) (z : ViewSz a) (la : lensB a = true) (lb : lensB b = true) :
    spec_l39Queues a b = some (eqQ a.2.2.1 b.2.2.1 && (eqQ a.2.2.2.1 b.2.2.2.1 && (eqQ a.2.2.2.2.1 b.2.2.2.2.1 && (eqQ a.2.2.2.2.2.1 b.2.2.2.2.2.1 && eqQ a.2.2.2.2.2.2.1 b.2.2.2.2.2.2.1)))) := by
  have ht := z.z.t2
  have ht1 := z.z.t1
  have la := lens_of la
  have lb := lens_of lb
  unfold spec_l39Queues
  rw [show ((a.2.2.1.1.1 == b.2.2.1.1.1) && ((a.2.2.1.1.2.1 == b.2.2.1.1.2.1) && ((a.2.2.1.1.2.2.1 == b.2.2.1.1.2.2.1) && ((a.2.2.1.1.2.2.2 == b.2.2.1.1.2.2.2) && true)))) = eqQ a.2.2.1.1 b.2.2.1.1 from ringEq_eq a.2.2.1.1 b.2.2.1.1]
  simp only [specPoolEq _ _ (show a.2.2.1.2.1.2.2.2.length ≤ 1000000000 by omega), bindO_some, cond_some, cT, bne, beqQ]
  by_cases h1 : ¬ a.2.2.2.1.length = b.2.2.2.1.length
  · rw [eqQ_false (a := (a.2.2.2.1.length : Int)) (by omega), eqQ_false (a := a.2.2.2.1) (fun e => h1 (by rw [e]))]; simp
  replace h1 := Decidable.of_not_not h1
  by_cases h2 : ¬ a.2.2.1.2.2.1.length = b.2.2.1.2.2.1.length
  · rw [eqQ_false (a := (a.2.2.1.2.2.1.length : Int)) (by omega), eqQ_false (a := a.2.2.1) (fun e => h2 (by rw [e]))]; simp
  replace h2 := Decidable.of_not_not h2
  rw [eqQ_true (a := (a.2.2.2.1.length : Int)) (by omega), eqQ_true (a := (a.2.2.1.2.2.1.length : Int)) (by omega)]
  rw [eqs_loop (hit := some false) (fin := some (eqQ a.2.2.2.1 b.2.2.2.1 && (eqQ a.2.2.2.2.1 b.2.2.2.2.1 && (eqQ a.2.2.2.2.2.1 b.2.2.2.2.2.1 && eqQ a.2.2.2.2.2.2.1 b.2.2.2.2.2.2.1)))) eqQ (fun _ _ => eqQ_iff) a.2.2.1.2.2.1 b.2.2.1.2.2.1 h2 ht1 (fun i hi nx => ?hs) (fun nx => ?hf)]
  case hs =>
    simp only [spec_l39Queues_T4]
    rw [decide_eq_true (by omega), idx_lt hi, idx_lt (h2 ▸ hi), wrap64 (n := (i : Int) + 1) (by omega) (by omega)]
    simp only [cond_true, bindO_some, specInts _ _ (z.t3 _ (List.getElem_mem hi)), cond_some, cT, bne, beqQ, eqQ_prod a.2.2.1.2.2.1[i], eqQ_prod a.2.2.1.2.2.1[i].2, Bool.not_and]; rfl
  case hf =>
    simp only [spec_l39Queues_T4]
    rw [decide_eq_false (by omega)]
    simp only [cond_false]
    rw [alln_iter (hit := some false) (fin := some true) (fun i => eqQ a.2.2.2.1[i]? b.2.2.2.1[i]? && (eqQ a.2.2.2.2.2.1[i]? b.2.2.2.2.2.1[i]? && (eqQ a.2.2.2.2.2.2.1[i]? b.2.2.2.2.2.2.1[i]? && eqQ a.2.2.2.2.1[i]? b.2.2.2.2.1[i]?))) a.2.2.2.1.length (by omega) (fun i nx hi => ?hs2) (fun nx => ?hf2)]
    case hs2 =>
      simp only [spec_l39Queues_T11]
      have q1 : i < b.2.2.2.1.length := by omega
      have q2 : i < a.2.2.2.2.2.1.length := by omega
      have q3 : i < b.2.2.2.2.2.1.length := by omega
      have q4 : i < a.2.2.2.2.2.2.1.length := by omega
      have q5 : i < b.2.2.2.2.2.2.1.length := by omega
      have q6 : i < a.2.2.2.2.1.length := by omega
      have q7 : i < b.2.2.2.2.1.length := by omega
      have some_inj : ∀ {α : Type} (x y : α), eqQ (some x) (some y) = eqQ x y := fun x y => by rw [Bool.eq_iff_iff, eqQ_iff, eqQ_iff, Option.some.injEq]
      rw [List.getElem?_eq_getElem hi, List.getElem?_eq_getElem q1, List.getElem?_eq_getElem q2, List.getElem?_eq_getElem q3, List.getElem?_eq_getElem q4, List.getElem?_eq_getElem q5, List.getElem?_eq_getElem q6, List.getElem?_eq_getElem q7, some_inj, some_inj, some_inj, some_inj]
      rw [decide_eq_true (by omega), idx_lt hi, idx_lt q1, idx_lt q2, idx_lt q3, idx_lt q4, idx_lt q5, idx_lt q6, idx_lt q7, wrap64 (n := (i : Int) + 1) (by omega) (by omega)]
      simp only [cond_true, bindO_some, specPoolEq _ _ (z.z.p1 _ (List.getElem_mem q6))]
      have e1 := eqQ_of (rxEq_iff a.2.2.2.1[i] b.2.2.2.1[i])
      have e2 := eqQ_of (vecEq_iff a.2.2.2.2.2.1[i] b.2.2.2.2.2.1[i])
      have e3 := beqQ a.2.2.2.2.2.2.1[i] b.2.2.2.2.2.2.1[i]
      unfold rxEq at e1
      unfold vecEq at e2
      rw [e1, e2, e3]
      simp only [cond_some, cT, bindO_some, Bool.not_and]; rfl
    case hf2 =>
      simp only [spec_l39Queues_T11]
      rw [decide_eq_false (by omega)]; rfl
    have key : ∀ {α : Type} (x y : List α) (n : Nat), x.length = n → y.length = n → (List.range n).all (fun i => eqQ x[i]? y[i]?) = eqQ x y := by
      intro α x y n hx hy
      apply eqQ_of
      rw [List.all_eq_true]
      constructor
      · intro k
        apply List.ext_getElem?
        intro i
        by_cases hi : i < n
        · exact eqQ_iff.1 (k i (List.mem_range.2 hi))
        · rw [List.getElem?_eq_none (by omega), List.getElem?_eq_none (by omega)]
      · rintro rfl i _; exact eqQ_true rfl
    rw [all_and, all_and, all_and, key _ _ _ rfl (by omega), key _ _ _ (by omega) (by omega), key _ _ _ (by omega) (by omega), key _ _ _ (by omega) (by omega)]
    cases eqQ a.2.2.2.1 b.2.2.2.1 <;> cases eqQ a.2.2.2.2.1 b.2.2.2.2.1 <;> cases eqQ a.2.2.2.2.2.1 b.2.2.2.2.2.1 <;> cases eqQ a.2.2.2.2.2.2.1 b.2.2.2.2.2.2.1 <;> rfl
  rw [eqQ_prod a.2.2.1 b.2.2.1, eqQ_prod a.2.2.1.2 b.2.2.1.2, eqQ_prod a.2.2.1.2.2 b.2.2.1.2.2]
  generalize (eqQ a.2.2.2.1 b.2.2.2.1 && (eqQ a.2.2.2.2.1 b.2.2.2.2.1 && (eqQ a.2.2.2.2.2.1 b.2.2.2.2.2.1 && eqQ a.2.2.2.2.2.2.1 b.2.2.2.2.2.2.1))) = X
  cases eqQ a.2.2.1.1 b.2.2.1.1 <;> cases eqQ a.2.2.1.2.1 b.2.2.1.2.1 <;> cases eqQ a.2.2.1.2.2.1 b.2.2.1.2.2.1 <;> cases eqQ a.2.2.1.2.2.2 b.2.2.1.2.2.2 <;> cases X <;> rfl
theorem specSteerEq (a b : Steering) (h1 : a.1.length ≤ 1000000000) (h2 : a.2.1.length ≤ 1000000000) (h3 : a.2.2.2.length ≤ 1000000000) : spec_l39Steering a b = some (eqQ a b) := by
  unfold spec_l39Steering
  simp only [specInts _ _ h3, bindO_some, cond_some, cT, bne, beqQ]
  by_cases l1 : ¬ a.1.length = b.1.length
  · rw [eqQ_false (a := (a.1.length : Int)) (by omega), eqQ_false (a := a) (fun e => l1 (by rw [e]))]; simp
  replace l1 := Decidable.of_not_not l1
  by_cases l2 : ¬ a.2.1.length = b.2.1.length
  · rw [eqQ_false (a := (a.2.1.length : Int)) (by omega), eqQ_false (a := a) (fun e => l2 (by rw [e]))]; simp
  replace l2 := Decidable.of_not_not l2
  rw [eqQ_true (a := (a.1.length : Int)) (by omega), eqQ_true (a := (a.2.1.length : Int)) (by omega)]
  rw [eqs_loop (hit := some false) (fin := some (eqQ a.2.1 b.2.1)) ruleEq ruleEq_iff a.1 b.1 l1 h1 (fun i hi nx => ?hs) (fun nx => ?hf)]
  case hs =>
    simp only [spec_l39Steering_T4]
    rw [decide_eq_true (by omega), idx_lt hi, idx_lt (l1 ▸ hi), wrap64 (n := (i : Int) + 1) (by omega) (by omega)]; rfl
  case hf =>
    simp only [spec_l39Steering_T4]
    rw [decide_eq_false (by omega)]
    simp only [cond_false]
    rw [eqs_loop (hit := some false) (fin := some true) slotEq slotEq_iff a.2.1 b.2.1 l2 h2 (fun i hi nx => ?hs2) (fun nx => ?hf2)]
    case hs2 =>
      simp only [spec_l39Steering_T9]
      rw [decide_eq_true (by omega), idx_lt hi, idx_lt (l2 ▸ hi), wrap64 (n := (i : Int) + 1) (by omega) (by omega)]; rfl
    case hf2 =>
      simp only [spec_l39Steering_T9]
      rw [decide_eq_false (by omega)]; rfl
    cases eqQ a.2.1 b.2.1 <;> rfl
  rw [eqQ_prod a b, eqQ_prod a.2 b.2, eqQ_prod a.2.2 b.2.2]
  cases eqQ a.1 b.1 <;> cases eqQ a.2.1 b.2.1 <;> cases eqQ a.2.2.1 b.2.2.1 <;> cases eqQ a.2.2.2 b.2.2.2 <;> rfl
theorem specLogsEq (a b : Host) (z : ViewSz a) : spec_l39Logs a b = some (eqQ a.2.2.2.2.2.2.2.1 b.2.2.2.2.2.2.2.1 && eqQ a.2.2.2.2.2.2.2.2.2 b.2.2.2.2.2.2.2.2.2) := by
  unfold spec_l39Logs
  simp only [specInts _ _ z.i, specInts _ _ z.j, specInts _ _ z.z.f1, bindO_some, cond_some, cT, cF, bne, beqQ]
  by_cases l1 : ¬ a.2.2.2.2.2.2.2.2.2.1.length = b.2.2.2.2.2.2.2.2.2.1.length
  · rw [eqQ_false (a := (a.2.2.2.2.2.2.2.2.2.1.length : Int)) (by omega), eqQ_false (a := a.2.2.2.2.2.2.2.2.2) (fun e => l1 (by rw [e]))]; simp
  replace l1 := Decidable.of_not_not l1
  by_cases l2 : ¬ a.2.2.2.2.2.2.2.2.2.2.2.1.length = b.2.2.2.2.2.2.2.2.2.2.2.1.length
  · rw [eqQ_false (a := (a.2.2.2.2.2.2.2.2.2.2.2.1.length : Int)) (by omega), eqQ_false (a := a.2.2.2.2.2.2.2.2.2) (fun e => l2 (by rw [e]))]; simp
  replace l2 := Decidable.of_not_not l2
  rw [eqQ_true (a := (a.2.2.2.2.2.2.2.2.2.1.length : Int)) (by omega), eqQ_true (a := (a.2.2.2.2.2.2.2.2.2.2.2.1.length : Int)) (by omega)]
  have hs1 := z.s
  have hs2 := z.l
  have lst : ∀ X : Bool, X = (eqQ a.2.2.2.2.2.2.2.2.2.2.1 b.2.2.2.2.2.2.2.2.2.2.1 && (eqQ a.2.2.2.2.2.2.2.2.2.2.2.2.2.2 b.2.2.2.2.2.2.2.2.2.2.2.2.2.2 && eqQ a.2.2.2.2.2.2.2.1 b.2.2.2.2.2.2.2.1)) →
    (bif !eqQ a.2.2.2.2.2.2.2.2.2.2.2.2.1 b.2.2.2.2.2.2.2.2.2.2.2.2.1 || !eqQ a.2.2.2.2.2.2.2.2.2.2.2.2.2.1 b.2.2.2.2.2.2.2.2.2.2.2.2.2.1 then some false else (bif eqQ a.2.2.2.2.2.2.2.2.2.1 b.2.2.2.2.2.2.2.2.2.1 then (bif eqQ a.2.2.2.2.2.2.2.2.2.2.2.1 b.2.2.2.2.2.2.2.2.2.2.2.1 then some X else some false) else some false))
      = some (eqQ a.2.2.2.2.2.2.2.1 b.2.2.2.2.2.2.2.1 && eqQ a.2.2.2.2.2.2.2.2.2 b.2.2.2.2.2.2.2.2.2) := by
    rintro X rfl
    rw [eqQ_prod a.2.2.2.2.2.2.2.2.2 b.2.2.2.2.2.2.2.2.2, eqQ_prod a.2.2.2.2.2.2.2.2.2.2 b.2.2.2.2.2.2.2.2.2.2, eqQ_prod a.2.2.2.2.2.2.2.2.2.2.2 b.2.2.2.2.2.2.2.2.2.2.2, eqQ_prod a.2.2.2.2.2.2.2.2.2.2.2.2 b.2.2.2.2.2.2.2.2.2.2.2.2, eqQ_prod a.2.2.2.2.2.2.2.2.2.2.2.2.2 b.2.2.2.2.2.2.2.2.2.2.2.2.2]
    generalize eqQ a.2.2.2.2.2.2.2.2.2.1 b.2.2.2.2.2.2.2.2.2.1 = x1
    generalize eqQ a.2.2.2.2.2.2.2.2.2.2.1 b.2.2.2.2.2.2.2.2.2.2.1 = x2
    generalize eqQ a.2.2.2.2.2.2.2.2.2.2.2.1 b.2.2.2.2.2.2.2.2.2.2.2.1 = x3
    generalize eqQ a.2.2.2.2.2.2.2.2.2.2.2.2.1 b.2.2.2.2.2.2.2.2.2.2.2.2.1 = x4
    generalize eqQ a.2.2.2.2.2.2.2.2.2.2.2.2.2.1 b.2.2.2.2.2.2.2.2.2.2.2.2.2.1 = x5
    generalize eqQ a.2.2.2.2.2.2.2.2.2.2.2.2.2.2 b.2.2.2.2.2.2.2.2.2.2.2.2.2.2 = x6
    generalize eqQ a.2.2.2.2.2.2.2.1 b.2.2.2.2.2.2.2.1 = x7
    cases x1 <;> cases x2 <;> cases x3 <;> cases x4 <;> cases x5 <;> cases x6 <;> cases x7 <;> rfl
  rw [eqs_loop (hit := some false) (fin := bif eqQ a.2.2.2.2.2.2.2.2.2.2.2.1 b.2.2.2.2.2.2.2.2.2.2.2.1 then some (eqQ a.2.2.2.2.2.2.2.2.2.2.1 b.2.2.2.2.2.2.2.2.2.2.1 && (eqQ a.2.2.2.2.2.2.2.2.2.2.2.2.2.2 b.2.2.2.2.2.2.2.2.2.2.2.2.2.2 && eqQ a.2.2.2.2.2.2.2.1 b.2.2.2.2.2.2.2.1)) else some false) streamEq streamEq_iff a.2.2.2.2.2.2.2.2.2.1 b.2.2.2.2.2.2.2.2.2.1 l1 hs1 (fun i hi nx => ?hs) (fun nx => ?hf)]
  case hs =>
    simp only [spec_l39Logs_T4]
    rw [decide_eq_true (by omega), idx_lt hi, idx_lt (l1 ▸ hi), wrap64 (n := (i : Int) + 1) (by omega) (by omega)]; rfl
  case hf =>
    simp only [spec_l39Logs_T4]
    rw [decide_eq_false (by omega)]
    simp only [cond_false]
    refine eqs_loop (hit := some false) (fun x y => x == y) (fun x y => beq_iff_eq) a.2.2.2.2.2.2.2.2.2.2.2.1 b.2.2.2.2.2.2.2.2.2.2.2.1 l2 hs2 (fun i hi nx => ?_) (fun nx => ?_)
    · simp only [spec_l39Logs_T9]
      rw [decide_eq_true (by omega), idx_lt hi, idx_lt (l2 ▸ hi), wrap64 (n := (i : Int) + 1) (by omega) (by omega)]; rfl
    · simp only [spec_l39Logs_T9]
      rw [decide_eq_false (by omega)]
      simp only [cond_false, Bool.and_true]
      congr 1
      rw [eqQ_prod a.2.2.2.2.2.2.2.1, eqQ_prod a.2.2.2.2.2.2.2.1.2, eqQ_prod a.2.2.2.2.2.2.2.2.2.2.2.2.2.2, eqQ_prod a.2.2.2.2.2.2.2.2.2.2.2.2.2.2.2, eqQ_prod a.2.2.2.2.2.2.2.2.2.2.2.2.2.2.2.2, eqQ_prod a.2.2.2.2.2.2.2.2.2.2.2.2.2.2.2.2.2]
  simp only [Bool.not_true, Bool.false_or]
  exact lst _ rfl

end

end Go.Pu
