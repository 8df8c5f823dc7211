import Derived.Test.YtoickmmiogbhgaaGreatPuSteer
/- Ports of a card: the program's and the reference's lists are one. -/
namespace Go.Pu
open Go.Dn
set_option linter.unusedSimpArgs false
set_option linter.unusedVariables false
noncomputable section

def hasB (l : List Int) (v : Int) : Bool := l.any (· == v)
theorem hasB_iff {l : List Int} {v : Int} : hasB l v = true ↔ v ∈ l := by
  simp only [hasB, List.any_eq_true, beq_iff_eq]
  constructor
  · rintro ⟨x, hx, rfl⟩; exact hx
  · intro h; exact ⟨v, h, rfl⟩
theorem specHas (l : List Int) (v : Int) (h : l.length ≤ 1000000000) : spec_l24Has l v = some (hasB l v) := by
  unfold spec_l24Has hasB
  rw [any_iter (hit := some true) (fin := some false) (fun x : Int => x == v) l (by omega) (fun i hi nx => ?hs) (fun nx => ?hf)]
  case hs =>
    simp only [spec_l24Has_T2]
    rw [decide_eq_true (by omega), idx_lt hi, wrap64 (by omega) (by omega)]; rfl
  case hf =>
    simp only [spec_l24Has_T2]
    rw [decide_eq_false (by omega)]; rfl
  cases l.any (fun x => x == v) <;> rfl
theorem implHas (l : List Int) (v : Int) (h : l.length ≤ 1000000000) : impl_hasInt l v = some (hasB l v) := specHas l v h

/-- a number into its place -/
def ins (v : Int) : List Int → List Int
  | [] => [v]
  | x :: l => bif decide (v < x) then v :: x :: l else x :: ins v l
theorem ins_len (v : Int) : ∀ l, (ins v l).length = l.length + 1
  | [] => rfl
  | x :: l => by
    rw [ins]
    cases decide (v < x) with
    | true => rfl
    | false => simp only [cond_false, List.length_cons, ins_len v l]
theorem mem_ins (v x : Int) : ∀ l, x ∈ ins v l ↔ x = v ∨ x ∈ l
  | [] => by simp [ins]
  | y :: l => by
    rw [ins]
    cases decide (v < y) with
    | true => simp
    | false => simp only [cond_false, List.mem_cons, mem_ins v x l]; constructor <;> (rintro (h | h | h) <;> simp [h])
theorem ins_at (v : Int) : ∀ l : List Int, v ∉ l → l.take (l.findIdx (fun x => !decide (x < v))) ++ [v] ++ l.drop (l.findIdx (fun x => !decide (x < v))) = ins v l
  | [], _ => rfl
  | x :: l, h => by
    rw [ins, List.findIdx_cons]
    have hx : v ≠ x := fun e => h (by simp [e])
    have hl : v ∉ l := fun e => h (by simp [e])
    by_cases c : x < v
    · rw [decide_eq_true c, decide_eq_false (show ¬ v < x by omega)]
      have := ins_at v l hl
      simpa using this
    · rw [decide_eq_false c, decide_eq_true (show v < x by omega)]; rfl
def addV (l : List Int) (v : Int) : List Int := bif hasB l v then l else ins v l
theorem addV_len (l : List Int) (v : Int) : (addV l v).length ≤ l.length + 1 := by
  unfold addV
  cases hasB l v with
  | true => simp
  | false => simp only [cond_false, ins_len]; omega
theorem mem_addV {l : List Int} {v x : Int} (h : x ∈ l) : x ∈ addV l v := by
  unfold addV
  cases hasB l v with
  | true => exact h
  | false => exact (mem_ins v x l).2 (.inr h)
theorem addV_self {l : List Int} {v : Int} (h : v ∈ l) : addV l v = l := by
  unfold addV; rw [hasB_iff.2 h]; rfl
theorem union_len : ∀ (vs l : List Int), (vs.foldl addV l).length ≤ l.length + vs.length
  | [], l => by simp
  | v :: vs, l => by
    have := union_len vs (addV l v)
    have := addV_len l v
    simp only [List.foldl_cons, List.length_cons]; omega
theorem mem_union : ∀ (vs : List Int) {l : List Int} {x : Int}, x ∈ l → x ∈ vs.foldl addV l
  | [], _, _, h => h
  | v :: vs, l, x, h => mem_union vs (l := addV l v) (mem_addV h)
theorem find_idx {α R : Type} (p : α → Bool) (k : Int → Option R) (l : List α) : (match l.findIdx? p with | some i => k (i : Int) | none => k (l.length : Int)) = k (l.findIdx p : Int) := by
  cases h : l.findIdx? p with
  | none => rw [List.findIdx?_eq_none_iff_findIdx_eq] at h; rw [h]
  | some i => rw [List.findIdx?_eq_some_iff_findIdx_eq] at h; rw [h.2]
theorem sub_take {α : Type} (l : List α) (j : Nat) (h : j ≤ l.length) : sub l 0 (j : Int) = some (l.take j) := by
  unfold sub; rw [if_pos (by omega)]; simp
theorem sub_drop {α : Type} (l : List α) (j : Nat) (h : j ≤ l.length) : sub l (j : Int) (l.length : Int) = some (l.drop j) := by
  unfold sub; rw [if_pos (by omega)]; simp
theorem specUnion (a vs : List Int) (h : a.length + vs.length ≤ 1000000000) : spec_l42Union a vs = some (vs.foldl addV a) := by
  unfold spec_l42Union
  rw [room_le (by simp only [List.length_nil]; omega)]
  rw [List.nil_append]
  have := run_iter (T := spec_l42Union_T3 (fun (y10 : List Int) (_ : Int) => some y10) vs) vs (fun (s : List Int) i => (s, (i : Int))) (fun i s => s.length ≤ a.length + i) (fun v s => .ok (addV s v)) (fun s => some s) (by omega)
    (fun i hi s nx hI => ?hs) (fun i hi s s' hI hg => ?hn) (fun s nx hI => ?hf) a (by simp)
  case hs =>
    simp only [spec_l42Union_T3]
    rw [decide_eq_true (by omega), idx_lt hi, wrap64 (n := (i : Int) + 1) (by omega) (by omega)]
    simp only [cond_true, bindO_some, specHas s vs[i] (by omega)]
    unfold addV
    cases hh : hasB s vs[i] with
    | true => rfl
    | false =>
      have hm : vs[i] ∉ s := fun e => by rw [hasB_iff.2 e] at hh; cases hh
      simp only [cond_false]
      rw [find_iter (hit := fun y6 => bindO (sub s 0 y6) fun x7 => room (List.length ([] : List Int) + List.length x7) (room (List.length (([] : List Int) ++ x7) + List.length ([vs[i]])) (bindO (sub s y6 (s.length : Int)) fun x9 => room (List.length ((([] : List Int) ++ x7) ++ ([vs[i]])) + List.length x9) (nx (((([] : List Int) ++ x7) ++ ([vs[i]])) ++ x9, (i : Int) + 1)))))
        (fin := bindO (sub s 0 (s.length : Int)) fun x7 => room (List.length ([] : List Int) + List.length x7) (room (List.length (([] : List Int) ++ x7) + List.length ([vs[i]])) (bindO (sub s (s.length : Int) (s.length : Int)) fun x9 => room (List.length ((([] : List Int) ++ x7) ++ ([vs[i]])) + List.length x9) (nx (((([] : List Int) ++ x7) ++ ([vs[i]])) ++ x9, (i : Int) + 1)))))
        (fun x => !decide (x < vs[i])) s (by omega) (fun j hj nx' => ?hs2) (fun nx' => ?hf2)]
      case hs2 =>
        simp only [spec_l42Union_T7]
        rw [decide_eq_true (by omega), idx_lt hj, idx_lt hi, wrap64 (n := (j : Int) + 1) (by omega) (by omega)]
        simp only [cond_true, bindO_some]
        cases decide (s[j] < vs[i]) <;> rfl
      case hf2 =>
        simp only [spec_l42Union_T7]
        rw [decide_eq_false (by omega)]; rfl
      refine Eq.trans (find_idx (fun x => !decide (x < vs[i])) (fun y6 => bindO (sub s 0 y6) fun x7 => room (List.length ([] : List Int) + List.length x7) (room (List.length (([] : List Int) ++ x7) + List.length ([vs[i]])) (bindO (sub s y6 (s.length : Int)) fun x9 => room (List.length ((([] : List Int) ++ x7) ++ ([vs[i]])) + List.length x9) (nx (((([] : List Int) ++ x7) ++ ([vs[i]])) ++ x9, (i : Int) + 1))))) s) ?_
      have hle : s.findIdx (fun x => !decide (x < vs[i])) ≤ s.length := List.findIdx_le_length
      have e := ins_at vs[i] s hm
      generalize s.findIdx (fun x => !decide (x < vs[i])) = j at *
      rw [sub_take s j hle, sub_drop s j hle]
      simp only [bindO_some, List.nil_append]
      rw [room_le (by simp; omega), room_le (by simp; omega), room_le (by simp; omega), e]; rfl
  case hn =>
    cases hg
    have := addV_len s vs[i]
    omega
  case hf =>
    simp only [spec_l42Union_T3]
    rw [decide_eq_false (by omega)]; rfl
  rw [runG_ok] at this
  exact this
theorem implAdd (l : List Int) (v : Int) (h : l.length ≤ 1000000000) : impl_addOrdered l v = some (ins v l) := by
  unfold impl_addOrdered
  have hgo : ∀ (l : List Int) (acc : List Int) (d : Bool), acc.length + l.length + (bif d then 0 else 1) ≤ 1073741824 →
      foldK (fun (x : Int) (s : List Int × Bool) (k : List Int × Bool → Option (List Int)) => cond (cond (!s.2) (decide (v < x)) false) (room (List.length s.1 + List.length ([v])) (room (List.length (s.1 ++ ([v])) + List.length ([x])) (k ((s.1 ++ ([v])) ++ ([x]), true)))) (room (List.length s.1 + List.length ([x])) (k (s.1 ++ ([x]), s.2))))
        (fun s => cond (!s.2) (room (List.length s.1 + List.length ([v])) (some (s.1 ++ ([v])))) (some s.1)) l (acc, d) = some (acc ++ bif d then l else ins v l) := by
    intro l
    induction l with
    | nil =>
      intro acc d hl
      rw [foldK]
      simp only [List.length_nil] at hl
      cases d with
      | true => simp
      | false =>
        simp only [Bool.not_false, cond_true, cond_false] at hl ⊢
        rw [room_le (by simp; omega)]; rfl
    | cons x l ih =>
      intro acc d hl
      simp only [List.length_cons] at hl
      rw [foldK]
      cases d with
      | true =>
        simp only [Bool.not_true, cond_false, cond_true] at hl ⊢
        rw [room_le (by simp; omega), ih _ _ (by simp; omega)]
        simp
      | false =>
        simp only [Bool.not_false, cond_true, cond_false] at hl ⊢
        rw [ins]
        cases decide (v < x) with
        | true =>
          simp only [cond_true]
          rw [room_le (by simp; omega), room_le (by simp; omega)]
          rw [ih _ _ (by simp; omega)]; simp
        | false =>
          simp only [cond_false]
          rw [room_le (by simp; omega), ih _ _ (by simp; omega)]
          simp
  have hfu := fuel_ge
  have key := iter_list (T := impl_addOrdered_T4 (fun (y3 : List Int) (y4 : Bool) (_ : Int) => cond (!y4) (room (List.length y3 + List.length ([v])) (some (y3 ++ ([v])))) (some y3)) v l (l.length : Int)) l (fun (s : List Int × Bool) i => (s.1, s.2, (i : Int)))
    (fun (x : Int) (s : List Int × Bool) (k : List Int × Bool → Option (List Int)) => cond (cond (!s.2) (decide (v < x)) false) (room (List.length s.1 + List.length ([v])) (room (List.length (s.1 ++ ([v])) + List.length ([x])) (k ((s.1 ++ ([v])) ++ ([x]), true)))) (room (List.length s.1 + List.length ([x])) (k (s.1 ++ ([x]), s.2))))
    (fun s => cond (!s.2) (room (List.length s.1 + List.length ([v])) (some (s.1 ++ ([v])))) (some s.1))
    (fun i hi s nx => by
      simp only [impl_addOrdered_T4]
      rw [decide_eq_true (by omega), idx_lt hi, wrap64 (n := (i : Int) + 1) (by omega) (by omega)]
      simp only [cond_true, bindO_some, cond_some]; rfl)
    (fun s nx => by
      simp only [impl_addOrdered_T4]
      rw [decide_eq_false (by omega)]; rfl)
    fuel 0 (([] : List Int), false) (by omega) (by omega)
  rw [List.drop_zero, hgo l [] false (by simp; omega)] at key
  exact key


-- ports
def portZ : Port := (0, [], 0, false)
def portInB (p : Port) : Bool := filterB (p.1, false, p.2.1) && hasB p.2.1 p.2.2.1
def portB (l : List Port) (i : Nat) : Bool := portInB (l.getD i portZ) && (List.range i).all (fun j => !((j != 0) && ((l.getD j portZ).1 == (l.getD i portZ).1)))
def portsB (l : List Port) : Bool := inB (l.length : Int) 1 8 && (List.range l.length).all (portB l)
theorem range_pred (i : Nat) (q : Nat → Bool) : (List.range (i - 1)).all (fun j => !(q (j + 1))) = (List.range i).all (fun j => !((j != 0) && q j)) := by
  rw [Bool.eq_iff_iff, List.all_eq_true, List.all_eq_true]
  simp only [List.mem_range]
  constructor
  · intro h j hj
    cases j with
    | zero => rfl
    | succ j =>
      have := h j (by omega)
      simpa using this
  · intro h j hj
    have := h (j + 1) (by omega)
    simpa using this
theorem specPorts (l : List Port) (h : l.length ≤ 1000000000) (hv : ∀ p ∈ l, p.2.1.length ≤ 1000000000) : spec_PortsOk l = some (portsB l) := by
  unfold spec_PortsOk portsB
  rw [alln_iter (hit := some false) (fin := some true) (portB l) l.length (by omega) (fun i nx hi => ?hs) (fun nx => ?hf)]
  case hs =>
    have hvi := hv _ (List.getElem_mem hi)
    simp only [spec_PortsOk_T4]
    rw [decide_eq_true (by omega), idx_lt hi, wrap64 (by omega) (by omega)]
    simp only [cond_true, bindO_some, specFilter (l[i].1, false, l[i].2.1) hvi, specHas _ _ hvi]
    have e1 : (1 : Int) = (((0 : Nat) + 1 : Nat) : Int) := rfl
    rw [e1, allx_iter (hit := some false) (fin := nx ((i : Int) + 1)) (fun j => ((j + 1 : Nat) : Int)) (fun j => !((l.getD (j + 1) portZ).1 == l[i].1)) (i - 1) (by omega) (fun j nx' hj hp => ?hs2) (fun hp nx' => ?hf2)]
    case hs2 =>
      have hjl : j + 1 < l.length := by omega
      simp only [spec_PortsOk_T9]
      rw [decide_eq_true (by omega), idx_lt hjl, idx_lt hi, wrap64 (by omega) (by omega)]
      simp only [cond_true, bindO_some, getD_lt hjl, Bool.not_not]; rfl
    case hf2 =>
      simp only [spec_PortsOk_T9]
      rw [decide_eq_false (by omega)]; rfl
    rw [range_pred i (fun j => (l.getD j portZ).1 == l[i].1)]
    simp only [portB, portInB, getD_lt hi]
    cases filterB (l[i].1, false, l[i].2.1) <;> cases hasB l[i].2.1 l[i].2.2.1 <;> cases (List.range i).all (fun j => !((j != 0) && ((l.getD j portZ).1 == l[i].1))) <;> rfl
  case hf =>
    simp only [spec_PortsOk_T4]
    rw [decide_eq_false (by omega)]; rfl
  simp only [l01In_eq, bindO_some]
  cases inB (l.length : Int) 1 8 <;> cases (List.range l.length).all (portB l) <;> rfl
def firstN (p : Nat → Bool) : List Nat → Int
  | [] => -1
  | j :: r => bif p j then (j : Int) else firstN p r
theorem first_at (p : Nat → Bool) : ∀ n s i, s ≤ i → i < s + n → p i = true → (firstN p (List.range' s n) == (i : Int)) = (List.range' s (i - s)).all (fun j => !(p j))
  | 0, s, i, h1, h2, _ => by omega
  | n + 1, s, i, h1, h2, hp => by
    rw [List.range'_succ, firstN]
    rcases Nat.lt_or_ge s i with hlt | hge
    · obtain ⟨k, hk⟩ : ∃ k, i - s = k + 1 := ⟨i - s - 1, by omega⟩
      rw [hk, List.range'_succ, List.all_cons]
      cases hps : p s with
      | true =>
        simp only [cond_true, Bool.not_true, Bool.false_and]
        have : ¬ (s : Int) = (i : Int) := by omega
        simpa using this
      | false =>
        simp only [cond_false, Bool.not_false, Bool.true_and]
        rw [first_at p n (s + 1) i (by omega) (by omega) hp, show i - (s + 1) = k by omega]
    · have : s = i := by omega
      subst this
      rw [hp, Nat.sub_self]
      simp
theorem runG_first {R : Type} (p : Nat → Bool) (hit : Nat → Option R) (fin : Option R) (k : Int → Option R) (h1 : ∀ j : Nat, hit j = k (j : Int)) (h2 : fin = k (-1)) : ∀ l : List Nat, runG (fun (j : Nat) (s : Unit) => bif p j then .error (hit j) else .ok ()) (fun _ => fin) l () = k (firstN p l)
  | [] => h2
  | j :: l => by
    rw [runG, firstN]
    cases p j with
    | true => exact h1 j
    | false => exact runG_first p hit fin k h1 h2 l
theorem implWith (l : List Port) (a : Int) (h : l.length ≤ 1000000000) : impl_portWith l a = some (firstN (fun j => (j != 0) && ((l.getD j portZ).1 == a)) (List.range' 0 l.length)) := by
  unfold impl_portWith
  have := run_iter (T := impl_portWith_T2 (fun (_ : Int) => some (-1)) (fun (y4 : Int) (_ : Int) => some y4) a 0 l (l.length : Int)) (List.range' 0 l.length) (fun (_ : Unit) i => (i : Int)) (fun _ _ => True)
    (fun (j : Nat) (s : Unit) => bif (j != 0) && ((l.getD j portZ).1 == a) then .error (some (j : Int)) else .ok ()) (fun _ => some (-1)) (by simp; omega)
    (fun i hi s nx _ => ?hs) (fun _ _ _ _ _ _ => trivial) (fun s nx _ => ?hf) () trivial
  case hs =>
    have hil : i < l.length := by simpa using hi
    have e : (List.range' 0 l.length)[i] = i := by simp
    rw [e]
    simp only [impl_portWith_T2]
    rw [decide_eq_true (by omega), idx_lt hil, wrap64 (by omega) (by omega)]
    simp only [cond_true, bindO_some, getD_lt hil, cond_some, cF]
    have e2 : ((i : Int) != 0) = (i != 0) := by rw [Bool.eq_iff_iff]; simp
    rw [e2]
    cases (i != 0) && (l[i].1 == a) <;> rfl
  case hf =>
    simp only [impl_portWith_T2]
    rw [decide_eq_false (by simp)]; rfl
  rw [runG_first (fun j => (j != 0) && ((l.getD j portZ).1 == a)) _ _ (fun x => some x) (fun _ => rfl) rfl] at this
  exact this
theorem implPorts (l : List Port) (h : l.length ≤ 1000000000) (hv : ∀ p ∈ l, p.2.1.length ≤ 1000000000) : impl_PortsOk l = some (portsB l) := by
  unfold impl_PortsOk portsB
  rw [alln_iter (hit := some false) (fin := some true) (portB l) l.length (by omega) (fun i nx hi => ?hs) (fun nx => ?hf)]
  case hs =>
    have hvi := hv _ (List.getElem_mem hi)
    simp only [impl_PortsOk_T4]
    rw [decide_eq_true (by omega), idx_lt hi, wrap64 (by omega) (by omega)]
    simp only [cond_true, bindO_some, impl_filterOf, implFilter (l[i].1, false, l[i].2.1) hvi, implHas _ _ hvi, implWith l _ h, cond_some, bne]
    have e2 : ((i : Int) == 0) = (i == 0) := by rw [Bool.eq_iff_iff]; simp
    rw [e2]
    simp only [portB, portInB, getD_lt hi]
    cases h0 : i == 0 with
    | true =>
      have : i = 0 := by simpa using h0
      subst this
      cases filterB (l[0].1, false, l[0].2.1) <;> cases hasB l[0].2.1 l[0].2.2.1 <;> rfl
    | false =>
      have hne : (i != 0) = true := by simp only [bne, h0, Bool.not_false]
      have fa := first_at (fun j => (j != 0) && ((l.getD j portZ).1 == l[i].1)) l.length 0 i (by omega) (by omega) (by simp only [hne, getD_lt hi, Bool.true_and, beq_self_eq_true])
      rw [Nat.sub_zero, ← List.range_eq_range' (n := i)] at fa
      simp only [bne] at fa ⊢
      rw [fa]
      cases filterB (l[i].1, false, l[i].2.1) <;> cases hasB l[i].2.1 l[i].2.2.1 <;> cases (List.range i).all (fun j => !((!(j == 0)) && ((l.getD j portZ).1 == l[i].1))) <;> rfl
  case hf =>
    simp only [impl_PortsOk_T4]
    rw [decide_eq_false (by omega)]; rfl
  simp only [between_eq, bindO_some]
  cases inB (l.length : Int) 1 8 <;> cases (List.range l.length).all (portB l) <;> rfl

-- mailboxes and their ports
def mailB (m : Mailbox) : Bool := filterB m.1 && (inB m.2.1 0 1000000000000 && inB m.2.2.2 0 1000000000000)
theorem specMail (m : Mailbox) (h : m.1.2.2.length ≤ 1000000000) : spec_MailboxOk m = some (mailB m) := by
  simp only [spec_MailboxOk, specFilter _ h, l01In_eq, bindO_some, cond_some, cF, mailB]
theorem implMail (m : Mailbox) (h : m.1.2.2.length ≤ 1000000000) : impl_MailboxOk m = some (mailB m) := by
  simp only [impl_MailboxOk, implFilter _ h, between_eq, bindO_some, cond_some, cF, mailB]
theorem mail_len {m : Mailbox} (h : mailB m = true) : m.1.2.2.length ≤ 8 := by
  unfold mailB filterB at h
  simp only [Bool.and_eq_true, decide_eq_true_eq] at h
  omega
def portOf (m : Mailbox) : Port := (m.1.1, m.1.2.2.foldl addV [0], 0, true)
def stepP (s : List Int × List Port) (m : Mailbox) : List Int × List Port := (m.1.2.2.foldl addV s.1, s.2 ++ [portOf m])
def portsOf (ms : List Mailbox) : List Port := (0, (ms.foldl stepP ([0], [])).1, 0, false) :: (ms.foldl stepP ([0], [])).2
def portsR (ms : List Mailbox) : List Port × Bool := bif inB (ms.length : Int) 1 3 && (ms.all mailB && portsB (portsOf ms)) then (portsOf ms, true) else ([], false)
theorem runG_all {α σ R : Type} (p : α → Bool) (f : σ → α → σ) (r : Option R) (fin : σ → Option R) : ∀ (l : List α) (s : σ), runG (fun x s => bif p x then .ok (f s x) else .error r) fin l s = bif l.all p then fin (l.foldl f s) else r
  | [], s => rfl
  | x :: l, s => by
    rw [runG, List.all_cons, List.foldl_cons]
    cases p x with
    | false => rfl
    | true => simp only [cond_true, Bool.true_and]; exact runG_all p f r fin l (f s x)
/-- sizes behind some mailboxes -/
def PInv (i : Nat) (s : List Int × List Port) : Prop := s.1.length ≤ 1 + 9 * i ∧ s.2.length = i ∧ ∀ p ∈ s.2, p.2.1.length ≤ 9
theorem PInv.port {i : Nat} {s : List Int × List Port} (h : PInv i s) {m : Mailbox} (hm : mailB m = true) (U : List Int) (hU : U.length ≤ s.1.length + 9) : PInv (i + 1) (U, s.2 ++ [portOf m]) := by
  have hl := mail_len hm
  have := union_len m.1.2.2 [0]
  refine ⟨?_, ?_, ?_⟩
  · have := h.1; simp only; omega
  · have := h.2.1; simp; omega
  · intro p hp
    rcases List.mem_append.1 hp with hp | hp
    · exact h.2.2 p hp
    · simp only [List.mem_singleton] at hp; subst hp
      simp only [portOf, List.length_singleton] at this ⊢; omega
theorem pinv_bounds {i : Nat} {s : List Int × List Port} (h : PInv i s) (hi : i ≤ 3) : ((0, s.1, 0, false) :: s.2 : List Port).length ≤ 1000000000 ∧ ∀ p ∈ ((0, s.1, 0, false) :: s.2 : List Port), p.2.1.length ≤ 1000000000 := by
  have h1 := h.1
  have h2 := h.2.1
  refine ⟨by simp only [List.length_cons]; omega, fun p hp => ?_⟩
  rcases List.mem_cons.1 hp with rfl | hp
  · simp only; omega
  · have := h.2.2 p hp; omega
theorem specPortsOf (ms : List Mailbox) (h : ∀ m ∈ ms, m.1.2.2.length ≤ 1000000000) : spec_PortsOf ms = some (portsR ms) := by
  unfold spec_PortsOf portsR
  simp only [l01In_eq, bindO_some]
  cases hn : inB (ms.length : Int) 1 3 with
  | false => rfl
  | true =>
    have hn' := inB_iff.1 hn
    simp only [Bool.not_true, cond_false, Bool.true_and]
    have := run_iter (T := spec_PortsOf_T5 (fun (y12 : List Port) (_ : Int) => bindO (spec_PortsOk y12) fun r14 => cond (!r14) (some (([] : List Port), false)) (some (y12, true))) (fun (y15 : List Port) (y16 : Bool) (_ : List Port) (_ : Int) => some (y15, y16)) ms ([] : List Port) false)
      ms (fun (s : List Int × List Port) i => ((0, s.1, 0, false) :: s.2, (i : Int))) PInv (fun m s => bif mailB m then .ok (stepP s m) else .error (some (([] : List Port), false)))
      (fun s => some (bif portsB ((0, s.1, 0, false) :: s.2) then ((0, s.1, 0, false) :: s.2, true) else ([], false))) (by omega) (fun i hi s nx hI => ?hs) (fun i hi s s' hI hg => ?hn) (fun s nx hI => ?hf) ([0], []) ⟨by simp, rfl, by simp⟩
    case hs =>
      simp only [spec_PortsOf_T5]
      have hm := h _ (List.getElem_mem hi)
      rw [decide_eq_true (by omega), idx_lt hi, wrap64 (n := (i : Int) + 1) (by omega) (by omega)]
      simp only [cond_true, bindO_some, specMail _ hm]
      cases hmb : mailB ms[i] with
      | false => rfl
      | true =>
        have hl := mail_len hmb
        have hU := hI.1
        have hP := hI.2.1
        have e0 : idx ((0, s.1, 0, false) :: s.2 : List Port) 0 = some (0, s.1, 0, false) := rfl
        simp only [Bool.not_true, cond_false, cond_true, e0, bindO_some]
        rw [specUnion s.1 _ (by omega), specUnion [0] _ (by simp; omega)]
        simp only [bindO_some]
        rw [room_le (by simp; omega)]
        rfl
    case hn =>
      cases hmb : mailB ms[i] with
      | false => rw [hmb] at hg; cases hg
      | true =>
        rw [hmb] at hg
        cases hg
        have := union_len ms[i].1.2.2 s.1
        have := mail_len hmb
        exact hI.port hmb _ (by omega)
    case hf =>
      simp only [spec_PortsOf_T5]
      rw [decide_eq_false (by omega)]
      have hb := pinv_bounds hI (by omega)
      simp only [cond_false, specPorts _ hb.1 hb.2, bindO_some]
      cases portsB ((0, s.1, 0, false) :: s.2) <;> rfl
    rw [runG_all] at this
    refine Eq.trans this ?_
    unfold portsOf
    cases ms.all mailB <;> rfl
def stepI (s : List Int × List Port) (m : Mailbox) : List Int × List Port := (([0] ++ m.1.2.2).foldl addV s.1, s.2 ++ [portOf m])
theorem stepI_eq {s : List Int × List Port} {m : Mailbox} (h : (0 : Int) ∈ s.1) : stepI s m = stepP s m := by
  unfold stepI stepP
  rw [List.foldl_append]
  simp only [List.foldl_cons, List.foldl_nil, addV_self h]
theorem stepI_fold : ∀ (ms : List Mailbox) (s : List Int × List Port), (0 : Int) ∈ s.1 → ms.foldl stepI s = ms.foldl stepP s
  | [], _, _ => rfl
  | m :: ms, s, h => by
    rw [List.foldl_cons, List.foldl_cons, stepI_eq h]
    exact stepI_fold ms _ (mem_union _ h)
theorem stepI_first (ms : List Mailbox) (h : ms ≠ []) : ms.foldl stepI ([], []) = ms.foldl stepP ([0], []) := by
  cases ms with
  | nil => exact absurd rfl h
  | cons m ms =>
    rw [List.foldl_cons, List.foldl_cons]
    have e : stepI ([], []) m = stepP ([0], []) m := rfl
    rw [e]
    exact stepI_fold ms _ (mem_union _ (by simp))
theorem implInner {R : Type} (k0 : List Int → List Int → Int → Option R) (k : List Int → List Int → Option R) (hk : ∀ a b i, k0 a b i = k a b) (v2 : List Port) (v3 : Bool) (v4 : List Port) (v18 : List Mailbox) (v19 v20 : Int) (b7 : Mailbox) (vs all : List Int) (h : all.length + vs.length ≤ 1000000000) :
    iterL (impl_PortsOf_T12 k0 v2 v3 v4 v18 v19 v20 vs (vs.length : Int) b7) fuel (all, ([] : List Int), 0) = k (vs.foldl addV all) (vs.foldl addV []) := by
  have := run_iter (T := impl_PortsOf_T12 k0 v2 v3 v4 v18 v19 v20 vs (vs.length : Int) b7) vs (fun (s : List Int × List Int) i => (s.1, s.2, (i : Int))) (fun i s => s.1.length ≤ all.length + i ∧ s.2.length ≤ i) (fun v s => .ok (addV s.1 v, addV s.2 v)) (fun s => k s.1 s.2) (by omega)
    (fun i hi s nx hI => ?hs) (fun i hi s s' hI hg => ?hn) (fun s nx hI => ?hf) (all, []) ⟨by simp, by simp⟩
  case hs =>
    simp only [impl_PortsOf_T12]
    rw [decide_eq_true (by omega), idx_lt hi, wrap64 (n := (i : Int) + 1) (by omega) (by omega)]
    simp only [cond_true, bindO_some, implHas s.2 vs[i] (by omega), implHas s.1 vs[i] (by omega), implAdd s.2 vs[i] (by omega), implAdd s.1 vs[i] (by omega), addV]
    cases hasB s.2 vs[i] <;> cases hasB s.1 vs[i] <;> rfl
  case hn =>
    cases hg
    have := addV_len s.1 vs[i]
    have := addV_len s.2 vs[i]
    have h1 := hI.1
    have h2 := hI.2
    exact ⟨by simp only; omega, by simp only; omega⟩
  case hf =>
    simp only [impl_PortsOf_T12]
    rw [decide_eq_false (by omega)]
    simp only [cond_false, hk]
  rw [runG_ok] at this
  refine Eq.trans this ?_
  have e : ∀ (l : List Int) (s : List Int × List Int), l.foldl (fun s v => (addV s.1 v, addV s.2 v)) s = (l.foldl addV s.1, l.foldl addV s.2) := by
    intro l
    induction l with
    | nil => intro s; rfl
    | cons x l ih => intro s; rw [List.foldl_cons, ih]; rfl
  rw [e]
theorem implPortsOf (ms : List Mailbox) (h : ∀ m ∈ ms, m.1.2.2.length ≤ 1000000000) : impl_PortsOf ms = some (portsR ms) := by
  unfold impl_PortsOf portsR
  simp only [between_eq, bindO_some]
  cases hn : inB (ms.length : Int) 1 3 with
  | false => rfl
  | true =>
    have hn' := inB_iff.1 hn
    simp only [Bool.not_true, cond_false, Bool.true_and]
    have := run_iter (T := impl_PortsOf_T6 (fun (y14 : List Port) (y15 : List Int) (_ : Int) => bindO (idx y14 0) fun x17 => bindO (idx y14 0) fun x18 => bindO (impl_PortsOk (List.set y14 (Int.toNat 0) (x18.1, y15, x18.2.2))) fun r19 => cond (!r19) (some (([] : List Port), false)) (some (List.set y14 (Int.toNat 0) (x18.1, y15, x18.2.2), true)))
        (fun (y20 : List Port) (y21 : Bool) (_ : List Port) (_ : List Int) (_ : Int) => some (y20, y21)) ([] : List Port) false ms (ms.length : Int))
      ms (fun (s : List Int × List Port) i => ((0, [], 0, false) :: s.2, s.1, (i : Int))) PInv (fun m s => bif mailB m then .ok (stepI s m) else .error (some (([] : List Port), false)))
      (fun s => some (bif portsB ((0, s.1, 0, false) :: s.2) then ((0, s.1, 0, false) :: s.2, true) else ([], false))) (by omega) (fun i hi s nx hI => ?hs) (fun i hi s s' hI hg => ?hn) (fun s nx hI => ?hf) ([], []) ⟨by simp, rfl, by simp⟩
    case hs =>
      simp only [impl_PortsOf_T6]
      have hm := h _ (List.getElem_mem hi)
      rw [decide_eq_true (by omega), idx_lt hi, wrap64 (n := (i : Int) + 1) (by omega) (by omega)]
      simp only [cond_true, bindO_some, implMail _ hm]
      cases hmb : mailB ms[i] with
      | false => rfl
      | true =>
        have hl := mail_len hmb
        have hU := hI.1
        have hP := hI.2.1
        simp only [Bool.not_true, cond_false, cond_true]
        rw [room_le (by simp; omega)]
        refine (implInner _ (fun a b => room (List.length ((0, [], 0, false) :: s.2 : List Port) + List.length ([(ms[i].1.1, b, 0, true)] : List Port)) (nx (((0, [], 0, false) :: s.2) ++ ([(ms[i].1.1, b, 0, true)]), a, (i : Int) + 1))) (fun _ _ _ => rfl) _ _ _ _ _ _ _ ([0] ++ ms[i].1.2.2) s.1 (by simp only [List.length_append, List.length_singleton]; omega)).trans ?_
        rw [room_le (by simp; omega)]
        rfl
    case hn =>
      cases hmb : mailB ms[i] with
      | false => rw [hmb] at hg; cases hg
      | true =>
        rw [hmb] at hg
        cases hg
        have hu := union_len ([0] ++ ms[i].1.2.2) s.1
        have hl := mail_len hmb
        simp only [List.length_append, List.length_singleton] at hu
        exact hI.port hmb _ (by omega)
    case hf =>
      simp only [impl_PortsOf_T6]
      rw [decide_eq_false (by omega)]
      have hb := pinv_bounds hI (by omega)
      have e0 : idx ((0, [], 0, false) :: s.2 : List Port) 0 = some (0, [], 0, false) := rfl
      have e1 : List.set ((0, [], 0, false) :: s.2 : List Port) (Int.toNat 0) (0, s.1, 0, false) = (0, s.1, 0, false) :: s.2 := rfl
      simp only [cond_false, e0, bindO_some, e1, implPorts _ hb.1 hb.2]
      cases portsB ((0, s.1, 0, false) :: s.2) <;> rfl
    rw [runG_all, stepI_first ms (by rintro rfl; simp at hn')] at this
    refine Eq.trans this ?_
    unfold portsOf
    cases ms.all mailB <;> rfl

end

end Go.Pu
