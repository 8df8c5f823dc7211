import Derived.Test.YtclgaiiidllehafGreatPuIdealOf
/- Commands to a card: the program's and the reference's results are one. -/
namespace Go.Pu
open Go.Dn
set_option linter.unusedSimpArgs false
set_option linter.unusedVariables false
noncomputable section

-- places of lists
theorem idx_set {α : Type} {l : List α} {k : Nat} (h : k < l.length) (x : α) : idx (l.set k x) (k : Int) = some x := by
  rw [idx_nat, List.getElem?_set_self h]
theorem set_len {α : Type} (l : List α) (k : Nat) (x : α) : (l.set k x).length = l.length := List.length_set ..

-- adding an address
def addVlanR (f : Filter) (v : Int) : Filter × Bool := bif filterB f && (!hasB f.2.2 v && filterB (f.1, f.2.1, ins v f.2.2)) then ((f.1, f.2.1, ins v f.2.2), true) else (f, false)
theorem implAddVlan (f : Filter) (v : Int) (h : f.2.2.length ≤ 100000000) : impl_AddVlan f v = some (addVlanR f v) := by
  have hi := ins_len v f.2.2
  simp only [impl_AddVlan, implCopyFilter f (by omega), implFilter f (by omega), implHas f.2.2 v (by omega), implAdd f.2.2 v (by omega), implFilter (f.1, f.2.1, ins v f.2.2) (show (ins v f.2.2).length ≤ 1000000000 by omega), bindO_some, addVlanR]
  cases filterB f <;> cases hasB f.2.2 v <;> cases filterB (f.1, f.2.1, ins v f.2.2) <;> rfl
theorem asc_lt {l : List Int} (h : (List.range l.length).all (vlanB l) = true) : ∀ (k j : Nat), j < k → k < l.length → l.getD j 0 < l.getD k 0 := by
  rw [List.all_eq_true] at h
  intro k
  induction k with
  | zero => intro j hj; omega
  | succ k ih =>
    intro j hj hk
    have h1 := h (k + 1) (List.mem_range.2 hk)
    simp only [vlanB, Bool.and_eq_true, Bool.not_eq_true', Bool.and_eq_false_iff, decide_eq_false_iff_not] at h1
    have h2 : ¬ l.getD (k + 1) 0 ≤ l.getD (k + 1 - 1) 0 := by
      rcases h1.2 with h2 | h2
      · omega
      · exact h2
    rw [Nat.add_sub_cancel] at h2
    rcases Nat.lt_or_ge j k with h3 | h3
    · have := ih j h3 (by omega); omega
    · have : j = k := by omega
      subst this; omega
theorem dup_bad (f : Filter) (v : Int) (hf : filterB f = true) (hv : hasB f.2.2 v = true) (q : Bool) : filterB (f.1, q, f.2.2.take (f.2.2.findIdx (fun x => !decide (x < v))) ++ [v] ++ f.2.2.drop (f.2.2.findIdx (fun x => !decide (x < v)))) = false := by
  have hasc := asc_lt (l := f.2.2) (by simp only [filterB, Bool.and_eq_true] at hf; exact hf.1)
  generalize f.2.2 = l at *
  obtain ⟨k, hk, hkv⟩ := List.mem_iff_getElem.1 (hasB_iff.1 hv)
  have hex : ∃ x ∈ l, (fun x => !decide (x < v)) x = true := ⟨l[k], List.getElem_mem hk, by simp [hkv]⟩
  have hj := List.findIdx_lt_length_of_exists hex
  have hge := List.findIdx_getElem (w := hj)
  have hmin : l.findIdx (fun x => !decide (x < v)) ≤ k := by
    rcases Nat.lt_or_ge k (l.findIdx (fun x => !decide (x < v))) with h | h
    · have := List.not_of_lt_findIdx h
      simp [hkv] at this
    · exact h
  generalize l.findIdx (fun x => !decide (x < v)) = j at *
  have hle : l[j] ≤ v := by
    rcases Nat.lt_or_ge j k with h | h
    · have := hasc k j h hk
      rw [getD_lt hk, getD_lt hj, hkv] at this; omega
    · have : j = k := by omega
      subst this; rw [hkv]; omega
  rw [Bool.eq_false_iff]
  intro hb
  simp only [filterB, Bool.and_eq_true, List.all_eq_true] at hb
  have hlen : (l.take j ++ [v] ++ l.drop j).length = l.length + 1 := by simp; omega
  have h1 := hb.1 (j + 1) (List.mem_range.2 (by rw [hlen]; omega))
  have hl1 : (l.take j ++ [v]).length = j + 1 := by simp; omega
  have e1 : (l.take j ++ [v] ++ l.drop j).getD (j + 1) 0 = l[j] := by
    rw [List.getD_eq_getElem?_getD, List.getElem?_append_right (by omega), hl1, Nat.sub_self, List.getElem?_drop, Nat.add_zero, List.getElem?_eq_getElem hj]; rfl
  have e2 : (l.take j ++ [v] ++ l.drop j).getD j 0 = v := by
    have ht : (l.take j).length = j := by simp; omega
    rw [List.getD_eq_getElem?_getD, List.getElem?_append_left (by omega), List.getElem?_append_right (by omega), ht, Nat.sub_self]; rfl
  simp only [vlanB, Bool.and_eq_true, Bool.not_eq_true', Bool.and_eq_false_iff, decide_eq_false_iff_not, Nat.add_sub_cancel, e1, e2] at h1
  rcases h1.2 with h2 | h2
  · omega
  · exact h2 hle
theorem specAddVlan (f : Filter) (v : Int) (h : f.2.2.length ≤ 100000000) : spec_AddVlan f v = some (addVlanR f v) := by
  unfold spec_AddVlan
  rw [specCopyFilter f (by omega), bindO_some]
  let K : Int → Option (Filter × Bool) := fun y4 => bindO (sub f.2.2 0 y4) fun x5 =>
      room (List.length ([] : List Int) + List.length x5) (
      room (List.length (([] : List Int) ++ x5) + List.length ([v])) (
      bindO (sub f.2.2 y4 ((List.length f.2.2 : Int))) fun x6 =>
      room (List.length ((([] : List Int) ++ x5) ++ ([v])) + List.length x6) (
      bindO (
        bindO (spec_FilterOk f) fun r7 =>
        cond (!r7) (
          some true) (
          bindO (spec_FilterOk (f.1, f.2.1, ((([] : List Int) ++ x5) ++ ([v])) ++ x6)) fun r8 =>
          some (!r8))) fun q9 =>
      cond q9 (
        bindO (some f) fun r10 =>
        some (r10, false)) (
        some ((f.1, f.2.1, ((([] : List Int) ++ x5) ++ ([v])) ++ x6), true)))))
  show iterL (spec_AddVlan_T3 K v f (0, false, ([] : List Int)) f) fuel 0 = _
  rw [find_iter (hit := K) (fin := K (f.2.2.length : Int)) (fun x => !decide (x < v)) f.2.2 (by omega) (fun i hi nx => ?hs) (fun nx => ?hf)]
  case hs =>
    simp only [spec_AddVlan_T3]
    rw [decide_eq_true (by omega), idx_lt hi, wrap64 (n := (i : Int) + 1) (by omega) (by omega)]
    simp only [cond_true, bindO_some]
    cases decide (f.2.2[i] < v) <;> rfl
  case hf =>
    simp only [spec_AddVlan_T3]
    rw [decide_eq_false (by omega)]; rfl
  refine Eq.trans (find_idx (fun x => !decide (x < v)) K f.2.2) ?_
  have hle : f.2.2.findIdx (fun x => !decide (x < v)) ≤ f.2.2.length := List.findIdx_le_length
  have e := ins_at v f.2.2
  have d := dup_bad f v
  have hi := ins_len v f.2.2
  show K _ = _
  generalize f.2.2.findIdx (fun x => !decide (x < v)) = j at *
  simp only [K]
  rw [sub_take _ j hle, sub_drop _ j hle]
  simp only [bindO_some, List.nil_append]
  rw [room_le (by simp; omega), room_le (by simp; omega), room_le (by simp; omega), specFilter f (by omega), specFilter _ (show (f.2.2.take j ++ [v] ++ f.2.2.drop j).length ≤ 1000000000 by simp; omega)]
  simp only [bindO_some, addVlanR]
  cases hf : filterB f with
  | false => rfl
  | true =>
    cases hh : hasB f.2.2 v with
    | true => rw [d hf hh]; rfl
    | false =>
      rw [e (fun hm => by rw [hasB_iff.2 hm] at hh; cases hh)]
      cases filterB (f.1, f.2.1, ins v f.2.2) <;> rfl
theorem addVlanR_len (f : Filter) (v : Int) {n : Nat} (h : f.2.2.length ≤ n) (hn : 8 ≤ n) : (addVlanR f v).1.2.2.length ≤ n := by
  unfold addVlanR
  cases hc : filterB f && (!hasB f.2.2 v && filterB (f.1, f.2.1, ins v f.2.2)) with
  | false => exact h
  | true =>
    simp only [Bool.and_eq_true] at hc
    have := hc.2.2
    simp only [filterB, Bool.and_eq_true, decide_eq_true_eq] at this
    show (ins v f.2.2).length ≤ n
    omega

-- dropping one
def dropVlanR (f : Filter) (v : Int) : Filter × Bool := bif filterB f && hasB f.2.2 v then ((f.1, f.2.1, f.2.2.filter (fun x => x != v)), true) else (f, false)
theorem filter_take (p : Int → Bool) (l : List Int) (i : Nat) (hi : i < l.length) : (l.take (i + 1)).filter p = bif p l[i] then (l.take i).filter p ++ [l[i]] else (l.take i).filter p := by
  rw [List.take_succ_eq_append_getElem hi, List.filter_append]
  cases hp : p l[i] <;> simp [hp]
theorem filter_take_len (p : Int → Bool) (l : List Int) (i : Nat) : ((l.take i).filter p).length ≤ l.length :=
  Nat.le_trans (List.length_filter_le _ _) (by simp; omega)
theorem implDropVlan (f : Filter) (v : Int) (h : f.2.2.length ≤ 1000000000) : impl_DropVlan f v = some (dropVlanR f v) := by
  simp only [impl_DropVlan, implCopyFilter f h, implFilter f h, implHas f.2.2 v h, bindO_some, dropVlanR]
  cases filterB f with | false => rfl | true => ?_
  cases hasB f.2.2 v with | false => rfl | true => ?_
  simp only [Bool.not_true, cond_false, bindO_some, Bool.and_self, cond_true]
  refine (walk_iter (fun i => ((i : Int), f.1, f.2.1, (f.2.2.take i).filter (fun x => x != v))) f.2.2.length (by omega) (fun i nx hi => ?_) (fun nx => ?_))
  · have hl := filter_take_len (fun x => x != v) f.2.2 i
    simp only [impl_DropVlan_T6]
    rw [decide_eq_true (by omega), idx_lt hi, wrap64 (by omega) (by omega), filter_take _ _ i hi]
    simp only [cond_true, bindO_some]
    rw [room_le (by simp only [List.length_singleton]; omega)]
    cases f.2.2[i] != v <;> rfl
  · simp only [impl_DropVlan_T6]
    rw [decide_eq_false (by omega), List.take_length]; rfl
theorem specDropVlan (f : Filter) (v : Int) (h : f.2.2.length ≤ 1000000000) : spec_DropVlan f v = some (dropVlanR f v) := by
  simp only [spec_DropVlan, specCopyFilter f h, specFilter f h, specHas f.2.2 v h, bindO_some, dropVlanR]
  cases filterB f with | false => rfl | true => ?_
  cases hasB f.2.2 v with | false => rfl | true => ?_
  simp only [Bool.not_true, cond_false, bindO_some, Bool.and_self, cond_true]
  refine (walk_iter (fun i => ((i : Int), f.1, f.2.1, (f.2.2.take i).filter (fun x => x != v))) f.2.2.length (by omega) (fun i nx hi => ?_) (fun nx => ?_))
  · have hl := filter_take_len (fun x => x != v) f.2.2 i
    simp only [spec_DropVlan_T6]
    rw [decide_eq_true (by omega), idx_lt hi, wrap64 (by omega) (by omega), filter_take _ _ i hi]
    simp only [cond_true, bindO_some]
    rw [room_le (by simp only [List.length_singleton]; omega)]
    cases f.2.2[i] != v <;> rfl
  · simp only [spec_DropVlan_T6]
    rw [decide_eq_false (by omega), List.take_length]; rfl

-- commands
def commandR (f : Filter) (m : Int × Int × Int) : Filter × Int :=
  bif m.2.1 == 1 then (bif filterB (m.2.2, f.2) then ((m.2.2, f.2), 1) else (f, 0))
  else bif m.2.1 == 2 then (bif (addVlanR f m.2.2).2 then ((addVlanR f m.2.2).1, 1) else (f, 0))
  else bif m.2.1 == 3 then (bif (dropVlanR f m.2.2).2 then ((dropVlanR f m.2.2).1, 1) else (f, 0))
  else bif m.2.1 == 4 then (f, f.1) else (f, 0)
theorem implCommand (f : Filter) (m : Int × Int × Int) (h : f.2.2.length ≤ 100000000) : impl_command f m = some (commandR f m) := by
  simp only [impl_command, implCopyFilter f (by omega), implFilter (m.2.2, f.2) (show f.2.2.length ≤ 1000000000 by omega), implAddVlan f _ h, implDropVlan f _ (show f.2.2.length ≤ 1000000000 by omega), bindO_some, commandR]
  cases m.2.1 == 1 <;> cases m.2.1 == 2 <;> cases m.2.1 == 3 <;> cases m.2.1 == 4 <;> cases filterB (m.2.2, f.2) <;> cases (addVlanR f m.2.2).2 <;> cases (dropVlanR f m.2.2).2 <;> rfl
theorem specCommand (f : Filter) (m : Int × Int × Int) (h : f.2.2.length ≤ 100000000) : spec_l35Perform f m = some (commandR f m) := by
  simp only [spec_l35Perform, specCopyFilter f (by omega), specFilter (m.2.2, f.2) (show f.2.2.length ≤ 1000000000 by omega), specAddVlan f _ h, specDropVlan f _ (show f.2.2.length ≤ 1000000000 by omega), bindO_some, commandR]
  cases m.2.1 == 1 <;> cases m.2.1 == 2 <;> cases m.2.1 == 3 <;> cases m.2.1 == 4 <;> cases filterB (m.2.2, f.2) <;> cases (addVlanR f m.2.2).2 <;> cases (dropVlanR f m.2.2).2 <;> rfl
theorem commandR_len (f : Filter) (m : Int × Int × Int) {n : Nat} (h : f.2.2.length ≤ n) (hn : 8 ≤ n) : (commandR f m).1.2.2.length ≤ n := by
  have ha := addVlanR_len f m.2.2 h hn
  have hd : (dropVlanR f m.2.2).1.2.2.length ≤ n := by
    unfold dropVlanR
    cases filterB f && hasB f.2.2 m.2.2 with
    | false => exact h
    | true => exact Nat.le_trans (List.length_filter_le _ _) h
  unfold commandR
  cases m.2.1 == 1 <;> cases m.2.1 == 2 <;> cases m.2.1 == 3 <;> cases m.2.1 == 4 <;> cases filterB (m.2.2, f.2) <;> cases (addVlanR f m.2.2).2 <;> cases (dropVlanR f m.2.2).2 <;> first | exact h | exact ha | exact hd

def handleR (b : Mailbox) (m : Int × Int × Int) : Mailbox × Int :=
  bif mailB b then (bif m.1 == b.2.1 then (b, b.2.2.1) else bif m.1 == b.2.1 + 1 then (((commandR b.1 m).1, m.1, (commandR b.1 m).2, b.2.2.2 + 1), (commandR b.1 m).2) else (b, -1)) else (b, -1)
theorem mailB_in {b : Mailbox} (h : mailB b = true) : 0 ≤ b.2.1 ∧ b.2.1 ≤ 1000000000000 ∧ 0 ≤ b.2.2.2 ∧ b.2.2.2 ≤ 1000000000000 := by
  simp only [mailB, Bool.and_eq_true, inB_iff] at h
  omega
theorem implHandle (b : Mailbox) (m : Int × Int × Int) (h : b.1.2.2.length ≤ 100000000) : impl_HandleMessage b m = some (handleR b m) := by
  simp only [impl_HandleMessage, implCopyMailbox b (by omega), implMail b (by omega), implCommand b.1 m h, bindO_some, handleR, bne]
  cases hm : mailB b with
  | false => rfl
  | true =>
    have hin := mailB_in hm
    rw [wrap64 (n := b.2.1 + 1) (by omega) (by omega), wrap64 (n := b.2.2.2 + 1) (by omega) (by omega)]
    cases m.1 == b.2.1 <;> cases m.1 == b.2.1 + 1 <;> rfl
theorem specHandle (b : Mailbox) (m : Int × Int × Int) (h : b.1.2.2.length ≤ 100000000) (hm1 : m.1 ≤ 9223372036854775807) : spec_HandleMessage b m = some (handleR b m) := by
  simp only [spec_HandleMessage, specCopyMailbox b (by omega), specMail b (by omega), specCommand b.1 m h, bindO_some, handleR, bne]
  cases hm : mailB b with
  | false => rfl
  | true =>
    have hin := mailB_in hm
    rw [wrap64 (n := b.2.2.2 + 1) (by omega) (by omega)]
    by_cases h1 : m.1 = b.2.1
    · rw [beq_iff_eq.2 h1]; rfl
    · have e1 : (m.1 == b.2.1) = false := beq_eq_false_iff_ne.2 h1
      rw [e1]
      by_cases h2 : m.1 ≤ b.2.1
      · have e2 : (m.1 == b.2.1 + 1) = false := beq_eq_false_iff_ne.2 (by omega)
        rw [e2, decide_eq_true h2]; rfl
      · rw [decide_eq_false h2, wrap64 (n := m.1 - 1) (by omega) (by omega)]
        have e3 : (m.1 - 1 == b.2.1) = (m.1 == b.2.1 + 1) := by
          rw [Bool.eq_iff_iff, beq_iff_eq, beq_iff_eq]; omega
        rw [e3]
        cases m.1 == b.2.1 + 1 <;> rfl

-- boxes
def boxesR (ms : List Mailbox) (k : Nat) (m : Int × Int × Int) : List Mailbox × Int :=
  match ms[k]? with
  | none => (ms, -1)
  | some b => bif (portsR (ms.set k (handleR b m).1)).2 then (ms.set k (handleR b m).1, (handleR b m).2)
    else (ms.set k (b.1, m.1, 0, IntKind.wrap .i64 (b.2.2.2 + 1)), 0)
theorem handleR_len (b : Mailbox) (m : Int × Int × Int) {n : Nat} (h : b.1.2.2.length ≤ n) (hn : 8 ≤ n) : (handleR b m).1.1.2.2.length ≤ n := by
  have := commandR_len b.1 m h hn
  unfold handleR
  cases mailB b <;> cases m.1 == b.2.1 <;> cases m.1 == b.2.1 + 1 <;> first | exact h | exact this
theorem mem_set_of {α : Type} {l : List α} {k : Nat} {x y : α} (h : y ∈ l.set k x) : y ∈ l ∨ y = x := List.mem_or_eq_of_mem_set h
theorem implCommandBoxes (ms : List Mailbox) (k : Nat) (m : Int × Int × Int) (hk : k < ms.length) (hl : ms.length ≤ 1000000000) (h : ∀ b ∈ ms, b.1.2.2.length ≤ 100000000) : impl_commandBoxes ms (k : Int) m = some (boxesR ms k m) := by
  have hb := h _ (List.getElem_mem hk)
  have hp : ∀ b ∈ ms.set k (handleR ms[k] m).1, b.1.2.2.length ≤ 1000000000 := by
    intro b hb'
    rcases mem_set_of hb' with h1 | rfl
    · have := h b h1; omega
    · have := handleR_len ms[k] m hb (by omega); omega
  unfold impl_commandBoxes boxesR
  simp only [implCopyBoxes ms hl (fun b hb => by have := h b hb; omega), idx_lt hk, implHandle _ m hb, bindO_some, List.getElem?_eq_getElem hk, Int.toNat_natCast, implPortsOf _ hp, implCopyMailbox ms[k] (by omega)]
  have hs : ∀ x : Mailbox, k < (ms.set k x).length := fun x => by rw [set_len]; exact hk
  simp only [idx_set hk, bindO_some, List.set_set]
  cases (portsR (ms.set k (handleR ms[k] m).1)).2 <;> rfl
theorem specCommandBoxes (ms : List Mailbox) (k : Nat) (m : Int × Int × Int) (hk : k < ms.length) (hl : ms.length ≤ 1000000000) (h : ∀ b ∈ ms, b.1.2.2.length ≤ 100000000) (hm1 : m.1 ≤ 9223372036854775807) : spec_l42Command ms (k : Int) m = some (boxesR ms k m) := by
  have hb := h _ (List.getElem_mem hk)
  have hp : ∀ b ∈ ms.set k (handleR ms[k] m).1, b.1.2.2.length ≤ 1000000000 := by
    intro b hb'
    rcases mem_set_of hb' with h1 | rfl
    · have := h b h1; omega
    · have := handleR_len ms[k] m hb (by omega); omega
  unfold spec_l42Command boxesR
  refine (walk_iter (fun i => (ms.take i, (i : Int))) ms.length (by omega) (fun i nx hi => ?_) (fun nx => ?_))
  · simp only [spec_l42Command_T3]
    rw [decide_eq_true (by omega), idx_lt hi, wrap64 (by omega) (by omega)]
    have := h _ (List.getElem_mem hi)
    simp only [cond_true, bindO_some, specCopyMailbox ms[i] (by omega)]
    rw [room_le (by simp; omega), ← List.take_succ_eq_append_getElem hi]; rfl
  · simp only [spec_l42Command_T3]
    rw [decide_eq_false (by omega), List.take_length]
    simp only [cond_false, idx_lt hk, specHandle _ m hb hm1, bindO_some, List.getElem?_eq_getElem hk, Int.toNat_natCast, specPortsOf _ hp, specCopyMailbox ms[k] (show ms[k].1.2.2.length ≤ 1000000000 by omega)]
    simp only [idx_set hk, bindO_some, List.set_set]
    cases (portsR (ms.set k (handleR ms[k] m).1)).2 <;> rfl
theorem boxesR_length (ms : List Mailbox) (k : Nat) (m : Int × Int × Int) : (boxesR ms k m).1.length = ms.length := by
  unfold boxesR
  split
  · rfl
  · rename_i b _
    cases (portsR (ms.set k (handleR b m).1)).2 <;> exact set_len ..
theorem boxesR_len (ms : List Mailbox) (k : Nat) (m : Int × Int × Int) {n : Nat} (hn : 8 ≤ n) (h : ∀ b ∈ ms, b.1.2.2.length ≤ n) : ∀ b ∈ (boxesR ms k m).1, b.1.2.2.length ≤ n := by
  intro b hb
  unfold boxesR at hb
  split at hb
  · exact h b hb
  · rename_i b0 hb0
    have h0 := h b0 (List.mem_of_getElem? hb0)
    cases hp : (portsR (ms.set k (handleR b0 m).1)).2 with
    | true =>
      rw [hp] at hb
      rcases mem_set_of hb with h1 | rfl
      · exact h b h1
      · exact handleR_len b0 m h0 hn
    | false =>
      rw [hp] at hb
      rcases mem_set_of hb with h1 | rfl
      · exact h b h1
      · exact h0

-- cards copied
theorem implCopyCard (c : Card) (z : LenB 1000000000 TCard c) : impl_copyCard c = some c := by
  have h0 : c.1.length ≤ 1000000000 := z.1.1
  unfold impl_copyCard
  simp only [implCopyFunctions _ z.2.1.1, implCopyBoxes _ z.2.2.1.1 (fun m hm => (z.2.2.1.2 m hm).1.2.2.1), impl_copyFlash, implCopyStrings _ z.2.2.2.1.1, copyInts_eq _ z.2.2.2.2.2.1.1, implCopyStrings _ z.2.2.2.2.2.2.1, bindO_some]
  refine (walk_iter (fun i => ((i : Int), c.1.take i, c.2)) c.1.length (by omega) (fun i nx hi => ?_) (fun nx => ?_))
  · simp only [impl_copyCard_T3]
    rw [decide_eq_true (by omega), idx_lt hi, wrap64 (by omega) (by omega)]
    simp only [cond_true, bindO_some, implCopyHost _ (z.1.2 _ (List.getElem_mem hi))]
    rw [room_le (by simp; omega), ← List.take_succ_eq_append_getElem hi]; rfl
  · simp only [impl_copyCard_T3]
    rw [decide_eq_false (by omega), List.take_length]; rfl
theorem specCopyCard (c : Card) (z : LenB 1000000000 TCard c) : spec_l42Copy c = some c := by
  have h0 : c.1.length ≤ 1000000000 := z.1.1
  have h1 : c.2.2.1.length ≤ 1000000000 := z.2.2.1.1
  unfold spec_l42Copy
  simp only [room_nil z.2.1.1, room_nil z.2.2.2.1.1, room_nil z.2.2.2.2.2.1.1, room_nil z.2.2.2.2.2.2.1, List.nil_append]
  refine (walk_iter (fun i => ((i : Int), c.1.take i, c.2.1, ([] : List Mailbox), c.2.2.2)) c.1.length (by omega) (fun i nx hi => ?_) (fun nx => ?_))
  · simp only [spec_l42Copy_T3]
    rw [decide_eq_true (by omega), idx_lt hi, wrap64 (by omega) (by omega)]
    simp only [cond_true, bindO_some, specCopyHost _ (z.1.2 _ (List.getElem_mem hi))]
    rw [room_le (by simp; omega), ← List.take_succ_eq_append_getElem hi]; rfl
  · simp only [spec_l42Copy_T3]
    rw [decide_eq_false (by omega), List.take_length]
    refine (walk_iter (fun i => ((i : Int), c.1, c.2.1, c.2.2.1.take i, c.2.2.2)) c.2.2.1.length (by omega) (fun i nx hi => ?_) (fun nx => ?_))
    · simp only [spec_l42Copy_T7]
      rw [decide_eq_true (by omega), idx_lt hi, wrap64 (by omega) (by omega)]
      simp only [cond_true, bindO_some, specCopyMailbox _ (z.2.2.1.2 _ (List.getElem_mem hi)).1.2.2.1]
      rw [room_le (by simp; omega), ← List.take_succ_eq_append_getElem hi]; rfl
    · simp only [spec_l42Copy_T7]
      rw [decide_eq_false (by omega), List.take_length]; rfl

-- commands to cards
def withFilter (h : Host) (f : Filter) : Host := (h.1, h.2.1, h.2.2.1, h.2.2.2.1, h.2.2.2.2.1, h.2.2.2.2.2.1, h.2.2.2.2.2.2.1, f, h.2.2.2.2.2.2.2.2)
def cardCommandR (c : Card) (a : Int) (m : Int × Int × Int) : Card × Int :=
  bif cardB c && inB a 0 ((c.2.2.1.length : Int) - 1) then
    (match c.1[a.toNat]?, (boxesR c.2.2.1 a.toNat m).1[a.toNat]? with
    | some h, some b => ((c.1.set a.toNat (withFilter h b.1), c.2.1, (boxesR c.2.2.1 a.toNat m).1, c.2.2.2), (boxesR c.2.2.1 a.toNat m).2)
    | _, _ => (c, -1))
  else (c, -1)
theorem implCardCommand (c : Card) (a : Int) (m : Int × Int × Int) (z : LenB 100000000 TCard c) (k : CardSz c) : impl_CardCommandTo c a m = some (cardCommandR c a m) := by
  have z9 : LenB 1000000000 TCard c := z.mono (by omega)
  have hl : c.2.2.1.length ≤ 100000000 := z.2.2.1.1
  unfold impl_CardCommandTo cardCommandR
  simp only [implCopyCard c z9, implCard c k, between_eq, bindO_some, cond_some]
  rw [wrap64 (n := (c.2.2.1.length : Int) - 1) (by omega) (by omega)]
  cases hc : cardB c with | false => rfl | true => ?_
  cases ha : inB a 0 ((c.2.2.1.length : Int) - 1) with | false => rfl | true => ?_
  have hL := cardB_lens hc
  have hin := inB_iff.1 ha
  obtain ⟨n, rfl⟩ := Int.eq_ofNat_of_zero_le hin.1
  have hn : n < c.2.2.1.length := by omega
  have hn1 : n < c.1.length := by omega
  have hb := implCommandBoxes c.2.2.1 n m hn (by omega) (fun b hb => (z.2.2.1.2 b hb).1.2.2.1)
  have hbl := boxesR_length c.2.2.1 n m
  have hbs := boxesR_len c.2.2.1 n m (n := 100000000) (by omega) (fun b hb => (z.2.2.1.2 b hb).1.2.2.1)
  have hn2 : n < (boxesR c.2.2.1 n m).1.length := by omega
  have := hbs _ (List.getElem_mem hn2)
  simp only [Bool.not_true, cond_false, Bool.and_self, cond_true, hb, bindO_some, idx_lt hn2, idx_lt hn1, implCopyFilter (boxesR c.2.2.1 n m).1[n].1 (by omega), Int.toNat_natCast, List.getElem?_eq_getElem hn1, List.getElem?_eq_getElem hn2]; rfl
theorem specCardCommand (c : Card) (a : Int) (m : Int × Int × Int) (z : LenB 100000000 TCard c) (k : CardSz c) (hm1 : m.1 ≤ 9223372036854775807) : spec_CardCommandTo c a m = some (cardCommandR c a m) := by
  have z9 : LenB 1000000000 TCard c := z.mono (by omega)
  have hl : c.2.2.1.length ≤ 100000000 := z.2.2.1.1
  unfold spec_CardCommandTo cardCommandR
  simp only [specCopyCard c z9, specCard c k, bindO_some, cond_some]
  have he : (cond (!cardB c) true (cond (decide (a < 0)) true (decide (a ≥ (c.2.2.1.length : Int))))) = !(cardB c && inB a 0 ((c.2.2.1.length : Int) - 1)) := by
    cases cardB c with | false => rfl | true => ?_
    simp only [inB, Bool.not_true, cond_false, Bool.true_and]
    by_cases h1 : a < 0
    · rw [decide_eq_true h1, decide_eq_false (show ¬ (0 ≤ a) by omega)]; rfl
    · rw [decide_eq_false h1, decide_eq_true (show (0 ≤ a) by omega)]
      by_cases h2 : a ≥ (c.2.2.1.length : Int)
      · rw [decide_eq_true h2, decide_eq_false (by omega)]; rfl
      · rw [decide_eq_false h2, decide_eq_true (by omega)]; rfl
  rw [he]
  cases hc : cardB c with | false => rfl | true => ?_
  cases ha : inB a 0 ((c.2.2.1.length : Int) - 1) with | false => rfl | true => ?_
  have hL := cardB_lens hc
  have hin := inB_iff.1 ha
  obtain ⟨n, rfl⟩ := Int.eq_ofNat_of_zero_le hin.1
  have hn : n < c.2.2.1.length := by omega
  have hn1 : n < c.1.length := by omega
  have hb := specCommandBoxes c.2.2.1 n m hn (by omega) (fun b hb => (z.2.2.1.2 b hb).1.2.2.1) hm1
  have hbl := boxesR_length c.2.2.1 n m
  have hbs := boxesR_len c.2.2.1 n m (n := 100000000) (by omega) (fun b hb => (z.2.2.1.2 b hb).1.2.2.1)
  have hn2 : n < (boxesR c.2.2.1 n m).1.length := by omega
  have := hbs _ (List.getElem_mem hn2)
  simp only [Bool.not_true, cond_false, Bool.and_self, cond_true, hb, bindO_some, idx_lt hn2, idx_lt hn1, specCopyFilter (boxesR c.2.2.1 n m).1[n].1 (by omega), Int.toNat_natCast, List.getElem?_eq_getElem hn1, List.getElem?_eq_getElem hn2]; rfl

end

end Go.Pu
