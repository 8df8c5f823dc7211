import Derived.Test.YtoickmmiogbhgaaGreatPuReceive
import Derived.Test.YtoickmmiogbhgaaGreatPuIdeal
import Derived.Test.YtoickmmiogbhgaaGreatPuIdealOf
import Derived.Test.YtoickmmiogbhgaaGreatPuMarks
/- The switch: the program's and the reference's results are one. -/
namespace Go.Pu
open Go.Dn
set_option linter.unusedSimpArgs false
set_option linter.unusedVariables false
noncomputable section

structure PortsSz (ps : List Port) : Prop where
  n : ps.length ≤ 1000000000
  v : ∀ p ∈ ps, p.2.1.length ≤ 1000000000
def goodB (ps : List Port) (e : Int) (p : Packet) : Bool := portsB ps && (superB p && inB e 0 ((ps.length : Int) - 1))
def vlanOf (x : Port) (p : Packet) : Int := bif p.2.2.1 == -1 then x.2.2.1 else p.2.2.1
def entryV (ps : List Port) (e : Int) (p : Packet) : Int :=
  bif !goodB ps e p then -1 else
  bif !hasB (ps.getD e.toNat portZ).2.1 (vlanOf (ps.getD e.toNat portZ) p) || ((e != 0) && ((ps.getD e.toNat portZ).2.2.2 && ((ps.getD e.toNat portZ).1 != p.2.1))) then -1 else vlanOf (ps.getD e.toNat portZ) p
theorem super_vlan {p : Packet} (h : superB p = true) : (decide (p.2.2.1 < 0)) = (p.2.2.1 == -1) := by
  simp only [superB, headB, Bool.and_eq_true, inB_iff] at h
  have := h.1.2.2.1
  rw [Bool.eq_iff_iff, decide_eq_true_eq, beq_iff_eq]; omega
theorem implEntryV (ps : List Port) (e : Int) (p : Packet) (z : PortsSz ps) : impl_EntryVlan ps e p = some (entryV ps e p) := by
  have hn := z.n
  unfold impl_EntryVlan entryV goodB
  rw [implPorts ps hn z.v, bindO_some]
  cases hp : portsB ps with | false => rfl | true => ?_
  rw [implSuper, bindO_some]
  cases hs : superB p with | false => rfl | true => ?_
  rw [wrap64 (n := (ps.length : Int) - 1) (by omega) (by omega), between_eq]
  cases he : inB e 0 ((ps.length : Int) - 1) with | false => rfl | true => ?_
  have h1 := inB_iff.1 he
  obtain ⟨e, rfl⟩ := Int.eq_ofNat_of_zero_le h1.1
  have hl : e < ps.length := by omega
  have hv := z.v _ (List.getElem_mem hl)
  simp only [Bool.not_true, cond_false, bindO_some, Bool.and_self, idx_lt hl, Int.toNat_natCast, getD_lt hl, implHas _ _ hv, vlanOf]
  cases p.2.2.1 == -1 <;> simp only [cond_true, cond_false] <;> cases hasB ps[e].2.1 p.2.2.1 <;> cases hasB ps[e].2.1 ps[e].2.2.1 <;> cases (e : Int) != 0 <;> cases ps[e].2.2.2 <;> cases ps[e].1 != p.2.1 <;> rfl
theorem specEntryV (ps : List Port) (e : Int) (p : Packet) (z : PortsSz ps) : spec_EntryVlan ps e p = some (entryV ps e p) := by
  have hn := z.n
  unfold spec_EntryVlan entryV goodB
  rw [specPorts ps hn z.v, bindO_some]
  cases hp : portsB ps with | false => rfl | true => ?_
  rw [specSuper, bindO_some]
  cases hs : superB p with | false => rfl | true => ?_
  rw [wrap64 (n := (ps.length : Int) - 1) (by omega) (by omega), l01In_eq]
  cases he : inB e 0 ((ps.length : Int) - 1) with | false => rfl | true => ?_
  have h1 := inB_iff.1 he
  obtain ⟨e, rfl⟩ := Int.eq_ofNat_of_zero_le h1.1
  have hl : e < ps.length := by omega
  have hv := z.v _ (List.getElem_mem hl)
  rw [super_vlan hs]
  simp only [Bool.not_true, cond_false, bindO_some, Bool.and_self, idx_lt hl, Int.toNat_natCast, getD_lt hl, specHas _ _ hv, vlanOf]
  cases p.2.2.1 == -1 <;> simp only [cond_true, cond_false] <;> cases hasB ps[e].2.1 p.2.2.1 <;> cases hasB ps[e].2.1 ps[e].2.2.1 <;> cases (e : Int) != 0 <;> cases ps[e].2.2.2 <;> cases ps[e].1 != p.2.1 <;> rfl
def leaveR (ps : List Port) (o v : Int) (p : Packet) : Packet :=
  bif portsB ps && (inB o 0 ((ps.length : Int) - 1) && (hasB (ps.getD o.toNat portZ).2.1 v && superB p)) then
    (bif v == (ps.getD o.toNat portZ).2.2.1 then (p.1, p.2.1, -1, p.2.2.2) else (p.1, p.2.1, v, p.2.2.2)) else pk0
theorem specLeave (ps : List Port) (o v : Int) (p : Packet) (z : PortsSz ps) : spec_LeavePacket ps o v p = some (leaveR ps o v p) := by
  have hn := z.n
  unfold spec_LeavePacket leaveR
  rw [specPorts ps hn z.v, bindO_some]
  cases hp : portsB ps with | false => rfl | true => ?_
  rw [wrap64 (n := (ps.length : Int) - 1) (by omega) (by omega), l01In_eq]
  cases he : inB o 0 ((ps.length : Int) - 1) with | false => rfl | true => ?_
  have h1 := inB_iff.1 he
  obtain ⟨o, rfl⟩ := Int.eq_ofNat_of_zero_le h1.1
  have hl : o < ps.length := by omega
  have hv := z.v _ (List.getElem_mem hl)
  simp only [Bool.not_true, cond_false, bindO_some, Bool.true_and, idx_lt hl, Int.toNat_natCast, getD_lt hl, specHas _ _ hv, specSuper]
  cases hasB ps[o].2.1 v <;> cases superB p <;> cases v == ps[o].2.2.1 <;> rfl
theorem implLeave (ps : List Port) (o v : Int) (p : Packet) (z : PortsSz ps) : impl_LeavePacket ps o v p = some (leaveR ps o v p) := by
  have hn := z.n
  unfold impl_LeavePacket leaveR
  rw [implPorts ps hn z.v, bindO_some]
  cases hp : portsB ps with | false => rfl | true => ?_
  rw [wrap64 (n := (ps.length : Int) - 1) (by omega) (by omega), between_eq]
  cases he : inB o 0 ((ps.length : Int) - 1) with | false => rfl | true => ?_
  have h1 := inB_iff.1 he
  obtain ⟨o, rfl⟩ := Int.eq_ofNat_of_zero_le h1.1
  have hl : o < ps.length := by omega
  have hv := z.v _ (List.getElem_mem hl)
  simp only [Bool.not_true, cond_false, bindO_some, Bool.true_and, idx_lt hl, Int.toNat_natCast, getD_lt hl, implHas _ _ hv, implSuper]
  cases hasB ps[o].2.1 v <;> cases superB p <;> cases v == ps[o].2.2.1 <;> rfl

-- where a packet goes
def keepB (ps : List Port) (e v : Int) (j : Nat) : Bool := ((j : Int) != e) && hasB (ps.getD j portZ).2.1 v
def castL (l : List Nat) : List Int := l.map Int.ofNat
theorem cast_nil : castL [] = [] := rfl
def bcB (p : Packet) : Bool := p.1 == 281474976710655
theorem filter_step {q : Nat → Bool} (l : List Nat) (i : Nat) (hi : i < l.length) : (l.take (i + 1)).filter q = bif q l[i] then (l.take i).filter q ++ [l[i]] else (l.take i).filter q := by
  rw [List.take_succ_eq_append_getElem hi, List.filter_append]
  cases hq : q l[i] <;> simp [hq]
theorem filter_len {q : Nat → Bool} (l : List Nat) (i : Nat) : ((l.take i).filter q).length ≤ l.length := Nat.le_trans (List.length_filter_le _ _) (by simp; omega)
theorem implKeep (ps : List Port) (e v : Int) (l : List Nat) (hl : l.length ≤ 1000000000) (hb : ∀ j ∈ l, j < ps.length) (z : PortsSz ps) :
    iterL (impl_SwitchPacket_T17 (fun (y7 : List Int) (y8 : Int) => some y7) ps e v (castL l) ((castL l).length : Int)) fuel (([] : List Int), 0) = some (castL (l.filter (keepB ps e v))) := by
  refine walk_iter (fun i => (castL ((l.take i).filter (keepB ps e v)), (i : Int))) l.length (by omega) (fun i nx hi => ?_) (fun nx => ?_)
  · have hj := hb _ (List.getElem_mem hi)
    have hv := z.v _ (List.getElem_mem hj)
    have hi2 : i < (castL l).length := by simpa [castL] using hi
    have e1 : (castL l)[i]'hi2 = (l[i] : Int) := by simp [castL]
    have hf := filter_len (q := keepB ps e v) l i
    simp only [impl_SwitchPacket_T17]
    rw [decide_eq_true (by simpa [castL] using hi), idx_lt hi2, e1, wrap64 (by omega) (by omega)]
    simp only [cond_true, bindO_some, idx_lt hj, implHas _ _ hv]
    rw [filter_step l i hi, keepB, getD_lt hj]
    have hr : ∀ k : Option (List Int), room (List.length (castL ((l.take i).filter (keepB ps e v))) + List.length ([(l[i] : Int)])) k = k := fun k => room_le (by simp only [castL, List.length_map, List.length_singleton]; omega)
    cases (l[i] : Int) != e with
    | false => rfl
    | true =>
      cases hasB ps[l[i]].2.1 v with
      | false => rfl
      | true =>
        simp only [cond_true, bindO_some, Bool.and_self]
        rw [hr]
        simp [castL]
  · simp only [impl_SwitchPacket_T17]
    rw [decide_eq_false (by simp [castL]), List.take_length]; rfl
def homeN (ps : List Port) (p : Packet) : Nat → Nat
  | 0 => 0
  | i + 1 => bif (ps.getD (i + 1) portZ).1 == p.1 then i + 1 else homeN ps p i
def switchN (ps : List Port) (e : Int) (p : Packet) : List Nat :=
  (List.range ps.length).filter fun j => keepB ps e (entryV ps e p) j && ((j == homeN ps p (ps.length - 1)) || bcB p)
def switchR (ps : List Port) (e : Int) (p : Packet) : List Int := bif decide (entryV ps e p < 0) then [] else castL (switchN ps e p)
theorem homeN_le (ps : List Port) (p : Packet) : ∀ i, homeN ps p i ≤ i
  | 0 => Nat.le_refl _
  | i + 1 => by
    rw [homeN]
    cases (ps.getD (i + 1) portZ).1 == p.1 with
    | true => exact Nat.le_refl _
    | false => exact Nat.le_succ_of_le (homeN_le ps p i)
theorem specSwitchP (ps : List Port) (e : Int) (p : Packet) (z : PortsSz ps) : spec_SwitchPacket ps e p = some (switchR ps e p) := by
  have hn := z.n
  unfold spec_SwitchPacket switchR
  rw [specEntryV ps e p z, bindO_some]
  cases hd : decide (entryV ps e p < 0) with | true => rfl | false => ?_
  have hp : portsB ps = true := by
    cases hp : portsB ps with
    | true => rfl
    | false => unfold entryV goodB at hd; rw [hp] at hd; simp at hd
  have h1 : 1 ≤ ps.length := by
    simp only [portsB, Bool.and_eq_true, inB_iff] at hp; omega
  simp only [cond_false]
  refine walk_iter (fun i => ((homeN ps p i : Int), ((i + 1 : Nat) : Int))) (ps.length - 1) (by omega) (fun i nx hi => ?_) (fun nx => ?_)
  · have hj : i + 1 < ps.length := by omega
    simp only [spec_SwitchPacket_T7]
    rw [decide_eq_true (by omega), idx_lt hj, wrap64 (by omega) (by omega), homeN, getD_lt hj]
    simp only [cond_true, bindO_some]
    cases ps[i + 1].1 == p.1 <;> rfl
  · simp only [spec_SwitchPacket_T7]
    rw [decide_eq_false (by omega), cond_false]
    generalize hv : entryV ps e p = v
    have hsw : switchN ps e p = (List.range ps.length).filter fun j => keepB ps e v j && ((j == homeN ps p (ps.length - 1)) || bcB p) := by rw [switchN, hv]
    rw [hsw]
    generalize hq : (fun j => keepB ps e v j && ((j == homeN ps p (ps.length - 1)) || bcB p)) = q
    refine walk_iter (fun i => (castL (((List.range ps.length).take i).filter q), (i : Int))) ps.length (by omega) (fun i nx hi => ?_) (fun nx => ?_)
    · have hvv := z.v _ (List.getElem_mem hi)
      have hi2 : i < (List.range ps.length).length := by simpa using hi
      have hf := filter_len (q := q) (List.range ps.length) i
      simp only [spec_SwitchPacket_T12]
      rw [decide_eq_true (by omega), idx_lt hi, wrap64 (by omega) (by omega)]
      simp only [cond_true, bindO_some, specHas _ _ hvv]
      rw [filter_step (List.range ps.length) i hi2, List.getElem_range]
      have eq : q i = (((i : Int) != e) && hasB ps[i].2.1 v && (((i : Int) == (homeN ps p (ps.length - 1) : Int)) || (p.1 == 281474976710655))) := by
        rw [← hq]
        simp only [keepB, getD_lt hi, bcB]
        congr 2
        rw [Bool.eq_iff_iff, beq_iff_eq, beq_iff_eq]; omega
      have hr : ∀ k : Option (List Int), room (List.length (castL (((List.range ps.length).take i).filter q)) + List.length ([(i : Int)])) k = k := fun k => room_le (by simp only [castL, List.length_map, List.length_singleton]; rw [List.length_range] at hf; omega)
      rw [eq]
      cases (i : Int) != e with | false => rfl | true => ?_
      cases hasB ps[i].2.1 v with | false => rfl | true => ?_
      simp only [cond_true, bindO_some, Bool.true_and]
      cases ((i : Int) == (homeN ps p (ps.length - 1) : Int)) <;> cases p.1 == 281474976710655 <;> simp only [cond_true, cond_false, bindO_some, Bool.or_self, Bool.or_true, Bool.true_or] <;> first | rfl | (rw [hr]; simp [castL])
    · simp only [spec_SwitchPacket_T12]
      rw [decide_eq_false (by omega), List.take_of_length_le (by simp)]; rfl

theorem firstN_in (q : Nat → Bool) : ∀ l : List Nat, (firstN q l = -1 ∧ ∀ j ∈ l, q j = false) ∨ ∃ j ∈ l, q j = true ∧ firstN q l = (j : Int)
  | [] => .inl ⟨rfl, by simp⟩
  | j :: l => by
    rw [firstN]
    cases hj : q j with
    | true => exact .inr ⟨j, by simp, hj, rfl⟩
    | false =>
      simp only [cond_false]
      rcases firstN_in q l with ⟨h1, h2⟩ | ⟨k, h1, h2, h3⟩
      · exact .inl ⟨h1, by intro k hk; rcases List.mem_cons.1 hk with rfl | hk; exact hj; exact h2 k hk⟩
      · exact .inr ⟨k, by simp [h1], h2, h3⟩
theorem homeN_none {ps : List Port} {p : Packet} : ∀ i, (∀ j, 1 ≤ j → j ≤ i → ((ps.getD j portZ).1 == p.1) = false) → homeN ps p i = 0
  | 0, _ => rfl
  | i + 1, h => by rw [homeN, h (i + 1) (by omega) (by omega)]; exact homeN_none i fun j h1 h2 => h j h1 (by omega)
theorem homeN_one {ps : List Port} {p : Packet} {k : Nat} (hk : 1 ≤ k) (h : ((ps.getD k portZ).1 == p.1) = true) : ∀ i, k ≤ i → (∀ j, 1 ≤ j → j ≤ i → ((ps.getD j portZ).1 == p.1) = true → j = k) → homeN ps p i = k
  | 0, hi, _ => by omega
  | i + 1, hi, hu => by
    rw [homeN]
    by_cases he : k = i + 1
    · rw [← he, h]; rfl
    · cases hq : (ps.getD (i + 1) portZ).1 == p.1 with
      | true => have := hu (i + 1) (by omega) (by omega) hq; omega
      | false => exact homeN_one hk h i (by omega) fun j h1 h2 => hu j h1 (by omega)
theorem mac_one {ps : List Port} (hp : portsB ps = true) {i j : Nat} (h1 : 1 ≤ i) (hij : i < j) (hj : j < ps.length) : ((ps.getD i portZ).1 == (ps.getD j portZ).1) = false := by
  simp only [portsB, Bool.and_eq_true, List.all_eq_true, List.mem_range, portB, Bool.not_eq_true'] at hp
  have := (hp.2 j hj).2 i hij
  simp only [Bool.and_eq_false_iff, bne_eq_false_iff_eq] at this
  rcases this with h | h
  · omega
  · exact h
theorem filter_one {q : Nat → Bool} {k n : Nat} (hk : k < n) : (List.range n).filter (fun j => q j && (j == k)) = [k].filter q := by
  have h1 : (List.range n).filter (fun j => j == k) = [k] := by
    induction n with
    | zero => omega
    | succ n ih =>
      rw [List.range_succ, List.filter_append]
      by_cases he : k = n
      · subst he
        have : (List.range k).filter (fun j => j == k) = [] := by
          rw [List.filter_eq_nil_iff]; intro j hj; have := List.mem_range.1 hj; simp; omega
        rw [this]; simp
      · rw [ih (by omega)]
        have : ([n] : List Nat).filter (fun j => j == k) = [] := by simp; omega
        rw [this]; rfl
  have h2 : (fun j => q j && (j == k)) = fun j => q j && (fun j => j == k) j := rfl
  rw [h2, ← List.filter_filter, h1]
theorem implSwitchP (ps : List Port) (e : Int) (p : Packet) (z : PortsSz ps) : impl_SwitchPacket ps e p = some (switchR ps e p) := by
  have hn := z.n
  unfold impl_SwitchPacket switchR
  rw [implEntryV ps e p z, bindO_some]
  cases hd : decide (entryV ps e p < 0) with | true => rfl | false => ?_
  have hp : portsB ps = true := by
    cases hp : portsB ps with
    | true => rfl
    | false => unfold entryV goodB at hd; rw [hp] at hd; simp at hd
  have h1 : 1 ≤ ps.length ∧ ps.length ≤ 8 := by
    simp only [portsB, Bool.and_eq_true, inB_iff] at hp; omega
  have hmac : ∀ j, j < ps.length → (ps.getD j portZ).1 ≤ 281474976710654 := by
    intro j hj
    simp only [portsB, Bool.and_eq_true, List.all_eq_true, List.mem_range, portB, portInB, filterB, inB_iff] at hp
    exact (hp.2 j hj).1.1.2.1.2
  simp only [cond_false, implWith ps p.1 hn, bindO_some]
  generalize hv : entryV ps e p = v
  have hsw : switchN ps e p = (List.range ps.length).filter fun j => keepB ps e v j && ((j == homeN ps p (ps.length - 1)) || bcB p) := by rw [switchN, hv]
  rw [hsw]
  have hbcase : bcB p = true → ∀ j, j < ps.length → ((ps.getD j portZ).1 == p.1) = false := by
    intro hb j hj
    have := hmac j hj
    have hb : p.1 = 281474976710655 := by simpa [bcB] using hb
    rw [hb, beq_eq_false_iff_ne]; omega
  rcases firstN_in (fun j => (j != 0) && ((ps.getD j portZ).1 == p.1)) (List.range' 0 ps.length) with ⟨hf, hno⟩ | ⟨k, hk, hq, hf⟩
  · have hno : ∀ j, 1 ≤ j → j < ps.length → ((ps.getD j portZ).1 == p.1) = false := by
      intro j h2 h3
      have := hno j (by simp; omega)
      simp only [Bool.and_eq_false_iff, bne_eq_false_iff_eq] at this
      rcases this with h | h
      · omega
      · exact h
    have hh : homeN ps p (ps.length - 1) = 0 := homeN_none _ fun j h2 h3 => hno j h2 (by omega)
    rw [hf, show decide ((-1 : Int) ≥ 0) = false from rfl, cond_false, hh]
    rw [show (p.1 == 281474976710655) = bcB p from rfl]
    cases hb : bcB p with
    | true =>
      simp only [cond_true, Bool.or_true, Bool.and_true]
      refine walk_iter (fun i => (castL (List.range i), (i : Int))) ps.length (by omega) (fun i nx hi => ?_) (fun nx => ?_)
      · simp only [impl_SwitchPacket_T11]
        rw [decide_eq_true (by omega), room_le (by simp only [castL, List.length_map, List.length_range, List.length_singleton]; omega), wrap64 (by omega) (by omega), List.range_succ]
        simp only [cond_true, castL, List.map_append]; rfl
      · simp only [impl_SwitchPacket_T11]
        rw [decide_eq_false (by omega), cond_false]
        exact implKeep ps e v (List.range ps.length) (by simp; omega) (fun j hj => List.mem_range.1 hj) z
    | false =>
      simp only [cond_false, Bool.or_false]
      rw [filter_one (by omega)]
      exact implKeep ps e v [0] (by simp) (by simp; omega) z
  · have hkl : k < ps.length := by simp at hk; omega
    simp only [Bool.and_eq_true, bne_iff_ne] at hq
    have hb : bcB p = false := by
      cases hb : bcB p with
      | false => rfl
      | true => rw [hbcase hb k hkl] at hq; cases hq.2
    have hh : homeN ps p (ps.length - 1) = k := homeN_one (by omega) hq.2 _ (by omega) fun j h2 h3 h4 => by
      rcases Nat.lt_trichotomy j k with g | g | g
      · have := mac_one hp h2 g hkl
        have a := beq_iff_eq.1 h4; have b := beq_iff_eq.1 hq.2
        rw [a, b] at this; simp at this
      · exact g
      · have := mac_one hp (show 1 ≤ k by omega) g (show j < ps.length by omega)
        have a := beq_iff_eq.1 h4; have b := beq_iff_eq.1 hq.2
        rw [a, b] at this; simp at this
    rw [hf, decide_eq_true (by omega), cond_true, hh, hb]
    simp only [Bool.or_false]
    rw [filter_one hkl]
    exact implKeep ps e v [k] (by simp) (by simp; omega) z

end

end Go.Pu

/- A packet through the ideal world's switch. -/
namespace Go.Pu
open Go.Dn
set_option linter.unusedSimpArgs false
set_option linter.unusedVariables false
noncomputable section

theorem take_succ_app {α : Type} (l : List α) (i : Nat) (hi : i < l.length) : l.take i ++ [l[i]] = l.take (i + 1) := (List.take_succ_eq_append_getElem hi).symm
theorem mailSz {w : Ideal} {n : Nat} (z : LenB n TIdeal w) : ∀ m ∈ w.2.2.2.1, m.1.2.2.length ≤ n := fun m hm => (z.2.2.2.1.2 m hm).1.2.2.1
theorem idealSz_of {w : Ideal} (z : LenB 1000000000 TIdeal w) : IdealSz w :=
  ⟨z.1.1, z.2.2.1.1, mailSz z, fun s hs => (z.1.2 s hs).1.2.2.1, fun s hs => (z.1.2 s hs).2.1.1.1, fun s hs => (z.1.2 s hs).2.1.2.1.1, fun s hs => (z.1.2 s hs).2.1.2.2.2.1⟩
theorem implCopyIdeal (w : Ideal) (z : LenB 1000000000 TIdeal w) : impl_copyIdeal w = some w := by
  have l1 : w.1.length ≤ 1000000000 := z.1.1
  have l2 : w.2.1.length ≤ 1000000000 := z.2.1.1
  unfold impl_copyIdeal
  simp only [implCopyFunctions _ z.2.2.1.1, implCopyBoxes _ z.2.2.2.1.1 (mailSz z), implCopyStrings _ z.2.2.2.2.1, bindO_some]
  refine walk_iter (fun i => ((i : Int), w.1.take i, ([] : List (List Bytes)), w.2.2.1, w.2.2.2.1, w.2.2.2.2)) w.1.length (by omega) (fun i nx hi => ?_) (fun nx => ?_)
  · simp only [impl_copyIdeal_T3]
    rw [decide_eq_true (by omega), idx_lt hi, wrap64 (by omega) (by omega)]
    simp only [cond_true, bindO_some, implCopySoft _ (z.1.2 _ (List.getElem_mem hi))]
    rw [room_le (by simp; omega), take_succ_app _ i hi]; rfl
  · simp only [impl_copyIdeal_T3]
    rw [decide_eq_false (by omega), cond_false, List.take_length]
    refine walk_iter (fun i => ((i : Int), w.1, w.2.1.take i, w.2.2.1, w.2.2.2.1, w.2.2.2.2)) w.2.1.length (by omega) (fun i nx hi => ?_) (fun nx => ?_)
    · simp only [impl_copyIdeal_T8]
      rw [decide_eq_true (by omega), idx_lt hi, wrap64 (by omega) (by omega)]
      simp only [cond_true, bindO_some, implCopyStrings _ (z.2.1.2 _ (List.getElem_mem hi)).1]
      rw [room_le (by simp; omega), take_succ_app _ i hi]; rfl
    · simp only [impl_copyIdeal_T8]
      rw [decide_eq_false (by omega), cond_false, List.take_length]
theorem specCopyIdeal (w : Ideal) (z : LenB 1000000000 TIdeal w) : spec_l43Copy w = some w := by
  have l1 : w.1.length ≤ 1000000000 := z.1.1
  have l2 : w.2.1.length ≤ 1000000000 := z.2.1.1
  have l3 : w.2.2.2.1.length ≤ 1000000000 := z.2.2.2.1.1
  unfold spec_l43Copy
  rw [room_nil z.2.2.1.1, room_nil z.2.2.2.2.1]
  simp only [List.nil_append]
  refine walk_iter (fun i => ((i : Int), w.1.take i, ([] : List (List Bytes)), w.2.2.1, ([] : List Mailbox), w.2.2.2.2)) w.1.length (by omega) (fun i nx hi => ?_) (fun nx => ?_)
  · simp only [spec_l43Copy_T3]
    rw [decide_eq_true (by omega), idx_lt hi, wrap64 (by omega) (by omega)]
    simp only [cond_true, bindO_some, specCopySoft _ (z.1.2 _ (List.getElem_mem hi))]
    rw [room_le (by simp; omega), take_succ_app _ i hi]; rfl
  · simp only [spec_l43Copy_T3]
    rw [decide_eq_false (by omega), cond_false, List.take_length]
    refine walk_iter (fun i => ((i : Int), w.1, w.2.1.take i, w.2.2.1, ([] : List Mailbox), w.2.2.2.2)) w.2.1.length (by omega) (fun i nx hi => ?_) (fun nx => ?_)
    · simp only [spec_l43Copy_T7]
      rw [decide_eq_true (by omega), idx_lt hi, wrap64 (by omega) (by omega)]
      simp only [cond_true, bindO_some]
      rw [room_nil (z.2.1.2 _ (List.getElem_mem hi)).1, List.nil_append, room_le (by simp; omega), take_succ_app _ i hi]; rfl
    · simp only [spec_l43Copy_T7]
      rw [decide_eq_false (by omega), cond_false, List.take_length]
      refine walk_iter (fun i => ((i : Int), w.1, w.2.1, w.2.2.1, w.2.2.2.1.take i, w.2.2.2.2)) w.2.2.2.1.length (by omega) (fun i nx hi => ?_) (fun nx => ?_)
      · simp only [spec_l43Copy_T11]
        rw [decide_eq_true (by omega), idx_lt hi, wrap64 (by omega) (by omega)]
        simp only [cond_true, bindO_some, specCopyMailbox _ (mailSz z _ (List.getElem_mem hi))]
        rw [room_le (by simp; omega), take_succ_app _ i hi]; rfl
      · simp only [spec_l43Copy_T11]
        rw [decide_eq_false (by omega), cond_false, List.take_length]

def stepW (ps : List Port) (v : Int) (p : Packet) (w : Ideal) (j : Nat) : Ideal :=
  bif j == 0 then (w.1, w.2.1, w.2.2.1, w.2.2.2.1, w.2.2.2.2 ++ [(frameR (leaveR ps (j : Int) v p)).1])
  else (w.1.set (j - 1) (receiveR (w.1.getD (j - 1) soft0) (frameR (leaveR ps (j : Int) v p)).1), w.2)
theorem stepW_n (ps : List Port) (v : Int) (p : Packet) (w : Ideal) (j : Nat) : (stepW ps v p w j).1.length = w.1.length := by
  unfold stepW
  cases j == 0 with
  | true => rfl
  | false => exact List.length_set ..
theorem stepW_len {ps : List Port} {v : Int} {p : Packet} {w : Ideal} {j n : Nat} (hj : j ≤ w.1.length) (hn : 382 ≤ n) (z : LenB n TIdeal w) : LenB (n + 322) TIdeal (stepW ps v p w j) := by
  have z' : LenB (n + 322) TIdeal w := z.mono (by omega)
  have hfr := frameR_le (leaveR ps (j : Int) v p)
  unfold stepW
  cases hj0 : j == 0 with
  | true =>
    refine ⟨z'.1, z'.2.1, z'.2.2.1, z'.2.2.2.1, ?_, fun x hx => ?_⟩
    · have : w.2.2.2.2.length ≤ n := z.2.2.2.2.1
      show (w.2.2.2.2 ++ [_]).length ≤ _
      simp only [List.length_append, List.length_singleton]; omega
    · rcases List.mem_append.1 hx with h | h
      · exact z'.2.2.2.2.2 x h
      · rw [List.mem_singleton.1 h]; show List.length _ ≤ _; omega
  | false =>
    have : j ≠ 0 := by simpa using hj0
    have hl : j - 1 < w.1.length := by omega
    refine ⟨⟨?_, fun x hx => ?_⟩, z'.2⟩
    · show (w.1.set _ _).length ≤ _
      rw [List.length_set]; exact z'.1.1
    · rcases List.mem_or_eq_of_mem_set hx with h | h
      · exact z'.1.2 x h
      · rw [h, getD_lt hl]; exact receiveR_len (z.1.2 _ (List.getElem_mem hl))
def runW2 (ps : List Port) (v : Int) (p : Packet) (w : Ideal) (l : List Nat) : Ideal := l.foldl (stepW ps v p) w
theorem runW2_n (ps : List Port) (v : Int) (p : Packet) : ∀ (l : List Nat) (w : Ideal), (runW2 ps v p w l).1.length = w.1.length
  | [], w => rfl
  | j :: l, w => by
    show (runW2 ps v p (stepW ps v p w j) l).1.length = _
    rw [runW2_n ps v p l, stepW_n]
theorem runW2_len {ps : List Port} {v : Int} {p : Packet} : ∀ (l : List Nat) {w : Ideal} {n : Nat}, (∀ j ∈ l, j ≤ w.1.length) → 382 ≤ n → LenB n TIdeal w → LenB (n + 322 * l.length) TIdeal (runW2 ps v p w l)
  | [], w, n, _, _, z => z
  | j :: l, w, n, hj, hn, z => by
    have h1 := stepW_len (ps := ps) (v := v) (p := p) (hj j (by simp)) hn z
    have := runW2_len (ps := ps) (v := v) (p := p) l (w := stepW ps v p w j) (fun k hk => by rw [stepW_n]; exact hj k (by simp [hk])) (by omega) h1
    exact this.mono (by simp only [List.length_cons]; omega)
theorem runW2_step (ps : List Port) (v : Int) (p : Packet) (w : Ideal) (l : List Nat) (i : Nat) (hi : i < l.length) : runW2 ps v p w (l.take (i + 1)) = stepW ps v p (runW2 ps v p w (l.take i)) l[i] := by
  rw [List.take_succ_eq_append_getElem hi, runW2, List.foldl_append]; rfl
theorem implSwLoop {R : Type} (K : Ideal → Option R) (ps : List Port) (v : Int) (p : Packet) (w : Ideal) (l : List Nat) (hl : l.length ≤ 8) (hj : ∀ j ∈ l, j ≤ w.1.length) (z : LenB 10000000 TIdeal w) (zp : PortsSz ps) :
    iterL (impl_IdealSwitch_T7 (fun (_ : Int) (y16 : Ideal) => K y16) ps v (castL l) ((castL l).length : Int) p (([] : List Soft), ([] : List (List Bytes)), ([] : List VirtualFunction), ([] : List Mailbox), ([] : List Bytes))) fuel (0, w) = K (runW2 ps v p w l) := by
  refine walk_iter (fun i => ((i : Int), runW2 ps v p w (l.take i))) l.length (by omega) (fun i nx hi => ?_) (fun nx => ?_)
  · have hi2 : i < (castL l).length := by simpa [castL] using hi
    have e1 : (castL l)[i]'hi2 = (l[i] : Int) := by simp [castL]
    have hn := runW2_n ps v p (l.take i) w
    have hz := (runW2_len (ps := ps) (v := v) (p := p) (l.take i) (fun j h => hj j (List.mem_of_mem_take h)) (by omega) z).mono (show 10000000 + 322 * (l.take i).length ≤ 100000000 by rw [List.length_take]; omega)
    have hji := hj _ (List.getElem_mem hi)
    have hfr := frameR_le (leaveR ps (l[i] : Int) v p)
    rw [runW2_step ps v p w l i hi]
    generalize runW2 ps v p w (l.take i) = W at hn hz ⊢
    have hw : W.2.2.2.2.length ≤ 100000000 := hz.2.2.2.2.1
    have hw1 : W.1.length ≤ 100000000 := hz.1.1
    simp only [impl_IdealSwitch_T7]
    rw [decide_eq_true (by simpa [castL] using hi), idx_lt hi2, e1, wrap64 (n := (i : Int) + 1) (by omega) (by omega)]
    simp only [cond_true, bindO_some, implLeave ps _ v p zp, implFrame, stepW]
    by_cases h0 : l[i] = 0
    · rw [show ((l[i] : Int) == 0) = true from by simp [h0], show (l[i] == 0) = true from by simp [h0]]
      simp only [cond_true]
      rw [room_le (by simp only [List.length_singleton]; omega)]; rfl
    · rw [show ((l[i] : Int) == 0) = false from by simp [h0], show (l[i] == 0) = false from by simp [h0]]
      have hk : l[i] - 1 < W.1.length := by omega
      rw [wrap64 (n := (l[i] : Int) - 1) (by omega) (by omega), show (l[i] : Int) - 1 = ((l[i] - 1 : Nat) : Int) by omega]
      simp only [cond_false, idx_lt hk, bindO_some, implReceive _ _ (hz.1.2 _ (List.getElem_mem hk)) (Nat.le_trans hfr (by omega)), Int.toNat_natCast, getD_lt hk]; rfl
  · simp only [impl_IdealSwitch_T7]
    rw [decide_eq_false (by simp [castL]), cond_false, List.take_length]
theorem specSwLoop {R : Type} (K : Ideal → Option R) (ps : List Port) (v : Int) (p : Packet) (w : Ideal) (l : List Nat) (hl : l.length ≤ 8) (hj : ∀ j ∈ l, j ≤ w.1.length) (z : LenB 10000000 TIdeal w) (zp : PortsSz ps) :
    iterL (spec_l43Switch_T5 (fun (_ : Int) (y15 : Ideal) => K y15) ps (castL l) v p) fuel (0, w) = K (runW2 ps v p w l) := by
  refine walk_iter (fun i => ((i : Int), runW2 ps v p w (l.take i))) l.length (by omega) (fun i nx hi => ?_) (fun nx => ?_)
  · have hi2 : i < (castL l).length := by simpa [castL] using hi
    have e1 : (castL l)[i]'hi2 = (l[i] : Int) := by simp [castL]
    have hn := runW2_n ps v p (l.take i) w
    have hz := (runW2_len (ps := ps) (v := v) (p := p) (l.take i) (fun j h => hj j (List.mem_of_mem_take h)) (by omega) z).mono (show 10000000 + 322 * (l.take i).length ≤ 100000000 by rw [List.length_take]; omega)
    have hji := hj _ (List.getElem_mem hi)
    have hfr := frameR_le (leaveR ps (l[i] : Int) v p)
    rw [runW2_step ps v p w l i hi]
    generalize runW2 ps v p w (l.take i) = W at hn hz ⊢
    have hw : W.2.2.2.2.length ≤ 100000000 := hz.2.2.2.2.1
    have hw1 : W.1.length ≤ 100000000 := hz.1.1
    simp only [spec_l43Switch_T5]
    rw [decide_eq_true (by simpa [castL] using hi), idx_lt hi2, e1, wrap64 (n := (i : Int) + 1) (by omega) (by omega)]
    simp only [cond_true, bindO_some, specLeave ps _ v p zp, specFrame, stepW]
    by_cases h0 : l[i] = 0
    · rw [show ((l[i] : Int) == 0) = true from by simp [h0], show (l[i] == 0) = true from by simp [h0]]
      simp only [cond_true]
      rw [room_le (by simp only [List.length_singleton]; omega)]; rfl
    · rw [show ((l[i] : Int) == 0) = false from by simp [h0], show (l[i] == 0) = false from by simp [h0]]
      have hk : l[i] - 1 < W.1.length := by omega
      rw [wrap64 (n := (l[i] : Int) - 1) (by omega) (by omega), show (l[i] : Int) - 1 = ((l[i] - 1 : Nat) : Int) by omega]
      simp only [cond_false, idx_lt hk, bindO_some, specReceive _ _ (hz.1.2 _ (List.getElem_mem hk)) (Nat.le_trans hfr (by omega)), Int.toNat_natCast, getD_lt hk]; rfl
  · simp only [spec_l43Switch_T5]
    rw [decide_eq_false (by simp [castL]), cond_false, List.take_length]
def idealSwitchR (w : Ideal) (e : Int) (p : Packet) : Ideal :=
  bif idealB w && packetB p then (bif decide (entryV (portsR w.2.2.2.1).1 e p < 0) then w else runW2 (portsR w.2.2.2.1).1 (entryV (portsR w.2.2.2.1).1 e p) p w (switchN (portsR w.2.2.2.1).1 e p)) else w
theorem ports_n {w : Ideal} (h : idealB w = true) : (portsR w.2.2.2.1).1.length = w.1.length + 1 ∧ (portsR w.2.2.2.1).1.length ≤ 8 := by
  unfold idealB at h
  simp only [Bool.and_eq_true] at h
  have hl := (lens_iff h.2.1).1
  have h2 := h.1
  unfold portsR at h2 ⊢
  cases hc : inB (w.2.2.2.1.length : Int) 1 3 && (w.2.2.2.1.all mailB && portsB (portsOf w.2.2.2.1)) with
  | false => rw [hc] at h2; cases h2
  | true =>
    simp only [Bool.and_eq_true] at hc
    have := (fold_inv w.2.2.2.1 0 ([0], []) ⟨by simp, rfl, by simp⟩ hc.2.1).2.1
    have h8 := hc.2.2
    simp only [portsB, Bool.and_eq_true, inB_iff] at h8
    simp only [cond_true]
    refine ⟨?_, by omega⟩
    simp only [portsOf, List.length_cons]
    rw [this, hl]; omega
theorem switchN_mem {ps : List Port} {e : Int} {p : Packet} : ∀ j ∈ switchN ps e p, j < ps.length := fun j hj => List.mem_range.1 (List.mem_filter.1 hj).1
theorem switchN_len (ps : List Port) (e : Int) (p : Packet) : (switchN ps e p).length ≤ ps.length := Nat.le_trans (List.length_filter_le _ _) (by simp)
theorem portsSz (ms : List Mailbox) : PortsSz (portsR ms).1 := ⟨(portsR_sz ms).1, (portsR_sz ms).2⟩
theorem implIdealSwitch (w : Ideal) (e : Int) (p : Packet) (z : LenB 10000000 TIdeal w) : impl_IdealSwitch w e p = some (idealSwitchR w e p) := by
  have z9 : LenB 1000000000 TIdeal w := z.mono (by omega)
  unfold impl_IdealSwitch idealSwitchR
  simp only [implCopyIdeal w z9, implIdeal w (idealSz_of z9), implPacket, bindO_some]
  cases hi : idealB w with | false => rfl | true => ?_
  cases packetB p with | false => rfl | true => ?_
  have hn := ports_n hi
  have zp := portsSz w.2.2.2.1
  simp only [Bool.not_true, cond_false, bindO_some, Bool.and_self, cond_true, implPortsOf _ (mailSz z9), implEntryV _ e p zp, implSwitchP _ e p zp]
  generalize (portsR w.2.2.2.1).1 = ps at hn zp ⊢
  unfold switchR
  cases decide (entryV ps e p < 0) with
  | true => exact implSwLoop (fun w => some w) ps (entryV ps e p) p w [] (by simp) (by simp) z zp
  | false => exact implSwLoop (fun w => some w) ps (entryV ps e p) p w (switchN ps e p) (by have := switchN_len ps e p; omega) (fun j hj => by have := switchN_mem j hj; omega) z zp
theorem specIdealSwitch (w : Ideal) (e : Int) (p : Packet) (z : LenB 10000000 TIdeal w) : spec_IdealSwitch w e p = some (idealSwitchR w e p) := by
  have z9 : LenB 1000000000 TIdeal w := z.mono (by omega)
  unfold spec_IdealSwitch spec_l43Switch idealSwitchR
  simp only [specCopyIdeal w z9, specIdeal w (idealSz_of z9), specPacket, bindO_some]
  cases hi : idealB w with | false => rfl | true => ?_
  cases packetB p with | false => rfl | true => ?_
  have hn := ports_n hi
  have zp := portsSz w.2.2.2.1
  simp only [Bool.not_true, cond_false, bindO_some, Bool.and_self, cond_true, specPortsOf _ (mailSz z9), specEntryV _ e p zp, specSwitchP _ e p zp]
  generalize (portsR w.2.2.2.1).1 = ps at hn zp ⊢
  unfold switchR
  cases decide (entryV ps e p < 0) with
  | true => exact congrArg (fun q => bindO q fun r : Unit × Ideal => some r.2) (specSwLoop (fun w => some ((), w)) ps (entryV ps e p) p w [] (by simp) (by simp) z zp)
  | false => exact congrArg (fun q => bindO q fun r : Unit × Ideal => some r.2) (specSwLoop (fun w => some ((), w)) ps (entryV ps e p) p w (switchN ps e p) (by have := switchN_len ps e p; omega) (fun j hj => by have := switchN_mem j hj; omega) z zp)
theorem idealSwitchR_len {w : Ideal} {e : Int} {p : Packet} {n : Nat} (hn : 382 ≤ n) (z : LenB n TIdeal w) : LenB (n + 2576) TIdeal (idealSwitchR w e p) := by
  have z' : LenB (n + 2576) TIdeal w := z.mono (by omega)
  unfold idealSwitchR
  cases hi : idealB w with | false => exact z' | true => ?_
  cases packetB p with | false => exact z' | true => ?_
  have h := ports_n hi
  simp only [Bool.and_self, cond_true]
  generalize (portsR w.2.2.2.1).1 = ps at h ⊢
  cases decide (entryV ps e p < 0) with
  | true => exact z'
  | false =>
    have h8 := switchN_len ps e p
    exact (runW2_len (switchN ps e p) (fun j hj => by have := switchN_mem j hj; omega) hn z).mono (by omega)

end

end Go.Pu

/- FnExactIdealSwitch, the plain law. -/
namespace Go.Pu
open Go.Dn
set_option linter.unusedSimpArgs false
set_option linter.unusedVariables false

theorem idealSwitch_true (a : Ideal) (e : Int) (p : Packet) (ha : In64 TIdeal a) (he : In64 (.int .i64) e) (hp : In64 TPacket p) : laws_FnExactIdealSwitch a e p = some true := by
  unfold laws_FnExactIdealSwitch
  refine (sz_Ideal a ha).use (by omega) (by omega) fun hl => ?_
  refine (sz_Packet p hp).use (by omega) (by omega) fun hl2 => ?_
  have hA : LenB 1048576 TIdeal a := szC_len (by omega)
  have hP : LenB 1048576 TPacket p := szC_len (by omega)
  have hs := specIdealSwitch a e p (hA.mono (by omega))
  have hi := implIdealSwitch a e p (hA.mono (by omega))
  have hR : LenB 1051152 TIdeal (idealSwitchR a e p) := idealSwitchR_len (by omega) hA
  generalize idealSwitchR a e p = r at hs hi hR
  have c1 : cntT TIdeal a ≤ bnd 1048576 TIdeal := Nat.le_trans cntT_le (cnt_len hA)
  have c2 : cntT TIdeal r ≤ bnd 1051152 TIdeal := Nat.le_trans cntT_le (cnt_len hR)
  have b1 : bnd 1048576 TIdeal ≤ 900000000000000 := by decide
  have b2 : bnd 1051152 TIdeal ≤ 900000000000000 := by decide
  have m1 := mt_Ideal a (hA.mono (by omega)) 1 (by omega) (by omega)
  have m2 := mt_Ideal r (hR.mono (by omega)) 1 (by omega) (by omega)
  have m3 : ∀ t, t = mkT TIdeal r 1 → laws_heldIdeal t 1 = some (1 + (cntT TIdeal r : Int)) := by rintro _ rfl; exact ht_Ideal r (hR.mono (by omega)) 1 (by omega) (by omega)
  simp (disch := omega) only [to_Ideal a hA, to_Packet p hP, bindO_some, hs, hi, eq_Ideal r (hR.mono (by omega)), eq_Ideal a (hA.mono (by omega)), beq_self_eq_true, bne_self_eq_false, Bool.not_true, cond_false, m1, m2, dec_neg]
  rw [m3]
  · simp (disch := omega) only [bindO_some, dec_neg, cond_false, bne_self_eq_false]
  · rfl

end Go.Pu
