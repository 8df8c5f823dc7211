import Derived.Test.YtpnmgicfhmidcabGreatPuCard
import Derived.Test.YtpnmgicfhmidcabGreatPuCopy
import Derived.Test.YtpnmgicfhmidcabGreatPuIdeal
import Derived.Test.YtpnmgicfhmidcabGreatPuSame
/- FnExactSameWorld, the plain law. -/
namespace Go.Pu
open Go.Dn
set_option linter.unusedSimpArgs false
noncomputable section

def fnEq (x1 x2 : VirtualFunction) : Bool := (x1.1 == x2.1) && ((x1.2.1 == x2.2.1) && ((x1.2.2.1.1 == x2.2.2.1.1) && ((x1.2.2.1.2.1 == x2.2.2.1.2.1) && ((x1.2.2.1.2.2 == x2.2.2.1.2.2) && ((x1.2.2.2.1 == x2.2.2.2.1) && ((x1.2.2.2.2.1 == x2.2.2.2.2.1) && ((x1.2.2.2.2.2 == x2.2.2.2.2.2) && true)))))))
theorem fnEq_iff (x y : VirtualFunction) : fnEq x y = true ↔ x = y := by
  obtain ⟨a, b, ⟨c, d, e⟩, f, g, h⟩ := x
  obtain ⟨a', b', ⟨c', d', e'⟩, f', g', h'⟩ := y
  simp [fnEq, and_assoc]
theorem implFns (a b : List VirtualFunction) (h : a.length ≤ 1000000000) : slices_Equal_VirtualFunction a b = some (eqQ a b) := by
  unfold slices_Equal_VirtualFunction
  refine eqs_fun fnEq fnEq_iff a b h (fun hl i hi hi' nx => ?_) (fun nx => ?_)
  · simp only [slices_Equal_VirtualFunction_T4]
    rw [decide_eq_true (by omega), idx_lt hi, idx_lt hi', wrap64 (by omega) (by omega)]; rfl
  · simp only [slices_Equal_VirtualFunction_T4]
    rw [decide_eq_false (by omega)]; rfl
def sameS (a b : List Stream) : Bool := a.all (fun s => agree a b s.1) && b.all (fun s => agree a b s.1)
def hostZ : Host := (([] : List Bytes), ([] : List Mapping), ((0, 0, 0, 0), (0, 0, 0, ([] : List Int)), ([] : List Sent), 0), ([] : List RxQueue), ([] : List Pool), ([] : List Vector), ([] : List Bool), (0, false, ([] : List Int)), (([] : List Rule), ([] : List Slot), ([] : Bytes), ([] : List Int)), ([] : List Stream), false, ([] : List Bytes), ([] : List Int), ([] : List Int), 0, 0, 0, 0, 0)
def sameAt (c : Card) (s : Ideal) (i : Nat) : Bool := sameS (c.1.getD i hostZ).2.2.2.2.2.2.2.2.2.1 (s.1.getD i soft0).2.2.2.1
def worldB (c : Card) (s : Ideal) : Bool := cardB c && (idealB s && (eqQ c.2.1 s.2.2.1 && (eqQ c.2.2.2.2.2.2 s.2.2.2.2 && (List.range c.1.length).all (sameAt c s))))
structure WorldSz (c : Card) (s : Ideal) : Prop where
  zc : CardSz c
  zs : IdealSz s
  u : c.2.2.2.2.2.2.length ≤ 1000000000
  a : ∀ h ∈ c.1, h.2.2.2.2.2.2.2.2.2.1.length ≤ 1000000000
  b : ∀ x ∈ s.1, x.2.2.2.1.length ≤ 1000000000
theorem cardB_len {c : Card} (h : cardB c = true) : c.1.length = c.2.1.length := by
  simp only [cardB, Bool.and_eq_true] at h
  have := lens2_iff h.2.1
  omega
theorem idealB_len {s : Ideal} (h : idealB s = true) : s.1.length = s.2.2.1.length := by
  simp only [idealB, Bool.and_eq_true] at h
  have := lens_iff h.2.1
  omega
theorem getD_mem {α : Type} {l : List α} {i : Nat} (h : i < l.length) (d : α) : l.getD i d ∈ l := by rw [getD_lt h]; exact List.getElem_mem h
theorem len_ne {α β : Type} {a : List α} {b : List β} (h : ((a.length : Int) != (b.length : Int)) = false) : a.length = b.length := by
  simp only [bne_eq_false_iff_eq] at h; omega
theorem specWorld (c : Card) (s : Ideal) (z : WorldSz c s) : spec_SameWorld c s = some (worldB c s) := by
  unfold spec_SameWorld worldB
  simp only [specCard c z.zc, specIdeal s z.zs, bindO_some, cond_some, cT]
  cases hc : cardB c with | false => rfl | true => ?_
  cases hs : idealB s with | false => rfl | true => ?_
  have lc := cardB_len hc
  have ls := idealB_len hs
  have f0 := z.zc.f0
  have u0 := z.u
  cases hf : ((c.2.1.length : Int) != (s.2.2.1.length : Int)) with
  | true =>
    rw [eqQ_false (a := c.2.1) (b := s.2.2.1) (fun e => by rw [e] at hf; simp at hf)]; rfl
  | false =>
    have lf := len_ne hf
    cases hu : ((c.2.2.2.2.2.2.length : Int) != (s.2.2.2.2.length : Int)) with
    | true =>
      rw [eqQ_false (a := c.2.2.2.2.2.2) (b := s.2.2.2.2) (fun e => by rw [e] at hu; simp at hu)]
      simp only [Bool.not_true, Bool.false_or, Bool.or_true, cond_true, Bool.false_and, Bool.and_false]
    | false =>
      have lu := len_ne hu
      simp only [Bool.not_true, Bool.false_or, Bool.or_false, cond_false, Bool.true_and]
      rw [alln_iter (hit := some false) (fin := some (eqQ c.2.2.2.2.2.2 s.2.2.2.2)) (fun i => eqQ c.2.1[i]? s.2.2.1[i]? && sameAt c s i) c.2.1.length (by omega) (fun i nx hi => ?hs) (fun nx => ?hf)]
      case hs =>
        have q2 : i < s.2.2.1.length := by omega
        have q3 : i < c.1.length := by omega
        have q4 : i < s.1.length := by omega
        have ha := z.a _ (List.getElem_mem q3)
        have hb := z.b _ (List.getElem_mem q4)
        simp only [spec_SameWorld_T4]
        rw [decide_eq_true (by omega), idx_lt hi, idx_lt q2, idx_lt q3, idx_lt q4, wrap64 (n := (i : Int) + 1) (by omega) (by omega)]
        have he : fnEq c.2.1[i] s.2.2.1[i] = eqQ c.2.1[i]? s.2.2.1[i]? := eqQ_of (by rw [fnEq_iff, List.getElem?_eq_getElem hi, List.getElem?_eq_getElem q2, Option.some.injEq])
        have e2 : sameAt c s i = sameS c.1[i].2.2.2.2.2.2.2.2.2.1 s.1[i].2.2.2.1 := by unfold sameAt; rw [getD_lt q3, getD_lt q4]
        have hsd := specSame c.1[i].2.2.2.2.2.2.2.2.2.1 s.1[i].2.2.2.1 (by omega) (by omega)
        simp only [cond_true, bindO_some, hsd, cond_some, cT]
        rw [e2, ← he]
        unfold fnEq sameS
        generalize ((c.2.1[i].1 == s.2.2.1[i].1) && _) = A
        generalize ((c.1[i].2.2.2.2.2.2.2.2.2.1.all _) && _) = B
        cases A <;> cases B <;> rfl
      case hf =>
        simp only [spec_SameWorld_T4]
        rw [decide_eq_false (by omega)]
        simp only [cond_false]
        rw [eqs_loop (hit := some false) (fin := some true) (fun x y => x == y) (fun x y => beq_iff_eq) c.2.2.2.2.2.2 s.2.2.2.2 lu z.u (fun i hi nx => ?_) (fun nx => ?_)]
        · cases eqQ c.2.2.2.2.2.2 s.2.2.2.2 <;> rfl
        · simp only [spec_SameWorld_T9]
          rw [decide_eq_true (by omega), idx_lt hi, idx_lt (show i < s.2.2.2.2.length by omega), wrap64 (by omega) (by omega)]; rfl
        · simp only [spec_SameWorld_T9]
          rw [decide_eq_false (by omega)]; rfl
      have e : (List.range c.2.1.length).all (fun i => eqQ c.2.1[i]? s.2.2.1[i]?) = eqQ c.2.1 s.2.2.1 := by
        apply eqQ_of
        rw [List.all_eq_true]
        constructor
        · intro k
          apply List.ext_getElem?
          intro i
          by_cases hi : i < c.2.1.length
          · exact eqQ_iff.1 (k i (List.mem_range.2 hi))
          · rw [List.getElem?_eq_none (by omega), List.getElem?_eq_none (by omega)]
        · intro k i _; rw [k]; exact eqQ_true rfl
      rw [all_and2, e, ← lc]
      cases eqQ c.2.1 s.2.2.1 <;> cases eqQ c.2.2.2.2.2.2 s.2.2.2.2 <;> cases (List.range c.1.length).all (sameAt c s) <;> rfl
theorem implWorld (c : Card) (s : Ideal) (z : WorldSz c s) : impl_SameWorld c s = some (worldB c s) := by
  unfold impl_SameWorld worldB
  simp only [implCard c z.zc, implIdeal s z.zs, impl_sameFunctions, implFns _ _ z.zc.f0, bindO_some, cond_some, cT]
  cases hc : cardB c with | false => rfl | true => ?_
  cases hs : idealB s with | false => rfl | true => ?_
  have lc := cardB_len hc
  have ls := idealB_len hs
  have f0 := z.zc.f0
  have u0 := z.u
  cases hf : eqQ c.2.1 s.2.2.1 with
  | false => rfl
  | true =>
    have lf : c.2.1.length = s.2.2.1.length := by rw [eqQ_iff.1 hf]
    cases hu : ((c.2.2.2.2.2.2.length : Int) != (s.2.2.2.2.length : Int)) with
    | true =>
      rw [eqQ_false (a := c.2.2.2.2.2.2) (b := s.2.2.2.2) (fun e => by rw [e] at hu; simp at hu)]
      simp only [Bool.not_true, Bool.false_or, Bool.or_true, cond_true, Bool.false_and, Bool.and_false]
    | false =>
      have lu := len_ne hu
      simp only [Bool.not_true, Bool.false_or, Bool.or_false, cond_false, Bool.true_and]
      rw [eqs_loop (hit := some false) (fin := some ((List.range c.1.length).all (sameAt c s))) (fun x y => y == x) (fun x y => by rw [beq_iff_eq]; exact eq_comm) c.2.2.2.2.2.2 s.2.2.2.2 lu z.u (fun i hi nx => ?_) (fun nx => ?_)]
      · cases eqQ c.2.2.2.2.2.2 s.2.2.2.2 <;> rfl
      · simp only [impl_SameWorld_T4]
        rw [decide_eq_true (by omega), idx_lt hi, idx_lt (show i < s.2.2.2.2.length by omega), wrap64 (by omega) (by omega)]; rfl
      · simp only [impl_SameWorld_T4]
        rw [decide_eq_false (by omega)]
        simp only [cond_false]
        rw [alln_iter (hit := some false) (fin := some true) (sameAt c s) c.1.length (by omega) (fun i nx hi => ?_) (fun nx => ?_)]
        · cases (List.range c.1.length).all (sameAt c s) <;> rfl
        · have q4 : i < s.1.length := by omega
          have ha := z.a _ (List.getElem_mem hi)
          have hb := z.b _ (List.getElem_mem q4)
          simp only [impl_SameWorld_T10]
          rw [decide_eq_true (by omega), idx_lt hi, idx_lt q4, wrap64 (n := (i : Int) + 1) (by omega) (by omega)]
          have e2 : sameAt c s i = sameS c.1[i].2.2.2.2.2.2.2.2.2.1 s.1[i].2.2.2.1 := by unfold sameAt; rw [getD_lt hi, getD_lt q4]
          have hsd := implSame c.1[i].2.2.2.2.2.2.2.2.2.1 s.1[i].2.2.2.1 (by omega) (by omega)
          simp only [cond_true, bindO_some, hsd]
          rw [e2]; rfl
        · simp only [impl_SameWorld_T10]
          rw [decide_eq_false (by omega)]; rfl

theorem cardSz_c {c : Card} (k : szC TCard c ≤ 1048576) : CardSz c := by
  have hA : LenB 1048576 TCard c := szC_len k
  have g : ∀ {n : Nat}, n ≤ 1048576 → n ≤ 1000000000 := fun h => Nat.le_trans h (by omega)
  refine ⟨g hA.1.1, g hA.2.1.1, fun m hm => g (hA.2.2.1.2 m hm).1.2.2.1, fun h hh => hostSz_c ?_⟩
  have h1 := mem_sum_le (szC THost) c.1 h hh
  have h2 : (c.1.map (szC THost)).sum ≤ szC TCard c := by
    show _ ≤ (c.1.length + (c.1.map (szC THost)).sum) + _
    omega
  omega
theorem sameWorld_true (a : Card) (s : Ideal) (ha : In64 TCard a) (hs : In64 TIdeal s) : laws_FnExactSameWorld a s = some true := by
  unfold laws_FnExactSameWorld
  refine (sz_Card a ha).use (by omega) (by omega) fun hl => ?_
  refine (sz_Ideal s hs).use (by omega) (by omega) fun hl2 => ?_
  have hA : LenB 1048576 TCard a := szC_len (by omega)
  have hS : LenB 1048576 TIdeal s := szC_len (by omega)
  have g : ∀ {n : Nat}, n ≤ 1048576 → n ≤ 1000000000 := fun h => Nat.le_trans h (by omega)
  have zs : IdealSz s := ⟨g hS.1.1, g hS.2.2.1.1, fun m hm => g (hS.2.2.2.1.2 m hm).1.2.2.1, fun x hx => g (hS.1.2 x hx).1.2.2.1, fun x hx => g (hS.1.2 x hx).2.1.1.1, fun x hx => g (hS.1.2 x hx).2.1.2.1.1, fun x hx => g (hS.1.2 x hx).2.1.2.2.2.1⟩
  have z : WorldSz a s := ⟨cardSz_c (by omega), zs, g hA.2.2.2.2.2.2.1, fun h hh => g (hA.1.2 h hh).2.2.2.2.2.2.2.2.2.1.1, fun x hx => g (hS.1.2 x hx).2.2.2.1.1⟩
  simp only [to_Card a hA, to_Ideal s hS, bindO_some, specWorld a s z, implWorld a s z, beq_self_eq_true, Bool.not_true, cond_false, eq_Card a (hA.mono (by omega)), eq_Ideal s (hS.mono (by omega))]

end

end Go.Pu
