import Derived.Test.YtjilbinhppledaaPuMark
/- StartMove, CopyRound, NoteChanges: the program's and the reference's answers are one. -/
namespace Go.Pu
open Go.Dn

theorem mark_Memory (a : List Bytes) (h : a.length ≤ 1000000000000) : MarkOk laws_markMemory laws_heldMemory a a.length := by
  intro k hk hm
  obtain ⟨x', h1, h2⟩ := mark_StringS a h k hk hm
  refine ⟨x', by simp only [laws_markMemory, h1, bindO_some], ?_⟩
  simp only [laws_heldMemory, h2, bindO_some]
  rw [decide_eq_false (by omega)]; rfl

theorem mark_Move (v : Move) (h1 : v.1.length ≤ 1000000000000) (h2 : v.2.1.length ≤ 1000000000000) :
    ∀ k : Int, 1 ≤ k → k + (v.1.length + v.2.1.length : Nat) ≤ 1000000000000000 → ∃ p d, laws_markMove v k = some (k + (v.1.length + v.2.1.length : Nat), p, d, v.2.2) ∧ ∀ s, laws_heldMove (p, d, s) k = some (k + (v.1.length + v.2.1.length : Nat)) := by
  intro k hk hm
  obtain ⟨p, a1, a2⟩ := mark_Memory v.1 h1 k hk (by omega)
  obtain ⟨d, b1, b2⟩ := mark_IntS v.2.1 h2 (k + v.1.length) (by omega) (by omega)
  have e : k + (v.1.length : Int) + v.2.1.length = k + (v.1.length + v.2.1.length : Nat) := by omega
  rw [e] at b1 b2
  refine ⟨p, d, by simp only [laws_markMove, a1, b1, bindO_some], fun s => ?_⟩
  simp only [laws_heldMove, a2, bindO_some]
  rw [decide_eq_false (by omega)]
  simp only [cond_false, b2, bindO_some]
  rw [decide_eq_false (by omega)]; rfl

theorem copyMemory_eq (a : List Bytes) (h : a.length ≤ 1073741824) : impl_copyMemory a = some a := by
  simp only [impl_copyMemory, impl_copyStrings]
  rw [room_le (by simpa using h)]; rfl
theorem l16Copy_eq (a : List Bytes) (h : a.length ≤ 1073741824) : spec_l16Copy a = some a := by
  simp only [spec_l16Copy]
  rw [room_le (by simpa using h)]; rfl

theorem startMove_true (a : List Bytes) (ha : In64 (.sl .str) a) : laws_FnExactStartMove a = some true := by
  unfold laws_FnExactStartMove
  refine (sz_Memory a ha).use (by omega) (by omega) fun hl => ?_
  have hA : LenB 1048576 (.sl .str) a := szC_len (by omega)
  have la : a.length ≤ 1048576 := hA.1
  have hi : impl_StartMove a = some (a, ([] : List Int), (a.length : Int)) := by simp only [impl_StartMove, copyMemory_eq a (by omega), bindO_some]
  have hs : spec_StartMove a = some (a, ([] : List Int), (a.length : Int)) := by simp only [spec_StartMove, l16Copy_eq a (by omega), bindO_some]
  have hM : LenB 1000000000000 TMove (a, ([] : List Int), (a.length : Int)) := ⟨hA.mono (by omega), ⟨by simp, by simp⟩, trivial⟩
  obtain ⟨x', m1, m2⟩ := mark_Memory a (by omega) 1 (by omega) (by omega)
  obtain ⟨p, d, n1, n2⟩ := mark_Move (a, ([] : List Int), (a.length : Int)) (by simp; omega) (by simp) 1 (by omega) (by simp; omega)
  simp only [to_Memory a hA, bindO_some, hi, hs, eq_Move _ hM, eq_Memory _ (hA.mono (by omega)), Bool.not_true, cond_false, m1, n1, n2]
  rw [decide_eq_false (by omega)]
  simp only [cond_false, bindO_some]
  rw [decide_eq_false (by omega)]
  simp

end Go.Pu
