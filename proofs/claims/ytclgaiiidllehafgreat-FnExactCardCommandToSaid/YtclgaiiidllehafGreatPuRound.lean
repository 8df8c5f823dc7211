import Derived.Test.YtclgaiiidllehafGreatPuSteer
/- CopyRound: the program's and the reference's results are one. -/
namespace Go.Pu
open Go.Dn
set_option linter.unusedSimpArgs false
set_option linter.unusedVariables false
noncomputable section

theorem copyMemory_eq (a : List Bytes) (h : a.length ≤ 1073741824) : impl_copyMemory a = some a := by
  simp only [impl_copyMemory, impl_copyStrings]
  rw [room_le (by simpa using h)]; rfl
theorem l16Copy_eq (a : List Bytes) (h : a.length ≤ 1073741824) : spec_l16Copy a = some a := by
  simp only [spec_l16Copy]
  rw [room_le (by simpa using h)]; rfl

-- a round of copying
theorem foldK_next {α σ R : Type} (f : σ → α → σ) (fin : σ → Option R) : ∀ (xs : List α) (s : σ), foldK (fun x s k => k (f s x)) fin xs s = fin (xs.foldl f s)
  | [], _ => rfl
  | x :: xs, s => by rw [foldK, List.foldl_cons]; exact foldK_next f fin xs (f s x)

end

end Go.Pu
