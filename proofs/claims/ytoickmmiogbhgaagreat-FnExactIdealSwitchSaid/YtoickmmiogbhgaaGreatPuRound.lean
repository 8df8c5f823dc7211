import Derived.Test.YtoickmmiogbhgaaGreatPuSteer
/- CopyRound: the program's and the reference's results are one. -/
namespace Go.Pu
open Go.Dn
set_option linter.unusedSimpArgs false
set_option linter.unusedVariables false
noncomputable section

-- a round of copying
theorem foldK_next {α σ R : Type} (f : σ → α → σ) (fin : σ → Option R) : ∀ (xs : List α) (s : σ), foldK (fun x s k => k (f s x)) fin xs s = fin (xs.foldl f s)
  | [], _ => rfl
  | x :: xs, s => by rw [foldK, List.foldl_cons]; exact foldK_next f fin xs (f s x)

end

end Go.Pu
