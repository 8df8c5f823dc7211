import Derived.Test.YtoickmmiogbhgaaGreatPuSteer
/- SoftOk: the program's and the reference's answers are one. -/
namespace Go.Pu
open Go.Dn

noncomputable def softB (s : Soft) : Bool := filterB s.1 && steeringB s.2.1 s.2.2.1
theorem specSoft (s : Soft) (h0 : s.1.2.2.length ≤ 1000000000) (h1 : s.2.1.1.length ≤ 1000000000) (h2 : s.2.1.2.1.length ≤ 1000000000) (h3 : s.2.1.2.2.2.length ≤ 1000000000) : spec_SoftOk s = some (softB s) := by
  unfold spec_SoftOk softB
  simp only [specFilter _ h0, specSteering _ _ h1 h2 h3, bindO_some, cond_some]
  cases filterB s.1 <;> rfl
theorem implSoft (s : Soft) (h0 : s.1.2.2.length ≤ 1000000000) (h1 : s.2.1.1.length ≤ 1000000000) (h2 : s.2.1.2.1.length ≤ 1000000000) (h3 : s.2.1.2.2.2.length ≤ 1000000000) : impl_SoftOk s = some (softB s) := by
  unfold impl_SoftOk softB
  simp only [implFilter _ h0, implSteering _ _ h1 h2 h3, bindO_some, cond_some]
  cases filterB s.1 <;> rfl

end Go.Pu
