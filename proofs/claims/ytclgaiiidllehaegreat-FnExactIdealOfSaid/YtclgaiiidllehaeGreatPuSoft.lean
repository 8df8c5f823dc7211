import Derived.Test.YtclgaiiidllehaeGreatPuSteer
/- SoftOk: the program's and the reference's answers are one. -/
namespace Go.Pu
open Go.Dn

noncomputable def softB (s : Soft) : Bool := filterB s.1 && steeringB s.2.1 s.2.2.1
end Go.Pu
