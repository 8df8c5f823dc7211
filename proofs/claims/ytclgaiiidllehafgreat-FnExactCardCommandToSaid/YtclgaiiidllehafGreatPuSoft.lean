import Derived.Test.YtclgaiiidllehafGreatPuSteer
/- SoftOk: the program's and the reference's answers are one. -/
namespace Go.Pu
open Go.Dn

end Go.Pu
