import Derived.Test.YtclgaiiidllehabGreatPuQuiet
import Derived.Test.YtclgaiiidllehabGreatPuCopy
/- FnExactIsQuiet, the plain law. -/
namespace Go.Pu
open Go.Dn
set_option linter.unusedSimpArgs false

theorem isQuiet_true (a : Host) (ha : In64 THost a) : laws_FnExactIsQuiet a = some true := by
  unfold laws_FnExactIsQuiet
  refine (sz_Host a ha).use (by omega) (by omega) fun hl => ?_
  have hA : LenB 1048576 THost a := szC_len (by omega)
  have z : HostSz a := hostSz_c (by omega)
  simp only [to_Host a hA, bindO_some, specQuiet a z (hA.mono (by omega)), implQuiet a z (hA.mono (by omega)), beq_self_eq_true, Bool.not_true, cond_false, eq_Host a (hA.mono (by omega))]

end Go.Pu
