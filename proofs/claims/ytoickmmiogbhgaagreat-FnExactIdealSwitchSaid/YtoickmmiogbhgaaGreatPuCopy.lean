import Derived.Test.YtoickmmiogbhgaaGreatPuHostOk
import Derived.Test.YtoickmmiogbhgaaGreatPuRound
import Derived.Test.YtoickmmiogbhgaaGreatPuEq
/- Copies of hosts and of their parts are what was copied. -/
namespace Go.Pu
open Go.Dn
set_option linter.unusedSimpArgs false
set_option linter.unusedVariables false
noncomputable section

theorem implCopyStrings (l : List Bytes) (h : l.length ≤ 1000000000) : impl_copyStrings l = some l := by
  simp only [impl_copyStrings, room_nil h, List.nil_append]
theorem implCopyFilter (f : Filter) (h : f.2.2.length ≤ 1000000000) : impl_copyFilter f = some f := by
  simp only [impl_copyFilter, copyInts_eq _ h, bindO_some]
theorem specCopyFilter (f : Filter) (h : f.2.2.length ≤ 1000000000) : spec_l24Copy f = some f := by
  simp only [spec_l24Copy, room_nil h, List.nil_append]
theorem implCopyStreams (l : List Stream) (h : l.length ≤ 1000000000) : impl_copyStreams l = some l := by
  simp only [impl_copyStreams, room_nil h, List.nil_append]
theorem implCopyTable (t : List Slot) (h : t.length ≤ 1000000000) : impl_copyTable t = some t := by
  simp only [impl_copyTable, room_nil h, List.nil_append]
theorem implCopySpread (s : Spread) (h : s.2.length ≤ 1000000000) : impl_copySpread s = some s := by
  simp only [impl_copySpread, copyInts_eq _ h, bindO_some]
theorem implCopySteer (s : Steering) (h1 : s.1.length ≤ 1000000000) (h2 : s.2.1.length ≤ 1000000000) (h3 : s.2.2.2.length ≤ 1000000000) : impl_copySteering s = some s := by
  simp only [impl_copySteering, room_nil h1, implCopyTable _ h2, implCopySpread _ h3, bindO_some, List.nil_append]
theorem specCopyTable (t : List Slot) (h : t.length ≤ 1000000000) : spec_l13Copy t = some t := by
  simp only [spec_l13Copy, room_nil h, List.nil_append]
theorem specCopySteer (s : Steering) (h1 : s.1.length ≤ 1000000000) (h2 : s.2.1.length ≤ 1000000000) (h3 : s.2.2.2.length ≤ 1000000000) : spec_l15Copy s = some s := by
  simp only [spec_l15Copy, room_nil h1, specCopyTable _ h2, room_nil h3, bindO_some, List.nil_append]
-- software hosts
theorem implCopySoft (s : Soft) (z : LenB 1000000000 TSoft s) : impl_copySoft s = some s := by
  simp only [impl_copySoft, implCopyFilter _ z.1.2.2.1, implCopySteer _ z.2.1.1.1 z.2.1.2.1.1 z.2.1.2.2.2.1, implCopyStreams _ z.2.2.2.1.1, implCopyStrings _ z.2.2.2.2.1, bindO_some]
def soft0 : Soft := ((0, false, ([] : List Int)), (([] : List Rule), ([] : List Slot), ([] : Bytes), ([] : List Int)), 0, ([] : List Stream), ([] : List Bytes))
-- FinishMove
end

end Go.Pu
