import Derived.Test.YtdkhimfkfepnjaaPuFns
import Derived.Test.YtdkhimfkfepnjaaPuMarks
/- FnExactPortsOf, the plain law. -/
namespace Go.Pu
open Go.Dn
set_option linter.unusedSimpArgs false

theorem portsOf_true (a : List Mailbox) (ha : In64 (.sl TMailbox) a) : laws_FnExactPortsOf a = some true := by
  unfold laws_FnExactPortsOf
  refine (sz_MailboxS a ha).use (by omega) (by omega) fun hl => ?_
  have hA : LenB 1048576 (.sl TMailbox) a := szC_len (by omega)
  have hv : ∀ m ∈ a, m.1.2.2.length ≤ 1000000000 := fun m hm => Nat.le_trans (hA.2 m hm).1.2.2.1 (by omega)
  have hz := portsR_sm a
  have hR : LenB 1000 (.sl TPort) (portsR a).1 := ⟨by omega, fun p hp => ⟨trivial, ⟨by have := hz.2 p hp; omega, fun _ _ => trivial⟩, trivial, trivial⟩⟩
  have c1 : cnt (.sl TMailbox) a ≤ bnd 1048576 (.sl TMailbox) := cnt_len hA
  have c2 : cnt (.sl TPort) (portsR a).1 ≤ bnd 1000 (.sl TPort) := cnt_len hR
  have b1 : bnd 1048576 (.sl TMailbox) = 1099516870656 := by decide
  have b2 : bnd 1000 (.sl TPort) = 1003000 := by decide
  have m1 := mk_MailboxS a (hA.mono (by omega)) 1 (by omega) (by omega)
  have m2 := mk_PortS _ (hR.mono (by omega)) 1 (by omega) (by omega)
  have m3 := hd_PortS _ (hR.mono (by omega)) 1 (by omega) (by omega)
  simp (disch := omega) only [to_MailboxS a hA, bindO_some, specPortsOf a hv, implPortsOf a hv, eq_PortS _ (hR.mono (by omega)), eq_MailboxS _ (hA.mono (by omega)), beq_self_eq_true, bne_self_eq_false, Bool.not_true, cond_false, m1, m2, m3, dec_neg]

end Go.Pu
