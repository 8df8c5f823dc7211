import Derived.Test.YtdkhimfkfepnjaaPuLib
import Derived.Test.YtdkhimfkfepnjaaPure
/- The laws' own helpers: they weigh, copy and compare data (made by codec.py). -/
namespace Go.Pu
open Go.Dn
set_option linter.unusedVariables false
set_option linter.unusedSimpArgs false

theorem sz_IntS (a : List Int) (hm : In64 (.sl (.int .i64)) a) : SzOk (laws_szIntS a) (szC (.sl (.int .i64)) a) :=
  (SzOk.flat (n := a.length) hm.1).cast (by simp only [szC]; rw [sum_zero (fun x _ => by simp only [szC])]; rfl)
theorem sz_Filter (a : Filter) (hm : In64 TFilter a) : SzOk (laws_szFilter a) (szC TFilter a) :=
  SzOk.cast (f := laws_szFilter a) (SzOk.sub (sz_IntS a.2.2 hm.2.2) SzOk.nil) (by simp only [szC]; try omega)
theorem sz_Mailbox (a : Mailbox) (hm : In64 TMailbox a) : SzOk (laws_szMailbox a) (szC TMailbox a) :=
  SzOk.cast (f := laws_szMailbox a) (SzOk.sub (sz_Filter a.1 hm.1) SzOk.nil) (by simp only [szC]; try omega)
theorem sz_MailboxS (a : List Mailbox) (hm : In64 (.sl TMailbox) a) : SzOk (laws_szMailboxS a) (szC (.sl TMailbox) a) :=
  SzOk.list (f := laws_szMailbox) (s := szC TMailbox) hm.1 (fun x hx => sz_Mailbox x (hm.2 x hx))
theorem to_IntS (a : List Int) (h : LenB 1048576 (.sl (.int .i64)) a) : laws_toIntS a = some a :=
  toFlatG_id (z := 0) (Nat.le_trans h.1 (by omega))
theorem to_Filter (a : Filter) (h : LenB 1048576 TFilter a) : laws_toFilter a = some a := by
  first | (simp only [laws_toFilter, to_IntS _ h.2.2, bindO_some]; done) | (simp only [laws_toFilter, to_IntS _ h.2.2, bindO_some]; rfl)
theorem to_Mailbox (a : Mailbox) (h : LenB 1048576 TMailbox a) : laws_toMailbox a = some a := by
  first | (simp only [laws_toMailbox, to_Filter _ h.1, bindO_some]; done) | (simp only [laws_toMailbox, to_Filter _ h.1, bindO_some]; rfl)
theorem to_MailboxS (a : List Mailbox) (h : LenB 1048576 (.sl TMailbox) a) : laws_toMailboxS a = some a :=
  toListG_id (f := laws_toMailbox) (z := ((0, false, ([] : List Int)), 0, 0, 0)) (Nat.le_trans h.1 (by omega)) (fun x hx => to_Mailbox x (h.2 x hx))
theorem eq_IntS (a : List Int) (h : LenB 1000000000000 (.sl (.int .i64)) a) : laws_eqIntS a a = some true :=
  eqFlatG_self h.1
theorem eq_Port (a : Port) (h : LenB 1000000000000 TPort a) : laws_eqPort a a = some true := by
  simp [laws_eqPort, eq_IntS _ h.2.1]
theorem eq_PortS (a : List Port) (h : LenB 1000000000000 (.sl TPort) a) : laws_eqPortS a a = some true :=
  eqListG_self (f := laws_eqPort) h.1 (fun x hx => eq_Port x (h.2 x hx))
theorem eq_Filter (a : Filter) (h : LenB 1000000000000 TFilter a) : laws_eqFilter a a = some true := by
  simp [laws_eqFilter, eq_IntS _ h.2.2]
theorem eq_Mailbox (a : Mailbox) (h : LenB 1000000000000 TMailbox a) : laws_eqMailbox a a = some true := by
  simp [laws_eqMailbox, eq_Filter _ h.1]
theorem eq_MailboxS (a : List Mailbox) (h : LenB 1000000000000 (.sl TMailbox) a) : laws_eqMailboxS a a = some true :=
  eqListG_self (f := laws_eqMailbox) h.1 (fun x hx => eq_Mailbox x (h.2 x hx))

end Go.Pu
