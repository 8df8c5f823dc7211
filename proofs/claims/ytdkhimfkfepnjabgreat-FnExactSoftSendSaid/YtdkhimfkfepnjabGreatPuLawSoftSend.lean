import Derived.Test.YtdkhimfkfepnjabGreatPuFrame
import Derived.Test.YtdkhimfkfepnjabGreatPuCopy
import Derived.Test.YtdkhimfkfepnjabGreatPuSoft
import Derived.Test.YtdkhimfkfepnjabGreatPuMarks
/- FnExactSoftSend, the plain law. -/
namespace Go.Pu
open Go.Dn
set_option linter.unusedSimpArgs false
noncomputable section

theorem specCopySoft (s : Soft) (z : LenB 1000000000 TSoft s) : spec_l40Copy s = some s := by
  simp only [spec_l40Copy, specCopyFilter _ z.1.2.2.1, specCopySteer _ z.2.1.1.1 z.2.1.2.1.1 z.2.1.2.2.2.1, room_nil z.2.2.2.1.1, room_nil z.2.2.2.2.1, bindO_some, List.nil_append]
def softSendR (s : Soft) (p : Packet) (z : Int) : Soft := bif softB s then (s.1, s.2.1, s.2.2.1, s.2.2.2.1, s.2.2.2.2 ++ sendR p z) else s
theorem specSoftSend (s : Soft) (p : Packet) (z : Int) (h : LenB 100000000 TSoft s) : spec_SoftSend s p z = some (softSendR s p z) := by
  have hl := (sendR_len p z).1
  have hs : s.2.2.2.2.length ≤ 100000000 := h.2.2.2.2.1
  have h' : LenB 1000000000 TSoft s := h.mono (by omega)
  simp only [spec_SoftSend, specCopySoft s h', specSoft s h'.1.2.2.1 h'.2.1.1.1 h'.2.1.2.1.1 h'.2.1.2.2.2.1, specSend, bindO_some, softSendR]
  rw [room_le (by omega)]
  cases softB s <;> rfl
theorem implSoftSend (s : Soft) (p : Packet) (z : Int) (h : LenB 100000000 TSoft s) : impl_SoftSend s p z = some (softSendR s p z) := by
  have hl := (sendR_len p z).1
  have hs : s.2.2.2.2.length ≤ 100000000 := h.2.2.2.2.1
  have h' : LenB 1000000000 TSoft s := h.mono (by omega)
  simp only [impl_SoftSend, implCopySoft s h', implSoft s h'.1.2.2.1 h'.2.1.1.1 h'.2.1.2.1.1 h'.2.1.2.2.2.1, implSend, bindO_some, softSendR]
  rw [room_le (by omega)]
  cases softB s <;> rfl
theorem softSendR_len {s : Soft} {n : Nat} (h : LenB n TSoft s) (p : Packet) (z : Int) (hn : 382 ≤ n) : LenB (n + 320) TSoft (softSendR s p z) := by
  have hl := sendR_len p z
  unfold softSendR
  cases softB s with
  | false => exact h.mono (by omega)
  | true =>
    have h' : LenB (n + 320) TSoft s := h.mono (by omega)
    refine ⟨h'.1, h'.2.1, h'.2.2.1, h'.2.2.2.1, ?_, fun x hx => ?_⟩
    · have : s.2.2.2.2.length ≤ n := h.2.2.2.2.1
      show (s.2.2.2.2 ++ sendR p z).length ≤ _
      rw [List.length_append]; omega
    · rcases List.mem_append.1 hx with hx | hx
      · exact h'.2.2.2.2.2 x hx
      · have := hl.2 x hx
        show x.length ≤ _; omega

theorem softSend_true (a : Soft) (p : Packet) (z : Int) (ha : In64 TSoft a) (hp : In64 TPacket p) (hz : In64 (.int .i64) z) : laws_FnExactSoftSend a p z = some true := by
  unfold laws_FnExactSoftSend
  refine (sz_Soft a ha).use (by omega) (by omega) fun hl => ?_
  refine (sz_Packet p hp).use (by omega) (by omega) fun hl2 => ?_
  have hA : LenB 1048576 TSoft a := szC_len (by omega)
  have hP : LenB 1048576 TPacket p := szC_len (by omega)
  have hs := specSoftSend a p z (hA.mono (by omega))
  have hi := implSoftSend a p z (hA.mono (by omega))
  have hR : LenB 1048896 TSoft (softSendR a p z) := softSendR_len hA p z (by omega)
  generalize softSendR a p z = r at hs hi hR
  have c1 : cntT TSoft a ≤ bnd 1048576 TSoft := Nat.le_trans cntT_le (cnt_len hA)
  have c2 : cntT TSoft r ≤ bnd 1048896 TSoft := Nat.le_trans cntT_le (cnt_len hR)
  have b1 : bnd 1048576 TSoft ≤ 100000000000000 := by decide
  have b2 : bnd 1048896 TSoft ≤ 100000000000000 := by decide
  have m1 := mt_Soft a (hA.mono (by omega)) 1 (by omega) (by omega)
  have m2 := mt_Soft r (hR.mono (by omega)) 1 (by omega) (by omega)
  have m3 : ∀ t, t = mkT TSoft r 1 → laws_heldSoft t 1 = some (1 + (cntT TSoft r : Int)) := by rintro _ rfl; exact ht_Soft r (hR.mono (by omega)) 1 (by omega) (by omega)
  simp (disch := omega) only [to_Soft a hA, to_Packet p hP, bindO_some, hs, hi, eq_Soft r (hR.mono (by omega)), eq_Soft a (hA.mono (by omega)), beq_self_eq_true, bne_self_eq_false, Bool.not_true, cond_false, m1, m2, dec_neg]
  rw [m3]
  · simp (disch := omega) only [bindO_some, dec_neg, cond_false, bne_self_eq_false]
  · rfl

end

end Go.Pu
