import Derived.Test.YtdkhimfkfepnjaaPuPorts
import Derived.Test.YtdkhimfkfepnjaaPuEq
import Derived.Test.YtdkhimfkfepnjaaPuSoft
/- Functions of a card: the program's and the reference's answers are one. -/
namespace Go.Pu
open Go.Dn
set_option linter.unusedSimpArgs false
set_option linter.unusedVariables false
noncomputable section

def bucketB (b : Int × Int × Int) : Bool := inB b.1 0 10000 && (inB b.2.1 0 100000 && inB b.2.2 0 b.2.1)
theorem fold_inv : ∀ (ms : List Mailbox) (i : Nat) (s : List Int × List Port), PInv i s → ms.all mailB = true → PInv (i + ms.length) (ms.foldl stepP s)
  | [], i, s, h, _ => h
  | m :: ms, i, s, h, hm => by
    rw [List.all_cons, Bool.and_eq_true] at hm
    have hu := union_len m.1.2.2 s.1
    have hl := mail_len hm.1
    have := fold_inv ms (i + 1) (stepP s m) (h.port hm.1 _ (by omega)) hm.2
    rw [List.foldl_cons, List.length_cons, show i + (ms.length + 1) = i + 1 + ms.length by omega]
    exact this
theorem portsR_sz (ms : List Mailbox) : (portsR ms).1.length ≤ 1000000000 ∧ ∀ p ∈ (portsR ms).1, p.2.1.length ≤ 1000000000 := by
  unfold portsR
  cases hc : inB (ms.length : Int) 1 3 && (ms.all mailB && portsB (portsOf ms)) with
  | false => exact ⟨by simp, by simp⟩
  | true =>
    simp only [Bool.and_eq_true, inB_iff] at hc
    have := fold_inv ms 0 ([0], []) ⟨by simp, rfl, by simp⟩ hc.2.1
    rw [Nat.zero_add] at this
    exact pinv_bounds this (by omega)
theorem portsR_sm (ms : List Mailbox) : (portsR ms).1.length ≤ 4 ∧ ∀ p ∈ (portsR ms).1, p.2.1.length ≤ 28 := by
  unfold portsR
  cases hc : inB (ms.length : Int) 1 3 && (ms.all mailB && portsB (portsOf ms)) with
  | false => exact ⟨by simp, by simp⟩
  | true =>
    simp only [Bool.and_eq_true, inB_iff] at hc
    have h := fold_inv ms 0 ([0], []) ⟨by simp, rfl, by simp⟩ hc.2.1
    rw [Nat.zero_add] at h
    have h1 := h.1
    have h2 := h.2.1
    simp only [cond_true, portsOf]
    refine ⟨by simp only [List.length_cons]; omega, fun p hp => ?_⟩
    rcases List.mem_cons.1 hp with rfl | hp
    · simp only; omega
    · have := h.2.2 p hp; omega

end

end Go.Pu
