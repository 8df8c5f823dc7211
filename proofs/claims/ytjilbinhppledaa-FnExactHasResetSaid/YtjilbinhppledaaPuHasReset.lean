import Derived.Test.YtjilbinhppledaaPuCodec
/- HasReset: the program's and the reference's answers are one. -/
namespace Go.Pu
open Go.Dn

theorem actOk_same (a : Act) : impl_ActOk a = spec_ActOk a := rfl
theorem actOk_some (a : Act) : ∃ b, spec_ActOk a = some b := by
  simp only [spec_ActOk, spec_l01In, cond_some, bindO_some]
  exact ⟨_, rfl⟩

noncomputable def resetB (a : Act) : Bool := (a.1 == 6) && ((spec_ActOk a).getD false)

theorem implHasReset (a : List Act) (h : a.length ≤ 1000000000000) : impl_HasReset a = some (a.any resetB) := by
  unfold impl_HasReset
  rw [any_iter (hit := some true) (fin := some false) resetB a h (fun i hi nx => ?hs) (fun nx => ?hf)]
  case hs =>
    simp only [impl_HasReset_T2]
    rw [decide_eq_true (by omega), idx_lt hi, wrap64 (by omega) (by omega)]
    simp only [cond_true, bindO_some, actOk_same, resetB]
    obtain ⟨b, hb⟩ := actOk_some a[i]
    rw [hb]
    cases (a[i].1 == 6) <;> cases b <;> rfl
  case hf =>
    simp only [impl_HasReset_T2]
    rw [decide_eq_false (by omega)]; rfl
  cases a.any resetB <;> rfl
theorem specHasReset (a : List Act) (h : a.length ≤ 1000000000000) : spec_HasReset a = some (a.any resetB) := by
  unfold spec_HasReset
  rw [any_iter (hit := some true) (fin := some false) resetB a h (fun i hi nx => ?hs) (fun nx => ?hf)]
  case hs =>
    simp only [spec_HasReset_T2]
    rw [decide_eq_true (by omega), idx_lt hi, wrap64 (by omega) (by omega)]
    simp only [cond_true, bindO_some, resetB]
    obtain ⟨b, hb⟩ := actOk_some a[i]
    rw [hb]
    cases (a[i].1 == 6) <;> cases b <;> rfl
  case hf =>
    simp only [spec_HasReset_T2]
    rw [decide_eq_false (by omega)]; rfl
  cases a.any resetB <;> rfl

theorem hasReset_true (a : List Act) (ha : In64 (.sl TAct) a) : laws_FnExactHasReset a = some true := by
  unfold laws_FnExactHasReset
  refine (sz_ActS a ha).use (by omega) (by omega) fun hl => ?_
  have hn : szC (.sl TAct) a ≤ 1048576 := by omega
  have hL : LenB 1048576 (.sl TAct) a := szC_len hn
  have h1 : a.length ≤ 1048576 := hL.1
  rw [to_ActS a hL]
  simp only [bindO_some]
  rw [specHasReset a (by omega), implHasReset a (by omega)]
  simp only [bindO_some, beq_self_eq_true, Bool.not_true, cond_false, eq_ActS a (hL.mono (by omega))]

end Go.Pu
