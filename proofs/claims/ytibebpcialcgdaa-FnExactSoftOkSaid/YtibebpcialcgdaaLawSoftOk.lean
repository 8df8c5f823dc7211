/- FnExactSoftOk: for every input the law returns true, and each argument reads behind the call as it read before. No condition. -/
import Derived.Test.YtibebpcialcgdaaSeat
import Derived.Test.YtibebpcialcgdaaPuLawSoftOk
namespace Go.Proofs.Ytibebpcialcgdaa.SoftOk
open Go.Dn Go.ChangeShapes Go.WideShapes Go.ChangeAt Go.RowKit

set_option maxRecDepth 100000
theorem own : ownKnob Try.prog.godebug = none := by kernel_rfl
theorem laidOut : laidOutB Try.prog = true := by kernel_rfl
theorem boolTy : Try.prog.underlying 4 = some .bool := by kernel_rfl
theorem reads : Try.f4.params.toList.all (fun t => Try.prog.readableRec t && decide (t < Try.prog.types.size)) = true := by kernel_rfl
theorem ty0 : ctyB Try.prog 8 48 Pu.TSoft = true := by kernel_rfl
theorem ag0 : aggB Try.prog 48 = true := by kernel_rfl
theorem in64 : ∀ {t : CT} {x : t.D}, InR t x → Pu.In64 t x
  | .int _, _, h => h
  | .bool, _, _ => trivial
  | .str, _, h => h
  | .sl _, _, h => ⟨h.1, fun x hx => in64 (h.2 x hx)⟩
  | .pair _ _, _, h => ⟨in64 h.1, in64 h.2⟩

theorem contract (H : Type) (enc : TypeId × Value → H) (W : World) (base : Nat) (args : Array Value) (ds gs : List (DataW H)) (before : List MemPlace)
    (hval : ∀ (j : Nat) t v, Try.f4.params[j]? = some t → args[j]? = some v → Value.okWide Try.prog W .any base t v)
    (hW : DataW.Whole enc Try.prog Try.f4.params.toList Rows.fnExactSoftOkSpec.vars false W args.toList ds gs before) :
    Calls Try.prog 4 args W fun e W' => ∃ v, e = .returned v ∧ Rows.fnExactSoftOkSpec.post enc Try.prog Try.f4 false true false false W args v W' := by
  have hW' := hW
  obtain ⟨p, q, hA0, hV, rfl, hfz, hnd⟩ := hW
  have hA : DataW.TrodAll enc Try.prog W 0 (fun _ => true) true Try.f4.params.toList args.toList ds p := hA0
  rw [Try.params4] at hA hval
  obtain ⟨v0, vs0, d0, ds0, p0, q0, hargs0, rfl, rfl, h0, r0⟩ := trodAll_cons hA
  obtain ⟨rfl, rfl, rfl⟩ := trodAll_nil r0
  obtain rfl : args = #[v0] := by cases args; simp_all
  obtain ⟨rfl, rfl⟩ := trodVars_none hV
  obtain ⟨x0, hx0, hi0⟩ := open_arg ty0 ag0 (hval 0 48 v0 rfl rfl) h0
  have hy : (Fn.e_laws_FnExactSoftOk).fn (argsOf Fn.s_laws_FnExactSoftOk (x0, ())) = some true := (Pu.softOk_true x0 (in64 hi0))
  refine (law_calls Fn.ok_laws_FnExactSoftOk rfl (vs := [v0]) (xs := argsOf Fn.s_laws_FnExactSoftOk (x0, ())) ⟨hx0, trivial⟩ (y := true) hy rfl).mono fun e W' ⟨he, hb⟩ => ?_
  subst he
  exact ⟨_, rfl, law_post laidOut reads (by kernel_rfl) boolTy rfl rfl hW' hb⟩

theorem lifted (os : Os) (started : os.Started) (H : Type) (enc : TypeId × Value → H) :
    ReturnsInHanded {} Try.checked os 4 .any (Rows.fnExactSoftOkSpec.pre6 enc Try.prog Try.f4 Rows.fnExactSoftOkRow.domain false) (Rows.fnExactSoftOkSpec.post enc Try.prog Try.f4 false true false false) := by
  refine returnsInHanded_of_change (C := Try.checked) own started (by kernel_rfl) Try.func4
    (ChangeSpec.witness6 (enc := enc) (C := Try.checked) false ⟨#[], #[.agg #[.int .i64 0, .bool false, .slice none 0 0, .slice none 0 0, .slice none 0 0, .string ⟨#[]⟩, .slice none 0 0, .int .i64 0, .slice none 0 0, .slice none 0 0]], []⟩ 8 (by kernel_rfl) (by kernel_rfl) (by kernel_rfl) (by kernel_rfl)) ?_
  intro W base args ds gs before hval hW _ _
  exact contract H enc W base args ds gs before hval hW

theorem proved : Rows.FnExactSoftOkSaid :=
  OpenClaim.holds_of_wide 4 Try.f4 rfl rfl rfl rfl rfl rfl rfl ⟨rfl, rfl, rfl, rfl, rfl⟩ rfl rfl rfl rfl rfl (by kernel_rfl) Try.func4 (by kernel_rfl)
    (of_decide_eq_true (by kernel_rfl)) (by unfold Func.isWrapper; first | (rw [if_pos (by decide +kernel)]; kernel_rfl) | (rw [if_neg (by decide +kernel)]; exact ⟨rfl, rfl⟩))
    (fun os started H enc _ => lifted os started H enc)

end Go.Proofs.Ytibebpcialcgdaa.SoftOk
