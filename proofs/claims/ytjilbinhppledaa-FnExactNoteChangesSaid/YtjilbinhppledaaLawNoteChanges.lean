/- FnExactNoteChanges: for every input the law returns true, and each argument reads behind the call as it read before. No condition. -/
import Derived.Test.YtjilbinhppledaaSeat
import Derived.Test.YtjilbinhppledaaPuNote
namespace Go.Proofs.Ytjilbinhppledaa.NoteChanges
open Go.Dn Go.ChangeShapes Go.WideShapes Go.ChangeAt Go.RowKit

set_option maxRecDepth 100000
theorem own : ownKnob Try.prog.godebug = none := by kernel_rfl
theorem laidOut : laidOutB Try.prog = true := by kernel_rfl
theorem boolTy : Try.prog.underlying 4 = some .bool := by kernel_rfl
theorem reads : Try.f8.params.toList.all (fun t => Try.prog.readableRec t && decide (t < Try.prog.types.size)) = true := by kernel_rfl
theorem ty0 : ctyB Try.prog 5 59 Pu.TMove = true := by kernel_rfl
theorem ag0 : aggB Try.prog 59 = true := by kernel_rfl
theorem ty1 : ctyB Try.prog 5 45 (.sl .str) = true := by kernel_rfl
theorem ag1 : aggB Try.prog 45 = true := by kernel_rfl
theorem ty2 : ctyB Try.prog 5 45 (.sl .str) = true := by kernel_rfl
theorem ag2 : aggB Try.prog 45 = true := by kernel_rfl
theorem in64 : ∀ {t : CT} {x : t.D}, InR t x → Pu.In64 t x
  | .int _, _, h => h
  | .bool, _, _ => trivial
  | .str, _, h => h
  | .sl _, _, h => ⟨h.1, fun x hx => in64 (h.2 x hx)⟩
  | .pair _ _, _, h => ⟨in64 h.1, in64 h.2⟩

theorem contract (H : Type) (enc : TypeId × Value → H) (W : World) (base : Nat) (args : Array Value) (ds gs : List (DataW H)) (before : List MemPlace)
    (hval : ∀ (j : Nat) t v, Try.f8.params[j]? = some t → args[j]? = some v → Value.okWide Try.prog W .any base t v)
    (hW : DataW.Whole enc Try.prog Try.f8.params.toList Rows.fnExactNoteChangesSpec.vars false W args.toList ds gs before) :
    Calls Try.prog 8 args W fun e W' => ∃ v, e = .returned v ∧ Rows.fnExactNoteChangesSpec.post enc Try.prog Try.f8 false true false false W args v W' := by
  have hW' := hW
  obtain ⟨p, q, hA0, hV, rfl, hfz, hnd⟩ := hW
  have hA : DataW.TrodAll enc Try.prog W 0 (fun _ => true) true Try.f8.params.toList args.toList ds p := hA0
  rw [Try.params8] at hA hval
  obtain ⟨v0, vs0, d0, ds0, p0, q0, hargs0, rfl, rfl, h0, r0⟩ := trodAll_cons hA
  obtain ⟨v1, vs1, d1, ds1, p1, q1, hargs1, rfl, rfl, h1, r1⟩ := trodAll_cons r0
  obtain ⟨v2, vs2, d2, ds2, p2, q2, hargs2, rfl, rfl, h2, r2⟩ := trodAll_cons r1
  obtain ⟨rfl, rfl, rfl⟩ := trodAll_nil r2
  obtain rfl : args = #[v0, v1, v2] := by cases args; simp_all
  obtain ⟨rfl, rfl⟩ := trodVars_none hV
  obtain ⟨x0, hx0, hi0⟩ := open_arg ty0 ag0 (hval 0 59 v0 rfl rfl) h0
  obtain ⟨x1, hx1, hi1⟩ := open_arg ty1 ag1 (hval 1 45 v1 rfl rfl) h1
  obtain ⟨x2, hx2, hi2⟩ := open_arg ty2 ag2 (hval 2 45 v2 rfl rfl) h2
  have hy : (Fn.e_laws_FnExactNoteChanges).fn (argsOf Fn.s_laws_FnExactNoteChanges (x0, (x1, (x2, ())))) = some true := (Pu.noteChanges_true x0 x1 x2 (in64 hi0) (in64 hi1) (in64 hi2))
  refine (law_calls Fn.ok_laws_FnExactNoteChanges rfl (vs := [v0, v1, v2]) (xs := argsOf Fn.s_laws_FnExactNoteChanges (x0, (x1, (x2, ())))) ⟨hx0, hx1, hx2, trivial⟩ (y := true) hy rfl).mono fun e W' ⟨he, hb⟩ => ?_
  subst he
  exact ⟨_, rfl, law_post laidOut reads (by kernel_rfl) boolTy rfl rfl hW' hb⟩

theorem lifted (os : Os) (started : os.Started) (H : Type) (enc : TypeId × Value → H) :
    ReturnsInHanded {} Try.checked os 8 .any (Rows.fnExactNoteChangesSpec.pre6 enc Try.prog Try.f8 Rows.fnExactNoteChangesRow.domain false) (Rows.fnExactNoteChangesSpec.post enc Try.prog Try.f8 false true false false) := by
  refine returnsInHanded_of_change (C := Try.checked) own started (by kernel_rfl) Try.func8
    (ChangeSpec.witness6 (enc := enc) (C := Try.checked) false ⟨#[], #[.agg #[.slice none 0 0, .slice none 0 0, .int .i64 0], .agg #[.slice none 0 0], .agg #[.slice none 0 0]], []⟩ 8 (by kernel_rfl) (by kernel_rfl) (by kernel_rfl) (by kernel_rfl)) ?_
  intro W base args ds gs before hval hW _ _
  exact contract H enc W base args ds gs before hval hW

theorem proved : Rows.FnExactNoteChangesSaid :=
  OpenClaim.holds_of_wide 8 Try.f8 rfl rfl rfl rfl rfl rfl rfl ⟨rfl, rfl, rfl, rfl, rfl⟩ rfl rfl rfl rfl rfl (by kernel_rfl) Try.func8 (by kernel_rfl)
    (of_decide_eq_true (by kernel_rfl)) (by unfold Func.isWrapper; first | (rw [if_pos (by decide +kernel)]; kernel_rfl) | (rw [if_neg (by decide +kernel)]; exact ⟨rfl, rfl⟩))
    (fun os started H enc _ => lifted os started H enc)

end Go.Proofs.Ytjilbinhppledaa.NoteChanges
