/- FnExactPortsOf: for every input the law returns true, and each argument reads behind the call as it read before. No condition. -/
import Derived.Test.YtdkhimfkfepnjaaSeat
import Derived.Test.YtdkhimfkfepnjaaPuLawPortsOf
namespace Go.Proofs.Ytdkhimfkfepnjaa.PortsOf
open Go.Dn Go.ChangeShapes Go.WideShapes Go.ChangeAt Go.RowKit

set_option maxRecDepth 100000
theorem own : ownKnob Try.prog.godebug = none := by kernel_rfl
theorem laidOut : laidOutB Try.prog = true := by kernel_rfl
theorem boolTy : Try.prog.underlying 4 = some .bool := by kernel_rfl
theorem reads : Try.f3.params.toList.all (fun t => Try.prog.readableRec t && decide (t < Try.prog.types.size)) = true := by kernel_rfl
theorem ty0 : ctyB Try.prog 6 22 (.sl Pu.TMailbox) = true := by kernel_rfl
theorem ag0 : aggB Try.prog 22 = false := by kernel_rfl
theorem in64 : ∀ {t : CT} {x : t.D}, InR t x → Pu.In64 t x
  | .int _, _, h => h
  | .bool, _, _ => trivial
  | .str, _, h => h
  | .sl _, _, h => ⟨h.1, fun x hx => in64 (h.2 x hx)⟩
  | .pair _ _, _, h => ⟨in64 h.1, in64 h.2⟩

theorem contract (H : Type) (enc : TypeId × Value → H) (W : World) (base : Nat) (args : Array Value) (ds gs : List (DataW H)) (before : List MemPlace)
    (hval : ∀ (j : Nat) t v, Try.f3.params[j]? = some t → args[j]? = some v → Value.okWide Try.prog W .any base t v)
    (hW : DataW.Whole enc Try.prog Try.f3.params.toList Rows.fnExactPortsOfSpec.vars false W args.toList ds gs before) :
    Calls Try.prog 3 args W fun e W' => ∃ v, e = .returned v ∧ Rows.fnExactPortsOfSpec.post enc Try.prog Try.f3 false true false false W args v W' := by
  have hW' := hW
  obtain ⟨p, q, hA0, hV, rfl, hfz, hnd⟩ := hW
  have hA : DataW.TrodAll enc Try.prog W 0 (fun _ => true) true Try.f3.params.toList args.toList ds p := hA0
  rw [Try.params3] at hA hval
  obtain ⟨v0, vs0, d0, ds0, p0, q0, hargs0, rfl, rfl, h0, r0⟩ := trodAll_cons hA
  obtain ⟨rfl, rfl, rfl⟩ := trodAll_nil r0
  obtain rfl : args = #[v0] := by cases args; simp_all
  obtain ⟨rfl, rfl⟩ := trodVars_none hV
  obtain ⟨x0, hx0, hi0⟩ := open_arg ty0 ag0 (hval 0 22 v0 rfl rfl) h0
  have hy : (Fn.e_laws_FnExactPortsOf).fn (argsOf Fn.s_laws_FnExactPortsOf (x0, ())) = some true := (Pu.portsOf_true x0 (in64 hi0))
  refine (law_calls Fn.ok_laws_FnExactPortsOf rfl (vs := [v0]) (xs := argsOf Fn.s_laws_FnExactPortsOf (x0, ())) ⟨hx0, trivial⟩ (y := true) hy rfl).mono fun e W' ⟨he, hb⟩ => ?_
  subst he
  exact ⟨_, rfl, law_post laidOut reads (by kernel_rfl) boolTy rfl rfl hW' hb⟩

theorem lifted (os : Os) (started : os.Started) (H : Type) (enc : TypeId × Value → H) :
    ReturnsInHanded {} Try.checked os 3 .any (Rows.fnExactPortsOfSpec.pre6 enc Try.prog Try.f3 Rows.fnExactPortsOfRow.domain false) (Rows.fnExactPortsOfSpec.post enc Try.prog Try.f3 false true false false) := by
  refine returnsInHanded_of_change (C := Try.checked) own started (by kernel_rfl) Try.func3
    (ChangeSpec.witness6 (enc := enc) (C := Try.checked) false ⟨#[], #[.slice none 0 0], []⟩ 8 (by kernel_rfl) (by kernel_rfl) (by kernel_rfl) (by kernel_rfl)) ?_
  intro W base args ds gs before hval hW _ _
  exact contract H enc W base args ds gs before hval hW

theorem j1 : (Rows.fnExactPortsOfRow.wf (OpenSpec.ofChange Rows.fnExactPortsOfSpec)) = true := by kernel_rfl
theorem j2 : (laidOutB Try.prog) = true := by kernel_rfl
theorem j3 : (mapsRowed Try.prog) = true := by kernel_rfl
theorem j4 : (Try.f3.params.all (Try.prog.readableRec ·)) = true := by kernel_rfl
theorem j5 : (namedTie Try.prog Rows.fnExactPortsOfRow.named Rows.fnExactPortsOfSpec.vars) = true := by kernel_rfl
theorem j6 : (Rows.fnExactPortsOfRow.stops == []) = true := by kernel_rfl
theorem j7 : (Try.prog.stops == []) = true := by kernel_rfl
theorem j8 : (Rows.fnExactPortsOfRow.knobs == []) = true := by kernel_rfl
theorem j9 : (Try.prog.stopKnobs == []) = true := by kernel_rfl
theorem j10 : (Rows.fnExactPortsOfRow.inPlace == Try.prog.inPlace 3) = true := by kernel_rfl
theorem j11 : (Rows.fnExactPortsOfRow.unfollowed == Try.prog.unfollowed 3) = true := by kernel_rfl
theorem j12 : (Rows.fnExactPortsOfRow.recurses == Try.prog.recurses 3) = true := by kernel_rfl
theorem j13 : (Rows.fnExactPortsOfRow.named == Try.prog.varsNamed 3) = true := by kernel_rfl
theorem j14 : (Rows.fnExactPortsOfRow.maps == (Try.f3.params.toList ++ Rows.fnExactPortsOfSpec.plain.varTypes Try.prog).any (Try.prog.mapsRec ·)) = true := by kernel_rfl
theorem j15 : (Rows.fnExactPortsOfRow.ifaces == (Try.f3.params.toList ++ Rows.fnExactPortsOfSpec.plain.varTypes Try.prog).any (Try.prog.ifacesRec ·)) = true := by kernel_rfl
theorem j16 : (Rows.fnExactPortsOfRow.mapsOut == Try.prog.mapsAmong Try.f3.resultTypes.toList) = true := by kernel_rfl
theorem j17 : (Rows.fnExactPortsOfRow.loops == (Try.f3.params.toList ++ Rows.fnExactPortsOfSpec.plain.varTypes Try.prog).any (Try.prog.loopsFrom ·)) = true := by kernel_rfl
theorem j18 : (Rows.fnExactPortsOfRow.wideKeys == (Try.f3.params.toList ++ Rows.fnExactPortsOfSpec.plain.varTypes Try.prog ++ Try.f3.resultTypes.toList).any (Try.prog.wideKeysFrom ·)) = true := by kernel_rfl
theorem j19 : (Rows.fnExactPortsOfSpec.vars.all (Try.prog.varReadable ·)) = true := by kernel_rfl
theorem j20 : (Try.f3.resultTypes.all (fun t => Try.prog.readableRec t && decide (t < Try.prog.types.size))) = true := by kernel_rfl
theorem j21 : (Rows.fnExactPortsOfRow.ifacesOut == Try.f3.resultTypes.toList.any (Try.prog.ifacesRec ·)) = true := by kernel_rfl
theorem j22 : (Rows.fnExactPortsOfRow.loopsOut == Try.f3.resultTypes.toList.any (Try.prog.loopsFrom ·)) = true := by kernel_rfl
theorem j23 : (Rows.fnExactPortsOfRow.plainKeys == Try.prog.plainKeys) = true := by kernel_rfl
theorem j24 : (Rows.fnExactPortsOfRow.shortTexts.isNone) = true := by kernel_rfl
theorem j25 : (Try.prog.stopsHeard) = true := by kernel_rfl
theorem j26 : (Try.prog.mayEnter) = true := by kernel_rfl
theorem j27 : (Rows.fnExactPortsOfRow.lifted == Try.prog.liftsFinal) = true := by kernel_rfl
theorem j28 : (Try.prog.make == some Rows.fnExactPortsOfRow.make) = true := by kernel_rfl
theorem j29 : (Rows.fnExactPortsOfRow.kinds == (if Rows.fnExactPortsOfRow.domain.isEmpty then [] else Try.f3.params.toList.map fun t => match Try.prog.underlying t with | some (.int k) => some k | _ => none)) = true := by kernel_rfl
theorem j30 : (Rows.fnExactPortsOfRow.pinned == Rows.fnExactPortsOfRow.pinnedBy) = true := by kernel_rfl
theorem j31 : (Rows.fnExactPortsOfRow.veiled == (Try.f3.params.toList ++ Rows.fnExactPortsOfSpec.plain.varTypes Try.prog ++ Try.f3.resultTypes.toList).any (Try.prog.veiledRec ·)) = true := by kernel_rfl
theorem j32 : (Rows.fnExactPortsOfRow.veiledFits Try.prog Try.f3.params.toList (Try.f3.params.toList ++ Rows.fnExactPortsOfSpec.plain.varTypes Try.prog ++ Try.f3.resultTypes.toList)) = true := by kernel_rfl
theorem and2 {a b : Bool} (h : a = true) (g : b = true) : (a && b) = true := by rw [h, g]; rfl
theorem closed : joinedFacts Try.prog 3 Try.f3 Rows.fnExactPortsOfSpec Rows.fnExactPortsOfRow = true := by
  unfold joinedFacts
  exact (and2 (and2 (and2 (and2 (and2 (and2 (and2 (and2 (and2 (and2 (and2 (and2 (and2 (and2 (and2 (and2 (and2 (and2 (and2 (and2 (and2 (and2 (and2 (and2 (and2 (and2 (and2 (and2 (and2 (and2 (and2 j1 j2) j3) j4) j5) j6) j7) j8) j9) j10) j11) j12) j13) j14) j15) j16) j17) j18) j19) j20) j21) j22) j23) j24) j25) j26) j27) j28) j29) j30) j31) j32)

theorem proved : Rows.FnExactPortsOfSaid :=
  OpenClaim.holds_of_wide 3 Try.f3 rfl rfl rfl rfl rfl rfl rfl ⟨rfl, rfl, rfl, rfl, rfl⟩ rfl rfl rfl rfl rfl (by kernel_rfl) Try.func3 closed
    (of_decide_eq_true (by kernel_rfl)) (by unfold Func.isWrapper; first | (rw [if_pos (by decide +kernel)]; kernel_rfl) | (rw [if_neg (by decide +kernel)]; exact ⟨rfl, rfl⟩))
    (fun os started H enc _ => lifted os started H enc)

end Go.Proofs.Ytdkhimfkfepnjaa.PortsOf
