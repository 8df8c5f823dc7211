import Derived.Test.YtibebpcialcgdaaDnSig
import Derived.Test.YtibebpcialcgdaaPure
import Derived.Test.YtibebpcialcgdaaRows
/- Each function of the program is its pure function (made by gen.py). -/
namespace Go.Proofs.Ytibebpcialcgdaa.Fn
open Go.Dn
open Go.Pu (TFilter TRule TFlow TSlot TSpread TSteering TStream TSoft)
def E : Env := { ty := [(3, ⟨false, (.int .i64), []⟩),
  (4, ⟨false, .bool, []⟩),
  (9, ⟨false, .str, []⟩),
  (34, ⟨false, (.sl (.int .i64)), [(3, 0)]⟩),
  (36, ⟨true, TFilter, [(0, 1), (1, 1), (2, 1)]⟩),
  (37, ⟨false, (.sl TRule), [(130, 0)]⟩),
  (38, ⟨false, (.sl TSlot), [(140, 0)]⟩),
  (40, ⟨true, (.sl TSlot), [(0, 1)]⟩),
  (42, ⟨true, TSpread, [(0, 1), (1, 1)]⟩),
  (44, ⟨true, TSteering, [(0, 1), (1, 1), (2, 2)]⟩),
  (45, ⟨false, (.sl TStream), [(105, 0)]⟩),
  (46, ⟨false, (.sl .str), [(9, 0)]⟩),
  (48, ⟨true, TSoft, [(0, 3), (3, 4), (7, 1), (8, 1), (9, 1)]⟩),
  (51, ⟨true, TFilter, [(0, 1), (1, 1), (2, 1)]⟩),
  (52, ⟨false, (.sl TRule), [(110, 0)]⟩),
  (53, ⟨false, (.sl TSlot), [(113, 0)]⟩),
  (55, ⟨true, (.sl TSlot), [(0, 1)]⟩),
  (56, ⟨true, TSpread, [(0, 1), (1, 1)]⟩),
  (58, ⟨true, TSteering, [(0, 1), (1, 1), (2, 2)]⟩),
  (59, ⟨false, (.sl TStream), [(119, 0)]⟩),
  (61, ⟨true, TSoft, [(0, 3), (3, 4), (7, 1), (8, 1), (9, 1)]⟩),
  (103, ⟨true, TFlow, [(0, 1), (1, 1), (2, 1), (3, 1), (4, 1)]⟩),
  (105, ⟨true, TStream, [(0, 5), (5, 1), (6, 1), (7, 1)]⟩),
  (110, ⟨true, TRule, [(0, 1), (1, 1), (2, 1), (3, 1), (4, 1), (5, 1), (6, 1), (7, 1), (8, 1)]⟩),
  (111, ⟨true, TFlow, [(0, 1), (1, 1), (2, 1), (3, 1), (4, 1)]⟩),
  (113, ⟨true, TSlot, [(0, 1), (1, 5), (6, 1)]⟩),
  (119, ⟨true, TStream, [(0, 5), (5, 1), (6, 1), (7, 1)]⟩),
  (130, ⟨true, TRule, [(0, 1), (1, 1), (2, 1), (3, 1), (4, 1), (5, 1), (6, 1), (7, 1), (8, 1)]⟩),
  (140, ⟨true, TSlot, [(0, 1), (1, 5), (6, 1)]⟩)], eqs := [(111, [.int, .int, .int, .int, .int])] }
set_option maxRecDepth 100000
theorem base : Sound Try.prog E Gam.nil := Sound.nil (lookE_ok (by kernel_rfl)) (lookQ_ok (by kernel_rfl)) (by kernel_rfl)
@[reducible] def s_laws_szIntS : List PS := [.data false (.sl (.int .i64)), .data false (.int .i64)]
@[reducible] def r_laws_szIntS : List (Bool × FT) := [(false, (.int .i64))]
noncomputable def F_laws_szIntS (a : Args s_laws_szIntS) : Option (resD r_laws_szIntS) := Pu.laws_szIntS a.1 a.2.1
noncomputable def e_laws_szIntS : GEnt := entOf s_laws_szIntS r_laws_szIntS F_laws_szIntS
noncomputable def g_laws_szIntS : Gam := Gam.nil
theorem S_laws_szIntS : Sound Try.prog E g_laws_szIntS := base
def n_laws_szIntS : An := {  }
noncomputable def L_laws_szIntS : Lam := Lam.nil
theorem h_laws_szIntS : ∀ c ∈ loopsOf (Try.f54.body.getD .skip), LOk E g_laws_szIntS n_laws_szIntS L_laws_szIntS c := by
  have e : loopsOf (Try.f54.body.getD .skip) = [] := by kernel_rfl
  rw [e]; simp
theorem ok_laws_szIntS : FnOk Try.prog 54 e_laws_szIntS := FnOk.of (fnOk S_laws_szIntS Try.func54 (by kernel_rfl) h_laws_szIntS) (fun a => by kernel_rfl)
@[reducible] def s_laws_szFilter : List PS := [.data true TFilter, .data false (.int .i64)]
@[reducible] def r_laws_szFilter : List (Bool × FT) := [(false, (.int .i64))]
noncomputable def F_laws_szFilter (a : Args s_laws_szFilter) : Option (resD r_laws_szFilter) := Pu.laws_szFilter a.1 a.2.1
noncomputable def e_laws_szFilter : GEnt := entOf s_laws_szFilter r_laws_szFilter F_laws_szFilter
noncomputable def g_laws_szFilter : Gam := (Gam.nil).add 54 e_laws_szIntS
theorem S_laws_szFilter : Sound Try.prog E g_laws_szFilter := (base).add ok_laws_szIntS
def n_laws_szFilter : An := {  }
noncomputable def L_laws_szFilter : Lam := Lam.nil
theorem h_laws_szFilter : ∀ c ∈ loopsOf (Try.f34.body.getD .skip), LOk E g_laws_szFilter n_laws_szFilter L_laws_szFilter c := by
  have e : loopsOf (Try.f34.body.getD .skip) = [] := by kernel_rfl
  rw [e]; simp
theorem ok_laws_szFilter : FnOk Try.prog 34 e_laws_szFilter := FnOk.of (fnOk S_laws_szFilter Try.func34 (by kernel_rfl) h_laws_szFilter) (fun a => by kernel_rfl)
@[reducible] def s_laws_szRuleS : List PS := [.data false (.sl TRule), .data false (.int .i64)]
@[reducible] def r_laws_szRuleS : List (Bool × FT) := [(false, (.int .i64))]
noncomputable def F_laws_szRuleS (a : Args s_laws_szRuleS) : Option (resD r_laws_szRuleS) := Pu.laws_szRuleS a.1 a.2.1
noncomputable def e_laws_szRuleS : GEnt := entOf s_laws_szRuleS r_laws_szRuleS F_laws_szRuleS
noncomputable def g_laws_szRuleS : Gam := Gam.nil
theorem S_laws_szRuleS : Sound Try.prog E g_laws_szRuleS := base
def n_laws_szRuleS : An := {  }
noncomputable def L_laws_szRuleS : Lam := Lam.nil
theorem h_laws_szRuleS : ∀ c ∈ loopsOf (Try.f55.body.getD .skip), LOk E g_laws_szRuleS n_laws_szRuleS L_laws_szRuleS c := by
  have e : loopsOf (Try.f55.body.getD .skip) = [] := by kernel_rfl
  rw [e]; simp
theorem ok_laws_szRuleS : FnOk Try.prog 55 e_laws_szRuleS := FnOk.of (fnOk S_laws_szRuleS Try.func55 (by kernel_rfl) h_laws_szRuleS) (fun a => by kernel_rfl)
@[reducible] def s_laws_szSlotS : List PS := [.data false (.sl TSlot), .data false (.int .i64)]
@[reducible] def r_laws_szSlotS : List (Bool × FT) := [(false, (.int .i64))]
noncomputable def F_laws_szSlotS (a : Args s_laws_szSlotS) : Option (resD r_laws_szSlotS) := Pu.laws_szSlotS a.1 a.2.1
noncomputable def e_laws_szSlotS : GEnt := entOf s_laws_szSlotS r_laws_szSlotS F_laws_szSlotS
noncomputable def g_laws_szSlotS : Gam := Gam.nil
theorem S_laws_szSlotS : Sound Try.prog E g_laws_szSlotS := base
def n_laws_szSlotS : An := {  }
noncomputable def L_laws_szSlotS : Lam := Lam.nil
theorem h_laws_szSlotS : ∀ c ∈ loopsOf (Try.f74.body.getD .skip), LOk E g_laws_szSlotS n_laws_szSlotS L_laws_szSlotS c := by
  have e : loopsOf (Try.f74.body.getD .skip) = [] := by kernel_rfl
  rw [e]; simp
theorem ok_laws_szSlotS : FnOk Try.prog 74 e_laws_szSlotS := FnOk.of (fnOk S_laws_szSlotS Try.func74 (by kernel_rfl) h_laws_szSlotS) (fun a => by kernel_rfl)
@[reducible] def s_laws_szFlowTable : List PS := [.data true (.sl TSlot), .data false (.int .i64)]
@[reducible] def r_laws_szFlowTable : List (Bool × FT) := [(false, (.int .i64))]
noncomputable def F_laws_szFlowTable (a : Args s_laws_szFlowTable) : Option (resD r_laws_szFlowTable) := Pu.laws_szFlowTable a.1 a.2.1
noncomputable def e_laws_szFlowTable : GEnt := entOf s_laws_szFlowTable r_laws_szFlowTable F_laws_szFlowTable
noncomputable def g_laws_szFlowTable : Gam := (Gam.nil).add 74 e_laws_szSlotS
theorem S_laws_szFlowTable : Sound Try.prog E g_laws_szFlowTable := (base).add ok_laws_szSlotS
def n_laws_szFlowTable : An := {  }
noncomputable def L_laws_szFlowTable : Lam := Lam.nil
theorem h_laws_szFlowTable : ∀ c ∈ loopsOf (Try.f56.body.getD .skip), LOk E g_laws_szFlowTable n_laws_szFlowTable L_laws_szFlowTable c := by
  have e : loopsOf (Try.f56.body.getD .skip) = [] := by kernel_rfl
  rw [e]; simp
theorem ok_laws_szFlowTable : FnOk Try.prog 56 e_laws_szFlowTable := FnOk.of (fnOk S_laws_szFlowTable Try.func56 (by kernel_rfl) h_laws_szFlowTable) (fun a => by kernel_rfl)
@[reducible] def s_laws_szSpread : List PS := [.data true TSpread, .data false (.int .i64)]
@[reducible] def r_laws_szSpread : List (Bool × FT) := [(false, (.int .i64))]
noncomputable def F_laws_szSpread (a : Args s_laws_szSpread) : Option (resD r_laws_szSpread) := Pu.laws_szSpread a.1 a.2.1
noncomputable def e_laws_szSpread : GEnt := entOf s_laws_szSpread r_laws_szSpread F_laws_szSpread
noncomputable def g_laws_szSpread : Gam := (Gam.nil).add 54 e_laws_szIntS
theorem S_laws_szSpread : Sound Try.prog E g_laws_szSpread := (base).add ok_laws_szIntS
def n_laws_szSpread : An := {  }
noncomputable def L_laws_szSpread : Lam := Lam.nil
theorem h_laws_szSpread : ∀ c ∈ loopsOf (Try.f57.body.getD .skip), LOk E g_laws_szSpread n_laws_szSpread L_laws_szSpread c := by
  have e : loopsOf (Try.f57.body.getD .skip) = [] := by kernel_rfl
  rw [e]; simp
theorem ok_laws_szSpread : FnOk Try.prog 57 e_laws_szSpread := FnOk.of (fnOk S_laws_szSpread Try.func57 (by kernel_rfl) h_laws_szSpread) (fun a => by kernel_rfl)
@[reducible] def s_laws_szSteering : List PS := [.data true TSteering, .data false (.int .i64)]
@[reducible] def r_laws_szSteering : List (Bool × FT) := [(false, (.int .i64))]
noncomputable def F_laws_szSteering (a : Args s_laws_szSteering) : Option (resD r_laws_szSteering) := Pu.laws_szSteering a.1 a.2.1
noncomputable def e_laws_szSteering : GEnt := entOf s_laws_szSteering r_laws_szSteering F_laws_szSteering
noncomputable def g_laws_szSteering : Gam := (((Gam.nil).add 55 e_laws_szRuleS).add 56 e_laws_szFlowTable).add 57 e_laws_szSpread
theorem S_laws_szSteering : Sound Try.prog E g_laws_szSteering := (((base).add ok_laws_szRuleS).add ok_laws_szFlowTable).add ok_laws_szSpread
def n_laws_szSteering : An := {  }
noncomputable def L_laws_szSteering : Lam := Lam.nil
theorem h_laws_szSteering : ∀ c ∈ loopsOf (Try.f35.body.getD .skip), LOk E g_laws_szSteering n_laws_szSteering L_laws_szSteering c := by
  have e : loopsOf (Try.f35.body.getD .skip) = [] := by kernel_rfl
  rw [e]; simp
theorem ok_laws_szSteering : FnOk Try.prog 35 e_laws_szSteering := FnOk.of (fnOk S_laws_szSteering Try.func35 (by kernel_rfl) h_laws_szSteering) (fun a => by kernel_rfl)
@[reducible] def s_laws_szStream : List PS := [.data true TStream, .data false (.int .i64)]
@[reducible] def r_laws_szStream : List (Bool × FT) := [(false, (.int .i64))]
noncomputable def F_laws_szStream (a : Args s_laws_szStream) : Option (resD r_laws_szStream) := Pu.laws_szStream a.1 a.2.1
noncomputable def e_laws_szStream : GEnt := entOf s_laws_szStream r_laws_szStream F_laws_szStream
noncomputable def g_laws_szStream : Gam := Gam.nil
theorem S_laws_szStream : Sound Try.prog E g_laws_szStream := base
def n_laws_szStream : An := {  }
noncomputable def L_laws_szStream : Lam := Lam.nil
theorem h_laws_szStream : ∀ c ∈ loopsOf (Try.f58.body.getD .skip), LOk E g_laws_szStream n_laws_szStream L_laws_szStream c := by
  have e : loopsOf (Try.f58.body.getD .skip) = [] := by kernel_rfl
  rw [e]; simp
theorem ok_laws_szStream : FnOk Try.prog 58 e_laws_szStream := FnOk.of (fnOk S_laws_szStream Try.func58 (by kernel_rfl) h_laws_szStream) (fun a => by kernel_rfl)
@[reducible] def s_laws_szStreamS : List PS := [.data false (.sl TStream), .data false (.int .i64)]
@[reducible] def r_laws_szStreamS : List (Bool × FT) := [(false, (.int .i64))]
noncomputable def F_laws_szStreamS (a : Args s_laws_szStreamS) : Option (resD r_laws_szStreamS) := Pu.laws_szStreamS a.1 a.2.1
noncomputable def e_laws_szStreamS : GEnt := entOf s_laws_szStreamS r_laws_szStreamS F_laws_szStreamS
noncomputable def g_laws_szStreamS : Gam := (Gam.nil).add 58 e_laws_szStream
theorem S_laws_szStreamS : Sound Try.prog E g_laws_szStreamS := (base).add ok_laws_szStream
def n_laws_szStreamS : An := { mask := fun | 5 => [0, 1, 4, 5] | _ => [] }
@[reducible] def d_laws_szStreamS_5 : SD := ⟨[.data false (.sl .arg TStream), .data false (.int .i64), .bot, .bot, .data false (.int .i64), .data false (.int .i64), .bot, .bot, .bot, .bot, .bot, .bot, .bot, .bot, .bot, .bot, .bot, .bot, .bot, .bot, .bot, .bot, .bot, .bot, .bot, .bot, .bot], [none, none, none, none, none, none, none, none, none, none, none, none, none, none, none, none, none, none, none, none, none, none, none, none, none, none, none], none⟩
@[reducible] def d_laws_szStreamS_5_x0 : SD := ⟨[.data false (.sl .arg TStream), .data false (.int .i64), .bot, .bot, .data false (.int .i64), .data false (.int .i64), .bot, .bot, .bot, .bot, .bot, .bot, .bot, .bot, .bot, .bot, .bot, .bot, .bot, .bot, .bot, .bot, .bot, .bot, .bot, .bot, .bot], [none, none, none, none, none, none, none, none, none, none, none, none, none, none, none, none, none, none, none, none, none, none, none, none, none, none, none], none⟩
@[reducible] def d_laws_szStreamS_5_ret : SD := ⟨[.data false (.sl .arg TStream), .data false (.int .i64), .bot, .bot, .data false (.int .i64), .data false (.int .i64), .bot, .bot, .bot, .bot, .bot, .bot, .bot, .bot, .bot, .bot, .bot, .bot, .bot, .bot, .bot, .bot, .bot, .bot, .bot, .bot, .bot], [none, none, none, none, none, none, none, none, none, none, none, none, none, none, none, none, none, none, none, none, none, none, none, none, none, none, none], none⟩
noncomputable def l_laws_szStreamS_5 : LEnt := ⟨d_laws_szStreamS_5, fun X K => iterL (Pu.laws_szStreamS_T5 (fun y0 y1 => K (.exit 0) (SD.enc d_laws_szStreamS_5_x0 (((X.1.1), (y0, ((X.1.2.2.1), (y1, ())))), (), ()))) (fun y0 y1 y2 => K .ret (SD.enc d_laws_szStreamS_5_ret (((X.1.1), (y0, (y1, (y2, ())))), (), ()))) X.1.1 X.1.2.2.1) fuel (X.1.2.1, X.1.2.2.2.1)⟩
noncomputable def L_laws_szStreamS : Lam := (Lam.nil).add 5 l_laws_szStreamS_5
theorem lok_laws_szStreamS_5 : LOk E g_laws_szStreamS n_laws_szStreamS L_laws_szStreamS (loopBody Try.f36 0) :=
  lok l_laws_szStreamS_5 (by kernel_rfl) fuel fun R X K => (loop_iter (σ := Int × Int) (fun x => SD.enc d_laws_szStreamS_5 ((X.1.1, (x.1, (X.1.2.2.1, (x.2, ())))), (), ())) (Pu.laws_szStreamS_T5 (fun y0 y1 => K (.exit 0) (SD.enc d_laws_szStreamS_5_x0 (((X.1.1), (y0, ((X.1.2.2.1), (y1, ())))), (), ()))) (fun y0 y1 y2 => K .ret (SD.enc d_laws_szStreamS_5_ret (((X.1.1), (y0, (y1, (y2, ())))), (), ()))) X.1.1 X.1.2.2.1) (fun m x => by kernel_rfl) fuel (X.1.2.1, X.1.2.2.2.1)).symm
theorem h_laws_szStreamS : ∀ c ∈ loopsOf (Try.f36.body.getD .skip), LOk E g_laws_szStreamS n_laws_szStreamS L_laws_szStreamS c := by
  have e : loopsOf (Try.f36.body.getD .skip) = [loopBody Try.f36 0] := by kernel_rfl
  rw [e]; simp only [List.forall_mem_cons]; exact ⟨lok_laws_szStreamS_5, by simp⟩
theorem ok_laws_szStreamS : FnOk Try.prog 36 e_laws_szStreamS := FnOk.of (fnOk S_laws_szStreamS Try.func36 (by kernel_rfl) h_laws_szStreamS) (fun a => by kernel_rfl)
@[reducible] def s_laws_szStringS : List PS := [.data false (.sl .str), .data false (.int .i64)]
@[reducible] def r_laws_szStringS : List (Bool × FT) := [(false, (.int .i64))]
noncomputable def F_laws_szStringS (a : Args s_laws_szStringS) : Option (resD r_laws_szStringS) := Pu.laws_szStringS a.1 a.2.1
noncomputable def e_laws_szStringS : GEnt := entOf s_laws_szStringS r_laws_szStringS F_laws_szStringS
noncomputable def g_laws_szStringS : Gam := Gam.nil
theorem S_laws_szStringS : Sound Try.prog E g_laws_szStringS := base
def n_laws_szStringS : An := { mask := fun | 5 => [0, 1, 4, 5] | _ => [] }
@[reducible] def d_laws_szStringS_5 : SD := ⟨[.data false (.sl .arg .str), .data false (.int .i64), .bot, .bot, .data false (.int .i64), .data false (.int .i64), .bot, .bot, .bot, .bot, .bot, .bot, .bot, .bot, .bot, .bot, .bot, .bot, .bot, .bot, .bot, .bot, .bot, .bot, .bot, .bot, .bot, .bot], [none, none, none, none, none, none, none, none, none, none, none, none, none, none, none, none, none, none, none, none, none, none, none, none, none, none, none, none], none⟩
@[reducible] def d_laws_szStringS_5_x0 : SD := ⟨[.data false (.sl .arg .str), .data false (.int .i64), .bot, .bot, .data false (.int .i64), .data false (.int .i64), .bot, .bot, .bot, .bot, .bot, .bot, .bot, .bot, .bot, .bot, .bot, .bot, .bot, .bot, .bot, .bot, .bot, .bot, .bot, .bot, .bot, .bot], [none, none, none, none, none, none, none, none, none, none, none, none, none, none, none, none, none, none, none, none, none, none, none, none, none, none, none, none], none⟩
@[reducible] def d_laws_szStringS_5_ret : SD := ⟨[.data false (.sl .arg .str), .data false (.int .i64), .bot, .bot, .data false (.int .i64), .data false (.int .i64), .bot, .bot, .bot, .bot, .bot, .bot, .bot, .bot, .bot, .bot, .bot, .bot, .bot, .bot, .bot, .bot, .bot, .bot, .bot, .bot, .bot, .bot], [none, none, none, none, none, none, none, none, none, none, none, none, none, none, none, none, none, none, none, none, none, none, none, none, none, none, none, none], none⟩
noncomputable def l_laws_szStringS_5 : LEnt := ⟨d_laws_szStringS_5, fun X K => iterL (Pu.laws_szStringS_T5 (fun y0 y1 => K (.exit 0) (SD.enc d_laws_szStringS_5_x0 (((X.1.1), (y0, ((X.1.2.2.1), (y1, ())))), (), ()))) (fun y0 y1 y2 => K .ret (SD.enc d_laws_szStringS_5_ret (((X.1.1), (y0, (y1, (y2, ())))), (), ()))) X.1.1 X.1.2.2.1) fuel (X.1.2.1, X.1.2.2.2.1)⟩
noncomputable def L_laws_szStringS : Lam := (Lam.nil).add 5 l_laws_szStringS_5
theorem lok_laws_szStringS_5 : LOk E g_laws_szStringS n_laws_szStringS L_laws_szStringS (loopBody Try.f37 0) :=
  lok l_laws_szStringS_5 (by kernel_rfl) fuel fun R X K => (loop_iter (σ := Int × Int) (fun x => SD.enc d_laws_szStringS_5 ((X.1.1, (x.1, (X.1.2.2.1, (x.2, ())))), (), ())) (Pu.laws_szStringS_T5 (fun y0 y1 => K (.exit 0) (SD.enc d_laws_szStringS_5_x0 (((X.1.1), (y0, ((X.1.2.2.1), (y1, ())))), (), ()))) (fun y0 y1 y2 => K .ret (SD.enc d_laws_szStringS_5_ret (((X.1.1), (y0, (y1, (y2, ())))), (), ()))) X.1.1 X.1.2.2.1) (fun m x => by kernel_rfl) fuel (X.1.2.1, X.1.2.2.2.1)).symm
theorem h_laws_szStringS : ∀ c ∈ loopsOf (Try.f37.body.getD .skip), LOk E g_laws_szStringS n_laws_szStringS L_laws_szStringS c := by
  have e : loopsOf (Try.f37.body.getD .skip) = [loopBody Try.f37 0] := by kernel_rfl
  rw [e]; simp only [List.forall_mem_cons]; exact ⟨lok_laws_szStringS_5, by simp⟩
theorem ok_laws_szStringS : FnOk Try.prog 37 e_laws_szStringS := FnOk.of (fnOk S_laws_szStringS Try.func37 (by kernel_rfl) h_laws_szStringS) (fun a => by kernel_rfl)
@[reducible] def s_laws_szSoft : List PS := [.data true TSoft, .data false (.int .i64)]
@[reducible] def r_laws_szSoft : List (Bool × FT) := [(false, (.int .i64))]
noncomputable def F_laws_szSoft (a : Args s_laws_szSoft) : Option (resD r_laws_szSoft) := Pu.laws_szSoft a.1 a.2.1
noncomputable def e_laws_szSoft : GEnt := entOf s_laws_szSoft r_laws_szSoft F_laws_szSoft
noncomputable def g_laws_szSoft : Gam := ((((Gam.nil).add 34 e_laws_szFilter).add 35 e_laws_szSteering).add 36 e_laws_szStreamS).add 37 e_laws_szStringS
theorem S_laws_szSoft : Sound Try.prog E g_laws_szSoft := ((((base).add ok_laws_szFilter).add ok_laws_szSteering).add ok_laws_szStreamS).add ok_laws_szStringS
def n_laws_szSoft : An := {  }
noncomputable def L_laws_szSoft : Lam := Lam.nil
theorem h_laws_szSoft : ∀ c ∈ loopsOf (Try.f14.body.getD .skip), LOk E g_laws_szSoft n_laws_szSoft L_laws_szSoft c := by
  have e : loopsOf (Try.f14.body.getD .skip) = [] := by kernel_rfl
  rw [e]; simp
theorem ok_laws_szSoft : FnOk Try.prog 14 e_laws_szSoft := FnOk.of (fnOk S_laws_szSoft Try.func14 (by kernel_rfl) h_laws_szSoft) (fun a => by kernel_rfl)
@[reducible] def s_spec_l01In : List PS := [.data false (.int .i64), .data false (.int .i64), .data false (.int .i64)]
@[reducible] def r_spec_l01In : List (Bool × FT) := [(false, .bool)]
noncomputable def F_spec_l01In (a : Args s_spec_l01In) : Option (resD r_spec_l01In) := Pu.spec_l01In a.1 a.2.1 a.2.2.1
noncomputable def e_spec_l01In : GEnt := entOf s_spec_l01In r_spec_l01In F_spec_l01In
noncomputable def g_spec_l01In : Gam := Gam.nil
theorem S_spec_l01In : Sound Try.prog E g_spec_l01In := base
def n_spec_l01In : An := { merge := fun | 1 => some 6 | _ => none }
noncomputable def L_spec_l01In : Lam := Lam.nil
theorem h_spec_l01In : ∀ c ∈ loopsOf (Try.f20.body.getD .skip), LOk E g_spec_l01In n_spec_l01In L_spec_l01In c := by
  have e : loopsOf (Try.f20.body.getD .skip) = [] := by kernel_rfl
  rw [e]; simp
theorem ok_spec_l01In : FnOk Try.prog 20 e_spec_l01In := FnOk.of (fnOk S_spec_l01In Try.func20 (by kernel_rfl) h_spec_l01In) (fun a => by kernel_rfl)
@[reducible] def s_spec_FilterOk : List PS := [.data true TFilter]
@[reducible] def r_spec_FilterOk : List (Bool × FT) := [(false, .bool)]
noncomputable def F_spec_FilterOk (a : Args s_spec_FilterOk) : Option (resD r_spec_FilterOk) := Pu.spec_FilterOk a.1
noncomputable def e_spec_FilterOk : GEnt := entOf s_spec_FilterOk r_spec_FilterOk F_spec_FilterOk
noncomputable def g_spec_FilterOk : Gam := (Gam.nil).add 20 e_spec_l01In
theorem S_spec_FilterOk : Sound Try.prog E g_spec_FilterOk := (base).add ok_spec_l01In
def n_spec_FilterOk : An := { mask := fun | 2 => [1, 2, 3] | _ => [], merge := fun | 4 => some 35 | 6 => some 2 | _ => none }
@[reducible] def d_spec_FilterOk_2 : SD := ⟨[.bot, .ptr 1 0, .data false .bool, .data false (.int .i64), .bot, .bot, .bot, .bot, .bot, .bot, .bot, .bot, .bot, .bot, .bot, .bot, .bot, .bot, .bot, .bot, .bot, .bot, .bot, .bot, .bot, .bot, .bot, .bot, .bot, .bot, .bot, .bot, .bot, .bot, .bot, .bot, .bot, .bot, .bot, .bot, .bot, .bot, .bot, .bot, .bot], [none, some (.pair (.int .i64) (.pair .bool (.sl .arg (.int .i64)))), none, none, none, none, none, none, none, none, none, none, none, none, none, none, none, none, none, none, none, none, none, none, none, none, none, none, none, none, none, none, none, none, none, none, none, none, none, none, none, none, none, none, none], none⟩
@[reducible] def d_spec_FilterOk_2_x0 : SD := ⟨[.bot, .ptr 1 0, .data false .bool, .data false (.int .i64), .bot, .bot, .bot, .bot, .bot, .bot, .bot, .bot, .bot, .bot, .bot, .bot, .bot, .bot, .bot, .bot, .bot, .bot, .bot, .bot, .bot, .bot, .bot, .bot, .bot, .bot, .bot, .bot, .bot, .bot, .bot, .bot, .bot, .bot, .bot, .bot, .bot, .bot, .bot, .bot, .bot], [none, some (.pair (.int .i64) (.pair .bool (.sl .arg (.int .i64)))), none, none, none, none, none, none, none, none, none, none, none, none, none, none, none, none, none, none, none, none, none, none, none, none, none, none, none, none, none, none, none, none, none, none, none, none, none, none, none, none, none, none, none], none⟩
@[reducible] def d_spec_FilterOk_2_ret : SD := ⟨[.bot, .ptr 1 0, .data false .bool, .data false (.int .i64), .bot, .bot, .bot, .bot, .bot, .bot, .bot, .bot, .bot, .bot, .bot, .bot, .bot, .bot, .bot, .bot, .bot, .bot, .bot, .bot, .bot, .bot, .bot, .bot, .bot, .bot, .bot, .bot, .bot, .bot, .bot, .bot, .bot, .bot, .bot, .bot, .bot, .bot, .bot, .bot, .bot], [none, some (.pair (.int .i64) (.pair .bool (.sl .arg (.int .i64)))), none, none, none, none, none, none, none, none, none, none, none, none, none, none, none, none, none, none, none, none, none, none, none, none, none, none, none, none, none, none, none, none, none, none, none, none, none, none, none, none, none, none, none], none⟩
noncomputable def l_spec_FilterOk_2 : LEnt := ⟨d_spec_FilterOk_2, fun X K => iterL (Pu.spec_FilterOk_T2 (fun y0 => K (.exit 0) (SD.enc d_spec_FilterOk_2_x0 (((X.1.1), (y0, ())), ((X.2.1.1), ()), ()))) (fun y0 y1 => K .ret (SD.enc d_spec_FilterOk_2_ret ((y0, (y1, ())), ((X.2.1.1), ()), ()))) X.1.1 X.2.1.1) fuel X.1.2.1⟩
noncomputable def L_spec_FilterOk : Lam := (Lam.nil).add 2 l_spec_FilterOk_2
theorem lok_spec_FilterOk_2 : LOk E g_spec_FilterOk n_spec_FilterOk L_spec_FilterOk (loopBody Try.f38 0) :=
  lok l_spec_FilterOk_2 (by kernel_rfl) fuel fun R X K => (loop_iter (σ := Int) (fun x => SD.enc d_spec_FilterOk_2 ((X.1.1, (x, ())), (X.2.1.1, ()), ())) (Pu.spec_FilterOk_T2 (fun y0 => K (.exit 0) (SD.enc d_spec_FilterOk_2_x0 (((X.1.1), (y0, ())), ((X.2.1.1), ()), ()))) (fun y0 y1 => K .ret (SD.enc d_spec_FilterOk_2_ret ((y0, (y1, ())), ((X.2.1.1), ()), ()))) X.1.1 X.2.1.1) (fun m x => by kernel_rfl) fuel X.1.2.1).symm
theorem h_spec_FilterOk : ∀ c ∈ loopsOf (Try.f38.body.getD .skip), LOk E g_spec_FilterOk n_spec_FilterOk L_spec_FilterOk c := by
  have e : loopsOf (Try.f38.body.getD .skip) = [loopBody Try.f38 0] := by kernel_rfl
  rw [e]; simp only [List.forall_mem_cons]; exact ⟨lok_spec_FilterOk_2, by simp⟩
theorem ok_spec_FilterOk : FnOk Try.prog 38 e_spec_FilterOk := FnOk.of (fnOk S_spec_FilterOk Try.func38 (by kernel_rfl) h_spec_FilterOk) (fun a => by kernel_rfl)
@[reducible] def s_spec_RuleOk : List PS := [.data true TRule]
@[reducible] def r_spec_RuleOk : List (Bool × FT) := [(false, .bool)]
noncomputable def F_spec_RuleOk (a : Args s_spec_RuleOk) : Option (resD r_spec_RuleOk) := Pu.spec_RuleOk a.1
noncomputable def e_spec_RuleOk : GEnt := entOf s_spec_RuleOk r_spec_RuleOk F_spec_RuleOk
noncomputable def g_spec_RuleOk : Gam := (Gam.nil).add 20 e_spec_l01In
theorem S_spec_RuleOk : Sound Try.prog E g_spec_RuleOk := (base).add ok_spec_l01In
def n_spec_RuleOk : An := { merge := fun | 1 => some 33 | 3 => some 54 | 5 => some 2 | _ => none }
noncomputable def L_spec_RuleOk : Lam := Lam.nil
theorem h_spec_RuleOk : ∀ c ∈ loopsOf (Try.f75.body.getD .skip), LOk E g_spec_RuleOk n_spec_RuleOk L_spec_RuleOk c := by
  have e : loopsOf (Try.f75.body.getD .skip) = [] := by kernel_rfl
  rw [e]; simp
theorem ok_spec_RuleOk : FnOk Try.prog 75 e_spec_RuleOk := FnOk.of (fnOk S_spec_RuleOk Try.func75 (by kernel_rfl) h_spec_RuleOk) (fun a => by kernel_rfl)
@[reducible] def s_spec_RulesOk : List PS := [.data false (.sl TRule)]
@[reducible] def r_spec_RulesOk : List (Bool × FT) := [(false, .bool)]
noncomputable def F_spec_RulesOk (a : Args s_spec_RulesOk) : Option (resD r_spec_RulesOk) := Pu.spec_RulesOk a.1
noncomputable def e_spec_RulesOk : GEnt := entOf s_spec_RulesOk r_spec_RulesOk F_spec_RulesOk
noncomputable def g_spec_RulesOk : Gam := (Gam.nil).add 75 e_spec_RuleOk
theorem S_spec_RulesOk : Sound Try.prog E g_spec_RulesOk := (base).add ok_spec_RuleOk
def n_spec_RulesOk : An := { mask := fun | 2 => [0, 2, 3] | _ => [] }
@[reducible] def d_spec_RulesOk_2 : SD := ⟨[.data false (.sl .arg TRule), .bot, .data false .bool, .data false (.int .i64), .bot, .bot, .bot, .bot, .bot, .bot, .bot, .bot, .bot, .bot, .bot, .bot, .bot, .bot, .bot], [none, none, none, none, none, none, none, none, none, none, none, none, none, none, none, none, none, none, none], none⟩
@[reducible] def d_spec_RulesOk_2_x0 : SD := ⟨[.data false (.sl .arg TRule), .bot, .data false .bool, .data false (.int .i64), .bot, .bot, .bot, .bot, .bot, .bot, .bot, .bot, .bot, .bot, .bot, .bot, .bot, .bot, .bot], [none, none, none, none, none, none, none, none, none, none, none, none, none, none, none, none, none, none, none], none⟩
@[reducible] def d_spec_RulesOk_2_ret : SD := ⟨[.data false (.sl .arg TRule), .bot, .data false .bool, .data false (.int .i64), .bot, .bot, .bot, .bot, .bot, .bot, .bot, .bot, .bot, .bot, .bot, .bot, .bot, .bot, .bot], [none, none, none, none, none, none, none, none, none, none, none, none, none, none, none, none, none, none, none], none⟩
noncomputable def l_spec_RulesOk_2 : LEnt := ⟨d_spec_RulesOk_2, fun X K => iterL (Pu.spec_RulesOk_T2 (fun y0 => K (.exit 0) (SD.enc d_spec_RulesOk_2_x0 (((X.1.1), ((X.1.2.1), (y0, ()))), (), ()))) (fun y0 y1 => K .ret (SD.enc d_spec_RulesOk_2_ret (((X.1.1), (y0, (y1, ()))), (), ()))) X.1.1 X.1.2.1) fuel X.1.2.2.1⟩
noncomputable def L_spec_RulesOk : Lam := (Lam.nil).add 2 l_spec_RulesOk_2
theorem lok_spec_RulesOk_2 : LOk E g_spec_RulesOk n_spec_RulesOk L_spec_RulesOk (loopBody Try.f59 0) :=
  lok l_spec_RulesOk_2 (by kernel_rfl) fuel fun R X K => (loop_iter (σ := Int) (fun x => SD.enc d_spec_RulesOk_2 ((X.1.1, (X.1.2.1, (x, ()))), (), ())) (Pu.spec_RulesOk_T2 (fun y0 => K (.exit 0) (SD.enc d_spec_RulesOk_2_x0 (((X.1.1), ((X.1.2.1), (y0, ()))), (), ()))) (fun y0 y1 => K .ret (SD.enc d_spec_RulesOk_2_ret (((X.1.1), (y0, (y1, ()))), (), ()))) X.1.1 X.1.2.1) (fun m x => by kernel_rfl) fuel X.1.2.2.1).symm
theorem h_spec_RulesOk : ∀ c ∈ loopsOf (Try.f59.body.getD .skip), LOk E g_spec_RulesOk n_spec_RulesOk L_spec_RulesOk c := by
  have e : loopsOf (Try.f59.body.getD .skip) = [loopBody Try.f59 0] := by kernel_rfl
  rw [e]; simp only [List.forall_mem_cons]; exact ⟨lok_spec_RulesOk_2, by simp⟩
theorem ok_spec_RulesOk : FnOk Try.prog 59 e_spec_RulesOk := FnOk.of (fnOk S_spec_RulesOk Try.func59 (by kernel_rfl) h_spec_RulesOk) (fun a => by kernel_rfl)
@[reducible] def s_spec_HomeSlot : List PS := [.data true TFlow]
@[reducible] def r_spec_HomeSlot : List (Bool × FT) := [(false, (.int .i64))]
noncomputable def F_spec_HomeSlot (a : Args s_spec_HomeSlot) : Option (resD r_spec_HomeSlot) := Pu.spec_HomeSlot a.1
noncomputable def e_spec_HomeSlot : GEnt := entOf s_spec_HomeSlot r_spec_HomeSlot F_spec_HomeSlot
noncomputable def g_spec_HomeSlot : Gam := Gam.nil
theorem S_spec_HomeSlot : Sound Try.prog E g_spec_HomeSlot := base
def n_spec_HomeSlot : An := { mask := fun | 4 => [3, 4, 5] | _ => [] }
@[reducible] def d_spec_HomeSlot_4 : SD := ⟨[.bot, .bot, .bot, .data false (.int .i64), .data false (.sl (.own (some 49152)) (.int .i64)), .data false (.int .i64), .bot, .bot, .bot, .bot, .bot, .bot, .bot, .bot, .bot, .bot, .bot, .bot, .bot, .bot, .bot, .bot, .bot, .bot, .bot, .bot, .bot, .bot, .bot, .bot, .bot, .bot], [none, none, none, none, none, none, none, none, none, none, none, none, none, none, none, none, none, none, none, none, none, none, none, none, none, none, none, none, none, none, none, none], none⟩
@[reducible] def d_spec_HomeSlot_4_x0 : SD := ⟨[.bot, .bot, .bot, .data false (.int .i64), .data false (.sl (.own (some 49152)) (.int .i64)), .data false (.int .i64), .bot, .bot, .bot, .bot, .bot, .bot, .bot, .bot, .bot, .bot, .bot, .bot, .bot, .bot, .bot, .bot, .bot, .bot, .bot, .bot, .bot, .bot, .bot, .bot, .bot, .bot], [none, none, none, none, none, none, none, none, none, none, none, none, none, none, none, none, none, none, none, none, none, none, none, none, none, none, none, none, none, none, none, none], none⟩
noncomputable def l_spec_HomeSlot_4 : LEnt := ⟨d_spec_HomeSlot_4, fun X K => iterL (Pu.spec_HomeSlot_T4 (fun y0 y1 => K (.exit 0) (SD.enc d_spec_HomeSlot_4_x0 ((y0, ((X.1.2.1), (y1, ()))), (), ()))) X.1.2.1) fuel (X.1.1, X.1.2.2.1)⟩
noncomputable def L_spec_HomeSlot : Lam := (Lam.nil).add 4 l_spec_HomeSlot_4
theorem lok_spec_HomeSlot_4 : LOk E g_spec_HomeSlot n_spec_HomeSlot L_spec_HomeSlot (loopBody Try.f88 0) :=
  lok l_spec_HomeSlot_4 (by kernel_rfl) fuel fun R X K => (loop_iter (σ := Int × Int) (fun x => SD.enc d_spec_HomeSlot_4 ((x.1, (X.1.2.1, (x.2, ()))), (), ())) (Pu.spec_HomeSlot_T4 (fun y0 y1 => K (.exit 0) (SD.enc d_spec_HomeSlot_4_x0 ((y0, ((X.1.2.1), (y1, ()))), (), ()))) X.1.2.1) (fun m x => by kernel_rfl) fuel (X.1.1, X.1.2.2.1)).symm
theorem h_spec_HomeSlot : ∀ c ∈ loopsOf (Try.f88.body.getD .skip), LOk E g_spec_HomeSlot n_spec_HomeSlot L_spec_HomeSlot c := by
  have e : loopsOf (Try.f88.body.getD .skip) = [loopBody Try.f88 0] := by kernel_rfl
  rw [e]; simp only [List.forall_mem_cons]; exact ⟨lok_spec_HomeSlot_4, by simp⟩
theorem ok_spec_HomeSlot : FnOk Try.prog 88 e_spec_HomeSlot := FnOk.of (fnOk S_spec_HomeSlot Try.func88 (by kernel_rfl) h_spec_HomeSlot) (fun a => by kernel_rfl)
@[reducible] def s_spec_l13Find : List PS := [.data true (.sl TSlot), .data true TFlow]
@[reducible] def r_spec_l13Find : List (Bool × FT) := [(false, (.int .i64))]
noncomputable def F_spec_l13Find (a : Args s_spec_l13Find) : Option (resD r_spec_l13Find) := Pu.spec_l13Find a.1 a.2.1
noncomputable def e_spec_l13Find : GEnt := entOf s_spec_l13Find r_spec_l13Find F_spec_l13Find
noncomputable def g_spec_l13Find : Gam := (Gam.nil).add 88 e_spec_HomeSlot
theorem S_spec_l13Find : Sound Try.prog E g_spec_l13Find := (base).add ok_spec_HomeSlot
def n_spec_l13Find : An := { mask := fun | 2 => [2, 3, 4, 5] | _ => [], merge := fun | 7 => some 39 | _ => none }
@[reducible] def d_spec_l13Find_2 : SD := ⟨[.bot, .bot, .ptr 2 0, .ptr 3 0, .data false (.int .i64), .data false (.int .i64), .bot, .bot, .bot, .bot, .bot, .bot, .bot, .bot, .bot, .bot, .bot, .bot, .bot, .bot, .bot, .bot, .bot, .bot, .bot, .bot, .bot, .bot, .bot, .bot, .bot, .bot, .bot, .bot, .bot, .bot, .bot, .bot, .bot, .bot, .bot], [none, none, some (.sl .arg TSlot), some (.pair (.int .i64) (.pair (.int .i64) (.pair (.int .i64) (.pair (.int .i64) (.int .i64))))), none, none, none, none, none, none, none, none, none, none, none, none, none, none, none, none, none, none, none, none, none, none, none, none, none, none, none, none, none, none, none, none, none, none, none, none, none], none⟩
@[reducible] def d_spec_l13Find_2_x0 : SD := ⟨[.bot, .bot, .ptr 2 0, .ptr 3 0, .data false (.int .i64), .data false (.int .i64), .bot, .bot, .bot, .bot, .bot, .bot, .bot, .bot, .bot, .bot, .bot, .bot, .bot, .bot, .bot, .bot, .bot, .bot, .bot, .bot, .bot, .bot, .bot, .bot, .bot, .bot, .bot, .bot, .bot, .bot, .bot, .bot, .bot, .bot, .bot], [none, none, some (.sl .arg TSlot), some (.pair (.int .i64) (.pair (.int .i64) (.pair (.int .i64) (.pair (.int .i64) (.int .i64))))), none, none, none, none, none, none, none, none, none, none, none, none, none, none, none, none, none, none, none, none, none, none, none, none, none, none, none, none, none, none, none, none, none, none, none, none, none], none⟩
@[reducible] def d_spec_l13Find_2_ret : SD := ⟨[.bot, .bot, .ptr 2 0, .ptr 3 0, .data false (.int .i64), .data false (.int .i64), .bot, .bot, .bot, .bot, .bot, .bot, .bot, .bot, .bot, .bot, .bot, .bot, .bot, .bot, .bot, .bot, .bot, .bot, .bot, .bot, .bot, .bot, .bot, .bot, .bot, .bot, .bot, .bot, .bot, .bot, .bot, .bot, .bot, .bot, .bot], [none, none, some (.sl .arg TSlot), some (.pair (.int .i64) (.pair (.int .i64) (.pair (.int .i64) (.pair (.int .i64) (.int .i64))))), none, none, none, none, none, none, none, none, none, none, none, none, none, none, none, none, none, none, none, none, none, none, none, none, none, none, none, none, none, none, none, none, none, none, none, none, none], none⟩
noncomputable def l_spec_l13Find_2 : LEnt := ⟨d_spec_l13Find_2, fun X K => iterL (Pu.spec_l13Find_T2 (fun y0 => K (.exit 0) (SD.enc d_spec_l13Find_2_x0 (((X.1.1), (y0, ())), ((X.2.1.1), ((X.2.1.2.1), ())), ()))) (fun y0 y1 => K .ret (SD.enc d_spec_l13Find_2_ret ((y0, (y1, ())), ((X.2.1.1), ((X.2.1.2.1), ())), ()))) X.1.1 X.2.1.1 X.2.1.2.1) fuel X.1.2.1⟩
noncomputable def L_spec_l13Find : Lam := (Lam.nil).add 2 l_spec_l13Find_2
theorem lok_spec_l13Find_2 : LOk E g_spec_l13Find n_spec_l13Find L_spec_l13Find (loopBody Try.f76 0) :=
  lok l_spec_l13Find_2 (by kernel_rfl) fuel fun R X K => (loop_iter (σ := Int) (fun x => SD.enc d_spec_l13Find_2 ((X.1.1, (x, ())), (X.2.1.1, (X.2.1.2.1, ())), ())) (Pu.spec_l13Find_T2 (fun y0 => K (.exit 0) (SD.enc d_spec_l13Find_2_x0 (((X.1.1), (y0, ())), ((X.2.1.1), ((X.2.1.2.1), ())), ()))) (fun y0 y1 => K .ret (SD.enc d_spec_l13Find_2_ret ((y0, (y1, ())), ((X.2.1.1), ((X.2.1.2.1), ())), ()))) X.1.1 X.2.1.1 X.2.1.2.1) (fun m x => by kernel_rfl) fuel X.1.2.1).symm
theorem h_spec_l13Find : ∀ c ∈ loopsOf (Try.f76.body.getD .skip), LOk E g_spec_l13Find n_spec_l13Find L_spec_l13Find c := by
  have e : loopsOf (Try.f76.body.getD .skip) = [loopBody Try.f76 0] := by kernel_rfl
  rw [e]; simp only [List.forall_mem_cons]; exact ⟨lok_spec_l13Find_2, by simp⟩
theorem ok_spec_l13Find : FnOk Try.prog 76 e_spec_l13Find := FnOk.of (fnOk S_spec_l13Find Try.func76 (by kernel_rfl) h_spec_l13Find) (fun a => by kernel_rfl)
@[reducible] def s_spec_TableOk : List PS := [.data true (.sl TSlot)]
@[reducible] def r_spec_TableOk : List (Bool × FT) := [(false, .bool)]
noncomputable def F_spec_TableOk (a : Args s_spec_TableOk) : Option (resD r_spec_TableOk) := Pu.spec_TableOk a.1
noncomputable def e_spec_TableOk : GEnt := entOf s_spec_TableOk r_spec_TableOk F_spec_TableOk
noncomputable def g_spec_TableOk : Gam := ((Gam.nil).add 20 e_spec_l01In).add 76 e_spec_l13Find
theorem S_spec_TableOk : Sound Try.prog E g_spec_TableOk := ((base).add ok_spec_l01In).add ok_spec_l13Find
def n_spec_TableOk : An := { mask := fun | 4 => [1, 2, 3] | _ => [], merge := fun | 7 => some 30 | 10 => some 42 | _ => none }
@[reducible] def d_spec_TableOk_4 : SD := ⟨[.bot, .ptr 1 0, .data false .bool, .data false (.int .i64), .bot, .bot, .bot, .bot, .bot, .bot, .bot, .bot, .bot, .bot, .bot, .bot, .bot, .bot, .bot, .bot, .bot, .bot, .bot, .bot, .bot, .bot, .bot, .bot, .bot, .bot, .bot, .bot, .bot, .bot, .bot, .bot, .bot, .bot, .bot, .bot, .bot, .bot, .bot, .bot, .bot, .bot, .bot, .bot, .bot], [none, some (.sl .arg TSlot), none, none, none, none, none, none, none, none, none, none, none, none, none, none, none, none, none, none, none, none, none, none, none, none, none, none, none, none, none, none, none, none, none, none, none, none, none, none, none, none, none, none, none, none, none, none, none], none⟩
@[reducible] def d_spec_TableOk_4_x0 : SD := ⟨[.bot, .ptr 1 0, .data false .bool, .data false (.int .i64), .bot, .bot, .bot, .bot, .bot, .bot, .bot, .bot, .bot, .bot, .bot, .bot, .bot, .bot, .bot, .bot, .bot, .bot, .bot, .bot, .bot, .bot, .bot, .bot, .bot, .bot, .bot, .bot, .bot, .bot, .bot, .bot, .bot, .bot, .bot, .bot, .bot, .bot, .bot, .bot, .bot, .bot, .bot, .bot, .bot], [none, some (.sl .arg TSlot), none, none, none, none, none, none, none, none, none, none, none, none, none, none, none, none, none, none, none, none, none, none, none, none, none, none, none, none, none, none, none, none, none, none, none, none, none, none, none, none, none, none, none, none, none, none, none], none⟩
@[reducible] def d_spec_TableOk_4_ret : SD := ⟨[.bot, .ptr 1 0, .data false .bool, .data false (.int .i64), .bot, .bot, .bot, .bot, .bot, .bot, .bot, .bot, .bot, .bot, .bot, .bot, .bot, .bot, .bot, .bot, .bot, .bot, .bot, .bot, .bot, .bot, .bot, .bot, .bot, .bot, .bot, .bot, .bot, .bot, .bot, .bot, .bot, .bot, .bot, .bot, .bot, .bot, .bot, .bot, .bot, .bot, .bot, .bot, .bot], [none, some (.sl .arg TSlot), none, none, none, none, none, none, none, none, none, none, none, none, none, none, none, none, none, none, none, none, none, none, none, none, none, none, none, none, none, none, none, none, none, none, none, none, none, none, none, none, none, none, none, none, none, none, none], none⟩
noncomputable def l_spec_TableOk_4 : LEnt := ⟨d_spec_TableOk_4, fun X K => iterL (Pu.spec_TableOk_T4 (fun y0 => K (.exit 0) (SD.enc d_spec_TableOk_4_x0 (((X.1.1), (y0, ())), ((X.2.1.1), ()), ()))) (fun y0 y1 => K .ret (SD.enc d_spec_TableOk_4_ret ((y0, (y1, ())), ((X.2.1.1), ()), ()))) X.1.1 X.2.1.1) fuel X.1.2.1⟩
noncomputable def L_spec_TableOk : Lam := (Lam.nil).add 4 l_spec_TableOk_4
theorem lok_spec_TableOk_4 : LOk E g_spec_TableOk n_spec_TableOk L_spec_TableOk (loopBody Try.f60 0) :=
  lok l_spec_TableOk_4 (by kernel_rfl) fuel fun R X K => (loop_iter (σ := Int) (fun x => SD.enc d_spec_TableOk_4 ((X.1.1, (x, ())), (X.2.1.1, ()), ())) (Pu.spec_TableOk_T4 (fun y0 => K (.exit 0) (SD.enc d_spec_TableOk_4_x0 (((X.1.1), (y0, ())), ((X.2.1.1), ()), ()))) (fun y0 y1 => K .ret (SD.enc d_spec_TableOk_4_ret ((y0, (y1, ())), ((X.2.1.1), ()), ()))) X.1.1 X.2.1.1) (fun m x => by kernel_rfl) fuel X.1.2.1).symm
theorem h_spec_TableOk : ∀ c ∈ loopsOf (Try.f60.body.getD .skip), LOk E g_spec_TableOk n_spec_TableOk L_spec_TableOk c := by
  have e : loopsOf (Try.f60.body.getD .skip) = [loopBody Try.f60 0] := by kernel_rfl
  rw [e]; simp only [List.forall_mem_cons]; exact ⟨lok_spec_TableOk_4, by simp⟩
theorem ok_spec_TableOk : FnOk Try.prog 60 e_spec_TableOk := FnOk.of (fnOk S_spec_TableOk Try.func60 (by kernel_rfl) h_spec_TableOk) (fun a => by kernel_rfl)
@[reducible] def s_spec_l12Size : List PS := [.data false (.int .i64)]
@[reducible] def r_spec_l12Size : List (Bool × FT) := [(false, .bool)]
noncomputable def F_spec_l12Size (a : Args s_spec_l12Size) : Option (resD r_spec_l12Size) := Pu.spec_l12Size a.1
noncomputable def e_spec_l12Size : GEnt := entOf s_spec_l12Size r_spec_l12Size F_spec_l12Size
noncomputable def g_spec_l12Size : Gam := Gam.nil
theorem S_spec_l12Size : Sound Try.prog E g_spec_l12Size := base
def n_spec_l12Size : An := { merge := fun | 1 => some 2 | _ => none }
noncomputable def L_spec_l12Size : Lam := Lam.nil
theorem h_spec_l12Size : ∀ c ∈ loopsOf (Try.f77.body.getD .skip), LOk E g_spec_l12Size n_spec_l12Size L_spec_l12Size c := by
  have e : loopsOf (Try.f77.body.getD .skip) = [] := by kernel_rfl
  rw [e]; simp
theorem ok_spec_l12Size : FnOk Try.prog 77 e_spec_l12Size := FnOk.of (fnOk S_spec_l12Size Try.func77 (by kernel_rfl) h_spec_l12Size) (fun a => by kernel_rfl)
@[reducible] def s_spec_SpreadOk : List PS := [.data true TSpread, .data false (.int .i64)]
@[reducible] def r_spec_SpreadOk : List (Bool × FT) := [(false, .bool)]
noncomputable def F_spec_SpreadOk (a : Args s_spec_SpreadOk) : Option (resD r_spec_SpreadOk) := Pu.spec_SpreadOk a.1 a.2.1
noncomputable def e_spec_SpreadOk : GEnt := entOf s_spec_SpreadOk r_spec_SpreadOk F_spec_SpreadOk
noncomputable def g_spec_SpreadOk : Gam := ((Gam.nil).add 20 e_spec_l01In).add 77 e_spec_l12Size
theorem S_spec_SpreadOk : Sound Try.prog E g_spec_SpreadOk := ((base).add ok_spec_l01In).add ok_spec_l12Size
def n_spec_SpreadOk : An := { mask := fun | 4 => [1, 2, 4, 5] | _ => [], merge := fun | 1 => some 21 | _ => none }
@[reducible] def d_spec_SpreadOk_4 : SD := ⟨[.bot, .data false (.int .i64), .ptr 2 0, .bot, .data false .bool, .data false (.int .i64), .bot, .bot, .bot, .bot, .bot, .bot, .bot, .bot, .bot, .bot, .bot, .bot, .bot, .bot, .bot, .bot, .bot, .bot, .bot, .bot, .bot, .bot, .bot, .bot, .bot, .bot, .bot, .bot, .bot, .bot, .bot, .bot], [none, none, some (.pair .str (.sl .arg (.int .i64))), none, none, none, none, none, none, none, none, none, none, none, none, none, none, none, none, none, none, none, none, none, none, none, none, none, none, none, none, none, none, none, none, none, none, none], none⟩
@[reducible] def d_spec_SpreadOk_4_x0 : SD := ⟨[.bot, .data false (.int .i64), .ptr 2 0, .bot, .data false .bool, .data false (.int .i64), .bot, .bot, .bot, .bot, .bot, .bot, .bot, .bot, .bot, .bot, .bot, .bot, .bot, .bot, .bot, .bot, .bot, .bot, .bot, .bot, .bot, .bot, .bot, .bot, .bot, .bot, .bot, .bot, .bot, .bot, .bot, .bot], [none, none, some (.pair .str (.sl .arg (.int .i64))), none, none, none, none, none, none, none, none, none, none, none, none, none, none, none, none, none, none, none, none, none, none, none, none, none, none, none, none, none, none, none, none, none, none, none], none⟩
@[reducible] def d_spec_SpreadOk_4_ret : SD := ⟨[.bot, .data false (.int .i64), .ptr 2 0, .bot, .data false .bool, .data false (.int .i64), .bot, .bot, .bot, .bot, .bot, .bot, .bot, .bot, .bot, .bot, .bot, .bot, .bot, .bot, .bot, .bot, .bot, .bot, .bot, .bot, .bot, .bot, .bot, .bot, .bot, .bot, .bot, .bot, .bot, .bot, .bot, .bot], [none, none, some (.pair .str (.sl .arg (.int .i64))), none, none, none, none, none, none, none, none, none, none, none, none, none, none, none, none, none, none, none, none, none, none, none, none, none, none, none, none, none, none, none, none, none, none, none], none⟩
noncomputable def l_spec_SpreadOk_4 : LEnt := ⟨d_spec_SpreadOk_4, fun X K => iterL (Pu.spec_SpreadOk_T4 (fun y0 => K (.exit 0) (SD.enc d_spec_SpreadOk_4_x0 (((X.1.1), ((X.1.2.1), (y0, ()))), ((X.2.1.1), ()), ()))) (fun y0 y1 => K .ret (SD.enc d_spec_SpreadOk_4_ret (((X.1.1), (y0, (y1, ()))), ((X.2.1.1), ()), ()))) X.1.1 X.1.2.1 X.2.1.1) fuel X.1.2.2.1⟩
noncomputable def L_spec_SpreadOk : Lam := (Lam.nil).add 4 l_spec_SpreadOk_4
theorem lok_spec_SpreadOk_4 : LOk E g_spec_SpreadOk n_spec_SpreadOk L_spec_SpreadOk (loopBody Try.f61 0) :=
  lok l_spec_SpreadOk_4 (by kernel_rfl) fuel fun R X K => (loop_iter (σ := Int) (fun x => SD.enc d_spec_SpreadOk_4 ((X.1.1, (X.1.2.1, (x, ()))), (X.2.1.1, ()), ())) (Pu.spec_SpreadOk_T4 (fun y0 => K (.exit 0) (SD.enc d_spec_SpreadOk_4_x0 (((X.1.1), ((X.1.2.1), (y0, ()))), ((X.2.1.1), ()), ()))) (fun y0 y1 => K .ret (SD.enc d_spec_SpreadOk_4_ret (((X.1.1), (y0, (y1, ()))), ((X.2.1.1), ()), ()))) X.1.1 X.1.2.1 X.2.1.1) (fun m x => by kernel_rfl) fuel X.1.2.2.1).symm
theorem h_spec_SpreadOk : ∀ c ∈ loopsOf (Try.f61.body.getD .skip), LOk E g_spec_SpreadOk n_spec_SpreadOk L_spec_SpreadOk c := by
  have e : loopsOf (Try.f61.body.getD .skip) = [loopBody Try.f61 0] := by kernel_rfl
  rw [e]; simp only [List.forall_mem_cons]; exact ⟨lok_spec_SpreadOk_4, by simp⟩
theorem ok_spec_SpreadOk : FnOk Try.prog 61 e_spec_SpreadOk := FnOk.of (fnOk S_spec_SpreadOk Try.func61 (by kernel_rfl) h_spec_SpreadOk) (fun a => by kernel_rfl)
@[reducible] def s_spec_SteeringOk : List PS := [.data true TSteering, .data false (.int .i64)]
@[reducible] def r_spec_SteeringOk : List (Bool × FT) := [(false, .bool)]
noncomputable def F_spec_SteeringOk (a : Args s_spec_SteeringOk) : Option (resD r_spec_SteeringOk) := Pu.spec_SteeringOk a.1 a.2.1
noncomputable def e_spec_SteeringOk : GEnt := entOf s_spec_SteeringOk r_spec_SteeringOk F_spec_SteeringOk
noncomputable def g_spec_SteeringOk : Gam := (((Gam.nil).add 59 e_spec_RulesOk).add 60 e_spec_TableOk).add 61 e_spec_SpreadOk
theorem S_spec_SteeringOk : Sound Try.prog E g_spec_SteeringOk := (((base).add ok_spec_RulesOk).add ok_spec_TableOk).add ok_spec_SpreadOk
def n_spec_SteeringOk : An := { mask := fun | 4 => [1, 2, 4, 5] | 9 => [1, 2, 4, 6] | _ => [], merge := fun | 1 => some 23 | _ => none }
@[reducible] def d_spec_SteeringOk_4 : SD := ⟨[.bot, .data false (.int .i64), .ptr 2 0, .bot, .data false .bool, .data false (.int .i64), .bot, .bot, .bot, .bot, .bot, .bot, .bot, .bot, .bot, .bot, .bot, .bot, .bot, .bot, .bot, .bot, .bot, .bot, .bot, .bot, .bot, .bot, .bot, .bot, .bot, .bot, .bot, .bot, .bot, .bot, .bot, .bot, .bot, .bot, .bot, .bot, .bot, .bot, .bot, .bot, .bot, .bot, .bot, .bot, .bot, .bot, .bot, .bot, .bot, .bot], [none, none, some (.pair (.sl .arg TRule) (.pair (.sl .arg TSlot) (.pair .str (.sl .arg (.int .i64))))), none, none, none, none, none, none, none, none, none, none, none, none, none, none, none, none, none, none, none, none, none, none, none, none, none, none, none, none, none, none, none, none, none, none, none, none, none, none, none, none, none, none, none, none, none, none, none, none, none, none, none, none, none], none⟩
@[reducible] def d_spec_SteeringOk_4_x0 : SD := ⟨[.bot, .data false (.int .i64), .ptr 2 0, .bot, .data false .bool, .data false (.int .i64), .bot, .bot, .bot, .bot, .bot, .bot, .bot, .bot, .bot, .bot, .bot, .bot, .bot, .bot, .bot, .bot, .bot, .bot, .bot, .bot, .bot, .bot, .bot, .bot, .bot, .bot, .bot, .bot, .bot, .bot, .bot, .bot, .bot, .bot, .bot, .bot, .bot, .bot, .bot, .bot, .bot, .bot, .bot, .bot, .bot, .bot, .bot, .bot, .bot, .bot], [none, none, some (.pair (.sl .arg TRule) (.pair (.sl .arg TSlot) (.pair .str (.sl .arg (.int .i64))))), none, none, none, none, none, none, none, none, none, none, none, none, none, none, none, none, none, none, none, none, none, none, none, none, none, none, none, none, none, none, none, none, none, none, none, none, none, none, none, none, none, none, none, none, none, none, none, none, none, none, none, none, none], none⟩
@[reducible] def d_spec_SteeringOk_4_ret : SD := ⟨[.bot, .data false (.int .i64), .ptr 2 0, .bot, .data false .bool, .data false (.int .i64), .bot, .bot, .bot, .bot, .bot, .bot, .bot, .bot, .bot, .bot, .bot, .bot, .bot, .bot, .bot, .bot, .bot, .bot, .bot, .bot, .bot, .bot, .bot, .bot, .bot, .bot, .bot, .bot, .bot, .bot, .bot, .bot, .bot, .bot, .bot, .bot, .bot, .bot, .bot, .bot, .bot, .bot, .bot, .bot, .bot, .bot, .bot, .bot, .bot, .bot], [none, none, some (.pair (.sl .arg TRule) (.pair (.sl .arg TSlot) (.pair .str (.sl .arg (.int .i64))))), none, none, none, none, none, none, none, none, none, none, none, none, none, none, none, none, none, none, none, none, none, none, none, none, none, none, none, none, none, none, none, none, none, none, none, none, none, none, none, none, none, none, none, none, none, none, none, none, none, none, none, none, none], none⟩
noncomputable def l_spec_SteeringOk_4 : LEnt := ⟨d_spec_SteeringOk_4, fun X K => iterL (Pu.spec_SteeringOk_T4 (fun y0 => K (.exit 0) (SD.enc d_spec_SteeringOk_4_x0 (((X.1.1), ((X.1.2.1), (y0, ()))), ((X.2.1.1), ()), ()))) (fun y0 y1 => K .ret (SD.enc d_spec_SteeringOk_4_ret (((X.1.1), (y0, (y1, ()))), ((X.2.1.1), ()), ()))) X.1.1 X.1.2.1 X.2.1.1) fuel X.1.2.2.1⟩
@[reducible] def d_spec_SteeringOk_9 : SD := ⟨[.bot, .data false (.int .i64), .ptr 2 0, .bot, .data false .bool, .bot, .data false (.int .i64), .bot, .bot, .bot, .bot, .bot, .bot, .bot, .bot, .bot, .bot, .bot, .bot, .bot, .bot, .bot, .bot, .bot, .bot, .bot, .bot, .bot, .bot, .bot, .bot, .bot, .bot, .bot, .bot, .bot, .bot, .bot, .bot, .bot, .bot, .bot, .bot, .bot, .bot, .bot, .bot, .bot, .bot, .bot, .bot, .bot, .bot, .bot, .bot, .bot], [none, none, some (.pair (.sl .arg TRule) (.pair (.sl .arg TSlot) (.pair .str (.sl .arg (.int .i64))))), none, none, none, none, none, none, none, none, none, none, none, none, none, none, none, none, none, none, none, none, none, none, none, none, none, none, none, none, none, none, none, none, none, none, none, none, none, none, none, none, none, none, none, none, none, none, none, none, none, none, none, none, none], none⟩
@[reducible] def d_spec_SteeringOk_9_x2 : SD := ⟨[.bot, .data false (.int .i64), .ptr 2 0, .bot, .data false .bool, .bot, .data false (.int .i64), .bot, .bot, .bot, .bot, .bot, .bot, .bot, .bot, .bot, .bot, .bot, .bot, .bot, .bot, .bot, .bot, .bot, .bot, .bot, .bot, .bot, .bot, .bot, .bot, .bot, .bot, .bot, .bot, .bot, .bot, .bot, .bot, .bot, .bot, .bot, .bot, .bot, .bot, .bot, .bot, .bot, .bot, .bot, .bot, .bot, .bot, .bot, .bot, .bot], [none, none, some (.pair (.sl .arg TRule) (.pair (.sl .arg TSlot) (.pair .str (.sl .arg (.int .i64))))), none, none, none, none, none, none, none, none, none, none, none, none, none, none, none, none, none, none, none, none, none, none, none, none, none, none, none, none, none, none, none, none, none, none, none, none, none, none, none, none, none, none, none, none, none, none, none, none, none, none, none, none, none], none⟩
@[reducible] def d_spec_SteeringOk_9_ret : SD := ⟨[.bot, .data false (.int .i64), .ptr 2 0, .bot, .data false .bool, .bot, .data false (.int .i64), .bot, .bot, .bot, .bot, .bot, .bot, .bot, .bot, .bot, .bot, .bot, .bot, .bot, .bot, .bot, .bot, .bot, .bot, .bot, .bot, .bot, .bot, .bot, .bot, .bot, .bot, .bot, .bot, .bot, .bot, .bot, .bot, .bot, .bot, .bot, .bot, .bot, .bot, .bot, .bot, .bot, .bot, .bot, .bot, .bot, .bot, .bot, .bot, .bot], [none, none, some (.pair (.sl .arg TRule) (.pair (.sl .arg TSlot) (.pair .str (.sl .arg (.int .i64))))), none, none, none, none, none, none, none, none, none, none, none, none, none, none, none, none, none, none, none, none, none, none, none, none, none, none, none, none, none, none, none, none, none, none, none, none, none, none, none, none, none, none, none, none, none, none, none, none, none, none, none, none, none], none⟩
noncomputable def l_spec_SteeringOk_9 : LEnt := ⟨d_spec_SteeringOk_9, fun X K => iterL (Pu.spec_SteeringOk_T9 (fun y0 => K (.exit 2) (SD.enc d_spec_SteeringOk_9_x2 (((X.1.1), ((X.1.2.1), (y0, ()))), ((X.2.1.1), ()), ()))) (fun y0 y1 => K .ret (SD.enc d_spec_SteeringOk_9_ret (((X.1.1), (y0, (y1, ()))), ((X.2.1.1), ()), ()))) X.1.1 X.1.2.1 X.2.1.1) fuel X.1.2.2.1⟩
noncomputable def L_spec_SteeringOk : Lam := ((Lam.nil).add 4 l_spec_SteeringOk_4).add 9 l_spec_SteeringOk_9
theorem lok_spec_SteeringOk_4 : LOk E g_spec_SteeringOk n_spec_SteeringOk L_spec_SteeringOk (loopBody Try.f39 0) :=
  lok l_spec_SteeringOk_4 (by kernel_rfl) fuel fun R X K => (loop_iter (σ := Int) (fun x => SD.enc d_spec_SteeringOk_4 ((X.1.1, (X.1.2.1, (x, ()))), (X.2.1.1, ()), ())) (Pu.spec_SteeringOk_T4 (fun y0 => K (.exit 0) (SD.enc d_spec_SteeringOk_4_x0 (((X.1.1), ((X.1.2.1), (y0, ()))), ((X.2.1.1), ()), ()))) (fun y0 y1 => K .ret (SD.enc d_spec_SteeringOk_4_ret (((X.1.1), (y0, (y1, ()))), ((X.2.1.1), ()), ()))) X.1.1 X.1.2.1 X.2.1.1) (fun m x => by kernel_rfl) fuel X.1.2.2.1).symm
theorem lok_spec_SteeringOk_9 : LOk E g_spec_SteeringOk n_spec_SteeringOk L_spec_SteeringOk (loopBody Try.f39 1) :=
  lok l_spec_SteeringOk_9 (by kernel_rfl) fuel fun R X K => (loop_iter (σ := Int) (fun x => SD.enc d_spec_SteeringOk_9 ((X.1.1, (X.1.2.1, (x, ()))), (X.2.1.1, ()), ())) (Pu.spec_SteeringOk_T9 (fun y0 => K (.exit 2) (SD.enc d_spec_SteeringOk_9_x2 (((X.1.1), ((X.1.2.1), (y0, ()))), ((X.2.1.1), ()), ()))) (fun y0 y1 => K .ret (SD.enc d_spec_SteeringOk_9_ret (((X.1.1), (y0, (y1, ()))), ((X.2.1.1), ()), ()))) X.1.1 X.1.2.1 X.2.1.1) (fun m x => by kernel_rfl) fuel X.1.2.2.1).symm
theorem h_spec_SteeringOk : ∀ c ∈ loopsOf (Try.f39.body.getD .skip), LOk E g_spec_SteeringOk n_spec_SteeringOk L_spec_SteeringOk c := by
  have e : loopsOf (Try.f39.body.getD .skip) = [loopBody Try.f39 0, loopBody Try.f39 1] := by kernel_rfl
  rw [e]; simp only [List.forall_mem_cons]; exact ⟨lok_spec_SteeringOk_4, lok_spec_SteeringOk_9, by simp⟩
theorem ok_spec_SteeringOk : FnOk Try.prog 39 e_spec_SteeringOk := FnOk.of (fnOk S_spec_SteeringOk Try.func39 (by kernel_rfl) h_spec_SteeringOk) (fun a => by kernel_rfl)
@[reducible] def s_spec_SoftOk : List PS := [.data true TSoft]
@[reducible] def r_spec_SoftOk : List (Bool × FT) := [(false, .bool)]
noncomputable def F_spec_SoftOk (a : Args s_spec_SoftOk) : Option (resD r_spec_SoftOk) := Pu.spec_SoftOk a.1
noncomputable def e_spec_SoftOk : GEnt := entOf s_spec_SoftOk r_spec_SoftOk F_spec_SoftOk
noncomputable def g_spec_SoftOk : Gam := ((Gam.nil).add 38 e_spec_FilterOk).add 39 e_spec_SteeringOk
theorem S_spec_SoftOk : Sound Try.prog E g_spec_SoftOk := ((base).add ok_spec_FilterOk).add ok_spec_SteeringOk
def n_spec_SoftOk : An := { merge := fun | 1 => some 2 | _ => none }
noncomputable def L_spec_SoftOk : Lam := Lam.nil
theorem h_spec_SoftOk : ∀ c ∈ loopsOf (Try.f15.body.getD .skip), LOk E g_spec_SoftOk n_spec_SoftOk L_spec_SoftOk c := by
  have e : loopsOf (Try.f15.body.getD .skip) = [] := by kernel_rfl
  rw [e]; simp
theorem ok_spec_SoftOk : FnOk Try.prog 15 e_spec_SoftOk := FnOk.of (fnOk S_spec_SoftOk Try.func15 (by kernel_rfl) h_spec_SoftOk) (fun a => by kernel_rfl)
@[reducible] def s_laws_toIntS : List PS := [.data false (.sl (.int .i64))]
@[reducible] def r_laws_toIntS : List (Bool × FT) := [(false, (.sl (.own none) (.int .i64)))]
noncomputable def F_laws_toIntS (a : Args s_laws_toIntS) : Option (resD r_laws_toIntS) := Pu.laws_toIntS a.1
noncomputable def e_laws_toIntS : GEnt := entOf s_laws_toIntS r_laws_toIntS F_laws_toIntS
noncomputable def g_laws_toIntS : Gam := Gam.nil
theorem S_laws_toIntS : Sound Try.prog E g_laws_toIntS := base
def n_laws_toIntS : An := { mask := fun | 3 => [0, 3, 4] | _ => [], mv := [21] }
@[reducible] def d_laws_toIntS_3 : SD := ⟨[.data false (.sl .arg (.int .i64)), .bot, .bot, .data false (.sl (.own (some 36864)) (.int .i64)), .data false (.int .i64), .bot, .bot, .bot, .bot, .bot, .bot, .bot, .bot, .bot, .bot, .bot, .bot, .bot, .bot, .bot, .bot, .bot], [none, none, none, none, none, none, none, none, none, none, none, none, none, none, none, none, none, none, none, none, none, none], none⟩
@[reducible] def d_laws_toIntS_3_x0 : SD := ⟨[.data false (.sl .arg (.int .i64)), .bot, .bot, .data false (.sl (.own (some 36864)) (.int .i64)), .data false (.int .i64), .bot, .bot, .bot, .bot, .bot, .bot, .bot, .bot, .bot, .bot, .bot, .bot, .bot, .bot, .bot, .bot, .bot], [none, none, none, none, none, none, none, none, none, none, none, none, none, none, none, none, none, none, none, none, none, none], none⟩
noncomputable def l_laws_toIntS_3 : LEnt := ⟨d_laws_toIntS_3, fun X K => iterL (Pu.laws_toIntS_T3 (fun y0 y1 => K (.exit 0) (SD.enc d_laws_toIntS_3_x0 (((X.1.1), (y0, (y1, ()))), (), ()))) X.1.1) fuel (X.1.2.1, X.1.2.2.1)⟩
noncomputable def L_laws_toIntS : Lam := (Lam.nil).add 3 l_laws_toIntS_3
theorem lok_laws_toIntS_3 : LOk E g_laws_toIntS n_laws_toIntS L_laws_toIntS (loopBody Try.f62 0) :=
  lok l_laws_toIntS_3 (by kernel_rfl) fuel fun R X K => (loop_iter (σ := (List Int) × Int) (fun x => SD.enc d_laws_toIntS_3 ((X.1.1, (x.1, (x.2, ()))), (), ())) (Pu.laws_toIntS_T3 (fun y0 y1 => K (.exit 0) (SD.enc d_laws_toIntS_3_x0 (((X.1.1), (y0, (y1, ()))), (), ()))) X.1.1) (fun m x => by kernel_rfl) fuel (X.1.2.1, X.1.2.2.1)).symm
theorem h_laws_toIntS : ∀ c ∈ loopsOf (Try.f62.body.getD .skip), LOk E g_laws_toIntS n_laws_toIntS L_laws_toIntS c := by
  have e : loopsOf (Try.f62.body.getD .skip) = [loopBody Try.f62 0] := by kernel_rfl
  rw [e]; simp only [List.forall_mem_cons]; exact ⟨lok_laws_toIntS_3, by simp⟩
theorem ok_laws_toIntS : FnOk Try.prog 62 e_laws_toIntS := FnOk.of (fnOk S_laws_toIntS Try.func62 (by kernel_rfl) h_laws_toIntS) (fun a => by kernel_rfl)
@[reducible] def s_laws_toFilter : List PS := [.data true TFilter]
@[reducible] def r_laws_toFilter : List (Bool × FT) := [(true, (.pair (.int .i64) (.pair .bool (.sl (.own none) (.int .i64)))))]
noncomputable def F_laws_toFilter (a : Args s_laws_toFilter) : Option (resD r_laws_toFilter) := Pu.laws_toFilter a.1
noncomputable def e_laws_toFilter : GEnt := entOf s_laws_toFilter r_laws_toFilter F_laws_toFilter
noncomputable def g_laws_toFilter : Gam := (Gam.nil).add 62 e_laws_toIntS
theorem S_laws_toFilter : Sound Try.prog E g_laws_toFilter := (base).add ok_laws_toIntS
def n_laws_toFilter : An := { mv := [14] }
noncomputable def L_laws_toFilter : Lam := Lam.nil
theorem h_laws_toFilter : ∀ c ∈ loopsOf (Try.f40.body.getD .skip), LOk E g_laws_toFilter n_laws_toFilter L_laws_toFilter c := by
  have e : loopsOf (Try.f40.body.getD .skip) = [] := by kernel_rfl
  rw [e]; simp
theorem ok_laws_toFilter : FnOk Try.prog 40 e_laws_toFilter := FnOk.of (fnOk S_laws_toFilter Try.func40 (by kernel_rfl) h_laws_toFilter) (fun a => by kernel_rfl)
@[reducible] def s_laws_toRule : List PS := [.data true TRule]
@[reducible] def r_laws_toRule : List (Bool × FT) := [(true, (.pair (.int .i64) (.pair (.int .i64) (.pair (.int .i64) (.pair (.int .i64) (.pair (.int .i64) (.pair (.int .i64) (.pair (.int .i64) (.pair (.int .i64) (.int .i64))))))))))]
noncomputable def F_laws_toRule (a : Args s_laws_toRule) : Option (resD r_laws_toRule) := Pu.laws_toRule a.1
noncomputable def e_laws_toRule : GEnt := entOf s_laws_toRule r_laws_toRule F_laws_toRule
noncomputable def g_laws_toRule : Gam := Gam.nil
theorem S_laws_toRule : Sound Try.prog E g_laws_toRule := base
def n_laws_toRule : An := {  }
noncomputable def L_laws_toRule : Lam := Lam.nil
theorem h_laws_toRule : ∀ c ∈ loopsOf (Try.f78.body.getD .skip), LOk E g_laws_toRule n_laws_toRule L_laws_toRule c := by
  have e : loopsOf (Try.f78.body.getD .skip) = [] := by kernel_rfl
  rw [e]; simp
theorem ok_laws_toRule : FnOk Try.prog 78 e_laws_toRule := FnOk.of (fnOk S_laws_toRule Try.func78 (by kernel_rfl) h_laws_toRule) (fun a => by kernel_rfl)
@[reducible] def s_laws_toRuleS : List PS := [.data false (.sl TRule)]
@[reducible] def r_laws_toRuleS : List (Bool × FT) := [(false, (.sl (.own none) TRule))]
noncomputable def F_laws_toRuleS (a : Args s_laws_toRuleS) : Option (resD r_laws_toRuleS) := Pu.laws_toRuleS a.1
noncomputable def e_laws_toRuleS : GEnt := entOf s_laws_toRuleS r_laws_toRuleS F_laws_toRuleS
noncomputable def g_laws_toRuleS : Gam := (Gam.nil).add 78 e_laws_toRule
theorem S_laws_toRuleS : Sound Try.prog E g_laws_toRuleS := (base).add ok_laws_toRule
def n_laws_toRuleS : An := { mask := fun | 3 => [0, 3, 4] | _ => [], mv := [22] }
@[reducible] def d_laws_toRuleS_3 : SD := ⟨[.data false (.sl .arg TRule), .bot, .bot, .data false (.sl (.own (some 36864)) TRule), .data false (.int .i64), .bot, .bot, .bot, .bot, .bot, .bot, .bot, .bot, .bot, .bot, .bot, .bot, .bot, .bot, .bot, .bot, .bot, .bot], [none, none, none, none, none, none, none, none, none, none, none, none, none, none, none, none, none, none, none, none, none, none, none], none⟩
@[reducible] def d_laws_toRuleS_3_x0 : SD := ⟨[.data false (.sl .arg TRule), .bot, .bot, .data false (.sl (.own (some 36864)) TRule), .data false (.int .i64), .bot, .bot, .bot, .bot, .bot, .bot, .bot, .bot, .bot, .bot, .bot, .bot, .bot, .bot, .bot, .bot, .bot, .bot], [none, none, none, none, none, none, none, none, none, none, none, none, none, none, none, none, none, none, none, none, none, none, none], none⟩
noncomputable def l_laws_toRuleS_3 : LEnt := ⟨d_laws_toRuleS_3, fun X K => iterL (Pu.laws_toRuleS_T3 (fun y0 y1 => K (.exit 0) (SD.enc d_laws_toRuleS_3_x0 (((X.1.1), (y0, (y1, ()))), (), ()))) X.1.1) fuel (X.1.2.1, X.1.2.2.1)⟩
noncomputable def L_laws_toRuleS : Lam := (Lam.nil).add 3 l_laws_toRuleS_3
theorem lok_laws_toRuleS_3 : LOk E g_laws_toRuleS n_laws_toRuleS L_laws_toRuleS (loopBody Try.f63 0) :=
  lok l_laws_toRuleS_3 (by kernel_rfl) fuel fun R X K => (loop_iter (σ := (List Pu.Rule) × Int) (fun x => SD.enc d_laws_toRuleS_3 ((X.1.1, (x.1, (x.2, ()))), (), ())) (Pu.laws_toRuleS_T3 (fun y0 y1 => K (.exit 0) (SD.enc d_laws_toRuleS_3_x0 (((X.1.1), (y0, (y1, ()))), (), ()))) X.1.1) (fun m x => by kernel_rfl) fuel (X.1.2.1, X.1.2.2.1)).symm
theorem h_laws_toRuleS : ∀ c ∈ loopsOf (Try.f63.body.getD .skip), LOk E g_laws_toRuleS n_laws_toRuleS L_laws_toRuleS c := by
  have e : loopsOf (Try.f63.body.getD .skip) = [loopBody Try.f63 0] := by kernel_rfl
  rw [e]; simp only [List.forall_mem_cons]; exact ⟨lok_laws_toRuleS_3, by simp⟩
theorem ok_laws_toRuleS : FnOk Try.prog 63 e_laws_toRuleS := FnOk.of (fnOk S_laws_toRuleS Try.func63 (by kernel_rfl) h_laws_toRuleS) (fun a => by kernel_rfl)
@[reducible] def s_laws_toFlow : List PS := [.data true TFlow]
@[reducible] def r_laws_toFlow : List (Bool × FT) := [(true, (.pair (.int .i64) (.pair (.int .i64) (.pair (.int .i64) (.pair (.int .i64) (.int .i64))))))]
noncomputable def F_laws_toFlow (a : Args s_laws_toFlow) : Option (resD r_laws_toFlow) := Pu.laws_toFlow a.1
noncomputable def e_laws_toFlow : GEnt := entOf s_laws_toFlow r_laws_toFlow F_laws_toFlow
noncomputable def g_laws_toFlow : Gam := Gam.nil
theorem S_laws_toFlow : Sound Try.prog E g_laws_toFlow := base
def n_laws_toFlow : An := {  }
noncomputable def L_laws_toFlow : Lam := Lam.nil
theorem h_laws_toFlow : ∀ c ∈ loopsOf (Try.f80.body.getD .skip), LOk E g_laws_toFlow n_laws_toFlow L_laws_toFlow c := by
  have e : loopsOf (Try.f80.body.getD .skip) = [] := by kernel_rfl
  rw [e]; simp
theorem ok_laws_toFlow : FnOk Try.prog 80 e_laws_toFlow := FnOk.of (fnOk S_laws_toFlow Try.func80 (by kernel_rfl) h_laws_toFlow) (fun a => by kernel_rfl)
@[reducible] def s_laws_toSlot : List PS := [.data true TSlot]
@[reducible] def r_laws_toSlot : List (Bool × FT) := [(true, (.pair (.int .i64) (.pair (.pair (.int .i64) (.pair (.int .i64) (.pair (.int .i64) (.pair (.int .i64) (.int .i64))))) (.int .i64))))]
noncomputable def F_laws_toSlot (a : Args s_laws_toSlot) : Option (resD r_laws_toSlot) := Pu.laws_toSlot a.1
noncomputable def e_laws_toSlot : GEnt := entOf s_laws_toSlot r_laws_toSlot F_laws_toSlot
noncomputable def g_laws_toSlot : Gam := (Gam.nil).add 80 e_laws_toFlow
theorem S_laws_toSlot : Sound Try.prog E g_laws_toSlot := (base).add ok_laws_toFlow
def n_laws_toSlot : An := {  }
noncomputable def L_laws_toSlot : Lam := Lam.nil
theorem h_laws_toSlot : ∀ c ∈ loopsOf (Try.f89.body.getD .skip), LOk E g_laws_toSlot n_laws_toSlot L_laws_toSlot c := by
  have e : loopsOf (Try.f89.body.getD .skip) = [] := by kernel_rfl
  rw [e]; simp
theorem ok_laws_toSlot : FnOk Try.prog 89 e_laws_toSlot := FnOk.of (fnOk S_laws_toSlot Try.func89 (by kernel_rfl) h_laws_toSlot) (fun a => by kernel_rfl)
@[reducible] def s_laws_toSlotS : List PS := [.data false (.sl TSlot)]
@[reducible] def r_laws_toSlotS : List (Bool × FT) := [(false, (.sl (.own none) TSlot))]
noncomputable def F_laws_toSlotS (a : Args s_laws_toSlotS) : Option (resD r_laws_toSlotS) := Pu.laws_toSlotS a.1
noncomputable def e_laws_toSlotS : GEnt := entOf s_laws_toSlotS r_laws_toSlotS F_laws_toSlotS
noncomputable def g_laws_toSlotS : Gam := (Gam.nil).add 89 e_laws_toSlot
theorem S_laws_toSlotS : Sound Try.prog E g_laws_toSlotS := (base).add ok_laws_toSlot
def n_laws_toSlotS : An := { mask := fun | 3 => [0, 3, 4] | _ => [], mv := [22] }
@[reducible] def d_laws_toSlotS_3 : SD := ⟨[.data false (.sl .arg TSlot), .bot, .bot, .data false (.sl (.own (some 36864)) TSlot), .data false (.int .i64), .bot, .bot, .bot, .bot, .bot, .bot, .bot, .bot, .bot, .bot, .bot, .bot, .bot, .bot, .bot, .bot, .bot, .bot], [none, none, none, none, none, none, none, none, none, none, none, none, none, none, none, none, none, none, none, none, none, none, none], none⟩
@[reducible] def d_laws_toSlotS_3_x0 : SD := ⟨[.data false (.sl .arg TSlot), .bot, .bot, .data false (.sl (.own (some 36864)) TSlot), .data false (.int .i64), .bot, .bot, .bot, .bot, .bot, .bot, .bot, .bot, .bot, .bot, .bot, .bot, .bot, .bot, .bot, .bot, .bot, .bot], [none, none, none, none, none, none, none, none, none, none, none, none, none, none, none, none, none, none, none, none, none, none, none], none⟩
noncomputable def l_laws_toSlotS_3 : LEnt := ⟨d_laws_toSlotS_3, fun X K => iterL (Pu.laws_toSlotS_T3 (fun y0 y1 => K (.exit 0) (SD.enc d_laws_toSlotS_3_x0 (((X.1.1), (y0, (y1, ()))), (), ()))) X.1.1) fuel (X.1.2.1, X.1.2.2.1)⟩
noncomputable def L_laws_toSlotS : Lam := (Lam.nil).add 3 l_laws_toSlotS_3
theorem lok_laws_toSlotS_3 : LOk E g_laws_toSlotS n_laws_toSlotS L_laws_toSlotS (loopBody Try.f79 0) :=
  lok l_laws_toSlotS_3 (by kernel_rfl) fuel fun R X K => (loop_iter (σ := (List Pu.Slot) × Int) (fun x => SD.enc d_laws_toSlotS_3 ((X.1.1, (x.1, (x.2, ()))), (), ())) (Pu.laws_toSlotS_T3 (fun y0 y1 => K (.exit 0) (SD.enc d_laws_toSlotS_3_x0 (((X.1.1), (y0, (y1, ()))), (), ()))) X.1.1) (fun m x => by kernel_rfl) fuel (X.1.2.1, X.1.2.2.1)).symm
theorem h_laws_toSlotS : ∀ c ∈ loopsOf (Try.f79.body.getD .skip), LOk E g_laws_toSlotS n_laws_toSlotS L_laws_toSlotS c := by
  have e : loopsOf (Try.f79.body.getD .skip) = [loopBody Try.f79 0] := by kernel_rfl
  rw [e]; simp only [List.forall_mem_cons]; exact ⟨lok_laws_toSlotS_3, by simp⟩
theorem ok_laws_toSlotS : FnOk Try.prog 79 e_laws_toSlotS := FnOk.of (fnOk S_laws_toSlotS Try.func79 (by kernel_rfl) h_laws_toSlotS) (fun a => by kernel_rfl)
@[reducible] def s_laws_toFlowTable : List PS := [.data true (.sl TSlot)]
@[reducible] def r_laws_toFlowTable : List (Bool × FT) := [(true, (.sl (.own none) TSlot))]
noncomputable def F_laws_toFlowTable (a : Args s_laws_toFlowTable) : Option (resD r_laws_toFlowTable) := Pu.laws_toFlowTable a.1
noncomputable def e_laws_toFlowTable : GEnt := entOf s_laws_toFlowTable r_laws_toFlowTable F_laws_toFlowTable
noncomputable def g_laws_toFlowTable : Gam := (Gam.nil).add 79 e_laws_toSlotS
theorem S_laws_toFlowTable : Sound Try.prog E g_laws_toFlowTable := (base).add ok_laws_toSlotS
def n_laws_toFlowTable : An := { mv := [8] }
noncomputable def L_laws_toFlowTable : Lam := Lam.nil
theorem h_laws_toFlowTable : ∀ c ∈ loopsOf (Try.f64.body.getD .skip), LOk E g_laws_toFlowTable n_laws_toFlowTable L_laws_toFlowTable c := by
  have e : loopsOf (Try.f64.body.getD .skip) = [] := by kernel_rfl
  rw [e]; simp
theorem ok_laws_toFlowTable : FnOk Try.prog 64 e_laws_toFlowTable := FnOk.of (fnOk S_laws_toFlowTable Try.func64 (by kernel_rfl) h_laws_toFlowTable) (fun a => by kernel_rfl)
@[reducible] def s_laws_toSpread : List PS := [.data true TSpread]
@[reducible] def r_laws_toSpread : List (Bool × FT) := [(true, (.pair .str (.sl (.own none) (.int .i64))))]
noncomputable def F_laws_toSpread (a : Args s_laws_toSpread) : Option (resD r_laws_toSpread) := Pu.laws_toSpread a.1
noncomputable def e_laws_toSpread : GEnt := entOf s_laws_toSpread r_laws_toSpread F_laws_toSpread
noncomputable def g_laws_toSpread : Gam := (Gam.nil).add 62 e_laws_toIntS
theorem S_laws_toSpread : Sound Try.prog E g_laws_toSpread := (base).add ok_laws_toIntS
def n_laws_toSpread : An := { mv := [11] }
noncomputable def L_laws_toSpread : Lam := Lam.nil
theorem h_laws_toSpread : ∀ c ∈ loopsOf (Try.f65.body.getD .skip), LOk E g_laws_toSpread n_laws_toSpread L_laws_toSpread c := by
  have e : loopsOf (Try.f65.body.getD .skip) = [] := by kernel_rfl
  rw [e]; simp
theorem ok_laws_toSpread : FnOk Try.prog 65 e_laws_toSpread := FnOk.of (fnOk S_laws_toSpread Try.func65 (by kernel_rfl) h_laws_toSpread) (fun a => by kernel_rfl)
@[reducible] def s_laws_toSteering : List PS := [.data true TSteering]
@[reducible] def r_laws_toSteering : List (Bool × FT) := [(true, (.pair (.sl (.own none) TRule) (.pair (.sl (.own none) TSlot) (.pair .str (.sl (.own none) (.int .i64))))))]
noncomputable def F_laws_toSteering (a : Args s_laws_toSteering) : Option (resD r_laws_toSteering) := Pu.laws_toSteering a.1
noncomputable def e_laws_toSteering : GEnt := entOf s_laws_toSteering r_laws_toSteering F_laws_toSteering
noncomputable def g_laws_toSteering : Gam := (((Gam.nil).add 63 e_laws_toRuleS).add 64 e_laws_toFlowTable).add 65 e_laws_toSpread
theorem S_laws_toSteering : Sound Try.prog E g_laws_toSteering := (((base).add ok_laws_toRuleS).add ok_laws_toFlowTable).add ok_laws_toSpread
def n_laws_toSteering : An := { mv := [16] }
noncomputable def L_laws_toSteering : Lam := Lam.nil
theorem h_laws_toSteering : ∀ c ∈ loopsOf (Try.f41.body.getD .skip), LOk E g_laws_toSteering n_laws_toSteering L_laws_toSteering c := by
  have e : loopsOf (Try.f41.body.getD .skip) = [] := by kernel_rfl
  rw [e]; simp
theorem ok_laws_toSteering : FnOk Try.prog 41 e_laws_toSteering := FnOk.of (fnOk S_laws_toSteering Try.func41 (by kernel_rfl) h_laws_toSteering) (fun a => by kernel_rfl)
@[reducible] def s_laws_toStream : List PS := [.data true TStream]
@[reducible] def r_laws_toStream : List (Bool × FT) := [(true, (.pair (.pair (.int .i64) (.pair (.int .i64) (.pair (.int .i64) (.pair (.int .i64) (.int .i64))))) (.pair (.int .i64) (.pair .str .bool))))]
noncomputable def F_laws_toStream (a : Args s_laws_toStream) : Option (resD r_laws_toStream) := Pu.laws_toStream a.1
noncomputable def e_laws_toStream : GEnt := entOf s_laws_toStream r_laws_toStream F_laws_toStream
noncomputable def g_laws_toStream : Gam := (Gam.nil).add 80 e_laws_toFlow
theorem S_laws_toStream : Sound Try.prog E g_laws_toStream := (base).add ok_laws_toFlow
def n_laws_toStream : An := {  }
noncomputable def L_laws_toStream : Lam := Lam.nil
theorem h_laws_toStream : ∀ c ∈ loopsOf (Try.f66.body.getD .skip), LOk E g_laws_toStream n_laws_toStream L_laws_toStream c := by
  have e : loopsOf (Try.f66.body.getD .skip) = [] := by kernel_rfl
  rw [e]; simp
theorem ok_laws_toStream : FnOk Try.prog 66 e_laws_toStream := FnOk.of (fnOk S_laws_toStream Try.func66 (by kernel_rfl) h_laws_toStream) (fun a => by kernel_rfl)
@[reducible] def s_laws_toStreamS : List PS := [.data false (.sl TStream)]
@[reducible] def r_laws_toStreamS : List (Bool × FT) := [(false, (.sl (.own none) TStream))]
noncomputable def F_laws_toStreamS (a : Args s_laws_toStreamS) : Option (resD r_laws_toStreamS) := Pu.laws_toStreamS a.1
noncomputable def e_laws_toStreamS : GEnt := entOf s_laws_toStreamS r_laws_toStreamS F_laws_toStreamS
noncomputable def g_laws_toStreamS : Gam := (Gam.nil).add 66 e_laws_toStream
theorem S_laws_toStreamS : Sound Try.prog E g_laws_toStreamS := (base).add ok_laws_toStream
def n_laws_toStreamS : An := { mask := fun | 3 => [0, 3, 4] | _ => [], mv := [22] }
@[reducible] def d_laws_toStreamS_3 : SD := ⟨[.data false (.sl .arg TStream), .bot, .bot, .data false (.sl (.own (some 36864)) TStream), .data false (.int .i64), .bot, .bot, .bot, .bot, .bot, .bot, .bot, .bot, .bot, .bot, .bot, .bot, .bot, .bot, .bot, .bot, .bot, .bot], [none, none, none, none, none, none, none, none, none, none, none, none, none, none, none, none, none, none, none, none, none, none, none], none⟩
@[reducible] def d_laws_toStreamS_3_x0 : SD := ⟨[.data false (.sl .arg TStream), .bot, .bot, .data false (.sl (.own (some 36864)) TStream), .data false (.int .i64), .bot, .bot, .bot, .bot, .bot, .bot, .bot, .bot, .bot, .bot, .bot, .bot, .bot, .bot, .bot, .bot, .bot, .bot], [none, none, none, none, none, none, none, none, none, none, none, none, none, none, none, none, none, none, none, none, none, none, none], none⟩
noncomputable def l_laws_toStreamS_3 : LEnt := ⟨d_laws_toStreamS_3, fun X K => iterL (Pu.laws_toStreamS_T3 (fun y0 y1 => K (.exit 0) (SD.enc d_laws_toStreamS_3_x0 (((X.1.1), (y0, (y1, ()))), (), ()))) X.1.1) fuel (X.1.2.1, X.1.2.2.1)⟩
noncomputable def L_laws_toStreamS : Lam := (Lam.nil).add 3 l_laws_toStreamS_3
theorem lok_laws_toStreamS_3 : LOk E g_laws_toStreamS n_laws_toStreamS L_laws_toStreamS (loopBody Try.f42 0) :=
  lok l_laws_toStreamS_3 (by kernel_rfl) fuel fun R X K => (loop_iter (σ := (List Pu.Stream) × Int) (fun x => SD.enc d_laws_toStreamS_3 ((X.1.1, (x.1, (x.2, ()))), (), ())) (Pu.laws_toStreamS_T3 (fun y0 y1 => K (.exit 0) (SD.enc d_laws_toStreamS_3_x0 (((X.1.1), (y0, (y1, ()))), (), ()))) X.1.1) (fun m x => by kernel_rfl) fuel (X.1.2.1, X.1.2.2.1)).symm
theorem h_laws_toStreamS : ∀ c ∈ loopsOf (Try.f42.body.getD .skip), LOk E g_laws_toStreamS n_laws_toStreamS L_laws_toStreamS c := by
  have e : loopsOf (Try.f42.body.getD .skip) = [loopBody Try.f42 0] := by kernel_rfl
  rw [e]; simp only [List.forall_mem_cons]; exact ⟨lok_laws_toStreamS_3, by simp⟩
theorem ok_laws_toStreamS : FnOk Try.prog 42 e_laws_toStreamS := FnOk.of (fnOk S_laws_toStreamS Try.func42 (by kernel_rfl) h_laws_toStreamS) (fun a => by kernel_rfl)
@[reducible] def s_laws_toStringS : List PS := [.data false (.sl .str)]
@[reducible] def r_laws_toStringS : List (Bool × FT) := [(false, (.sl (.own none) .str))]
noncomputable def F_laws_toStringS (a : Args s_laws_toStringS) : Option (resD r_laws_toStringS) := Pu.laws_toStringS a.1
noncomputable def e_laws_toStringS : GEnt := entOf s_laws_toStringS r_laws_toStringS F_laws_toStringS
noncomputable def g_laws_toStringS : Gam := Gam.nil
theorem S_laws_toStringS : Sound Try.prog E g_laws_toStringS := base
def n_laws_toStringS : An := { mask := fun | 3 => [0, 3, 4] | _ => [], mv := [21] }
@[reducible] def d_laws_toStringS_3 : SD := ⟨[.data false (.sl .arg .str), .bot, .bot, .data false (.sl (.own (some 36864)) .str), .data false (.int .i64), .bot, .bot, .bot, .bot, .bot, .bot, .bot, .bot, .bot, .bot, .bot, .bot, .bot, .bot, .bot, .bot, .bot], [none, none, none, none, none, none, none, none, none, none, none, none, none, none, none, none, none, none, none, none, none, none], none⟩
@[reducible] def d_laws_toStringS_3_x0 : SD := ⟨[.data false (.sl .arg .str), .bot, .bot, .data false (.sl (.own (some 36864)) .str), .data false (.int .i64), .bot, .bot, .bot, .bot, .bot, .bot, .bot, .bot, .bot, .bot, .bot, .bot, .bot, .bot, .bot, .bot, .bot], [none, none, none, none, none, none, none, none, none, none, none, none, none, none, none, none, none, none, none, none, none, none], none⟩
noncomputable def l_laws_toStringS_3 : LEnt := ⟨d_laws_toStringS_3, fun X K => iterL (Pu.laws_toStringS_T3 (fun y0 y1 => K (.exit 0) (SD.enc d_laws_toStringS_3_x0 (((X.1.1), (y0, (y1, ()))), (), ()))) X.1.1) fuel (X.1.2.1, X.1.2.2.1)⟩
noncomputable def L_laws_toStringS : Lam := (Lam.nil).add 3 l_laws_toStringS_3
theorem lok_laws_toStringS_3 : LOk E g_laws_toStringS n_laws_toStringS L_laws_toStringS (loopBody Try.f43 0) :=
  lok l_laws_toStringS_3 (by kernel_rfl) fuel fun R X K => (loop_iter (σ := (List Pu.Bytes) × Int) (fun x => SD.enc d_laws_toStringS_3 ((X.1.1, (x.1, (x.2, ()))), (), ())) (Pu.laws_toStringS_T3 (fun y0 y1 => K (.exit 0) (SD.enc d_laws_toStringS_3_x0 (((X.1.1), (y0, (y1, ()))), (), ()))) X.1.1) (fun m x => by kernel_rfl) fuel (X.1.2.1, X.1.2.2.1)).symm
theorem h_laws_toStringS : ∀ c ∈ loopsOf (Try.f43.body.getD .skip), LOk E g_laws_toStringS n_laws_toStringS L_laws_toStringS c := by
  have e : loopsOf (Try.f43.body.getD .skip) = [loopBody Try.f43 0] := by kernel_rfl
  rw [e]; simp only [List.forall_mem_cons]; exact ⟨lok_laws_toStringS_3, by simp⟩
theorem ok_laws_toStringS : FnOk Try.prog 43 e_laws_toStringS := FnOk.of (fnOk S_laws_toStringS Try.func43 (by kernel_rfl) h_laws_toStringS) (fun a => by kernel_rfl)
@[reducible] def s_laws_toSoft : List PS := [.data true TSoft]
@[reducible] def r_laws_toSoft : List (Bool × FT) := [(true, (.pair (.pair (.int .i64) (.pair .bool (.sl (.own none) (.int .i64)))) (.pair (.pair (.sl (.own none) TRule) (.pair (.sl (.own none) TSlot) (.pair .str (.sl (.own none) (.int .i64))))) (.pair (.int .i64) (.pair (.sl (.own none) TStream) (.sl (.own none) .str))))))]
noncomputable def F_laws_toSoft (a : Args s_laws_toSoft) : Option (resD r_laws_toSoft) := Pu.laws_toSoft a.1
noncomputable def e_laws_toSoft : GEnt := entOf s_laws_toSoft r_laws_toSoft F_laws_toSoft
noncomputable def g_laws_toSoft : Gam := ((((Gam.nil).add 40 e_laws_toFilter).add 41 e_laws_toSteering).add 42 e_laws_toStreamS).add 43 e_laws_toStringS
theorem S_laws_toSoft : Sound Try.prog E g_laws_toSoft := ((((base).add ok_laws_toFilter).add ok_laws_toSteering).add ok_laws_toStreamS).add ok_laws_toStringS
def n_laws_toSoft : An := { mv := [23] }
noncomputable def L_laws_toSoft : Lam := Lam.nil
theorem h_laws_toSoft : ∀ c ∈ loopsOf (Try.f16.body.getD .skip), LOk E g_laws_toSoft n_laws_toSoft L_laws_toSoft c := by
  have e : loopsOf (Try.f16.body.getD .skip) = [] := by kernel_rfl
  rw [e]; simp
theorem ok_laws_toSoft : FnOk Try.prog 16 e_laws_toSoft := FnOk.of (fnOk S_laws_toSoft Try.func16 (by kernel_rfl) h_laws_toSoft) (fun a => by kernel_rfl)
@[reducible] def s_impl_between : List PS := [.data false (.int .i64), .data false (.int .i64), .data false (.int .i64)]
@[reducible] def r_impl_between : List (Bool × FT) := [(false, .bool)]
noncomputable def F_impl_between (a : Args s_impl_between) : Option (resD r_impl_between) := Pu.impl_between a.1 a.2.1 a.2.2.1
noncomputable def e_impl_between : GEnt := entOf s_impl_between r_impl_between F_impl_between
noncomputable def g_impl_between : Gam := Gam.nil
theorem S_impl_between : Sound Try.prog E g_impl_between := base
def n_impl_between : An := { merge := fun | 1 => some 6 | _ => none }
noncomputable def L_impl_between : Lam := Lam.nil
theorem h_impl_between : ∀ c ∈ loopsOf (Try.f25.body.getD .skip), LOk E g_impl_between n_impl_between L_impl_between c := by
  have e : loopsOf (Try.f25.body.getD .skip) = [] := by kernel_rfl
  rw [e]; simp
theorem ok_impl_between : FnOk Try.prog 25 e_impl_between := FnOk.of (fnOk S_impl_between Try.func25 (by kernel_rfl) h_impl_between) (fun a => by kernel_rfl)
@[reducible] def s_impl_FilterOk : List PS := [.data true TFilter]
@[reducible] def r_impl_FilterOk : List (Bool × FT) := [(false, .bool)]
noncomputable def F_impl_FilterOk (a : Args s_impl_FilterOk) : Option (resD r_impl_FilterOk) := Pu.impl_FilterOk a.1
noncomputable def e_impl_FilterOk : GEnt := entOf s_impl_FilterOk r_impl_FilterOk F_impl_FilterOk
noncomputable def g_impl_FilterOk : Gam := (Gam.nil).add 25 e_impl_between
theorem S_impl_FilterOk : Sound Try.prog E g_impl_FilterOk := (base).add ok_impl_between
def n_impl_FilterOk : An := { mask := fun | 2 => [1, 2, 6, 7, 8] | _ => [], merge := fun | 4 => some 29 | 7 => some 2 | _ => none }
@[reducible] def d_impl_FilterOk_2 : SD := ⟨[.bot, .ptr 1 0, .data false .bool, .bot, .bot, .bot, .data false (.sl .arg (.int .i64)), .data false (.int .i64), .data false (.int .i64), .bot, .bot, .bot, .bot, .bot, .bot, .bot, .bot, .bot, .bot, .bot, .bot, .bot, .bot, .bot, .bot, .bot, .bot, .bot, .bot, .bot, .bot, .bot, .bot, .bot, .bot, .bot, .bot, .bot, .bot, .bot], [none, some (.pair (.int .i64) (.pair .bool (.sl .arg (.int .i64)))), none, none, none, none, none, none, none, none, none, none, none, none, none, none, none, none, none, none, none, none, none, none, none, none, none, none, none, none, none, none, none, none, none, none, none, none, none, none], none⟩
@[reducible] def d_impl_FilterOk_2_x0 : SD := ⟨[.bot, .ptr 1 0, .data false .bool, .bot, .bot, .bot, .data false (.sl .arg (.int .i64)), .data false (.int .i64), .data false (.int .i64), .bot, .bot, .bot, .bot, .bot, .bot, .bot, .bot, .bot, .bot, .bot, .bot, .bot, .bot, .bot, .bot, .bot, .bot, .bot, .bot, .bot, .bot, .bot, .bot, .bot, .bot, .bot, .bot, .bot, .bot, .bot], [none, some (.pair (.int .i64) (.pair .bool (.sl .arg (.int .i64)))), none, none, none, none, none, none, none, none, none, none, none, none, none, none, none, none, none, none, none, none, none, none, none, none, none, none, none, none, none, none, none, none, none, none, none, none, none, none], none⟩
@[reducible] def d_impl_FilterOk_2_ret : SD := ⟨[.bot, .ptr 1 0, .data false .bool, .bot, .bot, .bot, .data false (.sl .arg (.int .i64)), .data false (.int .i64), .data false (.int .i64), .bot, .bot, .bot, .bot, .bot, .bot, .bot, .bot, .bot, .bot, .bot, .bot, .bot, .bot, .bot, .bot, .bot, .bot, .bot, .bot, .bot, .bot, .bot, .bot, .bot, .bot, .bot, .bot, .bot, .bot, .bot], [none, some (.pair (.int .i64) (.pair .bool (.sl .arg (.int .i64)))), none, none, none, none, none, none, none, none, none, none, none, none, none, none, none, none, none, none, none, none, none, none, none, none, none, none, none, none, none, none, none, none, none, none, none, none, none, none], none⟩
noncomputable def l_impl_FilterOk_2 : LEnt := ⟨d_impl_FilterOk_2, fun X K => iterL (Pu.impl_FilterOk_T2 (fun y0 => K (.exit 0) (SD.enc d_impl_FilterOk_2_x0 (((X.1.1), ((X.1.2.1), ((X.1.2.2.1), (y0, ())))), ((X.2.1.1), ()), ()))) (fun y0 y1 => K .ret (SD.enc d_impl_FilterOk_2_ret ((y0, ((X.1.2.1), ((X.1.2.2.1), (y1, ())))), ((X.2.1.1), ()), ()))) X.1.1 X.1.2.1 X.1.2.2.1 X.2.1.1) fuel X.1.2.2.2.1⟩
noncomputable def L_impl_FilterOk : Lam := (Lam.nil).add 2 l_impl_FilterOk_2
theorem lok_impl_FilterOk_2 : LOk E g_impl_FilterOk n_impl_FilterOk L_impl_FilterOk (loopBody Try.f44 0) :=
  lok l_impl_FilterOk_2 (by kernel_rfl) fuel fun R X K => (loop_iter (σ := Int) (fun x => SD.enc d_impl_FilterOk_2 ((X.1.1, (X.1.2.1, (X.1.2.2.1, (x, ())))), (X.2.1.1, ()), ())) (Pu.impl_FilterOk_T2 (fun y0 => K (.exit 0) (SD.enc d_impl_FilterOk_2_x0 (((X.1.1), ((X.1.2.1), ((X.1.2.2.1), (y0, ())))), ((X.2.1.1), ()), ()))) (fun y0 y1 => K .ret (SD.enc d_impl_FilterOk_2_ret ((y0, ((X.1.2.1), ((X.1.2.2.1), (y1, ())))), ((X.2.1.1), ()), ()))) X.1.1 X.1.2.1 X.1.2.2.1 X.2.1.1) (fun m x => by kernel_rfl) fuel X.1.2.2.2.1).symm
theorem h_impl_FilterOk : ∀ c ∈ loopsOf (Try.f44.body.getD .skip), LOk E g_impl_FilterOk n_impl_FilterOk L_impl_FilterOk c := by
  have e : loopsOf (Try.f44.body.getD .skip) = [loopBody Try.f44 0] := by kernel_rfl
  rw [e]; simp only [List.forall_mem_cons]; exact ⟨lok_impl_FilterOk_2, by simp⟩
theorem ok_impl_FilterOk : FnOk Try.prog 44 e_impl_FilterOk := FnOk.of (fnOk S_impl_FilterOk Try.func44 (by kernel_rfl) h_impl_FilterOk) (fun a => by kernel_rfl)
@[reducible] def s_impl_RuleOk : List PS := [.data true TRule]
@[reducible] def r_impl_RuleOk : List (Bool × FT) := [(false, .bool)]
noncomputable def F_impl_RuleOk (a : Args s_impl_RuleOk) : Option (resD r_impl_RuleOk) := Pu.impl_RuleOk a.1
noncomputable def e_impl_RuleOk : GEnt := entOf s_impl_RuleOk r_impl_RuleOk F_impl_RuleOk
noncomputable def g_impl_RuleOk : Gam := (Gam.nil).add 25 e_impl_between
theorem S_impl_RuleOk : Sound Try.prog E g_impl_RuleOk := (base).add ok_impl_between
def n_impl_RuleOk : An := { merge := fun | 1 => some 33 | 3 => some 54 | 5 => some 2 | _ => none }
noncomputable def L_impl_RuleOk : Lam := Lam.nil
theorem h_impl_RuleOk : ∀ c ∈ loopsOf (Try.f81.body.getD .skip), LOk E g_impl_RuleOk n_impl_RuleOk L_impl_RuleOk c := by
  have e : loopsOf (Try.f81.body.getD .skip) = [] := by kernel_rfl
  rw [e]; simp
theorem ok_impl_RuleOk : FnOk Try.prog 81 e_impl_RuleOk := FnOk.of (fnOk S_impl_RuleOk Try.func81 (by kernel_rfl) h_impl_RuleOk) (fun a => by kernel_rfl)
@[reducible] def s_impl_RulesOk : List PS := [.data false (.sl TRule)]
@[reducible] def r_impl_RulesOk : List (Bool × FT) := [(false, .bool)]
noncomputable def F_impl_RulesOk (a : Args s_impl_RulesOk) : Option (resD r_impl_RulesOk) := Pu.impl_RulesOk a.1
noncomputable def e_impl_RulesOk : GEnt := entOf s_impl_RulesOk r_impl_RulesOk F_impl_RulesOk
noncomputable def g_impl_RulesOk : Gam := (Gam.nil).add 81 e_impl_RuleOk
theorem S_impl_RulesOk : Sound Try.prog E g_impl_RulesOk := (base).add ok_impl_RuleOk
def n_impl_RulesOk : An := { mask := fun | 2 => [0, 2, 5, 6, 7] | _ => [] }
@[reducible] def d_impl_RulesOk_2 : SD := ⟨[.data false (.sl .arg TRule), .bot, .data false .bool, .bot, .bot, .data false (.sl .arg TRule), .data false (.int .i64), .data false (.int .i64), .bot, .bot, .bot, .bot, .bot, .bot, .bot, .bot, .bot, .bot], [none, none, none, none, none, none, none, none, none, none, none, none, none, none, none, none, none, none], none⟩
@[reducible] def d_impl_RulesOk_2_x0 : SD := ⟨[.data false (.sl .arg TRule), .bot, .data false .bool, .bot, .bot, .data false (.sl .arg TRule), .data false (.int .i64), .data false (.int .i64), .bot, .bot, .bot, .bot, .bot, .bot, .bot, .bot, .bot, .bot], [none, none, none, none, none, none, none, none, none, none, none, none, none, none, none, none, none, none], none⟩
@[reducible] def d_impl_RulesOk_2_ret : SD := ⟨[.data false (.sl .arg TRule), .bot, .data false .bool, .bot, .bot, .data false (.sl .arg TRule), .data false (.int .i64), .data false (.int .i64), .bot, .bot, .bot, .bot, .bot, .bot, .bot, .bot, .bot, .bot], [none, none, none, none, none, none, none, none, none, none, none, none, none, none, none, none, none, none], none⟩
noncomputable def l_impl_RulesOk_2 : LEnt := ⟨d_impl_RulesOk_2, fun X K => iterL (Pu.impl_RulesOk_T2 (fun y0 => K (.exit 0) (SD.enc d_impl_RulesOk_2_x0 (((X.1.1), ((X.1.2.1), ((X.1.2.2.1), ((X.1.2.2.2.1), (y0, ()))))), (), ()))) (fun y0 y1 => K .ret (SD.enc d_impl_RulesOk_2_ret (((X.1.1), (y0, ((X.1.2.2.1), ((X.1.2.2.2.1), (y1, ()))))), (), ()))) X.1.1 X.1.2.1 X.1.2.2.1 X.1.2.2.2.1) fuel X.1.2.2.2.2.1⟩
noncomputable def L_impl_RulesOk : Lam := (Lam.nil).add 2 l_impl_RulesOk_2
theorem lok_impl_RulesOk_2 : LOk E g_impl_RulesOk n_impl_RulesOk L_impl_RulesOk (loopBody Try.f67 0) :=
  lok l_impl_RulesOk_2 (by kernel_rfl) fuel fun R X K => (loop_iter (σ := Int) (fun x => SD.enc d_impl_RulesOk_2 ((X.1.1, (X.1.2.1, (X.1.2.2.1, (X.1.2.2.2.1, (x, ()))))), (), ())) (Pu.impl_RulesOk_T2 (fun y0 => K (.exit 0) (SD.enc d_impl_RulesOk_2_x0 (((X.1.1), ((X.1.2.1), ((X.1.2.2.1), ((X.1.2.2.2.1), (y0, ()))))), (), ()))) (fun y0 y1 => K .ret (SD.enc d_impl_RulesOk_2_ret (((X.1.1), (y0, ((X.1.2.2.1), ((X.1.2.2.2.1), (y1, ()))))), (), ()))) X.1.1 X.1.2.1 X.1.2.2.1 X.1.2.2.2.1) (fun m x => by kernel_rfl) fuel X.1.2.2.2.2.1).symm
theorem h_impl_RulesOk : ∀ c ∈ loopsOf (Try.f67.body.getD .skip), LOk E g_impl_RulesOk n_impl_RulesOk L_impl_RulesOk c := by
  have e : loopsOf (Try.f67.body.getD .skip) = [loopBody Try.f67 0] := by kernel_rfl
  rw [e]; simp only [List.forall_mem_cons]; exact ⟨lok_impl_RulesOk_2, by simp⟩
theorem ok_impl_RulesOk : FnOk Try.prog 67 e_impl_RulesOk := FnOk.of (fnOk S_impl_RulesOk Try.func67 (by kernel_rfl) h_impl_RulesOk) (fun a => by kernel_rfl)
@[reducible] def s_impl_slotOf : List PS := [.data true (.sl TSlot), .data true TFlow]
@[reducible] def r_impl_slotOf : List (Bool × FT) := [(false, (.int .i64))]
noncomputable def F_impl_slotOf (a : Args s_impl_slotOf) : Option (resD r_impl_slotOf) := Pu.impl_slotOf a.1 a.2.1
noncomputable def e_impl_slotOf : GEnt := entOf s_impl_slotOf r_impl_slotOf F_impl_slotOf
noncomputable def g_impl_slotOf : Gam := Gam.nil
theorem S_impl_slotOf : Sound Try.prog E g_impl_slotOf := base
def n_impl_slotOf : An := { mask := fun | 2 => [3, 4, 8, 9, 10] | _ => [], merge := fun | 4 => some 23 | _ => none }
@[reducible] def d_impl_slotOf_2 : SD := ⟨[.bot, .bot, .bot, .ptr 3 0, .data false (.int .i64), .bot, .bot, .bot, .data false (.sl .arg TSlot), .data false (.int .i64), .data false (.int .i64), .bot, .bot, .bot, .bot, .bot, .bot, .bot, .bot, .bot, .bot, .bot, .bot, .bot, .bot, .bot], [none, none, none, some (.pair (.int .i64) (.pair (.int .i64) (.pair (.int .i64) (.pair (.int .i64) (.int .i64))))), none, none, none, none, none, none, none, none, none, none, none, none, none, none, none, none, none, none, none, none, none, none], none⟩
@[reducible] def d_impl_slotOf_2_x0 : SD := ⟨[.bot, .bot, .bot, .ptr 3 0, .data false (.int .i64), .bot, .bot, .bot, .data false (.sl .arg TSlot), .data false (.int .i64), .data false (.int .i64), .bot, .bot, .bot, .bot, .bot, .bot, .bot, .bot, .bot, .bot, .bot, .bot, .bot, .bot, .bot], [none, none, none, some (.pair (.int .i64) (.pair (.int .i64) (.pair (.int .i64) (.pair (.int .i64) (.int .i64))))), none, none, none, none, none, none, none, none, none, none, none, none, none, none, none, none, none, none, none, none, none, none], none⟩
@[reducible] def d_impl_slotOf_2_ret : SD := ⟨[.bot, .bot, .bot, .ptr 3 0, .data false (.int .i64), .bot, .bot, .bot, .data false (.sl .arg TSlot), .data false (.int .i64), .data false (.int .i64), .bot, .bot, .bot, .bot, .bot, .bot, .bot, .bot, .bot, .bot, .bot, .bot, .bot, .bot, .bot], [none, none, none, some (.pair (.int .i64) (.pair (.int .i64) (.pair (.int .i64) (.pair (.int .i64) (.int .i64))))), none, none, none, none, none, none, none, none, none, none, none, none, none, none, none, none, none, none, none, none, none, none], none⟩
noncomputable def l_impl_slotOf_2 : LEnt := ⟨d_impl_slotOf_2, fun X K => iterL (Pu.impl_slotOf_T2 (fun y0 => K (.exit 0) (SD.enc d_impl_slotOf_2_x0 (((X.1.1), ((X.1.2.1), ((X.1.2.2.1), (y0, ())))), ((X.2.1.1), ()), ()))) (fun y0 y1 => K .ret (SD.enc d_impl_slotOf_2_ret ((y0, ((X.1.2.1), ((X.1.2.2.1), (y1, ())))), ((X.2.1.1), ()), ()))) X.1.1 X.1.2.1 X.1.2.2.1 X.2.1.1) fuel X.1.2.2.2.1⟩
noncomputable def L_impl_slotOf : Lam := (Lam.nil).add 2 l_impl_slotOf_2
theorem lok_impl_slotOf_2 : LOk E g_impl_slotOf n_impl_slotOf L_impl_slotOf (loopBody Try.f82 0) :=
  lok l_impl_slotOf_2 (by kernel_rfl) fuel fun R X K => (loop_iter (σ := Int) (fun x => SD.enc d_impl_slotOf_2 ((X.1.1, (X.1.2.1, (X.1.2.2.1, (x, ())))), (X.2.1.1, ()), ())) (Pu.impl_slotOf_T2 (fun y0 => K (.exit 0) (SD.enc d_impl_slotOf_2_x0 (((X.1.1), ((X.1.2.1), ((X.1.2.2.1), (y0, ())))), ((X.2.1.1), ()), ()))) (fun y0 y1 => K .ret (SD.enc d_impl_slotOf_2_ret ((y0, ((X.1.2.1), ((X.1.2.2.1), (y1, ())))), ((X.2.1.1), ()), ()))) X.1.1 X.1.2.1 X.1.2.2.1 X.2.1.1) (fun m x => by kernel_rfl) fuel X.1.2.2.2.1).symm
theorem h_impl_slotOf : ∀ c ∈ loopsOf (Try.f82.body.getD .skip), LOk E g_impl_slotOf n_impl_slotOf L_impl_slotOf c := by
  have e : loopsOf (Try.f82.body.getD .skip) = [loopBody Try.f82 0] := by kernel_rfl
  rw [e]; simp only [List.forall_mem_cons]; exact ⟨lok_impl_slotOf_2, by simp⟩
theorem ok_impl_slotOf : FnOk Try.prog 82 e_impl_slotOf := FnOk.of (fnOk S_impl_slotOf Try.func82 (by kernel_rfl) h_impl_slotOf) (fun a => by kernel_rfl)
@[reducible] def s_impl_modulo : List PS := [.data false (.int .i64), .data false (.int .i64)]
@[reducible] def r_impl_modulo : List (Bool × FT) := [(false, (.int .i64))]
noncomputable def F_impl_modulo (a : Args s_impl_modulo) : Option (resD r_impl_modulo) := Pu.impl_modulo a.1 a.2.1
noncomputable def e_impl_modulo : GEnt := entOf s_impl_modulo r_impl_modulo F_impl_modulo
noncomputable def g_impl_modulo : Gam := Gam.nil
theorem S_impl_modulo : Sound Try.prog E g_impl_modulo := base
def n_impl_modulo : An := {  }
noncomputable def L_impl_modulo : Lam := Lam.nil
theorem h_impl_modulo : ∀ c ∈ loopsOf (Try.f92.body.getD .skip), LOk E g_impl_modulo n_impl_modulo L_impl_modulo c := by
  have e : loopsOf (Try.f92.body.getD .skip) = [] := by kernel_rfl
  rw [e]; simp
theorem ok_impl_modulo : FnOk Try.prog 92 e_impl_modulo := FnOk.of (fnOk S_impl_modulo Try.func92 (by kernel_rfl) h_impl_modulo) (fun a => by kernel_rfl)
@[reducible] def s_impl_HomeSlot : List PS := [.data true TFlow]
@[reducible] def r_impl_HomeSlot : List (Bool × FT) := [(false, (.int .i64))]
noncomputable def F_impl_HomeSlot (a : Args s_impl_HomeSlot) : Option (resD r_impl_HomeSlot) := Pu.impl_HomeSlot a.1
noncomputable def e_impl_HomeSlot : GEnt := entOf s_impl_HomeSlot r_impl_HomeSlot F_impl_HomeSlot
noncomputable def g_impl_HomeSlot : Gam := (Gam.nil).add 92 e_impl_modulo
theorem S_impl_HomeSlot : Sound Try.prog E g_impl_HomeSlot := (base).add ok_impl_modulo
def n_impl_HomeSlot : An := { mask := fun | 3 => [3, 16, 17, 18] | _ => [] }
@[reducible] def d_impl_HomeSlot_3 : SD := ⟨[.bot, .bot, .bot, .data false (.int .i64), .bot, .bot, .bot, .bot, .bot, .bot, .bot, .bot, .bot, .bot, .bot, .bot, .data false (.sl (.own (some 196608)) (.int .i64)), .data false (.int .i64), .data false (.int .i64), .bot, .bot, .bot, .bot, .bot, .bot, .bot, .bot, .bot, .bot], [none, none, none, none, none, none, none, none, none, none, none, none, none, none, none, none, none, none, none, none, none, none, none, none, none, none, none, none, none], none⟩
@[reducible] def d_impl_HomeSlot_3_x0 : SD := ⟨[.bot, .bot, .bot, .data false (.int .i64), .bot, .bot, .bot, .bot, .bot, .bot, .bot, .bot, .bot, .bot, .bot, .bot, .data false (.sl (.own (some 196608)) (.int .i64)), .data false (.int .i64), .data false (.int .i64), .bot, .bot, .bot, .bot, .bot, .bot, .bot, .bot, .bot, .bot], [none, none, none, none, none, none, none, none, none, none, none, none, none, none, none, none, none, none, none, none, none, none, none, none, none, none, none, none, none], none⟩
noncomputable def l_impl_HomeSlot_3 : LEnt := ⟨d_impl_HomeSlot_3, fun X K => iterL (Pu.impl_HomeSlot_T3 (fun y0 y1 => K (.exit 0) (SD.enc d_impl_HomeSlot_3_x0 ((y0, ((X.1.2.1), ((X.1.2.2.1), (y1, ())))), (), ()))) X.1.2.1 X.1.2.2.1) fuel (X.1.1, X.1.2.2.2.1)⟩
noncomputable def L_impl_HomeSlot : Lam := (Lam.nil).add 3 l_impl_HomeSlot_3
theorem lok_impl_HomeSlot_3 : LOk E g_impl_HomeSlot n_impl_HomeSlot L_impl_HomeSlot (loopBody Try.f90 0) :=
  lok l_impl_HomeSlot_3 (by kernel_rfl) fuel fun R X K => (loop_iter (σ := Int × Int) (fun x => SD.enc d_impl_HomeSlot_3 ((x.1, (X.1.2.1, (X.1.2.2.1, (x.2, ())))), (), ())) (Pu.impl_HomeSlot_T3 (fun y0 y1 => K (.exit 0) (SD.enc d_impl_HomeSlot_3_x0 ((y0, ((X.1.2.1), ((X.1.2.2.1), (y1, ())))), (), ()))) X.1.2.1 X.1.2.2.1) (fun m x => by kernel_rfl) fuel (X.1.1, X.1.2.2.2.1)).symm
theorem h_impl_HomeSlot : ∀ c ∈ loopsOf (Try.f90.body.getD .skip), LOk E g_impl_HomeSlot n_impl_HomeSlot L_impl_HomeSlot c := by
  have e : loopsOf (Try.f90.body.getD .skip) = [loopBody Try.f90 0] := by kernel_rfl
  rw [e]; simp only [List.forall_mem_cons]; exact ⟨lok_impl_HomeSlot_3, by simp⟩
theorem ok_impl_HomeSlot : FnOk Try.prog 90 e_impl_HomeSlot := FnOk.of (fnOk S_impl_HomeSlot Try.func90 (by kernel_rfl) h_impl_HomeSlot) (fun a => by kernel_rfl)
@[reducible] def s_impl_wayOf : List PS := [.data true TFlow]
@[reducible] def r_impl_wayOf : List (Bool × FT) := [(false, (.sl (.own none) (.int .i64)))]
noncomputable def F_impl_wayOf (a : Args s_impl_wayOf) : Option (resD r_impl_wayOf) := Pu.impl_wayOf a.1
noncomputable def e_impl_wayOf : GEnt := entOf s_impl_wayOf r_impl_wayOf F_impl_wayOf
noncomputable def g_impl_wayOf : Gam := (Gam.nil).add 90 e_impl_HomeSlot
theorem S_impl_wayOf : Sound Try.prog E g_impl_wayOf := (base).add ok_impl_HomeSlot
def n_impl_wayOf : An := { mask := fun | 3 => [1, 3, 4] | _ => [], mv := [10, 18] }
@[reducible] def d_impl_wayOf_3 : SD := ⟨[.bot, .ptr 1 0, .bot, .data false (.sl (.own (some 36864)) (.int .i64)), .data false (.int .i64), .bot, .bot, .bot, .bot, .bot, .bot, .bot, .bot, .bot, .bot, .bot, .bot, .bot, .bot], [none, some (.pair (.int .i64) (.pair (.int .i64) (.pair (.int .i64) (.pair (.int .i64) (.int .i64))))), none, none, none, none, none, none, none, none, none, none, none, none, none, none, none, none, none], none⟩
@[reducible] def d_impl_wayOf_3_x0 : SD := ⟨[.bot, .ptr 1 0, .bot, .data false (.sl (.own (some 36864)) (.int .i64)), .data false (.int .i64), .bot, .bot, .bot, .bot, .bot, .bot, .bot, .bot, .bot, .bot, .bot, .bot, .bot, .bot], [none, some (.pair (.int .i64) (.pair (.int .i64) (.pair (.int .i64) (.pair (.int .i64) (.int .i64))))), none, none, none, none, none, none, none, none, none, none, none, none, none, none, none, none, none], none⟩
noncomputable def l_impl_wayOf_3 : LEnt := ⟨d_impl_wayOf_3, fun X K => iterL (Pu.impl_wayOf_T3 (fun y0 y1 => K (.exit 0) (SD.enc d_impl_wayOf_3_x0 ((y0, (y1, ())), ((X.2.1.1), ()), ()))) X.2.1.1) fuel (X.1.1, X.1.2.1)⟩
noncomputable def L_impl_wayOf : Lam := (Lam.nil).add 3 l_impl_wayOf_3
theorem lok_impl_wayOf_3 : LOk E g_impl_wayOf n_impl_wayOf L_impl_wayOf (loopBody Try.f83 0) :=
  lok l_impl_wayOf_3 (by kernel_rfl) fuel fun R X K => (loop_iter (σ := (List Int) × Int) (fun x => SD.enc d_impl_wayOf_3 ((x.1, (x.2, ())), (X.2.1.1, ()), ())) (Pu.impl_wayOf_T3 (fun y0 y1 => K (.exit 0) (SD.enc d_impl_wayOf_3_x0 ((y0, (y1, ())), ((X.2.1.1), ()), ()))) X.2.1.1) (fun m x => by kernel_rfl) fuel (X.1.1, X.1.2.1)).symm
theorem h_impl_wayOf : ∀ c ∈ loopsOf (Try.f83.body.getD .skip), LOk E g_impl_wayOf n_impl_wayOf L_impl_wayOf c := by
  have e : loopsOf (Try.f83.body.getD .skip) = [loopBody Try.f83 0] := by kernel_rfl
  rw [e]; simp only [List.forall_mem_cons]; exact ⟨lok_impl_wayOf_3, by simp⟩
theorem ok_impl_wayOf : FnOk Try.prog 83 e_impl_wayOf := FnOk.of (fnOk S_impl_wayOf Try.func83 (by kernel_rfl) h_impl_wayOf) (fun a => by kernel_rfl)
@[reducible] def s_impl_TableOk : List PS := [.data true (.sl TSlot)]
@[reducible] def r_impl_TableOk : List (Bool × FT) := [(false, .bool)]
noncomputable def F_impl_TableOk (a : Args s_impl_TableOk) : Option (resD r_impl_TableOk) := Pu.impl_TableOk a.1
noncomputable def e_impl_TableOk : GEnt := entOf s_impl_TableOk r_impl_TableOk F_impl_TableOk
noncomputable def g_impl_TableOk : Gam := (((Gam.nil).add 25 e_impl_between).add 82 e_impl_slotOf).add 83 e_impl_wayOf
theorem S_impl_TableOk : Sound Try.prog E g_impl_TableOk := (((base).add ok_impl_between).add ok_impl_slotOf).add ok_impl_wayOf
def n_impl_TableOk : An := { mask := fun | 4 => [1, 2, 12, 13, 14] | 14 => [1, 2, 3, 12, 13, 14, 49, 50, 51] | _ => [], merge := fun | 6 => some 28 | 9 => some 40 | _ => none }
@[reducible] def d_impl_TableOk_14 : SD := ⟨[.bot, .ptr 1 0, .data false .bool, .data false (.int .i64), .bot, .bot, .bot, .bot, .bot, .bot, .bot, .bot, .data false (.sl .arg TSlot), .data false (.int .i64), .data false (.int .i64), .bot, .bot, .bot, .bot, .bot, .bot, .bot, .bot, .bot, .bot, .bot, .bot, .bot, .bot, .bot, .bot, .bot, .bot, .bot, .bot, .bot, .bot, .bot, .bot, .bot, .bot, .bot, .bot, .bot, .bot, .bot, .bot, .bot, .bot, .data false (.sl (.own (some 602112)) (.int .i64)), .data false (.int .i64), .data false (.int .i64), .bot, .bot, .bot, .bot, .bot, .bot, .bot, .bot, .bot, .bot, .bot, .bot, .bot, .bot, .bot], [none, some (.sl .arg TSlot), none, none, none, none, none, none, none, none, none, none, none, none, none, none, none, none, none, none, none, none, none, none, none, none, none, none, none, none, none, none, none, none, none, none, none, none, none, none, none, none, none, none, none, none, none, none, none, none, none, none, none, none, none, none, none, none, none, none, none, none, none, none, none, none, none], none⟩
@[reducible] def d_impl_TableOk_14_x2 : SD := ⟨[.bot, .ptr 1 0, .data false .bool, .data false (.int .i64), .bot, .bot, .bot, .bot, .bot, .bot, .bot, .bot, .data false (.sl .arg TSlot), .data false (.int .i64), .data false (.int .i64), .bot, .bot, .bot, .bot, .bot, .bot, .bot, .bot, .bot, .bot, .bot, .bot, .bot, .bot, .bot, .bot, .bot, .bot, .bot, .bot, .bot, .bot, .bot, .bot, .bot, .bot, .bot, .bot, .bot, .bot, .bot, .bot, .bot, .bot, .data false (.sl (.own (some 602112)) (.int .i64)), .data false (.int .i64), .data false (.int .i64), .bot, .bot, .bot, .bot, .bot, .bot, .bot, .bot, .bot, .bot, .bot, .bot, .bot, .bot, .bot], [none, some (.sl .arg TSlot), none, none, none, none, none, none, none, none, none, none, none, none, none, none, none, none, none, none, none, none, none, none, none, none, none, none, none, none, none, none, none, none, none, none, none, none, none, none, none, none, none, none, none, none, none, none, none, none, none, none, none, none, none, none, none, none, none, none, none, none, none, none, none, none, none], none⟩
@[reducible] def d_impl_TableOk_14_ret : SD := ⟨[.bot, .ptr 1 0, .data false .bool, .data false (.int .i64), .bot, .bot, .bot, .bot, .bot, .bot, .bot, .bot, .data false (.sl .arg TSlot), .data false (.int .i64), .data false (.int .i64), .bot, .bot, .bot, .bot, .bot, .bot, .bot, .bot, .bot, .bot, .bot, .bot, .bot, .bot, .bot, .bot, .bot, .bot, .bot, .bot, .bot, .bot, .bot, .bot, .bot, .bot, .bot, .bot, .bot, .bot, .bot, .bot, .bot, .bot, .data false (.sl (.own (some 602112)) (.int .i64)), .data false (.int .i64), .data false (.int .i64), .bot, .bot, .bot, .bot, .bot, .bot, .bot, .bot, .bot, .bot, .bot, .bot, .bot, .bot, .bot], [none, some (.sl .arg TSlot), none, none, none, none, none, none, none, none, none, none, none, none, none, none, none, none, none, none, none, none, none, none, none, none, none, none, none, none, none, none, none, none, none, none, none, none, none, none, none, none, none, none, none, none, none, none, none, none, none, none, none, none, none, none, none, none, none, none, none, none, none, none, none, none, none], none⟩
noncomputable def l_impl_TableOk_14 : LEnt := ⟨d_impl_TableOk_14, fun X K => iterL (Pu.impl_TableOk_T14 (fun y0 => K (.exit 2) (SD.enc d_impl_TableOk_14_x2 (((X.1.1), ((X.1.2.1), ((X.1.2.2.1), ((X.1.2.2.2.1), ((X.1.2.2.2.2.1), ((X.1.2.2.2.2.2.1), ((X.1.2.2.2.2.2.2.1), (y0, ())))))))), ((X.2.1.1), ()), ()))) (fun y0 y1 => K .ret (SD.enc d_impl_TableOk_14_ret ((y0, ((X.1.2.1), ((X.1.2.2.1), ((X.1.2.2.2.1), ((X.1.2.2.2.2.1), ((X.1.2.2.2.2.2.1), ((X.1.2.2.2.2.2.2.1), (y1, ())))))))), ((X.2.1.1), ()), ()))) X.1.1 X.1.2.1 X.1.2.2.1 X.1.2.2.2.1 X.1.2.2.2.2.1 X.1.2.2.2.2.2.1 X.1.2.2.2.2.2.2.1 X.2.1.1) fuel X.1.2.2.2.2.2.2.2.1⟩
@[reducible] def d_impl_TableOk_4 : SD := ⟨[.bot, .ptr 1 0, .data false .bool, .bot, .bot, .bot, .bot, .bot, .bot, .bot, .bot, .bot, .data false (.sl .arg TSlot), .data false (.int .i64), .data false (.int .i64), .bot, .bot, .bot, .bot, .bot, .bot, .bot, .bot, .bot, .bot, .bot, .bot, .bot, .bot, .bot, .bot, .bot, .bot, .bot, .bot, .bot, .bot, .bot, .bot, .bot, .bot, .bot, .bot, .bot, .bot, .bot, .bot, .bot, .bot, .bot, .bot, .bot, .bot, .bot, .bot, .bot, .bot, .bot, .bot, .bot, .bot, .bot, .bot, .bot, .bot, .bot, .bot], [none, some (.sl .arg TSlot), none, none, none, none, none, none, none, none, none, none, none, none, none, none, none, none, none, none, none, none, none, none, none, none, none, none, none, none, none, none, none, none, none, none, none, none, none, none, none, none, none, none, none, none, none, none, none, none, none, none, none, none, none, none, none, none, none, none, none, none, none, none, none, none, none], none⟩
@[reducible] def d_impl_TableOk_4_x0 : SD := ⟨[.bot, .ptr 1 0, .data false .bool, .bot, .bot, .bot, .bot, .bot, .bot, .bot, .bot, .bot, .data false (.sl .arg TSlot), .data false (.int .i64), .data false (.int .i64), .bot, .bot, .bot, .bot, .bot, .bot, .bot, .bot, .bot, .bot, .bot, .bot, .bot, .bot, .bot, .bot, .bot, .bot, .bot, .bot, .bot, .bot, .bot, .bot, .bot, .bot, .bot, .bot, .bot, .bot, .bot, .bot, .bot, .bot, .bot, .bot, .bot, .bot, .bot, .bot, .bot, .bot, .bot, .bot, .bot, .bot, .bot, .bot, .bot, .bot, .bot, .bot], [none, some (.sl .arg TSlot), none, none, none, none, none, none, none, none, none, none, none, none, none, none, none, none, none, none, none, none, none, none, none, none, none, none, none, none, none, none, none, none, none, none, none, none, none, none, none, none, none, none, none, none, none, none, none, none, none, none, none, none, none, none, none, none, none, none, none, none, none, none, none, none, none], none⟩
@[reducible] def d_impl_TableOk_4_ret : SD := ⟨[.bot, .ptr 1 0, .data false .bool, .bot, .bot, .bot, .bot, .bot, .bot, .bot, .bot, .bot, .data false (.sl .arg TSlot), .data false (.int .i64), .data false (.int .i64), .bot, .bot, .bot, .bot, .bot, .bot, .bot, .bot, .bot, .bot, .bot, .bot, .bot, .bot, .bot, .bot, .bot, .bot, .bot, .bot, .bot, .bot, .bot, .bot, .bot, .bot, .bot, .bot, .bot, .bot, .bot, .bot, .bot, .bot, .bot, .bot, .bot, .bot, .bot, .bot, .bot, .bot, .bot, .bot, .bot, .bot, .bot, .bot, .bot, .bot, .bot, .bot], [none, some (.sl .arg TSlot), none, none, none, none, none, none, none, none, none, none, none, none, none, none, none, none, none, none, none, none, none, none, none, none, none, none, none, none, none, none, none, none, none, none, none, none, none, none, none, none, none, none, none, none, none, none, none, none, none, none, none, none, none, none, none, none, none, none, none, none, none, none, none, none, none], none⟩
noncomputable def l_impl_TableOk_4 : LEnt := ⟨d_impl_TableOk_4, fun X K => iterL (Pu.impl_TableOk_T4 (fun y0 => K (.exit 0) (SD.enc d_impl_TableOk_4_x0 (((X.1.1), ((X.1.2.1), ((X.1.2.2.1), (y0, ())))), ((X.2.1.1), ()), ()))) (fun y0 y1 => K .ret (SD.enc d_impl_TableOk_4_ret ((y0, ((X.1.2.1), ((X.1.2.2.1), (y1, ())))), ((X.2.1.1), ()), ()))) X.1.1 X.1.2.1 X.1.2.2.1 X.2.1.1) fuel X.1.2.2.2.1⟩
noncomputable def L_impl_TableOk : Lam := ((Lam.nil).add 14 l_impl_TableOk_14).add 4 l_impl_TableOk_4
theorem lok_impl_TableOk_14 : LOk E g_impl_TableOk n_impl_TableOk L_impl_TableOk (loopBody Try.f68 1) :=
  lok l_impl_TableOk_14 (by kernel_rfl) fuel fun R X K => (loop_iter (σ := Int) (fun x => SD.enc d_impl_TableOk_14 ((X.1.1, (X.1.2.1, (X.1.2.2.1, (X.1.2.2.2.1, (X.1.2.2.2.2.1, (X.1.2.2.2.2.2.1, (X.1.2.2.2.2.2.2.1, (x, ())))))))), (X.2.1.1, ()), ())) (Pu.impl_TableOk_T14 (fun y0 => K (.exit 2) (SD.enc d_impl_TableOk_14_x2 (((X.1.1), ((X.1.2.1), ((X.1.2.2.1), ((X.1.2.2.2.1), ((X.1.2.2.2.2.1), ((X.1.2.2.2.2.2.1), ((X.1.2.2.2.2.2.2.1), (y0, ())))))))), ((X.2.1.1), ()), ()))) (fun y0 y1 => K .ret (SD.enc d_impl_TableOk_14_ret ((y0, ((X.1.2.1), ((X.1.2.2.1), ((X.1.2.2.2.1), ((X.1.2.2.2.2.1), ((X.1.2.2.2.2.2.1), ((X.1.2.2.2.2.2.2.1), (y1, ())))))))), ((X.2.1.1), ()), ()))) X.1.1 X.1.2.1 X.1.2.2.1 X.1.2.2.2.1 X.1.2.2.2.2.1 X.1.2.2.2.2.2.1 X.1.2.2.2.2.2.2.1 X.2.1.1) (fun m x => by kernel_rfl) fuel X.1.2.2.2.2.2.2.2.1).symm
theorem lok_impl_TableOk_4 : LOk E g_impl_TableOk n_impl_TableOk L_impl_TableOk (loopBody Try.f68 0) :=
  lok l_impl_TableOk_4 (by kernel_rfl) fuel fun R X K => (loop_iter (σ := Int) (fun x => SD.enc d_impl_TableOk_4 ((X.1.1, (X.1.2.1, (X.1.2.2.1, (x, ())))), (X.2.1.1, ()), ())) (Pu.impl_TableOk_T4 (fun y0 => K (.exit 0) (SD.enc d_impl_TableOk_4_x0 (((X.1.1), ((X.1.2.1), ((X.1.2.2.1), (y0, ())))), ((X.2.1.1), ()), ()))) (fun y0 y1 => K .ret (SD.enc d_impl_TableOk_4_ret ((y0, ((X.1.2.1), ((X.1.2.2.1), (y1, ())))), ((X.2.1.1), ()), ()))) X.1.1 X.1.2.1 X.1.2.2.1 X.2.1.1) (fun m x => by kernel_rfl) fuel X.1.2.2.2.1).symm
theorem h_impl_TableOk : ∀ c ∈ loopsOf (Try.f68.body.getD .skip), LOk E g_impl_TableOk n_impl_TableOk L_impl_TableOk c := by
  have e : loopsOf (Try.f68.body.getD .skip) = [loopBody Try.f68 0, loopBody Try.f68 1] := by kernel_rfl
  rw [e]; simp only [List.forall_mem_cons]; exact ⟨lok_impl_TableOk_4, lok_impl_TableOk_14, by simp⟩
theorem ok_impl_TableOk : FnOk Try.prog 68 e_impl_TableOk := FnOk.of (fnOk S_impl_TableOk Try.func68 (by kernel_rfl) h_impl_TableOk) (fun a => by kernel_rfl)
@[reducible] def s_impl_tableSize : List PS := [.data false (.int .i64)]
@[reducible] def r_impl_tableSize : List (Bool × FT) := [(false, .bool)]
noncomputable def F_impl_tableSize (a : Args s_impl_tableSize) : Option (resD r_impl_tableSize) := Pu.impl_tableSize a.1
noncomputable def e_impl_tableSize : GEnt := entOf s_impl_tableSize r_impl_tableSize F_impl_tableSize
noncomputable def g_impl_tableSize : Gam := Gam.nil
theorem S_impl_tableSize : Sound Try.prog E g_impl_tableSize := base
def n_impl_tableSize : An := { merge := fun | 1 => some 2 | _ => none }
noncomputable def L_impl_tableSize : Lam := Lam.nil
theorem h_impl_tableSize : ∀ c ∈ loopsOf (Try.f84.body.getD .skip), LOk E g_impl_tableSize n_impl_tableSize L_impl_tableSize c := by
  have e : loopsOf (Try.f84.body.getD .skip) = [] := by kernel_rfl
  rw [e]; simp
theorem ok_impl_tableSize : FnOk Try.prog 84 e_impl_tableSize := FnOk.of (fnOk S_impl_tableSize Try.func84 (by kernel_rfl) h_impl_tableSize) (fun a => by kernel_rfl)
@[reducible] def s_impl_SpreadOk : List PS := [.data true TSpread, .data false (.int .i64)]
@[reducible] def r_impl_SpreadOk : List (Bool × FT) := [(false, .bool)]
noncomputable def F_impl_SpreadOk (a : Args s_impl_SpreadOk) : Option (resD r_impl_SpreadOk) := Pu.impl_SpreadOk a.1 a.2.1
noncomputable def e_impl_SpreadOk : GEnt := entOf s_impl_SpreadOk r_impl_SpreadOk F_impl_SpreadOk
noncomputable def g_impl_SpreadOk : Gam := ((Gam.nil).add 25 e_impl_between).add 84 e_impl_tableSize
theorem S_impl_SpreadOk : Sound Try.prog E g_impl_SpreadOk := ((base).add ok_impl_between).add ok_impl_tableSize
def n_impl_SpreadOk : An := { mask := fun | 4 => [1, 4, 24, 25, 26] | _ => [], merge := fun | 1 => some 22 | _ => none }
@[reducible] def d_impl_SpreadOk_4 : SD := ⟨[.bot, .data false (.int .i64), .bot, .bot, .data false .bool, .bot, .bot, .bot, .bot, .bot, .bot, .bot, .bot, .bot, .bot, .bot, .bot, .bot, .bot, .bot, .bot, .bot, .bot, .bot, .data false (.sl .arg (.int .i64)), .data false (.int .i64), .data false (.int .i64), .bot, .bot, .bot, .bot, .bot, .bot, .bot, .bot, .bot], [none, none, none, none, none, none, none, none, none, none, none, none, none, none, none, none, none, none, none, none, none, none, none, none, none, none, none, none, none, none, none, none, none, none, none, none], none⟩
@[reducible] def d_impl_SpreadOk_4_x0 : SD := ⟨[.bot, .data false (.int .i64), .bot, .bot, .data false .bool, .bot, .bot, .bot, .bot, .bot, .bot, .bot, .bot, .bot, .bot, .bot, .bot, .bot, .bot, .bot, .bot, .bot, .bot, .bot, .data false (.sl .arg (.int .i64)), .data false (.int .i64), .data false (.int .i64), .bot, .bot, .bot, .bot, .bot, .bot, .bot, .bot, .bot], [none, none, none, none, none, none, none, none, none, none, none, none, none, none, none, none, none, none, none, none, none, none, none, none, none, none, none, none, none, none, none, none, none, none, none, none], none⟩
@[reducible] def d_impl_SpreadOk_4_ret : SD := ⟨[.bot, .data false (.int .i64), .bot, .bot, .data false .bool, .bot, .bot, .bot, .bot, .bot, .bot, .bot, .bot, .bot, .bot, .bot, .bot, .bot, .bot, .bot, .bot, .bot, .bot, .bot, .data false (.sl .arg (.int .i64)), .data false (.int .i64), .data false (.int .i64), .bot, .bot, .bot, .bot, .bot, .bot, .bot, .bot, .bot], [none, none, none, none, none, none, none, none, none, none, none, none, none, none, none, none, none, none, none, none, none, none, none, none, none, none, none, none, none, none, none, none, none, none, none, none], none⟩
noncomputable def l_impl_SpreadOk_4 : LEnt := ⟨d_impl_SpreadOk_4, fun X K => iterL (Pu.impl_SpreadOk_T4 (fun y0 => K (.exit 0) (SD.enc d_impl_SpreadOk_4_x0 (((X.1.1), ((X.1.2.1), ((X.1.2.2.1), ((X.1.2.2.2.1), (y0, ()))))), (), ()))) (fun y0 y1 => K .ret (SD.enc d_impl_SpreadOk_4_ret (((X.1.1), (y0, ((X.1.2.2.1), ((X.1.2.2.2.1), (y1, ()))))), (), ()))) X.1.1 X.1.2.1 X.1.2.2.1 X.1.2.2.2.1) fuel X.1.2.2.2.2.1⟩
noncomputable def L_impl_SpreadOk : Lam := (Lam.nil).add 4 l_impl_SpreadOk_4
theorem lok_impl_SpreadOk_4 : LOk E g_impl_SpreadOk n_impl_SpreadOk L_impl_SpreadOk (loopBody Try.f69 0) :=
  lok l_impl_SpreadOk_4 (by kernel_rfl) fuel fun R X K => (loop_iter (σ := Int) (fun x => SD.enc d_impl_SpreadOk_4 ((X.1.1, (X.1.2.1, (X.1.2.2.1, (X.1.2.2.2.1, (x, ()))))), (), ())) (Pu.impl_SpreadOk_T4 (fun y0 => K (.exit 0) (SD.enc d_impl_SpreadOk_4_x0 (((X.1.1), ((X.1.2.1), ((X.1.2.2.1), ((X.1.2.2.2.1), (y0, ()))))), (), ()))) (fun y0 y1 => K .ret (SD.enc d_impl_SpreadOk_4_ret (((X.1.1), (y0, ((X.1.2.2.1), ((X.1.2.2.2.1), (y1, ()))))), (), ()))) X.1.1 X.1.2.1 X.1.2.2.1 X.1.2.2.2.1) (fun m x => by kernel_rfl) fuel X.1.2.2.2.2.1).symm
theorem h_impl_SpreadOk : ∀ c ∈ loopsOf (Try.f69.body.getD .skip), LOk E g_impl_SpreadOk n_impl_SpreadOk L_impl_SpreadOk c := by
  have e : loopsOf (Try.f69.body.getD .skip) = [loopBody Try.f69 0] := by kernel_rfl
  rw [e]; simp only [List.forall_mem_cons]; exact ⟨lok_impl_SpreadOk_4, by simp⟩
theorem ok_impl_SpreadOk : FnOk Try.prog 69 e_impl_SpreadOk := FnOk.of (fnOk S_impl_SpreadOk Try.func69 (by kernel_rfl) h_impl_SpreadOk) (fun a => by kernel_rfl)
@[reducible] def s_impl_SteeringOk : List PS := [.data true TSteering, .data false (.int .i64)]
@[reducible] def r_impl_SteeringOk : List (Bool × FT) := [(false, .bool)]
noncomputable def F_impl_SteeringOk (a : Args s_impl_SteeringOk) : Option (resD r_impl_SteeringOk) := Pu.impl_SteeringOk a.1 a.2.1
noncomputable def e_impl_SteeringOk : GEnt := entOf s_impl_SteeringOk r_impl_SteeringOk F_impl_SteeringOk
noncomputable def g_impl_SteeringOk : Gam := (((Gam.nil).add 67 e_impl_RulesOk).add 68 e_impl_TableOk).add 69 e_impl_SpreadOk
theorem S_impl_SteeringOk : Sound Try.prog E g_impl_SteeringOk := (((base).add ok_impl_RulesOk).add ok_impl_TableOk).add ok_impl_SpreadOk
def n_impl_SteeringOk : An := { mask := fun | 4 => [1, 2, 4, 27, 28, 29] | 10 => [1, 4, 45, 46, 47] | _ => [], merge := fun | 1 => some 25 | 6 => some 41 | 12 => some 59 | _ => none }
@[reducible] def d_impl_SteeringOk_4 : SD := ⟨[.bot, .data false (.int .i64), .ptr 2 0, .bot, .data false .bool, .bot, .bot, .bot, .bot, .bot, .bot, .bot, .bot, .bot, .bot, .bot, .bot, .bot, .bot, .bot, .bot, .bot, .bot, .bot, .bot, .bot, .bot, .data false (.sl .arg TRule), .data false (.int .i64), .data false (.int .i64), .bot, .bot, .bot, .bot, .bot, .bot, .bot, .bot, .bot, .bot, .bot, .bot, .bot, .bot, .bot, .bot, .bot, .bot, .bot, .bot, .bot, .bot, .bot, .bot, .bot, .bot, .bot, .bot, .bot, .bot, .bot], [none, none, some (.pair (.sl .arg TRule) (.pair (.sl .arg TSlot) (.pair .str (.sl .arg (.int .i64))))), none, none, none, none, none, none, none, none, none, none, none, none, none, none, none, none, none, none, none, none, none, none, none, none, none, none, none, none, none, none, none, none, none, none, none, none, none, none, none, none, none, none, none, none, none, none, none, none, none, none, none, none, none, none, none, none, none, none], none⟩
@[reducible] def d_impl_SteeringOk_4_x0 : SD := ⟨[.bot, .data false (.int .i64), .ptr 2 0, .bot, .data false .bool, .bot, .bot, .bot, .bot, .bot, .bot, .bot, .bot, .bot, .bot, .bot, .bot, .bot, .bot, .bot, .bot, .bot, .bot, .bot, .bot, .bot, .bot, .data false (.sl .arg TRule), .data false (.int .i64), .data false (.int .i64), .bot, .bot, .bot, .bot, .bot, .bot, .bot, .bot, .bot, .bot, .bot, .bot, .bot, .bot, .bot, .bot, .bot, .bot, .bot, .bot, .bot, .bot, .bot, .bot, .bot, .bot, .bot, .bot, .bot, .bot, .bot], [none, none, some (.pair (.sl .arg TRule) (.pair (.sl .arg TSlot) (.pair .str (.sl .arg (.int .i64))))), none, none, none, none, none, none, none, none, none, none, none, none, none, none, none, none, none, none, none, none, none, none, none, none, none, none, none, none, none, none, none, none, none, none, none, none, none, none, none, none, none, none, none, none, none, none, none, none, none, none, none, none, none, none, none, none, none, none], none⟩
@[reducible] def d_impl_SteeringOk_4_ret : SD := ⟨[.bot, .data false (.int .i64), .ptr 2 0, .bot, .data false .bool, .bot, .bot, .bot, .bot, .bot, .bot, .bot, .bot, .bot, .bot, .bot, .bot, .bot, .bot, .bot, .bot, .bot, .bot, .bot, .bot, .bot, .bot, .data false (.sl .arg TRule), .data false (.int .i64), .data false (.int .i64), .bot, .bot, .bot, .bot, .bot, .bot, .bot, .bot, .bot, .bot, .bot, .bot, .bot, .bot, .bot, .bot, .bot, .bot, .bot, .bot, .bot, .bot, .bot, .bot, .bot, .bot, .bot, .bot, .bot, .bot, .bot], [none, none, some (.pair (.sl .arg TRule) (.pair (.sl .arg TSlot) (.pair .str (.sl .arg (.int .i64))))), none, none, none, none, none, none, none, none, none, none, none, none, none, none, none, none, none, none, none, none, none, none, none, none, none, none, none, none, none, none, none, none, none, none, none, none, none, none, none, none, none, none, none, none, none, none, none, none, none, none, none, none, none, none, none, none, none, none], none⟩
noncomputable def l_impl_SteeringOk_4 : LEnt := ⟨d_impl_SteeringOk_4, fun X K => iterL (Pu.impl_SteeringOk_T4 (fun y0 => K (.exit 0) (SD.enc d_impl_SteeringOk_4_x0 (((X.1.1), ((X.1.2.1), ((X.1.2.2.1), ((X.1.2.2.2.1), (y0, ()))))), ((X.2.1.1), ()), ()))) (fun y0 y1 => K .ret (SD.enc d_impl_SteeringOk_4_ret (((X.1.1), (y0, ((X.1.2.2.1), ((X.1.2.2.2.1), (y1, ()))))), ((X.2.1.1), ()), ()))) X.1.1 X.1.2.1 X.1.2.2.1 X.1.2.2.2.1 X.2.1.1) fuel X.1.2.2.2.2.1⟩
@[reducible] def d_impl_SteeringOk_10 : SD := ⟨[.bot, .data false (.int .i64), .bot, .bot, .data false .bool, .bot, .bot, .bot, .bot, .bot, .bot, .bot, .bot, .bot, .bot, .bot, .bot, .bot, .bot, .bot, .bot, .bot, .bot, .bot, .bot, .bot, .bot, .bot, .bot, .bot, .bot, .bot, .bot, .bot, .bot, .bot, .bot, .bot, .bot, .bot, .bot, .bot, .bot, .bot, .bot, .data false (.sl .arg TSlot), .data false (.int .i64), .data false (.int .i64), .bot, .bot, .bot, .bot, .bot, .bot, .bot, .bot, .bot, .bot, .bot, .bot, .bot], [none, none, none, none, none, none, none, none, none, none, none, none, none, none, none, none, none, none, none, none, none, none, none, none, none, none, none, none, none, none, none, none, none, none, none, none, none, none, none, none, none, none, none, none, none, none, none, none, none, none, none, none, none, none, none, none, none, none, none, none, none], none⟩
@[reducible] def d_impl_SteeringOk_10_x2 : SD := ⟨[.bot, .data false (.int .i64), .bot, .bot, .data false .bool, .bot, .bot, .bot, .bot, .bot, .bot, .bot, .bot, .bot, .bot, .bot, .bot, .bot, .bot, .bot, .bot, .bot, .bot, .bot, .bot, .bot, .bot, .bot, .bot, .bot, .bot, .bot, .bot, .bot, .bot, .bot, .bot, .bot, .bot, .bot, .bot, .bot, .bot, .bot, .bot, .data false (.sl .arg TSlot), .data false (.int .i64), .data false (.int .i64), .bot, .bot, .bot, .bot, .bot, .bot, .bot, .bot, .bot, .bot, .bot, .bot, .bot], [none, none, none, none, none, none, none, none, none, none, none, none, none, none, none, none, none, none, none, none, none, none, none, none, none, none, none, none, none, none, none, none, none, none, none, none, none, none, none, none, none, none, none, none, none, none, none, none, none, none, none, none, none, none, none, none, none, none, none, none, none], none⟩
@[reducible] def d_impl_SteeringOk_10_ret : SD := ⟨[.bot, .data false (.int .i64), .bot, .bot, .data false .bool, .bot, .bot, .bot, .bot, .bot, .bot, .bot, .bot, .bot, .bot, .bot, .bot, .bot, .bot, .bot, .bot, .bot, .bot, .bot, .bot, .bot, .bot, .bot, .bot, .bot, .bot, .bot, .bot, .bot, .bot, .bot, .bot, .bot, .bot, .bot, .bot, .bot, .bot, .bot, .bot, .data false (.sl .arg TSlot), .data false (.int .i64), .data false (.int .i64), .bot, .bot, .bot, .bot, .bot, .bot, .bot, .bot, .bot, .bot, .bot, .bot, .bot], [none, none, none, none, none, none, none, none, none, none, none, none, none, none, none, none, none, none, none, none, none, none, none, none, none, none, none, none, none, none, none, none, none, none, none, none, none, none, none, none, none, none, none, none, none, none, none, none, none, none, none, none, none, none, none, none, none, none, none, none, none], none⟩
noncomputable def l_impl_SteeringOk_10 : LEnt := ⟨d_impl_SteeringOk_10, fun X K => iterL (Pu.impl_SteeringOk_T10 (fun y0 => K (.exit 2) (SD.enc d_impl_SteeringOk_10_x2 (((X.1.1), ((X.1.2.1), ((X.1.2.2.1), ((X.1.2.2.2.1), (y0, ()))))), (), ()))) (fun y0 y1 => K .ret (SD.enc d_impl_SteeringOk_10_ret (((X.1.1), (y0, ((X.1.2.2.1), ((X.1.2.2.2.1), (y1, ()))))), (), ()))) X.1.1 X.1.2.1 X.1.2.2.1 X.1.2.2.2.1) fuel X.1.2.2.2.2.1⟩
noncomputable def L_impl_SteeringOk : Lam := ((Lam.nil).add 4 l_impl_SteeringOk_4).add 10 l_impl_SteeringOk_10
theorem lok_impl_SteeringOk_4 : LOk E g_impl_SteeringOk n_impl_SteeringOk L_impl_SteeringOk (loopBody Try.f45 0) :=
  lok l_impl_SteeringOk_4 (by kernel_rfl) fuel fun R X K => (loop_iter (σ := Int) (fun x => SD.enc d_impl_SteeringOk_4 ((X.1.1, (X.1.2.1, (X.1.2.2.1, (X.1.2.2.2.1, (x, ()))))), (X.2.1.1, ()), ())) (Pu.impl_SteeringOk_T4 (fun y0 => K (.exit 0) (SD.enc d_impl_SteeringOk_4_x0 (((X.1.1), ((X.1.2.1), ((X.1.2.2.1), ((X.1.2.2.2.1), (y0, ()))))), ((X.2.1.1), ()), ()))) (fun y0 y1 => K .ret (SD.enc d_impl_SteeringOk_4_ret (((X.1.1), (y0, ((X.1.2.2.1), ((X.1.2.2.2.1), (y1, ()))))), ((X.2.1.1), ()), ()))) X.1.1 X.1.2.1 X.1.2.2.1 X.1.2.2.2.1 X.2.1.1) (fun m x => by kernel_rfl) fuel X.1.2.2.2.2.1).symm
theorem lok_impl_SteeringOk_10 : LOk E g_impl_SteeringOk n_impl_SteeringOk L_impl_SteeringOk (loopBody Try.f45 1) :=
  lok l_impl_SteeringOk_10 (by kernel_rfl) fuel fun R X K => (loop_iter (σ := Int) (fun x => SD.enc d_impl_SteeringOk_10 ((X.1.1, (X.1.2.1, (X.1.2.2.1, (X.1.2.2.2.1, (x, ()))))), (), ())) (Pu.impl_SteeringOk_T10 (fun y0 => K (.exit 2) (SD.enc d_impl_SteeringOk_10_x2 (((X.1.1), ((X.1.2.1), ((X.1.2.2.1), ((X.1.2.2.2.1), (y0, ()))))), (), ()))) (fun y0 y1 => K .ret (SD.enc d_impl_SteeringOk_10_ret (((X.1.1), (y0, ((X.1.2.2.1), ((X.1.2.2.2.1), (y1, ()))))), (), ()))) X.1.1 X.1.2.1 X.1.2.2.1 X.1.2.2.2.1) (fun m x => by kernel_rfl) fuel X.1.2.2.2.2.1).symm
theorem h_impl_SteeringOk : ∀ c ∈ loopsOf (Try.f45.body.getD .skip), LOk E g_impl_SteeringOk n_impl_SteeringOk L_impl_SteeringOk c := by
  have e : loopsOf (Try.f45.body.getD .skip) = [loopBody Try.f45 0, loopBody Try.f45 1] := by kernel_rfl
  rw [e]; simp only [List.forall_mem_cons]; exact ⟨lok_impl_SteeringOk_4, lok_impl_SteeringOk_10, by simp⟩
theorem ok_impl_SteeringOk : FnOk Try.prog 45 e_impl_SteeringOk := FnOk.of (fnOk S_impl_SteeringOk Try.func45 (by kernel_rfl) h_impl_SteeringOk) (fun a => by kernel_rfl)
@[reducible] def s_impl_SoftOk : List PS := [.data true TSoft]
@[reducible] def r_impl_SoftOk : List (Bool × FT) := [(false, .bool)]
noncomputable def F_impl_SoftOk (a : Args s_impl_SoftOk) : Option (resD r_impl_SoftOk) := Pu.impl_SoftOk a.1
noncomputable def e_impl_SoftOk : GEnt := entOf s_impl_SoftOk r_impl_SoftOk F_impl_SoftOk
noncomputable def g_impl_SoftOk : Gam := ((Gam.nil).add 44 e_impl_FilterOk).add 45 e_impl_SteeringOk
theorem S_impl_SoftOk : Sound Try.prog E g_impl_SoftOk := ((base).add ok_impl_FilterOk).add ok_impl_SteeringOk
def n_impl_SoftOk : An := { merge := fun | 1 => some 2 | _ => none }
noncomputable def L_impl_SoftOk : Lam := Lam.nil
theorem h_impl_SoftOk : ∀ c ∈ loopsOf (Try.f17.body.getD .skip), LOk E g_impl_SoftOk n_impl_SoftOk L_impl_SoftOk c := by
  have e : loopsOf (Try.f17.body.getD .skip) = [] := by kernel_rfl
  rw [e]; simp
theorem ok_impl_SoftOk : FnOk Try.prog 17 e_impl_SoftOk := FnOk.of (fnOk S_impl_SoftOk Try.func17 (by kernel_rfl) h_impl_SoftOk) (fun a => by kernel_rfl)
@[reducible] def s_laws_eqIntS : List PS := [.data false (.sl (.int .i64)), .data false (.sl (.int .i64))]
@[reducible] def r_laws_eqIntS : List (Bool × FT) := [(false, .bool)]
noncomputable def F_laws_eqIntS (a : Args s_laws_eqIntS) : Option (resD r_laws_eqIntS) := Pu.laws_eqIntS a.1 a.2.1
noncomputable def e_laws_eqIntS : GEnt := entOf s_laws_eqIntS r_laws_eqIntS F_laws_eqIntS
noncomputable def g_laws_eqIntS : Gam := Gam.nil
theorem S_laws_eqIntS : Sound Try.prog E g_laws_eqIntS := base
def n_laws_eqIntS : An := { mask := fun | 4 => [0, 1, 4, 5] | _ => [] }
@[reducible] def d_laws_eqIntS_4 : SD := ⟨[.data false (.sl .arg (.int .i64)), .data false (.sl .arg (.int .i64)), .bot, .bot, .data false .bool, .data false (.int .i64), .bot, .bot, .bot, .bot, .bot, .bot, .bot, .bot, .bot, .bot, .bot, .bot, .bot, .bot, .bot, .bot, .bot, .bot, .bot, .bot], [none, none, none, none, none, none, none, none, none, none, none, none, none, none, none, none, none, none, none, none, none, none, none, none, none, none], none⟩
@[reducible] def d_laws_eqIntS_4_x0 : SD := ⟨[.data false (.sl .arg (.int .i64)), .data false (.sl .arg (.int .i64)), .bot, .bot, .data false .bool, .data false (.int .i64), .bot, .bot, .bot, .bot, .bot, .bot, .bot, .bot, .bot, .bot, .bot, .bot, .bot, .bot, .bot, .bot, .bot, .bot, .bot, .bot], [none, none, none, none, none, none, none, none, none, none, none, none, none, none, none, none, none, none, none, none, none, none, none, none, none, none], none⟩
@[reducible] def d_laws_eqIntS_4_ret : SD := ⟨[.data false (.sl .arg (.int .i64)), .data false (.sl .arg (.int .i64)), .bot, .bot, .data false .bool, .data false (.int .i64), .bot, .bot, .bot, .bot, .bot, .bot, .bot, .bot, .bot, .bot, .bot, .bot, .bot, .bot, .bot, .bot, .bot, .bot, .bot, .bot], [none, none, none, none, none, none, none, none, none, none, none, none, none, none, none, none, none, none, none, none, none, none, none, none, none, none], none⟩
noncomputable def l_laws_eqIntS_4 : LEnt := ⟨d_laws_eqIntS_4, fun X K => iterL (Pu.laws_eqIntS_T4 (fun y0 => K (.exit 0) (SD.enc d_laws_eqIntS_4_x0 (((X.1.1), ((X.1.2.1), ((X.1.2.2.1), (y0, ())))), (), ()))) (fun y0 y1 => K .ret (SD.enc d_laws_eqIntS_4_ret (((X.1.1), ((X.1.2.1), (y0, (y1, ())))), (), ()))) X.1.1 X.1.2.1 X.1.2.2.1) fuel X.1.2.2.2.1⟩
noncomputable def L_laws_eqIntS : Lam := (Lam.nil).add 4 l_laws_eqIntS_4
theorem lok_laws_eqIntS_4 : LOk E g_laws_eqIntS n_laws_eqIntS L_laws_eqIntS (loopBody Try.f53 0) :=
  lok l_laws_eqIntS_4 (by kernel_rfl) fuel fun R X K => (loop_iter (σ := Int) (fun x => SD.enc d_laws_eqIntS_4 ((X.1.1, (X.1.2.1, (X.1.2.2.1, (x, ())))), (), ())) (Pu.laws_eqIntS_T4 (fun y0 => K (.exit 0) (SD.enc d_laws_eqIntS_4_x0 (((X.1.1), ((X.1.2.1), ((X.1.2.2.1), (y0, ())))), (), ()))) (fun y0 y1 => K .ret (SD.enc d_laws_eqIntS_4_ret (((X.1.1), ((X.1.2.1), (y0, (y1, ())))), (), ()))) X.1.1 X.1.2.1 X.1.2.2.1) (fun m x => by kernel_rfl) fuel X.1.2.2.2.1).symm
theorem h_laws_eqIntS : ∀ c ∈ loopsOf (Try.f53.body.getD .skip), LOk E g_laws_eqIntS n_laws_eqIntS L_laws_eqIntS c := by
  have e : loopsOf (Try.f53.body.getD .skip) = [loopBody Try.f53 0] := by kernel_rfl
  rw [e]; simp only [List.forall_mem_cons]; exact ⟨lok_laws_eqIntS_4, by simp⟩
theorem ok_laws_eqIntS : FnOk Try.prog 53 e_laws_eqIntS := FnOk.of (fnOk S_laws_eqIntS Try.func53 (by kernel_rfl) h_laws_eqIntS) (fun a => by kernel_rfl)
@[reducible] def s_laws_eqFilter : List PS := [.data true TFilter, .data true TFilter]
@[reducible] def r_laws_eqFilter : List (Bool × FT) := [(false, .bool)]
noncomputable def F_laws_eqFilter (a : Args s_laws_eqFilter) : Option (resD r_laws_eqFilter) := Pu.laws_eqFilter a.1 a.2.1
noncomputable def e_laws_eqFilter : GEnt := entOf s_laws_eqFilter r_laws_eqFilter F_laws_eqFilter
noncomputable def g_laws_eqFilter : Gam := (Gam.nil).add 53 e_laws_eqIntS
theorem S_laws_eqFilter : Sound Try.prog E g_laws_eqFilter := (base).add ok_laws_eqIntS
def n_laws_eqFilter : An := {  }
noncomputable def L_laws_eqFilter : Lam := Lam.nil
theorem h_laws_eqFilter : ∀ c ∈ loopsOf (Try.f46.body.getD .skip), LOk E g_laws_eqFilter n_laws_eqFilter L_laws_eqFilter c := by
  have e : loopsOf (Try.f46.body.getD .skip) = [] := by kernel_rfl
  rw [e]; simp
theorem ok_laws_eqFilter : FnOk Try.prog 46 e_laws_eqFilter := FnOk.of (fnOk S_laws_eqFilter Try.func46 (by kernel_rfl) h_laws_eqFilter) (fun a => by kernel_rfl)
@[reducible] def s_laws_eqRule : List PS := [.data true TRule, .data true TRule]
@[reducible] def r_laws_eqRule : List (Bool × FT) := [(false, .bool)]
noncomputable def F_laws_eqRule (a : Args s_laws_eqRule) : Option (resD r_laws_eqRule) := Pu.laws_eqRule a.1 a.2.1
noncomputable def e_laws_eqRule : GEnt := entOf s_laws_eqRule r_laws_eqRule F_laws_eqRule
noncomputable def g_laws_eqRule : Gam := Gam.nil
theorem S_laws_eqRule : Sound Try.prog E g_laws_eqRule := base
def n_laws_eqRule : An := {  }
noncomputable def L_laws_eqRule : Lam := Lam.nil
theorem h_laws_eqRule : ∀ c ∈ loopsOf (Try.f85.body.getD .skip), LOk E g_laws_eqRule n_laws_eqRule L_laws_eqRule c := by
  have e : loopsOf (Try.f85.body.getD .skip) = [] := by kernel_rfl
  rw [e]; simp
theorem ok_laws_eqRule : FnOk Try.prog 85 e_laws_eqRule := FnOk.of (fnOk S_laws_eqRule Try.func85 (by kernel_rfl) h_laws_eqRule) (fun a => by kernel_rfl)
@[reducible] def s_laws_eqRuleS : List PS := [.data false (.sl TRule), .data false (.sl TRule)]
@[reducible] def r_laws_eqRuleS : List (Bool × FT) := [(false, .bool)]
noncomputable def F_laws_eqRuleS (a : Args s_laws_eqRuleS) : Option (resD r_laws_eqRuleS) := Pu.laws_eqRuleS a.1 a.2.1
noncomputable def e_laws_eqRuleS : GEnt := entOf s_laws_eqRuleS r_laws_eqRuleS F_laws_eqRuleS
noncomputable def g_laws_eqRuleS : Gam := (Gam.nil).add 85 e_laws_eqRule
theorem S_laws_eqRuleS : Sound Try.prog E g_laws_eqRuleS := (base).add ok_laws_eqRule
def n_laws_eqRuleS : An := { mask := fun | 4 => [0, 1, 4, 5] | _ => [] }
@[reducible] def d_laws_eqRuleS_4 : SD := ⟨[.data false (.sl .arg TRule), .data false (.sl .arg TRule), .bot, .bot, .data false .bool, .data false (.int .i64), .bot, .bot, .bot, .bot, .bot, .bot, .bot, .bot, .bot, .bot, .bot, .bot, .bot, .bot, .bot, .bot, .bot, .bot, .bot, .bot, .bot], [none, none, none, none, none, none, none, none, none, none, none, none, none, none, none, none, none, none, none, none, none, none, none, none, none, none, none], none⟩
@[reducible] def d_laws_eqRuleS_4_x0 : SD := ⟨[.data false (.sl .arg TRule), .data false (.sl .arg TRule), .bot, .bot, .data false .bool, .data false (.int .i64), .bot, .bot, .bot, .bot, .bot, .bot, .bot, .bot, .bot, .bot, .bot, .bot, .bot, .bot, .bot, .bot, .bot, .bot, .bot, .bot, .bot], [none, none, none, none, none, none, none, none, none, none, none, none, none, none, none, none, none, none, none, none, none, none, none, none, none, none, none], none⟩
@[reducible] def d_laws_eqRuleS_4_ret : SD := ⟨[.data false (.sl .arg TRule), .data false (.sl .arg TRule), .bot, .bot, .data false .bool, .data false (.int .i64), .bot, .bot, .bot, .bot, .bot, .bot, .bot, .bot, .bot, .bot, .bot, .bot, .bot, .bot, .bot, .bot, .bot, .bot, .bot, .bot, .bot], [none, none, none, none, none, none, none, none, none, none, none, none, none, none, none, none, none, none, none, none, none, none, none, none, none, none, none], none⟩
noncomputable def l_laws_eqRuleS_4 : LEnt := ⟨d_laws_eqRuleS_4, fun X K => iterL (Pu.laws_eqRuleS_T4 (fun y0 => K (.exit 0) (SD.enc d_laws_eqRuleS_4_x0 (((X.1.1), ((X.1.2.1), ((X.1.2.2.1), (y0, ())))), (), ()))) (fun y0 y1 => K .ret (SD.enc d_laws_eqRuleS_4_ret (((X.1.1), ((X.1.2.1), (y0, (y1, ())))), (), ()))) X.1.1 X.1.2.1 X.1.2.2.1) fuel X.1.2.2.2.1⟩
noncomputable def L_laws_eqRuleS : Lam := (Lam.nil).add 4 l_laws_eqRuleS_4
theorem lok_laws_eqRuleS_4 : LOk E g_laws_eqRuleS n_laws_eqRuleS L_laws_eqRuleS (loopBody Try.f70 0) :=
  lok l_laws_eqRuleS_4 (by kernel_rfl) fuel fun R X K => (loop_iter (σ := Int) (fun x => SD.enc d_laws_eqRuleS_4 ((X.1.1, (X.1.2.1, (X.1.2.2.1, (x, ())))), (), ())) (Pu.laws_eqRuleS_T4 (fun y0 => K (.exit 0) (SD.enc d_laws_eqRuleS_4_x0 (((X.1.1), ((X.1.2.1), ((X.1.2.2.1), (y0, ())))), (), ()))) (fun y0 y1 => K .ret (SD.enc d_laws_eqRuleS_4_ret (((X.1.1), ((X.1.2.1), (y0, (y1, ())))), (), ()))) X.1.1 X.1.2.1 X.1.2.2.1) (fun m x => by kernel_rfl) fuel X.1.2.2.2.1).symm
theorem h_laws_eqRuleS : ∀ c ∈ loopsOf (Try.f70.body.getD .skip), LOk E g_laws_eqRuleS n_laws_eqRuleS L_laws_eqRuleS c := by
  have e : loopsOf (Try.f70.body.getD .skip) = [loopBody Try.f70 0] := by kernel_rfl
  rw [e]; simp only [List.forall_mem_cons]; exact ⟨lok_laws_eqRuleS_4, by simp⟩
theorem ok_laws_eqRuleS : FnOk Try.prog 70 e_laws_eqRuleS := FnOk.of (fnOk S_laws_eqRuleS Try.func70 (by kernel_rfl) h_laws_eqRuleS) (fun a => by kernel_rfl)
@[reducible] def s_laws_eqFlow : List PS := [.data true TFlow, .data true TFlow]
@[reducible] def r_laws_eqFlow : List (Bool × FT) := [(false, .bool)]
noncomputable def F_laws_eqFlow (a : Args s_laws_eqFlow) : Option (resD r_laws_eqFlow) := Pu.laws_eqFlow a.1 a.2.1
noncomputable def e_laws_eqFlow : GEnt := entOf s_laws_eqFlow r_laws_eqFlow F_laws_eqFlow
noncomputable def g_laws_eqFlow : Gam := Gam.nil
theorem S_laws_eqFlow : Sound Try.prog E g_laws_eqFlow := base
def n_laws_eqFlow : An := {  }
noncomputable def L_laws_eqFlow : Lam := Lam.nil
theorem h_laws_eqFlow : ∀ c ∈ loopsOf (Try.f87.body.getD .skip), LOk E g_laws_eqFlow n_laws_eqFlow L_laws_eqFlow c := by
  have e : loopsOf (Try.f87.body.getD .skip) = [] := by kernel_rfl
  rw [e]; simp
theorem ok_laws_eqFlow : FnOk Try.prog 87 e_laws_eqFlow := FnOk.of (fnOk S_laws_eqFlow Try.func87 (by kernel_rfl) h_laws_eqFlow) (fun a => by kernel_rfl)
@[reducible] def s_laws_eqSlot : List PS := [.data true TSlot, .data true TSlot]
@[reducible] def r_laws_eqSlot : List (Bool × FT) := [(false, .bool)]
noncomputable def F_laws_eqSlot (a : Args s_laws_eqSlot) : Option (resD r_laws_eqSlot) := Pu.laws_eqSlot a.1 a.2.1
noncomputable def e_laws_eqSlot : GEnt := entOf s_laws_eqSlot r_laws_eqSlot F_laws_eqSlot
noncomputable def g_laws_eqSlot : Gam := (Gam.nil).add 87 e_laws_eqFlow
theorem S_laws_eqSlot : Sound Try.prog E g_laws_eqSlot := (base).add ok_laws_eqFlow
def n_laws_eqSlot : An := {  }
noncomputable def L_laws_eqSlot : Lam := Lam.nil
theorem h_laws_eqSlot : ∀ c ∈ loopsOf (Try.f91.body.getD .skip), LOk E g_laws_eqSlot n_laws_eqSlot L_laws_eqSlot c := by
  have e : loopsOf (Try.f91.body.getD .skip) = [] := by kernel_rfl
  rw [e]; simp
theorem ok_laws_eqSlot : FnOk Try.prog 91 e_laws_eqSlot := FnOk.of (fnOk S_laws_eqSlot Try.func91 (by kernel_rfl) h_laws_eqSlot) (fun a => by kernel_rfl)
@[reducible] def s_laws_eqSlotS : List PS := [.data false (.sl TSlot), .data false (.sl TSlot)]
@[reducible] def r_laws_eqSlotS : List (Bool × FT) := [(false, .bool)]
noncomputable def F_laws_eqSlotS (a : Args s_laws_eqSlotS) : Option (resD r_laws_eqSlotS) := Pu.laws_eqSlotS a.1 a.2.1
noncomputable def e_laws_eqSlotS : GEnt := entOf s_laws_eqSlotS r_laws_eqSlotS F_laws_eqSlotS
noncomputable def g_laws_eqSlotS : Gam := (Gam.nil).add 91 e_laws_eqSlot
theorem S_laws_eqSlotS : Sound Try.prog E g_laws_eqSlotS := (base).add ok_laws_eqSlot
def n_laws_eqSlotS : An := { mask := fun | 4 => [0, 1, 4, 5] | _ => [] }
@[reducible] def d_laws_eqSlotS_4 : SD := ⟨[.data false (.sl .arg TSlot), .data false (.sl .arg TSlot), .bot, .bot, .data false .bool, .data false (.int .i64), .bot, .bot, .bot, .bot, .bot, .bot, .bot, .bot, .bot, .bot, .bot, .bot, .bot, .bot, .bot, .bot, .bot, .bot, .bot, .bot, .bot], [none, none, none, none, none, none, none, none, none, none, none, none, none, none, none, none, none, none, none, none, none, none, none, none, none, none, none], none⟩
@[reducible] def d_laws_eqSlotS_4_x0 : SD := ⟨[.data false (.sl .arg TSlot), .data false (.sl .arg TSlot), .bot, .bot, .data false .bool, .data false (.int .i64), .bot, .bot, .bot, .bot, .bot, .bot, .bot, .bot, .bot, .bot, .bot, .bot, .bot, .bot, .bot, .bot, .bot, .bot, .bot, .bot, .bot], [none, none, none, none, none, none, none, none, none, none, none, none, none, none, none, none, none, none, none, none, none, none, none, none, none, none, none], none⟩
@[reducible] def d_laws_eqSlotS_4_ret : SD := ⟨[.data false (.sl .arg TSlot), .data false (.sl .arg TSlot), .bot, .bot, .data false .bool, .data false (.int .i64), .bot, .bot, .bot, .bot, .bot, .bot, .bot, .bot, .bot, .bot, .bot, .bot, .bot, .bot, .bot, .bot, .bot, .bot, .bot, .bot, .bot], [none, none, none, none, none, none, none, none, none, none, none, none, none, none, none, none, none, none, none, none, none, none, none, none, none, none, none], none⟩
noncomputable def l_laws_eqSlotS_4 : LEnt := ⟨d_laws_eqSlotS_4, fun X K => iterL (Pu.laws_eqSlotS_T4 (fun y0 => K (.exit 0) (SD.enc d_laws_eqSlotS_4_x0 (((X.1.1), ((X.1.2.1), ((X.1.2.2.1), (y0, ())))), (), ()))) (fun y0 y1 => K .ret (SD.enc d_laws_eqSlotS_4_ret (((X.1.1), ((X.1.2.1), (y0, (y1, ())))), (), ()))) X.1.1 X.1.2.1 X.1.2.2.1) fuel X.1.2.2.2.1⟩
noncomputable def L_laws_eqSlotS : Lam := (Lam.nil).add 4 l_laws_eqSlotS_4
theorem lok_laws_eqSlotS_4 : LOk E g_laws_eqSlotS n_laws_eqSlotS L_laws_eqSlotS (loopBody Try.f86 0) :=
  lok l_laws_eqSlotS_4 (by kernel_rfl) fuel fun R X K => (loop_iter (σ := Int) (fun x => SD.enc d_laws_eqSlotS_4 ((X.1.1, (X.1.2.1, (X.1.2.2.1, (x, ())))), (), ())) (Pu.laws_eqSlotS_T4 (fun y0 => K (.exit 0) (SD.enc d_laws_eqSlotS_4_x0 (((X.1.1), ((X.1.2.1), ((X.1.2.2.1), (y0, ())))), (), ()))) (fun y0 y1 => K .ret (SD.enc d_laws_eqSlotS_4_ret (((X.1.1), ((X.1.2.1), (y0, (y1, ())))), (), ()))) X.1.1 X.1.2.1 X.1.2.2.1) (fun m x => by kernel_rfl) fuel X.1.2.2.2.1).symm
theorem h_laws_eqSlotS : ∀ c ∈ loopsOf (Try.f86.body.getD .skip), LOk E g_laws_eqSlotS n_laws_eqSlotS L_laws_eqSlotS c := by
  have e : loopsOf (Try.f86.body.getD .skip) = [loopBody Try.f86 0] := by kernel_rfl
  rw [e]; simp only [List.forall_mem_cons]; exact ⟨lok_laws_eqSlotS_4, by simp⟩
theorem ok_laws_eqSlotS : FnOk Try.prog 86 e_laws_eqSlotS := FnOk.of (fnOk S_laws_eqSlotS Try.func86 (by kernel_rfl) h_laws_eqSlotS) (fun a => by kernel_rfl)
@[reducible] def s_laws_eqFlowTable : List PS := [.data true (.sl TSlot), .data true (.sl TSlot)]
@[reducible] def r_laws_eqFlowTable : List (Bool × FT) := [(false, .bool)]
noncomputable def F_laws_eqFlowTable (a : Args s_laws_eqFlowTable) : Option (resD r_laws_eqFlowTable) := Pu.laws_eqFlowTable a.1 a.2.1
noncomputable def e_laws_eqFlowTable : GEnt := entOf s_laws_eqFlowTable r_laws_eqFlowTable F_laws_eqFlowTable
noncomputable def g_laws_eqFlowTable : Gam := (Gam.nil).add 86 e_laws_eqSlotS
theorem S_laws_eqFlowTable : Sound Try.prog E g_laws_eqFlowTable := (base).add ok_laws_eqSlotS
def n_laws_eqFlowTable : An := {  }
noncomputable def L_laws_eqFlowTable : Lam := Lam.nil
theorem h_laws_eqFlowTable : ∀ c ∈ loopsOf (Try.f71.body.getD .skip), LOk E g_laws_eqFlowTable n_laws_eqFlowTable L_laws_eqFlowTable c := by
  have e : loopsOf (Try.f71.body.getD .skip) = [] := by kernel_rfl
  rw [e]; simp
theorem ok_laws_eqFlowTable : FnOk Try.prog 71 e_laws_eqFlowTable := FnOk.of (fnOk S_laws_eqFlowTable Try.func71 (by kernel_rfl) h_laws_eqFlowTable) (fun a => by kernel_rfl)
@[reducible] def s_laws_eqSpread : List PS := [.data true TSpread, .data true TSpread]
@[reducible] def r_laws_eqSpread : List (Bool × FT) := [(false, .bool)]
noncomputable def F_laws_eqSpread (a : Args s_laws_eqSpread) : Option (resD r_laws_eqSpread) := Pu.laws_eqSpread a.1 a.2.1
noncomputable def e_laws_eqSpread : GEnt := entOf s_laws_eqSpread r_laws_eqSpread F_laws_eqSpread
noncomputable def g_laws_eqSpread : Gam := (Gam.nil).add 53 e_laws_eqIntS
theorem S_laws_eqSpread : Sound Try.prog E g_laws_eqSpread := (base).add ok_laws_eqIntS
def n_laws_eqSpread : An := {  }
noncomputable def L_laws_eqSpread : Lam := Lam.nil
theorem h_laws_eqSpread : ∀ c ∈ loopsOf (Try.f72.body.getD .skip), LOk E g_laws_eqSpread n_laws_eqSpread L_laws_eqSpread c := by
  have e : loopsOf (Try.f72.body.getD .skip) = [] := by kernel_rfl
  rw [e]; simp
theorem ok_laws_eqSpread : FnOk Try.prog 72 e_laws_eqSpread := FnOk.of (fnOk S_laws_eqSpread Try.func72 (by kernel_rfl) h_laws_eqSpread) (fun a => by kernel_rfl)
@[reducible] def s_laws_eqSteering : List PS := [.data true TSteering, .data true TSteering]
@[reducible] def r_laws_eqSteering : List (Bool × FT) := [(false, .bool)]
noncomputable def F_laws_eqSteering (a : Args s_laws_eqSteering) : Option (resD r_laws_eqSteering) := Pu.laws_eqSteering a.1 a.2.1
noncomputable def e_laws_eqSteering : GEnt := entOf s_laws_eqSteering r_laws_eqSteering F_laws_eqSteering
noncomputable def g_laws_eqSteering : Gam := (((Gam.nil).add 70 e_laws_eqRuleS).add 71 e_laws_eqFlowTable).add 72 e_laws_eqSpread
theorem S_laws_eqSteering : Sound Try.prog E g_laws_eqSteering := (((base).add ok_laws_eqRuleS).add ok_laws_eqFlowTable).add ok_laws_eqSpread
def n_laws_eqSteering : An := {  }
noncomputable def L_laws_eqSteering : Lam := Lam.nil
theorem h_laws_eqSteering : ∀ c ∈ loopsOf (Try.f47.body.getD .skip), LOk E g_laws_eqSteering n_laws_eqSteering L_laws_eqSteering c := by
  have e : loopsOf (Try.f47.body.getD .skip) = [] := by kernel_rfl
  rw [e]; simp
theorem ok_laws_eqSteering : FnOk Try.prog 47 e_laws_eqSteering := FnOk.of (fnOk S_laws_eqSteering Try.func47 (by kernel_rfl) h_laws_eqSteering) (fun a => by kernel_rfl)
@[reducible] def s_laws_eqStream : List PS := [.data true TStream, .data true TStream]
@[reducible] def r_laws_eqStream : List (Bool × FT) := [(false, .bool)]
noncomputable def F_laws_eqStream (a : Args s_laws_eqStream) : Option (resD r_laws_eqStream) := Pu.laws_eqStream a.1 a.2.1
noncomputable def e_laws_eqStream : GEnt := entOf s_laws_eqStream r_laws_eqStream F_laws_eqStream
noncomputable def g_laws_eqStream : Gam := (Gam.nil).add 87 e_laws_eqFlow
theorem S_laws_eqStream : Sound Try.prog E g_laws_eqStream := (base).add ok_laws_eqFlow
def n_laws_eqStream : An := {  }
noncomputable def L_laws_eqStream : Lam := Lam.nil
theorem h_laws_eqStream : ∀ c ∈ loopsOf (Try.f73.body.getD .skip), LOk E g_laws_eqStream n_laws_eqStream L_laws_eqStream c := by
  have e : loopsOf (Try.f73.body.getD .skip) = [] := by kernel_rfl
  rw [e]; simp
theorem ok_laws_eqStream : FnOk Try.prog 73 e_laws_eqStream := FnOk.of (fnOk S_laws_eqStream Try.func73 (by kernel_rfl) h_laws_eqStream) (fun a => by kernel_rfl)
@[reducible] def s_laws_eqStreamS : List PS := [.data false (.sl TStream), .data false (.sl TStream)]
@[reducible] def r_laws_eqStreamS : List (Bool × FT) := [(false, .bool)]
noncomputable def F_laws_eqStreamS (a : Args s_laws_eqStreamS) : Option (resD r_laws_eqStreamS) := Pu.laws_eqStreamS a.1 a.2.1
noncomputable def e_laws_eqStreamS : GEnt := entOf s_laws_eqStreamS r_laws_eqStreamS F_laws_eqStreamS
noncomputable def g_laws_eqStreamS : Gam := (Gam.nil).add 73 e_laws_eqStream
theorem S_laws_eqStreamS : Sound Try.prog E g_laws_eqStreamS := (base).add ok_laws_eqStream
def n_laws_eqStreamS : An := { mask := fun | 4 => [0, 1, 4, 5] | _ => [] }
@[reducible] def d_laws_eqStreamS_4 : SD := ⟨[.data false (.sl .arg TStream), .data false (.sl .arg TStream), .bot, .bot, .data false .bool, .data false (.int .i64), .bot, .bot, .bot, .bot, .bot, .bot, .bot, .bot, .bot, .bot, .bot, .bot, .bot, .bot, .bot, .bot, .bot, .bot, .bot, .bot, .bot], [none, none, none, none, none, none, none, none, none, none, none, none, none, none, none, none, none, none, none, none, none, none, none, none, none, none, none], none⟩
@[reducible] def d_laws_eqStreamS_4_x0 : SD := ⟨[.data false (.sl .arg TStream), .data false (.sl .arg TStream), .bot, .bot, .data false .bool, .data false (.int .i64), .bot, .bot, .bot, .bot, .bot, .bot, .bot, .bot, .bot, .bot, .bot, .bot, .bot, .bot, .bot, .bot, .bot, .bot, .bot, .bot, .bot], [none, none, none, none, none, none, none, none, none, none, none, none, none, none, none, none, none, none, none, none, none, none, none, none, none, none, none], none⟩
@[reducible] def d_laws_eqStreamS_4_ret : SD := ⟨[.data false (.sl .arg TStream), .data false (.sl .arg TStream), .bot, .bot, .data false .bool, .data false (.int .i64), .bot, .bot, .bot, .bot, .bot, .bot, .bot, .bot, .bot, .bot, .bot, .bot, .bot, .bot, .bot, .bot, .bot, .bot, .bot, .bot, .bot], [none, none, none, none, none, none, none, none, none, none, none, none, none, none, none, none, none, none, none, none, none, none, none, none, none, none, none], none⟩
noncomputable def l_laws_eqStreamS_4 : LEnt := ⟨d_laws_eqStreamS_4, fun X K => iterL (Pu.laws_eqStreamS_T4 (fun y0 => K (.exit 0) (SD.enc d_laws_eqStreamS_4_x0 (((X.1.1), ((X.1.2.1), ((X.1.2.2.1), (y0, ())))), (), ()))) (fun y0 y1 => K .ret (SD.enc d_laws_eqStreamS_4_ret (((X.1.1), ((X.1.2.1), (y0, (y1, ())))), (), ()))) X.1.1 X.1.2.1 X.1.2.2.1) fuel X.1.2.2.2.1⟩
noncomputable def L_laws_eqStreamS : Lam := (Lam.nil).add 4 l_laws_eqStreamS_4
theorem lok_laws_eqStreamS_4 : LOk E g_laws_eqStreamS n_laws_eqStreamS L_laws_eqStreamS (loopBody Try.f48 0) :=
  lok l_laws_eqStreamS_4 (by kernel_rfl) fuel fun R X K => (loop_iter (σ := Int) (fun x => SD.enc d_laws_eqStreamS_4 ((X.1.1, (X.1.2.1, (X.1.2.2.1, (x, ())))), (), ())) (Pu.laws_eqStreamS_T4 (fun y0 => K (.exit 0) (SD.enc d_laws_eqStreamS_4_x0 (((X.1.1), ((X.1.2.1), ((X.1.2.2.1), (y0, ())))), (), ()))) (fun y0 y1 => K .ret (SD.enc d_laws_eqStreamS_4_ret (((X.1.1), ((X.1.2.1), (y0, (y1, ())))), (), ()))) X.1.1 X.1.2.1 X.1.2.2.1) (fun m x => by kernel_rfl) fuel X.1.2.2.2.1).symm
theorem h_laws_eqStreamS : ∀ c ∈ loopsOf (Try.f48.body.getD .skip), LOk E g_laws_eqStreamS n_laws_eqStreamS L_laws_eqStreamS c := by
  have e : loopsOf (Try.f48.body.getD .skip) = [loopBody Try.f48 0] := by kernel_rfl
  rw [e]; simp only [List.forall_mem_cons]; exact ⟨lok_laws_eqStreamS_4, by simp⟩
theorem ok_laws_eqStreamS : FnOk Try.prog 48 e_laws_eqStreamS := FnOk.of (fnOk S_laws_eqStreamS Try.func48 (by kernel_rfl) h_laws_eqStreamS) (fun a => by kernel_rfl)
@[reducible] def s_laws_eqStringS : List PS := [.data false (.sl .str), .data false (.sl .str)]
@[reducible] def r_laws_eqStringS : List (Bool × FT) := [(false, .bool)]
noncomputable def F_laws_eqStringS (a : Args s_laws_eqStringS) : Option (resD r_laws_eqStringS) := Pu.laws_eqStringS a.1 a.2.1
noncomputable def e_laws_eqStringS : GEnt := entOf s_laws_eqStringS r_laws_eqStringS F_laws_eqStringS
noncomputable def g_laws_eqStringS : Gam := Gam.nil
theorem S_laws_eqStringS : Sound Try.prog E g_laws_eqStringS := base
def n_laws_eqStringS : An := { mask := fun | 4 => [0, 1, 4, 5] | _ => [] }
@[reducible] def d_laws_eqStringS_4 : SD := ⟨[.data false (.sl .arg .str), .data false (.sl .arg .str), .bot, .bot, .data false .bool, .data false (.int .i64), .bot, .bot, .bot, .bot, .bot, .bot, .bot, .bot, .bot, .bot, .bot, .bot, .bot, .bot, .bot, .bot, .bot, .bot, .bot, .bot], [none, none, none, none, none, none, none, none, none, none, none, none, none, none, none, none, none, none, none, none, none, none, none, none, none, none], none⟩
@[reducible] def d_laws_eqStringS_4_x0 : SD := ⟨[.data false (.sl .arg .str), .data false (.sl .arg .str), .bot, .bot, .data false .bool, .data false (.int .i64), .bot, .bot, .bot, .bot, .bot, .bot, .bot, .bot, .bot, .bot, .bot, .bot, .bot, .bot, .bot, .bot, .bot, .bot, .bot, .bot], [none, none, none, none, none, none, none, none, none, none, none, none, none, none, none, none, none, none, none, none, none, none, none, none, none, none], none⟩
@[reducible] def d_laws_eqStringS_4_ret : SD := ⟨[.data false (.sl .arg .str), .data false (.sl .arg .str), .bot, .bot, .data false .bool, .data false (.int .i64), .bot, .bot, .bot, .bot, .bot, .bot, .bot, .bot, .bot, .bot, .bot, .bot, .bot, .bot, .bot, .bot, .bot, .bot, .bot, .bot], [none, none, none, none, none, none, none, none, none, none, none, none, none, none, none, none, none, none, none, none, none, none, none, none, none, none], none⟩
noncomputable def l_laws_eqStringS_4 : LEnt := ⟨d_laws_eqStringS_4, fun X K => iterL (Pu.laws_eqStringS_T4 (fun y0 => K (.exit 0) (SD.enc d_laws_eqStringS_4_x0 (((X.1.1), ((X.1.2.1), ((X.1.2.2.1), (y0, ())))), (), ()))) (fun y0 y1 => K .ret (SD.enc d_laws_eqStringS_4_ret (((X.1.1), ((X.1.2.1), (y0, (y1, ())))), (), ()))) X.1.1 X.1.2.1 X.1.2.2.1) fuel X.1.2.2.2.1⟩
noncomputable def L_laws_eqStringS : Lam := (Lam.nil).add 4 l_laws_eqStringS_4
theorem lok_laws_eqStringS_4 : LOk E g_laws_eqStringS n_laws_eqStringS L_laws_eqStringS (loopBody Try.f49 0) :=
  lok l_laws_eqStringS_4 (by kernel_rfl) fuel fun R X K => (loop_iter (σ := Int) (fun x => SD.enc d_laws_eqStringS_4 ((X.1.1, (X.1.2.1, (X.1.2.2.1, (x, ())))), (), ())) (Pu.laws_eqStringS_T4 (fun y0 => K (.exit 0) (SD.enc d_laws_eqStringS_4_x0 (((X.1.1), ((X.1.2.1), ((X.1.2.2.1), (y0, ())))), (), ()))) (fun y0 y1 => K .ret (SD.enc d_laws_eqStringS_4_ret (((X.1.1), ((X.1.2.1), (y0, (y1, ())))), (), ()))) X.1.1 X.1.2.1 X.1.2.2.1) (fun m x => by kernel_rfl) fuel X.1.2.2.2.1).symm
theorem h_laws_eqStringS : ∀ c ∈ loopsOf (Try.f49.body.getD .skip), LOk E g_laws_eqStringS n_laws_eqStringS L_laws_eqStringS c := by
  have e : loopsOf (Try.f49.body.getD .skip) = [loopBody Try.f49 0] := by kernel_rfl
  rw [e]; simp only [List.forall_mem_cons]; exact ⟨lok_laws_eqStringS_4, by simp⟩
theorem ok_laws_eqStringS : FnOk Try.prog 49 e_laws_eqStringS := FnOk.of (fnOk S_laws_eqStringS Try.func49 (by kernel_rfl) h_laws_eqStringS) (fun a => by kernel_rfl)
@[reducible] def s_laws_eqSoft : List PS := [.data true TSoft, .data true TSoft]
@[reducible] def r_laws_eqSoft : List (Bool × FT) := [(false, .bool)]
noncomputable def F_laws_eqSoft (a : Args s_laws_eqSoft) : Option (resD r_laws_eqSoft) := Pu.laws_eqSoft a.1 a.2.1
noncomputable def e_laws_eqSoft : GEnt := entOf s_laws_eqSoft r_laws_eqSoft F_laws_eqSoft
noncomputable def g_laws_eqSoft : Gam := ((((Gam.nil).add 46 e_laws_eqFilter).add 47 e_laws_eqSteering).add 48 e_laws_eqStreamS).add 49 e_laws_eqStringS
theorem S_laws_eqSoft : Sound Try.prog E g_laws_eqSoft := ((((base).add ok_laws_eqFilter).add ok_laws_eqSteering).add ok_laws_eqStreamS).add ok_laws_eqStringS
def n_laws_eqSoft : An := {  }
noncomputable def L_laws_eqSoft : Lam := Lam.nil
theorem h_laws_eqSoft : ∀ c ∈ loopsOf (Try.f18.body.getD .skip), LOk E g_laws_eqSoft n_laws_eqSoft L_laws_eqSoft c := by
  have e : loopsOf (Try.f18.body.getD .skip) = [] := by kernel_rfl
  rw [e]; simp
theorem ok_laws_eqSoft : FnOk Try.prog 18 e_laws_eqSoft := FnOk.of (fnOk S_laws_eqSoft Try.func18 (by kernel_rfl) h_laws_eqSoft) (fun a => by kernel_rfl)
@[reducible] def s_laws_FnExactSoftOk : List PS := [.data true TSoft]
@[reducible] def r_laws_FnExactSoftOk : List (Bool × FT) := [(false, .bool)]
noncomputable def F_laws_FnExactSoftOk (a : Args s_laws_FnExactSoftOk) : Option (resD r_laws_FnExactSoftOk) := Pu.laws_FnExactSoftOk a.1
noncomputable def e_laws_FnExactSoftOk : GEnt := entOf s_laws_FnExactSoftOk r_laws_FnExactSoftOk F_laws_FnExactSoftOk
noncomputable def g_laws_FnExactSoftOk : Gam := (((((Gam.nil).add 14 e_laws_szSoft).add 15 e_spec_SoftOk).add 16 e_laws_toSoft).add 17 e_impl_SoftOk).add 18 e_laws_eqSoft
theorem S_laws_FnExactSoftOk : Sound Try.prog E g_laws_FnExactSoftOk := (((((base).add ok_laws_szSoft).add ok_spec_SoftOk).add ok_laws_toSoft).add ok_impl_SoftOk).add ok_laws_eqSoft
def n_laws_FnExactSoftOk : An := {  }
noncomputable def L_laws_FnExactSoftOk : Lam := Lam.nil
theorem h_laws_FnExactSoftOk : ∀ c ∈ loopsOf (Try.f4.body.getD .skip), LOk E g_laws_FnExactSoftOk n_laws_FnExactSoftOk L_laws_FnExactSoftOk c := by
  have e : loopsOf (Try.f4.body.getD .skip) = [] := by kernel_rfl
  rw [e]; simp
theorem ok_laws_FnExactSoftOk : FnOk Try.prog 4 e_laws_FnExactSoftOk := FnOk.of (fnOk S_laws_FnExactSoftOk Try.func4 (by kernel_rfl) h_laws_FnExactSoftOk) (fun a => by kernel_rfl)

end Go.Proofs.Ytibebpcialcgdaa.Fn
