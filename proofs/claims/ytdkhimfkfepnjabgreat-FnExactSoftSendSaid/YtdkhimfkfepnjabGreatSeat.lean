import Derived.Test.YtdkhimfkfepnjabGreatDnSig
import Derived.Test.YtdkhimfkfepnjabGreatPure
import Derived.Test.YtdkhimfkfepnjabGreatRows
/- Each function of the program is its pure function (made by gen.py). -/
namespace Go.Proofs.YtdkhimfkfepnjabGreat.Fn
open Go.Dn
open Go.Pu (TFilter TRule TFlow TSlot TSpread TSteering TStream TSoft TSegment TPacket TIp TEth)
set_option maxRecDepth 100000
abbrev B : PD := .bot
abbrev DI : PD := .data false (.int .i64)
abbrev DB : PD := .data false .bool
abbrev Z : Option FT := none
theorem nF {p : Code → Prop} : ∀ x ∈ ([] : List Code), p x := fun _ h => nomatch h
theorem cF {p : Code → Prop} {a : Code} {l : List Code} (h : p a) (t : ∀ x ∈ l, p x) : ∀ x ∈ a :: l, p x := List.forall_mem_cons.2 ⟨h, t⟩
theorem hF {p : Code → Prop} {l m : List Code} (e : l = m) (h : ∀ x ∈ m, p x) : ∀ x ∈ l, p x := e ▸ h
def E : Env := { ty := [(3, ⟨false, (.int .i64), []⟩),
  (4, ⟨false, .bool, []⟩),
  (5, ⟨false, (.int .u8), []⟩),
  (9, ⟨false, .str, []⟩),
  (22, ⟨false, (.sl (.int .i64)), [(3, 0)]⟩),
  (24, ⟨true, TFilter, [(0, 1), (1, 1), (2, 1)]⟩),
  (25, ⟨false, (.sl TRule), [(131, 0)]⟩),
  (26, ⟨false, (.sl TSlot), [(147, 0)]⟩),
  (28, ⟨true, (.sl TSlot), [(0, 1)]⟩),
  (30, ⟨true, TSpread, [(0, 1), (1, 1)]⟩),
  (32, ⟨true, TSteering, [(0, 1), (1, 1), (2, 2)]⟩),
  (33, ⟨false, (.sl TStream), [(91, 0)]⟩),
  (34, ⟨false, (.sl .str), [(9, 0)]⟩),
  (36, ⟨true, TSoft, [(0, 3), (3, 4), (7, 1), (8, 1), (9, 1)]⟩),
  (38, ⟨true, TSegment, [(0, 1), (1, 1), (2, 1), (3, 1), (4, 1), (5, 1), (6, 1), (7, 1)]⟩),
  (40, ⟨true, TPacket, [(0, 1), (1, 1), (2, 1), (3, 1), (4, 1), (5, 1), (6, 1), (7, 1), (8, 8)]⟩),
  (43, ⟨true, TFilter, [(0, 1), (1, 1), (2, 1)]⟩),
  (44, ⟨false, (.sl TRule), [(124, 0)]⟩),
  (45, ⟨false, (.sl TSlot), [(126, 0)]⟩),
  (47, ⟨true, (.sl TSlot), [(0, 1)]⟩),
  (48, ⟨true, TSpread, [(0, 1), (1, 1)]⟩),
  (50, ⟨true, TSteering, [(0, 1), (1, 1), (2, 2)]⟩),
  (51, ⟨false, (.sl TStream), [(105, 0)]⟩),
  (53, ⟨true, TSoft, [(0, 3), (3, 4), (7, 1), (8, 1), (9, 1)]⟩),
  (56, ⟨true, TSegment, [(0, 1), (1, 1), (2, 1), (3, 1), (4, 1), (5, 1), (6, 1), (7, 1)]⟩),
  (58, ⟨true, TPacket, [(0, 1), (1, 1), (2, 1), (3, 1), (4, 1), (5, 1), (6, 1), (7, 1), (8, 8)]⟩),
  (89, ⟨true, TFlow, [(0, 1), (1, 1), (2, 1), (3, 1), (4, 1)]⟩),
  (91, ⟨true, TStream, [(0, 5), (5, 1), (6, 1), (7, 1)]⟩),
  (97, ⟨false, (.sl TPacket), [(58, 0)]⟩),
  (103, ⟨true, TFlow, [(0, 1), (1, 1), (2, 1), (3, 1), (4, 1)]⟩),
  (105, ⟨true, TStream, [(0, 5), (5, 1), (6, 1), (7, 1)]⟩),
  (124, ⟨true, TRule, [(0, 1), (1, 1), (2, 1), (3, 1), (4, 1), (5, 1), (6, 1), (7, 1), (8, 1)]⟩),
  (126, ⟨true, TSlot, [(0, 1), (1, 5), (6, 1)]⟩),
  (131, ⟨true, TRule, [(0, 1), (1, 1), (2, 1), (3, 1), (4, 1), (5, 1), (6, 1), (7, 1), (8, 1)]⟩),
  (139, ⟨false, (.sl (.int .u8)), [(5, 0)]⟩),
  (147, ⟨true, TSlot, [(0, 1), (1, 5), (6, 1)]⟩),
  (154, ⟨true, TIp, [(0, 1), (1, 1), (2, 1), (3, 1), (4, 1), (5, 1), (6, 1)]⟩),
  (157, ⟨true, TEth, [(0, 1), (1, 1), (2, 1), (3, 1), (4, 1)]⟩),
  (168, ⟨false, (.int .u32), []⟩)], eqs := [(103, [.int, .int, .int, .int, .int])] }
theorem base : Sound Tryz.prog E Gam.nil := Sound.nil (lookE_ok (by kernel_rfl)) (lookQ_ok (by kernel_rfl)) (by kernel_rfl)
noncomputable def e_laws_szIntS : GEnt := entOf [.data false (.sl (.int .i64)), .data false (.int .i64)] [(false, (.int .i64))] fun a => Pu.laws_szIntS a.1 a.2.1
theorem ok_laws_szIntS : FnOk Tryz.prog 41 e_laws_szIntS := FnOk.of (fnOk (an := {}) (Λ := Lam.nil) (base) Tryz.func41 (by kernel_rfl) (hF (by kernel_rfl) nF)) (fun a => by kernel_rfl)
noncomputable def e_laws_szFilter : GEnt := entOf [.data true TFilter, .data false (.int .i64)] [(false, (.int .i64))] fun a => Pu.laws_szFilter a.1 a.2.1
theorem ok_laws_szFilter : FnOk Tryz.prog 13 e_laws_szFilter := FnOk.of (fnOk (an := {}) (Λ := Lam.nil) ((base).add ok_laws_szIntS) Tryz.func13 (by kernel_rfl) (hF (by kernel_rfl) nF)) (fun a => by kernel_rfl)
noncomputable def e_laws_szRuleS : GEnt := entOf [.data false (.sl TRule), .data false (.int .i64)] [(false, (.int .i64))] fun a => Pu.laws_szRuleS a.1 a.2.1
theorem ok_laws_szRuleS : FnOk Tryz.prog 42 e_laws_szRuleS := FnOk.of (fnOk (an := {}) (Λ := Lam.nil) (base) Tryz.func42 (by kernel_rfl) (hF (by kernel_rfl) nF)) (fun a => by kernel_rfl)
noncomputable def e_laws_szSlotS : GEnt := entOf [.data false (.sl TSlot), .data false (.int .i64)] [(false, (.int .i64))] fun a => Pu.laws_szSlotS a.1 a.2.1
theorem ok_laws_szSlotS : FnOk Tryz.prog 79 e_laws_szSlotS := FnOk.of (fnOk (an := {}) (Λ := Lam.nil) (base) Tryz.func79 (by kernel_rfl) (hF (by kernel_rfl) nF)) (fun a => by kernel_rfl)
noncomputable def e_laws_szFlowTable : GEnt := entOf [.data true (.sl TSlot), .data false (.int .i64)] [(false, (.int .i64))] fun a => Pu.laws_szFlowTable a.1 a.2.1
theorem ok_laws_szFlowTable : FnOk Tryz.prog 43 e_laws_szFlowTable := FnOk.of (fnOk (an := {}) (Λ := Lam.nil) ((base).add ok_laws_szSlotS) Tryz.func43 (by kernel_rfl) (hF (by kernel_rfl) nF)) (fun a => by kernel_rfl)
noncomputable def e_laws_szSpread : GEnt := entOf [.data true TSpread, .data false (.int .i64)] [(false, (.int .i64))] fun a => Pu.laws_szSpread a.1 a.2.1
theorem ok_laws_szSpread : FnOk Tryz.prog 44 e_laws_szSpread := FnOk.of (fnOk (an := {}) (Λ := Lam.nil) ((base).add ok_laws_szIntS) Tryz.func44 (by kernel_rfl) (hF (by kernel_rfl) nF)) (fun a => by kernel_rfl)
noncomputable def e_laws_szSteering : GEnt := entOf [.data true TSteering, .data false (.int .i64)] [(false, (.int .i64))] fun a => Pu.laws_szSteering a.1 a.2.1
theorem ok_laws_szSteering : FnOk Tryz.prog 14 e_laws_szSteering := FnOk.of (fnOk (an := {}) (Λ := Lam.nil) ((((base).add ok_laws_szRuleS).add ok_laws_szFlowTable).add ok_laws_szSpread) Tryz.func14 (by kernel_rfl) (hF (by kernel_rfl) nF)) (fun a => by kernel_rfl)
noncomputable def e_laws_szStream : GEnt := entOf [.data true TStream, .data false (.int .i64)] [(false, (.int .i64))] fun a => Pu.laws_szStream a.1 a.2.1
theorem ok_laws_szStream : FnOk Tryz.prog 45 e_laws_szStream := FnOk.of (fnOk (an := {}) (Λ := Lam.nil) (base) Tryz.func45 (by kernel_rfl) (hF (by kernel_rfl) nF)) (fun a => by kernel_rfl)
noncomputable def e_laws_szStreamS : GEnt := entOf [.data false (.sl TStream), .data false (.int .i64)] [(false, (.int .i64))] fun a => Pu.laws_szStreamS a.1 a.2.1
noncomputable def g_laws_szStreamS : Gam := (Gam.nil).add 45 e_laws_szStream
def n_laws_szStreamS : An := { mask := fun | 5 => [0, 1, 4, 5] | _ => [] }
@[reducible] def d_laws_szStreamS_5 : SD := ⟨[.data false (.sl .arg TStream),DI,B,B,DI,DI,B,B,B,B,B,B,B,B,B,B,B,B,B,B,B,B,B,B,B,B,B], [Z,Z,Z,Z,Z,Z,Z,Z,Z,Z,Z,Z,Z,Z,Z,Z,Z,Z,Z,Z,Z,Z,Z,Z,Z,Z,Z], none⟩
noncomputable def t_laws_szStreamS_5 {R : Type} (X : SD.D d_laws_szStreamS_5) (K : Ex → AS → Option R) := Pu.laws_szStreamS_T5 (fun y0 y1 => K (.exit 0) (SD.enc d_laws_szStreamS_5 ((X.1.1, (y0, (X.1.2.2.1, (y1, ())))), (), ()))) (fun y0 y1 y2 => K .ret (SD.enc d_laws_szStreamS_5 ((X.1.1, (y0, (y1, (y2, ())))), (), ()))) X.1.1 X.1.2.2.1
noncomputable def l_laws_szStreamS_5 : LEnt := ⟨d_laws_szStreamS_5, fun X K => iterL (t_laws_szStreamS_5 X K) fuel (X.1.2.1, X.1.2.2.2.1)⟩
noncomputable def L_laws_szStreamS : Lam := (Lam.nil).add 5 l_laws_szStreamS_5
theorem lok_laws_szStreamS_5 : LOk E g_laws_szStreamS n_laws_szStreamS L_laws_szStreamS (loopBody Tryz.f15 0) :=
  lok l_laws_szStreamS_5 (by kernel_rfl) fuel fun R X K => (loop_iter (σ := Int × Int) (fun x => SD.enc d_laws_szStreamS_5 ((X.1.1, (x.1, (X.1.2.2.1, (x.2, ())))), (), ())) (t_laws_szStreamS_5 X K) (fun m x => by kernel_rfl) fuel (X.1.2.1, X.1.2.2.2.1)).symm
theorem ok_laws_szStreamS : FnOk Tryz.prog 15 e_laws_szStreamS := FnOk.of (fnOk (Γ := g_laws_szStreamS) (an := n_laws_szStreamS) (Λ := L_laws_szStreamS) ((base).add ok_laws_szStream) Tryz.func15 (by kernel_rfl) (hF (by kernel_rfl) (cF lok_laws_szStreamS_5 nF))) (fun a => by kernel_rfl)
noncomputable def e_laws_szStringS : GEnt := entOf [.data false (.sl .str), .data false (.int .i64)] [(false, (.int .i64))] fun a => Pu.laws_szStringS a.1 a.2.1
noncomputable def g_laws_szStringS : Gam := Gam.nil
def n_laws_szStringS : An := { mask := fun | 5 => [0, 1, 4, 5] | _ => [] }
@[reducible] def d_laws_szStringS_5 : SD := ⟨[.data false (.sl .arg .str),DI,B,B,DI,DI,B,B,B,B,B,B,B,B,B,B,B,B,B,B,B,B,B,B,B,B,B,B], [Z,Z,Z,Z,Z,Z,Z,Z,Z,Z,Z,Z,Z,Z,Z,Z,Z,Z,Z,Z,Z,Z,Z,Z,Z,Z,Z,Z], none⟩
noncomputable def t_laws_szStringS_5 {R : Type} (X : SD.D d_laws_szStringS_5) (K : Ex → AS → Option R) := Pu.laws_szStringS_T5 (fun y0 y1 => K (.exit 0) (SD.enc d_laws_szStringS_5 ((X.1.1, (y0, (X.1.2.2.1, (y1, ())))), (), ()))) (fun y0 y1 y2 => K .ret (SD.enc d_laws_szStringS_5 ((X.1.1, (y0, (y1, (y2, ())))), (), ()))) X.1.1 X.1.2.2.1
noncomputable def l_laws_szStringS_5 : LEnt := ⟨d_laws_szStringS_5, fun X K => iterL (t_laws_szStringS_5 X K) fuel (X.1.2.1, X.1.2.2.2.1)⟩
noncomputable def L_laws_szStringS : Lam := (Lam.nil).add 5 l_laws_szStringS_5
theorem lok_laws_szStringS_5 : LOk E g_laws_szStringS n_laws_szStringS L_laws_szStringS (loopBody Tryz.f16 0) :=
  lok l_laws_szStringS_5 (by kernel_rfl) fuel fun R X K => (loop_iter (σ := Int × Int) (fun x => SD.enc d_laws_szStringS_5 ((X.1.1, (x.1, (X.1.2.2.1, (x.2, ())))), (), ())) (t_laws_szStringS_5 X K) (fun m x => by kernel_rfl) fuel (X.1.2.1, X.1.2.2.2.1)).symm
theorem ok_laws_szStringS : FnOk Tryz.prog 16 e_laws_szStringS := FnOk.of (fnOk (Γ := g_laws_szStringS) (an := n_laws_szStringS) (Λ := L_laws_szStringS) (base) Tryz.func16 (by kernel_rfl) (hF (by kernel_rfl) (cF lok_laws_szStringS_5 nF))) (fun a => by kernel_rfl)
noncomputable def e_laws_szSoft : GEnt := entOf [.data true TSoft, .data false (.int .i64)] [(false, (.int .i64))] fun a => Pu.laws_szSoft a.1 a.2.1
theorem ok_laws_szSoft : FnOk Tryz.prog 4 e_laws_szSoft := FnOk.of (fnOk (an := {}) (Λ := Lam.nil) (((((base).add ok_laws_szFilter).add ok_laws_szSteering).add ok_laws_szStreamS).add ok_laws_szStringS) Tryz.func4 (by kernel_rfl) (hF (by kernel_rfl) nF)) (fun a => by kernel_rfl)
noncomputable def e_laws_szSegment : GEnt := entOf [.data true TSegment, .data false (.int .i64)] [(false, (.int .i64))] fun a => Pu.laws_szSegment a.1 a.2.1
theorem ok_laws_szSegment : FnOk Tryz.prog 17 e_laws_szSegment := FnOk.of (fnOk (an := {}) (Λ := Lam.nil) (base) Tryz.func17 (by kernel_rfl) (hF (by kernel_rfl) nF)) (fun a => by kernel_rfl)
noncomputable def e_laws_szPacket : GEnt := entOf [.data true TPacket, .data false (.int .i64)] [(false, (.int .i64))] fun a => Pu.laws_szPacket a.1 a.2.1
theorem ok_laws_szPacket : FnOk Tryz.prog 5 e_laws_szPacket := FnOk.of (fnOk (an := {}) (Λ := Lam.nil) ((base).add ok_laws_szSegment) Tryz.func5 (by kernel_rfl) (hF (by kernel_rfl) nF)) (fun a => by kernel_rfl)
noncomputable def e_spec_l24Copy : GEnt := entOf [.data true TFilter] [(true, (.pair (.int .i64) (.pair .bool (.sl (.own none) (.int .i64)))))] fun a => Pu.spec_l24Copy a.1
theorem ok_spec_l24Copy : FnOk Tryz.prog 46 e_spec_l24Copy := FnOk.of (fnOk (an := {}) (Λ := Lam.nil) (base) Tryz.func46 (by kernel_rfl) (hF (by kernel_rfl) nF)) (fun a => by kernel_rfl)
noncomputable def e_spec_l13Copy : GEnt := entOf [.data true (.sl TSlot)] [(true, (.sl (.own none) TSlot))] fun a => Pu.spec_l13Copy a.1
theorem ok_spec_l13Copy : FnOk Tryz.prog 80 e_spec_l13Copy := FnOk.of (fnOk (an := {}) (Λ := Lam.nil) (base) Tryz.func80 (by kernel_rfl) (hF (by kernel_rfl) nF)) (fun a => by kernel_rfl)
noncomputable def e_spec_l15Copy : GEnt := entOf [.data true TSteering] [(true, (.pair (.sl (.own none) TRule) (.pair (.sl (.own none) TSlot) (.pair .str (.sl (.own none) (.int .i64))))))] fun a => Pu.spec_l15Copy a.1
theorem ok_spec_l15Copy : FnOk Tryz.prog 47 e_spec_l15Copy := FnOk.of (fnOk (an := {}) (Λ := Lam.nil) ((base).add ok_spec_l13Copy) Tryz.func47 (by kernel_rfl) (hF (by kernel_rfl) nF)) (fun a => by kernel_rfl)
noncomputable def e_spec_l40Copy : GEnt := entOf [.data true TSoft] [(true, (.pair (.pair (.int .i64) (.pair .bool (.sl (.own none) (.int .i64)))) (.pair (.pair (.sl (.own none) TRule) (.pair (.sl (.own none) TSlot) (.pair .str (.sl (.own none) (.int .i64))))) (.pair (.int .i64) (.pair (.sl (.own none) TStream) (.sl (.own none) .str))))))] fun a => Pu.spec_l40Copy a.1
theorem ok_spec_l40Copy : FnOk Tryz.prog 18 e_spec_l40Copy := FnOk.of (fnOk (an := {}) (Λ := Lam.nil) (((base).add ok_spec_l24Copy).add ok_spec_l15Copy) Tryz.func18 (by kernel_rfl) (hF (by kernel_rfl) nF)) (fun a => by kernel_rfl)
noncomputable def e_spec_l01In : GEnt := entOf [.data false (.int .i64), .data false (.int .i64), .data false (.int .i64)] [(false, .bool)] fun a => Pu.spec_l01In a.1 a.2.1 a.2.2.1
theorem ok_spec_l01In : FnOk Tryz.prog 81 e_spec_l01In := FnOk.of (fnOk (an := { merge := fun | 1 => some 6 | _ => none }) (Λ := Lam.nil) (base) Tryz.func81 (by kernel_rfl) (hF (by kernel_rfl) nF)) (fun a => by kernel_rfl)
noncomputable def e_spec_FilterOk : GEnt := entOf [.data true TFilter] [(false, .bool)] fun a => Pu.spec_FilterOk a.1
noncomputable def g_spec_FilterOk : Gam := (Gam.nil).add 81 e_spec_l01In
def n_spec_FilterOk : An := { mask := fun | 2 => [1, 2, 3] | _ => [], merge := fun | 4 => some 35 | 6 => some 2 | _ => none }
@[reducible] def d_spec_FilterOk_2 : SD := ⟨[B,.ptr 1 0,DB,DI,B,B,B,B,B,B,B,B,B,B,B,B,B,B,B,B,B,B,B,B,B,B,B,B,B,B,B,B,B,B,B,B,B,B,B,B,B,B,B,B,B], [Z,some (.pair (.int .i64) (.pair .bool (.sl .arg (.int .i64)))),Z,Z,Z,Z,Z,Z,Z,Z,Z,Z,Z,Z,Z,Z,Z,Z,Z,Z,Z,Z,Z,Z,Z,Z,Z,Z,Z,Z,Z,Z,Z,Z,Z,Z,Z,Z,Z,Z,Z,Z,Z,Z,Z], none⟩
noncomputable def t_spec_FilterOk_2 {R : Type} (X : SD.D d_spec_FilterOk_2) (K : Ex → AS → Option R) := Pu.spec_FilterOk_T2 (fun y0 => K (.exit 0) (SD.enc d_spec_FilterOk_2 ((X.1.1, (y0, ())), (X.2.1.1, ()), ()))) (fun y0 y1 => K .ret (SD.enc d_spec_FilterOk_2 ((y0, (y1, ())), (X.2.1.1, ()), ()))) X.1.1 X.2.1.1
noncomputable def l_spec_FilterOk_2 : LEnt := ⟨d_spec_FilterOk_2, fun X K => iterL (t_spec_FilterOk_2 X K) fuel X.1.2.1⟩
noncomputable def L_spec_FilterOk : Lam := (Lam.nil).add 2 l_spec_FilterOk_2
theorem lok_spec_FilterOk_2 : LOk E g_spec_FilterOk n_spec_FilterOk L_spec_FilterOk (loopBody Tryz.f48 0) :=
  lok l_spec_FilterOk_2 (by kernel_rfl) fuel fun R X K => (loop_iter (σ := Int) (fun x => SD.enc d_spec_FilterOk_2 ((X.1.1, (x, ())), (X.2.1.1, ()), ())) (t_spec_FilterOk_2 X K) (fun m x => by kernel_rfl) fuel X.1.2.1).symm
theorem ok_spec_FilterOk : FnOk Tryz.prog 48 e_spec_FilterOk := FnOk.of (fnOk (Γ := g_spec_FilterOk) (an := n_spec_FilterOk) (Λ := L_spec_FilterOk) ((base).add ok_spec_l01In) Tryz.func48 (by kernel_rfl) (hF (by kernel_rfl) (cF lok_spec_FilterOk_2 nF))) (fun a => by kernel_rfl)
noncomputable def e_spec_RuleOk : GEnt := entOf [.data true TRule] [(false, .bool)] fun a => Pu.spec_RuleOk a.1
theorem ok_spec_RuleOk : FnOk Tryz.prog 104 e_spec_RuleOk := FnOk.of (fnOk (an := { merge := fun | 1 => some 33 | 3 => some 54 | 5 => some 2 | _ => none }) (Λ := Lam.nil) ((base).add ok_spec_l01In) Tryz.func104 (by kernel_rfl) (hF (by kernel_rfl) nF)) (fun a => by kernel_rfl)
noncomputable def e_spec_RulesOk : GEnt := entOf [.data false (.sl TRule)] [(false, .bool)] fun a => Pu.spec_RulesOk a.1
noncomputable def g_spec_RulesOk : Gam := (Gam.nil).add 104 e_spec_RuleOk
def n_spec_RulesOk : An := { mask := fun | 2 => [0, 2, 3] | _ => [] }
@[reducible] def d_spec_RulesOk_2 : SD := ⟨[.data false (.sl .arg TRule),B,DB,DI,B,B,B,B,B,B,B,B,B,B,B,B,B,B,B], [Z,Z,Z,Z,Z,Z,Z,Z,Z,Z,Z,Z,Z,Z,Z,Z,Z,Z,Z], none⟩
noncomputable def t_spec_RulesOk_2 {R : Type} (X : SD.D d_spec_RulesOk_2) (K : Ex → AS → Option R) := Pu.spec_RulesOk_T2 (fun y0 => K (.exit 0) (SD.enc d_spec_RulesOk_2 ((X.1.1, (X.1.2.1, (y0, ()))), (), ()))) (fun y0 y1 => K .ret (SD.enc d_spec_RulesOk_2 ((X.1.1, (y0, (y1, ()))), (), ()))) X.1.1 X.1.2.1
noncomputable def l_spec_RulesOk_2 : LEnt := ⟨d_spec_RulesOk_2, fun X K => iterL (t_spec_RulesOk_2 X K) fuel X.1.2.2.1⟩
noncomputable def L_spec_RulesOk : Lam := (Lam.nil).add 2 l_spec_RulesOk_2
theorem lok_spec_RulesOk_2 : LOk E g_spec_RulesOk n_spec_RulesOk L_spec_RulesOk (loopBody Tryz.f82 0) :=
  lok l_spec_RulesOk_2 (by kernel_rfl) fuel fun R X K => (loop_iter (σ := Int) (fun x => SD.enc d_spec_RulesOk_2 ((X.1.1, (X.1.2.1, (x, ()))), (), ())) (t_spec_RulesOk_2 X K) (fun m x => by kernel_rfl) fuel X.1.2.2.1).symm
theorem ok_spec_RulesOk : FnOk Tryz.prog 82 e_spec_RulesOk := FnOk.of (fnOk (Γ := g_spec_RulesOk) (an := n_spec_RulesOk) (Λ := L_spec_RulesOk) ((base).add ok_spec_RuleOk) Tryz.func82 (by kernel_rfl) (hF (by kernel_rfl) (cF lok_spec_RulesOk_2 nF))) (fun a => by kernel_rfl)
noncomputable def e_spec_HomeSlot : GEnt := entOf [.data true TFlow] [(false, (.int .i64))] fun a => Pu.spec_HomeSlot a.1
noncomputable def g_spec_HomeSlot : Gam := Gam.nil
def n_spec_HomeSlot : An := { mask := fun | 4 => [3, 4, 5] | _ => [] }
@[reducible] def d_spec_HomeSlot_4 : SD := ⟨[B,B,B,DI,.data false (.sl (.own (some 49152)) (.int .i64)),DI,B,B,B,B,B,B,B,B,B,B,B,B,B,B,B,B,B,B,B,B,B,B,B,B,B,B], [Z,Z,Z,Z,Z,Z,Z,Z,Z,Z,Z,Z,Z,Z,Z,Z,Z,Z,Z,Z,Z,Z,Z,Z,Z,Z,Z,Z,Z,Z,Z,Z], none⟩
noncomputable def t_spec_HomeSlot_4 {R : Type} (X : SD.D d_spec_HomeSlot_4) (K : Ex → AS → Option R) := Pu.spec_HomeSlot_T4 (fun y0 y1 => K (.exit 0) (SD.enc d_spec_HomeSlot_4 ((y0, (X.1.2.1, (y1, ()))), (), ()))) X.1.2.1
noncomputable def l_spec_HomeSlot_4 : LEnt := ⟨d_spec_HomeSlot_4, fun X K => iterL (t_spec_HomeSlot_4 X K) fuel (X.1.1, X.1.2.2.1)⟩
noncomputable def L_spec_HomeSlot : Lam := (Lam.nil).add 4 l_spec_HomeSlot_4
theorem lok_spec_HomeSlot_4 : LOk E g_spec_HomeSlot n_spec_HomeSlot L_spec_HomeSlot (loopBody Tryz.f122 0) :=
  lok l_spec_HomeSlot_4 (by kernel_rfl) fuel fun R X K => (loop_iter (σ := Int × Int) (fun x => SD.enc d_spec_HomeSlot_4 ((x.1, (X.1.2.1, (x.2, ()))), (), ())) (t_spec_HomeSlot_4 X K) (fun m x => by kernel_rfl) fuel (X.1.1, X.1.2.2.1)).symm
theorem ok_spec_HomeSlot : FnOk Tryz.prog 122 e_spec_HomeSlot := FnOk.of (fnOk (Γ := g_spec_HomeSlot) (an := n_spec_HomeSlot) (Λ := L_spec_HomeSlot) (base) Tryz.func122 (by kernel_rfl) (hF (by kernel_rfl) (cF lok_spec_HomeSlot_4 nF))) (fun a => by kernel_rfl)
noncomputable def e_spec_l13Find : GEnt := entOf [.data true (.sl TSlot), .data true TFlow] [(false, (.int .i64))] fun a => Pu.spec_l13Find a.1 a.2.1
noncomputable def g_spec_l13Find : Gam := (Gam.nil).add 122 e_spec_HomeSlot
def n_spec_l13Find : An := { mask := fun | 2 => [2, 3, 4, 5] | _ => [], merge := fun | 7 => some 39 | _ => none }
@[reducible] def d_spec_l13Find_2 : SD := ⟨[B,B,.ptr 2 0,.ptr 3 0,DI,DI,B,B,B,B,B,B,B,B,B,B,B,B,B,B,B,B,B,B,B,B,B,B,B,B,B,B,B,B,B,B,B,B,B,B,B], [Z,Z,some (.sl .arg TSlot),some (.pair (.int .i64) (.pair (.int .i64) (.pair (.int .i64) (.pair (.int .i64) (.int .i64))))),Z,Z,Z,Z,Z,Z,Z,Z,Z,Z,Z,Z,Z,Z,Z,Z,Z,Z,Z,Z,Z,Z,Z,Z,Z,Z,Z,Z,Z,Z,Z,Z,Z,Z,Z,Z,Z], none⟩
noncomputable def t_spec_l13Find_2 {R : Type} (X : SD.D d_spec_l13Find_2) (K : Ex → AS → Option R) := Pu.spec_l13Find_T2 (fun y0 => K (.exit 0) (SD.enc d_spec_l13Find_2 ((X.1.1, (y0, ())), (X.2.1.1, (X.2.1.2.1, ())), ()))) (fun y0 y1 => K .ret (SD.enc d_spec_l13Find_2 ((y0, (y1, ())), (X.2.1.1, (X.2.1.2.1, ())), ()))) X.1.1 X.2.1.1 X.2.1.2.1
noncomputable def l_spec_l13Find_2 : LEnt := ⟨d_spec_l13Find_2, fun X K => iterL (t_spec_l13Find_2 X K) fuel X.1.2.1⟩
noncomputable def L_spec_l13Find : Lam := (Lam.nil).add 2 l_spec_l13Find_2
theorem lok_spec_l13Find_2 : LOk E g_spec_l13Find n_spec_l13Find L_spec_l13Find (loopBody Tryz.f105 0) :=
  lok l_spec_l13Find_2 (by kernel_rfl) fuel fun R X K => (loop_iter (σ := Int) (fun x => SD.enc d_spec_l13Find_2 ((X.1.1, (x, ())), (X.2.1.1, (X.2.1.2.1, ())), ())) (t_spec_l13Find_2 X K) (fun m x => by kernel_rfl) fuel X.1.2.1).symm
theorem ok_spec_l13Find : FnOk Tryz.prog 105 e_spec_l13Find := FnOk.of (fnOk (Γ := g_spec_l13Find) (an := n_spec_l13Find) (Λ := L_spec_l13Find) ((base).add ok_spec_HomeSlot) Tryz.func105 (by kernel_rfl) (hF (by kernel_rfl) (cF lok_spec_l13Find_2 nF))) (fun a => by kernel_rfl)
noncomputable def e_spec_TableOk : GEnt := entOf [.data true (.sl TSlot)] [(false, .bool)] fun a => Pu.spec_TableOk a.1
noncomputable def g_spec_TableOk : Gam := ((Gam.nil).add 81 e_spec_l01In).add 105 e_spec_l13Find
def n_spec_TableOk : An := { mask := fun | 4 => [1, 2, 3] | _ => [], merge := fun | 7 => some 30 | 10 => some 42 | _ => none }
@[reducible] def d_spec_TableOk_4 : SD := ⟨[B,.ptr 1 0,DB,DI,B,B,B,B,B,B,B,B,B,B,B,B,B,B,B,B,B,B,B,B,B,B,B,B,B,B,B,B,B,B,B,B,B,B,B,B,B,B,B,B,B,B,B,B,B], [Z,some (.sl .arg TSlot),Z,Z,Z,Z,Z,Z,Z,Z,Z,Z,Z,Z,Z,Z,Z,Z,Z,Z,Z,Z,Z,Z,Z,Z,Z,Z,Z,Z,Z,Z,Z,Z,Z,Z,Z,Z,Z,Z,Z,Z,Z,Z,Z,Z,Z,Z,Z], none⟩
noncomputable def t_spec_TableOk_4 {R : Type} (X : SD.D d_spec_TableOk_4) (K : Ex → AS → Option R) := Pu.spec_TableOk_T4 (fun y0 => K (.exit 0) (SD.enc d_spec_TableOk_4 ((X.1.1, (y0, ())), (X.2.1.1, ()), ()))) (fun y0 y1 => K .ret (SD.enc d_spec_TableOk_4 ((y0, (y1, ())), (X.2.1.1, ()), ()))) X.1.1 X.2.1.1
noncomputable def l_spec_TableOk_4 : LEnt := ⟨d_spec_TableOk_4, fun X K => iterL (t_spec_TableOk_4 X K) fuel X.1.2.1⟩
noncomputable def L_spec_TableOk : Lam := (Lam.nil).add 4 l_spec_TableOk_4
theorem lok_spec_TableOk_4 : LOk E g_spec_TableOk n_spec_TableOk L_spec_TableOk (loopBody Tryz.f83 0) :=
  lok l_spec_TableOk_4 (by kernel_rfl) fuel fun R X K => (loop_iter (σ := Int) (fun x => SD.enc d_spec_TableOk_4 ((X.1.1, (x, ())), (X.2.1.1, ()), ())) (t_spec_TableOk_4 X K) (fun m x => by kernel_rfl) fuel X.1.2.1).symm
theorem ok_spec_TableOk : FnOk Tryz.prog 83 e_spec_TableOk := FnOk.of (fnOk (Γ := g_spec_TableOk) (an := n_spec_TableOk) (Λ := L_spec_TableOk) (((base).add ok_spec_l01In).add ok_spec_l13Find) Tryz.func83 (by kernel_rfl) (hF (by kernel_rfl) (cF lok_spec_TableOk_4 nF))) (fun a => by kernel_rfl)
noncomputable def e_spec_l12Size : GEnt := entOf [.data false (.int .i64)] [(false, .bool)] fun a => Pu.spec_l12Size a.1
theorem ok_spec_l12Size : FnOk Tryz.prog 106 e_spec_l12Size := FnOk.of (fnOk (an := { merge := fun | 1 => some 2 | _ => none }) (Λ := Lam.nil) (base) Tryz.func106 (by kernel_rfl) (hF (by kernel_rfl) nF)) (fun a => by kernel_rfl)
noncomputable def e_spec_SpreadOk : GEnt := entOf [.data true TSpread, .data false (.int .i64)] [(false, .bool)] fun a => Pu.spec_SpreadOk a.1 a.2.1
noncomputable def g_spec_SpreadOk : Gam := ((Gam.nil).add 81 e_spec_l01In).add 106 e_spec_l12Size
def n_spec_SpreadOk : An := { mask := fun | 4 => [1, 2, 4, 5] | _ => [], merge := fun | 1 => some 21 | _ => none }
@[reducible] def d_spec_SpreadOk_4 : SD := ⟨[B,DI,.ptr 2 0,B,DB,DI,B,B,B,B,B,B,B,B,B,B,B,B,B,B,B,B,B,B,B,B,B,B,B,B,B,B,B,B,B,B,B,B], [Z,Z,some (.pair .str (.sl .arg (.int .i64))),Z,Z,Z,Z,Z,Z,Z,Z,Z,Z,Z,Z,Z,Z,Z,Z,Z,Z,Z,Z,Z,Z,Z,Z,Z,Z,Z,Z,Z,Z,Z,Z,Z,Z,Z], none⟩
noncomputable def t_spec_SpreadOk_4 {R : Type} (X : SD.D d_spec_SpreadOk_4) (K : Ex → AS → Option R) := Pu.spec_SpreadOk_T4 (fun y0 => K (.exit 0) (SD.enc d_spec_SpreadOk_4 ((X.1.1, (X.1.2.1, (y0, ()))), (X.2.1.1, ()), ()))) (fun y0 y1 => K .ret (SD.enc d_spec_SpreadOk_4 ((X.1.1, (y0, (y1, ()))), (X.2.1.1, ()), ()))) X.1.1 X.1.2.1 X.2.1.1
noncomputable def l_spec_SpreadOk_4 : LEnt := ⟨d_spec_SpreadOk_4, fun X K => iterL (t_spec_SpreadOk_4 X K) fuel X.1.2.2.1⟩
noncomputable def L_spec_SpreadOk : Lam := (Lam.nil).add 4 l_spec_SpreadOk_4
theorem lok_spec_SpreadOk_4 : LOk E g_spec_SpreadOk n_spec_SpreadOk L_spec_SpreadOk (loopBody Tryz.f84 0) :=
  lok l_spec_SpreadOk_4 (by kernel_rfl) fuel fun R X K => (loop_iter (σ := Int) (fun x => SD.enc d_spec_SpreadOk_4 ((X.1.1, (X.1.2.1, (x, ()))), (X.2.1.1, ()), ())) (t_spec_SpreadOk_4 X K) (fun m x => by kernel_rfl) fuel X.1.2.2.1).symm
theorem ok_spec_SpreadOk : FnOk Tryz.prog 84 e_spec_SpreadOk := FnOk.of (fnOk (Γ := g_spec_SpreadOk) (an := n_spec_SpreadOk) (Λ := L_spec_SpreadOk) (((base).add ok_spec_l01In).add ok_spec_l12Size) Tryz.func84 (by kernel_rfl) (hF (by kernel_rfl) (cF lok_spec_SpreadOk_4 nF))) (fun a => by kernel_rfl)
noncomputable def e_spec_SteeringOk : GEnt := entOf [.data true TSteering, .data false (.int .i64)] [(false, .bool)] fun a => Pu.spec_SteeringOk a.1 a.2.1
noncomputable def g_spec_SteeringOk : Gam := (((Gam.nil).add 82 e_spec_RulesOk).add 83 e_spec_TableOk).add 84 e_spec_SpreadOk
def n_spec_SteeringOk : An := { mask := fun | 4 => [1, 2, 4, 5] | 9 => [1, 2, 4, 6] | _ => [], merge := fun | 1 => some 23 | _ => none }
@[reducible] def d_spec_SteeringOk_4 : SD := ⟨[B,DI,.ptr 2 0,B,DB,DI,B,B,B,B,B,B,B,B,B,B,B,B,B,B,B,B,B,B,B,B,B,B,B,B,B,B,B,B,B,B,B,B,B,B,B,B,B,B,B,B,B,B,B,B,B,B,B,B,B,B], [Z,Z,some (.pair (.sl .arg TRule) (.pair (.sl .arg TSlot) (.pair .str (.sl .arg (.int .i64))))),Z,Z,Z,Z,Z,Z,Z,Z,Z,Z,Z,Z,Z,Z,Z,Z,Z,Z,Z,Z,Z,Z,Z,Z,Z,Z,Z,Z,Z,Z,Z,Z,Z,Z,Z,Z,Z,Z,Z,Z,Z,Z,Z,Z,Z,Z,Z,Z,Z,Z,Z,Z,Z], none⟩
noncomputable def t_spec_SteeringOk_4 {R : Type} (X : SD.D d_spec_SteeringOk_4) (K : Ex → AS → Option R) := Pu.spec_SteeringOk_T4 (fun y0 => K (.exit 0) (SD.enc d_spec_SteeringOk_4 ((X.1.1, (X.1.2.1, (y0, ()))), (X.2.1.1, ()), ()))) (fun y0 y1 => K .ret (SD.enc d_spec_SteeringOk_4 ((X.1.1, (y0, (y1, ()))), (X.2.1.1, ()), ()))) X.1.1 X.1.2.1 X.2.1.1
noncomputable def l_spec_SteeringOk_4 : LEnt := ⟨d_spec_SteeringOk_4, fun X K => iterL (t_spec_SteeringOk_4 X K) fuel X.1.2.2.1⟩
@[reducible] def d_spec_SteeringOk_9 : SD := ⟨[B,DI,.ptr 2 0,B,DB,B,DI,B,B,B,B,B,B,B,B,B,B,B,B,B,B,B,B,B,B,B,B,B,B,B,B,B,B,B,B,B,B,B,B,B,B,B,B,B,B,B,B,B,B,B,B,B,B,B,B,B], [Z,Z,some (.pair (.sl .arg TRule) (.pair (.sl .arg TSlot) (.pair .str (.sl .arg (.int .i64))))),Z,Z,Z,Z,Z,Z,Z,Z,Z,Z,Z,Z,Z,Z,Z,Z,Z,Z,Z,Z,Z,Z,Z,Z,Z,Z,Z,Z,Z,Z,Z,Z,Z,Z,Z,Z,Z,Z,Z,Z,Z,Z,Z,Z,Z,Z,Z,Z,Z,Z,Z,Z,Z], none⟩
noncomputable def t_spec_SteeringOk_9 {R : Type} (X : SD.D d_spec_SteeringOk_9) (K : Ex → AS → Option R) := Pu.spec_SteeringOk_T9 (fun y0 => K (.exit 2) (SD.enc d_spec_SteeringOk_9 ((X.1.1, (X.1.2.1, (y0, ()))), (X.2.1.1, ()), ()))) (fun y0 y1 => K .ret (SD.enc d_spec_SteeringOk_9 ((X.1.1, (y0, (y1, ()))), (X.2.1.1, ()), ()))) X.1.1 X.1.2.1 X.2.1.1
noncomputable def l_spec_SteeringOk_9 : LEnt := ⟨d_spec_SteeringOk_9, fun X K => iterL (t_spec_SteeringOk_9 X K) fuel X.1.2.2.1⟩
noncomputable def L_spec_SteeringOk : Lam := ((Lam.nil).add 4 l_spec_SteeringOk_4).add 9 l_spec_SteeringOk_9
theorem lok_spec_SteeringOk_4 : LOk E g_spec_SteeringOk n_spec_SteeringOk L_spec_SteeringOk (loopBody Tryz.f49 0) :=
  lok l_spec_SteeringOk_4 (by kernel_rfl) fuel fun R X K => (loop_iter (σ := Int) (fun x => SD.enc d_spec_SteeringOk_4 ((X.1.1, (X.1.2.1, (x, ()))), (X.2.1.1, ()), ())) (t_spec_SteeringOk_4 X K) (fun m x => by kernel_rfl) fuel X.1.2.2.1).symm
theorem lok_spec_SteeringOk_9 : LOk E g_spec_SteeringOk n_spec_SteeringOk L_spec_SteeringOk (loopBody Tryz.f49 1) :=
  lok l_spec_SteeringOk_9 (by kernel_rfl) fuel fun R X K => (loop_iter (σ := Int) (fun x => SD.enc d_spec_SteeringOk_9 ((X.1.1, (X.1.2.1, (x, ()))), (X.2.1.1, ()), ())) (t_spec_SteeringOk_9 X K) (fun m x => by kernel_rfl) fuel X.1.2.2.1).symm
theorem ok_spec_SteeringOk : FnOk Tryz.prog 49 e_spec_SteeringOk := FnOk.of (fnOk (Γ := g_spec_SteeringOk) (an := n_spec_SteeringOk) (Λ := L_spec_SteeringOk) ((((base).add ok_spec_RulesOk).add ok_spec_TableOk).add ok_spec_SpreadOk) Tryz.func49 (by kernel_rfl) (hF (by kernel_rfl) (cF lok_spec_SteeringOk_4 (cF lok_spec_SteeringOk_9 nF)))) (fun a => by kernel_rfl)
noncomputable def e_spec_SoftOk : GEnt := entOf [.data true TSoft] [(false, .bool)] fun a => Pu.spec_SoftOk a.1
theorem ok_spec_SoftOk : FnOk Tryz.prog 19 e_spec_SoftOk := FnOk.of (fnOk (an := { merge := fun | 1 => some 2 | _ => none }) (Λ := Lam.nil) (((base).add ok_spec_FilterOk).add ok_spec_SteeringOk) Tryz.func19 (by kernel_rfl) (hF (by kernel_rfl) nF)) (fun a => by kernel_rfl)
noncomputable def e_spec_SegmentOk : GEnt := entOf [.data true TSegment] [(false, .bool)] fun a => Pu.spec_SegmentOk a.1
theorem ok_spec_SegmentOk : FnOk Tryz.prog 110 e_spec_SegmentOk := FnOk.of (fnOk (an := { merge := fun | 1 => some 18 | 4 => some 2 | 5 => some 2 | _ => none }) (Λ := Lam.nil) ((base).add ok_spec_l01In) Tryz.func110 (by kernel_rfl) (hF (by kernel_rfl) nF)) (fun a => by kernel_rfl)
noncomputable def e_spec_SuperOk : GEnt := entOf [.data true TPacket] [(false, .bool)] fun a => Pu.spec_SuperOk a.1
theorem ok_spec_SuperOk : FnOk Tryz.prog 86 e_spec_SuperOk := FnOk.of (fnOk (an := { merge := fun | 1 => some 55 | 3 => some 3 | 4 => some 2 | _ => none }) (Λ := Lam.nil) (((base).add ok_spec_l01In).add ok_spec_SegmentOk) Tryz.func86 (by kernel_rfl) (hF (by kernel_rfl) nF)) (fun a => by kernel_rfl)
noncomputable def e_spec_PacketOk : GEnt := entOf [.data true TPacket] [(false, .bool)] fun a => Pu.spec_PacketOk a.1
theorem ok_spec_PacketOk : FnOk Tryz.prog 107 e_spec_PacketOk := FnOk.of (fnOk (an := { merge := fun | 1 => some 2 | _ => none }) (Λ := Lam.nil) ((base).add ok_spec_SuperOk) Tryz.func107 (by kernel_rfl) (hF (by kernel_rfl) nF)) (fun a => by kernel_rfl)
noncomputable def e_spec_Word16 : GEnt := entOf [.data false (.int .i64)] [(false, .str)] fun a => Pu.spec_Word16 a.1
theorem ok_spec_Word16 : FnOk Tryz.prog 134 e_spec_Word16 := FnOk.of (fnOk (an := {}) (Λ := Lam.nil) ((base).add ok_spec_l01In) Tryz.func134 (by kernel_rfl) (hF (by kernel_rfl) nF)) (fun a => by kernel_rfl)
noncomputable def e_spec_Word32 : GEnt := entOf [.data false (.int .i64)] [(false, .str)] fun a => Pu.spec_Word32 a.1
theorem ok_spec_Word32 : FnOk Tryz.prog 135 e_spec_Word32 := FnOk.of (fnOk (an := {}) (Λ := Lam.nil) ((base).add ok_spec_l01In) Tryz.func135 (by kernel_rfl) (hF (by kernel_rfl) nF)) (fun a => by kernel_rfl)
noncomputable def e_spec_PseudoHeader : GEnt := entOf [.data false (.int .i64), .data false (.int .i64), .data false (.int .i64), .data false (.int .i64)] [(false, .str), (false, .bool)] fun a => Pu.spec_PseudoHeader a.1 a.2.1 a.2.2.1 a.2.2.2.1
theorem ok_spec_PseudoHeader : FnOk Tryz.prog 136 e_spec_PseudoHeader := FnOk.of (fnOk (an := { merge := fun | 1 => some 27 | _ => none }) (Λ := Lam.nil) ((((base).add ok_spec_l01In).add ok_spec_Word16).add ok_spec_Word32) Tryz.func136 (by kernel_rfl) (hF (by kernel_rfl) nF)) (fun a => by kernel_rfl)
noncomputable def e_spec_AddSums : GEnt := entOf [.data false (.int .i64), .data false (.int .i64)] [(false, (.int .i64))] fun a => Pu.spec_AddSums a.1 a.2.1
theorem ok_spec_AddSums : FnOk Tryz.prog 160 e_spec_AddSums := FnOk.of (fnOk (an := { merge := fun | 1 => some 12 | _ => none }) (Λ := Lam.nil) ((base).add ok_spec_l01In) Tryz.func160 (by kernel_rfl) (hF (by kernel_rfl) nF)) (fun a => by kernel_rfl)
noncomputable def e_spec_SumWords : GEnt := entOf [.data false .str] [(false, (.int .i64))] fun a => Pu.spec_SumWords a.1
noncomputable def g_spec_SumWords : Gam := (Gam.nil).add 160 e_spec_AddSums
def n_spec_SumWords : An := { mask := fun | 3 => [0, 3, 4] | _ => [] }
@[reducible] def d_spec_SumWords_3 : SD := ⟨[.data false .str,B,B,DI,DI,B,B,B,B,B,B,B,B,B,B,B,B,B,B,B,B,B,B,B,B,B,B,B,B,B,B,B,B], [Z,Z,Z,Z,Z,Z,Z,Z,Z,Z,Z,Z,Z,Z,Z,Z,Z,Z,Z,Z,Z,Z,Z,Z,Z,Z,Z,Z,Z,Z,Z,Z,Z], none⟩
noncomputable def t_spec_SumWords_3 {R : Type} (X : SD.D d_spec_SumWords_3) (K : Ex → AS → Option R) := Pu.spec_SumWords_T3 (fun y0 y1 => K (.exit 0) (SD.enc d_spec_SumWords_3 ((X.1.1, (y0, (y1, ()))), (), ()))) X.1.1
noncomputable def l_spec_SumWords_3 : LEnt := ⟨d_spec_SumWords_3, fun X K => iterL (t_spec_SumWords_3 X K) fuel (X.1.2.1, X.1.2.2.1)⟩
noncomputable def L_spec_SumWords : Lam := (Lam.nil).add 3 l_spec_SumWords_3
theorem lok_spec_SumWords_3 : LOk E g_spec_SumWords n_spec_SumWords L_spec_SumWords (loopBody Tryz.f154 0) :=
  lok l_spec_SumWords_3 (by kernel_rfl) fuel fun R X K => (loop_iter (σ := Int × Int) (fun x => SD.enc d_spec_SumWords_3 ((X.1.1, (x.1, (x.2, ()))), (), ())) (t_spec_SumWords_3 X K) (fun m x => by kernel_rfl) fuel (X.1.2.1, X.1.2.2.1)).symm
theorem ok_spec_SumWords : FnOk Tryz.prog 154 e_spec_SumWords := FnOk.of (fnOk (Γ := g_spec_SumWords) (an := n_spec_SumWords) (Λ := L_spec_SumWords) ((base).add ok_spec_AddSums) Tryz.func154 (by kernel_rfl) (hF (by kernel_rfl) (cF lok_spec_SumWords_3 nF))) (fun a => by kernel_rfl)
noncomputable def e_spec_Checksum : GEnt := entOf [.data false .str] [(false, (.int .i64))] fun a => Pu.spec_Checksum a.1
theorem ok_spec_Checksum : FnOk Tryz.prog 137 e_spec_Checksum := FnOk.of (fnOk (an := {}) (Λ := Lam.nil) ((base).add ok_spec_SumWords) Tryz.func137 (by kernel_rfl) (hF (by kernel_rfl) nF)) (fun a => by kernel_rfl)
noncomputable def e_spec_l02Within : GEnt := entOf [.data false .str, .data false (.int .i64), .data false (.int .i64)] [(false, .bool)] fun a => Pu.spec_l02Within a.1 a.2.1 a.2.2.1
theorem ok_spec_l02Within : FnOk Tryz.prog 155 e_spec_l02Within := FnOk.of (fnOk (an := { merge := fun | 1 => some 6 | _ => none }) (Λ := Lam.nil) (base) Tryz.func155 (by kernel_rfl) (hF (by kernel_rfl) nF)) (fun a => by kernel_rfl)
noncomputable def e_spec_PutBytes : GEnt := entOf [.data false .str, .data false (.int .i64), .data false .str] [(false, .str)] fun a => Pu.spec_PutBytes a.1 a.2.1 a.2.2.1
theorem ok_spec_PutBytes : FnOk Tryz.prog 138 e_spec_PutBytes := FnOk.of (fnOk (an := {}) (Λ := Lam.nil) ((base).add ok_spec_l02Within) Tryz.func138 (by kernel_rfl) (hF (by kernel_rfl) nF)) (fun a => by kernel_rfl)
noncomputable def e_spec_BuildSegment : GEnt := entOf [.data false (.int .i64), .data false (.int .i64), .data true TSegment] [(false, .str), (false, .bool)] fun a => Pu.spec_BuildSegment a.1 a.2.1 a.2.2.1
theorem ok_spec_BuildSegment : FnOk Tryz.prog 123 e_spec_BuildSegment := FnOk.of (fnOk (an := { merge := fun | 14 => some 82 | _ => none }) (Λ := Lam.nil) (((((((base).add ok_spec_SegmentOk).add ok_spec_Word16).add ok_spec_Word32).add ok_spec_PseudoHeader).add ok_spec_Checksum).add ok_spec_PutBytes) Tryz.func123 (by kernel_rfl) (hF (by kernel_rfl) nF)) (fun a => by kernel_rfl)
noncomputable def e_spec_IpOk : GEnt := entOf [.data true TIp] [(false, .bool)] fun a => Pu.spec_IpOk a.1
theorem ok_spec_IpOk : FnOk Tryz.prog 156 e_spec_IpOk := FnOk.of (fnOk (an := { merge := fun | 1 => some 2 | _ => none }) (Λ := Lam.nil) ((base).add ok_spec_l01In) Tryz.func156 (by kernel_rfl) (hF (by kernel_rfl) nF)) (fun a => by kernel_rfl)
noncomputable def e_spec_IpHeader : GEnt := entOf [.data true TIp] [(false, .str), (false, .bool)] fun a => Pu.spec_IpHeader a.1
theorem ok_spec_IpHeader : FnOk Tryz.prog 139 e_spec_IpHeader := FnOk.of (fnOk (an := {}) (Λ := Lam.nil) ((((((base).add ok_spec_Word16).add ok_spec_Word32).add ok_spec_Checksum).add ok_spec_PutBytes).add ok_spec_IpOk) Tryz.func139 (by kernel_rfl) (hF (by kernel_rfl) nF)) (fun a => by kernel_rfl)
noncomputable def e_spec_BuildIp : GEnt := entOf [.data true TIp] [(false, .str), (false, .bool)] fun a => Pu.spec_BuildIp a.1
theorem ok_spec_BuildIp : FnOk Tryz.prog 124 e_spec_BuildIp := FnOk.of (fnOk (an := {}) (Λ := Lam.nil) ((base).add ok_spec_IpHeader) Tryz.func124 (by kernel_rfl) (hF (by kernel_rfl) nF)) (fun a => by kernel_rfl)
noncomputable def e_spec_EthOk : GEnt := entOf [.data true TEth] [(false, .bool)] fun a => Pu.spec_EthOk a.1
theorem ok_spec_EthOk : FnOk Tryz.prog 140 e_spec_EthOk := FnOk.of (fnOk (an := { merge := fun | 1 => some 2 | _ => none }) (Λ := Lam.nil) ((base).add ok_spec_l01In) Tryz.func140 (by kernel_rfl) (hF (by kernel_rfl) nF)) (fun a => by kernel_rfl)
noncomputable def e_spec_l04Address : GEnt := entOf [.data false (.int .i64)] [(false, .str)] fun a => Pu.spec_l04Address a.1
theorem ok_spec_l04Address : FnOk Tryz.prog 141 e_spec_l04Address := FnOk.of (fnOk (an := {}) (Λ := Lam.nil) (((base).add ok_spec_Word16).add ok_spec_Word32) Tryz.func141 (by kernel_rfl) (hF (by kernel_rfl) nF)) (fun a => by kernel_rfl)
noncomputable def e_spec_BuildEth : GEnt := entOf [.data true TEth] [(false, .str), (false, .bool)] fun a => Pu.spec_BuildEth a.1
theorem ok_spec_BuildEth : FnOk Tryz.prog 125 e_spec_BuildEth := FnOk.of (fnOk (an := {}) (Λ := Lam.nil) ((((base).add ok_spec_Word16).add ok_spec_EthOk).add ok_spec_l04Address) Tryz.func125 (by kernel_rfl) (hF (by kernel_rfl) nF)) (fun a => by kernel_rfl)
noncomputable def e_spec_l01Long : GEnt := entOf [.data false (.int .i64), .data false (.int .u8)] [(false, .str)] fun a => Pu.spec_l01Long a.1 a.2.1
noncomputable def g_spec_l01Long : Gam := Gam.nil
def n_spec_l01Long : An := { mask := fun | 3 => [0, 1, 5, 6] | _ => [] }
@[reducible] def d_spec_l01Long_3 : SD := ⟨[DI,.data false (.int .u8),B,B,B,.data false (.sl (.own (some 61440)) (.int .u8)),DI,B,B,B,B,B,B,B,B,B,B,B,B,B], [Z,Z,Z,Z,Z,Z,Z,Z,Z,Z,Z,Z,Z,Z,Z,Z,Z,Z,Z,Z], none⟩
noncomputable def t_spec_l01Long_3 {R : Type} (X : SD.D d_spec_l01Long_3) (K : Ex → AS → Option R) := Pu.spec_l01Long_T3 (fun y0 y1 => K (.exit 0) (SD.enc d_spec_l01Long_3 ((X.1.1, (X.1.2.1, (y0, (y1, ())))), (), ()))) X.1.1 X.1.2.1
noncomputable def l_spec_l01Long_3 : LEnt := ⟨d_spec_l01Long_3, fun X K => iterL (t_spec_l01Long_3 X K) fuel (X.1.2.2.1, X.1.2.2.2.1)⟩
noncomputable def L_spec_l01Long : Lam := (Lam.nil).add 3 l_spec_l01Long_3
theorem lok_spec_l01Long_3 : LOk E g_spec_l01Long n_spec_l01Long L_spec_l01Long (loopBody Tryz.f142 0) :=
  lok l_spec_l01Long_3 (by kernel_rfl) fuel fun R X K => (loop_iter (σ := (List Int) × Int) (fun x => SD.enc d_spec_l01Long_3 ((X.1.1, (X.1.2.1, (x.1, (x.2, ())))), (), ())) (t_spec_l01Long_3 X K) (fun m x => by kernel_rfl) fuel (X.1.2.2.1, X.1.2.2.2.1)).symm
theorem ok_spec_l01Long : FnOk Tryz.prog 142 e_spec_l01Long := FnOk.of (fnOk (Γ := g_spec_l01Long) (an := n_spec_l01Long) (Λ := L_spec_l01Long) (base) Tryz.func142 (by kernel_rfl) (hF (by kernel_rfl) (cF lok_spec_l01Long_3 nF))) (fun a => by kernel_rfl)
noncomputable def e_spec_PadBody : GEnt := entOf [.data false .str] [(false, .str)] fun a => Pu.spec_PadBody a.1
theorem ok_spec_PadBody : FnOk Tryz.prog 126 e_spec_PadBody := FnOk.of (fnOk (an := {}) (Λ := Lam.nil) ((base).add ok_spec_l01Long) Tryz.func126 (by kernel_rfl) (hF (by kernel_rfl) nF)) (fun a => by kernel_rfl)
noncomputable def e_spec_BuildImage : GEnt := entOf [.data true TPacket] [(false, .str), (false, .bool)] fun a => Pu.spec_BuildImage a.1
theorem ok_spec_BuildImage : FnOk Tryz.prog 108 e_spec_BuildImage := FnOk.of (fnOk (an := {}) (Λ := Lam.nil) ((((((base).add ok_spec_SuperOk).add ok_spec_BuildSegment).add ok_spec_BuildIp).add ok_spec_BuildEth).add ok_spec_PadBody) Tryz.func108 (by kernel_rfl) (hF (by kernel_rfl) nF)) (fun a => by kernel_rfl)
noncomputable def e_spec_Crc32 : GEnt := entOf [.data false .str] [(false, (.int .i64))] fun a => Pu.spec_Crc32 a.1
noncomputable def g_spec_Crc32 : Gam := Gam.nil
def n_spec_Crc32 : An := { mask := fun | 3 => [0, 3, 4] | 7 => [0, 3, 4, 5] | _ => [] }
@[reducible] def d_spec_Crc32_7 : SD := ⟨[.data false .str,B,B,DI,DI,DI,B,B,B,B,B,B,B,B,B,B,B,B,B,B,B,B,B,B,B,B,B,B,B,B,B,B], [Z,Z,Z,Z,Z,Z,Z,Z,Z,Z,Z,Z,Z,Z,Z,Z,Z,Z,Z,Z,Z,Z,Z,Z,Z,Z,Z,Z,Z,Z,Z,Z], none⟩
noncomputable def t_spec_Crc32_7 {R : Type} (X : SD.D d_spec_Crc32_7) (K : Ex → AS → Option R) := Pu.spec_Crc32_T7 (fun y0 y1 => K (.exit 2) (SD.enc d_spec_Crc32_7 ((X.1.1, (y0, (X.1.2.2.1, (y1, ())))), (), ()))) X.1.1 X.1.2.2.1
noncomputable def l_spec_Crc32_7 : LEnt := ⟨d_spec_Crc32_7, fun X K => iterL (t_spec_Crc32_7 X K) fuel (X.1.2.1, X.1.2.2.2.1)⟩
@[reducible] def d_spec_Crc32_3 : SD := ⟨[.data false .str,B,B,DI,DI,B,B,B,B,B,B,B,B,B,B,B,B,B,B,B,B,B,B,B,B,B,B,B,B,B,B,B], [Z,Z,Z,Z,Z,Z,Z,Z,Z,Z,Z,Z,Z,Z,Z,Z,Z,Z,Z,Z,Z,Z,Z,Z,Z,Z,Z,Z,Z,Z,Z,Z], none⟩
noncomputable def t_spec_Crc32_3 {R : Type} (X : SD.D d_spec_Crc32_3) (K : Ex → AS → Option R) := Pu.spec_Crc32_T3 (fun y0 y1 => K (.exit 0) (SD.enc d_spec_Crc32_3 ((X.1.1, (y0, (y1, ()))), (), ()))) X.1.1
noncomputable def l_spec_Crc32_3 : LEnt := ⟨d_spec_Crc32_3, fun X K => iterL (t_spec_Crc32_3 X K) fuel (X.1.2.1, X.1.2.2.1)⟩
noncomputable def L_spec_Crc32 : Lam := ((Lam.nil).add 7 l_spec_Crc32_7).add 3 l_spec_Crc32_3
theorem lok_spec_Crc32_7 : LOk E g_spec_Crc32 n_spec_Crc32 L_spec_Crc32 (loopBody Tryz.f127 1) :=
  lok l_spec_Crc32_7 (by kernel_rfl) fuel fun R X K => (loop_iter (σ := Int × Int) (fun x => SD.enc d_spec_Crc32_7 ((X.1.1, (x.1, (X.1.2.2.1, (x.2, ())))), (), ())) (t_spec_Crc32_7 X K) (fun m x => by kernel_rfl) fuel (X.1.2.1, X.1.2.2.2.1)).symm
theorem lok_spec_Crc32_3 : LOk E g_spec_Crc32 n_spec_Crc32 L_spec_Crc32 (loopBody Tryz.f127 0) :=
  lok l_spec_Crc32_3 (by kernel_rfl) fuel fun R X K => (loop_iter (σ := Int × Int) (fun x => SD.enc d_spec_Crc32_3 ((X.1.1, (x.1, (x.2, ()))), (), ())) (t_spec_Crc32_3 X K) (fun m x => by kernel_rfl) fuel (X.1.2.1, X.1.2.2.1)).symm
theorem ok_spec_Crc32 : FnOk Tryz.prog 127 e_spec_Crc32 := FnOk.of (fnOk (Γ := g_spec_Crc32) (an := n_spec_Crc32) (Λ := L_spec_Crc32) (base) Tryz.func127 (by kernel_rfl) (hF (by kernel_rfl) (cF lok_spec_Crc32_3 (cF lok_spec_Crc32_7 nF)))) (fun a => by kernel_rfl)
noncomputable def e_spec_WithFcs : GEnt := entOf [.data false .str] [(false, .str)] fun a => Pu.spec_WithFcs a.1
theorem ok_spec_WithFcs : FnOk Tryz.prog 109 e_spec_WithFcs := FnOk.of (fnOk (an := {}) (Λ := Lam.nil) ((base).add ok_spec_Crc32) Tryz.func109 (by kernel_rfl) (hF (by kernel_rfl) nF)) (fun a => by kernel_rfl)
noncomputable def e_spec_BuildFrame : GEnt := entOf [.data true TPacket] [(false, .str), (false, .bool)] fun a => Pu.spec_BuildFrame a.1
theorem ok_spec_BuildFrame : FnOk Tryz.prog 85 e_spec_BuildFrame := FnOk.of (fnOk (an := {}) (Λ := Lam.nil) ((((base).add ok_spec_PacketOk).add ok_spec_BuildImage).add ok_spec_WithFcs) Tryz.func85 (by kernel_rfl) (hF (by kernel_rfl) nF)) (fun a => by kernel_rfl)
noncomputable def e_spec_FrameAll : GEnt := entOf [.data false (.sl TPacket)] [(false, (.sl (.own none) .str))] fun a => Pu.spec_FrameAll a.1
noncomputable def g_spec_FrameAll : Gam := (Gam.nil).add 85 e_spec_BuildFrame
def n_spec_FrameAll : An := { mask := fun | 3 => [0, 3, 4] | _ => [], mv := [23, 27] }
@[reducible] def d_spec_FrameAll_3 : SD := ⟨[.data false (.sl .arg TPacket),B,B,.data false (.sl (.own (some 36864)) .str),DI,B,B,B,B,B,B,B,B,B,B,B,B,B,B,B,B,B,B,B,B,B,B,B], [Z,Z,Z,Z,Z,Z,Z,Z,Z,Z,Z,Z,Z,Z,Z,Z,Z,Z,Z,Z,Z,Z,Z,Z,Z,Z,Z,Z], none⟩
noncomputable def t_spec_FrameAll_3 {R : Type} (X : SD.D d_spec_FrameAll_3) (K : Ex → AS → Option R) := Pu.spec_FrameAll_T3 (fun y0 y1 => K (.exit 0) (SD.enc d_spec_FrameAll_3 ((X.1.1, (y0, (y1, ()))), (), ()))) X.1.1
noncomputable def l_spec_FrameAll_3 : LEnt := ⟨d_spec_FrameAll_3, fun X K => iterL (t_spec_FrameAll_3 X K) fuel (X.1.2.1, X.1.2.2.1)⟩
noncomputable def L_spec_FrameAll : Lam := (Lam.nil).add 3 l_spec_FrameAll_3
theorem lok_spec_FrameAll_3 : LOk E g_spec_FrameAll n_spec_FrameAll L_spec_FrameAll (loopBody Tryz.f50 0) :=
  lok l_spec_FrameAll_3 (by kernel_rfl) fuel fun R X K => (loop_iter (σ := (List Pu.Bytes) × Int) (fun x => SD.enc d_spec_FrameAll_3 ((X.1.1, (x.1, (x.2, ()))), (), ())) (t_spec_FrameAll_3 X K) (fun m x => by kernel_rfl) fuel (X.1.2.1, X.1.2.2.1)).symm
theorem ok_spec_FrameAll : FnOk Tryz.prog 50 e_spec_FrameAll := FnOk.of (fnOk (Γ := g_spec_FrameAll) (an := n_spec_FrameAll) (Λ := L_spec_FrameAll) ((base).add ok_spec_BuildFrame) Tryz.func50 (by kernel_rfl) (hF (by kernel_rfl) (cF lok_spec_FrameAll_3 nF))) (fun a => by kernel_rfl)
noncomputable def e_spec_Split : GEnt := entOf [.data true TPacket, .data false (.int .i64)] [(false, (.sl (.own none) TPacket))] fun a => Pu.spec_Split a.1 a.2.1
noncomputable def g_spec_Split : Gam := ((Gam.nil).add 81 e_spec_l01In).add 86 e_spec_SuperOk
def n_spec_Split : An := { mask := fun | 8 => [1, 2, 5, 6, 7] | _ => [], merge := fun | 2 => some 17 | 5 => some 31 | _ => none, mv := [18, 32, 87, 91] }
@[reducible] def d_spec_Split_8 : SD := ⟨[B,DI,.ptr 2 0,B,B,.data false (.sl (.own (some 61440)) TPacket),DI,DI,B,B,B,B,B,B,B,B,B,B,B,B,B,B,B,B,B,B,B,B,B,B,B,B,B,B,B,B,B,B,B,B,B,B,B,B,B,B,B,B,B,B,B,B,B,B,B,B,B,B,B,B,B,B,B,B,B,B,B,B,B,B,B,B,B,B,B,B,B,B,B,B,B,B,B,B,B,B,B,B,B,B,B,B], [Z,Z,some (.pair (.int .i64) (.pair (.int .i64) (.pair (.int .i64) (.pair (.int .i64) (.pair (.int .i64) (.pair (.int .i64) (.pair (.int .i64) (.pair (.int .i64) (.pair (.int .i64) (.pair (.int .i64) (.pair (.int .i64) (.pair (.int .i64) (.pair (.int .i64) (.pair (.int .i64) (.pair (.int .i64) .str))))))))))))))),Z,Z,Z,Z,Z,Z,Z,Z,Z,Z,Z,Z,Z,Z,Z,Z,Z,Z,Z,Z,Z,Z,Z,Z,Z,Z,Z,Z,Z,Z,Z,Z,Z,Z,Z,Z,Z,Z,Z,Z,Z,Z,Z,Z,Z,Z,Z,Z,Z,Z,Z,Z,Z,Z,Z,Z,Z,Z,Z,Z,Z,Z,Z,Z,Z,Z,Z,Z,Z,Z,Z,Z,Z,Z,Z,Z,Z,Z,Z,Z,Z,Z,Z,Z,Z,Z,Z,Z,Z], none⟩
noncomputable def t_spec_Split_8 {R : Type} (X : SD.D d_spec_Split_8) (K : Ex → AS → Option R) := Pu.spec_Split_T8 (fun y0 y1 => K (.exit 0) (SD.enc d_spec_Split_8 ((X.1.1, (y0, (X.1.2.2.1, (y1, ())))), (X.2.1.1, ()), ()))) X.1.1 X.1.2.2.1 X.2.1.1
noncomputable def l_spec_Split_8 : LEnt := ⟨d_spec_Split_8, fun X K => iterL (t_spec_Split_8 X K) fuel (X.1.2.1, X.1.2.2.2.1)⟩
noncomputable def L_spec_Split : Lam := (Lam.nil).add 8 l_spec_Split_8
theorem lok_spec_Split_8 : LOk E g_spec_Split n_spec_Split L_spec_Split (loopBody Tryz.f51 0) :=
  lok l_spec_Split_8 (by kernel_rfl) fuel fun R X K => (loop_iter (σ := (List Pu.Packet) × Int) (fun x => SD.enc d_spec_Split_8 ((X.1.1, (x.1, (X.1.2.2.1, (x.2, ())))), (X.2.1.1, ()), ())) (t_spec_Split_8 X K) (fun m x => by kernel_rfl) fuel (X.1.2.1, X.1.2.2.2.1)).symm
theorem ok_spec_Split : FnOk Tryz.prog 51 e_spec_Split := FnOk.of (fnOk (Γ := g_spec_Split) (an := n_spec_Split) (Λ := L_spec_Split) (((base).add ok_spec_l01In).add ok_spec_SuperOk) Tryz.func51 (by kernel_rfl) (hF (by kernel_rfl) (cF lok_spec_Split_8 nF))) (fun a => by kernel_rfl)
noncomputable def e_spec_SendFrames : GEnt := entOf [.data true TPacket, .data false (.int .i64)] [(false, (.sl (.own none) .str))] fun a => Pu.spec_SendFrames a.1 a.2.1
theorem ok_spec_SendFrames : FnOk Tryz.prog 20 e_spec_SendFrames := FnOk.of (fnOk (an := {}) (Λ := Lam.nil) (((base).add ok_spec_FrameAll).add ok_spec_Split) Tryz.func20 (by kernel_rfl) (hF (by kernel_rfl) nF)) (fun a => by kernel_rfl)
noncomputable def e_spec_SoftSend : GEnt := entOf [.data true TSoft, .data true TPacket, .data false (.int .i64)] [(true, (.pair (.pair (.int .i64) (.pair .bool (.sl (.own none) (.int .i64)))) (.pair (.pair (.sl (.own none) TRule) (.pair (.sl (.own none) TSlot) (.pair .str (.sl (.own none) (.int .i64))))) (.pair (.int .i64) (.pair (.sl (.own none) TStream) (.sl (.own none) .str))))))] fun a => Pu.spec_SoftSend a.1 a.2.1 a.2.2.1
theorem ok_spec_SoftSend : FnOk Tryz.prog 6 e_spec_SoftSend := FnOk.of (fnOk (an := { mv := [13, 19], mb := fun | 13 => some 7 | _ => none }) (Λ := Lam.nil) ((((base).add ok_spec_l40Copy).add ok_spec_SoftOk).add ok_spec_SendFrames) Tryz.func6 (by kernel_rfl) (hF (by kernel_rfl) nF)) (fun a => by kernel_rfl)
noncomputable def e_laws_toIntS : GEnt := entOf [.data false (.sl (.int .i64))] [(false, (.sl (.own none) (.int .i64)))] fun a => Pu.laws_toIntS a.1
noncomputable def g_laws_toIntS : Gam := Gam.nil
def n_laws_toIntS : An := { mask := fun | 3 => [0, 3, 4] | _ => [], mv := [21] }
@[reducible] def d_laws_toIntS_3 : SD := ⟨[.data false (.sl .arg (.int .i64)),B,B,.data false (.sl (.own (some 36864)) (.int .i64)),DI,B,B,B,B,B,B,B,B,B,B,B,B,B,B,B,B,B], [Z,Z,Z,Z,Z,Z,Z,Z,Z,Z,Z,Z,Z,Z,Z,Z,Z,Z,Z,Z,Z,Z], none⟩
noncomputable def t_laws_toIntS_3 {R : Type} (X : SD.D d_laws_toIntS_3) (K : Ex → AS → Option R) := Pu.laws_toIntS_T3 (fun y0 y1 => K (.exit 0) (SD.enc d_laws_toIntS_3 ((X.1.1, (y0, (y1, ()))), (), ()))) X.1.1
noncomputable def l_laws_toIntS_3 : LEnt := ⟨d_laws_toIntS_3, fun X K => iterL (t_laws_toIntS_3 X K) fuel (X.1.2.1, X.1.2.2.1)⟩
noncomputable def L_laws_toIntS : Lam := (Lam.nil).add 3 l_laws_toIntS_3
theorem lok_laws_toIntS_3 : LOk E g_laws_toIntS n_laws_toIntS L_laws_toIntS (loopBody Tryz.f52 0) :=
  lok l_laws_toIntS_3 (by kernel_rfl) fuel fun R X K => (loop_iter (σ := (List Int) × Int) (fun x => SD.enc d_laws_toIntS_3 ((X.1.1, (x.1, (x.2, ()))), (), ())) (t_laws_toIntS_3 X K) (fun m x => by kernel_rfl) fuel (X.1.2.1, X.1.2.2.1)).symm
theorem ok_laws_toIntS : FnOk Tryz.prog 52 e_laws_toIntS := FnOk.of (fnOk (Γ := g_laws_toIntS) (an := n_laws_toIntS) (Λ := L_laws_toIntS) (base) Tryz.func52 (by kernel_rfl) (hF (by kernel_rfl) (cF lok_laws_toIntS_3 nF))) (fun a => by kernel_rfl)
noncomputable def e_laws_toFilter : GEnt := entOf [.data true TFilter] [(true, (.pair (.int .i64) (.pair .bool (.sl (.own none) (.int .i64)))))] fun a => Pu.laws_toFilter a.1
theorem ok_laws_toFilter : FnOk Tryz.prog 21 e_laws_toFilter := FnOk.of (fnOk (an := { mv := [14] }) (Λ := Lam.nil) ((base).add ok_laws_toIntS) Tryz.func21 (by kernel_rfl) (hF (by kernel_rfl) nF)) (fun a => by kernel_rfl)
noncomputable def e_laws_toRule : GEnt := entOf [.data true TRule] [(true, (.pair (.int .i64) (.pair (.int .i64) (.pair (.int .i64) (.pair (.int .i64) (.pair (.int .i64) (.pair (.int .i64) (.pair (.int .i64) (.pair (.int .i64) (.int .i64))))))))))] fun a => Pu.laws_toRule a.1
theorem ok_laws_toRule : FnOk Tryz.prog 87 e_laws_toRule := FnOk.of (fnOk (an := {}) (Λ := Lam.nil) (base) Tryz.func87 (by kernel_rfl) (hF (by kernel_rfl) nF)) (fun a => by kernel_rfl)
noncomputable def e_laws_toRuleS : GEnt := entOf [.data false (.sl TRule)] [(false, (.sl (.own none) TRule))] fun a => Pu.laws_toRuleS a.1
noncomputable def g_laws_toRuleS : Gam := (Gam.nil).add 87 e_laws_toRule
def n_laws_toRuleS : An := { mask := fun | 3 => [0, 3, 4] | _ => [], mv := [22] }
@[reducible] def d_laws_toRuleS_3 : SD := ⟨[.data false (.sl .arg TRule),B,B,.data false (.sl (.own (some 36864)) TRule),DI,B,B,B,B,B,B,B,B,B,B,B,B,B,B,B,B,B,B], [Z,Z,Z,Z,Z,Z,Z,Z,Z,Z,Z,Z,Z,Z,Z,Z,Z,Z,Z,Z,Z,Z,Z], none⟩
noncomputable def t_laws_toRuleS_3 {R : Type} (X : SD.D d_laws_toRuleS_3) (K : Ex → AS → Option R) := Pu.laws_toRuleS_T3 (fun y0 y1 => K (.exit 0) (SD.enc d_laws_toRuleS_3 ((X.1.1, (y0, (y1, ()))), (), ()))) X.1.1
noncomputable def l_laws_toRuleS_3 : LEnt := ⟨d_laws_toRuleS_3, fun X K => iterL (t_laws_toRuleS_3 X K) fuel (X.1.2.1, X.1.2.2.1)⟩
noncomputable def L_laws_toRuleS : Lam := (Lam.nil).add 3 l_laws_toRuleS_3
theorem lok_laws_toRuleS_3 : LOk E g_laws_toRuleS n_laws_toRuleS L_laws_toRuleS (loopBody Tryz.f53 0) :=
  lok l_laws_toRuleS_3 (by kernel_rfl) fuel fun R X K => (loop_iter (σ := (List Pu.Rule) × Int) (fun x => SD.enc d_laws_toRuleS_3 ((X.1.1, (x.1, (x.2, ()))), (), ())) (t_laws_toRuleS_3 X K) (fun m x => by kernel_rfl) fuel (X.1.2.1, X.1.2.2.1)).symm
theorem ok_laws_toRuleS : FnOk Tryz.prog 53 e_laws_toRuleS := FnOk.of (fnOk (Γ := g_laws_toRuleS) (an := n_laws_toRuleS) (Λ := L_laws_toRuleS) ((base).add ok_laws_toRule) Tryz.func53 (by kernel_rfl) (hF (by kernel_rfl) (cF lok_laws_toRuleS_3 nF))) (fun a => by kernel_rfl)
noncomputable def e_laws_toFlow : GEnt := entOf [.data true TFlow] [(true, (.pair (.int .i64) (.pair (.int .i64) (.pair (.int .i64) (.pair (.int .i64) (.int .i64))))))] fun a => Pu.laws_toFlow a.1
theorem ok_laws_toFlow : FnOk Tryz.prog 89 e_laws_toFlow := FnOk.of (fnOk (an := {}) (Λ := Lam.nil) (base) Tryz.func89 (by kernel_rfl) (hF (by kernel_rfl) nF)) (fun a => by kernel_rfl)
noncomputable def e_laws_toSlot : GEnt := entOf [.data true TSlot] [(true, (.pair (.int .i64) (.pair (.pair (.int .i64) (.pair (.int .i64) (.pair (.int .i64) (.pair (.int .i64) (.int .i64))))) (.int .i64))))] fun a => Pu.laws_toSlot a.1
theorem ok_laws_toSlot : FnOk Tryz.prog 111 e_laws_toSlot := FnOk.of (fnOk (an := {}) (Λ := Lam.nil) ((base).add ok_laws_toFlow) Tryz.func111 (by kernel_rfl) (hF (by kernel_rfl) nF)) (fun a => by kernel_rfl)
noncomputable def e_laws_toSlotS : GEnt := entOf [.data false (.sl TSlot)] [(false, (.sl (.own none) TSlot))] fun a => Pu.laws_toSlotS a.1
noncomputable def g_laws_toSlotS : Gam := (Gam.nil).add 111 e_laws_toSlot
def n_laws_toSlotS : An := { mask := fun | 3 => [0, 3, 4] | _ => [], mv := [22] }
@[reducible] def d_laws_toSlotS_3 : SD := ⟨[.data false (.sl .arg TSlot),B,B,.data false (.sl (.own (some 36864)) TSlot),DI,B,B,B,B,B,B,B,B,B,B,B,B,B,B,B,B,B,B], [Z,Z,Z,Z,Z,Z,Z,Z,Z,Z,Z,Z,Z,Z,Z,Z,Z,Z,Z,Z,Z,Z,Z], none⟩
noncomputable def t_laws_toSlotS_3 {R : Type} (X : SD.D d_laws_toSlotS_3) (K : Ex → AS → Option R) := Pu.laws_toSlotS_T3 (fun y0 y1 => K (.exit 0) (SD.enc d_laws_toSlotS_3 ((X.1.1, (y0, (y1, ()))), (), ()))) X.1.1
noncomputable def l_laws_toSlotS_3 : LEnt := ⟨d_laws_toSlotS_3, fun X K => iterL (t_laws_toSlotS_3 X K) fuel (X.1.2.1, X.1.2.2.1)⟩
noncomputable def L_laws_toSlotS : Lam := (Lam.nil).add 3 l_laws_toSlotS_3
theorem lok_laws_toSlotS_3 : LOk E g_laws_toSlotS n_laws_toSlotS L_laws_toSlotS (loopBody Tryz.f88 0) :=
  lok l_laws_toSlotS_3 (by kernel_rfl) fuel fun R X K => (loop_iter (σ := (List Pu.Slot) × Int) (fun x => SD.enc d_laws_toSlotS_3 ((X.1.1, (x.1, (x.2, ()))), (), ())) (t_laws_toSlotS_3 X K) (fun m x => by kernel_rfl) fuel (X.1.2.1, X.1.2.2.1)).symm
theorem ok_laws_toSlotS : FnOk Tryz.prog 88 e_laws_toSlotS := FnOk.of (fnOk (Γ := g_laws_toSlotS) (an := n_laws_toSlotS) (Λ := L_laws_toSlotS) ((base).add ok_laws_toSlot) Tryz.func88 (by kernel_rfl) (hF (by kernel_rfl) (cF lok_laws_toSlotS_3 nF))) (fun a => by kernel_rfl)
noncomputable def e_laws_toFlowTable : GEnt := entOf [.data true (.sl TSlot)] [(true, (.sl (.own none) TSlot))] fun a => Pu.laws_toFlowTable a.1
theorem ok_laws_toFlowTable : FnOk Tryz.prog 54 e_laws_toFlowTable := FnOk.of (fnOk (an := { mv := [8] }) (Λ := Lam.nil) ((base).add ok_laws_toSlotS) Tryz.func54 (by kernel_rfl) (hF (by kernel_rfl) nF)) (fun a => by kernel_rfl)
noncomputable def e_laws_toSpread : GEnt := entOf [.data true TSpread] [(true, (.pair .str (.sl (.own none) (.int .i64))))] fun a => Pu.laws_toSpread a.1
theorem ok_laws_toSpread : FnOk Tryz.prog 55 e_laws_toSpread := FnOk.of (fnOk (an := { mv := [11] }) (Λ := Lam.nil) ((base).add ok_laws_toIntS) Tryz.func55 (by kernel_rfl) (hF (by kernel_rfl) nF)) (fun a => by kernel_rfl)
noncomputable def e_laws_toSteering : GEnt := entOf [.data true TSteering] [(true, (.pair (.sl (.own none) TRule) (.pair (.sl (.own none) TSlot) (.pair .str (.sl (.own none) (.int .i64))))))] fun a => Pu.laws_toSteering a.1
theorem ok_laws_toSteering : FnOk Tryz.prog 22 e_laws_toSteering := FnOk.of (fnOk (an := { mv := [16] }) (Λ := Lam.nil) ((((base).add ok_laws_toRuleS).add ok_laws_toFlowTable).add ok_laws_toSpread) Tryz.func22 (by kernel_rfl) (hF (by kernel_rfl) nF)) (fun a => by kernel_rfl)
noncomputable def e_laws_toStream : GEnt := entOf [.data true TStream] [(true, (.pair (.pair (.int .i64) (.pair (.int .i64) (.pair (.int .i64) (.pair (.int .i64) (.int .i64))))) (.pair (.int .i64) (.pair .str .bool))))] fun a => Pu.laws_toStream a.1
theorem ok_laws_toStream : FnOk Tryz.prog 56 e_laws_toStream := FnOk.of (fnOk (an := {}) (Λ := Lam.nil) ((base).add ok_laws_toFlow) Tryz.func56 (by kernel_rfl) (hF (by kernel_rfl) nF)) (fun a => by kernel_rfl)
noncomputable def e_laws_toStreamS : GEnt := entOf [.data false (.sl TStream)] [(false, (.sl (.own none) TStream))] fun a => Pu.laws_toStreamS a.1
noncomputable def g_laws_toStreamS : Gam := (Gam.nil).add 56 e_laws_toStream
def n_laws_toStreamS : An := { mask := fun | 3 => [0, 3, 4] | _ => [], mv := [22] }
@[reducible] def d_laws_toStreamS_3 : SD := ⟨[.data false (.sl .arg TStream),B,B,.data false (.sl (.own (some 36864)) TStream),DI,B,B,B,B,B,B,B,B,B,B,B,B,B,B,B,B,B,B], [Z,Z,Z,Z,Z,Z,Z,Z,Z,Z,Z,Z,Z,Z,Z,Z,Z,Z,Z,Z,Z,Z,Z], none⟩
noncomputable def t_laws_toStreamS_3 {R : Type} (X : SD.D d_laws_toStreamS_3) (K : Ex → AS → Option R) := Pu.laws_toStreamS_T3 (fun y0 y1 => K (.exit 0) (SD.enc d_laws_toStreamS_3 ((X.1.1, (y0, (y1, ()))), (), ()))) X.1.1
noncomputable def l_laws_toStreamS_3 : LEnt := ⟨d_laws_toStreamS_3, fun X K => iterL (t_laws_toStreamS_3 X K) fuel (X.1.2.1, X.1.2.2.1)⟩
noncomputable def L_laws_toStreamS : Lam := (Lam.nil).add 3 l_laws_toStreamS_3
theorem lok_laws_toStreamS_3 : LOk E g_laws_toStreamS n_laws_toStreamS L_laws_toStreamS (loopBody Tryz.f23 0) :=
  lok l_laws_toStreamS_3 (by kernel_rfl) fuel fun R X K => (loop_iter (σ := (List Pu.Stream) × Int) (fun x => SD.enc d_laws_toStreamS_3 ((X.1.1, (x.1, (x.2, ()))), (), ())) (t_laws_toStreamS_3 X K) (fun m x => by kernel_rfl) fuel (X.1.2.1, X.1.2.2.1)).symm
theorem ok_laws_toStreamS : FnOk Tryz.prog 23 e_laws_toStreamS := FnOk.of (fnOk (Γ := g_laws_toStreamS) (an := n_laws_toStreamS) (Λ := L_laws_toStreamS) ((base).add ok_laws_toStream) Tryz.func23 (by kernel_rfl) (hF (by kernel_rfl) (cF lok_laws_toStreamS_3 nF))) (fun a => by kernel_rfl)
noncomputable def e_laws_toStringS : GEnt := entOf [.data false (.sl .str)] [(false, (.sl (.own none) .str))] fun a => Pu.laws_toStringS a.1
noncomputable def g_laws_toStringS : Gam := Gam.nil
def n_laws_toStringS : An := { mask := fun | 3 => [0, 3, 4] | _ => [], mv := [21] }
@[reducible] def d_laws_toStringS_3 : SD := ⟨[.data false (.sl .arg .str),B,B,.data false (.sl (.own (some 36864)) .str),DI,B,B,B,B,B,B,B,B,B,B,B,B,B,B,B,B,B], [Z,Z,Z,Z,Z,Z,Z,Z,Z,Z,Z,Z,Z,Z,Z,Z,Z,Z,Z,Z,Z,Z], none⟩
noncomputable def t_laws_toStringS_3 {R : Type} (X : SD.D d_laws_toStringS_3) (K : Ex → AS → Option R) := Pu.laws_toStringS_T3 (fun y0 y1 => K (.exit 0) (SD.enc d_laws_toStringS_3 ((X.1.1, (y0, (y1, ()))), (), ()))) X.1.1
noncomputable def l_laws_toStringS_3 : LEnt := ⟨d_laws_toStringS_3, fun X K => iterL (t_laws_toStringS_3 X K) fuel (X.1.2.1, X.1.2.2.1)⟩
noncomputable def L_laws_toStringS : Lam := (Lam.nil).add 3 l_laws_toStringS_3
theorem lok_laws_toStringS_3 : LOk E g_laws_toStringS n_laws_toStringS L_laws_toStringS (loopBody Tryz.f24 0) :=
  lok l_laws_toStringS_3 (by kernel_rfl) fuel fun R X K => (loop_iter (σ := (List Pu.Bytes) × Int) (fun x => SD.enc d_laws_toStringS_3 ((X.1.1, (x.1, (x.2, ()))), (), ())) (t_laws_toStringS_3 X K) (fun m x => by kernel_rfl) fuel (X.1.2.1, X.1.2.2.1)).symm
theorem ok_laws_toStringS : FnOk Tryz.prog 24 e_laws_toStringS := FnOk.of (fnOk (Γ := g_laws_toStringS) (an := n_laws_toStringS) (Λ := L_laws_toStringS) (base) Tryz.func24 (by kernel_rfl) (hF (by kernel_rfl) (cF lok_laws_toStringS_3 nF))) (fun a => by kernel_rfl)
noncomputable def e_laws_toSoft : GEnt := entOf [.data true TSoft] [(true, (.pair (.pair (.int .i64) (.pair .bool (.sl (.own none) (.int .i64)))) (.pair (.pair (.sl (.own none) TRule) (.pair (.sl (.own none) TSlot) (.pair .str (.sl (.own none) (.int .i64))))) (.pair (.int .i64) (.pair (.sl (.own none) TStream) (.sl (.own none) .str))))))] fun a => Pu.laws_toSoft a.1
theorem ok_laws_toSoft : FnOk Tryz.prog 7 e_laws_toSoft := FnOk.of (fnOk (an := { mv := [23] }) (Λ := Lam.nil) (((((base).add ok_laws_toFilter).add ok_laws_toSteering).add ok_laws_toStreamS).add ok_laws_toStringS) Tryz.func7 (by kernel_rfl) (hF (by kernel_rfl) nF)) (fun a => by kernel_rfl)
noncomputable def e_laws_toSegment : GEnt := entOf [.data true TSegment] [(true, (.pair (.int .i64) (.pair (.int .i64) (.pair (.int .i64) (.pair (.int .i64) (.pair (.int .i64) (.pair (.int .i64) (.pair (.int .i64) .str))))))))] fun a => Pu.laws_toSegment a.1
theorem ok_laws_toSegment : FnOk Tryz.prog 25 e_laws_toSegment := FnOk.of (fnOk (an := {}) (Λ := Lam.nil) (base) Tryz.func25 (by kernel_rfl) (hF (by kernel_rfl) nF)) (fun a => by kernel_rfl)
noncomputable def e_laws_toPacket : GEnt := entOf [.data true TPacket] [(true, (.pair (.int .i64) (.pair (.int .i64) (.pair (.int .i64) (.pair (.int .i64) (.pair (.int .i64) (.pair (.int .i64) (.pair (.int .i64) (.pair (.int .i64) (.pair (.int .i64) (.pair (.int .i64) (.pair (.int .i64) (.pair (.int .i64) (.pair (.int .i64) (.pair (.int .i64) (.pair (.int .i64) .str))))))))))))))))] fun a => Pu.laws_toPacket a.1
theorem ok_laws_toPacket : FnOk Tryz.prog 8 e_laws_toPacket := FnOk.of (fnOk (an := {}) (Λ := Lam.nil) ((base).add ok_laws_toSegment) Tryz.func8 (by kernel_rfl) (hF (by kernel_rfl) nF)) (fun a => by kernel_rfl)
noncomputable def e_impl_copyInts : GEnt := entOf [.data false (.sl (.int .i64))] [(false, (.sl (.own none) (.int .i64)))] fun a => Pu.impl_copyInts a.1
theorem ok_impl_copyInts : FnOk Tryz.prog 90 e_impl_copyInts := FnOk.of (fnOk (an := {}) (Λ := Lam.nil) (base) Tryz.func90 (by kernel_rfl) (hF (by kernel_rfl) nF)) (fun a => by kernel_rfl)
noncomputable def e_impl_copyFilter : GEnt := entOf [.data true TFilter] [(true, (.pair (.int .i64) (.pair .bool (.sl (.own none) (.int .i64)))))] fun a => Pu.impl_copyFilter a.1
theorem ok_impl_copyFilter : FnOk Tryz.prog 57 e_impl_copyFilter := FnOk.of (fnOk (an := { mv := [7] }) (Λ := Lam.nil) ((base).add ok_impl_copyInts) Tryz.func57 (by kernel_rfl) (hF (by kernel_rfl) nF)) (fun a => by kernel_rfl)
noncomputable def e_impl_copyTable : GEnt := entOf [.data true (.sl TSlot)] [(true, (.sl (.own none) TSlot))] fun a => Pu.impl_copyTable a.1
theorem ok_impl_copyTable : FnOk Tryz.prog 91 e_impl_copyTable := FnOk.of (fnOk (an := {}) (Λ := Lam.nil) (base) Tryz.func91 (by kernel_rfl) (hF (by kernel_rfl) nF)) (fun a => by kernel_rfl)
noncomputable def e_impl_copySpread : GEnt := entOf [.data true TSpread] [(true, (.pair .str (.sl (.own none) (.int .i64))))] fun a => Pu.impl_copySpread a.1
theorem ok_impl_copySpread : FnOk Tryz.prog 92 e_impl_copySpread := FnOk.of (fnOk (an := {}) (Λ := Lam.nil) ((base).add ok_impl_copyInts) Tryz.func92 (by kernel_rfl) (hF (by kernel_rfl) nF)) (fun a => by kernel_rfl)
noncomputable def e_impl_copySteering : GEnt := entOf [.data true TSteering] [(true, (.pair (.sl (.own none) TRule) (.pair (.sl (.own none) TSlot) (.pair .str (.sl (.own none) (.int .i64))))))] fun a => Pu.impl_copySteering a.1
theorem ok_impl_copySteering : FnOk Tryz.prog 58 e_impl_copySteering := FnOk.of (fnOk (an := {}) (Λ := Lam.nil) (((base).add ok_impl_copyTable).add ok_impl_copySpread) Tryz.func58 (by kernel_rfl) (hF (by kernel_rfl) nF)) (fun a => by kernel_rfl)
noncomputable def e_impl_copyStreams : GEnt := entOf [.data false (.sl TStream)] [(false, (.sl (.own none) TStream))] fun a => Pu.impl_copyStreams a.1
theorem ok_impl_copyStreams : FnOk Tryz.prog 59 e_impl_copyStreams := FnOk.of (fnOk (an := {}) (Λ := Lam.nil) (base) Tryz.func59 (by kernel_rfl) (hF (by kernel_rfl) nF)) (fun a => by kernel_rfl)
noncomputable def e_impl_copyStrings : GEnt := entOf [.data false (.sl .str)] [(false, (.sl (.own none) .str))] fun a => Pu.impl_copyStrings a.1
theorem ok_impl_copyStrings : FnOk Tryz.prog 60 e_impl_copyStrings := FnOk.of (fnOk (an := {}) (Λ := Lam.nil) (base) Tryz.func60 (by kernel_rfl) (hF (by kernel_rfl) nF)) (fun a => by kernel_rfl)
noncomputable def e_impl_copySoft : GEnt := entOf [.data true TSoft] [(true, (.pair (.pair (.int .i64) (.pair .bool (.sl (.own none) (.int .i64)))) (.pair (.pair (.sl (.own none) TRule) (.pair (.sl (.own none) TSlot) (.pair .str (.sl (.own none) (.int .i64))))) (.pair (.int .i64) (.pair (.sl (.own none) TStream) (.sl (.own none) .str))))))] fun a => Pu.impl_copySoft a.1
theorem ok_impl_copySoft : FnOk Tryz.prog 26 e_impl_copySoft := FnOk.of (fnOk (an := {}) (Λ := Lam.nil) (((((base).add ok_impl_copyFilter).add ok_impl_copySteering).add ok_impl_copyStreams).add ok_impl_copyStrings) Tryz.func26 (by kernel_rfl) (hF (by kernel_rfl) nF)) (fun a => by kernel_rfl)
noncomputable def e_impl_between : GEnt := entOf [.data false (.int .i64), .data false (.int .i64), .data false (.int .i64)] [(false, .bool)] fun a => Pu.impl_between a.1 a.2.1 a.2.2.1
theorem ok_impl_between : FnOk Tryz.prog 93 e_impl_between := FnOk.of (fnOk (an := { merge := fun | 1 => some 6 | _ => none }) (Λ := Lam.nil) (base) Tryz.func93 (by kernel_rfl) (hF (by kernel_rfl) nF)) (fun a => by kernel_rfl)
noncomputable def e_impl_FilterOk : GEnt := entOf [.data true TFilter] [(false, .bool)] fun a => Pu.impl_FilterOk a.1
noncomputable def g_impl_FilterOk : Gam := (Gam.nil).add 93 e_impl_between
def n_impl_FilterOk : An := { mask := fun | 2 => [1, 2, 6, 7, 8] | _ => [], merge := fun | 4 => some 29 | 7 => some 2 | _ => none }
@[reducible] def d_impl_FilterOk_2 : SD := ⟨[B,.ptr 1 0,DB,B,B,B,.data false (.sl .arg (.int .i64)),DI,DI,B,B,B,B,B,B,B,B,B,B,B,B,B,B,B,B,B,B,B,B,B,B,B,B,B,B,B,B,B,B,B], [Z,some (.pair (.int .i64) (.pair .bool (.sl .arg (.int .i64)))),Z,Z,Z,Z,Z,Z,Z,Z,Z,Z,Z,Z,Z,Z,Z,Z,Z,Z,Z,Z,Z,Z,Z,Z,Z,Z,Z,Z,Z,Z,Z,Z,Z,Z,Z,Z,Z,Z], none⟩
noncomputable def t_impl_FilterOk_2 {R : Type} (X : SD.D d_impl_FilterOk_2) (K : Ex → AS → Option R) := Pu.impl_FilterOk_T2 (fun y0 => K (.exit 0) (SD.enc d_impl_FilterOk_2 ((X.1.1, (X.1.2.1, (X.1.2.2.1, (y0, ())))), (X.2.1.1, ()), ()))) (fun y0 y1 => K .ret (SD.enc d_impl_FilterOk_2 ((y0, (X.1.2.1, (X.1.2.2.1, (y1, ())))), (X.2.1.1, ()), ()))) X.1.1 X.1.2.1 X.1.2.2.1 X.2.1.1
noncomputable def l_impl_FilterOk_2 : LEnt := ⟨d_impl_FilterOk_2, fun X K => iterL (t_impl_FilterOk_2 X K) fuel X.1.2.2.2.1⟩
noncomputable def L_impl_FilterOk : Lam := (Lam.nil).add 2 l_impl_FilterOk_2
theorem lok_impl_FilterOk_2 : LOk E g_impl_FilterOk n_impl_FilterOk L_impl_FilterOk (loopBody Tryz.f61 0) :=
  lok l_impl_FilterOk_2 (by kernel_rfl) fuel fun R X K => (loop_iter (σ := Int) (fun x => SD.enc d_impl_FilterOk_2 ((X.1.1, (X.1.2.1, (X.1.2.2.1, (x, ())))), (X.2.1.1, ()), ())) (t_impl_FilterOk_2 X K) (fun m x => by kernel_rfl) fuel X.1.2.2.2.1).symm
theorem ok_impl_FilterOk : FnOk Tryz.prog 61 e_impl_FilterOk := FnOk.of (fnOk (Γ := g_impl_FilterOk) (an := n_impl_FilterOk) (Λ := L_impl_FilterOk) ((base).add ok_impl_between) Tryz.func61 (by kernel_rfl) (hF (by kernel_rfl) (cF lok_impl_FilterOk_2 nF))) (fun a => by kernel_rfl)
noncomputable def e_impl_RuleOk : GEnt := entOf [.data true TRule] [(false, .bool)] fun a => Pu.impl_RuleOk a.1
theorem ok_impl_RuleOk : FnOk Tryz.prog 112 e_impl_RuleOk := FnOk.of (fnOk (an := { merge := fun | 1 => some 33 | 3 => some 54 | 5 => some 2 | _ => none }) (Λ := Lam.nil) ((base).add ok_impl_between) Tryz.func112 (by kernel_rfl) (hF (by kernel_rfl) nF)) (fun a => by kernel_rfl)
noncomputable def e_impl_RulesOk : GEnt := entOf [.data false (.sl TRule)] [(false, .bool)] fun a => Pu.impl_RulesOk a.1
noncomputable def g_impl_RulesOk : Gam := (Gam.nil).add 112 e_impl_RuleOk
def n_impl_RulesOk : An := { mask := fun | 2 => [0, 2, 5, 6, 7] | _ => [] }
@[reducible] def d_impl_RulesOk_2 : SD := ⟨[.data false (.sl .arg TRule),B,DB,B,B,.data false (.sl .arg TRule),DI,DI,B,B,B,B,B,B,B,B,B,B], [Z,Z,Z,Z,Z,Z,Z,Z,Z,Z,Z,Z,Z,Z,Z,Z,Z,Z], none⟩
noncomputable def t_impl_RulesOk_2 {R : Type} (X : SD.D d_impl_RulesOk_2) (K : Ex → AS → Option R) := Pu.impl_RulesOk_T2 (fun y0 => K (.exit 0) (SD.enc d_impl_RulesOk_2 ((X.1.1, (X.1.2.1, (X.1.2.2.1, (X.1.2.2.2.1, (y0, ()))))), (), ()))) (fun y0 y1 => K .ret (SD.enc d_impl_RulesOk_2 ((X.1.1, (y0, (X.1.2.2.1, (X.1.2.2.2.1, (y1, ()))))), (), ()))) X.1.1 X.1.2.1 X.1.2.2.1 X.1.2.2.2.1
noncomputable def l_impl_RulesOk_2 : LEnt := ⟨d_impl_RulesOk_2, fun X K => iterL (t_impl_RulesOk_2 X K) fuel X.1.2.2.2.2.1⟩
noncomputable def L_impl_RulesOk : Lam := (Lam.nil).add 2 l_impl_RulesOk_2
theorem lok_impl_RulesOk_2 : LOk E g_impl_RulesOk n_impl_RulesOk L_impl_RulesOk (loopBody Tryz.f94 0) :=
  lok l_impl_RulesOk_2 (by kernel_rfl) fuel fun R X K => (loop_iter (σ := Int) (fun x => SD.enc d_impl_RulesOk_2 ((X.1.1, (X.1.2.1, (X.1.2.2.1, (X.1.2.2.2.1, (x, ()))))), (), ())) (t_impl_RulesOk_2 X K) (fun m x => by kernel_rfl) fuel X.1.2.2.2.2.1).symm
theorem ok_impl_RulesOk : FnOk Tryz.prog 94 e_impl_RulesOk := FnOk.of (fnOk (Γ := g_impl_RulesOk) (an := n_impl_RulesOk) (Λ := L_impl_RulesOk) ((base).add ok_impl_RuleOk) Tryz.func94 (by kernel_rfl) (hF (by kernel_rfl) (cF lok_impl_RulesOk_2 nF))) (fun a => by kernel_rfl)
noncomputable def e_impl_slotOf : GEnt := entOf [.data true (.sl TSlot), .data true TFlow] [(false, (.int .i64))] fun a => Pu.impl_slotOf a.1 a.2.1
noncomputable def g_impl_slotOf : Gam := Gam.nil
def n_impl_slotOf : An := { mask := fun | 2 => [3, 4, 8, 9, 10] | _ => [], merge := fun | 4 => some 23 | _ => none }
@[reducible] def d_impl_slotOf_2 : SD := ⟨[B,B,B,.ptr 3 0,DI,B,B,B,.data false (.sl .arg TSlot),DI,DI,B,B,B,B,B,B,B,B,B,B,B,B,B,B,B], [Z,Z,Z,some (.pair (.int .i64) (.pair (.int .i64) (.pair (.int .i64) (.pair (.int .i64) (.int .i64))))),Z,Z,Z,Z,Z,Z,Z,Z,Z,Z,Z,Z,Z,Z,Z,Z,Z,Z,Z,Z,Z,Z], none⟩
noncomputable def t_impl_slotOf_2 {R : Type} (X : SD.D d_impl_slotOf_2) (K : Ex → AS → Option R) := Pu.impl_slotOf_T2 (fun y0 => K (.exit 0) (SD.enc d_impl_slotOf_2 ((X.1.1, (X.1.2.1, (X.1.2.2.1, (y0, ())))), (X.2.1.1, ()), ()))) (fun y0 y1 => K .ret (SD.enc d_impl_slotOf_2 ((y0, (X.1.2.1, (X.1.2.2.1, (y1, ())))), (X.2.1.1, ()), ()))) X.1.1 X.1.2.1 X.1.2.2.1 X.2.1.1
noncomputable def l_impl_slotOf_2 : LEnt := ⟨d_impl_slotOf_2, fun X K => iterL (t_impl_slotOf_2 X K) fuel X.1.2.2.2.1⟩
noncomputable def L_impl_slotOf : Lam := (Lam.nil).add 2 l_impl_slotOf_2
theorem lok_impl_slotOf_2 : LOk E g_impl_slotOf n_impl_slotOf L_impl_slotOf (loopBody Tryz.f113 0) :=
  lok l_impl_slotOf_2 (by kernel_rfl) fuel fun R X K => (loop_iter (σ := Int) (fun x => SD.enc d_impl_slotOf_2 ((X.1.1, (X.1.2.1, (X.1.2.2.1, (x, ())))), (X.2.1.1, ()), ())) (t_impl_slotOf_2 X K) (fun m x => by kernel_rfl) fuel X.1.2.2.2.1).symm
theorem ok_impl_slotOf : FnOk Tryz.prog 113 e_impl_slotOf := FnOk.of (fnOk (Γ := g_impl_slotOf) (an := n_impl_slotOf) (Λ := L_impl_slotOf) (base) Tryz.func113 (by kernel_rfl) (hF (by kernel_rfl) (cF lok_impl_slotOf_2 nF))) (fun a => by kernel_rfl)
noncomputable def e_impl_modulo : GEnt := entOf [.data false (.int .i64), .data false (.int .i64)] [(false, (.int .i64))] fun a => Pu.impl_modulo a.1 a.2.1
theorem ok_impl_modulo : FnOk Tryz.prog 143 e_impl_modulo := FnOk.of (fnOk (an := {}) (Λ := Lam.nil) (base) Tryz.func143 (by kernel_rfl) (hF (by kernel_rfl) nF)) (fun a => by kernel_rfl)
noncomputable def e_impl_HomeSlot : GEnt := entOf [.data true TFlow] [(false, (.int .i64))] fun a => Pu.impl_HomeSlot a.1
noncomputable def g_impl_HomeSlot : Gam := (Gam.nil).add 143 e_impl_modulo
def n_impl_HomeSlot : An := { mask := fun | 3 => [3, 16, 17, 18] | _ => [] }
@[reducible] def d_impl_HomeSlot_3 : SD := ⟨[B,B,B,DI,B,B,B,B,B,B,B,B,B,B,B,B,.data false (.sl (.own (some 196608)) (.int .i64)),DI,DI,B,B,B,B,B,B,B,B,B,B], [Z,Z,Z,Z,Z,Z,Z,Z,Z,Z,Z,Z,Z,Z,Z,Z,Z,Z,Z,Z,Z,Z,Z,Z,Z,Z,Z,Z,Z], none⟩
noncomputable def t_impl_HomeSlot_3 {R : Type} (X : SD.D d_impl_HomeSlot_3) (K : Ex → AS → Option R) := Pu.impl_HomeSlot_T3 (fun y0 y1 => K (.exit 0) (SD.enc d_impl_HomeSlot_3 ((y0, (X.1.2.1, (X.1.2.2.1, (y1, ())))), (), ()))) X.1.2.1 X.1.2.2.1
noncomputable def l_impl_HomeSlot_3 : LEnt := ⟨d_impl_HomeSlot_3, fun X K => iterL (t_impl_HomeSlot_3 X K) fuel (X.1.1, X.1.2.2.2.1)⟩
noncomputable def L_impl_HomeSlot : Lam := (Lam.nil).add 3 l_impl_HomeSlot_3
theorem lok_impl_HomeSlot_3 : LOk E g_impl_HomeSlot n_impl_HomeSlot L_impl_HomeSlot (loopBody Tryz.f128 0) :=
  lok l_impl_HomeSlot_3 (by kernel_rfl) fuel fun R X K => (loop_iter (σ := Int × Int) (fun x => SD.enc d_impl_HomeSlot_3 ((x.1, (X.1.2.1, (X.1.2.2.1, (x.2, ())))), (), ())) (t_impl_HomeSlot_3 X K) (fun m x => by kernel_rfl) fuel (X.1.1, X.1.2.2.2.1)).symm
theorem ok_impl_HomeSlot : FnOk Tryz.prog 128 e_impl_HomeSlot := FnOk.of (fnOk (Γ := g_impl_HomeSlot) (an := n_impl_HomeSlot) (Λ := L_impl_HomeSlot) ((base).add ok_impl_modulo) Tryz.func128 (by kernel_rfl) (hF (by kernel_rfl) (cF lok_impl_HomeSlot_3 nF))) (fun a => by kernel_rfl)
noncomputable def e_impl_wayOf : GEnt := entOf [.data true TFlow] [(false, (.sl (.own none) (.int .i64)))] fun a => Pu.impl_wayOf a.1
noncomputable def g_impl_wayOf : Gam := (Gam.nil).add 128 e_impl_HomeSlot
def n_impl_wayOf : An := { mask := fun | 3 => [1, 3, 4] | _ => [], mv := [10, 18] }
@[reducible] def d_impl_wayOf_3 : SD := ⟨[B,.ptr 1 0,B,.data false (.sl (.own (some 36864)) (.int .i64)),DI,B,B,B,B,B,B,B,B,B,B,B,B,B,B], [Z,some (.pair (.int .i64) (.pair (.int .i64) (.pair (.int .i64) (.pair (.int .i64) (.int .i64))))),Z,Z,Z,Z,Z,Z,Z,Z,Z,Z,Z,Z,Z,Z,Z,Z,Z], none⟩
noncomputable def t_impl_wayOf_3 {R : Type} (X : SD.D d_impl_wayOf_3) (K : Ex → AS → Option R) := Pu.impl_wayOf_T3 (fun y0 y1 => K (.exit 0) (SD.enc d_impl_wayOf_3 ((y0, (y1, ())), (X.2.1.1, ()), ()))) X.2.1.1
noncomputable def l_impl_wayOf_3 : LEnt := ⟨d_impl_wayOf_3, fun X K => iterL (t_impl_wayOf_3 X K) fuel (X.1.1, X.1.2.1)⟩
noncomputable def L_impl_wayOf : Lam := (Lam.nil).add 3 l_impl_wayOf_3
theorem lok_impl_wayOf_3 : LOk E g_impl_wayOf n_impl_wayOf L_impl_wayOf (loopBody Tryz.f114 0) :=
  lok l_impl_wayOf_3 (by kernel_rfl) fuel fun R X K => (loop_iter (σ := (List Int) × Int) (fun x => SD.enc d_impl_wayOf_3 ((x.1, (x.2, ())), (X.2.1.1, ()), ())) (t_impl_wayOf_3 X K) (fun m x => by kernel_rfl) fuel (X.1.1, X.1.2.1)).symm
theorem ok_impl_wayOf : FnOk Tryz.prog 114 e_impl_wayOf := FnOk.of (fnOk (Γ := g_impl_wayOf) (an := n_impl_wayOf) (Λ := L_impl_wayOf) ((base).add ok_impl_HomeSlot) Tryz.func114 (by kernel_rfl) (hF (by kernel_rfl) (cF lok_impl_wayOf_3 nF))) (fun a => by kernel_rfl)
noncomputable def e_impl_TableOk : GEnt := entOf [.data true (.sl TSlot)] [(false, .bool)] fun a => Pu.impl_TableOk a.1
noncomputable def g_impl_TableOk : Gam := (((Gam.nil).add 93 e_impl_between).add 113 e_impl_slotOf).add 114 e_impl_wayOf
def n_impl_TableOk : An := { mask := fun | 4 => [1, 2, 12, 13, 14] | 14 => [1, 2, 3, 12, 13, 14, 49, 50, 51] | _ => [], merge := fun | 6 => some 28 | 9 => some 40 | _ => none }
@[reducible] def d_impl_TableOk_14 : SD := ⟨[B,.ptr 1 0,DB,DI,B,B,B,B,B,B,B,B,.data false (.sl .arg TSlot),DI,DI,B,B,B,B,B,B,B,B,B,B,B,B,B,B,B,B,B,B,B,B,B,B,B,B,B,B,B,B,B,B,B,B,B,B,.data false (.sl (.own (some 602112)) (.int .i64)),DI,DI,B,B,B,B,B,B,B,B,B,B,B,B,B,B,B], [Z,some (.sl .arg TSlot),Z,Z,Z,Z,Z,Z,Z,Z,Z,Z,Z,Z,Z,Z,Z,Z,Z,Z,Z,Z,Z,Z,Z,Z,Z,Z,Z,Z,Z,Z,Z,Z,Z,Z,Z,Z,Z,Z,Z,Z,Z,Z,Z,Z,Z,Z,Z,Z,Z,Z,Z,Z,Z,Z,Z,Z,Z,Z,Z,Z,Z,Z,Z,Z,Z], none⟩
noncomputable def t_impl_TableOk_14 {R : Type} (X : SD.D d_impl_TableOk_14) (K : Ex → AS → Option R) := Pu.impl_TableOk_T14 (fun y0 => K (.exit 2) (SD.enc d_impl_TableOk_14 ((X.1.1, (X.1.2.1, (X.1.2.2.1, (X.1.2.2.2.1, (X.1.2.2.2.2.1, (X.1.2.2.2.2.2.1, (X.1.2.2.2.2.2.2.1, (y0, ())))))))), (X.2.1.1, ()), ()))) (fun y0 y1 => K .ret (SD.enc d_impl_TableOk_14 ((y0, (X.1.2.1, (X.1.2.2.1, (X.1.2.2.2.1, (X.1.2.2.2.2.1, (X.1.2.2.2.2.2.1, (X.1.2.2.2.2.2.2.1, (y1, ())))))))), (X.2.1.1, ()), ()))) X.1.1 X.1.2.1 X.1.2.2.1 X.1.2.2.2.1 X.1.2.2.2.2.1 X.1.2.2.2.2.2.1 X.1.2.2.2.2.2.2.1 X.2.1.1
noncomputable def l_impl_TableOk_14 : LEnt := ⟨d_impl_TableOk_14, fun X K => iterL (t_impl_TableOk_14 X K) fuel X.1.2.2.2.2.2.2.2.1⟩
@[reducible] def d_impl_TableOk_4 : SD := ⟨[B,.ptr 1 0,DB,B,B,B,B,B,B,B,B,B,.data false (.sl .arg TSlot),DI,DI,B,B,B,B,B,B,B,B,B,B,B,B,B,B,B,B,B,B,B,B,B,B,B,B,B,B,B,B,B,B,B,B,B,B,B,B,B,B,B,B,B,B,B,B,B,B,B,B,B,B,B,B], [Z,some (.sl .arg TSlot),Z,Z,Z,Z,Z,Z,Z,Z,Z,Z,Z,Z,Z,Z,Z,Z,Z,Z,Z,Z,Z,Z,Z,Z,Z,Z,Z,Z,Z,Z,Z,Z,Z,Z,Z,Z,Z,Z,Z,Z,Z,Z,Z,Z,Z,Z,Z,Z,Z,Z,Z,Z,Z,Z,Z,Z,Z,Z,Z,Z,Z,Z,Z,Z,Z], none⟩
noncomputable def t_impl_TableOk_4 {R : Type} (X : SD.D d_impl_TableOk_4) (K : Ex → AS → Option R) := Pu.impl_TableOk_T4 (fun y0 => K (.exit 0) (SD.enc d_impl_TableOk_4 ((X.1.1, (X.1.2.1, (X.1.2.2.1, (y0, ())))), (X.2.1.1, ()), ()))) (fun y0 y1 => K .ret (SD.enc d_impl_TableOk_4 ((y0, (X.1.2.1, (X.1.2.2.1, (y1, ())))), (X.2.1.1, ()), ()))) X.1.1 X.1.2.1 X.1.2.2.1 X.2.1.1
noncomputable def l_impl_TableOk_4 : LEnt := ⟨d_impl_TableOk_4, fun X K => iterL (t_impl_TableOk_4 X K) fuel X.1.2.2.2.1⟩
noncomputable def L_impl_TableOk : Lam := ((Lam.nil).add 14 l_impl_TableOk_14).add 4 l_impl_TableOk_4
theorem lok_impl_TableOk_14 : LOk E g_impl_TableOk n_impl_TableOk L_impl_TableOk (loopBody Tryz.f95 1) :=
  lok l_impl_TableOk_14 (by kernel_rfl) fuel fun R X K => (loop_iter (σ := Int) (fun x => SD.enc d_impl_TableOk_14 ((X.1.1, (X.1.2.1, (X.1.2.2.1, (X.1.2.2.2.1, (X.1.2.2.2.2.1, (X.1.2.2.2.2.2.1, (X.1.2.2.2.2.2.2.1, (x, ())))))))), (X.2.1.1, ()), ())) (t_impl_TableOk_14 X K) (fun m x => by kernel_rfl) fuel X.1.2.2.2.2.2.2.2.1).symm
theorem lok_impl_TableOk_4 : LOk E g_impl_TableOk n_impl_TableOk L_impl_TableOk (loopBody Tryz.f95 0) :=
  lok l_impl_TableOk_4 (by kernel_rfl) fuel fun R X K => (loop_iter (σ := Int) (fun x => SD.enc d_impl_TableOk_4 ((X.1.1, (X.1.2.1, (X.1.2.2.1, (x, ())))), (X.2.1.1, ()), ())) (t_impl_TableOk_4 X K) (fun m x => by kernel_rfl) fuel X.1.2.2.2.1).symm
theorem ok_impl_TableOk : FnOk Tryz.prog 95 e_impl_TableOk := FnOk.of (fnOk (Γ := g_impl_TableOk) (an := n_impl_TableOk) (Λ := L_impl_TableOk) ((((base).add ok_impl_between).add ok_impl_slotOf).add ok_impl_wayOf) Tryz.func95 (by kernel_rfl) (hF (by kernel_rfl) (cF lok_impl_TableOk_4 (cF lok_impl_TableOk_14 nF)))) (fun a => by kernel_rfl)
noncomputable def e_impl_tableSize : GEnt := entOf [.data false (.int .i64)] [(false, .bool)] fun a => Pu.impl_tableSize a.1
theorem ok_impl_tableSize : FnOk Tryz.prog 115 e_impl_tableSize := FnOk.of (fnOk (an := { merge := fun | 1 => some 2 | _ => none }) (Λ := Lam.nil) (base) Tryz.func115 (by kernel_rfl) (hF (by kernel_rfl) nF)) (fun a => by kernel_rfl)
noncomputable def e_impl_SpreadOk : GEnt := entOf [.data true TSpread, .data false (.int .i64)] [(false, .bool)] fun a => Pu.impl_SpreadOk a.1 a.2.1
noncomputable def g_impl_SpreadOk : Gam := ((Gam.nil).add 93 e_impl_between).add 115 e_impl_tableSize
def n_impl_SpreadOk : An := { mask := fun | 4 => [1, 4, 24, 25, 26] | _ => [], merge := fun | 1 => some 22 | _ => none }
@[reducible] def d_impl_SpreadOk_4 : SD := ⟨[B,DI,B,B,DB,B,B,B,B,B,B,B,B,B,B,B,B,B,B,B,B,B,B,B,.data false (.sl .arg (.int .i64)),DI,DI,B,B,B,B,B,B,B,B,B], [Z,Z,Z,Z,Z,Z,Z,Z,Z,Z,Z,Z,Z,Z,Z,Z,Z,Z,Z,Z,Z,Z,Z,Z,Z,Z,Z,Z,Z,Z,Z,Z,Z,Z,Z,Z], none⟩
noncomputable def t_impl_SpreadOk_4 {R : Type} (X : SD.D d_impl_SpreadOk_4) (K : Ex → AS → Option R) := Pu.impl_SpreadOk_T4 (fun y0 => K (.exit 0) (SD.enc d_impl_SpreadOk_4 ((X.1.1, (X.1.2.1, (X.1.2.2.1, (X.1.2.2.2.1, (y0, ()))))), (), ()))) (fun y0 y1 => K .ret (SD.enc d_impl_SpreadOk_4 ((X.1.1, (y0, (X.1.2.2.1, (X.1.2.2.2.1, (y1, ()))))), (), ()))) X.1.1 X.1.2.1 X.1.2.2.1 X.1.2.2.2.1
noncomputable def l_impl_SpreadOk_4 : LEnt := ⟨d_impl_SpreadOk_4, fun X K => iterL (t_impl_SpreadOk_4 X K) fuel X.1.2.2.2.2.1⟩
noncomputable def L_impl_SpreadOk : Lam := (Lam.nil).add 4 l_impl_SpreadOk_4
theorem lok_impl_SpreadOk_4 : LOk E g_impl_SpreadOk n_impl_SpreadOk L_impl_SpreadOk (loopBody Tryz.f96 0) :=
  lok l_impl_SpreadOk_4 (by kernel_rfl) fuel fun R X K => (loop_iter (σ := Int) (fun x => SD.enc d_impl_SpreadOk_4 ((X.1.1, (X.1.2.1, (X.1.2.2.1, (X.1.2.2.2.1, (x, ()))))), (), ())) (t_impl_SpreadOk_4 X K) (fun m x => by kernel_rfl) fuel X.1.2.2.2.2.1).symm
theorem ok_impl_SpreadOk : FnOk Tryz.prog 96 e_impl_SpreadOk := FnOk.of (fnOk (Γ := g_impl_SpreadOk) (an := n_impl_SpreadOk) (Λ := L_impl_SpreadOk) (((base).add ok_impl_between).add ok_impl_tableSize) Tryz.func96 (by kernel_rfl) (hF (by kernel_rfl) (cF lok_impl_SpreadOk_4 nF))) (fun a => by kernel_rfl)
noncomputable def e_impl_SteeringOk : GEnt := entOf [.data true TSteering, .data false (.int .i64)] [(false, .bool)] fun a => Pu.impl_SteeringOk a.1 a.2.1
noncomputable def g_impl_SteeringOk : Gam := (((Gam.nil).add 94 e_impl_RulesOk).add 95 e_impl_TableOk).add 96 e_impl_SpreadOk
def n_impl_SteeringOk : An := { mask := fun | 4 => [1, 2, 4, 27, 28, 29] | 10 => [1, 4, 45, 46, 47] | _ => [], merge := fun | 1 => some 25 | 6 => some 41 | 12 => some 59 | _ => none }
@[reducible] def d_impl_SteeringOk_4 : SD := ⟨[B,DI,.ptr 2 0,B,DB,B,B,B,B,B,B,B,B,B,B,B,B,B,B,B,B,B,B,B,B,B,B,.data false (.sl .arg TRule),DI,DI,B,B,B,B,B,B,B,B,B,B,B,B,B,B,B,B,B,B,B,B,B,B,B,B,B,B,B,B,B,B,B], [Z,Z,some (.pair (.sl .arg TRule) (.pair (.sl .arg TSlot) (.pair .str (.sl .arg (.int .i64))))),Z,Z,Z,Z,Z,Z,Z,Z,Z,Z,Z,Z,Z,Z,Z,Z,Z,Z,Z,Z,Z,Z,Z,Z,Z,Z,Z,Z,Z,Z,Z,Z,Z,Z,Z,Z,Z,Z,Z,Z,Z,Z,Z,Z,Z,Z,Z,Z,Z,Z,Z,Z,Z,Z,Z,Z,Z,Z], none⟩
noncomputable def t_impl_SteeringOk_4 {R : Type} (X : SD.D d_impl_SteeringOk_4) (K : Ex → AS → Option R) := Pu.impl_SteeringOk_T4 (fun y0 => K (.exit 0) (SD.enc d_impl_SteeringOk_4 ((X.1.1, (X.1.2.1, (X.1.2.2.1, (X.1.2.2.2.1, (y0, ()))))), (X.2.1.1, ()), ()))) (fun y0 y1 => K .ret (SD.enc d_impl_SteeringOk_4 ((X.1.1, (y0, (X.1.2.2.1, (X.1.2.2.2.1, (y1, ()))))), (X.2.1.1, ()), ()))) X.1.1 X.1.2.1 X.1.2.2.1 X.1.2.2.2.1 X.2.1.1
noncomputable def l_impl_SteeringOk_4 : LEnt := ⟨d_impl_SteeringOk_4, fun X K => iterL (t_impl_SteeringOk_4 X K) fuel X.1.2.2.2.2.1⟩
@[reducible] def d_impl_SteeringOk_10 : SD := ⟨[B,DI,B,B,DB,B,B,B,B,B,B,B,B,B,B,B,B,B,B,B,B,B,B,B,B,B,B,B,B,B,B,B,B,B,B,B,B,B,B,B,B,B,B,B,B,.data false (.sl .arg TSlot),DI,DI,B,B,B,B,B,B,B,B,B,B,B,B,B], [Z,Z,Z,Z,Z,Z,Z,Z,Z,Z,Z,Z,Z,Z,Z,Z,Z,Z,Z,Z,Z,Z,Z,Z,Z,Z,Z,Z,Z,Z,Z,Z,Z,Z,Z,Z,Z,Z,Z,Z,Z,Z,Z,Z,Z,Z,Z,Z,Z,Z,Z,Z,Z,Z,Z,Z,Z,Z,Z,Z,Z], none⟩
noncomputable def t_impl_SteeringOk_10 {R : Type} (X : SD.D d_impl_SteeringOk_10) (K : Ex → AS → Option R) := Pu.impl_SteeringOk_T10 (fun y0 => K (.exit 2) (SD.enc d_impl_SteeringOk_10 ((X.1.1, (X.1.2.1, (X.1.2.2.1, (X.1.2.2.2.1, (y0, ()))))), (), ()))) (fun y0 y1 => K .ret (SD.enc d_impl_SteeringOk_10 ((X.1.1, (y0, (X.1.2.2.1, (X.1.2.2.2.1, (y1, ()))))), (), ()))) X.1.1 X.1.2.1 X.1.2.2.1 X.1.2.2.2.1
noncomputable def l_impl_SteeringOk_10 : LEnt := ⟨d_impl_SteeringOk_10, fun X K => iterL (t_impl_SteeringOk_10 X K) fuel X.1.2.2.2.2.1⟩
noncomputable def L_impl_SteeringOk : Lam := ((Lam.nil).add 4 l_impl_SteeringOk_4).add 10 l_impl_SteeringOk_10
theorem lok_impl_SteeringOk_4 : LOk E g_impl_SteeringOk n_impl_SteeringOk L_impl_SteeringOk (loopBody Tryz.f62 0) :=
  lok l_impl_SteeringOk_4 (by kernel_rfl) fuel fun R X K => (loop_iter (σ := Int) (fun x => SD.enc d_impl_SteeringOk_4 ((X.1.1, (X.1.2.1, (X.1.2.2.1, (X.1.2.2.2.1, (x, ()))))), (X.2.1.1, ()), ())) (t_impl_SteeringOk_4 X K) (fun m x => by kernel_rfl) fuel X.1.2.2.2.2.1).symm
theorem lok_impl_SteeringOk_10 : LOk E g_impl_SteeringOk n_impl_SteeringOk L_impl_SteeringOk (loopBody Tryz.f62 1) :=
  lok l_impl_SteeringOk_10 (by kernel_rfl) fuel fun R X K => (loop_iter (σ := Int) (fun x => SD.enc d_impl_SteeringOk_10 ((X.1.1, (X.1.2.1, (X.1.2.2.1, (X.1.2.2.2.1, (x, ()))))), (), ())) (t_impl_SteeringOk_10 X K) (fun m x => by kernel_rfl) fuel X.1.2.2.2.2.1).symm
theorem ok_impl_SteeringOk : FnOk Tryz.prog 62 e_impl_SteeringOk := FnOk.of (fnOk (Γ := g_impl_SteeringOk) (an := n_impl_SteeringOk) (Λ := L_impl_SteeringOk) ((((base).add ok_impl_RulesOk).add ok_impl_TableOk).add ok_impl_SpreadOk) Tryz.func62 (by kernel_rfl) (hF (by kernel_rfl) (cF lok_impl_SteeringOk_4 (cF lok_impl_SteeringOk_10 nF)))) (fun a => by kernel_rfl)
noncomputable def e_impl_SoftOk : GEnt := entOf [.data true TSoft] [(false, .bool)] fun a => Pu.impl_SoftOk a.1
theorem ok_impl_SoftOk : FnOk Tryz.prog 27 e_impl_SoftOk := FnOk.of (fnOk (an := { merge := fun | 1 => some 2 | _ => none }) (Λ := Lam.nil) (((base).add ok_impl_FilterOk).add ok_impl_SteeringOk) Tryz.func27 (by kernel_rfl) (hF (by kernel_rfl) nF)) (fun a => by kernel_rfl)
noncomputable def e_impl_SegmentOk : GEnt := entOf [.data true TSegment] [(false, .bool)] fun a => Pu.impl_SegmentOk a.1
theorem ok_impl_SegmentOk : FnOk Tryz.prog 119 e_impl_SegmentOk := FnOk.of (fnOk (an := { merge := fun | 1 => some 18 | 5 => some 2 | 7 => some 2 | _ => none }) (Λ := Lam.nil) ((base).add ok_impl_between) Tryz.func119 (by kernel_rfl) (hF (by kernel_rfl) nF)) (fun a => by kernel_rfl)
noncomputable def e_impl_streaming : GEnt := entOf [.data false (.int .i64)] [(false, .bool)] fun a => Pu.impl_streaming a.1
theorem ok_impl_streaming : FnOk Tryz.prog 120 e_impl_streaming := FnOk.of (fnOk (an := { merge := fun | 1 => some 2 | _ => none }) (Λ := Lam.nil) (base) Tryz.func120 (by kernel_rfl) (hF (by kernel_rfl) nF)) (fun a => by kernel_rfl)
noncomputable def e_impl_SuperOk : GEnt := entOf [.data true TPacket] [(false, .bool)] fun a => Pu.impl_SuperOk a.1
theorem ok_impl_SuperOk : FnOk Tryz.prog 98 e_impl_SuperOk := FnOk.of (fnOk (an := { merge := fun | 1 => some 2 | _ => none }) (Λ := Lam.nil) ((((base).add ok_impl_between).add ok_impl_SegmentOk).add ok_impl_streaming) Tryz.func98 (by kernel_rfl) (hF (by kernel_rfl) nF)) (fun a => by kernel_rfl)
noncomputable def e_impl_PacketOk : GEnt := entOf [.data true TPacket] [(false, .bool)] fun a => Pu.impl_PacketOk a.1
theorem ok_impl_PacketOk : FnOk Tryz.prog 116 e_impl_PacketOk := FnOk.of (fnOk (an := { merge := fun | 1 => some 2 | _ => none }) (Λ := Lam.nil) ((base).add ok_impl_SuperOk) Tryz.func116 (by kernel_rfl) (hF (by kernel_rfl) nF)) (fun a => by kernel_rfl)
noncomputable def e_impl_Word16 : GEnt := entOf [.data false (.int .i64)] [(false, .str)] fun a => Pu.impl_Word16 a.1
theorem ok_impl_Word16 : FnOk Tryz.prog 149 e_impl_Word16 := FnOk.of (fnOk (an := {}) (Λ := Lam.nil) ((base).add ok_impl_between) Tryz.func149 (by kernel_rfl) (hF (by kernel_rfl) nF)) (fun a => by kernel_rfl)
noncomputable def e_impl_Word32 : GEnt := entOf [.data false (.int .i64)] [(false, .str)] fun a => Pu.impl_Word32 a.1
theorem ok_impl_Word32 : FnOk Tryz.prog 157 e_impl_Word32 := FnOk.of (fnOk (an := {}) (Λ := Lam.nil) ((base).add ok_impl_between) Tryz.func157 (by kernel_rfl) (hF (by kernel_rfl) nF)) (fun a => by kernel_rfl)
noncomputable def e_impl_bareSegment : GEnt := entOf [.data true TSegment] [(false, .str)] fun a => Pu.impl_bareSegment a.1
theorem ok_impl_bareSegment : FnOk Tryz.prog 144 e_impl_bareSegment := FnOk.of (fnOk (an := {}) (Λ := Lam.nil) (((base).add ok_impl_Word16).add ok_impl_Word32) Tryz.func144 (by kernel_rfl) (hF (by kernel_rfl) nF)) (fun a => by kernel_rfl)
noncomputable def e_impl_PseudoHeader : GEnt := entOf [.data false (.int .i64), .data false (.int .i64), .data false (.int .i64), .data false (.int .i64)] [(false, .str), (false, .bool)] fun a => Pu.impl_PseudoHeader a.1 a.2.1 a.2.2.1 a.2.2.2.1
theorem ok_impl_PseudoHeader : FnOk Tryz.prog 145 e_impl_PseudoHeader := FnOk.of (fnOk (an := { merge := fun | 1 => some 27 | _ => none }) (Λ := Lam.nil) ((((base).add ok_impl_between).add ok_impl_Word16).add ok_impl_Word32) Tryz.func145 (by kernel_rfl) (hF (by kernel_rfl) nF)) (fun a => by kernel_rfl)
noncomputable def e_impl_AddSums : GEnt := entOf [.data false (.int .i64), .data false (.int .i64)] [(false, (.int .i64))] fun a => Pu.impl_AddSums a.1 a.2.1
theorem ok_impl_AddSums : FnOk Tryz.prog 161 e_impl_AddSums := FnOk.of (fnOk (an := { merge := fun | 1 => some 12 | _ => none }) (Λ := Lam.nil) ((base).add ok_impl_between) Tryz.func161 (by kernel_rfl) (hF (by kernel_rfl) nF)) (fun a => by kernel_rfl)
noncomputable def e_impl_SumWords : GEnt := entOf [.data false .str] [(false, (.int .i64))] fun a => Pu.impl_SumWords a.1
noncomputable def g_impl_SumWords : Gam := (Gam.nil).add 161 e_impl_AddSums
def n_impl_SumWords : An := { mask := fun | 3 => [0, 3, 4] | _ => [] }
@[reducible] def d_impl_SumWords_3 : SD := ⟨[.data false .str,B,B,DI,DI,B,B,B,B,B,B,B,B,B,B,B,B,B,B,B,B,B,B,B,B,B,B,B,B,B,B,B,B], [Z,Z,Z,Z,Z,Z,Z,Z,Z,Z,Z,Z,Z,Z,Z,Z,Z,Z,Z,Z,Z,Z,Z,Z,Z,Z,Z,Z,Z,Z,Z,Z,Z], none⟩
noncomputable def t_impl_SumWords_3 {R : Type} (X : SD.D d_impl_SumWords_3) (K : Ex → AS → Option R) := Pu.impl_SumWords_T3 (fun y0 y1 => K (.exit 0) (SD.enc d_impl_SumWords_3 ((X.1.1, (y0, (y1, ()))), (), ()))) X.1.1
noncomputable def l_impl_SumWords_3 : LEnt := ⟨d_impl_SumWords_3, fun X K => iterL (t_impl_SumWords_3 X K) fuel (X.1.2.1, X.1.2.2.1)⟩
noncomputable def L_impl_SumWords : Lam := (Lam.nil).add 3 l_impl_SumWords_3
theorem lok_impl_SumWords_3 : LOk E g_impl_SumWords n_impl_SumWords L_impl_SumWords (loopBody Tryz.f158 0) :=
  lok l_impl_SumWords_3 (by kernel_rfl) fuel fun R X K => (loop_iter (σ := Int × Int) (fun x => SD.enc d_impl_SumWords_3 ((X.1.1, (x.1, (x.2, ()))), (), ())) (t_impl_SumWords_3 X K) (fun m x => by kernel_rfl) fuel (X.1.2.1, X.1.2.2.1)).symm
theorem ok_impl_SumWords : FnOk Tryz.prog 158 e_impl_SumWords := FnOk.of (fnOk (Γ := g_impl_SumWords) (an := n_impl_SumWords) (Λ := L_impl_SumWords) ((base).add ok_impl_AddSums) Tryz.func158 (by kernel_rfl) (hF (by kernel_rfl) (cF lok_impl_SumWords_3 nF))) (fun a => by kernel_rfl)
noncomputable def e_impl_Checksum : GEnt := entOf [.data false .str] [(false, (.int .i64))] fun a => Pu.impl_Checksum a.1
theorem ok_impl_Checksum : FnOk Tryz.prog 146 e_impl_Checksum := FnOk.of (fnOk (an := {}) (Λ := Lam.nil) ((base).add ok_impl_SumWords) Tryz.func146 (by kernel_rfl) (hF (by kernel_rfl) nF)) (fun a => by kernel_rfl)
noncomputable def e_impl_PutBytes : GEnt := entOf [.data false .str, .data false (.int .i64), .data false .str] [(false, .str)] fun a => Pu.impl_PutBytes a.1 a.2.1 a.2.2.1
theorem ok_impl_PutBytes : FnOk Tryz.prog 147 e_impl_PutBytes := FnOk.of (fnOk (an := { merge := fun | 1 => some 17 | _ => none }) (Λ := Lam.nil) (base) Tryz.func147 (by kernel_rfl) (hF (by kernel_rfl) nF)) (fun a => by kernel_rfl)
noncomputable def e_impl_sumPlace : GEnt := entOf [.data false (.int .i64)] [(false, (.int .i64))] fun a => Pu.impl_sumPlace a.1
theorem ok_impl_sumPlace : FnOk Tryz.prog 148 e_impl_sumPlace := FnOk.of (fnOk (an := {}) (Λ := Lam.nil) (base) Tryz.func148 (by kernel_rfl) (hF (by kernel_rfl) nF)) (fun a => by kernel_rfl)
noncomputable def e_impl_BuildSegment : GEnt := entOf [.data false (.int .i64), .data false (.int .i64), .data true TSegment] [(false, .str), (false, .bool)] fun a => Pu.impl_BuildSegment a.1 a.2.1 a.2.2.1
theorem ok_impl_BuildSegment : FnOk Tryz.prog 129 e_impl_BuildSegment := FnOk.of (fnOk (an := { merge := fun | 8 => some 39 | _ => none }) (Λ := Lam.nil) ((((((((base).add ok_impl_SegmentOk).add ok_impl_bareSegment).add ok_impl_PseudoHeader).add ok_impl_Checksum).add ok_impl_PutBytes).add ok_impl_sumPlace).add ok_impl_Word16) Tryz.func129 (by kernel_rfl) (hF (by kernel_rfl) nF)) (fun a => by kernel_rfl)
noncomputable def e_impl_IpOk : GEnt := entOf [.data true TIp] [(false, .bool)] fun a => Pu.impl_IpOk a.1
theorem ok_impl_IpOk : FnOk Tryz.prog 159 e_impl_IpOk := FnOk.of (fnOk (an := { merge := fun | 1 => some 2 | _ => none }) (Λ := Lam.nil) ((base).add ok_impl_between) Tryz.func159 (by kernel_rfl) (hF (by kernel_rfl) nF)) (fun a => by kernel_rfl)
noncomputable def e_impl_IpHeader : GEnt := entOf [.data true TIp] [(false, .str), (false, .bool)] fun a => Pu.impl_IpHeader a.1
theorem ok_impl_IpHeader : FnOk Tryz.prog 150 e_impl_IpHeader := FnOk.of (fnOk (an := {}) (Λ := Lam.nil) ((((((base).add ok_impl_Checksum).add ok_impl_PutBytes).add ok_impl_Word16).add ok_impl_Word32).add ok_impl_IpOk) Tryz.func150 (by kernel_rfl) (hF (by kernel_rfl) nF)) (fun a => by kernel_rfl)
noncomputable def e_impl_BuildIp : GEnt := entOf [.data true TIp] [(false, .str), (false, .bool)] fun a => Pu.impl_BuildIp a.1
theorem ok_impl_BuildIp : FnOk Tryz.prog 130 e_impl_BuildIp := FnOk.of (fnOk (an := {}) (Λ := Lam.nil) ((base).add ok_impl_IpHeader) Tryz.func130 (by kernel_rfl) (hF (by kernel_rfl) nF)) (fun a => by kernel_rfl)
noncomputable def e_impl_EthOk : GEnt := entOf [.data true TEth] [(false, .bool)] fun a => Pu.impl_EthOk a.1
theorem ok_impl_EthOk : FnOk Tryz.prog 151 e_impl_EthOk := FnOk.of (fnOk (an := { merge := fun | 1 => some 2 | _ => none }) (Λ := Lam.nil) ((base).add ok_impl_between) Tryz.func151 (by kernel_rfl) (hF (by kernel_rfl) nF)) (fun a => by kernel_rfl)
noncomputable def e_impl_macBytes : GEnt := entOf [.data false (.int .i64)] [(false, .str)] fun a => Pu.impl_macBytes a.1
theorem ok_impl_macBytes : FnOk Tryz.prog 152 e_impl_macBytes := FnOk.of (fnOk (an := {}) (Λ := Lam.nil) (((base).add ok_impl_Word16).add ok_impl_Word32) Tryz.func152 (by kernel_rfl) (hF (by kernel_rfl) nF)) (fun a => by kernel_rfl)
noncomputable def e_impl_BuildEth : GEnt := entOf [.data true TEth] [(false, .str), (false, .bool)] fun a => Pu.impl_BuildEth a.1
theorem ok_impl_BuildEth : FnOk Tryz.prog 131 e_impl_BuildEth := FnOk.of (fnOk (an := {}) (Λ := Lam.nil) ((((base).add ok_impl_Word16).add ok_impl_EthOk).add ok_impl_macBytes) Tryz.func131 (by kernel_rfl) (hF (by kernel_rfl) nF)) (fun a => by kernel_rfl)
noncomputable def e_impl_repeat : GEnt := entOf [.data false (.int .u8), .data false (.int .i64)] [(false, .str)] fun a => Pu.impl_repeat a.1 a.2.1
noncomputable def g_impl_repeat : Gam := Gam.nil
def n_impl_repeat : An := { mask := fun | 3 => [0, 5, 10, 11] | _ => [] }
@[reducible] def d_impl_repeat_3 : SD := ⟨[.data false (.int .u8),B,B,B,B,.data false (.sl (.own (some 61440)) (.int .u8)),B,B,B,B,DI,DI,B,B,B,B,B,B,B,B,B], [Z,Z,Z,Z,Z,Z,Z,Z,Z,Z,Z,Z,Z,Z,Z,Z,Z,Z,Z,Z,Z], none⟩
noncomputable def t_impl_repeat_3 {R : Type} (X : SD.D d_impl_repeat_3) (K : Ex → AS → Option R) := Pu.impl_repeat_T3 (fun y0 y1 => K (.exit 0) (SD.enc d_impl_repeat_3 ((X.1.1, (y0, (X.1.2.2.1, (y1, ())))), (), ()))) X.1.1 X.1.2.2.1
noncomputable def l_impl_repeat_3 : LEnt := ⟨d_impl_repeat_3, fun X K => iterL (t_impl_repeat_3 X K) fuel (X.1.2.1, X.1.2.2.2.1)⟩
noncomputable def L_impl_repeat : Lam := (Lam.nil).add 3 l_impl_repeat_3
theorem lok_impl_repeat_3 : LOk E g_impl_repeat n_impl_repeat L_impl_repeat (loopBody Tryz.f153 0) :=
  lok l_impl_repeat_3 (by kernel_rfl) fuel fun R X K => (loop_iter (σ := (List Int) × Int) (fun x => SD.enc d_impl_repeat_3 ((X.1.1, (x.1, (X.1.2.2.1, (x.2, ())))), (), ())) (t_impl_repeat_3 X K) (fun m x => by kernel_rfl) fuel (X.1.2.1, X.1.2.2.2.1)).symm
theorem ok_impl_repeat : FnOk Tryz.prog 153 e_impl_repeat := FnOk.of (fnOk (Γ := g_impl_repeat) (an := n_impl_repeat) (Λ := L_impl_repeat) (base) Tryz.func153 (by kernel_rfl) (hF (by kernel_rfl) (cF lok_impl_repeat_3 nF))) (fun a => by kernel_rfl)
noncomputable def e_impl_PadBody : GEnt := entOf [.data false .str] [(false, .str)] fun a => Pu.impl_PadBody a.1
theorem ok_impl_PadBody : FnOk Tryz.prog 132 e_impl_PadBody := FnOk.of (fnOk (an := {}) (Λ := Lam.nil) ((base).add ok_impl_repeat) Tryz.func132 (by kernel_rfl) (hF (by kernel_rfl) nF)) (fun a => by kernel_rfl)
noncomputable def e_impl_BuildImage : GEnt := entOf [.data true TPacket] [(false, .str), (false, .bool)] fun a => Pu.impl_BuildImage a.1
theorem ok_impl_BuildImage : FnOk Tryz.prog 117 e_impl_BuildImage := FnOk.of (fnOk (an := {}) (Λ := Lam.nil) ((((((base).add ok_impl_SuperOk).add ok_impl_BuildSegment).add ok_impl_BuildIp).add ok_impl_BuildEth).add ok_impl_PadBody) Tryz.func117 (by kernel_rfl) (hF (by kernel_rfl) nF)) (fun a => by kernel_rfl)
noncomputable def e_impl_Crc32 : GEnt := entOf [.data false .str] [(false, (.int .i64))] fun a => Pu.impl_Crc32 a.1
noncomputable def g_impl_Crc32 : Gam := Gam.nil
def n_impl_Crc32 : An := { mask := fun | 3 => [0, 3, 4] | 7 => [0, 3, 4, 5] | _ => [] }
@[reducible] def d_impl_Crc32_7 : SD := ⟨[.data false .str,B,B,.data false (.int .u32),DI,DI,B,B,B,B,B,B,B,B,B,B,B,B,B,B,B,B,B,B,B,B,B,B,B,B,B,B,B,B], [Z,Z,Z,Z,Z,Z,Z,Z,Z,Z,Z,Z,Z,Z,Z,Z,Z,Z,Z,Z,Z,Z,Z,Z,Z,Z,Z,Z,Z,Z,Z,Z,Z,Z], none⟩
noncomputable def t_impl_Crc32_7 {R : Type} (X : SD.D d_impl_Crc32_7) (K : Ex → AS → Option R) := Pu.impl_Crc32_T7 (fun y0 y1 => K (.exit 2) (SD.enc d_impl_Crc32_7 ((X.1.1, (y0, (X.1.2.2.1, (y1, ())))), (), ()))) X.1.1 X.1.2.2.1
noncomputable def l_impl_Crc32_7 : LEnt := ⟨d_impl_Crc32_7, fun X K => iterL (t_impl_Crc32_7 X K) fuel (X.1.2.1, X.1.2.2.2.1)⟩
@[reducible] def d_impl_Crc32_3 : SD := ⟨[.data false .str,B,B,.data false (.int .u32),DI,B,B,B,B,B,B,B,B,B,B,B,B,B,B,B,B,B,B,B,B,B,B,B,B,B,B,B,B,B], [Z,Z,Z,Z,Z,Z,Z,Z,Z,Z,Z,Z,Z,Z,Z,Z,Z,Z,Z,Z,Z,Z,Z,Z,Z,Z,Z,Z,Z,Z,Z,Z,Z,Z], none⟩
noncomputable def t_impl_Crc32_3 {R : Type} (X : SD.D d_impl_Crc32_3) (K : Ex → AS → Option R) := Pu.impl_Crc32_T3 (fun y0 y1 => K (.exit 0) (SD.enc d_impl_Crc32_3 ((X.1.1, (y0, (y1, ()))), (), ()))) X.1.1
noncomputable def l_impl_Crc32_3 : LEnt := ⟨d_impl_Crc32_3, fun X K => iterL (t_impl_Crc32_3 X K) fuel (X.1.2.1, X.1.2.2.1)⟩
noncomputable def L_impl_Crc32 : Lam := ((Lam.nil).add 7 l_impl_Crc32_7).add 3 l_impl_Crc32_3
theorem lok_impl_Crc32_7 : LOk E g_impl_Crc32 n_impl_Crc32 L_impl_Crc32 (loopBody Tryz.f133 1) :=
  lok l_impl_Crc32_7 (by kernel_rfl) fuel fun R X K => (loop_iter (σ := Int × Int) (fun x => SD.enc d_impl_Crc32_7 ((X.1.1, (x.1, (X.1.2.2.1, (x.2, ())))), (), ())) (t_impl_Crc32_7 X K) (fun m x => by kernel_rfl) fuel (X.1.2.1, X.1.2.2.2.1)).symm
theorem lok_impl_Crc32_3 : LOk E g_impl_Crc32 n_impl_Crc32 L_impl_Crc32 (loopBody Tryz.f133 0) :=
  lok l_impl_Crc32_3 (by kernel_rfl) fuel fun R X K => (loop_iter (σ := Int × Int) (fun x => SD.enc d_impl_Crc32_3 ((X.1.1, (x.1, (x.2, ()))), (), ())) (t_impl_Crc32_3 X K) (fun m x => by kernel_rfl) fuel (X.1.2.1, X.1.2.2.1)).symm
theorem ok_impl_Crc32 : FnOk Tryz.prog 133 e_impl_Crc32 := FnOk.of (fnOk (Γ := g_impl_Crc32) (an := n_impl_Crc32) (Λ := L_impl_Crc32) (base) Tryz.func133 (by kernel_rfl) (hF (by kernel_rfl) (cF lok_impl_Crc32_3 (cF lok_impl_Crc32_7 nF)))) (fun a => by kernel_rfl)
noncomputable def e_impl_WithFcs : GEnt := entOf [.data false .str] [(false, .str)] fun a => Pu.impl_WithFcs a.1
theorem ok_impl_WithFcs : FnOk Tryz.prog 118 e_impl_WithFcs := FnOk.of (fnOk (an := {}) (Λ := Lam.nil) ((base).add ok_impl_Crc32) Tryz.func118 (by kernel_rfl) (hF (by kernel_rfl) nF)) (fun a => by kernel_rfl)
noncomputable def e_impl_BuildFrame : GEnt := entOf [.data true TPacket] [(false, .str), (false, .bool)] fun a => Pu.impl_BuildFrame a.1
theorem ok_impl_BuildFrame : FnOk Tryz.prog 97 e_impl_BuildFrame := FnOk.of (fnOk (an := {}) (Λ := Lam.nil) ((((base).add ok_impl_PacketOk).add ok_impl_BuildImage).add ok_impl_WithFcs) Tryz.func97 (by kernel_rfl) (hF (by kernel_rfl) nF)) (fun a => by kernel_rfl)
noncomputable def e_impl_FrameAll : GEnt := entOf [.data false (.sl TPacket)] [(false, (.sl (.own none) .str))] fun a => Pu.impl_FrameAll a.1
noncomputable def g_impl_FrameAll : Gam := (Gam.nil).add 97 e_impl_BuildFrame
def n_impl_FrameAll : An := { mask := fun | 3 => [3, 9, 10, 11] | _ => [], mv := [21, 26] }
@[reducible] def d_impl_FrameAll_3 : SD := ⟨[B,B,B,.data false (.sl (.own (some 36864)) .str),B,B,B,B,B,.data false (.sl .arg TPacket),DI,DI,B,B,B,B,B,B,B,B,B,B,B,B,B,B,B], [Z,Z,Z,Z,Z,Z,Z,Z,Z,Z,Z,Z,Z,Z,Z,Z,Z,Z,Z,Z,Z,Z,Z,Z,Z,Z,Z], none⟩
noncomputable def t_impl_FrameAll_3 {R : Type} (X : SD.D d_impl_FrameAll_3) (K : Ex → AS → Option R) := Pu.impl_FrameAll_T3 (fun y0 y1 => K (.exit 0) (SD.enc d_impl_FrameAll_3 ((y0, (X.1.2.1, (X.1.2.2.1, (y1, ())))), (), ()))) X.1.2.1 X.1.2.2.1
noncomputable def l_impl_FrameAll_3 : LEnt := ⟨d_impl_FrameAll_3, fun X K => iterL (t_impl_FrameAll_3 X K) fuel (X.1.1, X.1.2.2.2.1)⟩
noncomputable def L_impl_FrameAll : Lam := (Lam.nil).add 3 l_impl_FrameAll_3
theorem lok_impl_FrameAll_3 : LOk E g_impl_FrameAll n_impl_FrameAll L_impl_FrameAll (loopBody Tryz.f63 0) :=
  lok l_impl_FrameAll_3 (by kernel_rfl) fuel fun R X K => (loop_iter (σ := (List Pu.Bytes) × Int) (fun x => SD.enc d_impl_FrameAll_3 ((x.1, (X.1.2.1, (X.1.2.2.1, (x.2, ())))), (), ())) (t_impl_FrameAll_3 X K) (fun m x => by kernel_rfl) fuel (X.1.1, X.1.2.2.2.1)).symm
theorem ok_impl_FrameAll : FnOk Tryz.prog 63 e_impl_FrameAll := FnOk.of (fnOk (Γ := g_impl_FrameAll) (an := n_impl_FrameAll) (Λ := L_impl_FrameAll) ((base).add ok_impl_BuildFrame) Tryz.func63 (by kernel_rfl) (hF (by kernel_rfl) (cF lok_impl_FrameAll_3 nF))) (fun a => by kernel_rfl)
noncomputable def e_impl_Split : GEnt := entOf [.data true TPacket, .data false (.int .i64)] [(false, (.sl (.own none) TPacket))] fun a => Pu.impl_Split a.1 a.2.1
noncomputable def g_impl_Split : Gam := ((Gam.nil).add 93 e_impl_between).add 98 e_impl_SuperOk
def n_impl_Split : An := { mask := fun | 8 => [1, 2, 5, 6, 7] | _ => [], merge := fun | 1 => some 17 | 4 => some 30 | _ => none, mv := [83, 87] }
@[reducible] def d_impl_Split_8 : SD := ⟨[B,DI,.ptr 2 0,B,B,.data false .str,.data false (.sl (.own (some 73728)) TPacket),DI,B,B,B,B,B,B,B,B,B,B,B,B,B,B,B,B,B,B,B,B,B,B,B,B,B,B,B,B,B,B,B,B,B,B,B,B,B,B,B,B,B,B,B,B,B,B,B,B,B,B,B,B,B,B,B,B,B,B,B,B,B,B,B,B,B,B,B,B,B,B,B,B,B,B,B,B,B,B,B,B], [Z,Z,some (.pair (.int .i64) (.pair (.int .i64) (.pair (.int .i64) (.pair (.int .i64) (.pair (.int .i64) (.pair (.int .i64) (.pair (.int .i64) (.pair (.int .i64) (.pair (.int .i64) (.pair (.int .i64) (.pair (.int .i64) (.pair (.int .i64) (.pair (.int .i64) (.pair (.int .i64) (.pair (.int .i64) .str))))))))))))))),Z,Z,Z,Z,Z,Z,Z,Z,Z,Z,Z,Z,Z,Z,Z,Z,Z,Z,Z,Z,Z,Z,Z,Z,Z,Z,Z,Z,Z,Z,Z,Z,Z,Z,Z,Z,Z,Z,Z,Z,Z,Z,Z,Z,Z,Z,Z,Z,Z,Z,Z,Z,Z,Z,Z,Z,Z,Z,Z,Z,Z,Z,Z,Z,Z,Z,Z,Z,Z,Z,Z,Z,Z,Z,Z,Z,Z,Z,Z,Z,Z,Z,Z,Z,Z], none⟩
noncomputable def t_impl_Split_8 {R : Type} (X : SD.D d_impl_Split_8) (K : Ex → AS → Option R) := Pu.impl_Split_T8 (fun y0 y1 => K (.exit 0) (SD.enc d_impl_Split_8 ((X.1.1, (X.1.2.1, (y0, (y1, ())))), (X.2.1.1, ()), ()))) X.1.1 X.1.2.1 X.2.1.1
noncomputable def l_impl_Split_8 : LEnt := ⟨d_impl_Split_8, fun X K => iterL (t_impl_Split_8 X K) fuel (X.1.2.2.1, X.1.2.2.2.1)⟩
noncomputable def L_impl_Split : Lam := (Lam.nil).add 8 l_impl_Split_8
theorem lok_impl_Split_8 : LOk E g_impl_Split n_impl_Split L_impl_Split (loopBody Tryz.f64 0) :=
  lok l_impl_Split_8 (by kernel_rfl) fuel fun R X K => (loop_iter (σ := (List Pu.Packet) × Int) (fun x => SD.enc d_impl_Split_8 ((X.1.1, (X.1.2.1, (x.1, (x.2, ())))), (X.2.1.1, ()), ())) (t_impl_Split_8 X K) (fun m x => by kernel_rfl) fuel (X.1.2.2.1, X.1.2.2.2.1)).symm
theorem ok_impl_Split : FnOk Tryz.prog 64 e_impl_Split := FnOk.of (fnOk (Γ := g_impl_Split) (an := n_impl_Split) (Λ := L_impl_Split) (((base).add ok_impl_between).add ok_impl_SuperOk) Tryz.func64 (by kernel_rfl) (hF (by kernel_rfl) (cF lok_impl_Split_8 nF))) (fun a => by kernel_rfl)
noncomputable def e_impl_SendFrames : GEnt := entOf [.data true TPacket, .data false (.int .i64)] [(false, (.sl (.own none) .str))] fun a => Pu.impl_SendFrames a.1 a.2.1
theorem ok_impl_SendFrames : FnOk Tryz.prog 28 e_impl_SendFrames := FnOk.of (fnOk (an := {}) (Λ := Lam.nil) (((base).add ok_impl_FrameAll).add ok_impl_Split) Tryz.func28 (by kernel_rfl) (hF (by kernel_rfl) nF)) (fun a => by kernel_rfl)
noncomputable def e_impl_SoftSend : GEnt := entOf [.data true TSoft, .data true TPacket, .data false (.int .i64)] [(true, (.pair (.pair (.int .i64) (.pair .bool (.sl (.own none) (.int .i64)))) (.pair (.pair (.sl (.own none) TRule) (.pair (.sl (.own none) TSlot) (.pair .str (.sl (.own none) (.int .i64))))) (.pair (.int .i64) (.pair (.sl (.own none) TStream) (.sl (.own none) .str))))))] fun a => Pu.impl_SoftSend a.1 a.2.1 a.2.2.1
theorem ok_impl_SoftSend : FnOk Tryz.prog 9 e_impl_SoftSend := FnOk.of (fnOk (an := { mv := [13, 19], mb := fun | 13 => some 7 | _ => none }) (Λ := Lam.nil) ((((base).add ok_impl_copySoft).add ok_impl_SoftOk).add ok_impl_SendFrames) Tryz.func9 (by kernel_rfl) (hF (by kernel_rfl) nF)) (fun a => by kernel_rfl)
noncomputable def e_laws_eqIntS : GEnt := entOf [.data false (.sl (.int .i64)), .data false (.sl (.int .i64))] [(false, .bool)] fun a => Pu.laws_eqIntS a.1 a.2.1
noncomputable def g_laws_eqIntS : Gam := Gam.nil
def n_laws_eqIntS : An := { mask := fun | 4 => [0, 1, 4, 5] | _ => [] }
@[reducible] def d_laws_eqIntS_4 : SD := ⟨[.data false (.sl .arg (.int .i64)),.data false (.sl .arg (.int .i64)),B,B,DB,DI,B,B,B,B,B,B,B,B,B,B,B,B,B,B,B,B,B,B,B,B], [Z,Z,Z,Z,Z,Z,Z,Z,Z,Z,Z,Z,Z,Z,Z,Z,Z,Z,Z,Z,Z,Z,Z,Z,Z,Z], none⟩
noncomputable def t_laws_eqIntS_4 {R : Type} (X : SD.D d_laws_eqIntS_4) (K : Ex → AS → Option R) := Pu.laws_eqIntS_T4 (fun y0 => K (.exit 0) (SD.enc d_laws_eqIntS_4 ((X.1.1, (X.1.2.1, (X.1.2.2.1, (y0, ())))), (), ()))) (fun y0 y1 => K .ret (SD.enc d_laws_eqIntS_4 ((X.1.1, (X.1.2.1, (y0, (y1, ())))), (), ()))) X.1.1 X.1.2.1 X.1.2.2.1
noncomputable def l_laws_eqIntS_4 : LEnt := ⟨d_laws_eqIntS_4, fun X K => iterL (t_laws_eqIntS_4 X K) fuel X.1.2.2.2.1⟩
noncomputable def L_laws_eqIntS : Lam := (Lam.nil).add 4 l_laws_eqIntS_4
theorem lok_laws_eqIntS_4 : LOk E g_laws_eqIntS n_laws_eqIntS L_laws_eqIntS (loopBody Tryz.f65 0) :=
  lok l_laws_eqIntS_4 (by kernel_rfl) fuel fun R X K => (loop_iter (σ := Int) (fun x => SD.enc d_laws_eqIntS_4 ((X.1.1, (X.1.2.1, (X.1.2.2.1, (x, ())))), (), ())) (t_laws_eqIntS_4 X K) (fun m x => by kernel_rfl) fuel X.1.2.2.2.1).symm
theorem ok_laws_eqIntS : FnOk Tryz.prog 65 e_laws_eqIntS := FnOk.of (fnOk (Γ := g_laws_eqIntS) (an := n_laws_eqIntS) (Λ := L_laws_eqIntS) (base) Tryz.func65 (by kernel_rfl) (hF (by kernel_rfl) (cF lok_laws_eqIntS_4 nF))) (fun a => by kernel_rfl)
noncomputable def e_laws_eqFilter : GEnt := entOf [.data true TFilter, .data true TFilter] [(false, .bool)] fun a => Pu.laws_eqFilter a.1 a.2.1
theorem ok_laws_eqFilter : FnOk Tryz.prog 29 e_laws_eqFilter := FnOk.of (fnOk (an := {}) (Λ := Lam.nil) ((base).add ok_laws_eqIntS) Tryz.func29 (by kernel_rfl) (hF (by kernel_rfl) nF)) (fun a => by kernel_rfl)
noncomputable def e_laws_eqRule : GEnt := entOf [.data true TRule, .data true TRule] [(false, .bool)] fun a => Pu.laws_eqRule a.1 a.2.1
theorem ok_laws_eqRule : FnOk Tryz.prog 99 e_laws_eqRule := FnOk.of (fnOk (an := {}) (Λ := Lam.nil) (base) Tryz.func99 (by kernel_rfl) (hF (by kernel_rfl) nF)) (fun a => by kernel_rfl)
noncomputable def e_laws_eqRuleS : GEnt := entOf [.data false (.sl TRule), .data false (.sl TRule)] [(false, .bool)] fun a => Pu.laws_eqRuleS a.1 a.2.1
noncomputable def g_laws_eqRuleS : Gam := (Gam.nil).add 99 e_laws_eqRule
def n_laws_eqRuleS : An := { mask := fun | 4 => [0, 1, 4, 5] | _ => [] }
@[reducible] def d_laws_eqRuleS_4 : SD := ⟨[.data false (.sl .arg TRule),.data false (.sl .arg TRule),B,B,DB,DI,B,B,B,B,B,B,B,B,B,B,B,B,B,B,B,B,B,B,B,B,B], [Z,Z,Z,Z,Z,Z,Z,Z,Z,Z,Z,Z,Z,Z,Z,Z,Z,Z,Z,Z,Z,Z,Z,Z,Z,Z,Z], none⟩
noncomputable def t_laws_eqRuleS_4 {R : Type} (X : SD.D d_laws_eqRuleS_4) (K : Ex → AS → Option R) := Pu.laws_eqRuleS_T4 (fun y0 => K (.exit 0) (SD.enc d_laws_eqRuleS_4 ((X.1.1, (X.1.2.1, (X.1.2.2.1, (y0, ())))), (), ()))) (fun y0 y1 => K .ret (SD.enc d_laws_eqRuleS_4 ((X.1.1, (X.1.2.1, (y0, (y1, ())))), (), ()))) X.1.1 X.1.2.1 X.1.2.2.1
noncomputable def l_laws_eqRuleS_4 : LEnt := ⟨d_laws_eqRuleS_4, fun X K => iterL (t_laws_eqRuleS_4 X K) fuel X.1.2.2.2.1⟩
noncomputable def L_laws_eqRuleS : Lam := (Lam.nil).add 4 l_laws_eqRuleS_4
theorem lok_laws_eqRuleS_4 : LOk E g_laws_eqRuleS n_laws_eqRuleS L_laws_eqRuleS (loopBody Tryz.f66 0) :=
  lok l_laws_eqRuleS_4 (by kernel_rfl) fuel fun R X K => (loop_iter (σ := Int) (fun x => SD.enc d_laws_eqRuleS_4 ((X.1.1, (X.1.2.1, (X.1.2.2.1, (x, ())))), (), ())) (t_laws_eqRuleS_4 X K) (fun m x => by kernel_rfl) fuel X.1.2.2.2.1).symm
theorem ok_laws_eqRuleS : FnOk Tryz.prog 66 e_laws_eqRuleS := FnOk.of (fnOk (Γ := g_laws_eqRuleS) (an := n_laws_eqRuleS) (Λ := L_laws_eqRuleS) ((base).add ok_laws_eqRule) Tryz.func66 (by kernel_rfl) (hF (by kernel_rfl) (cF lok_laws_eqRuleS_4 nF))) (fun a => by kernel_rfl)
noncomputable def e_laws_eqFlow : GEnt := entOf [.data true TFlow, .data true TFlow] [(false, .bool)] fun a => Pu.laws_eqFlow a.1 a.2.1
theorem ok_laws_eqFlow : FnOk Tryz.prog 101 e_laws_eqFlow := FnOk.of (fnOk (an := {}) (Λ := Lam.nil) (base) Tryz.func101 (by kernel_rfl) (hF (by kernel_rfl) nF)) (fun a => by kernel_rfl)
noncomputable def e_laws_eqSlot : GEnt := entOf [.data true TSlot, .data true TSlot] [(false, .bool)] fun a => Pu.laws_eqSlot a.1 a.2.1
theorem ok_laws_eqSlot : FnOk Tryz.prog 121 e_laws_eqSlot := FnOk.of (fnOk (an := {}) (Λ := Lam.nil) ((base).add ok_laws_eqFlow) Tryz.func121 (by kernel_rfl) (hF (by kernel_rfl) nF)) (fun a => by kernel_rfl)
noncomputable def e_laws_eqSlotS : GEnt := entOf [.data false (.sl TSlot), .data false (.sl TSlot)] [(false, .bool)] fun a => Pu.laws_eqSlotS a.1 a.2.1
noncomputable def g_laws_eqSlotS : Gam := (Gam.nil).add 121 e_laws_eqSlot
def n_laws_eqSlotS : An := { mask := fun | 4 => [0, 1, 4, 5] | _ => [] }
@[reducible] def d_laws_eqSlotS_4 : SD := ⟨[.data false (.sl .arg TSlot),.data false (.sl .arg TSlot),B,B,DB,DI,B,B,B,B,B,B,B,B,B,B,B,B,B,B,B,B,B,B,B,B,B], [Z,Z,Z,Z,Z,Z,Z,Z,Z,Z,Z,Z,Z,Z,Z,Z,Z,Z,Z,Z,Z,Z,Z,Z,Z,Z,Z], none⟩
noncomputable def t_laws_eqSlotS_4 {R : Type} (X : SD.D d_laws_eqSlotS_4) (K : Ex → AS → Option R) := Pu.laws_eqSlotS_T4 (fun y0 => K (.exit 0) (SD.enc d_laws_eqSlotS_4 ((X.1.1, (X.1.2.1, (X.1.2.2.1, (y0, ())))), (), ()))) (fun y0 y1 => K .ret (SD.enc d_laws_eqSlotS_4 ((X.1.1, (X.1.2.1, (y0, (y1, ())))), (), ()))) X.1.1 X.1.2.1 X.1.2.2.1
noncomputable def l_laws_eqSlotS_4 : LEnt := ⟨d_laws_eqSlotS_4, fun X K => iterL (t_laws_eqSlotS_4 X K) fuel X.1.2.2.2.1⟩
noncomputable def L_laws_eqSlotS : Lam := (Lam.nil).add 4 l_laws_eqSlotS_4
theorem lok_laws_eqSlotS_4 : LOk E g_laws_eqSlotS n_laws_eqSlotS L_laws_eqSlotS (loopBody Tryz.f100 0) :=
  lok l_laws_eqSlotS_4 (by kernel_rfl) fuel fun R X K => (loop_iter (σ := Int) (fun x => SD.enc d_laws_eqSlotS_4 ((X.1.1, (X.1.2.1, (X.1.2.2.1, (x, ())))), (), ())) (t_laws_eqSlotS_4 X K) (fun m x => by kernel_rfl) fuel X.1.2.2.2.1).symm
theorem ok_laws_eqSlotS : FnOk Tryz.prog 100 e_laws_eqSlotS := FnOk.of (fnOk (Γ := g_laws_eqSlotS) (an := n_laws_eqSlotS) (Λ := L_laws_eqSlotS) ((base).add ok_laws_eqSlot) Tryz.func100 (by kernel_rfl) (hF (by kernel_rfl) (cF lok_laws_eqSlotS_4 nF))) (fun a => by kernel_rfl)
noncomputable def e_laws_eqFlowTable : GEnt := entOf [.data true (.sl TSlot), .data true (.sl TSlot)] [(false, .bool)] fun a => Pu.laws_eqFlowTable a.1 a.2.1
theorem ok_laws_eqFlowTable : FnOk Tryz.prog 67 e_laws_eqFlowTable := FnOk.of (fnOk (an := {}) (Λ := Lam.nil) ((base).add ok_laws_eqSlotS) Tryz.func67 (by kernel_rfl) (hF (by kernel_rfl) nF)) (fun a => by kernel_rfl)
noncomputable def e_laws_eqSpread : GEnt := entOf [.data true TSpread, .data true TSpread] [(false, .bool)] fun a => Pu.laws_eqSpread a.1 a.2.1
theorem ok_laws_eqSpread : FnOk Tryz.prog 68 e_laws_eqSpread := FnOk.of (fnOk (an := {}) (Λ := Lam.nil) ((base).add ok_laws_eqIntS) Tryz.func68 (by kernel_rfl) (hF (by kernel_rfl) nF)) (fun a => by kernel_rfl)
noncomputable def e_laws_eqSteering : GEnt := entOf [.data true TSteering, .data true TSteering] [(false, .bool)] fun a => Pu.laws_eqSteering a.1 a.2.1
theorem ok_laws_eqSteering : FnOk Tryz.prog 30 e_laws_eqSteering := FnOk.of (fnOk (an := {}) (Λ := Lam.nil) ((((base).add ok_laws_eqRuleS).add ok_laws_eqFlowTable).add ok_laws_eqSpread) Tryz.func30 (by kernel_rfl) (hF (by kernel_rfl) nF)) (fun a => by kernel_rfl)
noncomputable def e_laws_eqStream : GEnt := entOf [.data true TStream, .data true TStream] [(false, .bool)] fun a => Pu.laws_eqStream a.1 a.2.1
theorem ok_laws_eqStream : FnOk Tryz.prog 69 e_laws_eqStream := FnOk.of (fnOk (an := {}) (Λ := Lam.nil) ((base).add ok_laws_eqFlow) Tryz.func69 (by kernel_rfl) (hF (by kernel_rfl) nF)) (fun a => by kernel_rfl)
noncomputable def e_laws_eqStreamS : GEnt := entOf [.data false (.sl TStream), .data false (.sl TStream)] [(false, .bool)] fun a => Pu.laws_eqStreamS a.1 a.2.1
noncomputable def g_laws_eqStreamS : Gam := (Gam.nil).add 69 e_laws_eqStream
def n_laws_eqStreamS : An := { mask := fun | 4 => [0, 1, 4, 5] | _ => [] }
@[reducible] def d_laws_eqStreamS_4 : SD := ⟨[.data false (.sl .arg TStream),.data false (.sl .arg TStream),B,B,DB,DI,B,B,B,B,B,B,B,B,B,B,B,B,B,B,B,B,B,B,B,B,B], [Z,Z,Z,Z,Z,Z,Z,Z,Z,Z,Z,Z,Z,Z,Z,Z,Z,Z,Z,Z,Z,Z,Z,Z,Z,Z,Z], none⟩
noncomputable def t_laws_eqStreamS_4 {R : Type} (X : SD.D d_laws_eqStreamS_4) (K : Ex → AS → Option R) := Pu.laws_eqStreamS_T4 (fun y0 => K (.exit 0) (SD.enc d_laws_eqStreamS_4 ((X.1.1, (X.1.2.1, (X.1.2.2.1, (y0, ())))), (), ()))) (fun y0 y1 => K .ret (SD.enc d_laws_eqStreamS_4 ((X.1.1, (X.1.2.1, (y0, (y1, ())))), (), ()))) X.1.1 X.1.2.1 X.1.2.2.1
noncomputable def l_laws_eqStreamS_4 : LEnt := ⟨d_laws_eqStreamS_4, fun X K => iterL (t_laws_eqStreamS_4 X K) fuel X.1.2.2.2.1⟩
noncomputable def L_laws_eqStreamS : Lam := (Lam.nil).add 4 l_laws_eqStreamS_4
theorem lok_laws_eqStreamS_4 : LOk E g_laws_eqStreamS n_laws_eqStreamS L_laws_eqStreamS (loopBody Tryz.f31 0) :=
  lok l_laws_eqStreamS_4 (by kernel_rfl) fuel fun R X K => (loop_iter (σ := Int) (fun x => SD.enc d_laws_eqStreamS_4 ((X.1.1, (X.1.2.1, (X.1.2.2.1, (x, ())))), (), ())) (t_laws_eqStreamS_4 X K) (fun m x => by kernel_rfl) fuel X.1.2.2.2.1).symm
theorem ok_laws_eqStreamS : FnOk Tryz.prog 31 e_laws_eqStreamS := FnOk.of (fnOk (Γ := g_laws_eqStreamS) (an := n_laws_eqStreamS) (Λ := L_laws_eqStreamS) ((base).add ok_laws_eqStream) Tryz.func31 (by kernel_rfl) (hF (by kernel_rfl) (cF lok_laws_eqStreamS_4 nF))) (fun a => by kernel_rfl)
noncomputable def e_laws_eqStringS : GEnt := entOf [.data false (.sl .str), .data false (.sl .str)] [(false, .bool)] fun a => Pu.laws_eqStringS a.1 a.2.1
noncomputable def g_laws_eqStringS : Gam := Gam.nil
def n_laws_eqStringS : An := { mask := fun | 4 => [0, 1, 4, 5] | _ => [] }
@[reducible] def d_laws_eqStringS_4 : SD := ⟨[.data false (.sl .arg .str),.data false (.sl .arg .str),B,B,DB,DI,B,B,B,B,B,B,B,B,B,B,B,B,B,B,B,B,B,B,B,B], [Z,Z,Z,Z,Z,Z,Z,Z,Z,Z,Z,Z,Z,Z,Z,Z,Z,Z,Z,Z,Z,Z,Z,Z,Z,Z], none⟩
noncomputable def t_laws_eqStringS_4 {R : Type} (X : SD.D d_laws_eqStringS_4) (K : Ex → AS → Option R) := Pu.laws_eqStringS_T4 (fun y0 => K (.exit 0) (SD.enc d_laws_eqStringS_4 ((X.1.1, (X.1.2.1, (X.1.2.2.1, (y0, ())))), (), ()))) (fun y0 y1 => K .ret (SD.enc d_laws_eqStringS_4 ((X.1.1, (X.1.2.1, (y0, (y1, ())))), (), ()))) X.1.1 X.1.2.1 X.1.2.2.1
noncomputable def l_laws_eqStringS_4 : LEnt := ⟨d_laws_eqStringS_4, fun X K => iterL (t_laws_eqStringS_4 X K) fuel X.1.2.2.2.1⟩
noncomputable def L_laws_eqStringS : Lam := (Lam.nil).add 4 l_laws_eqStringS_4
theorem lok_laws_eqStringS_4 : LOk E g_laws_eqStringS n_laws_eqStringS L_laws_eqStringS (loopBody Tryz.f32 0) :=
  lok l_laws_eqStringS_4 (by kernel_rfl) fuel fun R X K => (loop_iter (σ := Int) (fun x => SD.enc d_laws_eqStringS_4 ((X.1.1, (X.1.2.1, (X.1.2.2.1, (x, ())))), (), ())) (t_laws_eqStringS_4 X K) (fun m x => by kernel_rfl) fuel X.1.2.2.2.1).symm
theorem ok_laws_eqStringS : FnOk Tryz.prog 32 e_laws_eqStringS := FnOk.of (fnOk (Γ := g_laws_eqStringS) (an := n_laws_eqStringS) (Λ := L_laws_eqStringS) (base) Tryz.func32 (by kernel_rfl) (hF (by kernel_rfl) (cF lok_laws_eqStringS_4 nF))) (fun a => by kernel_rfl)
noncomputable def e_laws_eqSoft : GEnt := entOf [.data true TSoft, .data true TSoft] [(false, .bool)] fun a => Pu.laws_eqSoft a.1 a.2.1
theorem ok_laws_eqSoft : FnOk Tryz.prog 10 e_laws_eqSoft := FnOk.of (fnOk (an := {}) (Λ := Lam.nil) (((((base).add ok_laws_eqFilter).add ok_laws_eqSteering).add ok_laws_eqStreamS).add ok_laws_eqStringS) Tryz.func10 (by kernel_rfl) (hF (by kernel_rfl) nF)) (fun a => by kernel_rfl)
noncomputable def e_laws_markIntS : GEnt := entIo (.sl (.int .i64)) false [.data false (.int .i64)] [(false, (.int .i64))] fun x a => Pu.laws_markIntS x a.1
noncomputable def g_laws_markIntS : Gam := Gam.nil
def n_laws_markIntS : An := { mask := fun | 2 => [0, 1, 5] | _ => [] }
@[reducible] def d_laws_markIntS_2 : SD := ⟨[.data false (.sl (.lio 0 12288036864) (.int .i64)),DI,B,B,B,DI,B,B,B,B,B,B,B,B,B,B,B,B,B], [Z,Z,Z,Z,Z,Z,Z,Z,Z,Z,Z,Z,Z,Z,Z,Z,Z,Z,Z], some (.sl (.own (some 12288036864)) (.int .i64))⟩
noncomputable def t_laws_markIntS_2 {R : Type} (X : SD.D d_laws_markIntS_2) (K : Ex → AS → Option R) := Pu.laws_markIntS_T2 (fun y0 y1 y2 y3 => K (.exit 0) (SD.enc d_laws_markIntS_2 ((y0, (y1, (y2, ()))), (), y3))) 
noncomputable def l_laws_markIntS_2 : LEnt := ⟨d_laws_markIntS_2, fun X K => iterL (t_laws_markIntS_2 X K) fuel (X.1.1, X.1.2.1, X.1.2.2.1, X.2.2)⟩
noncomputable def L_laws_markIntS : Lam := (Lam.nil).add 2 l_laws_markIntS_2
theorem lok_laws_markIntS_2 : LOk E g_laws_markIntS n_laws_markIntS L_laws_markIntS (loopBody Tryz.f70 0) :=
  lok l_laws_markIntS_2 (by kernel_rfl) fuel fun R X K => (loop_iter (σ := (List Int) × Int × Int × List Int) (fun x => SD.enc d_laws_markIntS_2 ((x.1, (x.2.1, (x.2.2.1, ()))), (), x.2.2.2)) (t_laws_markIntS_2 X K) (fun m x => by kernel_rfl) fuel (X.1.1, X.1.2.1, X.1.2.2.1, X.2.2)).symm
theorem ok_laws_markIntS : FnOk Tryz.prog 70 e_laws_markIntS := FnOk.ofIo (fnIo (Γ := g_laws_markIntS) (an := n_laws_markIntS) (Λ := L_laws_markIntS) (base) Tryz.func70 (by kernel_rfl) (hF (by kernel_rfl) (cF lok_laws_markIntS_2 nF))) (fun x a => by kernel_rfl)
noncomputable def e_laws_markFilter : GEnt := entIo TFilter true [.data false (.int .i64)] [(false, (.int .i64))] fun x a => Pu.laws_markFilter x a.1
theorem ok_laws_markFilter : FnOk Tryz.prog 33 e_laws_markFilter := FnOk.ofIo (fnIo (an := {}) (Λ := Lam.nil) ((base).add ok_laws_markIntS) Tryz.func33 (by kernel_rfl) (hF (by kernel_rfl) nF)) (fun x a => by kernel_rfl)
noncomputable def e_laws_markRuleS : GEnt := entIo (.sl TRule) false [.data false (.int .i64)] [(false, (.int .i64))] fun x a => Pu.laws_markRuleS x a.1
noncomputable def g_laws_markRuleS : Gam := Gam.nil
def n_laws_markRuleS : An := { mask := fun | 2 => [0, 1, 5] | _ => [] }
@[reducible] def d_laws_markRuleS_2 : SD := ⟨[.data false (.sl (.lio 0 12288036864) TRule),DI,B,B,B,DI,B,B,B,B,B,B,B,B,B,B,B,B,B,B,B,B,B,B,B,B,B,B,B,B,B,B,B,B,B,B,B,B,B,B,B,B,B,B,B,B,B,B,B,B,B,B,B,B,B,B,B,B,B,B,B,B,B,B,B,B,B,B,B,B,B,B,B,B,B,B], [Z,Z,Z,Z,Z,Z,Z,Z,Z,Z,Z,Z,Z,Z,Z,Z,Z,Z,Z,Z,Z,Z,Z,Z,Z,Z,Z,Z,Z,Z,Z,Z,Z,Z,Z,Z,Z,Z,Z,Z,Z,Z,Z,Z,Z,Z,Z,Z,Z,Z,Z,Z,Z,Z,Z,Z,Z,Z,Z,Z,Z,Z,Z,Z,Z,Z,Z,Z,Z,Z,Z,Z,Z,Z,Z,Z], some (.sl (.own (some 12288036864)) TRule)⟩
noncomputable def t_laws_markRuleS_2 {R : Type} (X : SD.D d_laws_markRuleS_2) (K : Ex → AS → Option R) := Pu.laws_markRuleS_T2 (fun y0 y1 y2 y3 => K (.exit 0) (SD.enc d_laws_markRuleS_2 ((y0, (y1, (y2, ()))), (), y3))) 
noncomputable def l_laws_markRuleS_2 : LEnt := ⟨d_laws_markRuleS_2, fun X K => iterL (t_laws_markRuleS_2 X K) fuel (X.1.1, X.1.2.1, X.1.2.2.1, X.2.2)⟩
noncomputable def L_laws_markRuleS : Lam := (Lam.nil).add 2 l_laws_markRuleS_2
theorem lok_laws_markRuleS_2 : LOk E g_laws_markRuleS n_laws_markRuleS L_laws_markRuleS (loopBody Tryz.f71 0) :=
  lok l_laws_markRuleS_2 (by kernel_rfl) fuel fun R X K => (loop_iter (σ := (List Pu.Rule) × Int × Int × List Pu.Rule) (fun x => SD.enc d_laws_markRuleS_2 ((x.1, (x.2.1, (x.2.2.1, ()))), (), x.2.2.2)) (t_laws_markRuleS_2 X K) (fun m x => by kernel_rfl) fuel (X.1.1, X.1.2.1, X.1.2.2.1, X.2.2)).symm
theorem ok_laws_markRuleS : FnOk Tryz.prog 71 e_laws_markRuleS := FnOk.ofIo (fnIo (Γ := g_laws_markRuleS) (an := n_laws_markRuleS) (Λ := L_laws_markRuleS) (base) Tryz.func71 (by kernel_rfl) (hF (by kernel_rfl) (cF lok_laws_markRuleS_2 nF))) (fun x a => by kernel_rfl)
noncomputable def e_laws_markSlotS : GEnt := entIo (.sl TSlot) false [.data false (.int .i64)] [(false, (.int .i64))] fun x a => Pu.laws_markSlotS x a.1
noncomputable def g_laws_markSlotS : Gam := Gam.nil
def n_laws_markSlotS : An := { mask := fun | 2 => [0, 1, 5] | _ => [] }
@[reducible] def d_laws_markSlotS_2 : SD := ⟨[.data false (.sl (.lio 0 12288036864) TSlot),DI,B,B,B,DI,B,B,B,B,B,B,B,B,B,B,B,B,B,B,B,B,B,B,B,B,B,B,B,B,B,B,B,B,B,B,B,B,B,B,B,B,B,B,B,B,B,B,B,B,B,B,B,B,B,B,B,B,B,B,B,B,B,B,B,B,B], [Z,Z,Z,Z,Z,Z,Z,Z,Z,Z,Z,Z,Z,Z,Z,Z,Z,Z,Z,Z,Z,Z,Z,Z,Z,Z,Z,Z,Z,Z,Z,Z,Z,Z,Z,Z,Z,Z,Z,Z,Z,Z,Z,Z,Z,Z,Z,Z,Z,Z,Z,Z,Z,Z,Z,Z,Z,Z,Z,Z,Z,Z,Z,Z,Z,Z,Z], some (.sl (.own (some 12288036864)) TSlot)⟩
noncomputable def t_laws_markSlotS_2 {R : Type} (X : SD.D d_laws_markSlotS_2) (K : Ex → AS → Option R) := Pu.laws_markSlotS_T2 (fun y0 y1 y2 y3 => K (.exit 0) (SD.enc d_laws_markSlotS_2 ((y0, (y1, (y2, ()))), (), y3))) 
noncomputable def l_laws_markSlotS_2 : LEnt := ⟨d_laws_markSlotS_2, fun X K => iterL (t_laws_markSlotS_2 X K) fuel (X.1.1, X.1.2.1, X.1.2.2.1, X.2.2)⟩
noncomputable def L_laws_markSlotS : Lam := (Lam.nil).add 2 l_laws_markSlotS_2
theorem lok_laws_markSlotS_2 : LOk E g_laws_markSlotS n_laws_markSlotS L_laws_markSlotS (loopBody Tryz.f102 0) :=
  lok l_laws_markSlotS_2 (by kernel_rfl) fuel fun R X K => (loop_iter (σ := (List Pu.Slot) × Int × Int × List Pu.Slot) (fun x => SD.enc d_laws_markSlotS_2 ((x.1, (x.2.1, (x.2.2.1, ()))), (), x.2.2.2)) (t_laws_markSlotS_2 X K) (fun m x => by kernel_rfl) fuel (X.1.1, X.1.2.1, X.1.2.2.1, X.2.2)).symm
theorem ok_laws_markSlotS : FnOk Tryz.prog 102 e_laws_markSlotS := FnOk.ofIo (fnIo (Γ := g_laws_markSlotS) (an := n_laws_markSlotS) (Λ := L_laws_markSlotS) (base) Tryz.func102 (by kernel_rfl) (hF (by kernel_rfl) (cF lok_laws_markSlotS_2 nF))) (fun x a => by kernel_rfl)
noncomputable def e_laws_markFlowTable : GEnt := entIo (.sl TSlot) true [.data false (.int .i64)] [(false, (.int .i64))] fun x a => Pu.laws_markFlowTable x a.1
theorem ok_laws_markFlowTable : FnOk Tryz.prog 72 e_laws_markFlowTable := FnOk.ofIo (fnIo (an := {}) (Λ := Lam.nil) ((base).add ok_laws_markSlotS) Tryz.func72 (by kernel_rfl) (hF (by kernel_rfl) nF)) (fun x a => by kernel_rfl)
noncomputable def e_laws_markSpread : GEnt := entIo TSpread true [.data false (.int .i64)] [(false, (.int .i64))] fun x a => Pu.laws_markSpread x a.1
theorem ok_laws_markSpread : FnOk Tryz.prog 73 e_laws_markSpread := FnOk.ofIo (fnIo (an := {}) (Λ := Lam.nil) ((base).add ok_laws_markIntS) Tryz.func73 (by kernel_rfl) (hF (by kernel_rfl) nF)) (fun x a => by kernel_rfl)
noncomputable def e_laws_markSteering : GEnt := entIo TSteering true [.data false (.int .i64)] [(false, (.int .i64))] fun x a => Pu.laws_markSteering x a.1
theorem ok_laws_markSteering : FnOk Tryz.prog 34 e_laws_markSteering := FnOk.ofIo (fnIo (an := {}) (Λ := Lam.nil) ((((base).add ok_laws_markRuleS).add ok_laws_markFlowTable).add ok_laws_markSpread) Tryz.func34 (by kernel_rfl) (hF (by kernel_rfl) nF)) (fun x a => by kernel_rfl)
noncomputable def e_laws_markText : GEnt := entOf [.data false (.int .i64)] [(false, .str)] fun a => Pu.laws_markText a.1
noncomputable def g_laws_markText : Gam := Gam.nil
def n_laws_markText : An := { mask := fun | 4 => [0, 3] | _ => [] }
@[reducible] def d_laws_markText_4 : SD := ⟨[DI,B,B,.data false .str,B,B,B,B,B,B,B,B,B,B,B,B,B,B,B,B], [Z,Z,Z,Z,Z,Z,Z,Z,Z,Z,Z,Z,Z,Z,Z,Z,Z,Z,Z,Z], none⟩
noncomputable def t_laws_markText_4 {R : Type} (X : SD.D d_laws_markText_4) (K : Ex → AS → Option R) := Pu.laws_markText_T4 (fun y0 y1 => K (.exit 0) (SD.enc d_laws_markText_4 ((y0, (y1, ())), (), ()))) 
noncomputable def l_laws_markText_4 : LEnt := ⟨d_laws_markText_4, fun X K => iterL (t_laws_markText_4 X K) fuel (X.1.1, X.1.2.1)⟩
noncomputable def L_laws_markText : Lam := (Lam.nil).add 4 l_laws_markText_4
theorem lok_laws_markText_4 : LOk E g_laws_markText n_laws_markText L_laws_markText (loopBody Tryz.f74 0) :=
  lok l_laws_markText_4 (by kernel_rfl) fuel fun R X K => (loop_iter (σ := Int × Pu.Bytes) (fun x => SD.enc d_laws_markText_4 ((x.1, (x.2, ())), (), ())) (t_laws_markText_4 X K) (fun m x => by kernel_rfl) fuel (X.1.1, X.1.2.1)).symm
theorem ok_laws_markText : FnOk Tryz.prog 74 e_laws_markText := FnOk.of (fnOk (Γ := g_laws_markText) (an := n_laws_markText) (Λ := L_laws_markText) (base) Tryz.func74 (by kernel_rfl) (hF (by kernel_rfl) (cF lok_laws_markText_4 nF))) (fun a => by kernel_rfl)
noncomputable def e_laws_markStreamS : GEnt := entIo (.sl TStream) false [.data false (.int .i64)] [(false, (.int .i64))] fun x a => Pu.laws_markStreamS x a.1
noncomputable def g_laws_markStreamS : Gam := (Gam.nil).add 74 e_laws_markText
def n_laws_markStreamS : An := { mask := fun | 2 => [0, 1, 5] | _ => [] }
@[reducible] def d_laws_markStreamS_2 : SD := ⟨[.data false (.sl (.lio 0 12288036864) TStream),DI,B,B,B,DI,B,B,B,B,B,B,B,B,B,B,B,B,B,B,B,B,B,B,B,B,B,B,B,B,B,B,B,B,B,B,B,B,B,B,B,B,B,B,B,B,B,B,B,B,B,B,B,B,B,B,B,B,B,B,B,B,B,B,B,B,B,B,B,B,B,B,B,B,B,B,B], [Z,Z,Z,Z,Z,Z,Z,Z,Z,Z,Z,Z,Z,Z,Z,Z,Z,Z,Z,Z,Z,Z,Z,Z,Z,Z,Z,Z,Z,Z,Z,Z,Z,Z,Z,Z,Z,Z,Z,Z,Z,Z,Z,Z,Z,Z,Z,Z,Z,Z,Z,Z,Z,Z,Z,Z,Z,Z,Z,Z,Z,Z,Z,Z,Z,Z,Z,Z,Z,Z,Z,Z,Z,Z,Z,Z,Z], some (.sl (.own (some 12288036864)) TStream)⟩
noncomputable def t_laws_markStreamS_2 {R : Type} (X : SD.D d_laws_markStreamS_2) (K : Ex → AS → Option R) := Pu.laws_markStreamS_T2 (fun y0 y1 y2 y3 => K (.exit 0) (SD.enc d_laws_markStreamS_2 ((y0, (y1, (y2, ()))), (), y3))) 
noncomputable def l_laws_markStreamS_2 : LEnt := ⟨d_laws_markStreamS_2, fun X K => iterL (t_laws_markStreamS_2 X K) fuel (X.1.1, X.1.2.1, X.1.2.2.1, X.2.2)⟩
noncomputable def L_laws_markStreamS : Lam := (Lam.nil).add 2 l_laws_markStreamS_2
theorem lok_laws_markStreamS_2 : LOk E g_laws_markStreamS n_laws_markStreamS L_laws_markStreamS (loopBody Tryz.f35 0) :=
  lok l_laws_markStreamS_2 (by kernel_rfl) fuel fun R X K => (loop_iter (σ := (List Pu.Stream) × Int × Int × List Pu.Stream) (fun x => SD.enc d_laws_markStreamS_2 ((x.1, (x.2.1, (x.2.2.1, ()))), (), x.2.2.2)) (t_laws_markStreamS_2 X K) (fun m x => by kernel_rfl) fuel (X.1.1, X.1.2.1, X.1.2.2.1, X.2.2)).symm
theorem ok_laws_markStreamS : FnOk Tryz.prog 35 e_laws_markStreamS := FnOk.ofIo (fnIo (Γ := g_laws_markStreamS) (an := n_laws_markStreamS) (Λ := L_laws_markStreamS) ((base).add ok_laws_markText) Tryz.func35 (by kernel_rfl) (hF (by kernel_rfl) (cF lok_laws_markStreamS_2 nF))) (fun x a => by kernel_rfl)
noncomputable def e_laws_markStringS : GEnt := entIo (.sl .str) false [.data false (.int .i64)] [(false, (.int .i64))] fun x a => Pu.laws_markStringS x a.1
noncomputable def g_laws_markStringS : Gam := (Gam.nil).add 74 e_laws_markText
def n_laws_markStringS : An := { mask := fun | 2 => [0, 1, 5] | _ => [] }
@[reducible] def d_laws_markStringS_2 : SD := ⟨[.data false (.sl (.lio 0 12288036864) .str),DI,B,B,B,DI,B,B,B,B,B,B,B,B,B,B,B,B,B,B], [Z,Z,Z,Z,Z,Z,Z,Z,Z,Z,Z,Z,Z,Z,Z,Z,Z,Z,Z,Z], some (.sl (.own (some 12288036864)) .str)⟩
noncomputable def t_laws_markStringS_2 {R : Type} (X : SD.D d_laws_markStringS_2) (K : Ex → AS → Option R) := Pu.laws_markStringS_T2 (fun y0 y1 y2 y3 => K (.exit 0) (SD.enc d_laws_markStringS_2 ((y0, (y1, (y2, ()))), (), y3))) 
noncomputable def l_laws_markStringS_2 : LEnt := ⟨d_laws_markStringS_2, fun X K => iterL (t_laws_markStringS_2 X K) fuel (X.1.1, X.1.2.1, X.1.2.2.1, X.2.2)⟩
noncomputable def L_laws_markStringS : Lam := (Lam.nil).add 2 l_laws_markStringS_2
theorem lok_laws_markStringS_2 : LOk E g_laws_markStringS n_laws_markStringS L_laws_markStringS (loopBody Tryz.f36 0) :=
  lok l_laws_markStringS_2 (by kernel_rfl) fuel fun R X K => (loop_iter (σ := (List Pu.Bytes) × Int × Int × List Pu.Bytes) (fun x => SD.enc d_laws_markStringS_2 ((x.1, (x.2.1, (x.2.2.1, ()))), (), x.2.2.2)) (t_laws_markStringS_2 X K) (fun m x => by kernel_rfl) fuel (X.1.1, X.1.2.1, X.1.2.2.1, X.2.2)).symm
theorem ok_laws_markStringS : FnOk Tryz.prog 36 e_laws_markStringS := FnOk.ofIo (fnIo (Γ := g_laws_markStringS) (an := n_laws_markStringS) (Λ := L_laws_markStringS) ((base).add ok_laws_markText) Tryz.func36 (by kernel_rfl) (hF (by kernel_rfl) (cF lok_laws_markStringS_2 nF))) (fun x a => by kernel_rfl)
noncomputable def e_laws_markSoft : GEnt := entIo TSoft true [.data false (.int .i64)] [(false, (.int .i64))] fun x a => Pu.laws_markSoft x a.1
theorem ok_laws_markSoft : FnOk Tryz.prog 11 e_laws_markSoft := FnOk.ofIo (fnIo (an := {}) (Λ := Lam.nil) (((((base).add ok_laws_markFilter).add ok_laws_markSteering).add ok_laws_markStreamS).add ok_laws_markStringS) Tryz.func11 (by kernel_rfl) (hF (by kernel_rfl) nF)) (fun x a => by kernel_rfl)
noncomputable def e_laws_heldIntS : GEnt := entOf [.data false (.sl (.int .i64)), .data false (.int .i64)] [(false, (.int .i64))] fun a => Pu.laws_heldIntS a.1 a.2.1
noncomputable def g_laws_heldIntS : Gam := Gam.nil
def n_laws_heldIntS : An := { mask := fun | 2 => [0, 1, 4, 5] | _ => [] }
@[reducible] def d_laws_heldIntS_2 : SD := ⟨[.data false (.sl .arg (.int .i64)),DI,B,B,DI,DI,B,B,B,B,B,B,B,B,B,B,B,B,B,B,B], [Z,Z,Z,Z,Z,Z,Z,Z,Z,Z,Z,Z,Z,Z,Z,Z,Z,Z,Z,Z,Z], none⟩
noncomputable def t_laws_heldIntS_2 {R : Type} (X : SD.D d_laws_heldIntS_2) (K : Ex → AS → Option R) := Pu.laws_heldIntS_T2 (fun y0 y1 => K (.exit 0) (SD.enc d_laws_heldIntS_2 ((X.1.1, (y0, (X.1.2.2.1, (y1, ())))), (), ()))) (fun y0 y1 y2 => K .ret (SD.enc d_laws_heldIntS_2 ((X.1.1, (y0, (y1, (y2, ())))), (), ()))) X.1.1 X.1.2.2.1
noncomputable def l_laws_heldIntS_2 : LEnt := ⟨d_laws_heldIntS_2, fun X K => iterL (t_laws_heldIntS_2 X K) fuel (X.1.2.1, X.1.2.2.2.1)⟩
noncomputable def L_laws_heldIntS : Lam := (Lam.nil).add 2 l_laws_heldIntS_2
theorem lok_laws_heldIntS_2 : LOk E g_laws_heldIntS n_laws_heldIntS L_laws_heldIntS (loopBody Tryz.f75 0) :=
  lok l_laws_heldIntS_2 (by kernel_rfl) fuel fun R X K => (loop_iter (σ := Int × Int) (fun x => SD.enc d_laws_heldIntS_2 ((X.1.1, (x.1, (X.1.2.2.1, (x.2, ())))), (), ())) (t_laws_heldIntS_2 X K) (fun m x => by kernel_rfl) fuel (X.1.2.1, X.1.2.2.2.1)).symm
theorem ok_laws_heldIntS : FnOk Tryz.prog 75 e_laws_heldIntS := FnOk.of (fnOk (Γ := g_laws_heldIntS) (an := n_laws_heldIntS) (Λ := L_laws_heldIntS) (base) Tryz.func75 (by kernel_rfl) (hF (by kernel_rfl) (cF lok_laws_heldIntS_2 nF))) (fun a => by kernel_rfl)
noncomputable def e_laws_heldFilter : GEnt := entOf [.data true TFilter, .data false (.int .i64)] [(false, (.int .i64))] fun a => Pu.laws_heldFilter a.1 a.2.1
theorem ok_laws_heldFilter : FnOk Tryz.prog 37 e_laws_heldFilter := FnOk.of (fnOk (an := {}) (Λ := Lam.nil) ((base).add ok_laws_heldIntS) Tryz.func37 (by kernel_rfl) (hF (by kernel_rfl) nF)) (fun a => by kernel_rfl)
noncomputable def e_laws_heldRuleS : GEnt := entOf [.data false (.sl TRule), .data false (.int .i64)] [(false, (.int .i64))] fun a => Pu.laws_heldRuleS a.1 a.2.1
noncomputable def g_laws_heldRuleS : Gam := Gam.nil
def n_laws_heldRuleS : An := { mask := fun | 2 => [0, 1, 4, 5] | _ => [] }
@[reducible] def d_laws_heldRuleS_2 : SD := ⟨[.data false (.sl .arg TRule),DI,B,B,DI,DI,B,B,B,B,B,B,B,B,B,B,B,B,B,B,B,B,B,B,B,B,B,B,B,B,B,B,B,B,B,B,B,B,B,B,B,B,B,B,B,B,B,B,B,B,B,B,B,B,B,B,B,B,B,B,B,B,B,B,B,B,B,B,B,B,B,B,B,B,B,B,B,B,B,B,B,B,B,B,B,B,B,B,B,B,B,B,B,B], [Z,Z,Z,Z,Z,Z,Z,Z,Z,Z,Z,Z,Z,Z,Z,Z,Z,Z,Z,Z,Z,Z,Z,Z,Z,Z,Z,Z,Z,Z,Z,Z,Z,Z,Z,Z,Z,Z,Z,Z,Z,Z,Z,Z,Z,Z,Z,Z,Z,Z,Z,Z,Z,Z,Z,Z,Z,Z,Z,Z,Z,Z,Z,Z,Z,Z,Z,Z,Z,Z,Z,Z,Z,Z,Z,Z,Z,Z,Z,Z,Z,Z,Z,Z,Z,Z,Z,Z,Z,Z,Z,Z,Z,Z], none⟩
noncomputable def t_laws_heldRuleS_2 {R : Type} (X : SD.D d_laws_heldRuleS_2) (K : Ex → AS → Option R) := Pu.laws_heldRuleS_T2 (fun y0 y1 => K (.exit 0) (SD.enc d_laws_heldRuleS_2 ((X.1.1, (y0, (X.1.2.2.1, (y1, ())))), (), ()))) (fun y0 y1 y2 => K .ret (SD.enc d_laws_heldRuleS_2 ((X.1.1, (y0, (y1, (y2, ())))), (), ()))) X.1.1 X.1.2.2.1
noncomputable def l_laws_heldRuleS_2 : LEnt := ⟨d_laws_heldRuleS_2, fun X K => iterL (t_laws_heldRuleS_2 X K) fuel (X.1.2.1, X.1.2.2.2.1)⟩
noncomputable def L_laws_heldRuleS : Lam := (Lam.nil).add 2 l_laws_heldRuleS_2
theorem lok_laws_heldRuleS_2 : LOk E g_laws_heldRuleS n_laws_heldRuleS L_laws_heldRuleS (loopBody Tryz.f76 0) :=
  lok l_laws_heldRuleS_2 (by kernel_rfl) fuel fun R X K => (loop_iter (σ := Int × Int) (fun x => SD.enc d_laws_heldRuleS_2 ((X.1.1, (x.1, (X.1.2.2.1, (x.2, ())))), (), ())) (t_laws_heldRuleS_2 X K) (fun m x => by kernel_rfl) fuel (X.1.2.1, X.1.2.2.2.1)).symm
theorem ok_laws_heldRuleS : FnOk Tryz.prog 76 e_laws_heldRuleS := FnOk.of (fnOk (Γ := g_laws_heldRuleS) (an := n_laws_heldRuleS) (Λ := L_laws_heldRuleS) (base) Tryz.func76 (by kernel_rfl) (hF (by kernel_rfl) (cF lok_laws_heldRuleS_2 nF))) (fun a => by kernel_rfl)
noncomputable def e_laws_heldSlotS : GEnt := entOf [.data false (.sl TSlot), .data false (.int .i64)] [(false, (.int .i64))] fun a => Pu.laws_heldSlotS a.1 a.2.1
noncomputable def g_laws_heldSlotS : Gam := Gam.nil
def n_laws_heldSlotS : An := { mask := fun | 2 => [0, 1, 4, 5] | _ => [] }
@[reducible] def d_laws_heldSlotS_2 : SD := ⟨[.data false (.sl .arg TSlot),DI,B,B,DI,DI,B,B,B,B,B,B,B,B,B,B,B,B,B,B,B,B,B,B,B,B,B,B,B,B,B,B,B,B,B,B,B,B,B,B,B,B,B,B,B,B,B,B,B,B,B,B,B,B,B,B,B,B,B,B,B,B,B,B,B,B,B,B,B,B,B,B,B,B,B,B,B,B,B,B,B], [Z,Z,Z,Z,Z,Z,Z,Z,Z,Z,Z,Z,Z,Z,Z,Z,Z,Z,Z,Z,Z,Z,Z,Z,Z,Z,Z,Z,Z,Z,Z,Z,Z,Z,Z,Z,Z,Z,Z,Z,Z,Z,Z,Z,Z,Z,Z,Z,Z,Z,Z,Z,Z,Z,Z,Z,Z,Z,Z,Z,Z,Z,Z,Z,Z,Z,Z,Z,Z,Z,Z,Z,Z,Z,Z,Z,Z,Z,Z,Z,Z], none⟩
noncomputable def t_laws_heldSlotS_2 {R : Type} (X : SD.D d_laws_heldSlotS_2) (K : Ex → AS → Option R) := Pu.laws_heldSlotS_T2 (fun y0 y1 => K (.exit 0) (SD.enc d_laws_heldSlotS_2 ((X.1.1, (y0, (X.1.2.2.1, (y1, ())))), (), ()))) (fun y0 y1 y2 => K .ret (SD.enc d_laws_heldSlotS_2 ((X.1.1, (y0, (y1, (y2, ())))), (), ()))) X.1.1 X.1.2.2.1
noncomputable def l_laws_heldSlotS_2 : LEnt := ⟨d_laws_heldSlotS_2, fun X K => iterL (t_laws_heldSlotS_2 X K) fuel (X.1.2.1, X.1.2.2.2.1)⟩
noncomputable def L_laws_heldSlotS : Lam := (Lam.nil).add 2 l_laws_heldSlotS_2
theorem lok_laws_heldSlotS_2 : LOk E g_laws_heldSlotS n_laws_heldSlotS L_laws_heldSlotS (loopBody Tryz.f103 0) :=
  lok l_laws_heldSlotS_2 (by kernel_rfl) fuel fun R X K => (loop_iter (σ := Int × Int) (fun x => SD.enc d_laws_heldSlotS_2 ((X.1.1, (x.1, (X.1.2.2.1, (x.2, ())))), (), ())) (t_laws_heldSlotS_2 X K) (fun m x => by kernel_rfl) fuel (X.1.2.1, X.1.2.2.2.1)).symm
theorem ok_laws_heldSlotS : FnOk Tryz.prog 103 e_laws_heldSlotS := FnOk.of (fnOk (Γ := g_laws_heldSlotS) (an := n_laws_heldSlotS) (Λ := L_laws_heldSlotS) (base) Tryz.func103 (by kernel_rfl) (hF (by kernel_rfl) (cF lok_laws_heldSlotS_2 nF))) (fun a => by kernel_rfl)
noncomputable def e_laws_heldFlowTable : GEnt := entOf [.data true (.sl TSlot), .data false (.int .i64)] [(false, (.int .i64))] fun a => Pu.laws_heldFlowTable a.1 a.2.1
theorem ok_laws_heldFlowTable : FnOk Tryz.prog 77 e_laws_heldFlowTable := FnOk.of (fnOk (an := {}) (Λ := Lam.nil) ((base).add ok_laws_heldSlotS) Tryz.func77 (by kernel_rfl) (hF (by kernel_rfl) nF)) (fun a => by kernel_rfl)
noncomputable def e_laws_heldSpread : GEnt := entOf [.data true TSpread, .data false (.int .i64)] [(false, (.int .i64))] fun a => Pu.laws_heldSpread a.1 a.2.1
theorem ok_laws_heldSpread : FnOk Tryz.prog 78 e_laws_heldSpread := FnOk.of (fnOk (an := {}) (Λ := Lam.nil) ((base).add ok_laws_heldIntS) Tryz.func78 (by kernel_rfl) (hF (by kernel_rfl) nF)) (fun a => by kernel_rfl)
noncomputable def e_laws_heldSteering : GEnt := entOf [.data true TSteering, .data false (.int .i64)] [(false, (.int .i64))] fun a => Pu.laws_heldSteering a.1 a.2.1
theorem ok_laws_heldSteering : FnOk Tryz.prog 38 e_laws_heldSteering := FnOk.of (fnOk (an := {}) (Λ := Lam.nil) ((((base).add ok_laws_heldRuleS).add ok_laws_heldFlowTable).add ok_laws_heldSpread) Tryz.func38 (by kernel_rfl) (hF (by kernel_rfl) nF)) (fun a => by kernel_rfl)
noncomputable def e_laws_heldStreamS : GEnt := entOf [.data false (.sl TStream), .data false (.int .i64)] [(false, (.int .i64))] fun a => Pu.laws_heldStreamS a.1 a.2.1
noncomputable def g_laws_heldStreamS : Gam := (Gam.nil).add 74 e_laws_markText
def n_laws_heldStreamS : An := { mask := fun | 2 => [0, 1, 4, 5] | _ => [] }
@[reducible] def d_laws_heldStreamS_2 : SD := ⟨[.data false (.sl .arg TStream),DI,B,B,DI,DI,B,B,B,B,B,B,B,B,B,B,B,B,B,B,B,B,B,B,B,B,B,B,B,B,B,B,B,B,B,B,B,B,B,B,B,B,B,B,B,B,B,B,B,B,B,B,B,B,B,B,B,B,B,B,B,B,B,B,B,B,B,B,B,B,B,B,B,B,B,B,B,B,B,B,B,B,B,B,B,B,B,B,B,B,B,B,B], [Z,Z,Z,Z,Z,Z,Z,Z,Z,Z,Z,Z,Z,Z,Z,Z,Z,Z,Z,Z,Z,Z,Z,Z,Z,Z,Z,Z,Z,Z,Z,Z,Z,Z,Z,Z,Z,Z,Z,Z,Z,Z,Z,Z,Z,Z,Z,Z,Z,Z,Z,Z,Z,Z,Z,Z,Z,Z,Z,Z,Z,Z,Z,Z,Z,Z,Z,Z,Z,Z,Z,Z,Z,Z,Z,Z,Z,Z,Z,Z,Z,Z,Z,Z,Z,Z,Z,Z,Z,Z,Z,Z,Z], none⟩
noncomputable def t_laws_heldStreamS_2 {R : Type} (X : SD.D d_laws_heldStreamS_2) (K : Ex → AS → Option R) := Pu.laws_heldStreamS_T2 (fun y0 y1 => K (.exit 0) (SD.enc d_laws_heldStreamS_2 ((X.1.1, (y0, (X.1.2.2.1, (y1, ())))), (), ()))) (fun y0 y1 y2 => K .ret (SD.enc d_laws_heldStreamS_2 ((X.1.1, (y0, (y1, (y2, ())))), (), ()))) X.1.1 X.1.2.2.1
noncomputable def l_laws_heldStreamS_2 : LEnt := ⟨d_laws_heldStreamS_2, fun X K => iterL (t_laws_heldStreamS_2 X K) fuel (X.1.2.1, X.1.2.2.2.1)⟩
noncomputable def L_laws_heldStreamS : Lam := (Lam.nil).add 2 l_laws_heldStreamS_2
theorem lok_laws_heldStreamS_2 : LOk E g_laws_heldStreamS n_laws_heldStreamS L_laws_heldStreamS (loopBody Tryz.f39 0) :=
  lok l_laws_heldStreamS_2 (by kernel_rfl) fuel fun R X K => (loop_iter (σ := Int × Int) (fun x => SD.enc d_laws_heldStreamS_2 ((X.1.1, (x.1, (X.1.2.2.1, (x.2, ())))), (), ())) (t_laws_heldStreamS_2 X K) (fun m x => by kernel_rfl) fuel (X.1.2.1, X.1.2.2.2.1)).symm
theorem ok_laws_heldStreamS : FnOk Tryz.prog 39 e_laws_heldStreamS := FnOk.of (fnOk (Γ := g_laws_heldStreamS) (an := n_laws_heldStreamS) (Λ := L_laws_heldStreamS) ((base).add ok_laws_markText) Tryz.func39 (by kernel_rfl) (hF (by kernel_rfl) (cF lok_laws_heldStreamS_2 nF))) (fun a => by kernel_rfl)
noncomputable def e_laws_heldStringS : GEnt := entOf [.data false (.sl .str), .data false (.int .i64)] [(false, (.int .i64))] fun a => Pu.laws_heldStringS a.1 a.2.1
noncomputable def g_laws_heldStringS : Gam := (Gam.nil).add 74 e_laws_markText
def n_laws_heldStringS : An := { mask := fun | 2 => [0, 1, 4, 5] | _ => [] }
@[reducible] def d_laws_heldStringS_2 : SD := ⟨[.data false (.sl .arg .str),DI,B,B,DI,DI,B,B,B,B,B,B,B,B,B,B,B,B,B,B,B,B], [Z,Z,Z,Z,Z,Z,Z,Z,Z,Z,Z,Z,Z,Z,Z,Z,Z,Z,Z,Z,Z,Z], none⟩
noncomputable def t_laws_heldStringS_2 {R : Type} (X : SD.D d_laws_heldStringS_2) (K : Ex → AS → Option R) := Pu.laws_heldStringS_T2 (fun y0 y1 => K (.exit 0) (SD.enc d_laws_heldStringS_2 ((X.1.1, (y0, (X.1.2.2.1, (y1, ())))), (), ()))) (fun y0 y1 y2 => K .ret (SD.enc d_laws_heldStringS_2 ((X.1.1, (y0, (y1, (y2, ())))), (), ()))) X.1.1 X.1.2.2.1
noncomputable def l_laws_heldStringS_2 : LEnt := ⟨d_laws_heldStringS_2, fun X K => iterL (t_laws_heldStringS_2 X K) fuel (X.1.2.1, X.1.2.2.2.1)⟩
noncomputable def L_laws_heldStringS : Lam := (Lam.nil).add 2 l_laws_heldStringS_2
theorem lok_laws_heldStringS_2 : LOk E g_laws_heldStringS n_laws_heldStringS L_laws_heldStringS (loopBody Tryz.f40 0) :=
  lok l_laws_heldStringS_2 (by kernel_rfl) fuel fun R X K => (loop_iter (σ := Int × Int) (fun x => SD.enc d_laws_heldStringS_2 ((X.1.1, (x.1, (X.1.2.2.1, (x.2, ())))), (), ())) (t_laws_heldStringS_2 X K) (fun m x => by kernel_rfl) fuel (X.1.2.1, X.1.2.2.2.1)).symm
theorem ok_laws_heldStringS : FnOk Tryz.prog 40 e_laws_heldStringS := FnOk.of (fnOk (Γ := g_laws_heldStringS) (an := n_laws_heldStringS) (Λ := L_laws_heldStringS) ((base).add ok_laws_markText) Tryz.func40 (by kernel_rfl) (hF (by kernel_rfl) (cF lok_laws_heldStringS_2 nF))) (fun a => by kernel_rfl)
noncomputable def e_laws_heldSoft : GEnt := entOf [.data true TSoft, .data false (.int .i64)] [(false, (.int .i64))] fun a => Pu.laws_heldSoft a.1 a.2.1
theorem ok_laws_heldSoft : FnOk Tryz.prog 12 e_laws_heldSoft := FnOk.of (fnOk (an := {}) (Λ := Lam.nil) (((((base).add ok_laws_heldFilter).add ok_laws_heldSteering).add ok_laws_heldStreamS).add ok_laws_heldStringS) Tryz.func12 (by kernel_rfl) (hF (by kernel_rfl) nF)) (fun a => by kernel_rfl)
@[reducible] def s_laws_FnExactSoftSend : List PS := [.data true TSoft, .data true TPacket, .data false (.int .i64)]
noncomputable def e_laws_FnExactSoftSend : GEnt := entOf s_laws_FnExactSoftSend [(false, .bool)] fun a => Pu.laws_FnExactSoftSend a.1 a.2.1 a.2.2.1
theorem ok_laws_FnExactSoftSend : FnOk Tryz.prog 3 e_laws_FnExactSoftSend := FnOk.of (fnOk (an := { merge := fun | 17 => some 57 | _ => none }) (Λ := Lam.nil) ((((((((((base).add ok_laws_szSoft).add ok_laws_szPacket).add ok_spec_SoftSend).add ok_laws_toSoft).add ok_laws_toPacket).add ok_impl_SoftSend).add ok_laws_eqSoft).add ok_laws_markSoft).add ok_laws_heldSoft) Tryz.func3 (by kernel_rfl) (hF (by kernel_rfl) nF)) (fun a => by kernel_rfl)

end Go.Proofs.YtdkhimfkfepnjabGreat.Fn
