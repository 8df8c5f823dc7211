import Derived.Test.YthnncngicmfmjaaGreatDnSig
import Derived.Test.YthnncngicmfmjaaGreatPure
import Derived.Test.YthnncngicmfmjaaGreatRows
/- Each function of the program is its pure function (made by gen.py). -/
namespace Go.Proofs.YthnncngicmfmjaaGreat.Fn
open Go.Dn
open Go.Pu (TFilter TRule TFlow TSlot TSteering TStream TSoft TBucket TVirtualFunction TMailbox TIdeal TPort TSpread)
set_option maxRecDepth 100000
abbrev B : PD := .bot
abbrev DI : PD := .data false (.int .i64)
abbrev DB : PD := .data false .bool
abbrev Z : Option FT := none
theorem nF {p : Code → Prop} : ∀ x ∈ ([] : List Code), p x := fun _ h => nomatch h
theorem cF {p : Code → Prop} {a : Code} {l : List Code} (h : p a) (t : ∀ x ∈ l, p x) : ∀ x ∈ a :: l, p x := List.forall_mem_cons.2 ⟨h, t⟩
theorem hF {p : Code → Prop} {l m : List Code} (e : l = m) (h : ∀ x ∈ m, p x) : ∀ x ∈ l, p x := e ▸ h
def E : Env := { ty := [(3, ⟨false, (.int .i64), []⟩),
  (4, ⟨false, .bool, []⟩),
  (9, ⟨false, .str, []⟩),
  (22, ⟨false, (.sl TSoft), [(92, 0)]⟩),
  (23, ⟨false, (.sl (.sl .str)), [(26, 0)]⟩),
  (24, ⟨false, (.sl TVirtualFunction), [(110, 0)]⟩),
  (25, ⟨false, (.sl TMailbox), [(95, 0)]⟩),
  (26, ⟨false, (.sl .str), [(9, 0)]⟩),
  (28, ⟨true, TIdeal, [(0, 1), (1, 1), (2, 1), (3, 1), (4, 1)]⟩),
  (31, ⟨false, (.sl TSoft), [(62, 0)]⟩),
  (32, ⟨false, (.sl TVirtualFunction), [(69, 0)]⟩),
  (33, ⟨false, (.sl TMailbox), [(65, 0)]⟩),
  (35, ⟨true, TIdeal, [(0, 1), (1, 1), (2, 1), (3, 1), (4, 1)]⟩),
  (44, ⟨false, (.sl TPort), [(98, 0)]⟩),
  (49, ⟨false, (.sl (.int .i64)), [(3, 0)]⟩),
  (51, ⟨true, TFilter, [(0, 1), (1, 1), (2, 1)]⟩),
  (52, ⟨false, (.sl TRule), [(124, 0)]⟩),
  (53, ⟨false, (.sl TSlot), [(128, 0)]⟩),
  (55, ⟨true, (.sl TSlot), [(0, 1)]⟩),
  (57, ⟨true, TSpread, [(0, 1), (1, 1)]⟩),
  (59, ⟨true, TSteering, [(0, 1), (1, 1), (2, 2)]⟩),
  (60, ⟨false, (.sl TStream), [(154, 0)]⟩),
  (62, ⟨true, TSoft, [(0, 3), (3, 4), (7, 1), (8, 1), (9, 1)]⟩),
  (65, ⟨true, TMailbox, [(0, 3), (3, 1), (4, 1), (5, 1)]⟩),
  (67, ⟨true, TBucket, [(0, 1), (1, 1), (2, 1)]⟩),
  (69, ⟨true, TVirtualFunction, [(0, 1), (1, 1), (2, 3), (5, 1), (6, 1), (7, 1)]⟩),
  (82, ⟨true, TFilter, [(0, 1), (1, 1), (2, 1)]⟩),
  (83, ⟨false, (.sl TRule), [(164, 0)]⟩),
  (84, ⟨false, (.sl TSlot), [(172, 0)]⟩),
  (86, ⟨true, (.sl TSlot), [(0, 1)]⟩),
  (87, ⟨true, TSpread, [(0, 1), (1, 1)]⟩),
  (89, ⟨true, TSteering, [(0, 1), (1, 1), (2, 2)]⟩),
  (90, ⟨false, (.sl TStream), [(145, 0)]⟩),
  (92, ⟨true, TSoft, [(0, 3), (3, 4), (7, 1), (8, 1), (9, 1)]⟩),
  (95, ⟨true, TMailbox, [(0, 3), (3, 1), (4, 1), (5, 1)]⟩),
  (98, ⟨true, TPort, [(0, 1), (1, 1), (2, 1), (3, 1)]⟩),
  (108, ⟨true, TBucket, [(0, 1), (1, 1), (2, 1)]⟩),
  (110, ⟨true, TVirtualFunction, [(0, 1), (1, 1), (2, 3), (5, 1), (6, 1), (7, 1)]⟩),
  (124, ⟨true, TRule, [(0, 1), (1, 1), (2, 1), (3, 1), (4, 1), (5, 1), (6, 1), (7, 1), (8, 1)]⟩),
  (126, ⟨true, TFlow, [(0, 1), (1, 1), (2, 1), (3, 1), (4, 1)]⟩),
  (128, ⟨true, TSlot, [(0, 1), (1, 5), (6, 1)]⟩),
  (143, ⟨true, TFlow, [(0, 1), (1, 1), (2, 1), (3, 1), (4, 1)]⟩),
  (145, ⟨true, TStream, [(0, 5), (5, 1), (6, 1), (7, 1)]⟩),
  (154, ⟨true, TStream, [(0, 5), (5, 1), (6, 1), (7, 1)]⟩),
  (164, ⟨true, TRule, [(0, 1), (1, 1), (2, 1), (3, 1), (4, 1), (5, 1), (6, 1), (7, 1), (8, 1)]⟩),
  (172, ⟨true, TSlot, [(0, 1), (1, 5), (6, 1)]⟩)], eqs := [(126, [.int, .int, .int, .int, .int])] }
theorem base : Sound Tryz.prog E Gam.nil := Sound.nil (lookE_ok (by kernel_rfl)) (lookQ_ok (by kernel_rfl)) (by kernel_rfl)
noncomputable def e_laws_szStringS : GEnt := entOf [.data false (.sl .str), .data false (.int .i64)] [(false, (.int .i64))] fun a => Pu.laws_szStringS a.1 a.2.1
noncomputable def g_laws_szStringS : Gam := Gam.nil
def n_laws_szStringS : An := { mask := fun | 5 => [0, 1, 4, 5] | _ => [] }
@[reducible] def d_laws_szStringS_5 : SD := ⟨[.data false (.sl .arg .str),DI,B,B,DI,DI,B,B,B,B,B,B,B,B,B,B,B,B,B,B,B,B,B,B,B,B,B,B], [Z,Z,Z,Z,Z,Z,Z,Z,Z,Z,Z,Z,Z,Z,Z,Z,Z,Z,Z,Z,Z,Z,Z,Z,Z,Z,Z,Z], none⟩
noncomputable def t_laws_szStringS_5 {R : Type} (X : SD.D d_laws_szStringS_5) (K : Ex → AS → Option R) := Pu.laws_szStringS_T5 (fun y0 y1 => K (.exit 0) (SD.enc d_laws_szStringS_5 ((X.1.1, (y0, (X.1.2.2.1, (y1, ())))), (), ()))) (fun y0 y1 y2 => K .ret (SD.enc d_laws_szStringS_5 ((X.1.1, (y0, (y1, (y2, ())))), (), ()))) X.1.1 X.1.2.2.1
noncomputable def l_laws_szStringS_5 : LEnt := ⟨d_laws_szStringS_5, fun X K => iterL (t_laws_szStringS_5 X K) fuel (X.1.2.1, X.1.2.2.2.1)⟩
noncomputable def L_laws_szStringS : Lam := (Lam.nil).add 5 l_laws_szStringS_5
theorem lok_laws_szStringS_5 : LOk E g_laws_szStringS n_laws_szStringS L_laws_szStringS (loopBody Tryz.f13 0) :=
  lok l_laws_szStringS_5 (by kernel_rfl) fuel fun R X K => (loop_iter (σ := Int × Int) (fun x => SD.enc d_laws_szStringS_5 ((X.1.1, (x.1, (X.1.2.2.1, (x.2, ())))), (), ())) (t_laws_szStringS_5 X K) (fun m x => by kernel_rfl) fuel (X.1.2.1, X.1.2.2.2.1)).symm
theorem ok_laws_szStringS : FnOk Tryz.prog 13 e_laws_szStringS := FnOk.of (fnOk (Γ := g_laws_szStringS) (an := n_laws_szStringS) (Λ := L_laws_szStringS) (base) Tryz.func13 (by kernel_rfl) (hF (by kernel_rfl) (cF lok_laws_szStringS_5 nF))) (fun a => by kernel_rfl)
noncomputable def e_laws_szIntS : GEnt := entOf [.data false (.sl (.int .i64)), .data false (.int .i64)] [(false, (.int .i64))] fun a => Pu.laws_szIntS a.1 a.2.1
theorem ok_laws_szIntS : FnOk Tryz.prog 78 e_laws_szIntS := FnOk.of (fnOk (an := {}) (Λ := Lam.nil) (base) Tryz.func78 (by kernel_rfl) (hF (by kernel_rfl) nF)) (fun a => by kernel_rfl)
noncomputable def e_laws_szFilter : GEnt := entOf [.data true TFilter, .data false (.int .i64)] [(false, (.int .i64))] fun a => Pu.laws_szFilter a.1 a.2.1
theorem ok_laws_szFilter : FnOk Tryz.prog 58 e_laws_szFilter := FnOk.of (fnOk (an := {}) (Λ := Lam.nil) ((base).add ok_laws_szIntS) Tryz.func58 (by kernel_rfl) (hF (by kernel_rfl) nF)) (fun a => by kernel_rfl)
noncomputable def e_laws_szRuleS : GEnt := entOf [.data false (.sl TRule), .data false (.int .i64)] [(false, (.int .i64))] fun a => Pu.laws_szRuleS a.1 a.2.1
theorem ok_laws_szRuleS : FnOk Tryz.prog 79 e_laws_szRuleS := FnOk.of (fnOk (an := {}) (Λ := Lam.nil) (base) Tryz.func79 (by kernel_rfl) (hF (by kernel_rfl) nF)) (fun a => by kernel_rfl)
noncomputable def e_laws_szSlotS : GEnt := entOf [.data false (.sl TSlot), .data false (.int .i64)] [(false, (.int .i64))] fun a => Pu.laws_szSlotS a.1 a.2.1
theorem ok_laws_szSlotS : FnOk Tryz.prog 100 e_laws_szSlotS := FnOk.of (fnOk (an := {}) (Λ := Lam.nil) (base) Tryz.func100 (by kernel_rfl) (hF (by kernel_rfl) nF)) (fun a => by kernel_rfl)
noncomputable def e_laws_szFlowTable : GEnt := entOf [.data true (.sl TSlot), .data false (.int .i64)] [(false, (.int .i64))] fun a => Pu.laws_szFlowTable a.1 a.2.1
theorem ok_laws_szFlowTable : FnOk Tryz.prog 80 e_laws_szFlowTable := FnOk.of (fnOk (an := {}) (Λ := Lam.nil) ((base).add ok_laws_szSlotS) Tryz.func80 (by kernel_rfl) (hF (by kernel_rfl) nF)) (fun a => by kernel_rfl)
noncomputable def e_laws_szSpread : GEnt := entOf [.data true TSpread, .data false (.int .i64)] [(false, (.int .i64))] fun a => Pu.laws_szSpread a.1 a.2.1
theorem ok_laws_szSpread : FnOk Tryz.prog 81 e_laws_szSpread := FnOk.of (fnOk (an := {}) (Λ := Lam.nil) ((base).add ok_laws_szIntS) Tryz.func81 (by kernel_rfl) (hF (by kernel_rfl) nF)) (fun a => by kernel_rfl)
noncomputable def e_laws_szSteering : GEnt := entOf [.data true TSteering, .data false (.int .i64)] [(false, (.int .i64))] fun a => Pu.laws_szSteering a.1 a.2.1
theorem ok_laws_szSteering : FnOk Tryz.prog 59 e_laws_szSteering := FnOk.of (fnOk (an := {}) (Λ := Lam.nil) ((((base).add ok_laws_szRuleS).add ok_laws_szFlowTable).add ok_laws_szSpread) Tryz.func59 (by kernel_rfl) (hF (by kernel_rfl) nF)) (fun a => by kernel_rfl)
noncomputable def e_laws_szStream : GEnt := entOf [.data true TStream, .data false (.int .i64)] [(false, (.int .i64))] fun a => Pu.laws_szStream a.1 a.2.1
theorem ok_laws_szStream : FnOk Tryz.prog 82 e_laws_szStream := FnOk.of (fnOk (an := {}) (Λ := Lam.nil) (base) Tryz.func82 (by kernel_rfl) (hF (by kernel_rfl) nF)) (fun a => by kernel_rfl)
noncomputable def e_laws_szStreamS : GEnt := entOf [.data false (.sl TStream), .data false (.int .i64)] [(false, (.int .i64))] fun a => Pu.laws_szStreamS a.1 a.2.1
noncomputable def g_laws_szStreamS : Gam := (Gam.nil).add 82 e_laws_szStream
def n_laws_szStreamS : An := { mask := fun | 5 => [0, 1, 4, 5] | _ => [] }
@[reducible] def d_laws_szStreamS_5 : SD := ⟨[.data false (.sl .arg TStream),DI,B,B,DI,DI,B,B,B,B,B,B,B,B,B,B,B,B,B,B,B,B,B,B,B,B,B], [Z,Z,Z,Z,Z,Z,Z,Z,Z,Z,Z,Z,Z,Z,Z,Z,Z,Z,Z,Z,Z,Z,Z,Z,Z,Z,Z], none⟩
noncomputable def t_laws_szStreamS_5 {R : Type} (X : SD.D d_laws_szStreamS_5) (K : Ex → AS → Option R) := Pu.laws_szStreamS_T5 (fun y0 y1 => K (.exit 0) (SD.enc d_laws_szStreamS_5 ((X.1.1, (y0, (X.1.2.2.1, (y1, ())))), (), ()))) (fun y0 y1 y2 => K .ret (SD.enc d_laws_szStreamS_5 ((X.1.1, (y0, (y1, (y2, ())))), (), ()))) X.1.1 X.1.2.2.1
noncomputable def l_laws_szStreamS_5 : LEnt := ⟨d_laws_szStreamS_5, fun X K => iterL (t_laws_szStreamS_5 X K) fuel (X.1.2.1, X.1.2.2.2.1)⟩
noncomputable def L_laws_szStreamS : Lam := (Lam.nil).add 5 l_laws_szStreamS_5
theorem lok_laws_szStreamS_5 : LOk E g_laws_szStreamS n_laws_szStreamS L_laws_szStreamS (loopBody Tryz.f60 0) :=
  lok l_laws_szStreamS_5 (by kernel_rfl) fuel fun R X K => (loop_iter (σ := Int × Int) (fun x => SD.enc d_laws_szStreamS_5 ((X.1.1, (x.1, (X.1.2.2.1, (x.2, ())))), (), ())) (t_laws_szStreamS_5 X K) (fun m x => by kernel_rfl) fuel (X.1.2.1, X.1.2.2.2.1)).symm
theorem ok_laws_szStreamS : FnOk Tryz.prog 60 e_laws_szStreamS := FnOk.of (fnOk (Γ := g_laws_szStreamS) (an := n_laws_szStreamS) (Λ := L_laws_szStreamS) ((base).add ok_laws_szStream) Tryz.func60 (by kernel_rfl) (hF (by kernel_rfl) (cF lok_laws_szStreamS_5 nF))) (fun a => by kernel_rfl)
noncomputable def e_laws_szSoft : GEnt := entOf [.data true TSoft, .data false (.int .i64)] [(false, (.int .i64))] fun a => Pu.laws_szSoft a.1 a.2.1
theorem ok_laws_szSoft : FnOk Tryz.prog 33 e_laws_szSoft := FnOk.of (fnOk (an := {}) (Λ := Lam.nil) (((((base).add ok_laws_szStringS).add ok_laws_szFilter).add ok_laws_szSteering).add ok_laws_szStreamS) Tryz.func33 (by kernel_rfl) (hF (by kernel_rfl) nF)) (fun a => by kernel_rfl)
noncomputable def e_laws_szSoftS : GEnt := entOf [.data false (.sl TSoft), .data false (.int .i64)] [(false, (.int .i64))] fun a => Pu.laws_szSoftS a.1 a.2.1
noncomputable def g_laws_szSoftS : Gam := (Gam.nil).add 33 e_laws_szSoft
def n_laws_szSoftS : An := { mask := fun | 5 => [0, 1, 4, 5] | _ => [] }
@[reducible] def d_laws_szSoftS_5 : SD := ⟨[.data false (.sl .arg TSoft),DI,B,B,DI,DI,B,B,B,B,B,B,B,B,B,B,B,B,B,B,B,B,B,B,B,B,B], [Z,Z,Z,Z,Z,Z,Z,Z,Z,Z,Z,Z,Z,Z,Z,Z,Z,Z,Z,Z,Z,Z,Z,Z,Z,Z,Z], none⟩
noncomputable def t_laws_szSoftS_5 {R : Type} (X : SD.D d_laws_szSoftS_5) (K : Ex → AS → Option R) := Pu.laws_szSoftS_T5 (fun y0 y1 => K (.exit 0) (SD.enc d_laws_szSoftS_5 ((X.1.1, (y0, (X.1.2.2.1, (y1, ())))), (), ()))) (fun y0 y1 y2 => K .ret (SD.enc d_laws_szSoftS_5 ((X.1.1, (y0, (y1, (y2, ())))), (), ()))) X.1.1 X.1.2.2.1
noncomputable def l_laws_szSoftS_5 : LEnt := ⟨d_laws_szSoftS_5, fun X K => iterL (t_laws_szSoftS_5 X K) fuel (X.1.2.1, X.1.2.2.2.1)⟩
noncomputable def L_laws_szSoftS : Lam := (Lam.nil).add 5 l_laws_szSoftS_5
theorem lok_laws_szSoftS_5 : LOk E g_laws_szSoftS n_laws_szSoftS L_laws_szSoftS (loopBody Tryz.f9 0) :=
  lok l_laws_szSoftS_5 (by kernel_rfl) fuel fun R X K => (loop_iter (σ := Int × Int) (fun x => SD.enc d_laws_szSoftS_5 ((X.1.1, (x.1, (X.1.2.2.1, (x.2, ())))), (), ())) (t_laws_szSoftS_5 X K) (fun m x => by kernel_rfl) fuel (X.1.2.1, X.1.2.2.2.1)).symm
theorem ok_laws_szSoftS : FnOk Tryz.prog 9 e_laws_szSoftS := FnOk.of (fnOk (Γ := g_laws_szSoftS) (an := n_laws_szSoftS) (Λ := L_laws_szSoftS) ((base).add ok_laws_szSoft) Tryz.func9 (by kernel_rfl) (hF (by kernel_rfl) (cF lok_laws_szSoftS_5 nF))) (fun a => by kernel_rfl)
noncomputable def e_laws_szStringSS : GEnt := entOf [.data false (.sl (.sl .str)), .data false (.int .i64)] [(false, (.int .i64))] fun a => Pu.laws_szStringSS a.1 a.2.1
noncomputable def g_laws_szStringSS : Gam := (Gam.nil).add 13 e_laws_szStringS
def n_laws_szStringSS : An := { mask := fun | 5 => [0, 1, 4, 5] | _ => [] }
@[reducible] def d_laws_szStringSS_5 : SD := ⟨[.data false (.sl .arg (.sl .str)),DI,B,B,DI,DI,B,B,B,B,B,B,B,B,B,B,B,B,B,B,B,B,B,B,B,B,B], [Z,Z,Z,Z,Z,Z,Z,Z,Z,Z,Z,Z,Z,Z,Z,Z,Z,Z,Z,Z,Z,Z,Z,Z,Z,Z,Z], none⟩
noncomputable def t_laws_szStringSS_5 {R : Type} (X : SD.D d_laws_szStringSS_5) (K : Ex → AS → Option R) := Pu.laws_szStringSS_T5 (fun y0 y1 => K (.exit 0) (SD.enc d_laws_szStringSS_5 ((X.1.1, (y0, (X.1.2.2.1, (y1, ())))), (), ()))) (fun y0 y1 y2 => K .ret (SD.enc d_laws_szStringSS_5 ((X.1.1, (y0, (y1, (y2, ())))), (), ()))) X.1.1 X.1.2.2.1
noncomputable def l_laws_szStringSS_5 : LEnt := ⟨d_laws_szStringSS_5, fun X K => iterL (t_laws_szStringSS_5 X K) fuel (X.1.2.1, X.1.2.2.2.1)⟩
noncomputable def L_laws_szStringSS : Lam := (Lam.nil).add 5 l_laws_szStringSS_5
theorem lok_laws_szStringSS_5 : LOk E g_laws_szStringSS n_laws_szStringSS L_laws_szStringSS (loopBody Tryz.f10 0) :=
  lok l_laws_szStringSS_5 (by kernel_rfl) fuel fun R X K => (loop_iter (σ := Int × Int) (fun x => SD.enc d_laws_szStringSS_5 ((X.1.1, (x.1, (X.1.2.2.1, (x.2, ())))), (), ())) (t_laws_szStringSS_5 X K) (fun m x => by kernel_rfl) fuel (X.1.2.1, X.1.2.2.2.1)).symm
theorem ok_laws_szStringSS : FnOk Tryz.prog 10 e_laws_szStringSS := FnOk.of (fnOk (Γ := g_laws_szStringSS) (an := n_laws_szStringSS) (Λ := L_laws_szStringSS) ((base).add ok_laws_szStringS) Tryz.func10 (by kernel_rfl) (hF (by kernel_rfl) (cF lok_laws_szStringSS_5 nF))) (fun a => by kernel_rfl)
noncomputable def e_laws_szVirtualFunctionS : GEnt := entOf [.data false (.sl TVirtualFunction), .data false (.int .i64)] [(false, (.int .i64))] fun a => Pu.laws_szVirtualFunctionS a.1 a.2.1
theorem ok_laws_szVirtualFunctionS : FnOk Tryz.prog 11 e_laws_szVirtualFunctionS := FnOk.of (fnOk (an := {}) (Λ := Lam.nil) (base) Tryz.func11 (by kernel_rfl) (hF (by kernel_rfl) nF)) (fun a => by kernel_rfl)
noncomputable def e_laws_szMailbox : GEnt := entOf [.data true TMailbox, .data false (.int .i64)] [(false, (.int .i64))] fun a => Pu.laws_szMailbox a.1 a.2.1
theorem ok_laws_szMailbox : FnOk Tryz.prog 34 e_laws_szMailbox := FnOk.of (fnOk (an := {}) (Λ := Lam.nil) ((base).add ok_laws_szFilter) Tryz.func34 (by kernel_rfl) (hF (by kernel_rfl) nF)) (fun a => by kernel_rfl)
noncomputable def e_laws_szMailboxS : GEnt := entOf [.data false (.sl TMailbox), .data false (.int .i64)] [(false, (.int .i64))] fun a => Pu.laws_szMailboxS a.1 a.2.1
noncomputable def g_laws_szMailboxS : Gam := (Gam.nil).add 34 e_laws_szMailbox
def n_laws_szMailboxS : An := { mask := fun | 5 => [0, 1, 4, 5] | _ => [] }
@[reducible] def d_laws_szMailboxS_5 : SD := ⟨[.data false (.sl .arg TMailbox),DI,B,B,DI,DI,B,B,B,B,B,B,B,B,B,B,B,B,B,B,B,B,B,B,B,B,B], [Z,Z,Z,Z,Z,Z,Z,Z,Z,Z,Z,Z,Z,Z,Z,Z,Z,Z,Z,Z,Z,Z,Z,Z,Z,Z,Z], none⟩
noncomputable def t_laws_szMailboxS_5 {R : Type} (X : SD.D d_laws_szMailboxS_5) (K : Ex → AS → Option R) := Pu.laws_szMailboxS_T5 (fun y0 y1 => K (.exit 0) (SD.enc d_laws_szMailboxS_5 ((X.1.1, (y0, (X.1.2.2.1, (y1, ())))), (), ()))) (fun y0 y1 y2 => K .ret (SD.enc d_laws_szMailboxS_5 ((X.1.1, (y0, (y1, (y2, ())))), (), ()))) X.1.1 X.1.2.2.1
noncomputable def l_laws_szMailboxS_5 : LEnt := ⟨d_laws_szMailboxS_5, fun X K => iterL (t_laws_szMailboxS_5 X K) fuel (X.1.2.1, X.1.2.2.2.1)⟩
noncomputable def L_laws_szMailboxS : Lam := (Lam.nil).add 5 l_laws_szMailboxS_5
theorem lok_laws_szMailboxS_5 : LOk E g_laws_szMailboxS n_laws_szMailboxS L_laws_szMailboxS (loopBody Tryz.f12 0) :=
  lok l_laws_szMailboxS_5 (by kernel_rfl) fuel fun R X K => (loop_iter (σ := Int × Int) (fun x => SD.enc d_laws_szMailboxS_5 ((X.1.1, (x.1, (X.1.2.2.1, (x.2, ())))), (), ())) (t_laws_szMailboxS_5 X K) (fun m x => by kernel_rfl) fuel (X.1.2.1, X.1.2.2.2.1)).symm
theorem ok_laws_szMailboxS : FnOk Tryz.prog 12 e_laws_szMailboxS := FnOk.of (fnOk (Γ := g_laws_szMailboxS) (an := n_laws_szMailboxS) (Λ := L_laws_szMailboxS) ((base).add ok_laws_szMailbox) Tryz.func12 (by kernel_rfl) (hF (by kernel_rfl) (cF lok_laws_szMailboxS_5 nF))) (fun a => by kernel_rfl)
noncomputable def e_laws_szIdeal : GEnt := entOf [.data true TIdeal, .data false (.int .i64)] [(false, (.int .i64))] fun a => Pu.laws_szIdeal a.1 a.2.1
theorem ok_laws_szIdeal : FnOk Tryz.prog 4 e_laws_szIdeal := FnOk.of (fnOk (an := {}) (Λ := Lam.nil) ((((((base).add ok_laws_szSoftS).add ok_laws_szStringSS).add ok_laws_szVirtualFunctionS).add ok_laws_szMailboxS).add ok_laws_szStringS) Tryz.func4 (by kernel_rfl) (hF (by kernel_rfl) nF)) (fun a => by kernel_rfl)
noncomputable def e_spec_l01In : GEnt := entOf [.data false (.int .i64), .data false (.int .i64), .data false (.int .i64)] [(false, .bool)] fun a => Pu.spec_l01In a.1 a.2.1 a.2.2.1
theorem ok_spec_l01In : FnOk Tryz.prog 35 e_spec_l01In := FnOk.of (fnOk (an := { merge := fun | 1 => some 6 | _ => none }) (Λ := Lam.nil) (base) Tryz.func35 (by kernel_rfl) (hF (by kernel_rfl) nF)) (fun a => by kernel_rfl)
noncomputable def e_spec_FilterOk : GEnt := entOf [.data true TFilter] [(false, .bool)] fun a => Pu.spec_FilterOk a.1
noncomputable def g_spec_FilterOk : Gam := (Gam.nil).add 35 e_spec_l01In
def n_spec_FilterOk : An := { mask := fun | 2 => [1, 2, 3] | _ => [], merge := fun | 4 => some 35 | 6 => some 2 | _ => none }
@[reducible] def d_spec_FilterOk_2 : SD := ⟨[B,.ptr 1 0,DB,DI,B,B,B,B,B,B,B,B,B,B,B,B,B,B,B,B,B,B,B,B,B,B,B,B,B,B,B,B,B,B,B,B,B,B,B,B,B,B,B,B,B], [Z,some (.pair (.int .i64) (.pair .bool (.sl .arg (.int .i64)))),Z,Z,Z,Z,Z,Z,Z,Z,Z,Z,Z,Z,Z,Z,Z,Z,Z,Z,Z,Z,Z,Z,Z,Z,Z,Z,Z,Z,Z,Z,Z,Z,Z,Z,Z,Z,Z,Z,Z,Z,Z,Z,Z], none⟩
noncomputable def t_spec_FilterOk_2 {R : Type} (X : SD.D d_spec_FilterOk_2) (K : Ex → AS → Option R) := Pu.spec_FilterOk_T2 (fun y0 => K (.exit 0) (SD.enc d_spec_FilterOk_2 ((X.1.1, (y0, ())), (X.2.1.1, ()), ()))) (fun y0 y1 => K .ret (SD.enc d_spec_FilterOk_2 ((y0, (y1, ())), (X.2.1.1, ()), ()))) X.1.1 X.2.1.1
noncomputable def l_spec_FilterOk_2 : LEnt := ⟨d_spec_FilterOk_2, fun X K => iterL (t_spec_FilterOk_2 X K) fuel X.1.2.1⟩
noncomputable def L_spec_FilterOk : Lam := (Lam.nil).add 2 l_spec_FilterOk_2
theorem lok_spec_FilterOk_2 : LOk E g_spec_FilterOk n_spec_FilterOk L_spec_FilterOk (loopBody Tryz.f40 0) :=
  lok l_spec_FilterOk_2 (by kernel_rfl) fuel fun R X K => (loop_iter (σ := Int) (fun x => SD.enc d_spec_FilterOk_2 ((X.1.1, (x, ())), (X.2.1.1, ()), ())) (t_spec_FilterOk_2 X K) (fun m x => by kernel_rfl) fuel X.1.2.1).symm
theorem ok_spec_FilterOk : FnOk Tryz.prog 40 e_spec_FilterOk := FnOk.of (fnOk (Γ := g_spec_FilterOk) (an := n_spec_FilterOk) (Λ := L_spec_FilterOk) ((base).add ok_spec_l01In) Tryz.func40 (by kernel_rfl) (hF (by kernel_rfl) (cF lok_spec_FilterOk_2 nF))) (fun a => by kernel_rfl)
noncomputable def e_spec_MailboxOk : GEnt := entOf [.data true TMailbox] [(false, .bool)] fun a => Pu.spec_MailboxOk a.1
theorem ok_spec_MailboxOk : FnOk Tryz.prog 36 e_spec_MailboxOk := FnOk.of (fnOk (an := { merge := fun | 1 => some 2 | _ => none }) (Λ := Lam.nil) (((base).add ok_spec_l01In).add ok_spec_FilterOk) Tryz.func36 (by kernel_rfl) (hF (by kernel_rfl) nF)) (fun a => by kernel_rfl)
noncomputable def e_spec_l24Has : GEnt := entOf [.data false (.sl (.int .i64)), .data false (.int .i64)] [(false, .bool)] fun a => Pu.spec_l24Has a.1 a.2.1
noncomputable def g_spec_l24Has : Gam := Gam.nil
def n_spec_l24Has : An := { mask := fun | 2 => [0, 1, 4, 5] | _ => [] }
@[reducible] def d_spec_l24Has_2 : SD := ⟨[.data false (.sl .arg (.int .i64)),DI,B,B,DB,DI,B,B,B,B,B,B,B,B,B,B,B,B], [Z,Z,Z,Z,Z,Z,Z,Z,Z,Z,Z,Z,Z,Z,Z,Z,Z,Z], none⟩
noncomputable def t_spec_l24Has_2 {R : Type} (X : SD.D d_spec_l24Has_2) (K : Ex → AS → Option R) := Pu.spec_l24Has_T2 (fun y0 => K (.exit 0) (SD.enc d_spec_l24Has_2 ((X.1.1, (X.1.2.1, (X.1.2.2.1, (y0, ())))), (), ()))) (fun y0 y1 => K .ret (SD.enc d_spec_l24Has_2 ((X.1.1, (X.1.2.1, (y0, (y1, ())))), (), ()))) X.1.1 X.1.2.1 X.1.2.2.1
noncomputable def l_spec_l24Has_2 : LEnt := ⟨d_spec_l24Has_2, fun X K => iterL (t_spec_l24Has_2 X K) fuel X.1.2.2.2.1⟩
noncomputable def L_spec_l24Has : Lam := (Lam.nil).add 2 l_spec_l24Has_2
theorem lok_spec_l24Has_2 : LOk E g_spec_l24Has n_spec_l24Has L_spec_l24Has (loopBody Tryz.f61 0) :=
  lok l_spec_l24Has_2 (by kernel_rfl) fuel fun R X K => (loop_iter (σ := Int) (fun x => SD.enc d_spec_l24Has_2 ((X.1.1, (X.1.2.1, (X.1.2.2.1, (x, ())))), (), ())) (t_spec_l24Has_2 X K) (fun m x => by kernel_rfl) fuel X.1.2.2.2.1).symm
theorem ok_spec_l24Has : FnOk Tryz.prog 61 e_spec_l24Has := FnOk.of (fnOk (Γ := g_spec_l24Has) (an := n_spec_l24Has) (Λ := L_spec_l24Has) (base) Tryz.func61 (by kernel_rfl) (hF (by kernel_rfl) (cF lok_spec_l24Has_2 nF))) (fun a => by kernel_rfl)
noncomputable def e_spec_l42Union : GEnt := entOf [.data false (.sl (.int .i64)), .data false (.sl (.int .i64))] [(false, (.sl (.own none) (.int .i64)))] fun a => Pu.spec_l42Union a.1 a.2.1
noncomputable def g_spec_l42Union : Gam := (Gam.nil).add 61 e_spec_l24Has
def n_spec_l42Union : An := { mask := fun | 3 => [1, 5, 6] | 7 => [1, 5, 6, 7] | _ => [], merge := fun | 7 => some 37 | _ => none, mv := [55] }
@[reducible] def d_spec_l42Union_7 : SD := ⟨[B,.data false (.sl .arg (.int .i64)),B,B,B,.data false (.sl (.own (some 61440)) (.int .i64)),DI,DI,B,B,B,B,B,B,B,B,B,B,B,B,B,B,B,B,B,B,B,B,B,B,B,B,B,B,B,B,B,B,B,B,B,B,B,B,B,B,B,B,B,B,B,B,B,B,B,B], [Z,Z,Z,Z,Z,Z,Z,Z,Z,Z,Z,Z,Z,Z,Z,Z,Z,Z,Z,Z,Z,Z,Z,Z,Z,Z,Z,Z,Z,Z,Z,Z,Z,Z,Z,Z,Z,Z,Z,Z,Z,Z,Z,Z,Z,Z,Z,Z,Z,Z,Z,Z,Z,Z,Z,Z], none⟩
noncomputable def t_spec_l42Union_7 {R : Type} (X : SD.D d_spec_l42Union_7) (K : Ex → AS → Option R) := Pu.spec_l42Union_T7 (fun y0 => K (.exit 2) (SD.enc d_spec_l42Union_7 ((X.1.1, (X.1.2.1, (X.1.2.2.1, (y0, ())))), (), ()))) X.1.1 X.1.2.1 X.1.2.2.1
noncomputable def l_spec_l42Union_7 : LEnt := ⟨d_spec_l42Union_7, fun X K => iterL (t_spec_l42Union_7 X K) fuel X.1.2.2.2.1⟩
@[reducible] def d_spec_l42Union_3 : SD := ⟨[B,.data false (.sl .arg (.int .i64)),B,B,B,.data false (.sl (.own (some 61440)) (.int .i64)),DI,B,B,B,B,B,B,B,B,B,B,B,B,B,B,B,B,B,B,B,B,B,B,B,B,B,B,B,B,B,B,B,B,B,B,B,B,B,B,B,B,B,B,B,B,B,B,B,B,B], [Z,Z,Z,Z,Z,Z,Z,Z,Z,Z,Z,Z,Z,Z,Z,Z,Z,Z,Z,Z,Z,Z,Z,Z,Z,Z,Z,Z,Z,Z,Z,Z,Z,Z,Z,Z,Z,Z,Z,Z,Z,Z,Z,Z,Z,Z,Z,Z,Z,Z,Z,Z,Z,Z,Z,Z], none⟩
noncomputable def t_spec_l42Union_3 {R : Type} (X : SD.D d_spec_l42Union_3) (K : Ex → AS → Option R) := Pu.spec_l42Union_T3 (fun y0 y1 => K (.exit 0) (SD.enc d_spec_l42Union_3 ((X.1.1, (y0, (y1, ()))), (), ()))) X.1.1
noncomputable def l_spec_l42Union_3 : LEnt := ⟨d_spec_l42Union_3, fun X K => iterL (t_spec_l42Union_3 X K) fuel (X.1.2.1, X.1.2.2.1)⟩
noncomputable def L_spec_l42Union : Lam := ((Lam.nil).add 7 l_spec_l42Union_7).add 3 l_spec_l42Union_3
theorem lok_spec_l42Union_7 : LOk E g_spec_l42Union n_spec_l42Union L_spec_l42Union (loopBody Tryz.f37 1) :=
  lok l_spec_l42Union_7 (by kernel_rfl) fuel fun R X K => (loop_iter (σ := Int) (fun x => SD.enc d_spec_l42Union_7 ((X.1.1, (X.1.2.1, (X.1.2.2.1, (x, ())))), (), ())) (t_spec_l42Union_7 X K) (fun m x => by kernel_rfl) fuel X.1.2.2.2.1).symm
theorem lok_spec_l42Union_3 : LOk E g_spec_l42Union n_spec_l42Union L_spec_l42Union (loopBody Tryz.f37 0) :=
  lok l_spec_l42Union_3 (by kernel_rfl) fuel fun R X K => (loop_iter (σ := (List Int) × Int) (fun x => SD.enc d_spec_l42Union_3 ((X.1.1, (x.1, (x.2, ()))), (), ())) (t_spec_l42Union_3 X K) (fun m x => by kernel_rfl) fuel (X.1.2.1, X.1.2.2.1)).symm
theorem ok_spec_l42Union : FnOk Tryz.prog 37 e_spec_l42Union := FnOk.of (fnOk (Γ := g_spec_l42Union) (an := n_spec_l42Union) (Λ := L_spec_l42Union) ((base).add ok_spec_l24Has) Tryz.func37 (by kernel_rfl) (hF (by kernel_rfl) (cF lok_spec_l42Union_3 (cF lok_spec_l42Union_7 nF)))) (fun a => by kernel_rfl)
noncomputable def e_spec_PortsOk : GEnt := entOf [.data false (.sl TPort)] [(false, .bool)] fun a => Pu.spec_PortsOk a.1
noncomputable def g_spec_PortsOk : Gam := (((Gam.nil).add 35 e_spec_l01In).add 40 e_spec_FilterOk).add 61 e_spec_l24Has
def n_spec_PortsOk : An := { mask := fun | 4 => [0, 2, 3] | 9 => [0, 2, 3, 4] | _ => [] }
@[reducible] def d_spec_PortsOk_9 : SD := ⟨[.data false (.sl .arg TPort),B,DB,DI,DI,B,B,B,B,B,B,B,B,B,B,B,B,B,B,B,B,B,B,B,B,B,B,B,B,B,B,B,B,B,B,B,B,B,B,B,B,B,B,B,B,B,B,B,B,B,B,B,B,B,B,B,B,B], [Z,Z,Z,Z,Z,Z,Z,Z,Z,Z,Z,Z,Z,Z,Z,Z,Z,Z,Z,Z,Z,Z,Z,Z,Z,Z,Z,Z,Z,Z,Z,Z,Z,Z,Z,Z,Z,Z,Z,Z,Z,Z,Z,Z,Z,Z,Z,Z,Z,Z,Z,Z,Z,Z,Z,Z,Z,Z], none⟩
noncomputable def t_spec_PortsOk_9 {R : Type} (X : SD.D d_spec_PortsOk_9) (K : Ex → AS → Option R) := Pu.spec_PortsOk_T9 (fun y0 => K (.exit 2) (SD.enc d_spec_PortsOk_9 ((X.1.1, (X.1.2.1, (X.1.2.2.1, (y0, ())))), (), ()))) (fun y0 y1 => K .ret (SD.enc d_spec_PortsOk_9 ((X.1.1, (y0, (X.1.2.2.1, (y1, ())))), (), ()))) X.1.1 X.1.2.1 X.1.2.2.1
noncomputable def l_spec_PortsOk_9 : LEnt := ⟨d_spec_PortsOk_9, fun X K => iterL (t_spec_PortsOk_9 X K) fuel X.1.2.2.2.1⟩
@[reducible] def d_spec_PortsOk_4 : SD := ⟨[.data false (.sl .arg TPort),B,DB,DI,B,B,B,B,B,B,B,B,B,B,B,B,B,B,B,B,B,B,B,B,B,B,B,B,B,B,B,B,B,B,B,B,B,B,B,B,B,B,B,B,B,B,B,B,B,B,B,B,B,B,B,B,B,B], [Z,Z,Z,Z,Z,Z,Z,Z,Z,Z,Z,Z,Z,Z,Z,Z,Z,Z,Z,Z,Z,Z,Z,Z,Z,Z,Z,Z,Z,Z,Z,Z,Z,Z,Z,Z,Z,Z,Z,Z,Z,Z,Z,Z,Z,Z,Z,Z,Z,Z,Z,Z,Z,Z,Z,Z,Z,Z], none⟩
noncomputable def t_spec_PortsOk_4 {R : Type} (X : SD.D d_spec_PortsOk_4) (K : Ex → AS → Option R) := Pu.spec_PortsOk_T4 (fun y0 => K (.exit 0) (SD.enc d_spec_PortsOk_4 ((X.1.1, (X.1.2.1, (y0, ()))), (), ()))) (fun y0 y1 => K .ret (SD.enc d_spec_PortsOk_4 ((X.1.1, (y0, (y1, ()))), (), ()))) X.1.1 X.1.2.1
noncomputable def l_spec_PortsOk_4 : LEnt := ⟨d_spec_PortsOk_4, fun X K => iterL (t_spec_PortsOk_4 X K) fuel X.1.2.2.1⟩
noncomputable def L_spec_PortsOk : Lam := ((Lam.nil).add 9 l_spec_PortsOk_9).add 4 l_spec_PortsOk_4
theorem lok_spec_PortsOk_9 : LOk E g_spec_PortsOk n_spec_PortsOk L_spec_PortsOk (loopBody Tryz.f38 1) :=
  lok l_spec_PortsOk_9 (by kernel_rfl) fuel fun R X K => (loop_iter (σ := Int) (fun x => SD.enc d_spec_PortsOk_9 ((X.1.1, (X.1.2.1, (X.1.2.2.1, (x, ())))), (), ())) (t_spec_PortsOk_9 X K) (fun m x => by kernel_rfl) fuel X.1.2.2.2.1).symm
theorem lok_spec_PortsOk_4 : LOk E g_spec_PortsOk n_spec_PortsOk L_spec_PortsOk (loopBody Tryz.f38 0) :=
  lok l_spec_PortsOk_4 (by kernel_rfl) fuel fun R X K => (loop_iter (σ := Int) (fun x => SD.enc d_spec_PortsOk_4 ((X.1.1, (X.1.2.1, (x, ()))), (), ())) (t_spec_PortsOk_4 X K) (fun m x => by kernel_rfl) fuel X.1.2.2.1).symm
theorem ok_spec_PortsOk : FnOk Tryz.prog 38 e_spec_PortsOk := FnOk.of (fnOk (Γ := g_spec_PortsOk) (an := n_spec_PortsOk) (Λ := L_spec_PortsOk) ((((base).add ok_spec_l01In).add ok_spec_FilterOk).add ok_spec_l24Has) Tryz.func38 (by kernel_rfl) (hF (by kernel_rfl) (cF lok_spec_PortsOk_4 (cF lok_spec_PortsOk_9 nF)))) (fun a => by kernel_rfl)
noncomputable def e_spec_PortsOf : GEnt := entOf [.data false (.sl TMailbox)] [(false, (.sl (.own none) TPort)), (false, .bool)] fun a => Pu.spec_PortsOf a.1
noncomputable def g_spec_PortsOf : Gam := ((((Gam.nil).add 35 e_spec_l01In).add 36 e_spec_MailboxOk).add 37 e_spec_l42Union).add 38 e_spec_PortsOk
def n_spec_PortsOf : An := { mask := fun | 5 => [0, 2, 3, 4, 5] | _ => [], mv := [41, 63] }
@[reducible] def d_spec_PortsOf_5 : SD := ⟨[.data false (.sl .arg TMailbox),B,.data false (.sl (.own (some 24576)) TPort),DB,.data false (.sl (.own (some 49152)) TPort),DI,B,B,B,B,B,B,B,B,B,B,B,B,B,B,B,B,B,B,B,B,B,B,B,B,B,B,B,B,B,B,B,B,B,B,B,B,B,B,B,B,B,B,B,B,B,B,B,B,B,B,B,B,B,B,B,B,B,B], [Z,Z,Z,Z,Z,Z,Z,Z,Z,Z,Z,Z,Z,Z,Z,Z,Z,Z,Z,Z,Z,Z,Z,Z,Z,Z,Z,Z,Z,Z,Z,Z,Z,Z,Z,Z,Z,Z,Z,Z,Z,Z,Z,Z,Z,Z,Z,Z,Z,Z,Z,Z,Z,Z,Z,Z,Z,Z,Z,Z,Z,Z,Z,Z], none⟩
noncomputable def t_spec_PortsOf_5 {R : Type} (X : SD.D d_spec_PortsOf_5) (K : Ex → AS → Option R) := Pu.spec_PortsOf_T5 (fun y0 y1 => K (.exit 0) (SD.enc d_spec_PortsOf_5 ((X.1.1, (X.1.2.1, (X.1.2.2.1, (y0, (y1, ()))))), (), ()))) (fun y0 y1 y2 y3 => K .ret (SD.enc d_spec_PortsOf_5 ((X.1.1, (y0, (y1, (y2, (y3, ()))))), (), ()))) X.1.1 X.1.2.1 X.1.2.2.1
noncomputable def l_spec_PortsOf_5 : LEnt := ⟨d_spec_PortsOf_5, fun X K => iterL (t_spec_PortsOf_5 X K) fuel (X.1.2.2.2.1, X.1.2.2.2.2.1)⟩
noncomputable def L_spec_PortsOf : Lam := (Lam.nil).add 5 l_spec_PortsOf_5
theorem lok_spec_PortsOf_5 : LOk E g_spec_PortsOf n_spec_PortsOf L_spec_PortsOf (loopBody Tryz.f14 0) :=
  lok l_spec_PortsOf_5 (by kernel_rfl) fuel fun R X K => (loop_iter (σ := (List Pu.Port) × Int) (fun x => SD.enc d_spec_PortsOf_5 ((X.1.1, (X.1.2.1, (X.1.2.2.1, (x.1, (x.2, ()))))), (), ())) (t_spec_PortsOf_5 X K) (fun m x => by kernel_rfl) fuel (X.1.2.2.2.1, X.1.2.2.2.2.1)).symm
theorem ok_spec_PortsOf : FnOk Tryz.prog 14 e_spec_PortsOf := FnOk.of (fnOk (Γ := g_spec_PortsOf) (an := n_spec_PortsOf) (Λ := L_spec_PortsOf) (((((base).add ok_spec_l01In).add ok_spec_MailboxOk).add ok_spec_l42Union).add ok_spec_PortsOk) Tryz.func14 (by kernel_rfl) (hF (by kernel_rfl) (cF lok_spec_PortsOf_5 nF))) (fun a => by kernel_rfl)
noncomputable def e_spec_BucketOk : GEnt := entOf [.data true TBucket] [(false, .bool)] fun a => Pu.spec_BucketOk a.1
theorem ok_spec_BucketOk : FnOk Tryz.prog 39 e_spec_BucketOk := FnOk.of (fnOk (an := { merge := fun | 1 => some 2 | _ => none }) (Λ := Lam.nil) ((base).add ok_spec_l01In) Tryz.func39 (by kernel_rfl) (hF (by kernel_rfl) nF)) (fun a => by kernel_rfl)
noncomputable def e_spec_FunctionsOk : GEnt := entOf [.data false (.sl TVirtualFunction), .data false (.sl TPort)] [(false, .bool)] fun a => Pu.spec_FunctionsOk a.1 a.2.1
noncomputable def g_spec_FunctionsOk : Gam := (((Gam.nil).add 35 e_spec_l01In).add 38 e_spec_PortsOk).add 39 e_spec_BucketOk
def n_spec_FunctionsOk : An := { mask := fun | 4 => [0, 1, 4, 5] | 10 => [0, 1, 4, 5, 6, 7] | _ => [], merge := fun | 7 => some 51 | 12 => some 74 | _ => none }
@[reducible] def d_spec_FunctionsOk_10 : SD := ⟨[.data false (.sl .arg TVirtualFunction),.data false (.sl .arg TPort),B,B,DB,DI,.ptr 6 0,DI,B,B,B,B,B,B,B,B,B,B,B,B,B,B,B,B,B,B,B,B,B,B,B,B,B,B,B,B,B,B,B,B,B,B,B,B,B,B,B,B,B,B,B,B,B,B,B,B,B,B,B,B,B,B,B,B,B,B,B,B,B,B,B,B,B,B,B], [Z,Z,Z,Z,Z,Z,some (.pair (.int .i64) (.pair (.int .i64) (.pair (.pair (.int .i64) (.pair (.int .i64) (.int .i64))) (.pair .bool (.pair (.int .i64) (.int .i64)))))),Z,Z,Z,Z,Z,Z,Z,Z,Z,Z,Z,Z,Z,Z,Z,Z,Z,Z,Z,Z,Z,Z,Z,Z,Z,Z,Z,Z,Z,Z,Z,Z,Z,Z,Z,Z,Z,Z,Z,Z,Z,Z,Z,Z,Z,Z,Z,Z,Z,Z,Z,Z,Z,Z,Z,Z,Z,Z,Z,Z,Z,Z,Z,Z,Z,Z,Z,Z], none⟩
noncomputable def t_spec_FunctionsOk_10 {R : Type} (X : SD.D d_spec_FunctionsOk_10) (K : Ex → AS → Option R) := Pu.spec_FunctionsOk_T10 (fun y0 => K (.exit 2) (SD.enc d_spec_FunctionsOk_10 ((X.1.1, (X.1.2.1, (X.1.2.2.1, (X.1.2.2.2.1, (y0, ()))))), (X.2.1.1, ()), ()))) (fun y0 y1 => K .ret (SD.enc d_spec_FunctionsOk_10 ((X.1.1, (X.1.2.1, (y0, (X.1.2.2.2.1, (y1, ()))))), (X.2.1.1, ()), ()))) X.1.1 X.1.2.1 X.1.2.2.1 X.1.2.2.2.1 X.2.1.1
noncomputable def l_spec_FunctionsOk_10 : LEnt := ⟨d_spec_FunctionsOk_10, fun X K => iterL (t_spec_FunctionsOk_10 X K) fuel X.1.2.2.2.2.1⟩
@[reducible] def d_spec_FunctionsOk_4 : SD := ⟨[.data false (.sl .arg TVirtualFunction),.data false (.sl .arg TPort),B,B,DB,DI,B,B,B,B,B,B,B,B,B,B,B,B,B,B,B,B,B,B,B,B,B,B,B,B,B,B,B,B,B,B,B,B,B,B,B,B,B,B,B,B,B,B,B,B,B,B,B,B,B,B,B,B,B,B,B,B,B,B,B,B,B,B,B,B,B,B,B,B,B], [Z,Z,Z,Z,Z,Z,Z,Z,Z,Z,Z,Z,Z,Z,Z,Z,Z,Z,Z,Z,Z,Z,Z,Z,Z,Z,Z,Z,Z,Z,Z,Z,Z,Z,Z,Z,Z,Z,Z,Z,Z,Z,Z,Z,Z,Z,Z,Z,Z,Z,Z,Z,Z,Z,Z,Z,Z,Z,Z,Z,Z,Z,Z,Z,Z,Z,Z,Z,Z,Z,Z,Z,Z,Z,Z], none⟩
noncomputable def t_spec_FunctionsOk_4 {R : Type} (X : SD.D d_spec_FunctionsOk_4) (K : Ex → AS → Option R) := Pu.spec_FunctionsOk_T4 (fun y0 => K (.exit 0) (SD.enc d_spec_FunctionsOk_4 ((X.1.1, (X.1.2.1, (X.1.2.2.1, (y0, ())))), (), ()))) (fun y0 y1 => K .ret (SD.enc d_spec_FunctionsOk_4 ((X.1.1, (X.1.2.1, (y0, (y1, ())))), (), ()))) X.1.1 X.1.2.1 X.1.2.2.1
noncomputable def l_spec_FunctionsOk_4 : LEnt := ⟨d_spec_FunctionsOk_4, fun X K => iterL (t_spec_FunctionsOk_4 X K) fuel X.1.2.2.2.1⟩
noncomputable def L_spec_FunctionsOk : Lam := ((Lam.nil).add 10 l_spec_FunctionsOk_10).add 4 l_spec_FunctionsOk_4
theorem lok_spec_FunctionsOk_10 : LOk E g_spec_FunctionsOk n_spec_FunctionsOk L_spec_FunctionsOk (loopBody Tryz.f15 1) :=
  lok l_spec_FunctionsOk_10 (by kernel_rfl) fuel fun R X K => (loop_iter (σ := Int) (fun x => SD.enc d_spec_FunctionsOk_10 ((X.1.1, (X.1.2.1, (X.1.2.2.1, (X.1.2.2.2.1, (x, ()))))), (X.2.1.1, ()), ())) (t_spec_FunctionsOk_10 X K) (fun m x => by kernel_rfl) fuel X.1.2.2.2.2.1).symm
theorem lok_spec_FunctionsOk_4 : LOk E g_spec_FunctionsOk n_spec_FunctionsOk L_spec_FunctionsOk (loopBody Tryz.f15 0) :=
  lok l_spec_FunctionsOk_4 (by kernel_rfl) fuel fun R X K => (loop_iter (σ := Int) (fun x => SD.enc d_spec_FunctionsOk_4 ((X.1.1, (X.1.2.1, (X.1.2.2.1, (x, ())))), (), ())) (t_spec_FunctionsOk_4 X K) (fun m x => by kernel_rfl) fuel X.1.2.2.2.1).symm
theorem ok_spec_FunctionsOk : FnOk Tryz.prog 15 e_spec_FunctionsOk := FnOk.of (fnOk (Γ := g_spec_FunctionsOk) (an := n_spec_FunctionsOk) (Λ := L_spec_FunctionsOk) ((((base).add ok_spec_l01In).add ok_spec_PortsOk).add ok_spec_BucketOk) Tryz.func15 (by kernel_rfl) (hF (by kernel_rfl) (cF lok_spec_FunctionsOk_4 (cF lok_spec_FunctionsOk_10 nF)))) (fun a => by kernel_rfl)
noncomputable def e_spec_RuleOk : GEnt := entOf [.data true TRule] [(false, .bool)] fun a => Pu.spec_RuleOk a.1
theorem ok_spec_RuleOk : FnOk Tryz.prog 83 e_spec_RuleOk := FnOk.of (fnOk (an := { merge := fun | 1 => some 33 | 3 => some 54 | 5 => some 2 | _ => none }) (Λ := Lam.nil) ((base).add ok_spec_l01In) Tryz.func83 (by kernel_rfl) (hF (by kernel_rfl) nF)) (fun a => by kernel_rfl)
noncomputable def e_spec_RulesOk : GEnt := entOf [.data false (.sl TRule)] [(false, .bool)] fun a => Pu.spec_RulesOk a.1
noncomputable def g_spec_RulesOk : Gam := (Gam.nil).add 83 e_spec_RuleOk
def n_spec_RulesOk : An := { mask := fun | 2 => [0, 2, 3] | _ => [] }
@[reducible] def d_spec_RulesOk_2 : SD := ⟨[.data false (.sl .arg TRule),B,DB,DI,B,B,B,B,B,B,B,B,B,B,B,B,B,B,B], [Z,Z,Z,Z,Z,Z,Z,Z,Z,Z,Z,Z,Z,Z,Z,Z,Z,Z,Z], none⟩
noncomputable def t_spec_RulesOk_2 {R : Type} (X : SD.D d_spec_RulesOk_2) (K : Ex → AS → Option R) := Pu.spec_RulesOk_T2 (fun y0 => K (.exit 0) (SD.enc d_spec_RulesOk_2 ((X.1.1, (X.1.2.1, (y0, ()))), (), ()))) (fun y0 y1 => K .ret (SD.enc d_spec_RulesOk_2 ((X.1.1, (y0, (y1, ()))), (), ()))) X.1.1 X.1.2.1
noncomputable def l_spec_RulesOk_2 : LEnt := ⟨d_spec_RulesOk_2, fun X K => iterL (t_spec_RulesOk_2 X K) fuel X.1.2.2.1⟩
noncomputable def L_spec_RulesOk : Lam := (Lam.nil).add 2 l_spec_RulesOk_2
theorem lok_spec_RulesOk_2 : LOk E g_spec_RulesOk n_spec_RulesOk L_spec_RulesOk (loopBody Tryz.f62 0) :=
  lok l_spec_RulesOk_2 (by kernel_rfl) fuel fun R X K => (loop_iter (σ := Int) (fun x => SD.enc d_spec_RulesOk_2 ((X.1.1, (X.1.2.1, (x, ()))), (), ())) (t_spec_RulesOk_2 X K) (fun m x => by kernel_rfl) fuel X.1.2.2.1).symm
theorem ok_spec_RulesOk : FnOk Tryz.prog 62 e_spec_RulesOk := FnOk.of (fnOk (Γ := g_spec_RulesOk) (an := n_spec_RulesOk) (Λ := L_spec_RulesOk) ((base).add ok_spec_RuleOk) Tryz.func62 (by kernel_rfl) (hF (by kernel_rfl) (cF lok_spec_RulesOk_2 nF))) (fun a => by kernel_rfl)
noncomputable def e_spec_HomeSlot : GEnt := entOf [.data true TFlow] [(false, (.int .i64))] fun a => Pu.spec_HomeSlot a.1
noncomputable def g_spec_HomeSlot : Gam := Gam.nil
def n_spec_HomeSlot : An := { mask := fun | 4 => [3, 4, 5] | _ => [] }
@[reducible] def d_spec_HomeSlot_4 : SD := ⟨[B,B,B,DI,.data false (.sl (.own (some 49152)) (.int .i64)),DI,B,B,B,B,B,B,B,B,B,B,B,B,B,B,B,B,B,B,B,B,B,B,B,B,B,B], [Z,Z,Z,Z,Z,Z,Z,Z,Z,Z,Z,Z,Z,Z,Z,Z,Z,Z,Z,Z,Z,Z,Z,Z,Z,Z,Z,Z,Z,Z,Z,Z], none⟩
noncomputable def t_spec_HomeSlot_4 {R : Type} (X : SD.D d_spec_HomeSlot_4) (K : Ex → AS → Option R) := Pu.spec_HomeSlot_T4 (fun y0 y1 => K (.exit 0) (SD.enc d_spec_HomeSlot_4 ((y0, (X.1.2.1, (y1, ()))), (), ()))) X.1.2.1
noncomputable def l_spec_HomeSlot_4 : LEnt := ⟨d_spec_HomeSlot_4, fun X K => iterL (t_spec_HomeSlot_4 X K) fuel (X.1.1, X.1.2.2.1)⟩
noncomputable def L_spec_HomeSlot : Lam := (Lam.nil).add 4 l_spec_HomeSlot_4
theorem lok_spec_HomeSlot_4 : LOk E g_spec_HomeSlot n_spec_HomeSlot L_spec_HomeSlot (loopBody Tryz.f101 0) :=
  lok l_spec_HomeSlot_4 (by kernel_rfl) fuel fun R X K => (loop_iter (σ := Int × Int) (fun x => SD.enc d_spec_HomeSlot_4 ((x.1, (X.1.2.1, (x.2, ()))), (), ())) (t_spec_HomeSlot_4 X K) (fun m x => by kernel_rfl) fuel (X.1.1, X.1.2.2.1)).symm
theorem ok_spec_HomeSlot : FnOk Tryz.prog 101 e_spec_HomeSlot := FnOk.of (fnOk (Γ := g_spec_HomeSlot) (an := n_spec_HomeSlot) (Λ := L_spec_HomeSlot) (base) Tryz.func101 (by kernel_rfl) (hF (by kernel_rfl) (cF lok_spec_HomeSlot_4 nF))) (fun a => by kernel_rfl)
noncomputable def e_spec_l13Find : GEnt := entOf [.data true (.sl TSlot), .data true TFlow] [(false, (.int .i64))] fun a => Pu.spec_l13Find a.1 a.2.1
noncomputable def g_spec_l13Find : Gam := (Gam.nil).add 101 e_spec_HomeSlot
def n_spec_l13Find : An := { mask := fun | 2 => [2, 3, 4, 5] | _ => [], merge := fun | 7 => some 39 | _ => none }
@[reducible] def d_spec_l13Find_2 : SD := ⟨[B,B,.ptr 2 0,.ptr 3 0,DI,DI,B,B,B,B,B,B,B,B,B,B,B,B,B,B,B,B,B,B,B,B,B,B,B,B,B,B,B,B,B,B,B,B,B,B,B], [Z,Z,some (.sl .arg TSlot),some (.pair (.int .i64) (.pair (.int .i64) (.pair (.int .i64) (.pair (.int .i64) (.int .i64))))),Z,Z,Z,Z,Z,Z,Z,Z,Z,Z,Z,Z,Z,Z,Z,Z,Z,Z,Z,Z,Z,Z,Z,Z,Z,Z,Z,Z,Z,Z,Z,Z,Z,Z,Z,Z,Z], none⟩
noncomputable def t_spec_l13Find_2 {R : Type} (X : SD.D d_spec_l13Find_2) (K : Ex → AS → Option R) := Pu.spec_l13Find_T2 (fun y0 => K (.exit 0) (SD.enc d_spec_l13Find_2 ((X.1.1, (y0, ())), (X.2.1.1, (X.2.1.2.1, ())), ()))) (fun y0 y1 => K .ret (SD.enc d_spec_l13Find_2 ((y0, (y1, ())), (X.2.1.1, (X.2.1.2.1, ())), ()))) X.1.1 X.2.1.1 X.2.1.2.1
noncomputable def l_spec_l13Find_2 : LEnt := ⟨d_spec_l13Find_2, fun X K => iterL (t_spec_l13Find_2 X K) fuel X.1.2.1⟩
noncomputable def L_spec_l13Find : Lam := (Lam.nil).add 2 l_spec_l13Find_2
theorem lok_spec_l13Find_2 : LOk E g_spec_l13Find n_spec_l13Find L_spec_l13Find (loopBody Tryz.f84 0) :=
  lok l_spec_l13Find_2 (by kernel_rfl) fuel fun R X K => (loop_iter (σ := Int) (fun x => SD.enc d_spec_l13Find_2 ((X.1.1, (x, ())), (X.2.1.1, (X.2.1.2.1, ())), ())) (t_spec_l13Find_2 X K) (fun m x => by kernel_rfl) fuel X.1.2.1).symm
theorem ok_spec_l13Find : FnOk Tryz.prog 84 e_spec_l13Find := FnOk.of (fnOk (Γ := g_spec_l13Find) (an := n_spec_l13Find) (Λ := L_spec_l13Find) ((base).add ok_spec_HomeSlot) Tryz.func84 (by kernel_rfl) (hF (by kernel_rfl) (cF lok_spec_l13Find_2 nF))) (fun a => by kernel_rfl)
noncomputable def e_spec_TableOk : GEnt := entOf [.data true (.sl TSlot)] [(false, .bool)] fun a => Pu.spec_TableOk a.1
noncomputable def g_spec_TableOk : Gam := ((Gam.nil).add 35 e_spec_l01In).add 84 e_spec_l13Find
def n_spec_TableOk : An := { mask := fun | 4 => [1, 2, 3] | _ => [], merge := fun | 7 => some 30 | 10 => some 42 | _ => none }
@[reducible] def d_spec_TableOk_4 : SD := ⟨[B,.ptr 1 0,DB,DI,B,B,B,B,B,B,B,B,B,B,B,B,B,B,B,B,B,B,B,B,B,B,B,B,B,B,B,B,B,B,B,B,B,B,B,B,B,B,B,B,B,B,B,B,B], [Z,some (.sl .arg TSlot),Z,Z,Z,Z,Z,Z,Z,Z,Z,Z,Z,Z,Z,Z,Z,Z,Z,Z,Z,Z,Z,Z,Z,Z,Z,Z,Z,Z,Z,Z,Z,Z,Z,Z,Z,Z,Z,Z,Z,Z,Z,Z,Z,Z,Z,Z,Z], none⟩
noncomputable def t_spec_TableOk_4 {R : Type} (X : SD.D d_spec_TableOk_4) (K : Ex → AS → Option R) := Pu.spec_TableOk_T4 (fun y0 => K (.exit 0) (SD.enc d_spec_TableOk_4 ((X.1.1, (y0, ())), (X.2.1.1, ()), ()))) (fun y0 y1 => K .ret (SD.enc d_spec_TableOk_4 ((y0, (y1, ())), (X.2.1.1, ()), ()))) X.1.1 X.2.1.1
noncomputable def l_spec_TableOk_4 : LEnt := ⟨d_spec_TableOk_4, fun X K => iterL (t_spec_TableOk_4 X K) fuel X.1.2.1⟩
noncomputable def L_spec_TableOk : Lam := (Lam.nil).add 4 l_spec_TableOk_4
theorem lok_spec_TableOk_4 : LOk E g_spec_TableOk n_spec_TableOk L_spec_TableOk (loopBody Tryz.f63 0) :=
  lok l_spec_TableOk_4 (by kernel_rfl) fuel fun R X K => (loop_iter (σ := Int) (fun x => SD.enc d_spec_TableOk_4 ((X.1.1, (x, ())), (X.2.1.1, ()), ())) (t_spec_TableOk_4 X K) (fun m x => by kernel_rfl) fuel X.1.2.1).symm
theorem ok_spec_TableOk : FnOk Tryz.prog 63 e_spec_TableOk := FnOk.of (fnOk (Γ := g_spec_TableOk) (an := n_spec_TableOk) (Λ := L_spec_TableOk) (((base).add ok_spec_l01In).add ok_spec_l13Find) Tryz.func63 (by kernel_rfl) (hF (by kernel_rfl) (cF lok_spec_TableOk_4 nF))) (fun a => by kernel_rfl)
noncomputable def e_spec_l12Size : GEnt := entOf [.data false (.int .i64)] [(false, .bool)] fun a => Pu.spec_l12Size a.1
theorem ok_spec_l12Size : FnOk Tryz.prog 85 e_spec_l12Size := FnOk.of (fnOk (an := { merge := fun | 1 => some 2 | _ => none }) (Λ := Lam.nil) (base) Tryz.func85 (by kernel_rfl) (hF (by kernel_rfl) nF)) (fun a => by kernel_rfl)
noncomputable def e_spec_SpreadOk : GEnt := entOf [.data true TSpread, .data false (.int .i64)] [(false, .bool)] fun a => Pu.spec_SpreadOk a.1 a.2.1
noncomputable def g_spec_SpreadOk : Gam := ((Gam.nil).add 35 e_spec_l01In).add 85 e_spec_l12Size
def n_spec_SpreadOk : An := { mask := fun | 4 => [1, 2, 4, 5] | _ => [], merge := fun | 1 => some 21 | _ => none }
@[reducible] def d_spec_SpreadOk_4 : SD := ⟨[B,DI,.ptr 2 0,B,DB,DI,B,B,B,B,B,B,B,B,B,B,B,B,B,B,B,B,B,B,B,B,B,B,B,B,B,B,B,B,B,B,B,B], [Z,Z,some (.pair .str (.sl .arg (.int .i64))),Z,Z,Z,Z,Z,Z,Z,Z,Z,Z,Z,Z,Z,Z,Z,Z,Z,Z,Z,Z,Z,Z,Z,Z,Z,Z,Z,Z,Z,Z,Z,Z,Z,Z,Z], none⟩
noncomputable def t_spec_SpreadOk_4 {R : Type} (X : SD.D d_spec_SpreadOk_4) (K : Ex → AS → Option R) := Pu.spec_SpreadOk_T4 (fun y0 => K (.exit 0) (SD.enc d_spec_SpreadOk_4 ((X.1.1, (X.1.2.1, (y0, ()))), (X.2.1.1, ()), ()))) (fun y0 y1 => K .ret (SD.enc d_spec_SpreadOk_4 ((X.1.1, (y0, (y1, ()))), (X.2.1.1, ()), ()))) X.1.1 X.1.2.1 X.2.1.1
noncomputable def l_spec_SpreadOk_4 : LEnt := ⟨d_spec_SpreadOk_4, fun X K => iterL (t_spec_SpreadOk_4 X K) fuel X.1.2.2.1⟩
noncomputable def L_spec_SpreadOk : Lam := (Lam.nil).add 4 l_spec_SpreadOk_4
theorem lok_spec_SpreadOk_4 : LOk E g_spec_SpreadOk n_spec_SpreadOk L_spec_SpreadOk (loopBody Tryz.f64 0) :=
  lok l_spec_SpreadOk_4 (by kernel_rfl) fuel fun R X K => (loop_iter (σ := Int) (fun x => SD.enc d_spec_SpreadOk_4 ((X.1.1, (X.1.2.1, (x, ()))), (X.2.1.1, ()), ())) (t_spec_SpreadOk_4 X K) (fun m x => by kernel_rfl) fuel X.1.2.2.1).symm
theorem ok_spec_SpreadOk : FnOk Tryz.prog 64 e_spec_SpreadOk := FnOk.of (fnOk (Γ := g_spec_SpreadOk) (an := n_spec_SpreadOk) (Λ := L_spec_SpreadOk) (((base).add ok_spec_l01In).add ok_spec_l12Size) Tryz.func64 (by kernel_rfl) (hF (by kernel_rfl) (cF lok_spec_SpreadOk_4 nF))) (fun a => by kernel_rfl)
noncomputable def e_spec_SteeringOk : GEnt := entOf [.data true TSteering, .data false (.int .i64)] [(false, .bool)] fun a => Pu.spec_SteeringOk a.1 a.2.1
noncomputable def g_spec_SteeringOk : Gam := (((Gam.nil).add 62 e_spec_RulesOk).add 63 e_spec_TableOk).add 64 e_spec_SpreadOk
def n_spec_SteeringOk : An := { mask := fun | 4 => [1, 2, 4, 5] | 9 => [1, 2, 4, 6] | _ => [], merge := fun | 1 => some 23 | _ => none }
@[reducible] def d_spec_SteeringOk_4 : SD := ⟨[B,DI,.ptr 2 0,B,DB,DI,B,B,B,B,B,B,B,B,B,B,B,B,B,B,B,B,B,B,B,B,B,B,B,B,B,B,B,B,B,B,B,B,B,B,B,B,B,B,B,B,B,B,B,B,B,B,B,B,B,B], [Z,Z,some (.pair (.sl .arg TRule) (.pair (.sl .arg TSlot) (.pair .str (.sl .arg (.int .i64))))),Z,Z,Z,Z,Z,Z,Z,Z,Z,Z,Z,Z,Z,Z,Z,Z,Z,Z,Z,Z,Z,Z,Z,Z,Z,Z,Z,Z,Z,Z,Z,Z,Z,Z,Z,Z,Z,Z,Z,Z,Z,Z,Z,Z,Z,Z,Z,Z,Z,Z,Z,Z,Z], none⟩
noncomputable def t_spec_SteeringOk_4 {R : Type} (X : SD.D d_spec_SteeringOk_4) (K : Ex → AS → Option R) := Pu.spec_SteeringOk_T4 (fun y0 => K (.exit 0) (SD.enc d_spec_SteeringOk_4 ((X.1.1, (X.1.2.1, (y0, ()))), (X.2.1.1, ()), ()))) (fun y0 y1 => K .ret (SD.enc d_spec_SteeringOk_4 ((X.1.1, (y0, (y1, ()))), (X.2.1.1, ()), ()))) X.1.1 X.1.2.1 X.2.1.1
noncomputable def l_spec_SteeringOk_4 : LEnt := ⟨d_spec_SteeringOk_4, fun X K => iterL (t_spec_SteeringOk_4 X K) fuel X.1.2.2.1⟩
@[reducible] def d_spec_SteeringOk_9 : SD := ⟨[B,DI,.ptr 2 0,B,DB,B,DI,B,B,B,B,B,B,B,B,B,B,B,B,B,B,B,B,B,B,B,B,B,B,B,B,B,B,B,B,B,B,B,B,B,B,B,B,B,B,B,B,B,B,B,B,B,B,B,B,B], [Z,Z,some (.pair (.sl .arg TRule) (.pair (.sl .arg TSlot) (.pair .str (.sl .arg (.int .i64))))),Z,Z,Z,Z,Z,Z,Z,Z,Z,Z,Z,Z,Z,Z,Z,Z,Z,Z,Z,Z,Z,Z,Z,Z,Z,Z,Z,Z,Z,Z,Z,Z,Z,Z,Z,Z,Z,Z,Z,Z,Z,Z,Z,Z,Z,Z,Z,Z,Z,Z,Z,Z,Z], none⟩
noncomputable def t_spec_SteeringOk_9 {R : Type} (X : SD.D d_spec_SteeringOk_9) (K : Ex → AS → Option R) := Pu.spec_SteeringOk_T9 (fun y0 => K (.exit 2) (SD.enc d_spec_SteeringOk_9 ((X.1.1, (X.1.2.1, (y0, ()))), (X.2.1.1, ()), ()))) (fun y0 y1 => K .ret (SD.enc d_spec_SteeringOk_9 ((X.1.1, (y0, (y1, ()))), (X.2.1.1, ()), ()))) X.1.1 X.1.2.1 X.2.1.1
noncomputable def l_spec_SteeringOk_9 : LEnt := ⟨d_spec_SteeringOk_9, fun X K => iterL (t_spec_SteeringOk_9 X K) fuel X.1.2.2.1⟩
noncomputable def L_spec_SteeringOk : Lam := ((Lam.nil).add 4 l_spec_SteeringOk_4).add 9 l_spec_SteeringOk_9
theorem lok_spec_SteeringOk_4 : LOk E g_spec_SteeringOk n_spec_SteeringOk L_spec_SteeringOk (loopBody Tryz.f41 0) :=
  lok l_spec_SteeringOk_4 (by kernel_rfl) fuel fun R X K => (loop_iter (σ := Int) (fun x => SD.enc d_spec_SteeringOk_4 ((X.1.1, (X.1.2.1, (x, ()))), (X.2.1.1, ()), ())) (t_spec_SteeringOk_4 X K) (fun m x => by kernel_rfl) fuel X.1.2.2.1).symm
theorem lok_spec_SteeringOk_9 : LOk E g_spec_SteeringOk n_spec_SteeringOk L_spec_SteeringOk (loopBody Tryz.f41 1) :=
  lok l_spec_SteeringOk_9 (by kernel_rfl) fuel fun R X K => (loop_iter (σ := Int) (fun x => SD.enc d_spec_SteeringOk_9 ((X.1.1, (X.1.2.1, (x, ()))), (X.2.1.1, ()), ())) (t_spec_SteeringOk_9 X K) (fun m x => by kernel_rfl) fuel X.1.2.2.1).symm
theorem ok_spec_SteeringOk : FnOk Tryz.prog 41 e_spec_SteeringOk := FnOk.of (fnOk (Γ := g_spec_SteeringOk) (an := n_spec_SteeringOk) (Λ := L_spec_SteeringOk) ((((base).add ok_spec_RulesOk).add ok_spec_TableOk).add ok_spec_SpreadOk) Tryz.func41 (by kernel_rfl) (hF (by kernel_rfl) (cF lok_spec_SteeringOk_4 (cF lok_spec_SteeringOk_9 nF)))) (fun a => by kernel_rfl)
noncomputable def e_spec_SoftOk : GEnt := entOf [.data true TSoft] [(false, .bool)] fun a => Pu.spec_SoftOk a.1
theorem ok_spec_SoftOk : FnOk Tryz.prog 16 e_spec_SoftOk := FnOk.of (fnOk (an := { merge := fun | 1 => some 2 | _ => none }) (Λ := Lam.nil) (((base).add ok_spec_FilterOk).add ok_spec_SteeringOk) Tryz.func16 (by kernel_rfl) (hF (by kernel_rfl) nF)) (fun a => by kernel_rfl)
noncomputable def e_spec_l39Ints : GEnt := entOf [.data false (.sl (.int .i64)), .data false (.sl (.int .i64))] [(false, .bool)] fun a => Pu.spec_l39Ints a.1 a.2.1
noncomputable def g_spec_l39Ints : Gam := Gam.nil
def n_spec_l39Ints : An := { mask := fun | 4 => [0, 1, 4, 5] | _ => [] }
@[reducible] def d_spec_l39Ints_4 : SD := ⟨[.data false (.sl .arg (.int .i64)),.data false (.sl .arg (.int .i64)),B,B,DB,DI,B,B,B,B,B,B,B,B,B,B,B,B,B,B,B,B,B,B,B,B], [Z,Z,Z,Z,Z,Z,Z,Z,Z,Z,Z,Z,Z,Z,Z,Z,Z,Z,Z,Z,Z,Z,Z,Z,Z,Z], none⟩
noncomputable def t_spec_l39Ints_4 {R : Type} (X : SD.D d_spec_l39Ints_4) (K : Ex → AS → Option R) := Pu.spec_l39Ints_T4 (fun y0 => K (.exit 0) (SD.enc d_spec_l39Ints_4 ((X.1.1, (X.1.2.1, (X.1.2.2.1, (y0, ())))), (), ()))) (fun y0 y1 => K .ret (SD.enc d_spec_l39Ints_4 ((X.1.1, (X.1.2.1, (y0, (y1, ())))), (), ()))) X.1.1 X.1.2.1 X.1.2.2.1
noncomputable def l_spec_l39Ints_4 : LEnt := ⟨d_spec_l39Ints_4, fun X K => iterL (t_spec_l39Ints_4 X K) fuel X.1.2.2.2.1⟩
noncomputable def L_spec_l39Ints : Lam := (Lam.nil).add 4 l_spec_l39Ints_4
theorem lok_spec_l39Ints_4 : LOk E g_spec_l39Ints n_spec_l39Ints L_spec_l39Ints (loopBody Tryz.f42 0) :=
  lok l_spec_l39Ints_4 (by kernel_rfl) fuel fun R X K => (loop_iter (σ := Int) (fun x => SD.enc d_spec_l39Ints_4 ((X.1.1, (X.1.2.1, (X.1.2.2.1, (x, ())))), (), ())) (t_spec_l39Ints_4 X K) (fun m x => by kernel_rfl) fuel X.1.2.2.2.1).symm
theorem ok_spec_l39Ints : FnOk Tryz.prog 42 e_spec_l39Ints := FnOk.of (fnOk (Γ := g_spec_l39Ints) (an := n_spec_l39Ints) (Λ := L_spec_l39Ints) (base) Tryz.func42 (by kernel_rfl) (hF (by kernel_rfl) (cF lok_spec_l39Ints_4 nF))) (fun a => by kernel_rfl)
noncomputable def e_spec_l42SameFilter : GEnt := entOf [.data true TFilter, .data true TFilter] [(false, .bool)] fun a => Pu.spec_l42SameFilter a.1 a.2.1
theorem ok_spec_l42SameFilter : FnOk Tryz.prog 17 e_spec_l42SameFilter := FnOk.of (fnOk (an := { merge := fun | 1 => some 4 | _ => none }) (Λ := Lam.nil) ((base).add ok_spec_l39Ints) Tryz.func17 (by kernel_rfl) (hF (by kernel_rfl) nF)) (fun a => by kernel_rfl)
noncomputable def e_spec_IdealOk : GEnt := entOf [.data true TIdeal] [(false, .bool)] fun a => Pu.spec_IdealOk a.1
noncomputable def g_spec_IdealOk : Gam := ((((Gam.nil).add 14 e_spec_PortsOf).add 15 e_spec_FunctionsOk).add 16 e_spec_SoftOk).add 17 e_spec_l42SameFilter
def n_spec_IdealOk : An := { mask := fun | 6 => [1, 2, 5, 6] | _ => [], merge := fun | 3 => some 45 | 8 => some 94 | _ => none }
@[reducible] def d_spec_IdealOk_6 : SD := ⟨[B,.ptr 1 0,DB,B,B,DI,DI,B,B,B,B,B,B,B,B,B,B,B,B,B,B,B,B,B,B,B,B,B,B,B,B,B,B,B,B,B,B,B,B,B,B,B,B,B,B,B,B,B,B,B,B,B,B,B,B,B,B,B,B,B,B,B,B,B,B,B,B,B,B,B,B,B,B,B,B,B,B,B,B,B,B,B,B,B,B,B,B,B,B,B,B,B,B,B,B], [Z,some (.pair (.sl .arg TSoft) (.pair (.sl .arg (.sl .str)) (.pair (.sl .arg TVirtualFunction) (.pair (.sl .arg TMailbox) (.sl .arg .str))))),Z,Z,Z,Z,Z,Z,Z,Z,Z,Z,Z,Z,Z,Z,Z,Z,Z,Z,Z,Z,Z,Z,Z,Z,Z,Z,Z,Z,Z,Z,Z,Z,Z,Z,Z,Z,Z,Z,Z,Z,Z,Z,Z,Z,Z,Z,Z,Z,Z,Z,Z,Z,Z,Z,Z,Z,Z,Z,Z,Z,Z,Z,Z,Z,Z,Z,Z,Z,Z,Z,Z,Z,Z,Z,Z,Z,Z,Z,Z,Z,Z,Z,Z,Z,Z,Z,Z,Z,Z,Z,Z,Z,Z], none⟩
noncomputable def t_spec_IdealOk_6 {R : Type} (X : SD.D d_spec_IdealOk_6) (K : Ex → AS → Option R) := Pu.spec_IdealOk_T6 (fun y0 => K (.exit 0) (SD.enc d_spec_IdealOk_6 ((X.1.1, (X.1.2.1, (y0, ()))), (X.2.1.1, ()), ()))) (fun y0 y1 => K .ret (SD.enc d_spec_IdealOk_6 ((y0, (X.1.2.1, (y1, ()))), (X.2.1.1, ()), ()))) X.1.1 X.1.2.1 X.2.1.1
noncomputable def l_spec_IdealOk_6 : LEnt := ⟨d_spec_IdealOk_6, fun X K => iterL (t_spec_IdealOk_6 X K) fuel X.1.2.2.1⟩
noncomputable def L_spec_IdealOk : Lam := (Lam.nil).add 6 l_spec_IdealOk_6
theorem lok_spec_IdealOk_6 : LOk E g_spec_IdealOk n_spec_IdealOk L_spec_IdealOk (loopBody Tryz.f5 0) :=
  lok l_spec_IdealOk_6 (by kernel_rfl) fuel fun R X K => (loop_iter (σ := Int) (fun x => SD.enc d_spec_IdealOk_6 ((X.1.1, (X.1.2.1, (x, ()))), (X.2.1.1, ()), ())) (t_spec_IdealOk_6 X K) (fun m x => by kernel_rfl) fuel X.1.2.2.1).symm
theorem ok_spec_IdealOk : FnOk Tryz.prog 5 e_spec_IdealOk := FnOk.of (fnOk (Γ := g_spec_IdealOk) (an := n_spec_IdealOk) (Λ := L_spec_IdealOk) (((((base).add ok_spec_PortsOf).add ok_spec_FunctionsOk).add ok_spec_SoftOk).add ok_spec_l42SameFilter) Tryz.func5 (by kernel_rfl) (hF (by kernel_rfl) (cF lok_spec_IdealOk_6 nF))) (fun a => by kernel_rfl)
noncomputable def e_laws_toStringS : GEnt := entOf [.data false (.sl .str)] [(false, (.sl (.own none) .str))] fun a => Pu.laws_toStringS a.1
noncomputable def g_laws_toStringS : Gam := Gam.nil
def n_laws_toStringS : An := { mask := fun | 3 => [0, 3, 4] | _ => [], mv := [21] }
@[reducible] def d_laws_toStringS_3 : SD := ⟨[.data false (.sl .arg .str),B,B,.data false (.sl (.own (some 36864)) .str),DI,B,B,B,B,B,B,B,B,B,B,B,B,B,B,B,B,B], [Z,Z,Z,Z,Z,Z,Z,Z,Z,Z,Z,Z,Z,Z,Z,Z,Z,Z,Z,Z,Z,Z], none⟩
noncomputable def t_laws_toStringS_3 {R : Type} (X : SD.D d_laws_toStringS_3) (K : Ex → AS → Option R) := Pu.laws_toStringS_T3 (fun y0 y1 => K (.exit 0) (SD.enc d_laws_toStringS_3 ((X.1.1, (y0, (y1, ()))), (), ()))) X.1.1
noncomputable def l_laws_toStringS_3 : LEnt := ⟨d_laws_toStringS_3, fun X K => iterL (t_laws_toStringS_3 X K) fuel (X.1.2.1, X.1.2.2.1)⟩
noncomputable def L_laws_toStringS : Lam := (Lam.nil).add 3 l_laws_toStringS_3
theorem lok_laws_toStringS_3 : LOk E g_laws_toStringS n_laws_toStringS L_laws_toStringS (loopBody Tryz.f22 0) :=
  lok l_laws_toStringS_3 (by kernel_rfl) fuel fun R X K => (loop_iter (σ := (List Pu.Bytes) × Int) (fun x => SD.enc d_laws_toStringS_3 ((X.1.1, (x.1, (x.2, ()))), (), ())) (t_laws_toStringS_3 X K) (fun m x => by kernel_rfl) fuel (X.1.2.1, X.1.2.2.1)).symm
theorem ok_laws_toStringS : FnOk Tryz.prog 22 e_laws_toStringS := FnOk.of (fnOk (Γ := g_laws_toStringS) (an := n_laws_toStringS) (Λ := L_laws_toStringS) (base) Tryz.func22 (by kernel_rfl) (hF (by kernel_rfl) (cF lok_laws_toStringS_3 nF))) (fun a => by kernel_rfl)
noncomputable def e_laws_toIntS : GEnt := entOf [.data false (.sl (.int .i64))] [(false, (.sl (.own none) (.int .i64)))] fun a => Pu.laws_toIntS a.1
noncomputable def g_laws_toIntS : Gam := Gam.nil
def n_laws_toIntS : An := { mask := fun | 3 => [0, 3, 4] | _ => [], mv := [21] }
@[reducible] def d_laws_toIntS_3 : SD := ⟨[.data false (.sl .arg (.int .i64)),B,B,.data false (.sl (.own (some 36864)) (.int .i64)),DI,B,B,B,B,B,B,B,B,B,B,B,B,B,B,B,B,B], [Z,Z,Z,Z,Z,Z,Z,Z,Z,Z,Z,Z,Z,Z,Z,Z,Z,Z,Z,Z,Z,Z], none⟩
noncomputable def t_laws_toIntS_3 {R : Type} (X : SD.D d_laws_toIntS_3) (K : Ex → AS → Option R) := Pu.laws_toIntS_T3 (fun y0 y1 => K (.exit 0) (SD.enc d_laws_toIntS_3 ((X.1.1, (y0, (y1, ()))), (), ()))) X.1.1
noncomputable def l_laws_toIntS_3 : LEnt := ⟨d_laws_toIntS_3, fun X K => iterL (t_laws_toIntS_3 X K) fuel (X.1.2.1, X.1.2.2.1)⟩
noncomputable def L_laws_toIntS : Lam := (Lam.nil).add 3 l_laws_toIntS_3
theorem lok_laws_toIntS_3 : LOk E g_laws_toIntS n_laws_toIntS L_laws_toIntS (loopBody Tryz.f86 0) :=
  lok l_laws_toIntS_3 (by kernel_rfl) fuel fun R X K => (loop_iter (σ := (List Int) × Int) (fun x => SD.enc d_laws_toIntS_3 ((X.1.1, (x.1, (x.2, ()))), (), ())) (t_laws_toIntS_3 X K) (fun m x => by kernel_rfl) fuel (X.1.2.1, X.1.2.2.1)).symm
theorem ok_laws_toIntS : FnOk Tryz.prog 86 e_laws_toIntS := FnOk.of (fnOk (Γ := g_laws_toIntS) (an := n_laws_toIntS) (Λ := L_laws_toIntS) (base) Tryz.func86 (by kernel_rfl) (hF (by kernel_rfl) (cF lok_laws_toIntS_3 nF))) (fun a => by kernel_rfl)
noncomputable def e_laws_toFilter : GEnt := entOf [.data true TFilter] [(true, (.pair (.int .i64) (.pair .bool (.sl (.own none) (.int .i64)))))] fun a => Pu.laws_toFilter a.1
theorem ok_laws_toFilter : FnOk Tryz.prog 65 e_laws_toFilter := FnOk.of (fnOk (an := { mv := [14] }) (Λ := Lam.nil) ((base).add ok_laws_toIntS) Tryz.func65 (by kernel_rfl) (hF (by kernel_rfl) nF)) (fun a => by kernel_rfl)
noncomputable def e_laws_toRule : GEnt := entOf [.data true TRule] [(true, (.pair (.int .i64) (.pair (.int .i64) (.pair (.int .i64) (.pair (.int .i64) (.pair (.int .i64) (.pair (.int .i64) (.pair (.int .i64) (.pair (.int .i64) (.int .i64))))))))))] fun a => Pu.laws_toRule a.1
theorem ok_laws_toRule : FnOk Tryz.prog 102 e_laws_toRule := FnOk.of (fnOk (an := {}) (Λ := Lam.nil) (base) Tryz.func102 (by kernel_rfl) (hF (by kernel_rfl) nF)) (fun a => by kernel_rfl)
noncomputable def e_laws_toRuleS : GEnt := entOf [.data false (.sl TRule)] [(false, (.sl (.own none) TRule))] fun a => Pu.laws_toRuleS a.1
noncomputable def g_laws_toRuleS : Gam := (Gam.nil).add 102 e_laws_toRule
def n_laws_toRuleS : An := { mask := fun | 3 => [0, 3, 4] | _ => [], mv := [22] }
@[reducible] def d_laws_toRuleS_3 : SD := ⟨[.data false (.sl .arg TRule),B,B,.data false (.sl (.own (some 36864)) TRule),DI,B,B,B,B,B,B,B,B,B,B,B,B,B,B,B,B,B,B], [Z,Z,Z,Z,Z,Z,Z,Z,Z,Z,Z,Z,Z,Z,Z,Z,Z,Z,Z,Z,Z,Z,Z], none⟩
noncomputable def t_laws_toRuleS_3 {R : Type} (X : SD.D d_laws_toRuleS_3) (K : Ex → AS → Option R) := Pu.laws_toRuleS_T3 (fun y0 y1 => K (.exit 0) (SD.enc d_laws_toRuleS_3 ((X.1.1, (y0, (y1, ()))), (), ()))) X.1.1
noncomputable def l_laws_toRuleS_3 : LEnt := ⟨d_laws_toRuleS_3, fun X K => iterL (t_laws_toRuleS_3 X K) fuel (X.1.2.1, X.1.2.2.1)⟩
noncomputable def L_laws_toRuleS : Lam := (Lam.nil).add 3 l_laws_toRuleS_3
theorem lok_laws_toRuleS_3 : LOk E g_laws_toRuleS n_laws_toRuleS L_laws_toRuleS (loopBody Tryz.f87 0) :=
  lok l_laws_toRuleS_3 (by kernel_rfl) fuel fun R X K => (loop_iter (σ := (List Pu.Rule) × Int) (fun x => SD.enc d_laws_toRuleS_3 ((X.1.1, (x.1, (x.2, ()))), (), ())) (t_laws_toRuleS_3 X K) (fun m x => by kernel_rfl) fuel (X.1.2.1, X.1.2.2.1)).symm
theorem ok_laws_toRuleS : FnOk Tryz.prog 87 e_laws_toRuleS := FnOk.of (fnOk (Γ := g_laws_toRuleS) (an := n_laws_toRuleS) (Λ := L_laws_toRuleS) ((base).add ok_laws_toRule) Tryz.func87 (by kernel_rfl) (hF (by kernel_rfl) (cF lok_laws_toRuleS_3 nF))) (fun a => by kernel_rfl)
noncomputable def e_laws_toFlow : GEnt := entOf [.data true TFlow] [(true, (.pair (.int .i64) (.pair (.int .i64) (.pair (.int .i64) (.pair (.int .i64) (.int .i64))))))] fun a => Pu.laws_toFlow a.1
theorem ok_laws_toFlow : FnOk Tryz.prog 104 e_laws_toFlow := FnOk.of (fnOk (an := {}) (Λ := Lam.nil) (base) Tryz.func104 (by kernel_rfl) (hF (by kernel_rfl) nF)) (fun a => by kernel_rfl)
noncomputable def e_laws_toSlot : GEnt := entOf [.data true TSlot] [(true, (.pair (.int .i64) (.pair (.pair (.int .i64) (.pair (.int .i64) (.pair (.int .i64) (.pair (.int .i64) (.int .i64))))) (.int .i64))))] fun a => Pu.laws_toSlot a.1
theorem ok_laws_toSlot : FnOk Tryz.prog 109 e_laws_toSlot := FnOk.of (fnOk (an := {}) (Λ := Lam.nil) ((base).add ok_laws_toFlow) Tryz.func109 (by kernel_rfl) (hF (by kernel_rfl) nF)) (fun a => by kernel_rfl)
noncomputable def e_laws_toSlotS : GEnt := entOf [.data false (.sl TSlot)] [(false, (.sl (.own none) TSlot))] fun a => Pu.laws_toSlotS a.1
noncomputable def g_laws_toSlotS : Gam := (Gam.nil).add 109 e_laws_toSlot
def n_laws_toSlotS : An := { mask := fun | 3 => [0, 3, 4] | _ => [], mv := [22] }
@[reducible] def d_laws_toSlotS_3 : SD := ⟨[.data false (.sl .arg TSlot),B,B,.data false (.sl (.own (some 36864)) TSlot),DI,B,B,B,B,B,B,B,B,B,B,B,B,B,B,B,B,B,B], [Z,Z,Z,Z,Z,Z,Z,Z,Z,Z,Z,Z,Z,Z,Z,Z,Z,Z,Z,Z,Z,Z,Z], none⟩
noncomputable def t_laws_toSlotS_3 {R : Type} (X : SD.D d_laws_toSlotS_3) (K : Ex → AS → Option R) := Pu.laws_toSlotS_T3 (fun y0 y1 => K (.exit 0) (SD.enc d_laws_toSlotS_3 ((X.1.1, (y0, (y1, ()))), (), ()))) X.1.1
noncomputable def l_laws_toSlotS_3 : LEnt := ⟨d_laws_toSlotS_3, fun X K => iterL (t_laws_toSlotS_3 X K) fuel (X.1.2.1, X.1.2.2.1)⟩
noncomputable def L_laws_toSlotS : Lam := (Lam.nil).add 3 l_laws_toSlotS_3
theorem lok_laws_toSlotS_3 : LOk E g_laws_toSlotS n_laws_toSlotS L_laws_toSlotS (loopBody Tryz.f103 0) :=
  lok l_laws_toSlotS_3 (by kernel_rfl) fuel fun R X K => (loop_iter (σ := (List Pu.Slot) × Int) (fun x => SD.enc d_laws_toSlotS_3 ((X.1.1, (x.1, (x.2, ()))), (), ())) (t_laws_toSlotS_3 X K) (fun m x => by kernel_rfl) fuel (X.1.2.1, X.1.2.2.1)).symm
theorem ok_laws_toSlotS : FnOk Tryz.prog 103 e_laws_toSlotS := FnOk.of (fnOk (Γ := g_laws_toSlotS) (an := n_laws_toSlotS) (Λ := L_laws_toSlotS) ((base).add ok_laws_toSlot) Tryz.func103 (by kernel_rfl) (hF (by kernel_rfl) (cF lok_laws_toSlotS_3 nF))) (fun a => by kernel_rfl)
noncomputable def e_laws_toFlowTable : GEnt := entOf [.data true (.sl TSlot)] [(true, (.sl (.own none) TSlot))] fun a => Pu.laws_toFlowTable a.1
theorem ok_laws_toFlowTable : FnOk Tryz.prog 88 e_laws_toFlowTable := FnOk.of (fnOk (an := { mv := [8] }) (Λ := Lam.nil) ((base).add ok_laws_toSlotS) Tryz.func88 (by kernel_rfl) (hF (by kernel_rfl) nF)) (fun a => by kernel_rfl)
noncomputable def e_laws_toSpread : GEnt := entOf [.data true TSpread] [(true, (.pair .str (.sl (.own none) (.int .i64))))] fun a => Pu.laws_toSpread a.1
theorem ok_laws_toSpread : FnOk Tryz.prog 89 e_laws_toSpread := FnOk.of (fnOk (an := { mv := [11] }) (Λ := Lam.nil) ((base).add ok_laws_toIntS) Tryz.func89 (by kernel_rfl) (hF (by kernel_rfl) nF)) (fun a => by kernel_rfl)
noncomputable def e_laws_toSteering : GEnt := entOf [.data true TSteering] [(true, (.pair (.sl (.own none) TRule) (.pair (.sl (.own none) TSlot) (.pair .str (.sl (.own none) (.int .i64))))))] fun a => Pu.laws_toSteering a.1
theorem ok_laws_toSteering : FnOk Tryz.prog 66 e_laws_toSteering := FnOk.of (fnOk (an := { mv := [16] }) (Λ := Lam.nil) ((((base).add ok_laws_toRuleS).add ok_laws_toFlowTable).add ok_laws_toSpread) Tryz.func66 (by kernel_rfl) (hF (by kernel_rfl) nF)) (fun a => by kernel_rfl)
noncomputable def e_laws_toStream : GEnt := entOf [.data true TStream] [(true, (.pair (.pair (.int .i64) (.pair (.int .i64) (.pair (.int .i64) (.pair (.int .i64) (.int .i64))))) (.pair (.int .i64) (.pair .str .bool))))] fun a => Pu.laws_toStream a.1
theorem ok_laws_toStream : FnOk Tryz.prog 90 e_laws_toStream := FnOk.of (fnOk (an := {}) (Λ := Lam.nil) ((base).add ok_laws_toFlow) Tryz.func90 (by kernel_rfl) (hF (by kernel_rfl) nF)) (fun a => by kernel_rfl)
noncomputable def e_laws_toStreamS : GEnt := entOf [.data false (.sl TStream)] [(false, (.sl (.own none) TStream))] fun a => Pu.laws_toStreamS a.1
noncomputable def g_laws_toStreamS : Gam := (Gam.nil).add 90 e_laws_toStream
def n_laws_toStreamS : An := { mask := fun | 3 => [0, 3, 4] | _ => [], mv := [22] }
@[reducible] def d_laws_toStreamS_3 : SD := ⟨[.data false (.sl .arg TStream),B,B,.data false (.sl (.own (some 36864)) TStream),DI,B,B,B,B,B,B,B,B,B,B,B,B,B,B,B,B,B,B], [Z,Z,Z,Z,Z,Z,Z,Z,Z,Z,Z,Z,Z,Z,Z,Z,Z,Z,Z,Z,Z,Z,Z], none⟩
noncomputable def t_laws_toStreamS_3 {R : Type} (X : SD.D d_laws_toStreamS_3) (K : Ex → AS → Option R) := Pu.laws_toStreamS_T3 (fun y0 y1 => K (.exit 0) (SD.enc d_laws_toStreamS_3 ((X.1.1, (y0, (y1, ()))), (), ()))) X.1.1
noncomputable def l_laws_toStreamS_3 : LEnt := ⟨d_laws_toStreamS_3, fun X K => iterL (t_laws_toStreamS_3 X K) fuel (X.1.2.1, X.1.2.2.1)⟩
noncomputable def L_laws_toStreamS : Lam := (Lam.nil).add 3 l_laws_toStreamS_3
theorem lok_laws_toStreamS_3 : LOk E g_laws_toStreamS n_laws_toStreamS L_laws_toStreamS (loopBody Tryz.f67 0) :=
  lok l_laws_toStreamS_3 (by kernel_rfl) fuel fun R X K => (loop_iter (σ := (List Pu.Stream) × Int) (fun x => SD.enc d_laws_toStreamS_3 ((X.1.1, (x.1, (x.2, ()))), (), ())) (t_laws_toStreamS_3 X K) (fun m x => by kernel_rfl) fuel (X.1.2.1, X.1.2.2.1)).symm
theorem ok_laws_toStreamS : FnOk Tryz.prog 67 e_laws_toStreamS := FnOk.of (fnOk (Γ := g_laws_toStreamS) (an := n_laws_toStreamS) (Λ := L_laws_toStreamS) ((base).add ok_laws_toStream) Tryz.func67 (by kernel_rfl) (hF (by kernel_rfl) (cF lok_laws_toStreamS_3 nF))) (fun a => by kernel_rfl)
noncomputable def e_laws_toSoft : GEnt := entOf [.data true TSoft] [(true, (.pair (.pair (.int .i64) (.pair .bool (.sl (.own none) (.int .i64)))) (.pair (.pair (.sl (.own none) TRule) (.pair (.sl (.own none) TSlot) (.pair .str (.sl (.own none) (.int .i64))))) (.pair (.int .i64) (.pair (.sl (.own none) TStream) (.sl (.own none) .str))))))] fun a => Pu.laws_toSoft a.1
theorem ok_laws_toSoft : FnOk Tryz.prog 43 e_laws_toSoft := FnOk.of (fnOk (an := { mv := [23] }) (Λ := Lam.nil) (((((base).add ok_laws_toStringS).add ok_laws_toFilter).add ok_laws_toSteering).add ok_laws_toStreamS) Tryz.func43 (by kernel_rfl) (hF (by kernel_rfl) nF)) (fun a => by kernel_rfl)
noncomputable def e_laws_toSoftS : GEnt := entOf [.data false (.sl TSoft)] [(false, (.sl (.own none) TSoft))] fun a => Pu.laws_toSoftS a.1
noncomputable def g_laws_toSoftS : Gam := (Gam.nil).add 43 e_laws_toSoft
def n_laws_toSoftS : An := { mask := fun | 3 => [0, 3, 4] | _ => [], mv := [22] }
@[reducible] def d_laws_toSoftS_3 : SD := ⟨[.data false (.sl .arg TSoft),B,B,.data false (.sl (.own (some 36864)) TSoft),DI,B,B,B,B,B,B,B,B,B,B,B,B,B,B,B,B,B,B], [Z,Z,Z,Z,Z,Z,Z,Z,Z,Z,Z,Z,Z,Z,Z,Z,Z,Z,Z,Z,Z,Z,Z], none⟩
noncomputable def t_laws_toSoftS_3 {R : Type} (X : SD.D d_laws_toSoftS_3) (K : Ex → AS → Option R) := Pu.laws_toSoftS_T3 (fun y0 y1 => K (.exit 0) (SD.enc d_laws_toSoftS_3 ((X.1.1, (y0, (y1, ()))), (), ()))) X.1.1
noncomputable def l_laws_toSoftS_3 : LEnt := ⟨d_laws_toSoftS_3, fun X K => iterL (t_laws_toSoftS_3 X K) fuel (X.1.2.1, X.1.2.2.1)⟩
noncomputable def L_laws_toSoftS : Lam := (Lam.nil).add 3 l_laws_toSoftS_3
theorem lok_laws_toSoftS_3 : LOk E g_laws_toSoftS n_laws_toSoftS L_laws_toSoftS (loopBody Tryz.f18 0) :=
  lok l_laws_toSoftS_3 (by kernel_rfl) fuel fun R X K => (loop_iter (σ := (List Pu.Soft) × Int) (fun x => SD.enc d_laws_toSoftS_3 ((X.1.1, (x.1, (x.2, ()))), (), ())) (t_laws_toSoftS_3 X K) (fun m x => by kernel_rfl) fuel (X.1.2.1, X.1.2.2.1)).symm
theorem ok_laws_toSoftS : FnOk Tryz.prog 18 e_laws_toSoftS := FnOk.of (fnOk (Γ := g_laws_toSoftS) (an := n_laws_toSoftS) (Λ := L_laws_toSoftS) ((base).add ok_laws_toSoft) Tryz.func18 (by kernel_rfl) (hF (by kernel_rfl) (cF lok_laws_toSoftS_3 nF))) (fun a => by kernel_rfl)
noncomputable def e_laws_toStringSS : GEnt := entOf [.data false (.sl (.sl .str))] [(false, (.sl (.own none) (.sl .str)))] fun a => Pu.laws_toStringSS a.1
noncomputable def g_laws_toStringSS : Gam := (Gam.nil).add 22 e_laws_toStringS
def n_laws_toStringSS : An := { mask := fun | 3 => [0, 3, 4] | _ => [], mv := [22] }
@[reducible] def d_laws_toStringSS_3 : SD := ⟨[.data false (.sl .arg (.sl .str)),B,B,.data false (.sl (.own (some 36864)) (.sl .str)),DI,B,B,B,B,B,B,B,B,B,B,B,B,B,B,B,B,B,B], [Z,Z,Z,Z,Z,Z,Z,Z,Z,Z,Z,Z,Z,Z,Z,Z,Z,Z,Z,Z,Z,Z,Z], none⟩
noncomputable def t_laws_toStringSS_3 {R : Type} (X : SD.D d_laws_toStringSS_3) (K : Ex → AS → Option R) := Pu.laws_toStringSS_T3 (fun y0 y1 => K (.exit 0) (SD.enc d_laws_toStringSS_3 ((X.1.1, (y0, (y1, ()))), (), ()))) X.1.1
noncomputable def l_laws_toStringSS_3 : LEnt := ⟨d_laws_toStringSS_3, fun X K => iterL (t_laws_toStringSS_3 X K) fuel (X.1.2.1, X.1.2.2.1)⟩
noncomputable def L_laws_toStringSS : Lam := (Lam.nil).add 3 l_laws_toStringSS_3
theorem lok_laws_toStringSS_3 : LOk E g_laws_toStringSS n_laws_toStringSS L_laws_toStringSS (loopBody Tryz.f19 0) :=
  lok l_laws_toStringSS_3 (by kernel_rfl) fuel fun R X K => (loop_iter (σ := (List (List Pu.Bytes)) × Int) (fun x => SD.enc d_laws_toStringSS_3 ((X.1.1, (x.1, (x.2, ()))), (), ())) (t_laws_toStringSS_3 X K) (fun m x => by kernel_rfl) fuel (X.1.2.1, X.1.2.2.1)).symm
theorem ok_laws_toStringSS : FnOk Tryz.prog 19 e_laws_toStringSS := FnOk.of (fnOk (Γ := g_laws_toStringSS) (an := n_laws_toStringSS) (Λ := L_laws_toStringSS) ((base).add ok_laws_toStringS) Tryz.func19 (by kernel_rfl) (hF (by kernel_rfl) (cF lok_laws_toStringSS_3 nF))) (fun a => by kernel_rfl)
noncomputable def e_laws_toBucket : GEnt := entOf [.data true TBucket] [(true, (.pair (.int .i64) (.pair (.int .i64) (.int .i64))))] fun a => Pu.laws_toBucket a.1
theorem ok_laws_toBucket : FnOk Tryz.prog 68 e_laws_toBucket := FnOk.of (fnOk (an := {}) (Λ := Lam.nil) (base) Tryz.func68 (by kernel_rfl) (hF (by kernel_rfl) nF)) (fun a => by kernel_rfl)
noncomputable def e_laws_toVirtualFunction : GEnt := entOf [.data true TVirtualFunction] [(true, (.pair (.int .i64) (.pair (.int .i64) (.pair (.pair (.int .i64) (.pair (.int .i64) (.int .i64))) (.pair .bool (.pair (.int .i64) (.int .i64)))))))] fun a => Pu.laws_toVirtualFunction a.1
theorem ok_laws_toVirtualFunction : FnOk Tryz.prog 44 e_laws_toVirtualFunction := FnOk.of (fnOk (an := {}) (Λ := Lam.nil) ((base).add ok_laws_toBucket) Tryz.func44 (by kernel_rfl) (hF (by kernel_rfl) nF)) (fun a => by kernel_rfl)
noncomputable def e_laws_toVirtualFunctionS : GEnt := entOf [.data false (.sl TVirtualFunction)] [(false, (.sl (.own none) TVirtualFunction))] fun a => Pu.laws_toVirtualFunctionS a.1
noncomputable def g_laws_toVirtualFunctionS : Gam := (Gam.nil).add 44 e_laws_toVirtualFunction
def n_laws_toVirtualFunctionS : An := { mask := fun | 3 => [0, 3, 4] | _ => [], mv := [22] }
@[reducible] def d_laws_toVirtualFunctionS_3 : SD := ⟨[.data false (.sl .arg TVirtualFunction),B,B,.data false (.sl (.own (some 36864)) TVirtualFunction),DI,B,B,B,B,B,B,B,B,B,B,B,B,B,B,B,B,B,B], [Z,Z,Z,Z,Z,Z,Z,Z,Z,Z,Z,Z,Z,Z,Z,Z,Z,Z,Z,Z,Z,Z,Z], none⟩
noncomputable def t_laws_toVirtualFunctionS_3 {R : Type} (X : SD.D d_laws_toVirtualFunctionS_3) (K : Ex → AS → Option R) := Pu.laws_toVirtualFunctionS_T3 (fun y0 y1 => K (.exit 0) (SD.enc d_laws_toVirtualFunctionS_3 ((X.1.1, (y0, (y1, ()))), (), ()))) X.1.1
noncomputable def l_laws_toVirtualFunctionS_3 : LEnt := ⟨d_laws_toVirtualFunctionS_3, fun X K => iterL (t_laws_toVirtualFunctionS_3 X K) fuel (X.1.2.1, X.1.2.2.1)⟩
noncomputable def L_laws_toVirtualFunctionS : Lam := (Lam.nil).add 3 l_laws_toVirtualFunctionS_3
theorem lok_laws_toVirtualFunctionS_3 : LOk E g_laws_toVirtualFunctionS n_laws_toVirtualFunctionS L_laws_toVirtualFunctionS (loopBody Tryz.f20 0) :=
  lok l_laws_toVirtualFunctionS_3 (by kernel_rfl) fuel fun R X K => (loop_iter (σ := (List Pu.VirtualFunction) × Int) (fun x => SD.enc d_laws_toVirtualFunctionS_3 ((X.1.1, (x.1, (x.2, ()))), (), ())) (t_laws_toVirtualFunctionS_3 X K) (fun m x => by kernel_rfl) fuel (X.1.2.1, X.1.2.2.1)).symm
theorem ok_laws_toVirtualFunctionS : FnOk Tryz.prog 20 e_laws_toVirtualFunctionS := FnOk.of (fnOk (Γ := g_laws_toVirtualFunctionS) (an := n_laws_toVirtualFunctionS) (Λ := L_laws_toVirtualFunctionS) ((base).add ok_laws_toVirtualFunction) Tryz.func20 (by kernel_rfl) (hF (by kernel_rfl) (cF lok_laws_toVirtualFunctionS_3 nF))) (fun a => by kernel_rfl)
noncomputable def e_laws_toMailbox : GEnt := entOf [.data true TMailbox] [(true, (.pair (.pair (.int .i64) (.pair .bool (.sl (.own none) (.int .i64)))) (.pair (.int .i64) (.pair (.int .i64) (.int .i64)))))] fun a => Pu.laws_toMailbox a.1
theorem ok_laws_toMailbox : FnOk Tryz.prog 45 e_laws_toMailbox := FnOk.of (fnOk (an := { mv := [17] }) (Λ := Lam.nil) ((base).add ok_laws_toFilter) Tryz.func45 (by kernel_rfl) (hF (by kernel_rfl) nF)) (fun a => by kernel_rfl)
noncomputable def e_laws_toMailboxS : GEnt := entOf [.data false (.sl TMailbox)] [(false, (.sl (.own none) TMailbox))] fun a => Pu.laws_toMailboxS a.1
noncomputable def g_laws_toMailboxS : Gam := (Gam.nil).add 45 e_laws_toMailbox
def n_laws_toMailboxS : An := { mask := fun | 3 => [0, 3, 4] | _ => [], mv := [22] }
@[reducible] def d_laws_toMailboxS_3 : SD := ⟨[.data false (.sl .arg TMailbox),B,B,.data false (.sl (.own (some 36864)) TMailbox),DI,B,B,B,B,B,B,B,B,B,B,B,B,B,B,B,B,B,B], [Z,Z,Z,Z,Z,Z,Z,Z,Z,Z,Z,Z,Z,Z,Z,Z,Z,Z,Z,Z,Z,Z,Z], none⟩
noncomputable def t_laws_toMailboxS_3 {R : Type} (X : SD.D d_laws_toMailboxS_3) (K : Ex → AS → Option R) := Pu.laws_toMailboxS_T3 (fun y0 y1 => K (.exit 0) (SD.enc d_laws_toMailboxS_3 ((X.1.1, (y0, (y1, ()))), (), ()))) X.1.1
noncomputable def l_laws_toMailboxS_3 : LEnt := ⟨d_laws_toMailboxS_3, fun X K => iterL (t_laws_toMailboxS_3 X K) fuel (X.1.2.1, X.1.2.2.1)⟩
noncomputable def L_laws_toMailboxS : Lam := (Lam.nil).add 3 l_laws_toMailboxS_3
theorem lok_laws_toMailboxS_3 : LOk E g_laws_toMailboxS n_laws_toMailboxS L_laws_toMailboxS (loopBody Tryz.f21 0) :=
  lok l_laws_toMailboxS_3 (by kernel_rfl) fuel fun R X K => (loop_iter (σ := (List Pu.Mailbox) × Int) (fun x => SD.enc d_laws_toMailboxS_3 ((X.1.1, (x.1, (x.2, ()))), (), ())) (t_laws_toMailboxS_3 X K) (fun m x => by kernel_rfl) fuel (X.1.2.1, X.1.2.2.1)).symm
theorem ok_laws_toMailboxS : FnOk Tryz.prog 21 e_laws_toMailboxS := FnOk.of (fnOk (Γ := g_laws_toMailboxS) (an := n_laws_toMailboxS) (Λ := L_laws_toMailboxS) ((base).add ok_laws_toMailbox) Tryz.func21 (by kernel_rfl) (hF (by kernel_rfl) (cF lok_laws_toMailboxS_3 nF))) (fun a => by kernel_rfl)
noncomputable def e_laws_toIdeal : GEnt := entOf [.data true TIdeal] [(true, (.pair (.sl (.own none) TSoft) (.pair (.sl (.own none) (.sl .str)) (.pair (.sl (.own none) TVirtualFunction) (.pair (.sl (.own none) TMailbox) (.sl (.own none) .str))))))] fun a => Pu.laws_toIdeal a.1
theorem ok_laws_toIdeal : FnOk Tryz.prog 6 e_laws_toIdeal := FnOk.of (fnOk (an := { mv := [24] }) (Λ := Lam.nil) ((((((base).add ok_laws_toSoftS).add ok_laws_toStringSS).add ok_laws_toVirtualFunctionS).add ok_laws_toMailboxS).add ok_laws_toStringS) Tryz.func6 (by kernel_rfl) (hF (by kernel_rfl) nF)) (fun a => by kernel_rfl)
noncomputable def e_impl_between : GEnt := entOf [.data false (.int .i64), .data false (.int .i64), .data false (.int .i64)] [(false, .bool)] fun a => Pu.impl_between a.1 a.2.1 a.2.2.1
theorem ok_impl_between : FnOk Tryz.prog 46 e_impl_between := FnOk.of (fnOk (an := { merge := fun | 1 => some 6 | _ => none }) (Λ := Lam.nil) (base) Tryz.func46 (by kernel_rfl) (hF (by kernel_rfl) nF)) (fun a => by kernel_rfl)
noncomputable def e_impl_FilterOk : GEnt := entOf [.data true TFilter] [(false, .bool)] fun a => Pu.impl_FilterOk a.1
noncomputable def g_impl_FilterOk : Gam := (Gam.nil).add 46 e_impl_between
def n_impl_FilterOk : An := { mask := fun | 2 => [1, 2, 6, 7, 8] | _ => [], merge := fun | 4 => some 29 | 7 => some 2 | _ => none }
@[reducible] def d_impl_FilterOk_2 : SD := ⟨[B,.ptr 1 0,DB,B,B,B,.data false (.sl .arg (.int .i64)),DI,DI,B,B,B,B,B,B,B,B,B,B,B,B,B,B,B,B,B,B,B,B,B,B,B,B,B,B,B,B,B,B,B], [Z,some (.pair (.int .i64) (.pair .bool (.sl .arg (.int .i64)))),Z,Z,Z,Z,Z,Z,Z,Z,Z,Z,Z,Z,Z,Z,Z,Z,Z,Z,Z,Z,Z,Z,Z,Z,Z,Z,Z,Z,Z,Z,Z,Z,Z,Z,Z,Z,Z,Z], none⟩
noncomputable def t_impl_FilterOk_2 {R : Type} (X : SD.D d_impl_FilterOk_2) (K : Ex → AS → Option R) := Pu.impl_FilterOk_T2 (fun y0 => K (.exit 0) (SD.enc d_impl_FilterOk_2 ((X.1.1, (X.1.2.1, (X.1.2.2.1, (y0, ())))), (X.2.1.1, ()), ()))) (fun y0 y1 => K .ret (SD.enc d_impl_FilterOk_2 ((y0, (X.1.2.1, (X.1.2.2.1, (y1, ())))), (X.2.1.1, ()), ()))) X.1.1 X.1.2.1 X.1.2.2.1 X.2.1.1
noncomputable def l_impl_FilterOk_2 : LEnt := ⟨d_impl_FilterOk_2, fun X K => iterL (t_impl_FilterOk_2 X K) fuel X.1.2.2.2.1⟩
noncomputable def L_impl_FilterOk : Lam := (Lam.nil).add 2 l_impl_FilterOk_2
theorem lok_impl_FilterOk_2 : LOk E g_impl_FilterOk n_impl_FilterOk L_impl_FilterOk (loopBody Tryz.f51 0) :=
  lok l_impl_FilterOk_2 (by kernel_rfl) fuel fun R X K => (loop_iter (σ := Int) (fun x => SD.enc d_impl_FilterOk_2 ((X.1.1, (X.1.2.1, (X.1.2.2.1, (x, ())))), (X.2.1.1, ()), ())) (t_impl_FilterOk_2 X K) (fun m x => by kernel_rfl) fuel X.1.2.2.2.1).symm
theorem ok_impl_FilterOk : FnOk Tryz.prog 51 e_impl_FilterOk := FnOk.of (fnOk (Γ := g_impl_FilterOk) (an := n_impl_FilterOk) (Λ := L_impl_FilterOk) ((base).add ok_impl_between) Tryz.func51 (by kernel_rfl) (hF (by kernel_rfl) (cF lok_impl_FilterOk_2 nF))) (fun a => by kernel_rfl)
noncomputable def e_impl_MailboxOk : GEnt := entOf [.data true TMailbox] [(false, .bool)] fun a => Pu.impl_MailboxOk a.1
theorem ok_impl_MailboxOk : FnOk Tryz.prog 47 e_impl_MailboxOk := FnOk.of (fnOk (an := { merge := fun | 1 => some 2 | _ => none }) (Λ := Lam.nil) (((base).add ok_impl_between).add ok_impl_FilterOk) Tryz.func47 (by kernel_rfl) (hF (by kernel_rfl) nF)) (fun a => by kernel_rfl)
noncomputable def e_impl_hasInt : GEnt := entOf [.data false (.sl (.int .i64)), .data false (.int .i64)] [(false, .bool)] fun a => Pu.impl_hasInt a.1 a.2.1
noncomputable def g_impl_hasInt : Gam := Gam.nil
def n_impl_hasInt : An := { mask := fun | 2 => [1, 4, 7, 8, 9] | _ => [] }
@[reducible] def d_impl_hasInt_2 : SD := ⟨[B,DI,B,B,DB,B,B,.data false (.sl .arg (.int .i64)),DI,DI,B,B,B,B,B,B,B], [Z,Z,Z,Z,Z,Z,Z,Z,Z,Z,Z,Z,Z,Z,Z,Z,Z], none⟩
noncomputable def t_impl_hasInt_2 {R : Type} (X : SD.D d_impl_hasInt_2) (K : Ex → AS → Option R) := Pu.impl_hasInt_T2 (fun y0 => K (.exit 0) (SD.enc d_impl_hasInt_2 ((X.1.1, (X.1.2.1, (X.1.2.2.1, (X.1.2.2.2.1, (y0, ()))))), (), ()))) (fun y0 y1 => K .ret (SD.enc d_impl_hasInt_2 ((X.1.1, (y0, (X.1.2.2.1, (X.1.2.2.2.1, (y1, ()))))), (), ()))) X.1.1 X.1.2.1 X.1.2.2.1 X.1.2.2.2.1
noncomputable def l_impl_hasInt_2 : LEnt := ⟨d_impl_hasInt_2, fun X K => iterL (t_impl_hasInt_2 X K) fuel X.1.2.2.2.2.1⟩
noncomputable def L_impl_hasInt : Lam := (Lam.nil).add 2 l_impl_hasInt_2
theorem lok_impl_hasInt_2 : LOk E g_impl_hasInt n_impl_hasInt L_impl_hasInt (loopBody Tryz.f48 0) :=
  lok l_impl_hasInt_2 (by kernel_rfl) fuel fun R X K => (loop_iter (σ := Int) (fun x => SD.enc d_impl_hasInt_2 ((X.1.1, (X.1.2.1, (X.1.2.2.1, (X.1.2.2.2.1, (x, ()))))), (), ())) (t_impl_hasInt_2 X K) (fun m x => by kernel_rfl) fuel X.1.2.2.2.2.1).symm
theorem ok_impl_hasInt : FnOk Tryz.prog 48 e_impl_hasInt := FnOk.of (fnOk (Γ := g_impl_hasInt) (an := n_impl_hasInt) (Λ := L_impl_hasInt) (base) Tryz.func48 (by kernel_rfl) (hF (by kernel_rfl) (cF lok_impl_hasInt_2 nF))) (fun a => by kernel_rfl)
noncomputable def e_impl_addOrdered : GEnt := entOf [.data false (.sl (.int .i64)), .data false (.int .i64)] [(false, (.sl (.own none) (.int .i64)))] fun a => Pu.impl_addOrdered a.1 a.2.1
noncomputable def g_impl_addOrdered : Gam := Gam.nil
def n_impl_addOrdered : An := { mask := fun | 4 => [1, 5, 6, 10, 11, 12] | _ => [], merge := fun | 6 => some 22 | _ => none, mv := [23, 27, 34, 38] }
@[reducible] def d_impl_addOrdered_4 : SD := ⟨[B,DI,B,B,B,.data false (.sl (.own (some 61440)) (.int .i64)),DB,B,B,B,.data false (.sl .arg (.int .i64)),DI,DI,B,B,B,B,B,B,B,B,B,B,B,B,B,B,B,B,B,B,B,B,B,B,B,B,B,B], [Z,Z,Z,Z,Z,Z,Z,Z,Z,Z,Z,Z,Z,Z,Z,Z,Z,Z,Z,Z,Z,Z,Z,Z,Z,Z,Z,Z,Z,Z,Z,Z,Z,Z,Z,Z,Z,Z,Z], none⟩
noncomputable def t_impl_addOrdered_4 {R : Type} (X : SD.D d_impl_addOrdered_4) (K : Ex → AS → Option R) := Pu.impl_addOrdered_T4 (fun y0 y1 y2 => K (.exit 0) (SD.enc d_impl_addOrdered_4 ((X.1.1, (y0, (y1, (X.1.2.2.2.1, (X.1.2.2.2.2.1, (y2, ())))))), (), ()))) X.1.1 X.1.2.2.2.1 X.1.2.2.2.2.1
noncomputable def l_impl_addOrdered_4 : LEnt := ⟨d_impl_addOrdered_4, fun X K => iterL (t_impl_addOrdered_4 X K) fuel (X.1.2.1, X.1.2.2.1, X.1.2.2.2.2.2.1)⟩
noncomputable def L_impl_addOrdered : Lam := (Lam.nil).add 4 l_impl_addOrdered_4
theorem lok_impl_addOrdered_4 : LOk E g_impl_addOrdered n_impl_addOrdered L_impl_addOrdered (loopBody Tryz.f49 0) :=
  lok l_impl_addOrdered_4 (by kernel_rfl) fuel fun R X K => (loop_iter (σ := (List Int) × Bool × Int) (fun x => SD.enc d_impl_addOrdered_4 ((X.1.1, (x.1, (x.2.1, (X.1.2.2.2.1, (X.1.2.2.2.2.1, (x.2.2, ())))))), (), ())) (t_impl_addOrdered_4 X K) (fun m x => by kernel_rfl) fuel (X.1.2.1, X.1.2.2.1, X.1.2.2.2.2.2.1)).symm
theorem ok_impl_addOrdered : FnOk Tryz.prog 49 e_impl_addOrdered := FnOk.of (fnOk (Γ := g_impl_addOrdered) (an := n_impl_addOrdered) (Λ := L_impl_addOrdered) (base) Tryz.func49 (by kernel_rfl) (hF (by kernel_rfl) (cF lok_impl_addOrdered_4 nF))) (fun a => by kernel_rfl)
noncomputable def e_impl_filterOf : GEnt := entOf [.data true TPort] [(true, (.pair (.int .i64) (.pair .bool (.sl .arg (.int .i64)))))] fun a => Pu.impl_filterOf a.1
theorem ok_impl_filterOf : FnOk Tryz.prog 69 e_impl_filterOf := FnOk.of (fnOk (an := {}) (Λ := Lam.nil) (base) Tryz.func69 (by kernel_rfl) (hF (by kernel_rfl) nF)) (fun a => by kernel_rfl)
noncomputable def e_impl_portWith : GEnt := entOf [.data false (.sl TPort), .data false (.int .i64)] [(false, (.int .i64))] fun a => Pu.impl_portWith a.1 a.2.1
noncomputable def g_impl_portWith : Gam := Gam.nil
def n_impl_portWith : An := { mask := fun | 2 => [1, 4, 7, 8, 9] | _ => [], merge := fun | 4 => some 21 | _ => none }
@[reducible] def d_impl_portWith_2 : SD := ⟨[B,DI,B,B,DI,B,B,.data false (.sl .arg TPort),DI,DI,B,B,B,B,B,B,B,B,B,B,B,B,B,B], [Z,Z,Z,Z,Z,Z,Z,Z,Z,Z,Z,Z,Z,Z,Z,Z,Z,Z,Z,Z,Z,Z,Z,Z], none⟩
noncomputable def t_impl_portWith_2 {R : Type} (X : SD.D d_impl_portWith_2) (K : Ex → AS → Option R) := Pu.impl_portWith_T2 (fun y0 => K (.exit 0) (SD.enc d_impl_portWith_2 ((X.1.1, (X.1.2.1, (X.1.2.2.1, (X.1.2.2.2.1, (y0, ()))))), (), ()))) (fun y0 y1 => K .ret (SD.enc d_impl_portWith_2 ((X.1.1, (y0, (X.1.2.2.1, (X.1.2.2.2.1, (y1, ()))))), (), ()))) X.1.1 X.1.2.1 X.1.2.2.1 X.1.2.2.2.1
noncomputable def l_impl_portWith_2 : LEnt := ⟨d_impl_portWith_2, fun X K => iterL (t_impl_portWith_2 X K) fuel X.1.2.2.2.2.1⟩
noncomputable def L_impl_portWith : Lam := (Lam.nil).add 2 l_impl_portWith_2
theorem lok_impl_portWith_2 : LOk E g_impl_portWith n_impl_portWith L_impl_portWith (loopBody Tryz.f70 0) :=
  lok l_impl_portWith_2 (by kernel_rfl) fuel fun R X K => (loop_iter (σ := Int) (fun x => SD.enc d_impl_portWith_2 ((X.1.1, (X.1.2.1, (X.1.2.2.1, (X.1.2.2.2.1, (x, ()))))), (), ())) (t_impl_portWith_2 X K) (fun m x => by kernel_rfl) fuel X.1.2.2.2.2.1).symm
theorem ok_impl_portWith : FnOk Tryz.prog 70 e_impl_portWith := FnOk.of (fnOk (Γ := g_impl_portWith) (an := n_impl_portWith) (Λ := L_impl_portWith) (base) Tryz.func70 (by kernel_rfl) (hF (by kernel_rfl) (cF lok_impl_portWith_2 nF))) (fun a => by kernel_rfl)
noncomputable def e_impl_PortsOk : GEnt := entOf [.data false (.sl TPort)] [(false, .bool)] fun a => Pu.impl_PortsOk a.1
noncomputable def g_impl_PortsOk : Gam := (((((Gam.nil).add 46 e_impl_between).add 48 e_impl_hasInt).add 51 e_impl_FilterOk).add 69 e_impl_filterOf).add 70 e_impl_portWith
def n_impl_PortsOk : An := { mask := fun | 4 => [0, 2, 9, 10, 11] | _ => [], merge := fun | 6 => some 27 | 8 => some 37 | _ => none }
@[reducible] def d_impl_PortsOk_4 : SD := ⟨[.data false (.sl .arg TPort),B,DB,B,B,B,B,B,B,.data false (.sl .arg TPort),DI,DI,B,B,B,B,B,B,B,B,B,B,B,B,B,B,B,B,B,B,B,B,B,B,B,B,B,B,B], [Z,Z,Z,Z,Z,Z,Z,Z,Z,Z,Z,Z,Z,Z,Z,Z,Z,Z,Z,Z,Z,Z,Z,Z,Z,Z,Z,Z,Z,Z,Z,Z,Z,Z,Z,Z,Z,Z,Z], none⟩
noncomputable def t_impl_PortsOk_4 {R : Type} (X : SD.D d_impl_PortsOk_4) (K : Ex → AS → Option R) := Pu.impl_PortsOk_T4 (fun y0 => K (.exit 0) (SD.enc d_impl_PortsOk_4 ((X.1.1, (X.1.2.1, (X.1.2.2.1, (X.1.2.2.2.1, (y0, ()))))), (), ()))) (fun y0 y1 => K .ret (SD.enc d_impl_PortsOk_4 ((X.1.1, (y0, (X.1.2.2.1, (X.1.2.2.2.1, (y1, ()))))), (), ()))) X.1.1 X.1.2.1 X.1.2.2.1 X.1.2.2.2.1
noncomputable def l_impl_PortsOk_4 : LEnt := ⟨d_impl_PortsOk_4, fun X K => iterL (t_impl_PortsOk_4 X K) fuel X.1.2.2.2.2.1⟩
noncomputable def L_impl_PortsOk : Lam := (Lam.nil).add 4 l_impl_PortsOk_4
theorem lok_impl_PortsOk_4 : LOk E g_impl_PortsOk n_impl_PortsOk L_impl_PortsOk (loopBody Tryz.f50 0) :=
  lok l_impl_PortsOk_4 (by kernel_rfl) fuel fun R X K => (loop_iter (σ := Int) (fun x => SD.enc d_impl_PortsOk_4 ((X.1.1, (X.1.2.1, (X.1.2.2.1, (X.1.2.2.2.1, (x, ()))))), (), ())) (t_impl_PortsOk_4 X K) (fun m x => by kernel_rfl) fuel X.1.2.2.2.2.1).symm
theorem ok_impl_PortsOk : FnOk Tryz.prog 50 e_impl_PortsOk := FnOk.of (fnOk (Γ := g_impl_PortsOk) (an := n_impl_PortsOk) (Λ := L_impl_PortsOk) ((((((base).add ok_impl_between).add ok_impl_hasInt).add ok_impl_FilterOk).add ok_impl_filterOf).add ok_impl_portWith) Tryz.func50 (by kernel_rfl) (hF (by kernel_rfl) (cF lok_impl_PortsOk_4 nF))) (fun a => by kernel_rfl)
noncomputable def e_impl_PortsOf : GEnt := entOf [.data false (.sl TMailbox)] [(false, (.sl (.own none) TPort)), (false, .bool)] fun a => Pu.impl_PortsOf a.1
noncomputable def g_impl_PortsOf : Gam := (((((Gam.nil).add 46 e_impl_between).add 47 e_impl_MailboxOk).add 48 e_impl_hasInt).add 49 e_impl_addOrdered).add 50 e_impl_PortsOk
def n_impl_PortsOf : An := { mask := fun | 6 => [2, 3, 4, 5, 18, 19, 20] | 12 => [2, 3, 4, 5, 7, 8, 18, 19, 20, 32, 33, 34] | _ => [], mv := [53, 57, 63, 69] }
@[reducible] def d_impl_PortsOf_12 : SD := ⟨[B,B,.data false (.sl (.own (some 24576)) TPort),DB,.data false (.sl (.own (some 49152)) TPort),.data false (.sl (.own (some 61440)) (.int .i64)),B,.ptr 7 0,.data false (.sl (.own (some 98304)) (.int .i64)),B,B,B,B,B,B,B,B,B,.data false (.sl .arg TMailbox),DI,DI,B,B,B,B,B,B,B,B,B,B,B,.data false (.sl (.own (some 393216)) (.int .i64)),DI,DI,B,B,B,B,B,B,B,B,B,B,B,B,B,B,B,B,B,B,B,B,B,B,B,B,B,B,B,B,B,B,B,B,B,B,B], [Z,Z,Z,Z,Z,Z,Z,some (.pair (.pair (.int .i64) (.pair .bool (.sl .arg (.int .i64)))) (.pair (.int .i64) (.pair (.int .i64) (.int .i64)))),Z,Z,Z,Z,Z,Z,Z,Z,Z,Z,Z,Z,Z,Z,Z,Z,Z,Z,Z,Z,Z,Z,Z,Z,Z,Z,Z,Z,Z,Z,Z,Z,Z,Z,Z,Z,Z,Z,Z,Z,Z,Z,Z,Z,Z,Z,Z,Z,Z,Z,Z,Z,Z,Z,Z,Z,Z,Z,Z,Z,Z,Z], none⟩
noncomputable def t_impl_PortsOf_12 {R : Type} (X : SD.D d_impl_PortsOf_12) (K : Ex → AS → Option R) := Pu.impl_PortsOf_T12 (fun y0 y1 y2 => K (.exit 2) (SD.enc d_impl_PortsOf_12 ((X.1.1, (X.1.2.1, (X.1.2.2.1, (y0, (y1, (X.1.2.2.2.2.2.1, (X.1.2.2.2.2.2.2.1, (X.1.2.2.2.2.2.2.2.1, (X.1.2.2.2.2.2.2.2.2.1, (X.1.2.2.2.2.2.2.2.2.2.1, (y2, ()))))))))))), (X.2.1.1, ()), ()))) X.1.1 X.1.2.1 X.1.2.2.1 X.1.2.2.2.2.2.1 X.1.2.2.2.2.2.2.1 X.1.2.2.2.2.2.2.2.1 X.1.2.2.2.2.2.2.2.2.1 X.1.2.2.2.2.2.2.2.2.2.1 X.2.1.1
noncomputable def l_impl_PortsOf_12 : LEnt := ⟨d_impl_PortsOf_12, fun X K => iterL (t_impl_PortsOf_12 X K) fuel (X.1.2.2.2.1, X.1.2.2.2.2.1, X.1.2.2.2.2.2.2.2.2.2.2.1)⟩
@[reducible] def d_impl_PortsOf_6 : SD := ⟨[B,B,.data false (.sl (.own (some 24576)) TPort),DB,.data false (.sl (.own (some 49152)) TPort),.data false (.sl (.own (some 61440)) (.int .i64)),B,B,B,B,B,B,B,B,B,B,B,B,.data false (.sl .arg TMailbox),DI,DI,B,B,B,B,B,B,B,B,B,B,B,B,B,B,B,B,B,B,B,B,B,B,B,B,B,B,B,B,B,B,B,B,B,B,B,B,B,B,B,B,B,B,B,B,B,B,B,B,B], [Z,Z,Z,Z,Z,Z,Z,Z,Z,Z,Z,Z,Z,Z,Z,Z,Z,Z,Z,Z,Z,Z,Z,Z,Z,Z,Z,Z,Z,Z,Z,Z,Z,Z,Z,Z,Z,Z,Z,Z,Z,Z,Z,Z,Z,Z,Z,Z,Z,Z,Z,Z,Z,Z,Z,Z,Z,Z,Z,Z,Z,Z,Z,Z,Z,Z,Z,Z,Z,Z], none⟩
noncomputable def t_impl_PortsOf_6 {R : Type} (X : SD.D d_impl_PortsOf_6) (K : Ex → AS → Option R) := Pu.impl_PortsOf_T6 (fun y0 y1 y2 => K (.exit 0) (SD.enc d_impl_PortsOf_6 ((X.1.1, (X.1.2.1, (y0, (y1, (X.1.2.2.2.2.1, (X.1.2.2.2.2.2.1, (y2, ()))))))), (), ()))) (fun y0 y1 y2 y3 y4 => K .ret (SD.enc d_impl_PortsOf_6 ((y0, (y1, (y2, (y3, (X.1.2.2.2.2.1, (X.1.2.2.2.2.2.1, (y4, ()))))))), (), ()))) X.1.1 X.1.2.1 X.1.2.2.2.2.1 X.1.2.2.2.2.2.1
noncomputable def l_impl_PortsOf_6 : LEnt := ⟨d_impl_PortsOf_6, fun X K => iterL (t_impl_PortsOf_6 X K) fuel (X.1.2.2.1, X.1.2.2.2.1, X.1.2.2.2.2.2.2.1)⟩
noncomputable def L_impl_PortsOf : Lam := ((Lam.nil).add 12 l_impl_PortsOf_12).add 6 l_impl_PortsOf_6
theorem lok_impl_PortsOf_12 : LOk E g_impl_PortsOf n_impl_PortsOf L_impl_PortsOf (loopBody Tryz.f23 1) :=
  lok l_impl_PortsOf_12 (by kernel_rfl) fuel fun R X K => (loop_iter (σ := (List Int) × (List Int) × Int) (fun x => SD.enc d_impl_PortsOf_12 ((X.1.1, (X.1.2.1, (X.1.2.2.1, (x.1, (x.2.1, (X.1.2.2.2.2.2.1, (X.1.2.2.2.2.2.2.1, (X.1.2.2.2.2.2.2.2.1, (X.1.2.2.2.2.2.2.2.2.1, (X.1.2.2.2.2.2.2.2.2.2.1, (x.2.2, ()))))))))))), (X.2.1.1, ()), ())) (t_impl_PortsOf_12 X K) (fun m x => by kernel_rfl) fuel (X.1.2.2.2.1, X.1.2.2.2.2.1, X.1.2.2.2.2.2.2.2.2.2.2.1)).symm
theorem lok_impl_PortsOf_6 : LOk E g_impl_PortsOf n_impl_PortsOf L_impl_PortsOf (loopBody Tryz.f23 0) :=
  lok l_impl_PortsOf_6 (by kernel_rfl) fuel fun R X K => (loop_iter (σ := (List Pu.Port) × (List Int) × Int) (fun x => SD.enc d_impl_PortsOf_6 ((X.1.1, (X.1.2.1, (x.1, (x.2.1, (X.1.2.2.2.2.1, (X.1.2.2.2.2.2.1, (x.2.2, ()))))))), (), ())) (t_impl_PortsOf_6 X K) (fun m x => by kernel_rfl) fuel (X.1.2.2.1, X.1.2.2.2.1, X.1.2.2.2.2.2.2.1)).symm
theorem ok_impl_PortsOf : FnOk Tryz.prog 23 e_impl_PortsOf := FnOk.of (fnOk (Γ := g_impl_PortsOf) (an := n_impl_PortsOf) (Λ := L_impl_PortsOf) ((((((base).add ok_impl_between).add ok_impl_MailboxOk).add ok_impl_hasInt).add ok_impl_addOrdered).add ok_impl_PortsOk) Tryz.func23 (by kernel_rfl) (hF (by kernel_rfl) (cF lok_impl_PortsOf_6 (cF lok_impl_PortsOf_12 nF)))) (fun a => by kernel_rfl)
noncomputable def e_impl_RuleOk : GEnt := entOf [.data true TRule] [(false, .bool)] fun a => Pu.impl_RuleOk a.1
theorem ok_impl_RuleOk : FnOk Tryz.prog 91 e_impl_RuleOk := FnOk.of (fnOk (an := { merge := fun | 1 => some 33 | 3 => some 54 | 5 => some 2 | _ => none }) (Λ := Lam.nil) ((base).add ok_impl_between) Tryz.func91 (by kernel_rfl) (hF (by kernel_rfl) nF)) (fun a => by kernel_rfl)
noncomputable def e_impl_RulesOk : GEnt := entOf [.data false (.sl TRule)] [(false, .bool)] fun a => Pu.impl_RulesOk a.1
noncomputable def g_impl_RulesOk : Gam := (Gam.nil).add 91 e_impl_RuleOk
def n_impl_RulesOk : An := { mask := fun | 2 => [0, 2, 5, 6, 7] | _ => [] }
@[reducible] def d_impl_RulesOk_2 : SD := ⟨[.data false (.sl .arg TRule),B,DB,B,B,.data false (.sl .arg TRule),DI,DI,B,B,B,B,B,B,B,B,B,B], [Z,Z,Z,Z,Z,Z,Z,Z,Z,Z,Z,Z,Z,Z,Z,Z,Z,Z], none⟩
noncomputable def t_impl_RulesOk_2 {R : Type} (X : SD.D d_impl_RulesOk_2) (K : Ex → AS → Option R) := Pu.impl_RulesOk_T2 (fun y0 => K (.exit 0) (SD.enc d_impl_RulesOk_2 ((X.1.1, (X.1.2.1, (X.1.2.2.1, (X.1.2.2.2.1, (y0, ()))))), (), ()))) (fun y0 y1 => K .ret (SD.enc d_impl_RulesOk_2 ((X.1.1, (y0, (X.1.2.2.1, (X.1.2.2.2.1, (y1, ()))))), (), ()))) X.1.1 X.1.2.1 X.1.2.2.1 X.1.2.2.2.1
noncomputable def l_impl_RulesOk_2 : LEnt := ⟨d_impl_RulesOk_2, fun X K => iterL (t_impl_RulesOk_2 X K) fuel X.1.2.2.2.2.1⟩
noncomputable def L_impl_RulesOk : Lam := (Lam.nil).add 2 l_impl_RulesOk_2
theorem lok_impl_RulesOk_2 : LOk E g_impl_RulesOk n_impl_RulesOk L_impl_RulesOk (loopBody Tryz.f71 0) :=
  lok l_impl_RulesOk_2 (by kernel_rfl) fuel fun R X K => (loop_iter (σ := Int) (fun x => SD.enc d_impl_RulesOk_2 ((X.1.1, (X.1.2.1, (X.1.2.2.1, (X.1.2.2.2.1, (x, ()))))), (), ())) (t_impl_RulesOk_2 X K) (fun m x => by kernel_rfl) fuel X.1.2.2.2.2.1).symm
theorem ok_impl_RulesOk : FnOk Tryz.prog 71 e_impl_RulesOk := FnOk.of (fnOk (Γ := g_impl_RulesOk) (an := n_impl_RulesOk) (Λ := L_impl_RulesOk) ((base).add ok_impl_RuleOk) Tryz.func71 (by kernel_rfl) (hF (by kernel_rfl) (cF lok_impl_RulesOk_2 nF))) (fun a => by kernel_rfl)
noncomputable def e_impl_slotOf : GEnt := entOf [.data true (.sl TSlot), .data true TFlow] [(false, (.int .i64))] fun a => Pu.impl_slotOf a.1 a.2.1
noncomputable def g_impl_slotOf : Gam := Gam.nil
def n_impl_slotOf : An := { mask := fun | 2 => [3, 4, 8, 9, 10] | _ => [], merge := fun | 4 => some 23 | _ => none }
@[reducible] def d_impl_slotOf_2 : SD := ⟨[B,B,B,.ptr 3 0,DI,B,B,B,.data false (.sl .arg TSlot),DI,DI,B,B,B,B,B,B,B,B,B,B,B,B,B,B,B], [Z,Z,Z,some (.pair (.int .i64) (.pair (.int .i64) (.pair (.int .i64) (.pair (.int .i64) (.int .i64))))),Z,Z,Z,Z,Z,Z,Z,Z,Z,Z,Z,Z,Z,Z,Z,Z,Z,Z,Z,Z,Z,Z], none⟩
noncomputable def t_impl_slotOf_2 {R : Type} (X : SD.D d_impl_slotOf_2) (K : Ex → AS → Option R) := Pu.impl_slotOf_T2 (fun y0 => K (.exit 0) (SD.enc d_impl_slotOf_2 ((X.1.1, (X.1.2.1, (X.1.2.2.1, (y0, ())))), (X.2.1.1, ()), ()))) (fun y0 y1 => K .ret (SD.enc d_impl_slotOf_2 ((y0, (X.1.2.1, (X.1.2.2.1, (y1, ())))), (X.2.1.1, ()), ()))) X.1.1 X.1.2.1 X.1.2.2.1 X.2.1.1
noncomputable def l_impl_slotOf_2 : LEnt := ⟨d_impl_slotOf_2, fun X K => iterL (t_impl_slotOf_2 X K) fuel X.1.2.2.2.1⟩
noncomputable def L_impl_slotOf : Lam := (Lam.nil).add 2 l_impl_slotOf_2
theorem lok_impl_slotOf_2 : LOk E g_impl_slotOf n_impl_slotOf L_impl_slotOf (loopBody Tryz.f92 0) :=
  lok l_impl_slotOf_2 (by kernel_rfl) fuel fun R X K => (loop_iter (σ := Int) (fun x => SD.enc d_impl_slotOf_2 ((X.1.1, (X.1.2.1, (X.1.2.2.1, (x, ())))), (X.2.1.1, ()), ())) (t_impl_slotOf_2 X K) (fun m x => by kernel_rfl) fuel X.1.2.2.2.1).symm
theorem ok_impl_slotOf : FnOk Tryz.prog 92 e_impl_slotOf := FnOk.of (fnOk (Γ := g_impl_slotOf) (an := n_impl_slotOf) (Λ := L_impl_slotOf) (base) Tryz.func92 (by kernel_rfl) (hF (by kernel_rfl) (cF lok_impl_slotOf_2 nF))) (fun a => by kernel_rfl)
noncomputable def e_impl_modulo : GEnt := entOf [.data false (.int .i64), .data false (.int .i64)] [(false, (.int .i64))] fun a => Pu.impl_modulo a.1 a.2.1
theorem ok_impl_modulo : FnOk Tryz.prog 110 e_impl_modulo := FnOk.of (fnOk (an := {}) (Λ := Lam.nil) (base) Tryz.func110 (by kernel_rfl) (hF (by kernel_rfl) nF)) (fun a => by kernel_rfl)
noncomputable def e_impl_HomeSlot : GEnt := entOf [.data true TFlow] [(false, (.int .i64))] fun a => Pu.impl_HomeSlot a.1
noncomputable def g_impl_HomeSlot : Gam := (Gam.nil).add 110 e_impl_modulo
def n_impl_HomeSlot : An := { mask := fun | 3 => [3, 16, 17, 18] | _ => [] }
@[reducible] def d_impl_HomeSlot_3 : SD := ⟨[B,B,B,DI,B,B,B,B,B,B,B,B,B,B,B,B,.data false (.sl (.own (some 196608)) (.int .i64)),DI,DI,B,B,B,B,B,B,B,B,B,B], [Z,Z,Z,Z,Z,Z,Z,Z,Z,Z,Z,Z,Z,Z,Z,Z,Z,Z,Z,Z,Z,Z,Z,Z,Z,Z,Z,Z,Z], none⟩
noncomputable def t_impl_HomeSlot_3 {R : Type} (X : SD.D d_impl_HomeSlot_3) (K : Ex → AS → Option R) := Pu.impl_HomeSlot_T3 (fun y0 y1 => K (.exit 0) (SD.enc d_impl_HomeSlot_3 ((y0, (X.1.2.1, (X.1.2.2.1, (y1, ())))), (), ()))) X.1.2.1 X.1.2.2.1
noncomputable def l_impl_HomeSlot_3 : LEnt := ⟨d_impl_HomeSlot_3, fun X K => iterL (t_impl_HomeSlot_3 X K) fuel (X.1.1, X.1.2.2.2.1)⟩
noncomputable def L_impl_HomeSlot : Lam := (Lam.nil).add 3 l_impl_HomeSlot_3
theorem lok_impl_HomeSlot_3 : LOk E g_impl_HomeSlot n_impl_HomeSlot L_impl_HomeSlot (loopBody Tryz.f105 0) :=
  lok l_impl_HomeSlot_3 (by kernel_rfl) fuel fun R X K => (loop_iter (σ := Int × Int) (fun x => SD.enc d_impl_HomeSlot_3 ((x.1, (X.1.2.1, (X.1.2.2.1, (x.2, ())))), (), ())) (t_impl_HomeSlot_3 X K) (fun m x => by kernel_rfl) fuel (X.1.1, X.1.2.2.2.1)).symm
theorem ok_impl_HomeSlot : FnOk Tryz.prog 105 e_impl_HomeSlot := FnOk.of (fnOk (Γ := g_impl_HomeSlot) (an := n_impl_HomeSlot) (Λ := L_impl_HomeSlot) ((base).add ok_impl_modulo) Tryz.func105 (by kernel_rfl) (hF (by kernel_rfl) (cF lok_impl_HomeSlot_3 nF))) (fun a => by kernel_rfl)
noncomputable def e_impl_wayOf : GEnt := entOf [.data true TFlow] [(false, (.sl (.own none) (.int .i64)))] fun a => Pu.impl_wayOf a.1
noncomputable def g_impl_wayOf : Gam := (Gam.nil).add 105 e_impl_HomeSlot
def n_impl_wayOf : An := { mask := fun | 3 => [1, 3, 4] | _ => [], mv := [10, 18] }
@[reducible] def d_impl_wayOf_3 : SD := ⟨[B,.ptr 1 0,B,.data false (.sl (.own (some 36864)) (.int .i64)),DI,B,B,B,B,B,B,B,B,B,B,B,B,B,B], [Z,some (.pair (.int .i64) (.pair (.int .i64) (.pair (.int .i64) (.pair (.int .i64) (.int .i64))))),Z,Z,Z,Z,Z,Z,Z,Z,Z,Z,Z,Z,Z,Z,Z,Z,Z], none⟩
noncomputable def t_impl_wayOf_3 {R : Type} (X : SD.D d_impl_wayOf_3) (K : Ex → AS → Option R) := Pu.impl_wayOf_T3 (fun y0 y1 => K (.exit 0) (SD.enc d_impl_wayOf_3 ((y0, (y1, ())), (X.2.1.1, ()), ()))) X.2.1.1
noncomputable def l_impl_wayOf_3 : LEnt := ⟨d_impl_wayOf_3, fun X K => iterL (t_impl_wayOf_3 X K) fuel (X.1.1, X.1.2.1)⟩
noncomputable def L_impl_wayOf : Lam := (Lam.nil).add 3 l_impl_wayOf_3
theorem lok_impl_wayOf_3 : LOk E g_impl_wayOf n_impl_wayOf L_impl_wayOf (loopBody Tryz.f93 0) :=
  lok l_impl_wayOf_3 (by kernel_rfl) fuel fun R X K => (loop_iter (σ := (List Int) × Int) (fun x => SD.enc d_impl_wayOf_3 ((x.1, (x.2, ())), (X.2.1.1, ()), ())) (t_impl_wayOf_3 X K) (fun m x => by kernel_rfl) fuel (X.1.1, X.1.2.1)).symm
theorem ok_impl_wayOf : FnOk Tryz.prog 93 e_impl_wayOf := FnOk.of (fnOk (Γ := g_impl_wayOf) (an := n_impl_wayOf) (Λ := L_impl_wayOf) ((base).add ok_impl_HomeSlot) Tryz.func93 (by kernel_rfl) (hF (by kernel_rfl) (cF lok_impl_wayOf_3 nF))) (fun a => by kernel_rfl)
noncomputable def e_impl_TableOk : GEnt := entOf [.data true (.sl TSlot)] [(false, .bool)] fun a => Pu.impl_TableOk a.1
noncomputable def g_impl_TableOk : Gam := (((Gam.nil).add 46 e_impl_between).add 92 e_impl_slotOf).add 93 e_impl_wayOf
def n_impl_TableOk : An := { mask := fun | 4 => [1, 2, 12, 13, 14] | 14 => [1, 2, 3, 12, 13, 14, 49, 50, 51] | _ => [], merge := fun | 6 => some 28 | 9 => some 40 | _ => none }
@[reducible] def d_impl_TableOk_14 : SD := ⟨[B,.ptr 1 0,DB,DI,B,B,B,B,B,B,B,B,.data false (.sl .arg TSlot),DI,DI,B,B,B,B,B,B,B,B,B,B,B,B,B,B,B,B,B,B,B,B,B,B,B,B,B,B,B,B,B,B,B,B,B,B,.data false (.sl (.own (some 602112)) (.int .i64)),DI,DI,B,B,B,B,B,B,B,B,B,B,B,B,B,B,B], [Z,some (.sl .arg TSlot),Z,Z,Z,Z,Z,Z,Z,Z,Z,Z,Z,Z,Z,Z,Z,Z,Z,Z,Z,Z,Z,Z,Z,Z,Z,Z,Z,Z,Z,Z,Z,Z,Z,Z,Z,Z,Z,Z,Z,Z,Z,Z,Z,Z,Z,Z,Z,Z,Z,Z,Z,Z,Z,Z,Z,Z,Z,Z,Z,Z,Z,Z,Z,Z,Z], none⟩
noncomputable def t_impl_TableOk_14 {R : Type} (X : SD.D d_impl_TableOk_14) (K : Ex → AS → Option R) := Pu.impl_TableOk_T14 (fun y0 => K (.exit 2) (SD.enc d_impl_TableOk_14 ((X.1.1, (X.1.2.1, (X.1.2.2.1, (X.1.2.2.2.1, (X.1.2.2.2.2.1, (X.1.2.2.2.2.2.1, (X.1.2.2.2.2.2.2.1, (y0, ())))))))), (X.2.1.1, ()), ()))) (fun y0 y1 => K .ret (SD.enc d_impl_TableOk_14 ((y0, (X.1.2.1, (X.1.2.2.1, (X.1.2.2.2.1, (X.1.2.2.2.2.1, (X.1.2.2.2.2.2.1, (X.1.2.2.2.2.2.2.1, (y1, ())))))))), (X.2.1.1, ()), ()))) X.1.1 X.1.2.1 X.1.2.2.1 X.1.2.2.2.1 X.1.2.2.2.2.1 X.1.2.2.2.2.2.1 X.1.2.2.2.2.2.2.1 X.2.1.1
noncomputable def l_impl_TableOk_14 : LEnt := ⟨d_impl_TableOk_14, fun X K => iterL (t_impl_TableOk_14 X K) fuel X.1.2.2.2.2.2.2.2.1⟩
@[reducible] def d_impl_TableOk_4 : SD := ⟨[B,.ptr 1 0,DB,B,B,B,B,B,B,B,B,B,.data false (.sl .arg TSlot),DI,DI,B,B,B,B,B,B,B,B,B,B,B,B,B,B,B,B,B,B,B,B,B,B,B,B,B,B,B,B,B,B,B,B,B,B,B,B,B,B,B,B,B,B,B,B,B,B,B,B,B,B,B,B], [Z,some (.sl .arg TSlot),Z,Z,Z,Z,Z,Z,Z,Z,Z,Z,Z,Z,Z,Z,Z,Z,Z,Z,Z,Z,Z,Z,Z,Z,Z,Z,Z,Z,Z,Z,Z,Z,Z,Z,Z,Z,Z,Z,Z,Z,Z,Z,Z,Z,Z,Z,Z,Z,Z,Z,Z,Z,Z,Z,Z,Z,Z,Z,Z,Z,Z,Z,Z,Z,Z], none⟩
noncomputable def t_impl_TableOk_4 {R : Type} (X : SD.D d_impl_TableOk_4) (K : Ex → AS → Option R) := Pu.impl_TableOk_T4 (fun y0 => K (.exit 0) (SD.enc d_impl_TableOk_4 ((X.1.1, (X.1.2.1, (X.1.2.2.1, (y0, ())))), (X.2.1.1, ()), ()))) (fun y0 y1 => K .ret (SD.enc d_impl_TableOk_4 ((y0, (X.1.2.1, (X.1.2.2.1, (y1, ())))), (X.2.1.1, ()), ()))) X.1.1 X.1.2.1 X.1.2.2.1 X.2.1.1
noncomputable def l_impl_TableOk_4 : LEnt := ⟨d_impl_TableOk_4, fun X K => iterL (t_impl_TableOk_4 X K) fuel X.1.2.2.2.1⟩
noncomputable def L_impl_TableOk : Lam := ((Lam.nil).add 14 l_impl_TableOk_14).add 4 l_impl_TableOk_4
theorem lok_impl_TableOk_14 : LOk E g_impl_TableOk n_impl_TableOk L_impl_TableOk (loopBody Tryz.f72 1) :=
  lok l_impl_TableOk_14 (by kernel_rfl) fuel fun R X K => (loop_iter (σ := Int) (fun x => SD.enc d_impl_TableOk_14 ((X.1.1, (X.1.2.1, (X.1.2.2.1, (X.1.2.2.2.1, (X.1.2.2.2.2.1, (X.1.2.2.2.2.2.1, (X.1.2.2.2.2.2.2.1, (x, ())))))))), (X.2.1.1, ()), ())) (t_impl_TableOk_14 X K) (fun m x => by kernel_rfl) fuel X.1.2.2.2.2.2.2.2.1).symm
theorem lok_impl_TableOk_4 : LOk E g_impl_TableOk n_impl_TableOk L_impl_TableOk (loopBody Tryz.f72 0) :=
  lok l_impl_TableOk_4 (by kernel_rfl) fuel fun R X K => (loop_iter (σ := Int) (fun x => SD.enc d_impl_TableOk_4 ((X.1.1, (X.1.2.1, (X.1.2.2.1, (x, ())))), (X.2.1.1, ()), ())) (t_impl_TableOk_4 X K) (fun m x => by kernel_rfl) fuel X.1.2.2.2.1).symm
theorem ok_impl_TableOk : FnOk Tryz.prog 72 e_impl_TableOk := FnOk.of (fnOk (Γ := g_impl_TableOk) (an := n_impl_TableOk) (Λ := L_impl_TableOk) ((((base).add ok_impl_between).add ok_impl_slotOf).add ok_impl_wayOf) Tryz.func72 (by kernel_rfl) (hF (by kernel_rfl) (cF lok_impl_TableOk_4 (cF lok_impl_TableOk_14 nF)))) (fun a => by kernel_rfl)
noncomputable def e_impl_tableSize : GEnt := entOf [.data false (.int .i64)] [(false, .bool)] fun a => Pu.impl_tableSize a.1
theorem ok_impl_tableSize : FnOk Tryz.prog 94 e_impl_tableSize := FnOk.of (fnOk (an := { merge := fun | 1 => some 2 | _ => none }) (Λ := Lam.nil) (base) Tryz.func94 (by kernel_rfl) (hF (by kernel_rfl) nF)) (fun a => by kernel_rfl)
noncomputable def e_impl_SpreadOk : GEnt := entOf [.data true TSpread, .data false (.int .i64)] [(false, .bool)] fun a => Pu.impl_SpreadOk a.1 a.2.1
noncomputable def g_impl_SpreadOk : Gam := ((Gam.nil).add 46 e_impl_between).add 94 e_impl_tableSize
def n_impl_SpreadOk : An := { mask := fun | 4 => [1, 4, 24, 25, 26] | _ => [], merge := fun | 1 => some 22 | _ => none }
@[reducible] def d_impl_SpreadOk_4 : SD := ⟨[B,DI,B,B,DB,B,B,B,B,B,B,B,B,B,B,B,B,B,B,B,B,B,B,B,.data false (.sl .arg (.int .i64)),DI,DI,B,B,B,B,B,B,B,B,B], [Z,Z,Z,Z,Z,Z,Z,Z,Z,Z,Z,Z,Z,Z,Z,Z,Z,Z,Z,Z,Z,Z,Z,Z,Z,Z,Z,Z,Z,Z,Z,Z,Z,Z,Z,Z], none⟩
noncomputable def t_impl_SpreadOk_4 {R : Type} (X : SD.D d_impl_SpreadOk_4) (K : Ex → AS → Option R) := Pu.impl_SpreadOk_T4 (fun y0 => K (.exit 0) (SD.enc d_impl_SpreadOk_4 ((X.1.1, (X.1.2.1, (X.1.2.2.1, (X.1.2.2.2.1, (y0, ()))))), (), ()))) (fun y0 y1 => K .ret (SD.enc d_impl_SpreadOk_4 ((X.1.1, (y0, (X.1.2.2.1, (X.1.2.2.2.1, (y1, ()))))), (), ()))) X.1.1 X.1.2.1 X.1.2.2.1 X.1.2.2.2.1
noncomputable def l_impl_SpreadOk_4 : LEnt := ⟨d_impl_SpreadOk_4, fun X K => iterL (t_impl_SpreadOk_4 X K) fuel X.1.2.2.2.2.1⟩
noncomputable def L_impl_SpreadOk : Lam := (Lam.nil).add 4 l_impl_SpreadOk_4
theorem lok_impl_SpreadOk_4 : LOk E g_impl_SpreadOk n_impl_SpreadOk L_impl_SpreadOk (loopBody Tryz.f73 0) :=
  lok l_impl_SpreadOk_4 (by kernel_rfl) fuel fun R X K => (loop_iter (σ := Int) (fun x => SD.enc d_impl_SpreadOk_4 ((X.1.1, (X.1.2.1, (X.1.2.2.1, (X.1.2.2.2.1, (x, ()))))), (), ())) (t_impl_SpreadOk_4 X K) (fun m x => by kernel_rfl) fuel X.1.2.2.2.2.1).symm
theorem ok_impl_SpreadOk : FnOk Tryz.prog 73 e_impl_SpreadOk := FnOk.of (fnOk (Γ := g_impl_SpreadOk) (an := n_impl_SpreadOk) (Λ := L_impl_SpreadOk) (((base).add ok_impl_between).add ok_impl_tableSize) Tryz.func73 (by kernel_rfl) (hF (by kernel_rfl) (cF lok_impl_SpreadOk_4 nF))) (fun a => by kernel_rfl)
noncomputable def e_impl_SteeringOk : GEnt := entOf [.data true TSteering, .data false (.int .i64)] [(false, .bool)] fun a => Pu.impl_SteeringOk a.1 a.2.1
noncomputable def g_impl_SteeringOk : Gam := (((Gam.nil).add 71 e_impl_RulesOk).add 72 e_impl_TableOk).add 73 e_impl_SpreadOk
def n_impl_SteeringOk : An := { mask := fun | 4 => [1, 2, 4, 27, 28, 29] | 10 => [1, 4, 45, 46, 47] | _ => [], merge := fun | 1 => some 25 | 6 => some 41 | 12 => some 59 | _ => none }
@[reducible] def d_impl_SteeringOk_4 : SD := ⟨[B,DI,.ptr 2 0,B,DB,B,B,B,B,B,B,B,B,B,B,B,B,B,B,B,B,B,B,B,B,B,B,.data false (.sl .arg TRule),DI,DI,B,B,B,B,B,B,B,B,B,B,B,B,B,B,B,B,B,B,B,B,B,B,B,B,B,B,B,B,B,B,B], [Z,Z,some (.pair (.sl .arg TRule) (.pair (.sl .arg TSlot) (.pair .str (.sl .arg (.int .i64))))),Z,Z,Z,Z,Z,Z,Z,Z,Z,Z,Z,Z,Z,Z,Z,Z,Z,Z,Z,Z,Z,Z,Z,Z,Z,Z,Z,Z,Z,Z,Z,Z,Z,Z,Z,Z,Z,Z,Z,Z,Z,Z,Z,Z,Z,Z,Z,Z,Z,Z,Z,Z,Z,Z,Z,Z,Z,Z], none⟩
noncomputable def t_impl_SteeringOk_4 {R : Type} (X : SD.D d_impl_SteeringOk_4) (K : Ex → AS → Option R) := Pu.impl_SteeringOk_T4 (fun y0 => K (.exit 0) (SD.enc d_impl_SteeringOk_4 ((X.1.1, (X.1.2.1, (X.1.2.2.1, (X.1.2.2.2.1, (y0, ()))))), (X.2.1.1, ()), ()))) (fun y0 y1 => K .ret (SD.enc d_impl_SteeringOk_4 ((X.1.1, (y0, (X.1.2.2.1, (X.1.2.2.2.1, (y1, ()))))), (X.2.1.1, ()), ()))) X.1.1 X.1.2.1 X.1.2.2.1 X.1.2.2.2.1 X.2.1.1
noncomputable def l_impl_SteeringOk_4 : LEnt := ⟨d_impl_SteeringOk_4, fun X K => iterL (t_impl_SteeringOk_4 X K) fuel X.1.2.2.2.2.1⟩
@[reducible] def d_impl_SteeringOk_10 : SD := ⟨[B,DI,B,B,DB,B,B,B,B,B,B,B,B,B,B,B,B,B,B,B,B,B,B,B,B,B,B,B,B,B,B,B,B,B,B,B,B,B,B,B,B,B,B,B,B,.data false (.sl .arg TSlot),DI,DI,B,B,B,B,B,B,B,B,B,B,B,B,B], [Z,Z,Z,Z,Z,Z,Z,Z,Z,Z,Z,Z,Z,Z,Z,Z,Z,Z,Z,Z,Z,Z,Z,Z,Z,Z,Z,Z,Z,Z,Z,Z,Z,Z,Z,Z,Z,Z,Z,Z,Z,Z,Z,Z,Z,Z,Z,Z,Z,Z,Z,Z,Z,Z,Z,Z,Z,Z,Z,Z,Z], none⟩
noncomputable def t_impl_SteeringOk_10 {R : Type} (X : SD.D d_impl_SteeringOk_10) (K : Ex → AS → Option R) := Pu.impl_SteeringOk_T10 (fun y0 => K (.exit 2) (SD.enc d_impl_SteeringOk_10 ((X.1.1, (X.1.2.1, (X.1.2.2.1, (X.1.2.2.2.1, (y0, ()))))), (), ()))) (fun y0 y1 => K .ret (SD.enc d_impl_SteeringOk_10 ((X.1.1, (y0, (X.1.2.2.1, (X.1.2.2.2.1, (y1, ()))))), (), ()))) X.1.1 X.1.2.1 X.1.2.2.1 X.1.2.2.2.1
noncomputable def l_impl_SteeringOk_10 : LEnt := ⟨d_impl_SteeringOk_10, fun X K => iterL (t_impl_SteeringOk_10 X K) fuel X.1.2.2.2.2.1⟩
noncomputable def L_impl_SteeringOk : Lam := ((Lam.nil).add 4 l_impl_SteeringOk_4).add 10 l_impl_SteeringOk_10
theorem lok_impl_SteeringOk_4 : LOk E g_impl_SteeringOk n_impl_SteeringOk L_impl_SteeringOk (loopBody Tryz.f52 0) :=
  lok l_impl_SteeringOk_4 (by kernel_rfl) fuel fun R X K => (loop_iter (σ := Int) (fun x => SD.enc d_impl_SteeringOk_4 ((X.1.1, (X.1.2.1, (X.1.2.2.1, (X.1.2.2.2.1, (x, ()))))), (X.2.1.1, ()), ())) (t_impl_SteeringOk_4 X K) (fun m x => by kernel_rfl) fuel X.1.2.2.2.2.1).symm
theorem lok_impl_SteeringOk_10 : LOk E g_impl_SteeringOk n_impl_SteeringOk L_impl_SteeringOk (loopBody Tryz.f52 1) :=
  lok l_impl_SteeringOk_10 (by kernel_rfl) fuel fun R X K => (loop_iter (σ := Int) (fun x => SD.enc d_impl_SteeringOk_10 ((X.1.1, (X.1.2.1, (X.1.2.2.1, (X.1.2.2.2.1, (x, ()))))), (), ())) (t_impl_SteeringOk_10 X K) (fun m x => by kernel_rfl) fuel X.1.2.2.2.2.1).symm
theorem ok_impl_SteeringOk : FnOk Tryz.prog 52 e_impl_SteeringOk := FnOk.of (fnOk (Γ := g_impl_SteeringOk) (an := n_impl_SteeringOk) (Λ := L_impl_SteeringOk) ((((base).add ok_impl_RulesOk).add ok_impl_TableOk).add ok_impl_SpreadOk) Tryz.func52 (by kernel_rfl) (hF (by kernel_rfl) (cF lok_impl_SteeringOk_4 (cF lok_impl_SteeringOk_10 nF)))) (fun a => by kernel_rfl)
noncomputable def e_impl_SoftOk : GEnt := entOf [.data true TSoft] [(false, .bool)] fun a => Pu.impl_SoftOk a.1
theorem ok_impl_SoftOk : FnOk Tryz.prog 24 e_impl_SoftOk := FnOk.of (fnOk (an := { merge := fun | 1 => some 2 | _ => none }) (Λ := Lam.nil) (((base).add ok_impl_FilterOk).add ok_impl_SteeringOk) Tryz.func24 (by kernel_rfl) (hF (by kernel_rfl) nF)) (fun a => by kernel_rfl)
noncomputable def e_slices_Equal_int : GEnt := entOf [.data false (.sl (.int .i64)), .data false (.sl (.int .i64))] [(false, .bool)] fun a => Pu.slices_Equal_int a.1 a.2.1
noncomputable def g_slices_Equal_int : Gam := Gam.nil
def n_slices_Equal_int : An := { mask := fun | 4 => [0, 1, 4, 12, 13] | _ => [] }
@[reducible] def d_slices_Equal_int_4 : SD := ⟨[.data false (.sl .arg (.int .i64)),.data false (.sl .arg (.int .i64)),B,B,DB,B,B,B,B,B,B,B,DI,DI,B,B,B,B,B,B,B,B,B,B,B,B], [Z,Z,Z,Z,Z,Z,Z,Z,Z,Z,Z,Z,Z,Z,Z,Z,Z,Z,Z,Z,Z,Z,Z,Z,Z,Z], none⟩
noncomputable def t_slices_Equal_int_4 {R : Type} (X : SD.D d_slices_Equal_int_4) (K : Ex → AS → Option R) := Pu.slices_Equal_int_T4 (fun y0 => K (.exit 0) (SD.enc d_slices_Equal_int_4 ((X.1.1, (X.1.2.1, (X.1.2.2.1, (X.1.2.2.2.1, (y0, ()))))), (), ()))) (fun y0 y1 => K .ret (SD.enc d_slices_Equal_int_4 ((X.1.1, (X.1.2.1, (y0, (X.1.2.2.2.1, (y1, ()))))), (), ()))) X.1.1 X.1.2.1 X.1.2.2.1 X.1.2.2.2.1
noncomputable def l_slices_Equal_int_4 : LEnt := ⟨d_slices_Equal_int_4, fun X K => iterL (t_slices_Equal_int_4 X K) fuel X.1.2.2.2.2.1⟩
noncomputable def L_slices_Equal_int : Lam := (Lam.nil).add 4 l_slices_Equal_int_4
theorem lok_slices_Equal_int_4 : LOk E g_slices_Equal_int n_slices_Equal_int L_slices_Equal_int (loopBody Tryz.f53 0) :=
  lok l_slices_Equal_int_4 (by kernel_rfl) fuel fun R X K => (loop_iter (σ := Int) (fun x => SD.enc d_slices_Equal_int_4 ((X.1.1, (X.1.2.1, (X.1.2.2.1, (X.1.2.2.2.1, (x, ()))))), (), ())) (t_slices_Equal_int_4 X K) (fun m x => by kernel_rfl) fuel X.1.2.2.2.2.1).symm
theorem ok_slices_Equal_int : FnOk Tryz.prog 53 e_slices_Equal_int := FnOk.of (fnOk (Γ := g_slices_Equal_int) (an := n_slices_Equal_int) (Λ := L_slices_Equal_int) (base) Tryz.func53 (by kernel_rfl) (hF (by kernel_rfl) (cF lok_slices_Equal_int_4 nF))) (fun a => by kernel_rfl)
noncomputable def e_impl_sameFilter : GEnt := entOf [.data true TFilter, .data true TFilter] [(false, .bool)] fun a => Pu.impl_sameFilter a.1 a.2.1
theorem ok_impl_sameFilter : FnOk Tryz.prog 25 e_impl_sameFilter := FnOk.of (fnOk (an := { merge := fun | 1 => some 4 | _ => none }) (Λ := Lam.nil) ((base).add ok_slices_Equal_int) Tryz.func25 (by kernel_rfl) (hF (by kernel_rfl) nF)) (fun a => by kernel_rfl)
noncomputable def e_impl_BucketOk : GEnt := entOf [.data true TBucket] [(false, .bool)] fun a => Pu.impl_BucketOk a.1
theorem ok_impl_BucketOk : FnOk Tryz.prog 54 e_impl_BucketOk := FnOk.of (fnOk (an := { merge := fun | 1 => some 2 | _ => none }) (Λ := Lam.nil) ((base).add ok_impl_between) Tryz.func54 (by kernel_rfl) (hF (by kernel_rfl) nF)) (fun a => by kernel_rfl)
noncomputable def e_impl_FunctionsOk : GEnt := entOf [.data false (.sl TVirtualFunction), .data false (.sl TPort)] [(false, .bool)] fun a => Pu.impl_FunctionsOk a.1 a.2.1
noncomputable def g_impl_FunctionsOk : Gam := (((Gam.nil).add 46 e_impl_between).add 50 e_impl_PortsOk).add 54 e_impl_BucketOk
def n_impl_FunctionsOk : An := { mask := fun | 4 => [0, 1, 4, 12, 13, 14] | 9 => [0, 1, 4, 6, 12, 13, 14, 52, 53, 54] | _ => [], merge := fun | 6 => some 49 | 11 => some 69 | _ => none }
@[reducible] def d_impl_FunctionsOk_9 : SD := ⟨[.data false (.sl .arg TVirtualFunction),.data false (.sl .arg TPort),B,B,DB,B,.ptr 6 0,B,B,B,B,B,.data false (.sl .arg TVirtualFunction),DI,DI,B,B,B,B,B,B,B,B,B,B,B,B,B,B,B,B,B,B,B,B,B,B,B,B,B,B,B,B,B,B,B,B,B,B,B,B,B,.data false (.sl .arg TVirtualFunction),DI,DI,B,B,B,B,B,B,B,B,B,B,B,B,B,B,B,B,B], [Z,Z,Z,Z,Z,Z,some (.pair (.int .i64) (.pair (.int .i64) (.pair (.pair (.int .i64) (.pair (.int .i64) (.int .i64))) (.pair .bool (.pair (.int .i64) (.int .i64)))))),Z,Z,Z,Z,Z,Z,Z,Z,Z,Z,Z,Z,Z,Z,Z,Z,Z,Z,Z,Z,Z,Z,Z,Z,Z,Z,Z,Z,Z,Z,Z,Z,Z,Z,Z,Z,Z,Z,Z,Z,Z,Z,Z,Z,Z,Z,Z,Z,Z,Z,Z,Z,Z,Z,Z,Z,Z,Z,Z,Z,Z,Z,Z,Z,Z], none⟩
noncomputable def t_impl_FunctionsOk_9 {R : Type} (X : SD.D d_impl_FunctionsOk_9) (K : Ex → AS → Option R) := Pu.impl_FunctionsOk_T9 (fun y0 => K (.exit 2) (SD.enc d_impl_FunctionsOk_9 ((X.1.1, (X.1.2.1, (X.1.2.2.1, (X.1.2.2.2.1, (X.1.2.2.2.2.1, (X.1.2.2.2.2.2.1, (X.1.2.2.2.2.2.2.1, (X.1.2.2.2.2.2.2.2.1, (y0, ()))))))))), (X.2.1.1, ()), ()))) (fun y0 y1 => K .ret (SD.enc d_impl_FunctionsOk_9 ((X.1.1, (X.1.2.1, (y0, (X.1.2.2.2.1, (X.1.2.2.2.2.1, (X.1.2.2.2.2.2.1, (X.1.2.2.2.2.2.2.1, (X.1.2.2.2.2.2.2.2.1, (y1, ()))))))))), (X.2.1.1, ()), ()))) X.1.1 X.1.2.1 X.1.2.2.1 X.1.2.2.2.1 X.1.2.2.2.2.1 X.1.2.2.2.2.2.1 X.1.2.2.2.2.2.2.1 X.1.2.2.2.2.2.2.2.1 X.2.1.1
noncomputable def l_impl_FunctionsOk_9 : LEnt := ⟨d_impl_FunctionsOk_9, fun X K => iterL (t_impl_FunctionsOk_9 X K) fuel X.1.2.2.2.2.2.2.2.2.1⟩
@[reducible] def d_impl_FunctionsOk_4 : SD := ⟨[.data false (.sl .arg TVirtualFunction),.data false (.sl .arg TPort),B,B,DB,B,B,B,B,B,B,B,.data false (.sl .arg TVirtualFunction),DI,DI,B,B,B,B,B,B,B,B,B,B,B,B,B,B,B,B,B,B,B,B,B,B,B,B,B,B,B,B,B,B,B,B,B,B,B,B,B,B,B,B,B,B,B,B,B,B,B,B,B,B,B,B,B,B,B,B,B], [Z,Z,Z,Z,Z,Z,Z,Z,Z,Z,Z,Z,Z,Z,Z,Z,Z,Z,Z,Z,Z,Z,Z,Z,Z,Z,Z,Z,Z,Z,Z,Z,Z,Z,Z,Z,Z,Z,Z,Z,Z,Z,Z,Z,Z,Z,Z,Z,Z,Z,Z,Z,Z,Z,Z,Z,Z,Z,Z,Z,Z,Z,Z,Z,Z,Z,Z,Z,Z,Z,Z,Z], none⟩
noncomputable def t_impl_FunctionsOk_4 {R : Type} (X : SD.D d_impl_FunctionsOk_4) (K : Ex → AS → Option R) := Pu.impl_FunctionsOk_T4 (fun y0 => K (.exit 0) (SD.enc d_impl_FunctionsOk_4 ((X.1.1, (X.1.2.1, (X.1.2.2.1, (X.1.2.2.2.1, (X.1.2.2.2.2.1, (y0, ())))))), (), ()))) (fun y0 y1 => K .ret (SD.enc d_impl_FunctionsOk_4 ((X.1.1, (X.1.2.1, (y0, (X.1.2.2.2.1, (X.1.2.2.2.2.1, (y1, ())))))), (), ()))) X.1.1 X.1.2.1 X.1.2.2.1 X.1.2.2.2.1 X.1.2.2.2.2.1
noncomputable def l_impl_FunctionsOk_4 : LEnt := ⟨d_impl_FunctionsOk_4, fun X K => iterL (t_impl_FunctionsOk_4 X K) fuel X.1.2.2.2.2.2.1⟩
noncomputable def L_impl_FunctionsOk : Lam := ((Lam.nil).add 9 l_impl_FunctionsOk_9).add 4 l_impl_FunctionsOk_4
theorem lok_impl_FunctionsOk_9 : LOk E g_impl_FunctionsOk n_impl_FunctionsOk L_impl_FunctionsOk (loopBody Tryz.f26 1) :=
  lok l_impl_FunctionsOk_9 (by kernel_rfl) fuel fun R X K => (loop_iter (σ := Int) (fun x => SD.enc d_impl_FunctionsOk_9 ((X.1.1, (X.1.2.1, (X.1.2.2.1, (X.1.2.2.2.1, (X.1.2.2.2.2.1, (X.1.2.2.2.2.2.1, (X.1.2.2.2.2.2.2.1, (X.1.2.2.2.2.2.2.2.1, (x, ()))))))))), (X.2.1.1, ()), ())) (t_impl_FunctionsOk_9 X K) (fun m x => by kernel_rfl) fuel X.1.2.2.2.2.2.2.2.2.1).symm
theorem lok_impl_FunctionsOk_4 : LOk E g_impl_FunctionsOk n_impl_FunctionsOk L_impl_FunctionsOk (loopBody Tryz.f26 0) :=
  lok l_impl_FunctionsOk_4 (by kernel_rfl) fuel fun R X K => (loop_iter (σ := Int) (fun x => SD.enc d_impl_FunctionsOk_4 ((X.1.1, (X.1.2.1, (X.1.2.2.1, (X.1.2.2.2.1, (X.1.2.2.2.2.1, (x, ())))))), (), ())) (t_impl_FunctionsOk_4 X K) (fun m x => by kernel_rfl) fuel X.1.2.2.2.2.2.1).symm
theorem ok_impl_FunctionsOk : FnOk Tryz.prog 26 e_impl_FunctionsOk := FnOk.of (fnOk (Γ := g_impl_FunctionsOk) (an := n_impl_FunctionsOk) (Λ := L_impl_FunctionsOk) ((((base).add ok_impl_between).add ok_impl_PortsOk).add ok_impl_BucketOk) Tryz.func26 (by kernel_rfl) (hF (by kernel_rfl) (cF lok_impl_FunctionsOk_4 (cF lok_impl_FunctionsOk_9 nF)))) (fun a => by kernel_rfl)
noncomputable def e_impl_ownPlaces : GEnt := entOf [.data false (.sl TVirtualFunction)] [(false, .bool)] fun a => Pu.impl_ownPlaces a.1
noncomputable def g_impl_ownPlaces : Gam := Gam.nil
def n_impl_ownPlaces : An := { mask := fun | 2 => [2, 5, 6, 7] | _ => [], merge := fun | 4 => some 22 | _ => none }
@[reducible] def d_impl_ownPlaces_2 : SD := ⟨[B,B,DB,B,B,.data false (.sl .arg TVirtualFunction),DI,DI,B,B,B,B,B,B,B,B,B,B,B,B,B,B,B,B], [Z,Z,Z,Z,Z,Z,Z,Z,Z,Z,Z,Z,Z,Z,Z,Z,Z,Z,Z,Z,Z,Z,Z,Z], none⟩
noncomputable def t_impl_ownPlaces_2 {R : Type} (X : SD.D d_impl_ownPlaces_2) (K : Ex → AS → Option R) := Pu.impl_ownPlaces_T2 (fun y0 => K (.exit 0) (SD.enc d_impl_ownPlaces_2 ((X.1.1, (X.1.2.1, (X.1.2.2.1, (y0, ())))), (), ()))) (fun y0 y1 => K .ret (SD.enc d_impl_ownPlaces_2 ((y0, (X.1.2.1, (X.1.2.2.1, (y1, ())))), (), ()))) X.1.1 X.1.2.1 X.1.2.2.1
noncomputable def l_impl_ownPlaces_2 : LEnt := ⟨d_impl_ownPlaces_2, fun X K => iterL (t_impl_ownPlaces_2 X K) fuel X.1.2.2.2.1⟩
noncomputable def L_impl_ownPlaces : Lam := (Lam.nil).add 2 l_impl_ownPlaces_2
theorem lok_impl_ownPlaces_2 : LOk E g_impl_ownPlaces n_impl_ownPlaces L_impl_ownPlaces (loopBody Tryz.f27 0) :=
  lok l_impl_ownPlaces_2 (by kernel_rfl) fuel fun R X K => (loop_iter (σ := Int) (fun x => SD.enc d_impl_ownPlaces_2 ((X.1.1, (X.1.2.1, (X.1.2.2.1, (x, ())))), (), ())) (t_impl_ownPlaces_2 X K) (fun m x => by kernel_rfl) fuel X.1.2.2.2.1).symm
theorem ok_impl_ownPlaces : FnOk Tryz.prog 27 e_impl_ownPlaces := FnOk.of (fnOk (Γ := g_impl_ownPlaces) (an := n_impl_ownPlaces) (Λ := L_impl_ownPlaces) (base) Tryz.func27 (by kernel_rfl) (hF (by kernel_rfl) (cF lok_impl_ownPlaces_2 nF))) (fun a => by kernel_rfl)
noncomputable def e_impl_IdealOk : GEnt := entOf [.data true TIdeal] [(false, .bool)] fun a => Pu.impl_IdealOk a.1
noncomputable def g_impl_IdealOk : Gam := (((((Gam.nil).add 23 e_impl_PortsOf).add 24 e_impl_SoftOk).add 25 e_impl_sameFilter).add 26 e_impl_FunctionsOk).add 27 e_impl_ownPlaces
def n_impl_IdealOk : An := { mask := fun | 6 => [1, 2, 3, 41, 42, 43] | _ => [], merge := fun | 3 => some 39 | 8 => some 62 | 11 => some 2 | _ => none }
@[reducible] def d_impl_IdealOk_6 : SD := ⟨[B,.ptr 1 0,DB,.data false (.sl .loc TPort),B,B,B,B,B,B,B,B,B,B,B,B,B,B,B,B,B,B,B,B,B,B,B,B,B,B,B,B,B,B,B,B,B,B,B,B,B,.data false (.sl .arg TSoft),DI,DI,B,B,B,B,B,B,B,B,B,B,B,B,B,B,B,B,B,B,B,B,B,B,B,B,B,B,B,B,B], [Z,some (.pair (.sl .arg TSoft) (.pair (.sl .arg (.sl .str)) (.pair (.sl .arg TVirtualFunction) (.pair (.sl .arg TMailbox) (.sl .arg .str))))),Z,Z,Z,Z,Z,Z,Z,Z,Z,Z,Z,Z,Z,Z,Z,Z,Z,Z,Z,Z,Z,Z,Z,Z,Z,Z,Z,Z,Z,Z,Z,Z,Z,Z,Z,Z,Z,Z,Z,Z,Z,Z,Z,Z,Z,Z,Z,Z,Z,Z,Z,Z,Z,Z,Z,Z,Z,Z,Z,Z,Z,Z,Z,Z,Z,Z,Z,Z,Z,Z,Z], none⟩
noncomputable def t_impl_IdealOk_6 {R : Type} (X : SD.D d_impl_IdealOk_6) (K : Ex → AS → Option R) := Pu.impl_IdealOk_T6 (fun y0 => K (.exit 0) (SD.enc d_impl_IdealOk_6 ((X.1.1, (X.1.2.1, (X.1.2.2.1, (X.1.2.2.2.1, (y0, ()))))), (X.2.1.1, ()), ()))) (fun y0 y1 => K .ret (SD.enc d_impl_IdealOk_6 ((y0, (X.1.2.1, (X.1.2.2.1, (X.1.2.2.2.1, (y1, ()))))), (X.2.1.1, ()), ()))) X.1.1 X.1.2.1 X.1.2.2.1 X.1.2.2.2.1 X.2.1.1
noncomputable def l_impl_IdealOk_6 : LEnt := ⟨d_impl_IdealOk_6, fun X K => iterL (t_impl_IdealOk_6 X K) fuel X.1.2.2.2.2.1⟩
noncomputable def L_impl_IdealOk : Lam := (Lam.nil).add 6 l_impl_IdealOk_6
theorem lok_impl_IdealOk_6 : LOk E g_impl_IdealOk n_impl_IdealOk L_impl_IdealOk (loopBody Tryz.f7 0) :=
  lok l_impl_IdealOk_6 (by kernel_rfl) fuel fun R X K => (loop_iter (σ := Int) (fun x => SD.enc d_impl_IdealOk_6 ((X.1.1, (X.1.2.1, (X.1.2.2.1, (X.1.2.2.2.1, (x, ()))))), (X.2.1.1, ()), ())) (t_impl_IdealOk_6 X K) (fun m x => by kernel_rfl) fuel X.1.2.2.2.2.1).symm
theorem ok_impl_IdealOk : FnOk Tryz.prog 7 e_impl_IdealOk := FnOk.of (fnOk (Γ := g_impl_IdealOk) (an := n_impl_IdealOk) (Λ := L_impl_IdealOk) ((((((base).add ok_impl_PortsOf).add ok_impl_SoftOk).add ok_impl_sameFilter).add ok_impl_FunctionsOk).add ok_impl_ownPlaces) Tryz.func7 (by kernel_rfl) (hF (by kernel_rfl) (cF lok_impl_IdealOk_6 nF))) (fun a => by kernel_rfl)
noncomputable def e_laws_eqStringS : GEnt := entOf [.data false (.sl .str), .data false (.sl .str)] [(false, .bool)] fun a => Pu.laws_eqStringS a.1 a.2.1
noncomputable def g_laws_eqStringS : Gam := Gam.nil
def n_laws_eqStringS : An := { mask := fun | 4 => [0, 1, 4, 5] | _ => [] }
@[reducible] def d_laws_eqStringS_4 : SD := ⟨[.data false (.sl .arg .str),.data false (.sl .arg .str),B,B,DB,DI,B,B,B,B,B,B,B,B,B,B,B,B,B,B,B,B,B,B,B,B], [Z,Z,Z,Z,Z,Z,Z,Z,Z,Z,Z,Z,Z,Z,Z,Z,Z,Z,Z,Z,Z,Z,Z,Z,Z,Z], none⟩
noncomputable def t_laws_eqStringS_4 {R : Type} (X : SD.D d_laws_eqStringS_4) (K : Ex → AS → Option R) := Pu.laws_eqStringS_T4 (fun y0 => K (.exit 0) (SD.enc d_laws_eqStringS_4 ((X.1.1, (X.1.2.1, (X.1.2.2.1, (y0, ())))), (), ()))) (fun y0 y1 => K .ret (SD.enc d_laws_eqStringS_4 ((X.1.1, (X.1.2.1, (y0, (y1, ())))), (), ()))) X.1.1 X.1.2.1 X.1.2.2.1
noncomputable def l_laws_eqStringS_4 : LEnt := ⟨d_laws_eqStringS_4, fun X K => iterL (t_laws_eqStringS_4 X K) fuel X.1.2.2.2.1⟩
noncomputable def L_laws_eqStringS : Lam := (Lam.nil).add 4 l_laws_eqStringS_4
theorem lok_laws_eqStringS_4 : LOk E g_laws_eqStringS n_laws_eqStringS L_laws_eqStringS (loopBody Tryz.f32 0) :=
  lok l_laws_eqStringS_4 (by kernel_rfl) fuel fun R X K => (loop_iter (σ := Int) (fun x => SD.enc d_laws_eqStringS_4 ((X.1.1, (X.1.2.1, (X.1.2.2.1, (x, ())))), (), ())) (t_laws_eqStringS_4 X K) (fun m x => by kernel_rfl) fuel X.1.2.2.2.1).symm
theorem ok_laws_eqStringS : FnOk Tryz.prog 32 e_laws_eqStringS := FnOk.of (fnOk (Γ := g_laws_eqStringS) (an := n_laws_eqStringS) (Λ := L_laws_eqStringS) (base) Tryz.func32 (by kernel_rfl) (hF (by kernel_rfl) (cF lok_laws_eqStringS_4 nF))) (fun a => by kernel_rfl)
noncomputable def e_laws_eqIntS : GEnt := entOf [.data false (.sl (.int .i64)), .data false (.sl (.int .i64))] [(false, .bool)] fun a => Pu.laws_eqIntS a.1 a.2.1
noncomputable def g_laws_eqIntS : Gam := Gam.nil
def n_laws_eqIntS : An := { mask := fun | 4 => [0, 1, 4, 5] | _ => [] }
@[reducible] def d_laws_eqIntS_4 : SD := ⟨[.data false (.sl .arg (.int .i64)),.data false (.sl .arg (.int .i64)),B,B,DB,DI,B,B,B,B,B,B,B,B,B,B,B,B,B,B,B,B,B,B,B,B], [Z,Z,Z,Z,Z,Z,Z,Z,Z,Z,Z,Z,Z,Z,Z,Z,Z,Z,Z,Z,Z,Z,Z,Z,Z,Z], none⟩
noncomputable def t_laws_eqIntS_4 {R : Type} (X : SD.D d_laws_eqIntS_4) (K : Ex → AS → Option R) := Pu.laws_eqIntS_T4 (fun y0 => K (.exit 0) (SD.enc d_laws_eqIntS_4 ((X.1.1, (X.1.2.1, (X.1.2.2.1, (y0, ())))), (), ()))) (fun y0 y1 => K .ret (SD.enc d_laws_eqIntS_4 ((X.1.1, (X.1.2.1, (y0, (y1, ())))), (), ()))) X.1.1 X.1.2.1 X.1.2.2.1
noncomputable def l_laws_eqIntS_4 : LEnt := ⟨d_laws_eqIntS_4, fun X K => iterL (t_laws_eqIntS_4 X K) fuel X.1.2.2.2.1⟩
noncomputable def L_laws_eqIntS : Lam := (Lam.nil).add 4 l_laws_eqIntS_4
theorem lok_laws_eqIntS_4 : LOk E g_laws_eqIntS n_laws_eqIntS L_laws_eqIntS (loopBody Tryz.f95 0) :=
  lok l_laws_eqIntS_4 (by kernel_rfl) fuel fun R X K => (loop_iter (σ := Int) (fun x => SD.enc d_laws_eqIntS_4 ((X.1.1, (X.1.2.1, (X.1.2.2.1, (x, ())))), (), ())) (t_laws_eqIntS_4 X K) (fun m x => by kernel_rfl) fuel X.1.2.2.2.1).symm
theorem ok_laws_eqIntS : FnOk Tryz.prog 95 e_laws_eqIntS := FnOk.of (fnOk (Γ := g_laws_eqIntS) (an := n_laws_eqIntS) (Λ := L_laws_eqIntS) (base) Tryz.func95 (by kernel_rfl) (hF (by kernel_rfl) (cF lok_laws_eqIntS_4 nF))) (fun a => by kernel_rfl)
noncomputable def e_laws_eqFilter : GEnt := entOf [.data true TFilter, .data true TFilter] [(false, .bool)] fun a => Pu.laws_eqFilter a.1 a.2.1
theorem ok_laws_eqFilter : FnOk Tryz.prog 74 e_laws_eqFilter := FnOk.of (fnOk (an := {}) (Λ := Lam.nil) ((base).add ok_laws_eqIntS) Tryz.func74 (by kernel_rfl) (hF (by kernel_rfl) nF)) (fun a => by kernel_rfl)
noncomputable def e_laws_eqRule : GEnt := entOf [.data true TRule, .data true TRule] [(false, .bool)] fun a => Pu.laws_eqRule a.1 a.2.1
theorem ok_laws_eqRule : FnOk Tryz.prog 106 e_laws_eqRule := FnOk.of (fnOk (an := {}) (Λ := Lam.nil) (base) Tryz.func106 (by kernel_rfl) (hF (by kernel_rfl) nF)) (fun a => by kernel_rfl)
noncomputable def e_laws_eqRuleS : GEnt := entOf [.data false (.sl TRule), .data false (.sl TRule)] [(false, .bool)] fun a => Pu.laws_eqRuleS a.1 a.2.1
noncomputable def g_laws_eqRuleS : Gam := (Gam.nil).add 106 e_laws_eqRule
def n_laws_eqRuleS : An := { mask := fun | 4 => [0, 1, 4, 5] | _ => [] }
@[reducible] def d_laws_eqRuleS_4 : SD := ⟨[.data false (.sl .arg TRule),.data false (.sl .arg TRule),B,B,DB,DI,B,B,B,B,B,B,B,B,B,B,B,B,B,B,B,B,B,B,B,B,B], [Z,Z,Z,Z,Z,Z,Z,Z,Z,Z,Z,Z,Z,Z,Z,Z,Z,Z,Z,Z,Z,Z,Z,Z,Z,Z,Z], none⟩
noncomputable def t_laws_eqRuleS_4 {R : Type} (X : SD.D d_laws_eqRuleS_4) (K : Ex → AS → Option R) := Pu.laws_eqRuleS_T4 (fun y0 => K (.exit 0) (SD.enc d_laws_eqRuleS_4 ((X.1.1, (X.1.2.1, (X.1.2.2.1, (y0, ())))), (), ()))) (fun y0 y1 => K .ret (SD.enc d_laws_eqRuleS_4 ((X.1.1, (X.1.2.1, (y0, (y1, ())))), (), ()))) X.1.1 X.1.2.1 X.1.2.2.1
noncomputable def l_laws_eqRuleS_4 : LEnt := ⟨d_laws_eqRuleS_4, fun X K => iterL (t_laws_eqRuleS_4 X K) fuel X.1.2.2.2.1⟩
noncomputable def L_laws_eqRuleS : Lam := (Lam.nil).add 4 l_laws_eqRuleS_4
theorem lok_laws_eqRuleS_4 : LOk E g_laws_eqRuleS n_laws_eqRuleS L_laws_eqRuleS (loopBody Tryz.f96 0) :=
  lok l_laws_eqRuleS_4 (by kernel_rfl) fuel fun R X K => (loop_iter (σ := Int) (fun x => SD.enc d_laws_eqRuleS_4 ((X.1.1, (X.1.2.1, (X.1.2.2.1, (x, ())))), (), ())) (t_laws_eqRuleS_4 X K) (fun m x => by kernel_rfl) fuel X.1.2.2.2.1).symm
theorem ok_laws_eqRuleS : FnOk Tryz.prog 96 e_laws_eqRuleS := FnOk.of (fnOk (Γ := g_laws_eqRuleS) (an := n_laws_eqRuleS) (Λ := L_laws_eqRuleS) ((base).add ok_laws_eqRule) Tryz.func96 (by kernel_rfl) (hF (by kernel_rfl) (cF lok_laws_eqRuleS_4 nF))) (fun a => by kernel_rfl)
noncomputable def e_laws_eqFlow : GEnt := entOf [.data true TFlow, .data true TFlow] [(false, .bool)] fun a => Pu.laws_eqFlow a.1 a.2.1
theorem ok_laws_eqFlow : FnOk Tryz.prog 108 e_laws_eqFlow := FnOk.of (fnOk (an := {}) (Λ := Lam.nil) (base) Tryz.func108 (by kernel_rfl) (hF (by kernel_rfl) nF)) (fun a => by kernel_rfl)
noncomputable def e_laws_eqSlot : GEnt := entOf [.data true TSlot, .data true TSlot] [(false, .bool)] fun a => Pu.laws_eqSlot a.1 a.2.1
theorem ok_laws_eqSlot : FnOk Tryz.prog 111 e_laws_eqSlot := FnOk.of (fnOk (an := {}) (Λ := Lam.nil) ((base).add ok_laws_eqFlow) Tryz.func111 (by kernel_rfl) (hF (by kernel_rfl) nF)) (fun a => by kernel_rfl)
noncomputable def e_laws_eqSlotS : GEnt := entOf [.data false (.sl TSlot), .data false (.sl TSlot)] [(false, .bool)] fun a => Pu.laws_eqSlotS a.1 a.2.1
noncomputable def g_laws_eqSlotS : Gam := (Gam.nil).add 111 e_laws_eqSlot
def n_laws_eqSlotS : An := { mask := fun | 4 => [0, 1, 4, 5] | _ => [] }
@[reducible] def d_laws_eqSlotS_4 : SD := ⟨[.data false (.sl .arg TSlot),.data false (.sl .arg TSlot),B,B,DB,DI,B,B,B,B,B,B,B,B,B,B,B,B,B,B,B,B,B,B,B,B,B], [Z,Z,Z,Z,Z,Z,Z,Z,Z,Z,Z,Z,Z,Z,Z,Z,Z,Z,Z,Z,Z,Z,Z,Z,Z,Z,Z], none⟩
noncomputable def t_laws_eqSlotS_4 {R : Type} (X : SD.D d_laws_eqSlotS_4) (K : Ex → AS → Option R) := Pu.laws_eqSlotS_T4 (fun y0 => K (.exit 0) (SD.enc d_laws_eqSlotS_4 ((X.1.1, (X.1.2.1, (X.1.2.2.1, (y0, ())))), (), ()))) (fun y0 y1 => K .ret (SD.enc d_laws_eqSlotS_4 ((X.1.1, (X.1.2.1, (y0, (y1, ())))), (), ()))) X.1.1 X.1.2.1 X.1.2.2.1
noncomputable def l_laws_eqSlotS_4 : LEnt := ⟨d_laws_eqSlotS_4, fun X K => iterL (t_laws_eqSlotS_4 X K) fuel X.1.2.2.2.1⟩
noncomputable def L_laws_eqSlotS : Lam := (Lam.nil).add 4 l_laws_eqSlotS_4
theorem lok_laws_eqSlotS_4 : LOk E g_laws_eqSlotS n_laws_eqSlotS L_laws_eqSlotS (loopBody Tryz.f107 0) :=
  lok l_laws_eqSlotS_4 (by kernel_rfl) fuel fun R X K => (loop_iter (σ := Int) (fun x => SD.enc d_laws_eqSlotS_4 ((X.1.1, (X.1.2.1, (X.1.2.2.1, (x, ())))), (), ())) (t_laws_eqSlotS_4 X K) (fun m x => by kernel_rfl) fuel X.1.2.2.2.1).symm
theorem ok_laws_eqSlotS : FnOk Tryz.prog 107 e_laws_eqSlotS := FnOk.of (fnOk (Γ := g_laws_eqSlotS) (an := n_laws_eqSlotS) (Λ := L_laws_eqSlotS) ((base).add ok_laws_eqSlot) Tryz.func107 (by kernel_rfl) (hF (by kernel_rfl) (cF lok_laws_eqSlotS_4 nF))) (fun a => by kernel_rfl)
noncomputable def e_laws_eqFlowTable : GEnt := entOf [.data true (.sl TSlot), .data true (.sl TSlot)] [(false, .bool)] fun a => Pu.laws_eqFlowTable a.1 a.2.1
theorem ok_laws_eqFlowTable : FnOk Tryz.prog 97 e_laws_eqFlowTable := FnOk.of (fnOk (an := {}) (Λ := Lam.nil) ((base).add ok_laws_eqSlotS) Tryz.func97 (by kernel_rfl) (hF (by kernel_rfl) nF)) (fun a => by kernel_rfl)
noncomputable def e_laws_eqSpread : GEnt := entOf [.data true TSpread, .data true TSpread] [(false, .bool)] fun a => Pu.laws_eqSpread a.1 a.2.1
theorem ok_laws_eqSpread : FnOk Tryz.prog 98 e_laws_eqSpread := FnOk.of (fnOk (an := {}) (Λ := Lam.nil) ((base).add ok_laws_eqIntS) Tryz.func98 (by kernel_rfl) (hF (by kernel_rfl) nF)) (fun a => by kernel_rfl)
noncomputable def e_laws_eqSteering : GEnt := entOf [.data true TSteering, .data true TSteering] [(false, .bool)] fun a => Pu.laws_eqSteering a.1 a.2.1
theorem ok_laws_eqSteering : FnOk Tryz.prog 75 e_laws_eqSteering := FnOk.of (fnOk (an := {}) (Λ := Lam.nil) ((((base).add ok_laws_eqRuleS).add ok_laws_eqFlowTable).add ok_laws_eqSpread) Tryz.func75 (by kernel_rfl) (hF (by kernel_rfl) nF)) (fun a => by kernel_rfl)
noncomputable def e_laws_eqStream : GEnt := entOf [.data true TStream, .data true TStream] [(false, .bool)] fun a => Pu.laws_eqStream a.1 a.2.1
theorem ok_laws_eqStream : FnOk Tryz.prog 99 e_laws_eqStream := FnOk.of (fnOk (an := {}) (Λ := Lam.nil) ((base).add ok_laws_eqFlow) Tryz.func99 (by kernel_rfl) (hF (by kernel_rfl) nF)) (fun a => by kernel_rfl)
noncomputable def e_laws_eqStreamS : GEnt := entOf [.data false (.sl TStream), .data false (.sl TStream)] [(false, .bool)] fun a => Pu.laws_eqStreamS a.1 a.2.1
noncomputable def g_laws_eqStreamS : Gam := (Gam.nil).add 99 e_laws_eqStream
def n_laws_eqStreamS : An := { mask := fun | 4 => [0, 1, 4, 5] | _ => [] }
@[reducible] def d_laws_eqStreamS_4 : SD := ⟨[.data false (.sl .arg TStream),.data false (.sl .arg TStream),B,B,DB,DI,B,B,B,B,B,B,B,B,B,B,B,B,B,B,B,B,B,B,B,B,B], [Z,Z,Z,Z,Z,Z,Z,Z,Z,Z,Z,Z,Z,Z,Z,Z,Z,Z,Z,Z,Z,Z,Z,Z,Z,Z,Z], none⟩
noncomputable def t_laws_eqStreamS_4 {R : Type} (X : SD.D d_laws_eqStreamS_4) (K : Ex → AS → Option R) := Pu.laws_eqStreamS_T4 (fun y0 => K (.exit 0) (SD.enc d_laws_eqStreamS_4 ((X.1.1, (X.1.2.1, (X.1.2.2.1, (y0, ())))), (), ()))) (fun y0 y1 => K .ret (SD.enc d_laws_eqStreamS_4 ((X.1.1, (X.1.2.1, (y0, (y1, ())))), (), ()))) X.1.1 X.1.2.1 X.1.2.2.1
noncomputable def l_laws_eqStreamS_4 : LEnt := ⟨d_laws_eqStreamS_4, fun X K => iterL (t_laws_eqStreamS_4 X K) fuel X.1.2.2.2.1⟩
noncomputable def L_laws_eqStreamS : Lam := (Lam.nil).add 4 l_laws_eqStreamS_4
theorem lok_laws_eqStreamS_4 : LOk E g_laws_eqStreamS n_laws_eqStreamS L_laws_eqStreamS (loopBody Tryz.f76 0) :=
  lok l_laws_eqStreamS_4 (by kernel_rfl) fuel fun R X K => (loop_iter (σ := Int) (fun x => SD.enc d_laws_eqStreamS_4 ((X.1.1, (X.1.2.1, (X.1.2.2.1, (x, ())))), (), ())) (t_laws_eqStreamS_4 X K) (fun m x => by kernel_rfl) fuel X.1.2.2.2.1).symm
theorem ok_laws_eqStreamS : FnOk Tryz.prog 76 e_laws_eqStreamS := FnOk.of (fnOk (Γ := g_laws_eqStreamS) (an := n_laws_eqStreamS) (Λ := L_laws_eqStreamS) ((base).add ok_laws_eqStream) Tryz.func76 (by kernel_rfl) (hF (by kernel_rfl) (cF lok_laws_eqStreamS_4 nF))) (fun a => by kernel_rfl)
noncomputable def e_laws_eqSoft : GEnt := entOf [.data true TSoft, .data true TSoft] [(false, .bool)] fun a => Pu.laws_eqSoft a.1 a.2.1
theorem ok_laws_eqSoft : FnOk Tryz.prog 55 e_laws_eqSoft := FnOk.of (fnOk (an := {}) (Λ := Lam.nil) (((((base).add ok_laws_eqStringS).add ok_laws_eqFilter).add ok_laws_eqSteering).add ok_laws_eqStreamS) Tryz.func55 (by kernel_rfl) (hF (by kernel_rfl) nF)) (fun a => by kernel_rfl)
noncomputable def e_laws_eqSoftS : GEnt := entOf [.data false (.sl TSoft), .data false (.sl TSoft)] [(false, .bool)] fun a => Pu.laws_eqSoftS a.1 a.2.1
noncomputable def g_laws_eqSoftS : Gam := (Gam.nil).add 55 e_laws_eqSoft
def n_laws_eqSoftS : An := { mask := fun | 4 => [0, 1, 4, 5] | _ => [] }
@[reducible] def d_laws_eqSoftS_4 : SD := ⟨[.data false (.sl .arg TSoft),.data false (.sl .arg TSoft),B,B,DB,DI,B,B,B,B,B,B,B,B,B,B,B,B,B,B,B,B,B,B,B,B,B], [Z,Z,Z,Z,Z,Z,Z,Z,Z,Z,Z,Z,Z,Z,Z,Z,Z,Z,Z,Z,Z,Z,Z,Z,Z,Z,Z], none⟩
noncomputable def t_laws_eqSoftS_4 {R : Type} (X : SD.D d_laws_eqSoftS_4) (K : Ex → AS → Option R) := Pu.laws_eqSoftS_T4 (fun y0 => K (.exit 0) (SD.enc d_laws_eqSoftS_4 ((X.1.1, (X.1.2.1, (X.1.2.2.1, (y0, ())))), (), ()))) (fun y0 y1 => K .ret (SD.enc d_laws_eqSoftS_4 ((X.1.1, (X.1.2.1, (y0, (y1, ())))), (), ()))) X.1.1 X.1.2.1 X.1.2.2.1
noncomputable def l_laws_eqSoftS_4 : LEnt := ⟨d_laws_eqSoftS_4, fun X K => iterL (t_laws_eqSoftS_4 X K) fuel X.1.2.2.2.1⟩
noncomputable def L_laws_eqSoftS : Lam := (Lam.nil).add 4 l_laws_eqSoftS_4
theorem lok_laws_eqSoftS_4 : LOk E g_laws_eqSoftS n_laws_eqSoftS L_laws_eqSoftS (loopBody Tryz.f28 0) :=
  lok l_laws_eqSoftS_4 (by kernel_rfl) fuel fun R X K => (loop_iter (σ := Int) (fun x => SD.enc d_laws_eqSoftS_4 ((X.1.1, (X.1.2.1, (X.1.2.2.1, (x, ())))), (), ())) (t_laws_eqSoftS_4 X K) (fun m x => by kernel_rfl) fuel X.1.2.2.2.1).symm
theorem ok_laws_eqSoftS : FnOk Tryz.prog 28 e_laws_eqSoftS := FnOk.of (fnOk (Γ := g_laws_eqSoftS) (an := n_laws_eqSoftS) (Λ := L_laws_eqSoftS) ((base).add ok_laws_eqSoft) Tryz.func28 (by kernel_rfl) (hF (by kernel_rfl) (cF lok_laws_eqSoftS_4 nF))) (fun a => by kernel_rfl)
noncomputable def e_laws_eqStringSS : GEnt := entOf [.data false (.sl (.sl .str)), .data false (.sl (.sl .str))] [(false, .bool)] fun a => Pu.laws_eqStringSS a.1 a.2.1
noncomputable def g_laws_eqStringSS : Gam := (Gam.nil).add 32 e_laws_eqStringS
def n_laws_eqStringSS : An := { mask := fun | 4 => [0, 1, 4, 5] | _ => [] }
@[reducible] def d_laws_eqStringSS_4 : SD := ⟨[.data false (.sl .arg (.sl .str)),.data false (.sl .arg (.sl .str)),B,B,DB,DI,B,B,B,B,B,B,B,B,B,B,B,B,B,B,B,B,B,B,B,B,B], [Z,Z,Z,Z,Z,Z,Z,Z,Z,Z,Z,Z,Z,Z,Z,Z,Z,Z,Z,Z,Z,Z,Z,Z,Z,Z,Z], none⟩
noncomputable def t_laws_eqStringSS_4 {R : Type} (X : SD.D d_laws_eqStringSS_4) (K : Ex → AS → Option R) := Pu.laws_eqStringSS_T4 (fun y0 => K (.exit 0) (SD.enc d_laws_eqStringSS_4 ((X.1.1, (X.1.2.1, (X.1.2.2.1, (y0, ())))), (), ()))) (fun y0 y1 => K .ret (SD.enc d_laws_eqStringSS_4 ((X.1.1, (X.1.2.1, (y0, (y1, ())))), (), ()))) X.1.1 X.1.2.1 X.1.2.2.1
noncomputable def l_laws_eqStringSS_4 : LEnt := ⟨d_laws_eqStringSS_4, fun X K => iterL (t_laws_eqStringSS_4 X K) fuel X.1.2.2.2.1⟩
noncomputable def L_laws_eqStringSS : Lam := (Lam.nil).add 4 l_laws_eqStringSS_4
theorem lok_laws_eqStringSS_4 : LOk E g_laws_eqStringSS n_laws_eqStringSS L_laws_eqStringSS (loopBody Tryz.f29 0) :=
  lok l_laws_eqStringSS_4 (by kernel_rfl) fuel fun R X K => (loop_iter (σ := Int) (fun x => SD.enc d_laws_eqStringSS_4 ((X.1.1, (X.1.2.1, (X.1.2.2.1, (x, ())))), (), ())) (t_laws_eqStringSS_4 X K) (fun m x => by kernel_rfl) fuel X.1.2.2.2.1).symm
theorem ok_laws_eqStringSS : FnOk Tryz.prog 29 e_laws_eqStringSS := FnOk.of (fnOk (Γ := g_laws_eqStringSS) (an := n_laws_eqStringSS) (Λ := L_laws_eqStringSS) ((base).add ok_laws_eqStringS) Tryz.func29 (by kernel_rfl) (hF (by kernel_rfl) (cF lok_laws_eqStringSS_4 nF))) (fun a => by kernel_rfl)
noncomputable def e_laws_eqBucket : GEnt := entOf [.data true TBucket, .data true TBucket] [(false, .bool)] fun a => Pu.laws_eqBucket a.1 a.2.1
theorem ok_laws_eqBucket : FnOk Tryz.prog 77 e_laws_eqBucket := FnOk.of (fnOk (an := {}) (Λ := Lam.nil) (base) Tryz.func77 (by kernel_rfl) (hF (by kernel_rfl) nF)) (fun a => by kernel_rfl)
noncomputable def e_laws_eqVirtualFunction : GEnt := entOf [.data true TVirtualFunction, .data true TVirtualFunction] [(false, .bool)] fun a => Pu.laws_eqVirtualFunction a.1 a.2.1
theorem ok_laws_eqVirtualFunction : FnOk Tryz.prog 56 e_laws_eqVirtualFunction := FnOk.of (fnOk (an := {}) (Λ := Lam.nil) ((base).add ok_laws_eqBucket) Tryz.func56 (by kernel_rfl) (hF (by kernel_rfl) nF)) (fun a => by kernel_rfl)
noncomputable def e_laws_eqVirtualFunctionS : GEnt := entOf [.data false (.sl TVirtualFunction), .data false (.sl TVirtualFunction)] [(false, .bool)] fun a => Pu.laws_eqVirtualFunctionS a.1 a.2.1
noncomputable def g_laws_eqVirtualFunctionS : Gam := (Gam.nil).add 56 e_laws_eqVirtualFunction
def n_laws_eqVirtualFunctionS : An := { mask := fun | 4 => [0, 1, 4, 5] | _ => [] }
@[reducible] def d_laws_eqVirtualFunctionS_4 : SD := ⟨[.data false (.sl .arg TVirtualFunction),.data false (.sl .arg TVirtualFunction),B,B,DB,DI,B,B,B,B,B,B,B,B,B,B,B,B,B,B,B,B,B,B,B,B,B], [Z,Z,Z,Z,Z,Z,Z,Z,Z,Z,Z,Z,Z,Z,Z,Z,Z,Z,Z,Z,Z,Z,Z,Z,Z,Z,Z], none⟩
noncomputable def t_laws_eqVirtualFunctionS_4 {R : Type} (X : SD.D d_laws_eqVirtualFunctionS_4) (K : Ex → AS → Option R) := Pu.laws_eqVirtualFunctionS_T4 (fun y0 => K (.exit 0) (SD.enc d_laws_eqVirtualFunctionS_4 ((X.1.1, (X.1.2.1, (X.1.2.2.1, (y0, ())))), (), ()))) (fun y0 y1 => K .ret (SD.enc d_laws_eqVirtualFunctionS_4 ((X.1.1, (X.1.2.1, (y0, (y1, ())))), (), ()))) X.1.1 X.1.2.1 X.1.2.2.1
noncomputable def l_laws_eqVirtualFunctionS_4 : LEnt := ⟨d_laws_eqVirtualFunctionS_4, fun X K => iterL (t_laws_eqVirtualFunctionS_4 X K) fuel X.1.2.2.2.1⟩
noncomputable def L_laws_eqVirtualFunctionS : Lam := (Lam.nil).add 4 l_laws_eqVirtualFunctionS_4
theorem lok_laws_eqVirtualFunctionS_4 : LOk E g_laws_eqVirtualFunctionS n_laws_eqVirtualFunctionS L_laws_eqVirtualFunctionS (loopBody Tryz.f30 0) :=
  lok l_laws_eqVirtualFunctionS_4 (by kernel_rfl) fuel fun R X K => (loop_iter (σ := Int) (fun x => SD.enc d_laws_eqVirtualFunctionS_4 ((X.1.1, (X.1.2.1, (X.1.2.2.1, (x, ())))), (), ())) (t_laws_eqVirtualFunctionS_4 X K) (fun m x => by kernel_rfl) fuel X.1.2.2.2.1).symm
theorem ok_laws_eqVirtualFunctionS : FnOk Tryz.prog 30 e_laws_eqVirtualFunctionS := FnOk.of (fnOk (Γ := g_laws_eqVirtualFunctionS) (an := n_laws_eqVirtualFunctionS) (Λ := L_laws_eqVirtualFunctionS) ((base).add ok_laws_eqVirtualFunction) Tryz.func30 (by kernel_rfl) (hF (by kernel_rfl) (cF lok_laws_eqVirtualFunctionS_4 nF))) (fun a => by kernel_rfl)
noncomputable def e_laws_eqMailbox : GEnt := entOf [.data true TMailbox, .data true TMailbox] [(false, .bool)] fun a => Pu.laws_eqMailbox a.1 a.2.1
theorem ok_laws_eqMailbox : FnOk Tryz.prog 57 e_laws_eqMailbox := FnOk.of (fnOk (an := {}) (Λ := Lam.nil) ((base).add ok_laws_eqFilter) Tryz.func57 (by kernel_rfl) (hF (by kernel_rfl) nF)) (fun a => by kernel_rfl)
noncomputable def e_laws_eqMailboxS : GEnt := entOf [.data false (.sl TMailbox), .data false (.sl TMailbox)] [(false, .bool)] fun a => Pu.laws_eqMailboxS a.1 a.2.1
noncomputable def g_laws_eqMailboxS : Gam := (Gam.nil).add 57 e_laws_eqMailbox
def n_laws_eqMailboxS : An := { mask := fun | 4 => [0, 1, 4, 5] | _ => [] }
@[reducible] def d_laws_eqMailboxS_4 : SD := ⟨[.data false (.sl .arg TMailbox),.data false (.sl .arg TMailbox),B,B,DB,DI,B,B,B,B,B,B,B,B,B,B,B,B,B,B,B,B,B,B,B,B,B], [Z,Z,Z,Z,Z,Z,Z,Z,Z,Z,Z,Z,Z,Z,Z,Z,Z,Z,Z,Z,Z,Z,Z,Z,Z,Z,Z], none⟩
noncomputable def t_laws_eqMailboxS_4 {R : Type} (X : SD.D d_laws_eqMailboxS_4) (K : Ex → AS → Option R) := Pu.laws_eqMailboxS_T4 (fun y0 => K (.exit 0) (SD.enc d_laws_eqMailboxS_4 ((X.1.1, (X.1.2.1, (X.1.2.2.1, (y0, ())))), (), ()))) (fun y0 y1 => K .ret (SD.enc d_laws_eqMailboxS_4 ((X.1.1, (X.1.2.1, (y0, (y1, ())))), (), ()))) X.1.1 X.1.2.1 X.1.2.2.1
noncomputable def l_laws_eqMailboxS_4 : LEnt := ⟨d_laws_eqMailboxS_4, fun X K => iterL (t_laws_eqMailboxS_4 X K) fuel X.1.2.2.2.1⟩
noncomputable def L_laws_eqMailboxS : Lam := (Lam.nil).add 4 l_laws_eqMailboxS_4
theorem lok_laws_eqMailboxS_4 : LOk E g_laws_eqMailboxS n_laws_eqMailboxS L_laws_eqMailboxS (loopBody Tryz.f31 0) :=
  lok l_laws_eqMailboxS_4 (by kernel_rfl) fuel fun R X K => (loop_iter (σ := Int) (fun x => SD.enc d_laws_eqMailboxS_4 ((X.1.1, (X.1.2.1, (X.1.2.2.1, (x, ())))), (), ())) (t_laws_eqMailboxS_4 X K) (fun m x => by kernel_rfl) fuel X.1.2.2.2.1).symm
theorem ok_laws_eqMailboxS : FnOk Tryz.prog 31 e_laws_eqMailboxS := FnOk.of (fnOk (Γ := g_laws_eqMailboxS) (an := n_laws_eqMailboxS) (Λ := L_laws_eqMailboxS) ((base).add ok_laws_eqMailbox) Tryz.func31 (by kernel_rfl) (hF (by kernel_rfl) (cF lok_laws_eqMailboxS_4 nF))) (fun a => by kernel_rfl)
noncomputable def e_laws_eqIdeal : GEnt := entOf [.data true TIdeal, .data true TIdeal] [(false, .bool)] fun a => Pu.laws_eqIdeal a.1 a.2.1
theorem ok_laws_eqIdeal : FnOk Tryz.prog 8 e_laws_eqIdeal := FnOk.of (fnOk (an := {}) (Λ := Lam.nil) ((((((base).add ok_laws_eqSoftS).add ok_laws_eqStringSS).add ok_laws_eqVirtualFunctionS).add ok_laws_eqMailboxS).add ok_laws_eqStringS) Tryz.func8 (by kernel_rfl) (hF (by kernel_rfl) nF)) (fun a => by kernel_rfl)
@[reducible] def s_laws_FnExactIdealOk : List PS := [.data true TIdeal]
noncomputable def e_laws_FnExactIdealOk : GEnt := entOf s_laws_FnExactIdealOk [(false, .bool)] fun a => Pu.laws_FnExactIdealOk a.1
theorem ok_laws_FnExactIdealOk : FnOk Tryz.prog 3 e_laws_FnExactIdealOk := FnOk.of (fnOk (an := {}) (Λ := Lam.nil) ((((((base).add ok_laws_szIdeal).add ok_spec_IdealOk).add ok_laws_toIdeal).add ok_impl_IdealOk).add ok_laws_eqIdeal) Tryz.func3 (by kernel_rfl) (hF (by kernel_rfl) nF)) (fun a => by kernel_rfl)

end Go.Proofs.YthnncngicmfmjaaGreat.Fn
