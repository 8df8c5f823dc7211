import Derived.Test.YtdkhimfkfepnjaaDnSig
import Derived.Test.YtdkhimfkfepnjaaPure
import Derived.Test.YtdkhimfkfepnjaaRows
/- Each function of the program is its pure function (made by gen.py). -/
namespace Go.Proofs.Ytdkhimfkfepnjaa.Fn
open Go.Dn
open Go.Pu (TFilter TMailbox TPort)
set_option maxRecDepth 100000
abbrev B : PD := .bot
abbrev DI : PD := .data false (.int .i64)
abbrev DB : PD := .data false .bool
abbrev Z : Option FT := none
theorem nF {p : Code → Prop} : ∀ x ∈ ([] : List Code), p x := fun _ h => nomatch h
theorem cF {p : Code → Prop} {a : Code} {l : List Code} (h : p a) (t : ∀ x ∈ l, p x) : ∀ x ∈ a :: l, p x := List.forall_mem_cons.2 ⟨h, t⟩
theorem hF {p : Code → Prop} {l m : List Code} (e : l = m) (h : ∀ x ∈ m, p x) : ∀ x ∈ l, p x := e ▸ h
def E : Env := { ty := [(3, ⟨false, (.int .i64), []⟩),
  (4, ⟨false, .bool, []⟩),
  (22, ⟨false, (.sl TMailbox), [(39, 0)]⟩),
  (24, ⟨false, (.sl TPort), [(42, 0)]⟩),
  (27, ⟨false, (.sl TMailbox), [(46, 0)]⟩),
  (35, ⟨false, (.sl (.int .i64)), [(3, 0)]⟩),
  (37, ⟨true, TFilter, [(0, 1), (1, 1), (2, 1)]⟩),
  (39, ⟨true, TMailbox, [(0, 3), (3, 1), (4, 1), (5, 1)]⟩),
  (42, ⟨true, TPort, [(0, 1), (1, 1), (2, 1), (3, 1)]⟩),
  (44, ⟨true, TFilter, [(0, 1), (1, 1), (2, 1)]⟩),
  (46, ⟨true, TMailbox, [(0, 3), (3, 1), (4, 1), (5, 1)]⟩)], eqs := [] }
theorem base : Sound Try.prog E Gam.nil := Sound.nil (lookE_ok (by kernel_rfl)) (lookQ_ok (by kernel_rfl)) (by kernel_rfl)
noncomputable def e_laws_szIntS : GEnt := entOf [.data false (.sl (.int .i64)), .data false (.int .i64)] [(false, (.int .i64))] fun a => Pu.laws_szIntS a.1 a.2.1
theorem ok_laws_szIntS : FnOk Try.prog 37 e_laws_szIntS := FnOk.of (fnOk (an := {}) (Λ := Lam.nil) (base) Try.func37 (by kernel_rfl) (hF (by kernel_rfl) nF)) (fun a => by kernel_rfl)
noncomputable def e_laws_szFilter : GEnt := entOf [.data true TFilter, .data false (.int .i64)] [(false, (.int .i64))] fun a => Pu.laws_szFilter a.1 a.2.1
theorem ok_laws_szFilter : FnOk Try.prog 28 e_laws_szFilter := FnOk.of (fnOk (an := {}) (Λ := Lam.nil) ((base).add ok_laws_szIntS) Try.func28 (by kernel_rfl) (hF (by kernel_rfl) nF)) (fun a => by kernel_rfl)
noncomputable def e_laws_szMailbox : GEnt := entOf [.data true TMailbox, .data false (.int .i64)] [(false, (.int .i64))] fun a => Pu.laws_szMailbox a.1 a.2.1
theorem ok_laws_szMailbox : FnOk Try.prog 13 e_laws_szMailbox := FnOk.of (fnOk (an := {}) (Λ := Lam.nil) ((base).add ok_laws_szFilter) Try.func13 (by kernel_rfl) (hF (by kernel_rfl) nF)) (fun a => by kernel_rfl)
noncomputable def e_laws_szMailboxS : GEnt := entOf [.data false (.sl TMailbox), .data false (.int .i64)] [(false, (.int .i64))] fun a => Pu.laws_szMailboxS a.1 a.2.1
noncomputable def g_laws_szMailboxS : Gam := (Gam.nil).add 13 e_laws_szMailbox
def n_laws_szMailboxS : An := { mask := fun | 5 => [0, 1, 4, 5] | _ => [] }
@[reducible] def d_laws_szMailboxS_5 : SD := ⟨[.data false (.sl .arg TMailbox),DI,B,B,DI,DI,B,B,B,B,B,B,B,B,B,B,B,B,B,B,B,B,B,B,B,B,B], [Z,Z,Z,Z,Z,Z,Z,Z,Z,Z,Z,Z,Z,Z,Z,Z,Z,Z,Z,Z,Z,Z,Z,Z,Z,Z,Z], none⟩
noncomputable def t_laws_szMailboxS_5 {R : Type} (X : SD.D d_laws_szMailboxS_5) (K : Ex → AS → Option R) := Pu.laws_szMailboxS_T5 (fun y0 y1 => K (.exit 0) (SD.enc d_laws_szMailboxS_5 ((X.1.1, (y0, (X.1.2.2.1, (y1, ())))), (), ()))) (fun y0 y1 y2 => K .ret (SD.enc d_laws_szMailboxS_5 ((X.1.1, (y0, (y1, (y2, ())))), (), ()))) X.1.1 X.1.2.2.1
noncomputable def l_laws_szMailboxS_5 : LEnt := ⟨d_laws_szMailboxS_5, fun X K => iterL (t_laws_szMailboxS_5 X K) fuel (X.1.2.1, X.1.2.2.2.1)⟩
noncomputable def L_laws_szMailboxS : Lam := (Lam.nil).add 5 l_laws_szMailboxS_5
theorem lok_laws_szMailboxS_5 : LOk E g_laws_szMailboxS n_laws_szMailboxS L_laws_szMailboxS (loopBody Try.f4 0) :=
  lok l_laws_szMailboxS_5 (by kernel_rfl) fuel fun R X K => (loop_iter (σ := Int × Int) (fun x => SD.enc d_laws_szMailboxS_5 ((X.1.1, (x.1, (X.1.2.2.1, (x.2, ())))), (), ())) (t_laws_szMailboxS_5 X K) (fun m x => by kernel_rfl) fuel (X.1.2.1, X.1.2.2.2.1)).symm
theorem ok_laws_szMailboxS : FnOk Try.prog 4 e_laws_szMailboxS := FnOk.of (fnOk (Γ := g_laws_szMailboxS) (an := n_laws_szMailboxS) (Λ := L_laws_szMailboxS) ((base).add ok_laws_szMailbox) Try.func4 (by kernel_rfl) (hF (by kernel_rfl) (cF lok_laws_szMailboxS_5 nF))) (fun a => by kernel_rfl)
noncomputable def e_spec_l01In : GEnt := entOf [.data false (.int .i64), .data false (.int .i64), .data false (.int .i64)] [(false, .bool)] fun a => Pu.spec_l01In a.1 a.2.1 a.2.2.1
theorem ok_spec_l01In : FnOk Try.prog 14 e_spec_l01In := FnOk.of (fnOk (an := { merge := fun | 1 => some 6 | _ => none }) (Λ := Lam.nil) (base) Try.func14 (by kernel_rfl) (hF (by kernel_rfl) nF)) (fun a => by kernel_rfl)
noncomputable def e_spec_FilterOk : GEnt := entOf [.data true TFilter] [(false, .bool)] fun a => Pu.spec_FilterOk a.1
noncomputable def g_spec_FilterOk : Gam := (Gam.nil).add 14 e_spec_l01In
def n_spec_FilterOk : An := { mask := fun | 2 => [1, 2, 3] | _ => [], merge := fun | 4 => some 35 | 6 => some 2 | _ => none }
@[reducible] def d_spec_FilterOk_2 : SD := ⟨[B,.ptr 1 0,DB,DI,B,B,B,B,B,B,B,B,B,B,B,B,B,B,B,B,B,B,B,B,B,B,B,B,B,B,B,B,B,B,B,B,B,B,B,B,B,B,B,B,B], [Z,some (.pair (.int .i64) (.pair .bool (.sl .arg (.int .i64)))),Z,Z,Z,Z,Z,Z,Z,Z,Z,Z,Z,Z,Z,Z,Z,Z,Z,Z,Z,Z,Z,Z,Z,Z,Z,Z,Z,Z,Z,Z,Z,Z,Z,Z,Z,Z,Z,Z,Z,Z,Z,Z,Z], none⟩
noncomputable def t_spec_FilterOk_2 {R : Type} (X : SD.D d_spec_FilterOk_2) (K : Ex → AS → Option R) := Pu.spec_FilterOk_T2 (fun y0 => K (.exit 0) (SD.enc d_spec_FilterOk_2 ((X.1.1, (y0, ())), (X.2.1.1, ()), ()))) (fun y0 y1 => K .ret (SD.enc d_spec_FilterOk_2 ((y0, (y1, ())), (X.2.1.1, ()), ()))) X.1.1 X.2.1.1
noncomputable def l_spec_FilterOk_2 : LEnt := ⟨d_spec_FilterOk_2, fun X K => iterL (t_spec_FilterOk_2 X K) fuel X.1.2.1⟩
noncomputable def L_spec_FilterOk : Lam := (Lam.nil).add 2 l_spec_FilterOk_2
theorem lok_spec_FilterOk_2 : LOk E g_spec_FilterOk n_spec_FilterOk L_spec_FilterOk (loopBody Try.f29 0) :=
  lok l_spec_FilterOk_2 (by kernel_rfl) fuel fun R X K => (loop_iter (σ := Int) (fun x => SD.enc d_spec_FilterOk_2 ((X.1.1, (x, ())), (X.2.1.1, ()), ())) (t_spec_FilterOk_2 X K) (fun m x => by kernel_rfl) fuel X.1.2.1).symm
theorem ok_spec_FilterOk : FnOk Try.prog 29 e_spec_FilterOk := FnOk.of (fnOk (Γ := g_spec_FilterOk) (an := n_spec_FilterOk) (Λ := L_spec_FilterOk) ((base).add ok_spec_l01In) Try.func29 (by kernel_rfl) (hF (by kernel_rfl) (cF lok_spec_FilterOk_2 nF))) (fun a => by kernel_rfl)
noncomputable def e_spec_MailboxOk : GEnt := entOf [.data true TMailbox] [(false, .bool)] fun a => Pu.spec_MailboxOk a.1
theorem ok_spec_MailboxOk : FnOk Try.prog 15 e_spec_MailboxOk := FnOk.of (fnOk (an := { merge := fun | 1 => some 2 | _ => none }) (Λ := Lam.nil) (((base).add ok_spec_l01In).add ok_spec_FilterOk) Try.func15 (by kernel_rfl) (hF (by kernel_rfl) nF)) (fun a => by kernel_rfl)
noncomputable def e_spec_l24Has : GEnt := entOf [.data false (.sl (.int .i64)), .data false (.int .i64)] [(false, .bool)] fun a => Pu.spec_l24Has a.1 a.2.1
noncomputable def g_spec_l24Has : Gam := Gam.nil
def n_spec_l24Has : An := { mask := fun | 2 => [0, 1, 4, 5] | _ => [] }
@[reducible] def d_spec_l24Has_2 : SD := ⟨[.data false (.sl .arg (.int .i64)),DI,B,B,DB,DI,B,B,B,B,B,B,B,B,B,B,B,B], [Z,Z,Z,Z,Z,Z,Z,Z,Z,Z,Z,Z,Z,Z,Z,Z,Z,Z], none⟩
noncomputable def t_spec_l24Has_2 {R : Type} (X : SD.D d_spec_l24Has_2) (K : Ex → AS → Option R) := Pu.spec_l24Has_T2 (fun y0 => K (.exit 0) (SD.enc d_spec_l24Has_2 ((X.1.1, (X.1.2.1, (X.1.2.2.1, (y0, ())))), (), ()))) (fun y0 y1 => K .ret (SD.enc d_spec_l24Has_2 ((X.1.1, (X.1.2.1, (y0, (y1, ())))), (), ()))) X.1.1 X.1.2.1 X.1.2.2.1
noncomputable def l_spec_l24Has_2 : LEnt := ⟨d_spec_l24Has_2, fun X K => iterL (t_spec_l24Has_2 X K) fuel X.1.2.2.2.1⟩
noncomputable def L_spec_l24Has : Lam := (Lam.nil).add 2 l_spec_l24Has_2
theorem lok_spec_l24Has_2 : LOk E g_spec_l24Has n_spec_l24Has L_spec_l24Has (loopBody Try.f30 0) :=
  lok l_spec_l24Has_2 (by kernel_rfl) fuel fun R X K => (loop_iter (σ := Int) (fun x => SD.enc d_spec_l24Has_2 ((X.1.1, (X.1.2.1, (X.1.2.2.1, (x, ())))), (), ())) (t_spec_l24Has_2 X K) (fun m x => by kernel_rfl) fuel X.1.2.2.2.1).symm
theorem ok_spec_l24Has : FnOk Try.prog 30 e_spec_l24Has := FnOk.of (fnOk (Γ := g_spec_l24Has) (an := n_spec_l24Has) (Λ := L_spec_l24Has) (base) Try.func30 (by kernel_rfl) (hF (by kernel_rfl) (cF lok_spec_l24Has_2 nF))) (fun a => by kernel_rfl)
noncomputable def e_spec_l42Union : GEnt := entOf [.data false (.sl (.int .i64)), .data false (.sl (.int .i64))] [(false, (.sl (.own none) (.int .i64)))] fun a => Pu.spec_l42Union a.1 a.2.1
noncomputable def g_spec_l42Union : Gam := (Gam.nil).add 30 e_spec_l24Has
def n_spec_l42Union : An := { mask := fun | 3 => [1, 5, 6] | 7 => [1, 5, 6, 7] | _ => [], merge := fun | 7 => some 37 | _ => none, mv := [55] }
@[reducible] def d_spec_l42Union_7 : SD := ⟨[B,.data false (.sl .arg (.int .i64)),B,B,B,.data false (.sl (.own (some 61440)) (.int .i64)),DI,DI,B,B,B,B,B,B,B,B,B,B,B,B,B,B,B,B,B,B,B,B,B,B,B,B,B,B,B,B,B,B,B,B,B,B,B,B,B,B,B,B,B,B,B,B,B,B,B,B], [Z,Z,Z,Z,Z,Z,Z,Z,Z,Z,Z,Z,Z,Z,Z,Z,Z,Z,Z,Z,Z,Z,Z,Z,Z,Z,Z,Z,Z,Z,Z,Z,Z,Z,Z,Z,Z,Z,Z,Z,Z,Z,Z,Z,Z,Z,Z,Z,Z,Z,Z,Z,Z,Z,Z,Z], none⟩
noncomputable def t_spec_l42Union_7 {R : Type} (X : SD.D d_spec_l42Union_7) (K : Ex → AS → Option R) := Pu.spec_l42Union_T7 (fun y0 => K (.exit 2) (SD.enc d_spec_l42Union_7 ((X.1.1, (X.1.2.1, (X.1.2.2.1, (y0, ())))), (), ()))) X.1.1 X.1.2.1 X.1.2.2.1
noncomputable def l_spec_l42Union_7 : LEnt := ⟨d_spec_l42Union_7, fun X K => iterL (t_spec_l42Union_7 X K) fuel X.1.2.2.2.1⟩
@[reducible] def d_spec_l42Union_3 : SD := ⟨[B,.data false (.sl .arg (.int .i64)),B,B,B,.data false (.sl (.own (some 61440)) (.int .i64)),DI,B,B,B,B,B,B,B,B,B,B,B,B,B,B,B,B,B,B,B,B,B,B,B,B,B,B,B,B,B,B,B,B,B,B,B,B,B,B,B,B,B,B,B,B,B,B,B,B,B], [Z,Z,Z,Z,Z,Z,Z,Z,Z,Z,Z,Z,Z,Z,Z,Z,Z,Z,Z,Z,Z,Z,Z,Z,Z,Z,Z,Z,Z,Z,Z,Z,Z,Z,Z,Z,Z,Z,Z,Z,Z,Z,Z,Z,Z,Z,Z,Z,Z,Z,Z,Z,Z,Z,Z,Z], none⟩
noncomputable def t_spec_l42Union_3 {R : Type} (X : SD.D d_spec_l42Union_3) (K : Ex → AS → Option R) := Pu.spec_l42Union_T3 (fun y0 y1 => K (.exit 0) (SD.enc d_spec_l42Union_3 ((X.1.1, (y0, (y1, ()))), (), ()))) X.1.1
noncomputable def l_spec_l42Union_3 : LEnt := ⟨d_spec_l42Union_3, fun X K => iterL (t_spec_l42Union_3 X K) fuel (X.1.2.1, X.1.2.2.1)⟩
noncomputable def L_spec_l42Union : Lam := ((Lam.nil).add 7 l_spec_l42Union_7).add 3 l_spec_l42Union_3
theorem lok_spec_l42Union_7 : LOk E g_spec_l42Union n_spec_l42Union L_spec_l42Union (loopBody Try.f16 1) :=
  lok l_spec_l42Union_7 (by kernel_rfl) fuel fun R X K => (loop_iter (σ := Int) (fun x => SD.enc d_spec_l42Union_7 ((X.1.1, (X.1.2.1, (X.1.2.2.1, (x, ())))), (), ())) (t_spec_l42Union_7 X K) (fun m x => by kernel_rfl) fuel X.1.2.2.2.1).symm
theorem lok_spec_l42Union_3 : LOk E g_spec_l42Union n_spec_l42Union L_spec_l42Union (loopBody Try.f16 0) :=
  lok l_spec_l42Union_3 (by kernel_rfl) fuel fun R X K => (loop_iter (σ := (List Int) × Int) (fun x => SD.enc d_spec_l42Union_3 ((X.1.1, (x.1, (x.2, ()))), (), ())) (t_spec_l42Union_3 X K) (fun m x => by kernel_rfl) fuel (X.1.2.1, X.1.2.2.1)).symm
theorem ok_spec_l42Union : FnOk Try.prog 16 e_spec_l42Union := FnOk.of (fnOk (Γ := g_spec_l42Union) (an := n_spec_l42Union) (Λ := L_spec_l42Union) ((base).add ok_spec_l24Has) Try.func16 (by kernel_rfl) (hF (by kernel_rfl) (cF lok_spec_l42Union_3 (cF lok_spec_l42Union_7 nF)))) (fun a => by kernel_rfl)
noncomputable def e_spec_PortsOk : GEnt := entOf [.data false (.sl TPort)] [(false, .bool)] fun a => Pu.spec_PortsOk a.1
noncomputable def g_spec_PortsOk : Gam := (((Gam.nil).add 14 e_spec_l01In).add 29 e_spec_FilterOk).add 30 e_spec_l24Has
def n_spec_PortsOk : An := { mask := fun | 4 => [0, 2, 3] | 9 => [0, 2, 3, 4] | _ => [] }
@[reducible] def d_spec_PortsOk_9 : SD := ⟨[.data false (.sl .arg TPort),B,DB,DI,DI,B,B,B,B,B,B,B,B,B,B,B,B,B,B,B,B,B,B,B,B,B,B,B,B,B,B,B,B,B,B,B,B,B,B,B,B,B,B,B,B,B,B,B,B,B,B,B,B,B,B,B,B,B], [Z,Z,Z,Z,Z,Z,Z,Z,Z,Z,Z,Z,Z,Z,Z,Z,Z,Z,Z,Z,Z,Z,Z,Z,Z,Z,Z,Z,Z,Z,Z,Z,Z,Z,Z,Z,Z,Z,Z,Z,Z,Z,Z,Z,Z,Z,Z,Z,Z,Z,Z,Z,Z,Z,Z,Z,Z,Z], none⟩
noncomputable def t_spec_PortsOk_9 {R : Type} (X : SD.D d_spec_PortsOk_9) (K : Ex → AS → Option R) := Pu.spec_PortsOk_T9 (fun y0 => K (.exit 2) (SD.enc d_spec_PortsOk_9 ((X.1.1, (X.1.2.1, (X.1.2.2.1, (y0, ())))), (), ()))) (fun y0 y1 => K .ret (SD.enc d_spec_PortsOk_9 ((X.1.1, (y0, (X.1.2.2.1, (y1, ())))), (), ()))) X.1.1 X.1.2.1 X.1.2.2.1
noncomputable def l_spec_PortsOk_9 : LEnt := ⟨d_spec_PortsOk_9, fun X K => iterL (t_spec_PortsOk_9 X K) fuel X.1.2.2.2.1⟩
@[reducible] def d_spec_PortsOk_4 : SD := ⟨[.data false (.sl .arg TPort),B,DB,DI,B,B,B,B,B,B,B,B,B,B,B,B,B,B,B,B,B,B,B,B,B,B,B,B,B,B,B,B,B,B,B,B,B,B,B,B,B,B,B,B,B,B,B,B,B,B,B,B,B,B,B,B,B,B], [Z,Z,Z,Z,Z,Z,Z,Z,Z,Z,Z,Z,Z,Z,Z,Z,Z,Z,Z,Z,Z,Z,Z,Z,Z,Z,Z,Z,Z,Z,Z,Z,Z,Z,Z,Z,Z,Z,Z,Z,Z,Z,Z,Z,Z,Z,Z,Z,Z,Z,Z,Z,Z,Z,Z,Z,Z,Z], none⟩
noncomputable def t_spec_PortsOk_4 {R : Type} (X : SD.D d_spec_PortsOk_4) (K : Ex → AS → Option R) := Pu.spec_PortsOk_T4 (fun y0 => K (.exit 0) (SD.enc d_spec_PortsOk_4 ((X.1.1, (X.1.2.1, (y0, ()))), (), ()))) (fun y0 y1 => K .ret (SD.enc d_spec_PortsOk_4 ((X.1.1, (y0, (y1, ()))), (), ()))) X.1.1 X.1.2.1
noncomputable def l_spec_PortsOk_4 : LEnt := ⟨d_spec_PortsOk_4, fun X K => iterL (t_spec_PortsOk_4 X K) fuel X.1.2.2.1⟩
noncomputable def L_spec_PortsOk : Lam := ((Lam.nil).add 9 l_spec_PortsOk_9).add 4 l_spec_PortsOk_4
theorem lok_spec_PortsOk_9 : LOk E g_spec_PortsOk n_spec_PortsOk L_spec_PortsOk (loopBody Try.f17 1) :=
  lok l_spec_PortsOk_9 (by kernel_rfl) fuel fun R X K => (loop_iter (σ := Int) (fun x => SD.enc d_spec_PortsOk_9 ((X.1.1, (X.1.2.1, (X.1.2.2.1, (x, ())))), (), ())) (t_spec_PortsOk_9 X K) (fun m x => by kernel_rfl) fuel X.1.2.2.2.1).symm
theorem lok_spec_PortsOk_4 : LOk E g_spec_PortsOk n_spec_PortsOk L_spec_PortsOk (loopBody Try.f17 0) :=
  lok l_spec_PortsOk_4 (by kernel_rfl) fuel fun R X K => (loop_iter (σ := Int) (fun x => SD.enc d_spec_PortsOk_4 ((X.1.1, (X.1.2.1, (x, ()))), (), ())) (t_spec_PortsOk_4 X K) (fun m x => by kernel_rfl) fuel X.1.2.2.1).symm
theorem ok_spec_PortsOk : FnOk Try.prog 17 e_spec_PortsOk := FnOk.of (fnOk (Γ := g_spec_PortsOk) (an := n_spec_PortsOk) (Λ := L_spec_PortsOk) ((((base).add ok_spec_l01In).add ok_spec_FilterOk).add ok_spec_l24Has) Try.func17 (by kernel_rfl) (hF (by kernel_rfl) (cF lok_spec_PortsOk_4 (cF lok_spec_PortsOk_9 nF)))) (fun a => by kernel_rfl)
noncomputable def e_spec_PortsOf : GEnt := entOf [.data false (.sl TMailbox)] [(false, (.sl (.own none) TPort)), (false, .bool)] fun a => Pu.spec_PortsOf a.1
noncomputable def g_spec_PortsOf : Gam := ((((Gam.nil).add 14 e_spec_l01In).add 15 e_spec_MailboxOk).add 16 e_spec_l42Union).add 17 e_spec_PortsOk
def n_spec_PortsOf : An := { mask := fun | 5 => [0, 2, 3, 4, 5] | _ => [], mv := [41, 63] }
@[reducible] def d_spec_PortsOf_5 : SD := ⟨[.data false (.sl .arg TMailbox),B,.data false (.sl (.own (some 24576)) TPort),DB,.data false (.sl (.own (some 49152)) TPort),DI,B,B,B,B,B,B,B,B,B,B,B,B,B,B,B,B,B,B,B,B,B,B,B,B,B,B,B,B,B,B,B,B,B,B,B,B,B,B,B,B,B,B,B,B,B,B,B,B,B,B,B,B,B,B,B,B,B,B], [Z,Z,Z,Z,Z,Z,Z,Z,Z,Z,Z,Z,Z,Z,Z,Z,Z,Z,Z,Z,Z,Z,Z,Z,Z,Z,Z,Z,Z,Z,Z,Z,Z,Z,Z,Z,Z,Z,Z,Z,Z,Z,Z,Z,Z,Z,Z,Z,Z,Z,Z,Z,Z,Z,Z,Z,Z,Z,Z,Z,Z,Z,Z,Z], none⟩
noncomputable def t_spec_PortsOf_5 {R : Type} (X : SD.D d_spec_PortsOf_5) (K : Ex → AS → Option R) := Pu.spec_PortsOf_T5 (fun y0 y1 => K (.exit 0) (SD.enc d_spec_PortsOf_5 ((X.1.1, (X.1.2.1, (X.1.2.2.1, (y0, (y1, ()))))), (), ()))) (fun y0 y1 y2 y3 => K .ret (SD.enc d_spec_PortsOf_5 ((X.1.1, (y0, (y1, (y2, (y3, ()))))), (), ()))) X.1.1 X.1.2.1 X.1.2.2.1
noncomputable def l_spec_PortsOf_5 : LEnt := ⟨d_spec_PortsOf_5, fun X K => iterL (t_spec_PortsOf_5 X K) fuel (X.1.2.2.2.1, X.1.2.2.2.2.1)⟩
noncomputable def L_spec_PortsOf : Lam := (Lam.nil).add 5 l_spec_PortsOf_5
theorem lok_spec_PortsOf_5 : LOk E g_spec_PortsOf n_spec_PortsOf L_spec_PortsOf (loopBody Try.f5 0) :=
  lok l_spec_PortsOf_5 (by kernel_rfl) fuel fun R X K => (loop_iter (σ := (List Pu.Port) × Int) (fun x => SD.enc d_spec_PortsOf_5 ((X.1.1, (X.1.2.1, (X.1.2.2.1, (x.1, (x.2, ()))))), (), ())) (t_spec_PortsOf_5 X K) (fun m x => by kernel_rfl) fuel (X.1.2.2.2.1, X.1.2.2.2.2.1)).symm
theorem ok_spec_PortsOf : FnOk Try.prog 5 e_spec_PortsOf := FnOk.of (fnOk (Γ := g_spec_PortsOf) (an := n_spec_PortsOf) (Λ := L_spec_PortsOf) (((((base).add ok_spec_l01In).add ok_spec_MailboxOk).add ok_spec_l42Union).add ok_spec_PortsOk) Try.func5 (by kernel_rfl) (hF (by kernel_rfl) (cF lok_spec_PortsOf_5 nF))) (fun a => by kernel_rfl)
noncomputable def e_laws_toIntS : GEnt := entOf [.data false (.sl (.int .i64))] [(false, (.sl (.own none) (.int .i64)))] fun a => Pu.laws_toIntS a.1
noncomputable def g_laws_toIntS : Gam := Gam.nil
def n_laws_toIntS : An := { mask := fun | 3 => [0, 3, 4] | _ => [], mv := [21] }
@[reducible] def d_laws_toIntS_3 : SD := ⟨[.data false (.sl .arg (.int .i64)),B,B,.data false (.sl (.own (some 36864)) (.int .i64)),DI,B,B,B,B,B,B,B,B,B,B,B,B,B,B,B,B,B], [Z,Z,Z,Z,Z,Z,Z,Z,Z,Z,Z,Z,Z,Z,Z,Z,Z,Z,Z,Z,Z,Z], none⟩
noncomputable def t_laws_toIntS_3 {R : Type} (X : SD.D d_laws_toIntS_3) (K : Ex → AS → Option R) := Pu.laws_toIntS_T3 (fun y0 y1 => K (.exit 0) (SD.enc d_laws_toIntS_3 ((X.1.1, (y0, (y1, ()))), (), ()))) X.1.1
noncomputable def l_laws_toIntS_3 : LEnt := ⟨d_laws_toIntS_3, fun X K => iterL (t_laws_toIntS_3 X K) fuel (X.1.2.1, X.1.2.2.1)⟩
noncomputable def L_laws_toIntS : Lam := (Lam.nil).add 3 l_laws_toIntS_3
theorem lok_laws_toIntS_3 : LOk E g_laws_toIntS n_laws_toIntS L_laws_toIntS (loopBody Try.f38 0) :=
  lok l_laws_toIntS_3 (by kernel_rfl) fuel fun R X K => (loop_iter (σ := (List Int) × Int) (fun x => SD.enc d_laws_toIntS_3 ((X.1.1, (x.1, (x.2, ()))), (), ())) (t_laws_toIntS_3 X K) (fun m x => by kernel_rfl) fuel (X.1.2.1, X.1.2.2.1)).symm
theorem ok_laws_toIntS : FnOk Try.prog 38 e_laws_toIntS := FnOk.of (fnOk (Γ := g_laws_toIntS) (an := n_laws_toIntS) (Λ := L_laws_toIntS) (base) Try.func38 (by kernel_rfl) (hF (by kernel_rfl) (cF lok_laws_toIntS_3 nF))) (fun a => by kernel_rfl)
noncomputable def e_laws_toFilter : GEnt := entOf [.data true TFilter] [(true, (.pair (.int .i64) (.pair .bool (.sl (.own none) (.int .i64)))))] fun a => Pu.laws_toFilter a.1
theorem ok_laws_toFilter : FnOk Try.prog 31 e_laws_toFilter := FnOk.of (fnOk (an := { mv := [14] }) (Λ := Lam.nil) ((base).add ok_laws_toIntS) Try.func31 (by kernel_rfl) (hF (by kernel_rfl) nF)) (fun a => by kernel_rfl)
noncomputable def e_laws_toMailbox : GEnt := entOf [.data true TMailbox] [(true, (.pair (.pair (.int .i64) (.pair .bool (.sl (.own none) (.int .i64)))) (.pair (.int .i64) (.pair (.int .i64) (.int .i64)))))] fun a => Pu.laws_toMailbox a.1
theorem ok_laws_toMailbox : FnOk Try.prog 18 e_laws_toMailbox := FnOk.of (fnOk (an := { mv := [17] }) (Λ := Lam.nil) ((base).add ok_laws_toFilter) Try.func18 (by kernel_rfl) (hF (by kernel_rfl) nF)) (fun a => by kernel_rfl)
noncomputable def e_laws_toMailboxS : GEnt := entOf [.data false (.sl TMailbox)] [(false, (.sl (.own none) TMailbox))] fun a => Pu.laws_toMailboxS a.1
noncomputable def g_laws_toMailboxS : Gam := (Gam.nil).add 18 e_laws_toMailbox
def n_laws_toMailboxS : An := { mask := fun | 3 => [0, 3, 4] | _ => [], mv := [22] }
@[reducible] def d_laws_toMailboxS_3 : SD := ⟨[.data false (.sl .arg TMailbox),B,B,.data false (.sl (.own (some 36864)) TMailbox),DI,B,B,B,B,B,B,B,B,B,B,B,B,B,B,B,B,B,B], [Z,Z,Z,Z,Z,Z,Z,Z,Z,Z,Z,Z,Z,Z,Z,Z,Z,Z,Z,Z,Z,Z,Z], none⟩
noncomputable def t_laws_toMailboxS_3 {R : Type} (X : SD.D d_laws_toMailboxS_3) (K : Ex → AS → Option R) := Pu.laws_toMailboxS_T3 (fun y0 y1 => K (.exit 0) (SD.enc d_laws_toMailboxS_3 ((X.1.1, (y0, (y1, ()))), (), ()))) X.1.1
noncomputable def l_laws_toMailboxS_3 : LEnt := ⟨d_laws_toMailboxS_3, fun X K => iterL (t_laws_toMailboxS_3 X K) fuel (X.1.2.1, X.1.2.2.1)⟩
noncomputable def L_laws_toMailboxS : Lam := (Lam.nil).add 3 l_laws_toMailboxS_3
theorem lok_laws_toMailboxS_3 : LOk E g_laws_toMailboxS n_laws_toMailboxS L_laws_toMailboxS (loopBody Try.f6 0) :=
  lok l_laws_toMailboxS_3 (by kernel_rfl) fuel fun R X K => (loop_iter (σ := (List Pu.Mailbox) × Int) (fun x => SD.enc d_laws_toMailboxS_3 ((X.1.1, (x.1, (x.2, ()))), (), ())) (t_laws_toMailboxS_3 X K) (fun m x => by kernel_rfl) fuel (X.1.2.1, X.1.2.2.1)).symm
theorem ok_laws_toMailboxS : FnOk Try.prog 6 e_laws_toMailboxS := FnOk.of (fnOk (Γ := g_laws_toMailboxS) (an := n_laws_toMailboxS) (Λ := L_laws_toMailboxS) ((base).add ok_laws_toMailbox) Try.func6 (by kernel_rfl) (hF (by kernel_rfl) (cF lok_laws_toMailboxS_3 nF))) (fun a => by kernel_rfl)
noncomputable def e_impl_between : GEnt := entOf [.data false (.int .i64), .data false (.int .i64), .data false (.int .i64)] [(false, .bool)] fun a => Pu.impl_between a.1 a.2.1 a.2.2.1
theorem ok_impl_between : FnOk Try.prog 19 e_impl_between := FnOk.of (fnOk (an := { merge := fun | 1 => some 6 | _ => none }) (Λ := Lam.nil) (base) Try.func19 (by kernel_rfl) (hF (by kernel_rfl) nF)) (fun a => by kernel_rfl)
noncomputable def e_impl_FilterOk : GEnt := entOf [.data true TFilter] [(false, .bool)] fun a => Pu.impl_FilterOk a.1
noncomputable def g_impl_FilterOk : Gam := (Gam.nil).add 19 e_impl_between
def n_impl_FilterOk : An := { mask := fun | 2 => [1, 2, 6, 7, 8] | _ => [], merge := fun | 4 => some 29 | 7 => some 2 | _ => none }
@[reducible] def d_impl_FilterOk_2 : SD := ⟨[B,.ptr 1 0,DB,B,B,B,.data false (.sl .arg (.int .i64)),DI,DI,B,B,B,B,B,B,B,B,B,B,B,B,B,B,B,B,B,B,B,B,B,B,B,B,B,B,B,B,B,B,B], [Z,some (.pair (.int .i64) (.pair .bool (.sl .arg (.int .i64)))),Z,Z,Z,Z,Z,Z,Z,Z,Z,Z,Z,Z,Z,Z,Z,Z,Z,Z,Z,Z,Z,Z,Z,Z,Z,Z,Z,Z,Z,Z,Z,Z,Z,Z,Z,Z,Z,Z], none⟩
noncomputable def t_impl_FilterOk_2 {R : Type} (X : SD.D d_impl_FilterOk_2) (K : Ex → AS → Option R) := Pu.impl_FilterOk_T2 (fun y0 => K (.exit 0) (SD.enc d_impl_FilterOk_2 ((X.1.1, (X.1.2.1, (X.1.2.2.1, (y0, ())))), (X.2.1.1, ()), ()))) (fun y0 y1 => K .ret (SD.enc d_impl_FilterOk_2 ((y0, (X.1.2.1, (X.1.2.2.1, (y1, ())))), (X.2.1.1, ()), ()))) X.1.1 X.1.2.1 X.1.2.2.1 X.2.1.1
noncomputable def l_impl_FilterOk_2 : LEnt := ⟨d_impl_FilterOk_2, fun X K => iterL (t_impl_FilterOk_2 X K) fuel X.1.2.2.2.1⟩
noncomputable def L_impl_FilterOk : Lam := (Lam.nil).add 2 l_impl_FilterOk_2
theorem lok_impl_FilterOk_2 : LOk E g_impl_FilterOk n_impl_FilterOk L_impl_FilterOk (loopBody Try.f32 0) :=
  lok l_impl_FilterOk_2 (by kernel_rfl) fuel fun R X K => (loop_iter (σ := Int) (fun x => SD.enc d_impl_FilterOk_2 ((X.1.1, (X.1.2.1, (X.1.2.2.1, (x, ())))), (X.2.1.1, ()), ())) (t_impl_FilterOk_2 X K) (fun m x => by kernel_rfl) fuel X.1.2.2.2.1).symm
theorem ok_impl_FilterOk : FnOk Try.prog 32 e_impl_FilterOk := FnOk.of (fnOk (Γ := g_impl_FilterOk) (an := n_impl_FilterOk) (Λ := L_impl_FilterOk) ((base).add ok_impl_between) Try.func32 (by kernel_rfl) (hF (by kernel_rfl) (cF lok_impl_FilterOk_2 nF))) (fun a => by kernel_rfl)
noncomputable def e_impl_MailboxOk : GEnt := entOf [.data true TMailbox] [(false, .bool)] fun a => Pu.impl_MailboxOk a.1
theorem ok_impl_MailboxOk : FnOk Try.prog 20 e_impl_MailboxOk := FnOk.of (fnOk (an := { merge := fun | 1 => some 2 | _ => none }) (Λ := Lam.nil) (((base).add ok_impl_between).add ok_impl_FilterOk) Try.func20 (by kernel_rfl) (hF (by kernel_rfl) nF)) (fun a => by kernel_rfl)
noncomputable def e_impl_hasInt : GEnt := entOf [.data false (.sl (.int .i64)), .data false (.int .i64)] [(false, .bool)] fun a => Pu.impl_hasInt a.1 a.2.1
noncomputable def g_impl_hasInt : Gam := Gam.nil
def n_impl_hasInt : An := { mask := fun | 2 => [1, 4, 7, 8, 9] | _ => [] }
@[reducible] def d_impl_hasInt_2 : SD := ⟨[B,DI,B,B,DB,B,B,.data false (.sl .arg (.int .i64)),DI,DI,B,B,B,B,B,B,B], [Z,Z,Z,Z,Z,Z,Z,Z,Z,Z,Z,Z,Z,Z,Z,Z,Z], none⟩
noncomputable def t_impl_hasInt_2 {R : Type} (X : SD.D d_impl_hasInt_2) (K : Ex → AS → Option R) := Pu.impl_hasInt_T2 (fun y0 => K (.exit 0) (SD.enc d_impl_hasInt_2 ((X.1.1, (X.1.2.1, (X.1.2.2.1, (X.1.2.2.2.1, (y0, ()))))), (), ()))) (fun y0 y1 => K .ret (SD.enc d_impl_hasInt_2 ((X.1.1, (y0, (X.1.2.2.1, (X.1.2.2.2.1, (y1, ()))))), (), ()))) X.1.1 X.1.2.1 X.1.2.2.1 X.1.2.2.2.1
noncomputable def l_impl_hasInt_2 : LEnt := ⟨d_impl_hasInt_2, fun X K => iterL (t_impl_hasInt_2 X K) fuel X.1.2.2.2.2.1⟩
noncomputable def L_impl_hasInt : Lam := (Lam.nil).add 2 l_impl_hasInt_2
theorem lok_impl_hasInt_2 : LOk E g_impl_hasInt n_impl_hasInt L_impl_hasInt (loopBody Try.f21 0) :=
  lok l_impl_hasInt_2 (by kernel_rfl) fuel fun R X K => (loop_iter (σ := Int) (fun x => SD.enc d_impl_hasInt_2 ((X.1.1, (X.1.2.1, (X.1.2.2.1, (X.1.2.2.2.1, (x, ()))))), (), ())) (t_impl_hasInt_2 X K) (fun m x => by kernel_rfl) fuel X.1.2.2.2.2.1).symm
theorem ok_impl_hasInt : FnOk Try.prog 21 e_impl_hasInt := FnOk.of (fnOk (Γ := g_impl_hasInt) (an := n_impl_hasInt) (Λ := L_impl_hasInt) (base) Try.func21 (by kernel_rfl) (hF (by kernel_rfl) (cF lok_impl_hasInt_2 nF))) (fun a => by kernel_rfl)
noncomputable def e_impl_addOrdered : GEnt := entOf [.data false (.sl (.int .i64)), .data false (.int .i64)] [(false, (.sl (.own none) (.int .i64)))] fun a => Pu.impl_addOrdered a.1 a.2.1
noncomputable def g_impl_addOrdered : Gam := Gam.nil
def n_impl_addOrdered : An := { mask := fun | 4 => [1, 5, 6, 10, 11, 12] | _ => [], merge := fun | 6 => some 22 | _ => none, mv := [23, 27, 34, 38] }
@[reducible] def d_impl_addOrdered_4 : SD := ⟨[B,DI,B,B,B,.data false (.sl (.own (some 61440)) (.int .i64)),DB,B,B,B,.data false (.sl .arg (.int .i64)),DI,DI,B,B,B,B,B,B,B,B,B,B,B,B,B,B,B,B,B,B,B,B,B,B,B,B,B,B], [Z,Z,Z,Z,Z,Z,Z,Z,Z,Z,Z,Z,Z,Z,Z,Z,Z,Z,Z,Z,Z,Z,Z,Z,Z,Z,Z,Z,Z,Z,Z,Z,Z,Z,Z,Z,Z,Z,Z], none⟩
noncomputable def t_impl_addOrdered_4 {R : Type} (X : SD.D d_impl_addOrdered_4) (K : Ex → AS → Option R) := Pu.impl_addOrdered_T4 (fun y0 y1 y2 => K (.exit 0) (SD.enc d_impl_addOrdered_4 ((X.1.1, (y0, (y1, (X.1.2.2.2.1, (X.1.2.2.2.2.1, (y2, ())))))), (), ()))) X.1.1 X.1.2.2.2.1 X.1.2.2.2.2.1
noncomputable def l_impl_addOrdered_4 : LEnt := ⟨d_impl_addOrdered_4, fun X K => iterL (t_impl_addOrdered_4 X K) fuel (X.1.2.1, X.1.2.2.1, X.1.2.2.2.2.2.1)⟩
noncomputable def L_impl_addOrdered : Lam := (Lam.nil).add 4 l_impl_addOrdered_4
theorem lok_impl_addOrdered_4 : LOk E g_impl_addOrdered n_impl_addOrdered L_impl_addOrdered (loopBody Try.f22 0) :=
  lok l_impl_addOrdered_4 (by kernel_rfl) fuel fun R X K => (loop_iter (σ := (List Int) × Bool × Int) (fun x => SD.enc d_impl_addOrdered_4 ((X.1.1, (x.1, (x.2.1, (X.1.2.2.2.1, (X.1.2.2.2.2.1, (x.2.2, ())))))), (), ())) (t_impl_addOrdered_4 X K) (fun m x => by kernel_rfl) fuel (X.1.2.1, X.1.2.2.1, X.1.2.2.2.2.2.1)).symm
theorem ok_impl_addOrdered : FnOk Try.prog 22 e_impl_addOrdered := FnOk.of (fnOk (Γ := g_impl_addOrdered) (an := n_impl_addOrdered) (Λ := L_impl_addOrdered) (base) Try.func22 (by kernel_rfl) (hF (by kernel_rfl) (cF lok_impl_addOrdered_4 nF))) (fun a => by kernel_rfl)
noncomputable def e_impl_filterOf : GEnt := entOf [.data true TPort] [(true, (.pair (.int .i64) (.pair .bool (.sl .arg (.int .i64)))))] fun a => Pu.impl_filterOf a.1
theorem ok_impl_filterOf : FnOk Try.prog 33 e_impl_filterOf := FnOk.of (fnOk (an := {}) (Λ := Lam.nil) (base) Try.func33 (by kernel_rfl) (hF (by kernel_rfl) nF)) (fun a => by kernel_rfl)
noncomputable def e_impl_portWith : GEnt := entOf [.data false (.sl TPort), .data false (.int .i64)] [(false, (.int .i64))] fun a => Pu.impl_portWith a.1 a.2.1
noncomputable def g_impl_portWith : Gam := Gam.nil
def n_impl_portWith : An := { mask := fun | 2 => [1, 4, 7, 8, 9] | _ => [], merge := fun | 4 => some 21 | _ => none }
@[reducible] def d_impl_portWith_2 : SD := ⟨[B,DI,B,B,DI,B,B,.data false (.sl .arg TPort),DI,DI,B,B,B,B,B,B,B,B,B,B,B,B,B,B], [Z,Z,Z,Z,Z,Z,Z,Z,Z,Z,Z,Z,Z,Z,Z,Z,Z,Z,Z,Z,Z,Z,Z,Z], none⟩
noncomputable def t_impl_portWith_2 {R : Type} (X : SD.D d_impl_portWith_2) (K : Ex → AS → Option R) := Pu.impl_portWith_T2 (fun y0 => K (.exit 0) (SD.enc d_impl_portWith_2 ((X.1.1, (X.1.2.1, (X.1.2.2.1, (X.1.2.2.2.1, (y0, ()))))), (), ()))) (fun y0 y1 => K .ret (SD.enc d_impl_portWith_2 ((X.1.1, (y0, (X.1.2.2.1, (X.1.2.2.2.1, (y1, ()))))), (), ()))) X.1.1 X.1.2.1 X.1.2.2.1 X.1.2.2.2.1
noncomputable def l_impl_portWith_2 : LEnt := ⟨d_impl_portWith_2, fun X K => iterL (t_impl_portWith_2 X K) fuel X.1.2.2.2.2.1⟩
noncomputable def L_impl_portWith : Lam := (Lam.nil).add 2 l_impl_portWith_2
theorem lok_impl_portWith_2 : LOk E g_impl_portWith n_impl_portWith L_impl_portWith (loopBody Try.f34 0) :=
  lok l_impl_portWith_2 (by kernel_rfl) fuel fun R X K => (loop_iter (σ := Int) (fun x => SD.enc d_impl_portWith_2 ((X.1.1, (X.1.2.1, (X.1.2.2.1, (X.1.2.2.2.1, (x, ()))))), (), ())) (t_impl_portWith_2 X K) (fun m x => by kernel_rfl) fuel X.1.2.2.2.2.1).symm
theorem ok_impl_portWith : FnOk Try.prog 34 e_impl_portWith := FnOk.of (fnOk (Γ := g_impl_portWith) (an := n_impl_portWith) (Λ := L_impl_portWith) (base) Try.func34 (by kernel_rfl) (hF (by kernel_rfl) (cF lok_impl_portWith_2 nF))) (fun a => by kernel_rfl)
noncomputable def e_impl_PortsOk : GEnt := entOf [.data false (.sl TPort)] [(false, .bool)] fun a => Pu.impl_PortsOk a.1
noncomputable def g_impl_PortsOk : Gam := (((((Gam.nil).add 19 e_impl_between).add 21 e_impl_hasInt).add 32 e_impl_FilterOk).add 33 e_impl_filterOf).add 34 e_impl_portWith
def n_impl_PortsOk : An := { mask := fun | 4 => [0, 2, 9, 10, 11] | _ => [], merge := fun | 6 => some 27 | 8 => some 37 | _ => none }
@[reducible] def d_impl_PortsOk_4 : SD := ⟨[.data false (.sl .arg TPort),B,DB,B,B,B,B,B,B,.data false (.sl .arg TPort),DI,DI,B,B,B,B,B,B,B,B,B,B,B,B,B,B,B,B,B,B,B,B,B,B,B,B,B,B,B], [Z,Z,Z,Z,Z,Z,Z,Z,Z,Z,Z,Z,Z,Z,Z,Z,Z,Z,Z,Z,Z,Z,Z,Z,Z,Z,Z,Z,Z,Z,Z,Z,Z,Z,Z,Z,Z,Z,Z], none⟩
noncomputable def t_impl_PortsOk_4 {R : Type} (X : SD.D d_impl_PortsOk_4) (K : Ex → AS → Option R) := Pu.impl_PortsOk_T4 (fun y0 => K (.exit 0) (SD.enc d_impl_PortsOk_4 ((X.1.1, (X.1.2.1, (X.1.2.2.1, (X.1.2.2.2.1, (y0, ()))))), (), ()))) (fun y0 y1 => K .ret (SD.enc d_impl_PortsOk_4 ((X.1.1, (y0, (X.1.2.2.1, (X.1.2.2.2.1, (y1, ()))))), (), ()))) X.1.1 X.1.2.1 X.1.2.2.1 X.1.2.2.2.1
noncomputable def l_impl_PortsOk_4 : LEnt := ⟨d_impl_PortsOk_4, fun X K => iterL (t_impl_PortsOk_4 X K) fuel X.1.2.2.2.2.1⟩
noncomputable def L_impl_PortsOk : Lam := (Lam.nil).add 4 l_impl_PortsOk_4
theorem lok_impl_PortsOk_4 : LOk E g_impl_PortsOk n_impl_PortsOk L_impl_PortsOk (loopBody Try.f23 0) :=
  lok l_impl_PortsOk_4 (by kernel_rfl) fuel fun R X K => (loop_iter (σ := Int) (fun x => SD.enc d_impl_PortsOk_4 ((X.1.1, (X.1.2.1, (X.1.2.2.1, (X.1.2.2.2.1, (x, ()))))), (), ())) (t_impl_PortsOk_4 X K) (fun m x => by kernel_rfl) fuel X.1.2.2.2.2.1).symm
theorem ok_impl_PortsOk : FnOk Try.prog 23 e_impl_PortsOk := FnOk.of (fnOk (Γ := g_impl_PortsOk) (an := n_impl_PortsOk) (Λ := L_impl_PortsOk) ((((((base).add ok_impl_between).add ok_impl_hasInt).add ok_impl_FilterOk).add ok_impl_filterOf).add ok_impl_portWith) Try.func23 (by kernel_rfl) (hF (by kernel_rfl) (cF lok_impl_PortsOk_4 nF))) (fun a => by kernel_rfl)
noncomputable def e_impl_PortsOf : GEnt := entOf [.data false (.sl TMailbox)] [(false, (.sl (.own none) TPort)), (false, .bool)] fun a => Pu.impl_PortsOf a.1
noncomputable def g_impl_PortsOf : Gam := (((((Gam.nil).add 19 e_impl_between).add 20 e_impl_MailboxOk).add 21 e_impl_hasInt).add 22 e_impl_addOrdered).add 23 e_impl_PortsOk
def n_impl_PortsOf : An := { mask := fun | 6 => [2, 3, 4, 5, 18, 19, 20] | 12 => [2, 3, 4, 5, 7, 8, 18, 19, 20, 32, 33, 34] | _ => [], mv := [53, 57, 63, 69] }
@[reducible] def d_impl_PortsOf_12 : SD := ⟨[B,B,.data false (.sl (.own (some 24576)) TPort),DB,.data false (.sl (.own (some 49152)) TPort),.data false (.sl (.own (some 61440)) (.int .i64)),B,.ptr 7 0,.data false (.sl (.own (some 98304)) (.int .i64)),B,B,B,B,B,B,B,B,B,.data false (.sl .arg TMailbox),DI,DI,B,B,B,B,B,B,B,B,B,B,B,.data false (.sl (.own (some 393216)) (.int .i64)),DI,DI,B,B,B,B,B,B,B,B,B,B,B,B,B,B,B,B,B,B,B,B,B,B,B,B,B,B,B,B,B,B,B,B,B,B,B], [Z,Z,Z,Z,Z,Z,Z,some (.pair (.pair (.int .i64) (.pair .bool (.sl .arg (.int .i64)))) (.pair (.int .i64) (.pair (.int .i64) (.int .i64)))),Z,Z,Z,Z,Z,Z,Z,Z,Z,Z,Z,Z,Z,Z,Z,Z,Z,Z,Z,Z,Z,Z,Z,Z,Z,Z,Z,Z,Z,Z,Z,Z,Z,Z,Z,Z,Z,Z,Z,Z,Z,Z,Z,Z,Z,Z,Z,Z,Z,Z,Z,Z,Z,Z,Z,Z,Z,Z,Z,Z,Z,Z], none⟩
noncomputable def t_impl_PortsOf_12 {R : Type} (X : SD.D d_impl_PortsOf_12) (K : Ex → AS → Option R) := Pu.impl_PortsOf_T12 (fun y0 y1 y2 => K (.exit 2) (SD.enc d_impl_PortsOf_12 ((X.1.1, (X.1.2.1, (X.1.2.2.1, (y0, (y1, (X.1.2.2.2.2.2.1, (X.1.2.2.2.2.2.2.1, (X.1.2.2.2.2.2.2.2.1, (X.1.2.2.2.2.2.2.2.2.1, (X.1.2.2.2.2.2.2.2.2.2.1, (y2, ()))))))))))), (X.2.1.1, ()), ()))) X.1.1 X.1.2.1 X.1.2.2.1 X.1.2.2.2.2.2.1 X.1.2.2.2.2.2.2.1 X.1.2.2.2.2.2.2.2.1 X.1.2.2.2.2.2.2.2.2.1 X.1.2.2.2.2.2.2.2.2.2.1 X.2.1.1
noncomputable def l_impl_PortsOf_12 : LEnt := ⟨d_impl_PortsOf_12, fun X K => iterL (t_impl_PortsOf_12 X K) fuel (X.1.2.2.2.1, X.1.2.2.2.2.1, X.1.2.2.2.2.2.2.2.2.2.2.1)⟩
@[reducible] def d_impl_PortsOf_6 : SD := ⟨[B,B,.data false (.sl (.own (some 24576)) TPort),DB,.data false (.sl (.own (some 49152)) TPort),.data false (.sl (.own (some 61440)) (.int .i64)),B,B,B,B,B,B,B,B,B,B,B,B,.data false (.sl .arg TMailbox),DI,DI,B,B,B,B,B,B,B,B,B,B,B,B,B,B,B,B,B,B,B,B,B,B,B,B,B,B,B,B,B,B,B,B,B,B,B,B,B,B,B,B,B,B,B,B,B,B,B,B,B], [Z,Z,Z,Z,Z,Z,Z,Z,Z,Z,Z,Z,Z,Z,Z,Z,Z,Z,Z,Z,Z,Z,Z,Z,Z,Z,Z,Z,Z,Z,Z,Z,Z,Z,Z,Z,Z,Z,Z,Z,Z,Z,Z,Z,Z,Z,Z,Z,Z,Z,Z,Z,Z,Z,Z,Z,Z,Z,Z,Z,Z,Z,Z,Z,Z,Z,Z,Z,Z,Z], none⟩
noncomputable def t_impl_PortsOf_6 {R : Type} (X : SD.D d_impl_PortsOf_6) (K : Ex → AS → Option R) := Pu.impl_PortsOf_T6 (fun y0 y1 y2 => K (.exit 0) (SD.enc d_impl_PortsOf_6 ((X.1.1, (X.1.2.1, (y0, (y1, (X.1.2.2.2.2.1, (X.1.2.2.2.2.2.1, (y2, ()))))))), (), ()))) (fun y0 y1 y2 y3 y4 => K .ret (SD.enc d_impl_PortsOf_6 ((y0, (y1, (y2, (y3, (X.1.2.2.2.2.1, (X.1.2.2.2.2.2.1, (y4, ()))))))), (), ()))) X.1.1 X.1.2.1 X.1.2.2.2.2.1 X.1.2.2.2.2.2.1
noncomputable def l_impl_PortsOf_6 : LEnt := ⟨d_impl_PortsOf_6, fun X K => iterL (t_impl_PortsOf_6 X K) fuel (X.1.2.2.1, X.1.2.2.2.1, X.1.2.2.2.2.2.2.1)⟩
noncomputable def L_impl_PortsOf : Lam := ((Lam.nil).add 12 l_impl_PortsOf_12).add 6 l_impl_PortsOf_6
theorem lok_impl_PortsOf_12 : LOk E g_impl_PortsOf n_impl_PortsOf L_impl_PortsOf (loopBody Try.f7 1) :=
  lok l_impl_PortsOf_12 (by kernel_rfl) fuel fun R X K => (loop_iter (σ := (List Int) × (List Int) × Int) (fun x => SD.enc d_impl_PortsOf_12 ((X.1.1, (X.1.2.1, (X.1.2.2.1, (x.1, (x.2.1, (X.1.2.2.2.2.2.1, (X.1.2.2.2.2.2.2.1, (X.1.2.2.2.2.2.2.2.1, (X.1.2.2.2.2.2.2.2.2.1, (X.1.2.2.2.2.2.2.2.2.2.1, (x.2.2, ()))))))))))), (X.2.1.1, ()), ())) (t_impl_PortsOf_12 X K) (fun m x => by kernel_rfl) fuel (X.1.2.2.2.1, X.1.2.2.2.2.1, X.1.2.2.2.2.2.2.2.2.2.2.1)).symm
theorem lok_impl_PortsOf_6 : LOk E g_impl_PortsOf n_impl_PortsOf L_impl_PortsOf (loopBody Try.f7 0) :=
  lok l_impl_PortsOf_6 (by kernel_rfl) fuel fun R X K => (loop_iter (σ := (List Pu.Port) × (List Int) × Int) (fun x => SD.enc d_impl_PortsOf_6 ((X.1.1, (X.1.2.1, (x.1, (x.2.1, (X.1.2.2.2.2.1, (X.1.2.2.2.2.2.1, (x.2.2, ()))))))), (), ())) (t_impl_PortsOf_6 X K) (fun m x => by kernel_rfl) fuel (X.1.2.2.1, X.1.2.2.2.1, X.1.2.2.2.2.2.2.1)).symm
theorem ok_impl_PortsOf : FnOk Try.prog 7 e_impl_PortsOf := FnOk.of (fnOk (Γ := g_impl_PortsOf) (an := n_impl_PortsOf) (Λ := L_impl_PortsOf) ((((((base).add ok_impl_between).add ok_impl_MailboxOk).add ok_impl_hasInt).add ok_impl_addOrdered).add ok_impl_PortsOk) Try.func7 (by kernel_rfl) (hF (by kernel_rfl) (cF lok_impl_PortsOf_6 (cF lok_impl_PortsOf_12 nF)))) (fun a => by kernel_rfl)
noncomputable def e_laws_eqIntS : GEnt := entOf [.data false (.sl (.int .i64)), .data false (.sl (.int .i64))] [(false, .bool)] fun a => Pu.laws_eqIntS a.1 a.2.1
noncomputable def g_laws_eqIntS : Gam := Gam.nil
def n_laws_eqIntS : An := { mask := fun | 4 => [0, 1, 4, 5] | _ => [] }
@[reducible] def d_laws_eqIntS_4 : SD := ⟨[.data false (.sl .arg (.int .i64)),.data false (.sl .arg (.int .i64)),B,B,DB,DI,B,B,B,B,B,B,B,B,B,B,B,B,B,B,B,B,B,B,B,B], [Z,Z,Z,Z,Z,Z,Z,Z,Z,Z,Z,Z,Z,Z,Z,Z,Z,Z,Z,Z,Z,Z,Z,Z,Z,Z], none⟩
noncomputable def t_laws_eqIntS_4 {R : Type} (X : SD.D d_laws_eqIntS_4) (K : Ex → AS → Option R) := Pu.laws_eqIntS_T4 (fun y0 => K (.exit 0) (SD.enc d_laws_eqIntS_4 ((X.1.1, (X.1.2.1, (X.1.2.2.1, (y0, ())))), (), ()))) (fun y0 y1 => K .ret (SD.enc d_laws_eqIntS_4 ((X.1.1, (X.1.2.1, (y0, (y1, ())))), (), ()))) X.1.1 X.1.2.1 X.1.2.2.1
noncomputable def l_laws_eqIntS_4 : LEnt := ⟨d_laws_eqIntS_4, fun X K => iterL (t_laws_eqIntS_4 X K) fuel X.1.2.2.2.1⟩
noncomputable def L_laws_eqIntS : Lam := (Lam.nil).add 4 l_laws_eqIntS_4
theorem lok_laws_eqIntS_4 : LOk E g_laws_eqIntS n_laws_eqIntS L_laws_eqIntS (loopBody Try.f35 0) :=
  lok l_laws_eqIntS_4 (by kernel_rfl) fuel fun R X K => (loop_iter (σ := Int) (fun x => SD.enc d_laws_eqIntS_4 ((X.1.1, (X.1.2.1, (X.1.2.2.1, (x, ())))), (), ())) (t_laws_eqIntS_4 X K) (fun m x => by kernel_rfl) fuel X.1.2.2.2.1).symm
theorem ok_laws_eqIntS : FnOk Try.prog 35 e_laws_eqIntS := FnOk.of (fnOk (Γ := g_laws_eqIntS) (an := n_laws_eqIntS) (Λ := L_laws_eqIntS) (base) Try.func35 (by kernel_rfl) (hF (by kernel_rfl) (cF lok_laws_eqIntS_4 nF))) (fun a => by kernel_rfl)
noncomputable def e_laws_eqPort : GEnt := entOf [.data true TPort, .data true TPort] [(false, .bool)] fun a => Pu.laws_eqPort a.1 a.2.1
theorem ok_laws_eqPort : FnOk Try.prog 24 e_laws_eqPort := FnOk.of (fnOk (an := {}) (Λ := Lam.nil) ((base).add ok_laws_eqIntS) Try.func24 (by kernel_rfl) (hF (by kernel_rfl) nF)) (fun a => by kernel_rfl)
noncomputable def e_laws_eqPortS : GEnt := entOf [.data false (.sl TPort), .data false (.sl TPort)] [(false, .bool)] fun a => Pu.laws_eqPortS a.1 a.2.1
noncomputable def g_laws_eqPortS : Gam := (Gam.nil).add 24 e_laws_eqPort
def n_laws_eqPortS : An := { mask := fun | 4 => [0, 1, 4, 5] | _ => [] }
@[reducible] def d_laws_eqPortS_4 : SD := ⟨[.data false (.sl .arg TPort),.data false (.sl .arg TPort),B,B,DB,DI,B,B,B,B,B,B,B,B,B,B,B,B,B,B,B,B,B,B,B,B,B], [Z,Z,Z,Z,Z,Z,Z,Z,Z,Z,Z,Z,Z,Z,Z,Z,Z,Z,Z,Z,Z,Z,Z,Z,Z,Z,Z], none⟩
noncomputable def t_laws_eqPortS_4 {R : Type} (X : SD.D d_laws_eqPortS_4) (K : Ex → AS → Option R) := Pu.laws_eqPortS_T4 (fun y0 => K (.exit 0) (SD.enc d_laws_eqPortS_4 ((X.1.1, (X.1.2.1, (X.1.2.2.1, (y0, ())))), (), ()))) (fun y0 y1 => K .ret (SD.enc d_laws_eqPortS_4 ((X.1.1, (X.1.2.1, (y0, (y1, ())))), (), ()))) X.1.1 X.1.2.1 X.1.2.2.1
noncomputable def l_laws_eqPortS_4 : LEnt := ⟨d_laws_eqPortS_4, fun X K => iterL (t_laws_eqPortS_4 X K) fuel X.1.2.2.2.1⟩
noncomputable def L_laws_eqPortS : Lam := (Lam.nil).add 4 l_laws_eqPortS_4
theorem lok_laws_eqPortS_4 : LOk E g_laws_eqPortS n_laws_eqPortS L_laws_eqPortS (loopBody Try.f8 0) :=
  lok l_laws_eqPortS_4 (by kernel_rfl) fuel fun R X K => (loop_iter (σ := Int) (fun x => SD.enc d_laws_eqPortS_4 ((X.1.1, (X.1.2.1, (X.1.2.2.1, (x, ())))), (), ())) (t_laws_eqPortS_4 X K) (fun m x => by kernel_rfl) fuel X.1.2.2.2.1).symm
theorem ok_laws_eqPortS : FnOk Try.prog 8 e_laws_eqPortS := FnOk.of (fnOk (Γ := g_laws_eqPortS) (an := n_laws_eqPortS) (Λ := L_laws_eqPortS) ((base).add ok_laws_eqPort) Try.func8 (by kernel_rfl) (hF (by kernel_rfl) (cF lok_laws_eqPortS_4 nF))) (fun a => by kernel_rfl)
noncomputable def e_laws_eqFilter : GEnt := entOf [.data true TFilter, .data true TFilter] [(false, .bool)] fun a => Pu.laws_eqFilter a.1 a.2.1
theorem ok_laws_eqFilter : FnOk Try.prog 36 e_laws_eqFilter := FnOk.of (fnOk (an := {}) (Λ := Lam.nil) ((base).add ok_laws_eqIntS) Try.func36 (by kernel_rfl) (hF (by kernel_rfl) nF)) (fun a => by kernel_rfl)
noncomputable def e_laws_eqMailbox : GEnt := entOf [.data true TMailbox, .data true TMailbox] [(false, .bool)] fun a => Pu.laws_eqMailbox a.1 a.2.1
theorem ok_laws_eqMailbox : FnOk Try.prog 25 e_laws_eqMailbox := FnOk.of (fnOk (an := {}) (Λ := Lam.nil) ((base).add ok_laws_eqFilter) Try.func25 (by kernel_rfl) (hF (by kernel_rfl) nF)) (fun a => by kernel_rfl)
noncomputable def e_laws_eqMailboxS : GEnt := entOf [.data false (.sl TMailbox), .data false (.sl TMailbox)] [(false, .bool)] fun a => Pu.laws_eqMailboxS a.1 a.2.1
noncomputable def g_laws_eqMailboxS : Gam := (Gam.nil).add 25 e_laws_eqMailbox
def n_laws_eqMailboxS : An := { mask := fun | 4 => [0, 1, 4, 5] | _ => [] }
@[reducible] def d_laws_eqMailboxS_4 : SD := ⟨[.data false (.sl .arg TMailbox),.data false (.sl .arg TMailbox),B,B,DB,DI,B,B,B,B,B,B,B,B,B,B,B,B,B,B,B,B,B,B,B,B,B], [Z,Z,Z,Z,Z,Z,Z,Z,Z,Z,Z,Z,Z,Z,Z,Z,Z,Z,Z,Z,Z,Z,Z,Z,Z,Z,Z], none⟩
noncomputable def t_laws_eqMailboxS_4 {R : Type} (X : SD.D d_laws_eqMailboxS_4) (K : Ex → AS → Option R) := Pu.laws_eqMailboxS_T4 (fun y0 => K (.exit 0) (SD.enc d_laws_eqMailboxS_4 ((X.1.1, (X.1.2.1, (X.1.2.2.1, (y0, ())))), (), ()))) (fun y0 y1 => K .ret (SD.enc d_laws_eqMailboxS_4 ((X.1.1, (X.1.2.1, (y0, (y1, ())))), (), ()))) X.1.1 X.1.2.1 X.1.2.2.1
noncomputable def l_laws_eqMailboxS_4 : LEnt := ⟨d_laws_eqMailboxS_4, fun X K => iterL (t_laws_eqMailboxS_4 X K) fuel X.1.2.2.2.1⟩
noncomputable def L_laws_eqMailboxS : Lam := (Lam.nil).add 4 l_laws_eqMailboxS_4
theorem lok_laws_eqMailboxS_4 : LOk E g_laws_eqMailboxS n_laws_eqMailboxS L_laws_eqMailboxS (loopBody Try.f9 0) :=
  lok l_laws_eqMailboxS_4 (by kernel_rfl) fuel fun R X K => (loop_iter (σ := Int) (fun x => SD.enc d_laws_eqMailboxS_4 ((X.1.1, (X.1.2.1, (X.1.2.2.1, (x, ())))), (), ())) (t_laws_eqMailboxS_4 X K) (fun m x => by kernel_rfl) fuel X.1.2.2.2.1).symm
theorem ok_laws_eqMailboxS : FnOk Try.prog 9 e_laws_eqMailboxS := FnOk.of (fnOk (Γ := g_laws_eqMailboxS) (an := n_laws_eqMailboxS) (Λ := L_laws_eqMailboxS) ((base).add ok_laws_eqMailbox) Try.func9 (by kernel_rfl) (hF (by kernel_rfl) (cF lok_laws_eqMailboxS_4 nF))) (fun a => by kernel_rfl)
noncomputable def e_laws_markIntS : GEnt := entIo (.sl (.int .i64)) false [.data false (.int .i64)] [(false, (.int .i64))] fun x a => Pu.laws_markIntS x a.1
noncomputable def g_laws_markIntS : Gam := Gam.nil
def n_laws_markIntS : An := { mask := fun | 2 => [0, 1, 5] | _ => [] }
@[reducible] def d_laws_markIntS_2 : SD := ⟨[.data false (.sl (.lio 0 12288036864) (.int .i64)),DI,B,B,B,DI,B,B,B,B,B,B,B,B,B,B,B,B,B], [Z,Z,Z,Z,Z,Z,Z,Z,Z,Z,Z,Z,Z,Z,Z,Z,Z,Z,Z], some (.sl (.own (some 12288036864)) (.int .i64))⟩
noncomputable def t_laws_markIntS_2 {R : Type} (X : SD.D d_laws_markIntS_2) (K : Ex → AS → Option R) := Pu.laws_markIntS_T2 (fun y0 y1 y2 y3 => K (.exit 0) (SD.enc d_laws_markIntS_2 ((y0, (y1, (y2, ()))), (), y3))) 
noncomputable def l_laws_markIntS_2 : LEnt := ⟨d_laws_markIntS_2, fun X K => iterL (t_laws_markIntS_2 X K) fuel (X.1.1, X.1.2.1, X.1.2.2.1, X.2.2)⟩
noncomputable def L_laws_markIntS : Lam := (Lam.nil).add 2 l_laws_markIntS_2
theorem lok_laws_markIntS_2 : LOk E g_laws_markIntS n_laws_markIntS L_laws_markIntS (loopBody Try.f26 0) :=
  lok l_laws_markIntS_2 (by kernel_rfl) fuel fun R X K => (loop_iter (σ := (List Int) × Int × Int × List Int) (fun x => SD.enc d_laws_markIntS_2 ((x.1, (x.2.1, (x.2.2.1, ()))), (), x.2.2.2)) (t_laws_markIntS_2 X K) (fun m x => by kernel_rfl) fuel (X.1.1, X.1.2.1, X.1.2.2.1, X.2.2)).symm
theorem ok_laws_markIntS : FnOk Try.prog 26 e_laws_markIntS := FnOk.ofIo (fnIo (Γ := g_laws_markIntS) (an := n_laws_markIntS) (Λ := L_laws_markIntS) (base) Try.func26 (by kernel_rfl) (hF (by kernel_rfl) (cF lok_laws_markIntS_2 nF))) (fun x a => by kernel_rfl)
noncomputable def e_laws_markMailboxS : GEnt := entIo (.sl TMailbox) false [.data false (.int .i64)] [(false, (.int .i64))] fun x a => Pu.laws_markMailboxS x a.1
noncomputable def g_laws_markMailboxS : Gam := (Gam.nil).add 26 e_laws_markIntS
def n_laws_markMailboxS : An := { mask := fun | 2 => [0, 1, 5] | _ => [], nest := [35] }
@[reducible] def d_laws_markMailboxS_2 : SD := ⟨[.data false (.sl (.lio 0 12288036864) TMailbox),DI,B,B,B,DI,B,B,B,B,B,B,B,B,B,B,B,B,B,B,B,B,B,B,B,B,B,B,B,B,B,B,B,B,B,B,B,B,B,B,B,B,B,B,B,B,B,B,B,B,B,B,B,B,B,B,B,B,B,B], [Z,Z,Z,Z,Z,Z,Z,Z,Z,Z,Z,Z,Z,Z,Z,Z,Z,Z,Z,Z,Z,Z,Z,Z,Z,Z,Z,Z,Z,Z,Z,Z,Z,Z,Z,Z,Z,Z,Z,Z,Z,Z,Z,Z,Z,Z,Z,Z,Z,Z,Z,Z,Z,Z,Z,Z,Z,Z,Z,Z], some (.sl (.own (some 12288036864)) TMailbox)⟩
noncomputable def t_laws_markMailboxS_2 {R : Type} (X : SD.D d_laws_markMailboxS_2) (K : Ex → AS → Option R) := Pu.laws_markMailboxS_T2 (fun y0 y1 y2 y3 => K (.exit 0) (SD.enc d_laws_markMailboxS_2 ((y0, (y1, (y2, ()))), (), y3))) 
noncomputable def l_laws_markMailboxS_2 : LEnt := ⟨d_laws_markMailboxS_2, fun X K => iterL (t_laws_markMailboxS_2 X K) fuel (X.1.1, X.1.2.1, X.1.2.2.1, X.2.2)⟩
noncomputable def L_laws_markMailboxS : Lam := (Lam.nil).add 2 l_laws_markMailboxS_2
theorem lok_laws_markMailboxS_2 : LOk E g_laws_markMailboxS n_laws_markMailboxS L_laws_markMailboxS (loopBody Try.f10 0) :=
  lok l_laws_markMailboxS_2 (by kernel_rfl) fuel fun R X K => (loop_iter (σ := (List Pu.Mailbox) × Int × Int × List Pu.Mailbox) (fun x => SD.enc d_laws_markMailboxS_2 ((x.1, (x.2.1, (x.2.2.1, ()))), (), x.2.2.2)) (t_laws_markMailboxS_2 X K) (fun m x => by kernel_rfl) fuel (X.1.1, X.1.2.1, X.1.2.2.1, X.2.2)).symm
theorem ok_laws_markMailboxS : FnOk Try.prog 10 e_laws_markMailboxS := FnOk.ofIo (fnIo (Γ := g_laws_markMailboxS) (an := n_laws_markMailboxS) (Λ := L_laws_markMailboxS) ((base).add ok_laws_markIntS) Try.func10 (by kernel_rfl) (hF (by kernel_rfl) (cF lok_laws_markMailboxS_2 nF))) (fun x a => by kernel_rfl)
noncomputable def e_laws_markPortS : GEnt := entIo (.sl TPort) false [.data false (.int .i64)] [(false, (.int .i64))] fun x a => Pu.laws_markPortS x a.1
noncomputable def g_laws_markPortS : Gam := (Gam.nil).add 26 e_laws_markIntS
def n_laws_markPortS : An := { mask := fun | 2 => [0, 1, 5] | _ => [], nest := [23] }
@[reducible] def d_laws_markPortS_2 : SD := ⟨[.data false (.sl (.lio 0 12288036864) TPort),DI,B,B,B,DI,B,B,B,B,B,B,B,B,B,B,B,B,B,B,B,B,B,B,B,B,B,B,B,B,B,B,B,B,B,B,B,B,B,B,B,B,B], [Z,Z,Z,Z,Z,Z,Z,Z,Z,Z,Z,Z,Z,Z,Z,Z,Z,Z,Z,Z,Z,Z,Z,Z,Z,Z,Z,Z,Z,Z,Z,Z,Z,Z,Z,Z,Z,Z,Z,Z,Z,Z,Z], some (.sl (.own (some 12288036864)) TPort)⟩
noncomputable def t_laws_markPortS_2 {R : Type} (X : SD.D d_laws_markPortS_2) (K : Ex → AS → Option R) := Pu.laws_markPortS_T2 (fun y0 y1 y2 y3 => K (.exit 0) (SD.enc d_laws_markPortS_2 ((y0, (y1, (y2, ()))), (), y3))) 
noncomputable def l_laws_markPortS_2 : LEnt := ⟨d_laws_markPortS_2, fun X K => iterL (t_laws_markPortS_2 X K) fuel (X.1.1, X.1.2.1, X.1.2.2.1, X.2.2)⟩
noncomputable def L_laws_markPortS : Lam := (Lam.nil).add 2 l_laws_markPortS_2
theorem lok_laws_markPortS_2 : LOk E g_laws_markPortS n_laws_markPortS L_laws_markPortS (loopBody Try.f11 0) :=
  lok l_laws_markPortS_2 (by kernel_rfl) fuel fun R X K => (loop_iter (σ := (List Pu.Port) × Int × Int × List Pu.Port) (fun x => SD.enc d_laws_markPortS_2 ((x.1, (x.2.1, (x.2.2.1, ()))), (), x.2.2.2)) (t_laws_markPortS_2 X K) (fun m x => by kernel_rfl) fuel (X.1.1, X.1.2.1, X.1.2.2.1, X.2.2)).symm
theorem ok_laws_markPortS : FnOk Try.prog 11 e_laws_markPortS := FnOk.ofIo (fnIo (Γ := g_laws_markPortS) (an := n_laws_markPortS) (Λ := L_laws_markPortS) ((base).add ok_laws_markIntS) Try.func11 (by kernel_rfl) (hF (by kernel_rfl) (cF lok_laws_markPortS_2 nF))) (fun x a => by kernel_rfl)
noncomputable def e_laws_heldIntS : GEnt := entOf [.data false (.sl (.int .i64)), .data false (.int .i64)] [(false, (.int .i64))] fun a => Pu.laws_heldIntS a.1 a.2.1
noncomputable def g_laws_heldIntS : Gam := Gam.nil
def n_laws_heldIntS : An := { mask := fun | 2 => [0, 1, 4, 5] | _ => [] }
@[reducible] def d_laws_heldIntS_2 : SD := ⟨[.data false (.sl .arg (.int .i64)),DI,B,B,DI,DI,B,B,B,B,B,B,B,B,B,B,B,B,B,B,B], [Z,Z,Z,Z,Z,Z,Z,Z,Z,Z,Z,Z,Z,Z,Z,Z,Z,Z,Z,Z,Z], none⟩
noncomputable def t_laws_heldIntS_2 {R : Type} (X : SD.D d_laws_heldIntS_2) (K : Ex → AS → Option R) := Pu.laws_heldIntS_T2 (fun y0 y1 => K (.exit 0) (SD.enc d_laws_heldIntS_2 ((X.1.1, (y0, (X.1.2.2.1, (y1, ())))), (), ()))) (fun y0 y1 y2 => K .ret (SD.enc d_laws_heldIntS_2 ((X.1.1, (y0, (y1, (y2, ())))), (), ()))) X.1.1 X.1.2.2.1
noncomputable def l_laws_heldIntS_2 : LEnt := ⟨d_laws_heldIntS_2, fun X K => iterL (t_laws_heldIntS_2 X K) fuel (X.1.2.1, X.1.2.2.2.1)⟩
noncomputable def L_laws_heldIntS : Lam := (Lam.nil).add 2 l_laws_heldIntS_2
theorem lok_laws_heldIntS_2 : LOk E g_laws_heldIntS n_laws_heldIntS L_laws_heldIntS (loopBody Try.f27 0) :=
  lok l_laws_heldIntS_2 (by kernel_rfl) fuel fun R X K => (loop_iter (σ := Int × Int) (fun x => SD.enc d_laws_heldIntS_2 ((X.1.1, (x.1, (X.1.2.2.1, (x.2, ())))), (), ())) (t_laws_heldIntS_2 X K) (fun m x => by kernel_rfl) fuel (X.1.2.1, X.1.2.2.2.1)).symm
theorem ok_laws_heldIntS : FnOk Try.prog 27 e_laws_heldIntS := FnOk.of (fnOk (Γ := g_laws_heldIntS) (an := n_laws_heldIntS) (Λ := L_laws_heldIntS) (base) Try.func27 (by kernel_rfl) (hF (by kernel_rfl) (cF lok_laws_heldIntS_2 nF))) (fun a => by kernel_rfl)
noncomputable def e_laws_heldPortS : GEnt := entOf [.data false (.sl TPort), .data false (.int .i64)] [(false, (.int .i64))] fun a => Pu.laws_heldPortS a.1 a.2.1
noncomputable def g_laws_heldPortS : Gam := (Gam.nil).add 27 e_laws_heldIntS
def n_laws_heldPortS : An := { mask := fun | 2 => [0, 1, 4, 5] | _ => [] }
@[reducible] def d_laws_heldPortS_2 : SD := ⟨[.data false (.sl .arg TPort),DI,B,B,DI,DI,B,B,B,B,B,B,B,B,B,B,B,B,B,B,B,B,B,B,B,B,B,B,B,B,B,B,B,B,B,B,B,B,B,B,B,B,B,B,B,B,B,B,B,B,B], [Z,Z,Z,Z,Z,Z,Z,Z,Z,Z,Z,Z,Z,Z,Z,Z,Z,Z,Z,Z,Z,Z,Z,Z,Z,Z,Z,Z,Z,Z,Z,Z,Z,Z,Z,Z,Z,Z,Z,Z,Z,Z,Z,Z,Z,Z,Z,Z,Z,Z,Z], none⟩
noncomputable def t_laws_heldPortS_2 {R : Type} (X : SD.D d_laws_heldPortS_2) (K : Ex → AS → Option R) := Pu.laws_heldPortS_T2 (fun y0 y1 => K (.exit 0) (SD.enc d_laws_heldPortS_2 ((X.1.1, (y0, (X.1.2.2.1, (y1, ())))), (), ()))) (fun y0 y1 y2 => K .ret (SD.enc d_laws_heldPortS_2 ((X.1.1, (y0, (y1, (y2, ())))), (), ()))) X.1.1 X.1.2.2.1
noncomputable def l_laws_heldPortS_2 : LEnt := ⟨d_laws_heldPortS_2, fun X K => iterL (t_laws_heldPortS_2 X K) fuel (X.1.2.1, X.1.2.2.2.1)⟩
noncomputable def L_laws_heldPortS : Lam := (Lam.nil).add 2 l_laws_heldPortS_2
theorem lok_laws_heldPortS_2 : LOk E g_laws_heldPortS n_laws_heldPortS L_laws_heldPortS (loopBody Try.f12 0) :=
  lok l_laws_heldPortS_2 (by kernel_rfl) fuel fun R X K => (loop_iter (σ := Int × Int) (fun x => SD.enc d_laws_heldPortS_2 ((X.1.1, (x.1, (X.1.2.2.1, (x.2, ())))), (), ())) (t_laws_heldPortS_2 X K) (fun m x => by kernel_rfl) fuel (X.1.2.1, X.1.2.2.2.1)).symm
theorem ok_laws_heldPortS : FnOk Try.prog 12 e_laws_heldPortS := FnOk.of (fnOk (Γ := g_laws_heldPortS) (an := n_laws_heldPortS) (Λ := L_laws_heldPortS) ((base).add ok_laws_heldIntS) Try.func12 (by kernel_rfl) (hF (by kernel_rfl) (cF lok_laws_heldPortS_2 nF))) (fun a => by kernel_rfl)
@[reducible] def s_laws_FnExactPortsOf : List PS := [.data false (.sl TMailbox)]
noncomputable def e_laws_FnExactPortsOf : GEnt := entOf s_laws_FnExactPortsOf [(false, .bool)] fun a => Pu.laws_FnExactPortsOf a.1
theorem ok_laws_FnExactPortsOf : FnOk Try.prog 3 e_laws_FnExactPortsOf := FnOk.of (fnOk (an := { merge := fun | 8 => some 40 | 14 => some 61 | 25 => some 87 | _ => none, mv := [19, 27] }) (Λ := Lam.nil) ((((((((((base).add ok_laws_szMailboxS).add ok_spec_PortsOf).add ok_laws_toMailboxS).add ok_impl_PortsOf).add ok_laws_eqPortS).add ok_laws_eqMailboxS).add ok_laws_markMailboxS).add ok_laws_markPortS).add ok_laws_heldPortS) Try.func3 (by kernel_rfl) (hF (by kernel_rfl) nF)) (fun a => by kernel_rfl)

end Go.Proofs.Ytdkhimfkfepnjaa.Fn
