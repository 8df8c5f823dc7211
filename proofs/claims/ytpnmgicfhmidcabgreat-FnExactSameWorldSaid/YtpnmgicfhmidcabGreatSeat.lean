import Derived.Test.YtpnmgicfhmidcabGreatSeatA
/- Each function of the program is its pure function (made by gen.py). -/
namespace Go.Proofs.YtpnmgicfhmidcabGreat.Fn
open Go.Dn
open Go.Pu (TMapping TClock TRing TPool TSent TTxQueue TBucket TCompletionQueue TPacket TSuper TRxQueue TVector TFilter TRule TFlow TCounters TSlot TSteering TStream THost TVirtualFunction TMailbox TCard TSoft TIdeal TSpread TPort TSegment)
set_option maxRecDepth 100000
noncomputable def e_laws_eqFlow : GEnt := entOf [.data true TFlow, .data true TFlow] [(false, .bool)] fun a => Pu.laws_eqFlow a.1 a.2.1
theorem ok_laws_eqFlow : FnOk Tryz.prog 230 e_laws_eqFlow := FnOk.of (fnOk (an := {}) (Λ := Lam.nil) (base) Tryz.func230 (by kernel_rfl) (hF (by kernel_rfl) nF)) (fun a => by kernel_rfl)
noncomputable def e_laws_eqSlot : GEnt := entOf [.data true TSlot, .data true TSlot] [(false, .bool)] fun a => Pu.laws_eqSlot a.1 a.2.1
theorem ok_laws_eqSlot : FnOk Tryz.prog 239 e_laws_eqSlot := FnOk.of (fnOk (an := {}) (Λ := Lam.nil) ((base).add ok_laws_eqFlow) Tryz.func239 (by kernel_rfl) (hF (by kernel_rfl) nF)) (fun a => by kernel_rfl)
noncomputable def e_laws_eqSlotS : GEnt := entOf [.data false (.sl TSlot), .data false (.sl TSlot)] [(false, .bool)] fun a => Pu.laws_eqSlotS a.1 a.2.1
noncomputable def g_laws_eqSlotS : Gam := (Gam.nil).add 239 e_laws_eqSlot
def n_laws_eqSlotS : An := { mask := fun | 4 => [0, 1, 4, 5] | _ => [] }
@[reducible] def d_laws_eqSlotS_4 : SD := ⟨[.data false (.sl .arg TSlot),.data false (.sl .arg TSlot),B,B,DB,DI,B,B,B,B,B,B,B,B,B,B,B,B,B,B,B,B,B,B,B,B,B], [Z,Z,Z,Z,Z,Z,Z,Z,Z,Z,Z,Z,Z,Z,Z,Z,Z,Z,Z,Z,Z,Z,Z,Z,Z,Z,Z], none⟩
noncomputable def t_laws_eqSlotS_4 {R : Type} (X : SD.D d_laws_eqSlotS_4) (K : Ex → AS → Option R) := Pu.laws_eqSlotS_T4 (fun y0 => K (.exit 0) (SD.enc d_laws_eqSlotS_4 ((X.1.1, (X.1.2.1, (X.1.2.2.1, (y0, ())))), (), ()))) (fun y0 y1 => K .ret (SD.enc d_laws_eqSlotS_4 ((X.1.1, (X.1.2.1, (y0, (y1, ())))), (), ()))) X.1.1 X.1.2.1 X.1.2.2.1
noncomputable def l_laws_eqSlotS_4 : LEnt := ⟨d_laws_eqSlotS_4, fun X K => iterL (t_laws_eqSlotS_4 X K) fuel X.1.2.2.2.1⟩
noncomputable def L_laws_eqSlotS : Lam := (Lam.nil).add 4 l_laws_eqSlotS_4
theorem lok_laws_eqSlotS_4 : LOk E g_laws_eqSlotS n_laws_eqSlotS L_laws_eqSlotS (loopBody Tryz.f229 0) :=
  lok l_laws_eqSlotS_4 (by kernel_rfl) fuel fun R X K => (loop_iter (σ := Int) (fun x => SD.enc d_laws_eqSlotS_4 ((X.1.1, (X.1.2.1, (X.1.2.2.1, (x, ())))), (), ())) (t_laws_eqSlotS_4 X K) (fun m x => by kernel_rfl) fuel X.1.2.2.2.1).symm
theorem ok_laws_eqSlotS : FnOk Tryz.prog 229 e_laws_eqSlotS := FnOk.of (fnOk (Γ := g_laws_eqSlotS) (an := n_laws_eqSlotS) (Λ := L_laws_eqSlotS) ((base).add ok_laws_eqSlot) Tryz.func229 (by kernel_rfl) (hF (by kernel_rfl) (cF lok_laws_eqSlotS_4 nF))) (fun a => by kernel_rfl)
noncomputable def e_laws_eqFlowTable : GEnt := entOf [.data true (.sl TSlot), .data true (.sl TSlot)] [(false, .bool)] fun a => Pu.laws_eqFlowTable a.1 a.2.1
theorem ok_laws_eqFlowTable : FnOk Tryz.prog 191 e_laws_eqFlowTable := FnOk.of (fnOk (an := {}) (Λ := Lam.nil) ((base).add ok_laws_eqSlotS) Tryz.func191 (by kernel_rfl) (hF (by kernel_rfl) nF)) (fun a => by kernel_rfl)
noncomputable def e_laws_eqSpread : GEnt := entOf [.data true TSpread, .data true TSpread] [(false, .bool)] fun a => Pu.laws_eqSpread a.1 a.2.1
theorem ok_laws_eqSpread : FnOk Tryz.prog 192 e_laws_eqSpread := FnOk.of (fnOk (an := {}) (Λ := Lam.nil) ((base).add ok_laws_eqIntS) Tryz.func192 (by kernel_rfl) (hF (by kernel_rfl) nF)) (fun a => by kernel_rfl)
noncomputable def e_laws_eqSteering : GEnt := entOf [.data true TSteering, .data true TSteering] [(false, .bool)] fun a => Pu.laws_eqSteering a.1 a.2.1
theorem ok_laws_eqSteering : FnOk Tryz.prog 139 e_laws_eqSteering := FnOk.of (fnOk (an := {}) (Λ := Lam.nil) ((((base).add ok_laws_eqRuleS).add ok_laws_eqFlowTable).add ok_laws_eqSpread) Tryz.func139 (by kernel_rfl) (hF (by kernel_rfl) nF)) (fun a => by kernel_rfl)
noncomputable def e_laws_eqStream : GEnt := entOf [.data true TStream, .data true TStream] [(false, .bool)] fun a => Pu.laws_eqStream a.1 a.2.1
theorem ok_laws_eqStream : FnOk Tryz.prog 193 e_laws_eqStream := FnOk.of (fnOk (an := {}) (Λ := Lam.nil) ((base).add ok_laws_eqFlow) Tryz.func193 (by kernel_rfl) (hF (by kernel_rfl) nF)) (fun a => by kernel_rfl)
noncomputable def e_laws_eqStreamS : GEnt := entOf [.data false (.sl TStream), .data false (.sl TStream)] [(false, .bool)] fun a => Pu.laws_eqStreamS a.1 a.2.1
noncomputable def g_laws_eqStreamS : Gam := (Gam.nil).add 193 e_laws_eqStream
def n_laws_eqStreamS : An := { mask := fun | 4 => [0, 1, 4, 5] | _ => [] }
@[reducible] def d_laws_eqStreamS_4 : SD := ⟨[.data false (.sl .arg TStream),.data false (.sl .arg TStream),B,B,DB,DI,B,B,B,B,B,B,B,B,B,B,B,B,B,B,B,B,B,B,B,B,B], [Z,Z,Z,Z,Z,Z,Z,Z,Z,Z,Z,Z,Z,Z,Z,Z,Z,Z,Z,Z,Z,Z,Z,Z,Z,Z,Z], none⟩
noncomputable def t_laws_eqStreamS_4 {R : Type} (X : SD.D d_laws_eqStreamS_4) (K : Ex → AS → Option R) := Pu.laws_eqStreamS_T4 (fun y0 => K (.exit 0) (SD.enc d_laws_eqStreamS_4 ((X.1.1, (X.1.2.1, (X.1.2.2.1, (y0, ())))), (), ()))) (fun y0 y1 => K .ret (SD.enc d_laws_eqStreamS_4 ((X.1.1, (X.1.2.1, (y0, (y1, ())))), (), ()))) X.1.1 X.1.2.1 X.1.2.2.1
noncomputable def l_laws_eqStreamS_4 : LEnt := ⟨d_laws_eqStreamS_4, fun X K => iterL (t_laws_eqStreamS_4 X K) fuel X.1.2.2.2.1⟩
noncomputable def L_laws_eqStreamS : Lam := (Lam.nil).add 4 l_laws_eqStreamS_4
theorem lok_laws_eqStreamS_4 : LOk E g_laws_eqStreamS n_laws_eqStreamS L_laws_eqStreamS (loopBody Tryz.f140 0) :=
  lok l_laws_eqStreamS_4 (by kernel_rfl) fuel fun R X K => (loop_iter (σ := Int) (fun x => SD.enc d_laws_eqStreamS_4 ((X.1.1, (X.1.2.1, (X.1.2.2.1, (x, ())))), (), ())) (t_laws_eqStreamS_4 X K) (fun m x => by kernel_rfl) fuel X.1.2.2.2.1).symm
theorem ok_laws_eqStreamS : FnOk Tryz.prog 140 e_laws_eqStreamS := FnOk.of (fnOk (Γ := g_laws_eqStreamS) (an := n_laws_eqStreamS) (Λ := L_laws_eqStreamS) ((base).add ok_laws_eqStream) Tryz.func140 (by kernel_rfl) (hF (by kernel_rfl) (cF lok_laws_eqStreamS_4 nF))) (fun a => by kernel_rfl)
noncomputable def e_laws_eqCounters : GEnt := entOf [.data true TFlow, .data true TFlow] [(false, .bool)] fun a => Pu.laws_eqCounters a.1 a.2.1
theorem ok_laws_eqCounters : FnOk Tryz.prog 141 e_laws_eqCounters := FnOk.of (fnOk (an := {}) (Λ := Lam.nil) (base) Tryz.func141 (by kernel_rfl) (hF (by kernel_rfl) nF)) (fun a => by kernel_rfl)
noncomputable def e_laws_eqHost : GEnt := entOf [.data true THost, .data true THost] [(false, .bool)] fun a => Pu.laws_eqHost a.1 a.2.1
theorem ok_laws_eqHost : FnOk Tryz.prog 70 e_laws_eqHost := FnOk.of (fnOk (an := {}) (Λ := Lam.nil) ((((((((((((((base).add ok_laws_eqIntS).add ok_laws_eqStringS).add ok_laws_eqMemory).add ok_laws_eqMappingS).add ok_laws_eqTxQueue).add ok_laws_eqRxQueueS).add ok_laws_eqPoolS).add ok_laws_eqVectorS).add ok_laws_eqBoolS).add ok_laws_eqFilter).add ok_laws_eqSteering).add ok_laws_eqStreamS).add ok_laws_eqCounters) Tryz.func70 (by kernel_rfl) (hF (by kernel_rfl) nF)) (fun a => by kernel_rfl)
noncomputable def e_laws_eqHostS : GEnt := entOf [.data false (.sl THost), .data false (.sl THost)] [(false, .bool)] fun a => Pu.laws_eqHostS a.1 a.2.1
noncomputable def g_laws_eqHostS : Gam := (Gam.nil).add 70 e_laws_eqHost
def n_laws_eqHostS : An := { mask := fun | 4 => [0, 1, 4, 5] | _ => [] }
@[reducible] def d_laws_eqHostS_4 : SD := ⟨[.data false (.sl .arg THost),.data false (.sl .arg THost),B,B,DB,DI,B,B,B,B,B,B,B,B,B,B,B,B,B,B,B,B,B,B,B,B,B], [Z,Z,Z,Z,Z,Z,Z,Z,Z,Z,Z,Z,Z,Z,Z,Z,Z,Z,Z,Z,Z,Z,Z,Z,Z,Z,Z], none⟩
noncomputable def t_laws_eqHostS_4 {R : Type} (X : SD.D d_laws_eqHostS_4) (K : Ex → AS → Option R) := Pu.laws_eqHostS_T4 (fun y0 => K (.exit 0) (SD.enc d_laws_eqHostS_4 ((X.1.1, (X.1.2.1, (X.1.2.2.1, (y0, ())))), (), ()))) (fun y0 y1 => K .ret (SD.enc d_laws_eqHostS_4 ((X.1.1, (X.1.2.1, (y0, (y1, ())))), (), ()))) X.1.1 X.1.2.1 X.1.2.2.1
noncomputable def l_laws_eqHostS_4 : LEnt := ⟨d_laws_eqHostS_4, fun X K => iterL (t_laws_eqHostS_4 X K) fuel X.1.2.2.2.1⟩
noncomputable def L_laws_eqHostS : Lam := (Lam.nil).add 4 l_laws_eqHostS_4
theorem lok_laws_eqHostS_4 : LOk E g_laws_eqHostS n_laws_eqHostS L_laws_eqHostS (loopBody Tryz.f36 0) :=
  lok l_laws_eqHostS_4 (by kernel_rfl) fuel fun R X K => (loop_iter (σ := Int) (fun x => SD.enc d_laws_eqHostS_4 ((X.1.1, (X.1.2.1, (X.1.2.2.1, (x, ())))), (), ())) (t_laws_eqHostS_4 X K) (fun m x => by kernel_rfl) fuel X.1.2.2.2.1).symm
theorem ok_laws_eqHostS : FnOk Tryz.prog 36 e_laws_eqHostS := FnOk.of (fnOk (Γ := g_laws_eqHostS) (an := n_laws_eqHostS) (Λ := L_laws_eqHostS) ((base).add ok_laws_eqHost) Tryz.func36 (by kernel_rfl) (hF (by kernel_rfl) (cF lok_laws_eqHostS_4 nF))) (fun a => by kernel_rfl)
noncomputable def e_laws_eqBucket : GEnt := entOf [.data true TBucket, .data true TBucket] [(false, .bool)] fun a => Pu.laws_eqBucket a.1 a.2.1
theorem ok_laws_eqBucket : FnOk Tryz.prog 142 e_laws_eqBucket := FnOk.of (fnOk (an := {}) (Λ := Lam.nil) (base) Tryz.func142 (by kernel_rfl) (hF (by kernel_rfl) nF)) (fun a => by kernel_rfl)
noncomputable def e_laws_eqVirtualFunction : GEnt := entOf [.data true TVirtualFunction, .data true TVirtualFunction] [(false, .bool)] fun a => Pu.laws_eqVirtualFunction a.1 a.2.1
theorem ok_laws_eqVirtualFunction : FnOk Tryz.prog 71 e_laws_eqVirtualFunction := FnOk.of (fnOk (an := {}) (Λ := Lam.nil) ((base).add ok_laws_eqBucket) Tryz.func71 (by kernel_rfl) (hF (by kernel_rfl) nF)) (fun a => by kernel_rfl)
noncomputable def e_laws_eqVirtualFunctionS : GEnt := entOf [.data false (.sl TVirtualFunction), .data false (.sl TVirtualFunction)] [(false, .bool)] fun a => Pu.laws_eqVirtualFunctionS a.1 a.2.1
noncomputable def g_laws_eqVirtualFunctionS : Gam := (Gam.nil).add 71 e_laws_eqVirtualFunction
def n_laws_eqVirtualFunctionS : An := { mask := fun | 4 => [0, 1, 4, 5] | _ => [] }
@[reducible] def d_laws_eqVirtualFunctionS_4 : SD := ⟨[.data false (.sl .arg TVirtualFunction),.data false (.sl .arg TVirtualFunction),B,B,DB,DI,B,B,B,B,B,B,B,B,B,B,B,B,B,B,B,B,B,B,B,B,B], [Z,Z,Z,Z,Z,Z,Z,Z,Z,Z,Z,Z,Z,Z,Z,Z,Z,Z,Z,Z,Z,Z,Z,Z,Z,Z,Z], none⟩
noncomputable def t_laws_eqVirtualFunctionS_4 {R : Type} (X : SD.D d_laws_eqVirtualFunctionS_4) (K : Ex → AS → Option R) := Pu.laws_eqVirtualFunctionS_T4 (fun y0 => K (.exit 0) (SD.enc d_laws_eqVirtualFunctionS_4 ((X.1.1, (X.1.2.1, (X.1.2.2.1, (y0, ())))), (), ()))) (fun y0 y1 => K .ret (SD.enc d_laws_eqVirtualFunctionS_4 ((X.1.1, (X.1.2.1, (y0, (y1, ())))), (), ()))) X.1.1 X.1.2.1 X.1.2.2.1
noncomputable def l_laws_eqVirtualFunctionS_4 : LEnt := ⟨d_laws_eqVirtualFunctionS_4, fun X K => iterL (t_laws_eqVirtualFunctionS_4 X K) fuel X.1.2.2.2.1⟩
noncomputable def L_laws_eqVirtualFunctionS : Lam := (Lam.nil).add 4 l_laws_eqVirtualFunctionS_4
theorem lok_laws_eqVirtualFunctionS_4 : LOk E g_laws_eqVirtualFunctionS n_laws_eqVirtualFunctionS L_laws_eqVirtualFunctionS (loopBody Tryz.f37 0) :=
  lok l_laws_eqVirtualFunctionS_4 (by kernel_rfl) fuel fun R X K => (loop_iter (σ := Int) (fun x => SD.enc d_laws_eqVirtualFunctionS_4 ((X.1.1, (X.1.2.1, (X.1.2.2.1, (x, ())))), (), ())) (t_laws_eqVirtualFunctionS_4 X K) (fun m x => by kernel_rfl) fuel X.1.2.2.2.1).symm
theorem ok_laws_eqVirtualFunctionS : FnOk Tryz.prog 37 e_laws_eqVirtualFunctionS := FnOk.of (fnOk (Γ := g_laws_eqVirtualFunctionS) (an := n_laws_eqVirtualFunctionS) (Λ := L_laws_eqVirtualFunctionS) ((base).add ok_laws_eqVirtualFunction) Tryz.func37 (by kernel_rfl) (hF (by kernel_rfl) (cF lok_laws_eqVirtualFunctionS_4 nF))) (fun a => by kernel_rfl)
noncomputable def e_laws_eqMailbox : GEnt := entOf [.data true TMailbox, .data true TMailbox] [(false, .bool)] fun a => Pu.laws_eqMailbox a.1 a.2.1
theorem ok_laws_eqMailbox : FnOk Tryz.prog 72 e_laws_eqMailbox := FnOk.of (fnOk (an := {}) (Λ := Lam.nil) ((base).add ok_laws_eqFilter) Tryz.func72 (by kernel_rfl) (hF (by kernel_rfl) nF)) (fun a => by kernel_rfl)
noncomputable def e_laws_eqMailboxS : GEnt := entOf [.data false (.sl TMailbox), .data false (.sl TMailbox)] [(false, .bool)] fun a => Pu.laws_eqMailboxS a.1 a.2.1
noncomputable def g_laws_eqMailboxS : Gam := (Gam.nil).add 72 e_laws_eqMailbox
def n_laws_eqMailboxS : An := { mask := fun | 4 => [0, 1, 4, 5] | _ => [] }
@[reducible] def d_laws_eqMailboxS_4 : SD := ⟨[.data false (.sl .arg TMailbox),.data false (.sl .arg TMailbox),B,B,DB,DI,B,B,B,B,B,B,B,B,B,B,B,B,B,B,B,B,B,B,B,B,B], [Z,Z,Z,Z,Z,Z,Z,Z,Z,Z,Z,Z,Z,Z,Z,Z,Z,Z,Z,Z,Z,Z,Z,Z,Z,Z,Z], none⟩
noncomputable def t_laws_eqMailboxS_4 {R : Type} (X : SD.D d_laws_eqMailboxS_4) (K : Ex → AS → Option R) := Pu.laws_eqMailboxS_T4 (fun y0 => K (.exit 0) (SD.enc d_laws_eqMailboxS_4 ((X.1.1, (X.1.2.1, (X.1.2.2.1, (y0, ())))), (), ()))) (fun y0 y1 => K .ret (SD.enc d_laws_eqMailboxS_4 ((X.1.1, (X.1.2.1, (y0, (y1, ())))), (), ()))) X.1.1 X.1.2.1 X.1.2.2.1
noncomputable def l_laws_eqMailboxS_4 : LEnt := ⟨d_laws_eqMailboxS_4, fun X K => iterL (t_laws_eqMailboxS_4 X K) fuel X.1.2.2.2.1⟩
noncomputable def L_laws_eqMailboxS : Lam := (Lam.nil).add 4 l_laws_eqMailboxS_4
theorem lok_laws_eqMailboxS_4 : LOk E g_laws_eqMailboxS n_laws_eqMailboxS L_laws_eqMailboxS (loopBody Tryz.f38 0) :=
  lok l_laws_eqMailboxS_4 (by kernel_rfl) fuel fun R X K => (loop_iter (σ := Int) (fun x => SD.enc d_laws_eqMailboxS_4 ((X.1.1, (X.1.2.1, (X.1.2.2.1, (x, ())))), (), ())) (t_laws_eqMailboxS_4 X K) (fun m x => by kernel_rfl) fuel X.1.2.2.2.1).symm
theorem ok_laws_eqMailboxS : FnOk Tryz.prog 38 e_laws_eqMailboxS := FnOk.of (fnOk (Γ := g_laws_eqMailboxS) (an := n_laws_eqMailboxS) (Λ := L_laws_eqMailboxS) ((base).add ok_laws_eqMailbox) Tryz.func38 (by kernel_rfl) (hF (by kernel_rfl) (cF lok_laws_eqMailboxS_4 nF))) (fun a => by kernel_rfl)
noncomputable def e_laws_eqFlash : GEnt := entOf [.data true (.sl .str), .data true (.sl .str)] [(false, .bool)] fun a => Pu.laws_eqFlash a.1 a.2.1
theorem ok_laws_eqFlash : FnOk Tryz.prog 39 e_laws_eqFlash := FnOk.of (fnOk (an := {}) (Λ := Lam.nil) ((base).add ok_laws_eqStringS) Tryz.func39 (by kernel_rfl) (hF (by kernel_rfl) nF)) (fun a => by kernel_rfl)
noncomputable def e_laws_eqClock : GEnt := entOf [.data true TClock, .data true TClock] [(false, .bool)] fun a => Pu.laws_eqClock a.1 a.2.1
theorem ok_laws_eqClock : FnOk Tryz.prog 40 e_laws_eqClock := FnOk.of (fnOk (an := {}) (Λ := Lam.nil) (base) Tryz.func40 (by kernel_rfl) (hF (by kernel_rfl) nF)) (fun a => by kernel_rfl)
noncomputable def e_laws_eqCard : GEnt := entOf [.data true TCard, .data true TCard] [(false, .bool)] fun a => Pu.laws_eqCard a.1 a.2.1
theorem ok_laws_eqCard : FnOk Tryz.prog 10 e_laws_eqCard := FnOk.of (fnOk (an := {}) (Λ := Lam.nil) ((((((((base).add ok_laws_eqHostS).add ok_laws_eqVirtualFunctionS).add ok_laws_eqMailboxS).add ok_laws_eqFlash).add ok_laws_eqClock).add ok_laws_eqIntS).add ok_laws_eqStringS) Tryz.func10 (by kernel_rfl) (hF (by kernel_rfl) nF)) (fun a => by kernel_rfl)
noncomputable def e_laws_eqSoft : GEnt := entOf [.data true TSoft, .data true TSoft] [(false, .bool)] fun a => Pu.laws_eqSoft a.1 a.2.1
theorem ok_laws_eqSoft : FnOk Tryz.prog 73 e_laws_eqSoft := FnOk.of (fnOk (an := {}) (Λ := Lam.nil) (((((base).add ok_laws_eqStringS).add ok_laws_eqFilter).add ok_laws_eqSteering).add ok_laws_eqStreamS) Tryz.func73 (by kernel_rfl) (hF (by kernel_rfl) nF)) (fun a => by kernel_rfl)
noncomputable def e_laws_eqSoftS : GEnt := entOf [.data false (.sl TSoft), .data false (.sl TSoft)] [(false, .bool)] fun a => Pu.laws_eqSoftS a.1 a.2.1
noncomputable def g_laws_eqSoftS : Gam := (Gam.nil).add 73 e_laws_eqSoft
def n_laws_eqSoftS : An := { mask := fun | 4 => [0, 1, 4, 5] | _ => [] }
@[reducible] def d_laws_eqSoftS_4 : SD := ⟨[.data false (.sl .arg TSoft),.data false (.sl .arg TSoft),B,B,DB,DI,B,B,B,B,B,B,B,B,B,B,B,B,B,B,B,B,B,B,B,B,B], [Z,Z,Z,Z,Z,Z,Z,Z,Z,Z,Z,Z,Z,Z,Z,Z,Z,Z,Z,Z,Z,Z,Z,Z,Z,Z,Z], none⟩
noncomputable def t_laws_eqSoftS_4 {R : Type} (X : SD.D d_laws_eqSoftS_4) (K : Ex → AS → Option R) := Pu.laws_eqSoftS_T4 (fun y0 => K (.exit 0) (SD.enc d_laws_eqSoftS_4 ((X.1.1, (X.1.2.1, (X.1.2.2.1, (y0, ())))), (), ()))) (fun y0 y1 => K .ret (SD.enc d_laws_eqSoftS_4 ((X.1.1, (X.1.2.1, (y0, (y1, ())))), (), ()))) X.1.1 X.1.2.1 X.1.2.2.1
noncomputable def l_laws_eqSoftS_4 : LEnt := ⟨d_laws_eqSoftS_4, fun X K => iterL (t_laws_eqSoftS_4 X K) fuel X.1.2.2.2.1⟩
noncomputable def L_laws_eqSoftS : Lam := (Lam.nil).add 4 l_laws_eqSoftS_4
theorem lok_laws_eqSoftS_4 : LOk E g_laws_eqSoftS n_laws_eqSoftS L_laws_eqSoftS (loopBody Tryz.f43 0) :=
  lok l_laws_eqSoftS_4 (by kernel_rfl) fuel fun R X K => (loop_iter (σ := Int) (fun x => SD.enc d_laws_eqSoftS_4 ((X.1.1, (X.1.2.1, (X.1.2.2.1, (x, ())))), (), ())) (t_laws_eqSoftS_4 X K) (fun m x => by kernel_rfl) fuel X.1.2.2.2.1).symm
theorem ok_laws_eqSoftS : FnOk Tryz.prog 43 e_laws_eqSoftS := FnOk.of (fnOk (Γ := g_laws_eqSoftS) (an := n_laws_eqSoftS) (Λ := L_laws_eqSoftS) ((base).add ok_laws_eqSoft) Tryz.func43 (by kernel_rfl) (hF (by kernel_rfl) (cF lok_laws_eqSoftS_4 nF))) (fun a => by kernel_rfl)
noncomputable def e_laws_eqStringSS : GEnt := entOf [.data false (.sl (.sl .str)), .data false (.sl (.sl .str))] [(false, .bool)] fun a => Pu.laws_eqStringSS a.1 a.2.1
noncomputable def g_laws_eqStringSS : Gam := (Gam.nil).add 42 e_laws_eqStringS
def n_laws_eqStringSS : An := { mask := fun | 4 => [0, 1, 4, 5] | _ => [] }
@[reducible] def d_laws_eqStringSS_4 : SD := ⟨[.data false (.sl .arg (.sl .str)),.data false (.sl .arg (.sl .str)),B,B,DB,DI,B,B,B,B,B,B,B,B,B,B,B,B,B,B,B,B,B,B,B,B,B], [Z,Z,Z,Z,Z,Z,Z,Z,Z,Z,Z,Z,Z,Z,Z,Z,Z,Z,Z,Z,Z,Z,Z,Z,Z,Z,Z], none⟩
noncomputable def t_laws_eqStringSS_4 {R : Type} (X : SD.D d_laws_eqStringSS_4) (K : Ex → AS → Option R) := Pu.laws_eqStringSS_T4 (fun y0 => K (.exit 0) (SD.enc d_laws_eqStringSS_4 ((X.1.1, (X.1.2.1, (X.1.2.2.1, (y0, ())))), (), ()))) (fun y0 y1 => K .ret (SD.enc d_laws_eqStringSS_4 ((X.1.1, (X.1.2.1, (y0, (y1, ())))), (), ()))) X.1.1 X.1.2.1 X.1.2.2.1
noncomputable def l_laws_eqStringSS_4 : LEnt := ⟨d_laws_eqStringSS_4, fun X K => iterL (t_laws_eqStringSS_4 X K) fuel X.1.2.2.2.1⟩
noncomputable def L_laws_eqStringSS : Lam := (Lam.nil).add 4 l_laws_eqStringSS_4
theorem lok_laws_eqStringSS_4 : LOk E g_laws_eqStringSS n_laws_eqStringSS L_laws_eqStringSS (loopBody Tryz.f44 0) :=
  lok l_laws_eqStringSS_4 (by kernel_rfl) fuel fun R X K => (loop_iter (σ := Int) (fun x => SD.enc d_laws_eqStringSS_4 ((X.1.1, (X.1.2.1, (X.1.2.2.1, (x, ())))), (), ())) (t_laws_eqStringSS_4 X K) (fun m x => by kernel_rfl) fuel X.1.2.2.2.1).symm
theorem ok_laws_eqStringSS : FnOk Tryz.prog 44 e_laws_eqStringSS := FnOk.of (fnOk (Γ := g_laws_eqStringSS) (an := n_laws_eqStringSS) (Λ := L_laws_eqStringSS) ((base).add ok_laws_eqStringS) Tryz.func44 (by kernel_rfl) (hF (by kernel_rfl) (cF lok_laws_eqStringSS_4 nF))) (fun a => by kernel_rfl)
noncomputable def e_laws_eqIdeal : GEnt := entOf [.data true TIdeal, .data true TIdeal] [(false, .bool)] fun a => Pu.laws_eqIdeal a.1 a.2.1
theorem ok_laws_eqIdeal : FnOk Tryz.prog 11 e_laws_eqIdeal := FnOk.of (fnOk (an := {}) (Λ := Lam.nil) ((((((base).add ok_laws_eqVirtualFunctionS).add ok_laws_eqMailboxS).add ok_laws_eqStringS).add ok_laws_eqSoftS).add ok_laws_eqStringSS) Tryz.func11 (by kernel_rfl) (hF (by kernel_rfl) nF)) (fun a => by kernel_rfl)
@[reducible] def s_laws_FnExactSameWorld : List PS := [.data true TCard, .data true TIdeal]
noncomputable def e_laws_FnExactSameWorld : GEnt := entOf s_laws_FnExactSameWorld [(false, .bool)] fun a => Pu.laws_FnExactSameWorld a.1 a.2.1
theorem ok_laws_FnExactSameWorld : FnOk Tryz.prog 3 e_laws_FnExactSameWorld := FnOk.of (fnOk (an := {}) (Λ := Lam.nil) (((((((((base).add ok_laws_szCard).add ok_laws_szIdeal).add ok_spec_SameWorld).add ok_laws_toCard).add ok_laws_toIdeal).add ok_impl_SameWorld).add ok_laws_eqCard).add ok_laws_eqIdeal) Tryz.func3 (by kernel_rfl) (hF (by kernel_rfl) nF)) (fun a => by kernel_rfl)

end Go.Proofs.YtpnmgicfhmidcabGreat.Fn
