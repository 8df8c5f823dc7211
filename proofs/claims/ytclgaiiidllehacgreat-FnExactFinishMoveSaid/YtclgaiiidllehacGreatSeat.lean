import Derived.Test.YtclgaiiidllehacGreatDnSig
import Derived.Test.YtclgaiiidllehacGreatPure
import Derived.Test.YtclgaiiidllehacGreatRows
/- Each function of the program is its pure function (made by gen.py). -/
namespace Go.Proofs.YtclgaiiidllehacGreat.Fn
open Go.Dn
open Go.Pu (TMove TMapping TRing TPool TSent TTxQueue TCompletionQueue TPacket TSuper TRxQueue TVector TFilter TRule TFlow TCounters TSlot TSpread TSteering TStream THost TSegment)
set_option maxRecDepth 100000
abbrev B : PD := .bot
abbrev DI : PD := .data false (.int .i64)
abbrev DB : PD := .data false .bool
abbrev Z : Option FT := none
theorem nF {p : Code → Prop} : ∀ x ∈ ([] : List Code), p x := fun _ h => nomatch h
theorem cF {p : Code → Prop} {a : Code} {l : List Code} (h : p a) (t : ∀ x ∈ l, p x) : ∀ x ∈ a :: l, p x := List.forall_mem_cons.2 ⟨h, t⟩
theorem hF {p : Code → Prop} {l m : List Code} (e : l = m) (h : ∀ x ∈ m, p x) : ∀ x ∈ l, p x := e ▸ h
def E : Env := { ty := [(3, ⟨false, (.int .i64), []⟩),
  (4, ⟨false, .bool, []⟩),
  (5, ⟨false, (.int .u8), []⟩),
  (9, ⟨false, .str, []⟩),
  (22, ⟨false, (.sl .str), [(9, 0)]⟩),
  (24, ⟨true, (.sl .str), [(0, 1)]⟩),
  (25, ⟨false, (.sl (.int .i64)), [(3, 0)]⟩),
  (27, ⟨true, TMove, [(0, 1), (1, 1), (2, 1)]⟩),
  (28, ⟨false, (.sl TMapping), [(169, 0)]⟩),
  (30, ⟨true, TRing, [(0, 1), (1, 1), (2, 1), (3, 1)]⟩),
  (32, ⟨true, TPool, [(0, 1), (1, 1), (2, 1), (3, 1)]⟩),
  (33, ⟨false, (.sl TSent), [(213, 0)]⟩),
  (35, ⟨true, TTxQueue, [(0, 4), (4, 4), (8, 1), (9, 1)]⟩),
  (36, ⟨false, (.sl TRxQueue), [(151, 0)]⟩),
  (37, ⟨false, (.sl TPool), [(32, 0)]⟩),
  (38, ⟨false, (.sl TVector), [(185, 0)]⟩),
  (39, ⟨false, (.sl .bool), [(4, 0)]⟩),
  (41, ⟨true, TFilter, [(0, 1), (1, 1), (2, 1)]⟩),
  (42, ⟨false, (.sl TRule), [(224, 0)]⟩),
  (43, ⟨false, (.sl TSlot), [(243, 0)]⟩),
  (45, ⟨true, (.sl TSlot), [(0, 1)]⟩),
  (47, ⟨true, TSpread, [(0, 1), (1, 1)]⟩),
  (49, ⟨true, TSteering, [(0, 1), (1, 1), (2, 2)]⟩),
  (50, ⟨false, (.sl TStream), [(159, 0)]⟩),
  (52, ⟨true, TFlow, [(0, 1), (1, 1), (2, 1), (3, 1), (4, 1)]⟩),
  (54, ⟨true, THost, [(0, 1), (1, 1), (2, 10), (12, 1), (13, 1), (14, 1), (15, 1), (16, 3), (19, 4), (23, 1), (24, 1), (25, 1), (26, 1), (27, 1), (28, 5)]⟩),
  (57, ⟨true, (.sl .str), [(0, 1)]⟩),
  (58, ⟨false, (.sl TMapping), [(167, 0)]⟩),
  (59, ⟨true, TRing, [(0, 1), (1, 1), (2, 1), (3, 1)]⟩),
  (60, ⟨true, TPool, [(0, 1), (1, 1), (2, 1), (3, 1)]⟩),
  (61, ⟨false, (.sl TSent), [(216, 0)]⟩),
  (63, ⟨true, TTxQueue, [(0, 4), (4, 4), (8, 1), (9, 1)]⟩),
  (64, ⟨false, (.sl TRxQueue), [(180, 0)]⟩),
  (65, ⟨false, (.sl TPool), [(60, 0)]⟩),
  (66, ⟨false, (.sl TVector), [(183, 0)]⟩),
  (67, ⟨true, TFilter, [(0, 1), (1, 1), (2, 1)]⟩),
  (68, ⟨false, (.sl TRule), [(222, 0)]⟩),
  (69, ⟨false, (.sl TSlot), [(240, 0)]⟩),
  (71, ⟨true, (.sl TSlot), [(0, 1)]⟩),
  (72, ⟨true, TSpread, [(0, 1), (1, 1)]⟩),
  (74, ⟨true, TSteering, [(0, 1), (1, 1), (2, 2)]⟩),
  (75, ⟨false, (.sl TStream), [(191, 0)]⟩),
  (76, ⟨true, TFlow, [(0, 1), (1, 1), (2, 1), (3, 1), (4, 1)]⟩),
  (78, ⟨true, THost, [(0, 1), (1, 1), (2, 10), (12, 1), (13, 1), (14, 1), (15, 1), (16, 3), (19, 4), (23, 1), (24, 1), (25, 1), (26, 1), (27, 1), (28, 5)]⟩),
  (82, ⟨true, TMove, [(0, 1), (1, 1), (2, 1)]⟩),
  (143, ⟨true, TCompletionQueue, [(0, 1), (1, 1), (2, 1)]⟩),
  (145, ⟨true, TSegment, [(0, 1), (1, 1), (2, 1), (3, 1), (4, 1), (5, 1), (6, 1), (7, 1)]⟩),
  (147, ⟨true, TPacket, [(0, 1), (1, 1), (2, 1), (3, 1), (4, 1), (5, 1), (6, 1), (7, 1), (8, 8)]⟩),
  (149, ⟨true, TSuper, [(0, 16), (16, 1), (17, 1)]⟩),
  (151, ⟨true, TRxQueue, [(0, 4), (4, 3), (7, 3), (10, 18), (28, 1), (29, 1)]⟩),
  (157, ⟨true, TFlow, [(0, 1), (1, 1), (2, 1), (3, 1), (4, 1)]⟩),
  (159, ⟨true, TStream, [(0, 5), (5, 1), (6, 1), (7, 1)]⟩),
  (167, ⟨true, TMapping, [(0, 1), (1, 1), (2, 1), (3, 1)]⟩),
  (169, ⟨true, TMapping, [(0, 1), (1, 1), (2, 1), (3, 1)]⟩),
  (173, ⟨true, TCompletionQueue, [(0, 1), (1, 1), (2, 1)]⟩),
  (174, ⟨true, TSegment, [(0, 1), (1, 1), (2, 1), (3, 1), (4, 1), (5, 1), (6, 1), (7, 1)]⟩),
  (176, ⟨true, TPacket, [(0, 1), (1, 1), (2, 1), (3, 1), (4, 1), (5, 1), (6, 1), (7, 1), (8, 8)]⟩),
  (178, ⟨true, TSuper, [(0, 16), (16, 1), (17, 1)]⟩),
  (180, ⟨true, TRxQueue, [(0, 4), (4, 3), (7, 3), (10, 18), (28, 1), (29, 1)]⟩),
  (183, ⟨true, TVector, [(0, 1), (1, 1), (2, 1), (3, 1), (4, 1), (5, 1)]⟩),
  (185, ⟨true, TVector, [(0, 1), (1, 1), (2, 1), (3, 1), (4, 1), (5, 1)]⟩),
  (189, ⟨true, TFlow, [(0, 1), (1, 1), (2, 1), (3, 1), (4, 1)]⟩),
  (191, ⟨true, TStream, [(0, 5), (5, 1), (6, 1), (7, 1)]⟩),
  (213, ⟨true, TSent, [(0, 1), (1, 1), (2, 1)]⟩),
  (216, ⟨true, TSent, [(0, 1), (1, 1), (2, 1)]⟩),
  (222, ⟨true, TRule, [(0, 1), (1, 1), (2, 1), (3, 1), (4, 1), (5, 1), (6, 1), (7, 1), (8, 1)]⟩),
  (224, ⟨true, TRule, [(0, 1), (1, 1), (2, 1), (3, 1), (4, 1), (5, 1), (6, 1), (7, 1), (8, 1)]⟩),
  (235, ⟨false, (.sl (.int .u8)), [(5, 0)]⟩),
  (240, ⟨true, TSlot, [(0, 1), (1, 5), (6, 1)]⟩),
  (243, ⟨true, TSlot, [(0, 1), (1, 5), (6, 1)]⟩)], eqs := [], fts := [((82, 0), 57)] }
theorem base : Sound Tryz.prog E Gam.nil := Sound.nil (lookE_ok (by kernel_rfl)) (lookQ_ok (by kernel_rfl)) (lookF_ok (by kernel_rfl)) (by kernel_rfl)
noncomputable def e_laws_szStringS : GEnt := entOf [.data false (.sl .str), .data false (.int .i64)] [(false, (.int .i64))] fun a => Pu.laws_szStringS a.1 a.2.1
noncomputable def g_laws_szStringS : Gam := Gam.nil
def n_laws_szStringS : An := { mask := fun | 5 => [0, 1, 4, 5] | _ => [] }
@[reducible] def d_laws_szStringS_5 : SD := ⟨[.data false (.sl .arg .str),DI,B,B,DI,DI,B,B,B,B,B,B,B,B,B,B,B,B,B,B,B,B,B,B,B,B,B,B], [Z,Z,Z,Z,Z,Z,Z,Z,Z,Z,Z,Z,Z,Z,Z,Z,Z,Z,Z,Z,Z,Z,Z,Z,Z,Z,Z,Z], .none⟩
noncomputable def t_laws_szStringS_5 {R : Type} (X : SD.D d_laws_szStringS_5) (K : Ex → AS → Option R) := Pu.laws_szStringS_T5 (fun y0 y1 => K (.exit 0) (SD.enc d_laws_szStringS_5 ((X.1.1, (y0, (X.1.2.2.1, (y1, ())))), (), ()))) (fun y0 y1 y2 => K .ret (SD.enc d_laws_szStringS_5 ((X.1.1, (y0, (y1, (y2, ())))), (), ()))) X.1.1 X.1.2.2.1
noncomputable def l_laws_szStringS_5 : LEnt := ⟨d_laws_szStringS_5, fun X K => iterL (t_laws_szStringS_5 X K) fuel (X.1.2.1, X.1.2.2.2.1)⟩
noncomputable def L_laws_szStringS : Lam := (Lam.nil).add 5 l_laws_szStringS_5
theorem lok_laws_szStringS_5 : LOk E g_laws_szStringS n_laws_szStringS L_laws_szStringS (loopBody Tryz.f26 0) :=
  lok l_laws_szStringS_5 (by kernel_rfl) fuel fun R X K => (loop_iter (σ := Int × Int) (fun x => SD.enc d_laws_szStringS_5 ((X.1.1, (x.1, (X.1.2.2.1, (x.2, ())))), (), ())) (t_laws_szStringS_5 X K) (fun m x => by kernel_rfl) fuel (X.1.2.1, X.1.2.2.2.1)).symm
theorem ok_laws_szStringS : FnOk Tryz.prog 26 e_laws_szStringS := FnOk.of (fnOk (Γ := g_laws_szStringS) (an := n_laws_szStringS) (Λ := L_laws_szStringS) (base) Tryz.func26 (by kernel_rfl) (hF (by kernel_rfl) (cF lok_laws_szStringS_5 nF))) (fun a => by kernel_rfl)
noncomputable def e_laws_szMemory : GEnt := entOf [.data true (.sl .str), .data false (.int .i64)] [(false, (.int .i64))] fun a => Pu.laws_szMemory a.1 a.2.1
theorem ok_laws_szMemory : FnOk Tryz.prog 15 e_laws_szMemory := FnOk.of (fnOk (an := {}) (Λ := Lam.nil) ((base).add ok_laws_szStringS) Tryz.func15 (by kernel_rfl) (hF (by kernel_rfl) nF)) (fun a => by kernel_rfl)
noncomputable def e_laws_szIntS : GEnt := entOf [.data false (.sl (.int .i64)), .data false (.int .i64)] [(false, (.int .i64))] fun a => Pu.laws_szIntS a.1 a.2.1
theorem ok_laws_szIntS : FnOk Tryz.prog 16 e_laws_szIntS := FnOk.of (fnOk (an := {}) (Λ := Lam.nil) (base) Tryz.func16 (by kernel_rfl) (hF (by kernel_rfl) nF)) (fun a => by kernel_rfl)
noncomputable def e_laws_szMove : GEnt := entOf [.data true TMove, .data false (.int .i64)] [(false, (.int .i64))] fun a => Pu.laws_szMove a.1 a.2.1
theorem ok_laws_szMove : FnOk Tryz.prog 4 e_laws_szMove := FnOk.of (fnOk (an := {}) (Λ := Lam.nil) (((base).add ok_laws_szMemory).add ok_laws_szIntS) Tryz.func4 (by kernel_rfl) (hF (by kernel_rfl) nF)) (fun a => by kernel_rfl)
noncomputable def e_laws_szMappingS : GEnt := entOf [.data false (.sl TMapping), .data false (.int .i64)] [(false, (.int .i64))] fun a => Pu.laws_szMappingS a.1 a.2.1
theorem ok_laws_szMappingS : FnOk Tryz.prog 17 e_laws_szMappingS := FnOk.of (fnOk (an := {}) (Λ := Lam.nil) (base) Tryz.func17 (by kernel_rfl) (hF (by kernel_rfl) nF)) (fun a => by kernel_rfl)
noncomputable def e_laws_szPool : GEnt := entOf [.data true TPool, .data false (.int .i64)] [(false, (.int .i64))] fun a => Pu.laws_szPool a.1 a.2.1
theorem ok_laws_szPool : FnOk Tryz.prog 82 e_laws_szPool := FnOk.of (fnOk (an := {}) (Λ := Lam.nil) ((base).add ok_laws_szIntS) Tryz.func82 (by kernel_rfl) (hF (by kernel_rfl) nF)) (fun a => by kernel_rfl)
noncomputable def e_laws_szSent : GEnt := entOf [.data true TSent, .data false (.int .i64)] [(false, (.int .i64))] fun a => Pu.laws_szSent a.1 a.2.1
theorem ok_laws_szSent : FnOk Tryz.prog 135 e_laws_szSent := FnOk.of (fnOk (an := {}) (Λ := Lam.nil) ((base).add ok_laws_szIntS) Tryz.func135 (by kernel_rfl) (hF (by kernel_rfl) nF)) (fun a => by kernel_rfl)
noncomputable def e_laws_szSentS : GEnt := entOf [.data false (.sl TSent), .data false (.int .i64)] [(false, (.int .i64))] fun a => Pu.laws_szSentS a.1 a.2.1
noncomputable def g_laws_szSentS : Gam := (Gam.nil).add 135 e_laws_szSent
def n_laws_szSentS : An := { mask := fun | 5 => [0, 1, 4, 5] | _ => [] }
@[reducible] def d_laws_szSentS_5 : SD := ⟨[.data false (.sl .arg TSent),DI,B,B,DI,DI,B,B,B,B,B,B,B,B,B,B,B,B,B,B,B,B,B,B,B,B,B], [Z,Z,Z,Z,Z,Z,Z,Z,Z,Z,Z,Z,Z,Z,Z,Z,Z,Z,Z,Z,Z,Z,Z,Z,Z,Z,Z], .none⟩
noncomputable def t_laws_szSentS_5 {R : Type} (X : SD.D d_laws_szSentS_5) (K : Ex → AS → Option R) := Pu.laws_szSentS_T5 (fun y0 y1 => K (.exit 0) (SD.enc d_laws_szSentS_5 ((X.1.1, (y0, (X.1.2.2.1, (y1, ())))), (), ()))) (fun y0 y1 y2 => K .ret (SD.enc d_laws_szSentS_5 ((X.1.1, (y0, (y1, (y2, ())))), (), ()))) X.1.1 X.1.2.2.1
noncomputable def l_laws_szSentS_5 : LEnt := ⟨d_laws_szSentS_5, fun X K => iterL (t_laws_szSentS_5 X K) fuel (X.1.2.1, X.1.2.2.2.1)⟩
noncomputable def L_laws_szSentS : Lam := (Lam.nil).add 5 l_laws_szSentS_5
theorem lok_laws_szSentS_5 : LOk E g_laws_szSentS n_laws_szSentS L_laws_szSentS (loopBody Tryz.f83 0) :=
  lok l_laws_szSentS_5 (by kernel_rfl) fuel fun R X K => (loop_iter (σ := Int × Int) (fun x => SD.enc d_laws_szSentS_5 ((X.1.1, (x.1, (X.1.2.2.1, (x.2, ())))), (), ())) (t_laws_szSentS_5 X K) (fun m x => by kernel_rfl) fuel (X.1.2.1, X.1.2.2.2.1)).symm
theorem ok_laws_szSentS : FnOk Tryz.prog 83 e_laws_szSentS := FnOk.of (fnOk (Γ := g_laws_szSentS) (an := n_laws_szSentS) (Λ := L_laws_szSentS) ((base).add ok_laws_szSent) Tryz.func83 (by kernel_rfl) (hF (by kernel_rfl) (cF lok_laws_szSentS_5 nF))) (fun a => by kernel_rfl)
noncomputable def e_laws_szTxQueue : GEnt := entOf [.data true TTxQueue, .data false (.int .i64)] [(false, (.int .i64))] fun a => Pu.laws_szTxQueue a.1 a.2.1
theorem ok_laws_szTxQueue : FnOk Tryz.prog 18 e_laws_szTxQueue := FnOk.of (fnOk (an := {}) (Λ := Lam.nil) (((base).add ok_laws_szPool).add ok_laws_szSentS) Tryz.func18 (by kernel_rfl) (hF (by kernel_rfl) nF)) (fun a => by kernel_rfl)
noncomputable def e_laws_szSegment : GEnt := entOf [.data true TSegment, .data false (.int .i64)] [(false, (.int .i64))] fun a => Pu.laws_szSegment a.1 a.2.1
theorem ok_laws_szSegment : FnOk Tryz.prog 161 e_laws_szSegment := FnOk.of (fnOk (an := {}) (Λ := Lam.nil) (base) Tryz.func161 (by kernel_rfl) (hF (by kernel_rfl) nF)) (fun a => by kernel_rfl)
noncomputable def e_laws_szPacket : GEnt := entOf [.data true TPacket, .data false (.int .i64)] [(false, (.int .i64))] fun a => Pu.laws_szPacket a.1 a.2.1
theorem ok_laws_szPacket : FnOk Tryz.prog 156 e_laws_szPacket := FnOk.of (fnOk (an := {}) (Λ := Lam.nil) ((base).add ok_laws_szSegment) Tryz.func156 (by kernel_rfl) (hF (by kernel_rfl) nF)) (fun a => by kernel_rfl)
noncomputable def e_laws_szSuper : GEnt := entOf [.data true TSuper, .data false (.int .i64)] [(false, (.int .i64))] fun a => Pu.laws_szSuper a.1 a.2.1
theorem ok_laws_szSuper : FnOk Tryz.prog 136 e_laws_szSuper := FnOk.of (fnOk (an := {}) (Λ := Lam.nil) ((base).add ok_laws_szPacket) Tryz.func136 (by kernel_rfl) (hF (by kernel_rfl) nF)) (fun a => by kernel_rfl)
noncomputable def e_laws_szRxQueue : GEnt := entOf [.data true TRxQueue, .data false (.int .i64)] [(false, (.int .i64))] fun a => Pu.laws_szRxQueue a.1 a.2.1
theorem ok_laws_szRxQueue : FnOk Tryz.prog 84 e_laws_szRxQueue := FnOk.of (fnOk (an := {}) (Λ := Lam.nil) ((base).add ok_laws_szSuper) Tryz.func84 (by kernel_rfl) (hF (by kernel_rfl) nF)) (fun a => by kernel_rfl)
noncomputable def e_laws_szRxQueueS : GEnt := entOf [.data false (.sl TRxQueue), .data false (.int .i64)] [(false, (.int .i64))] fun a => Pu.laws_szRxQueueS a.1 a.2.1
noncomputable def g_laws_szRxQueueS : Gam := (Gam.nil).add 84 e_laws_szRxQueue
def n_laws_szRxQueueS : An := { mask := fun | 5 => [0, 1, 4, 5] | _ => [] }
@[reducible] def d_laws_szRxQueueS_5 : SD := ⟨[.data false (.sl .arg TRxQueue),DI,B,B,DI,DI,B,B,B,B,B,B,B,B,B,B,B,B,B,B,B,B,B,B,B,B,B], [Z,Z,Z,Z,Z,Z,Z,Z,Z,Z,Z,Z,Z,Z,Z,Z,Z,Z,Z,Z,Z,Z,Z,Z,Z,Z,Z], .none⟩
noncomputable def t_laws_szRxQueueS_5 {R : Type} (X : SD.D d_laws_szRxQueueS_5) (K : Ex → AS → Option R) := Pu.laws_szRxQueueS_T5 (fun y0 y1 => K (.exit 0) (SD.enc d_laws_szRxQueueS_5 ((X.1.1, (y0, (X.1.2.2.1, (y1, ())))), (), ()))) (fun y0 y1 y2 => K .ret (SD.enc d_laws_szRxQueueS_5 ((X.1.1, (y0, (y1, (y2, ())))), (), ()))) X.1.1 X.1.2.2.1
noncomputable def l_laws_szRxQueueS_5 : LEnt := ⟨d_laws_szRxQueueS_5, fun X K => iterL (t_laws_szRxQueueS_5 X K) fuel (X.1.2.1, X.1.2.2.2.1)⟩
noncomputable def L_laws_szRxQueueS : Lam := (Lam.nil).add 5 l_laws_szRxQueueS_5
theorem lok_laws_szRxQueueS_5 : LOk E g_laws_szRxQueueS n_laws_szRxQueueS L_laws_szRxQueueS (loopBody Tryz.f19 0) :=
  lok l_laws_szRxQueueS_5 (by kernel_rfl) fuel fun R X K => (loop_iter (σ := Int × Int) (fun x => SD.enc d_laws_szRxQueueS_5 ((X.1.1, (x.1, (X.1.2.2.1, (x.2, ())))), (), ())) (t_laws_szRxQueueS_5 X K) (fun m x => by kernel_rfl) fuel (X.1.2.1, X.1.2.2.2.1)).symm
theorem ok_laws_szRxQueueS : FnOk Tryz.prog 19 e_laws_szRxQueueS := FnOk.of (fnOk (Γ := g_laws_szRxQueueS) (an := n_laws_szRxQueueS) (Λ := L_laws_szRxQueueS) ((base).add ok_laws_szRxQueue) Tryz.func19 (by kernel_rfl) (hF (by kernel_rfl) (cF lok_laws_szRxQueueS_5 nF))) (fun a => by kernel_rfl)
noncomputable def e_laws_szPoolS : GEnt := entOf [.data false (.sl TPool), .data false (.int .i64)] [(false, (.int .i64))] fun a => Pu.laws_szPoolS a.1 a.2.1
noncomputable def g_laws_szPoolS : Gam := (Gam.nil).add 82 e_laws_szPool
def n_laws_szPoolS : An := { mask := fun | 5 => [0, 1, 4, 5] | _ => [] }
@[reducible] def d_laws_szPoolS_5 : SD := ⟨[.data false (.sl .arg TPool),DI,B,B,DI,DI,B,B,B,B,B,B,B,B,B,B,B,B,B,B,B,B,B,B,B,B,B], [Z,Z,Z,Z,Z,Z,Z,Z,Z,Z,Z,Z,Z,Z,Z,Z,Z,Z,Z,Z,Z,Z,Z,Z,Z,Z,Z], .none⟩
noncomputable def t_laws_szPoolS_5 {R : Type} (X : SD.D d_laws_szPoolS_5) (K : Ex → AS → Option R) := Pu.laws_szPoolS_T5 (fun y0 y1 => K (.exit 0) (SD.enc d_laws_szPoolS_5 ((X.1.1, (y0, (X.1.2.2.1, (y1, ())))), (), ()))) (fun y0 y1 y2 => K .ret (SD.enc d_laws_szPoolS_5 ((X.1.1, (y0, (y1, (y2, ())))), (), ()))) X.1.1 X.1.2.2.1
noncomputable def l_laws_szPoolS_5 : LEnt := ⟨d_laws_szPoolS_5, fun X K => iterL (t_laws_szPoolS_5 X K) fuel (X.1.2.1, X.1.2.2.2.1)⟩
noncomputable def L_laws_szPoolS : Lam := (Lam.nil).add 5 l_laws_szPoolS_5
theorem lok_laws_szPoolS_5 : LOk E g_laws_szPoolS n_laws_szPoolS L_laws_szPoolS (loopBody Tryz.f20 0) :=
  lok l_laws_szPoolS_5 (by kernel_rfl) fuel fun R X K => (loop_iter (σ := Int × Int) (fun x => SD.enc d_laws_szPoolS_5 ((X.1.1, (x.1, (X.1.2.2.1, (x.2, ())))), (), ())) (t_laws_szPoolS_5 X K) (fun m x => by kernel_rfl) fuel (X.1.2.1, X.1.2.2.2.1)).symm
theorem ok_laws_szPoolS : FnOk Tryz.prog 20 e_laws_szPoolS := FnOk.of (fnOk (Γ := g_laws_szPoolS) (an := n_laws_szPoolS) (Λ := L_laws_szPoolS) ((base).add ok_laws_szPool) Tryz.func20 (by kernel_rfl) (hF (by kernel_rfl) (cF lok_laws_szPoolS_5 nF))) (fun a => by kernel_rfl)
noncomputable def e_laws_szVectorS : GEnt := entOf [.data false (.sl TVector), .data false (.int .i64)] [(false, (.int .i64))] fun a => Pu.laws_szVectorS a.1 a.2.1
theorem ok_laws_szVectorS : FnOk Tryz.prog 21 e_laws_szVectorS := FnOk.of (fnOk (an := {}) (Λ := Lam.nil) (base) Tryz.func21 (by kernel_rfl) (hF (by kernel_rfl) nF)) (fun a => by kernel_rfl)
noncomputable def e_laws_szBoolS : GEnt := entOf [.data false (.sl .bool), .data false (.int .i64)] [(false, (.int .i64))] fun a => Pu.laws_szBoolS a.1 a.2.1
theorem ok_laws_szBoolS : FnOk Tryz.prog 22 e_laws_szBoolS := FnOk.of (fnOk (an := {}) (Λ := Lam.nil) (base) Tryz.func22 (by kernel_rfl) (hF (by kernel_rfl) nF)) (fun a => by kernel_rfl)
noncomputable def e_laws_szFilter : GEnt := entOf [.data true TFilter, .data false (.int .i64)] [(false, (.int .i64))] fun a => Pu.laws_szFilter a.1 a.2.1
theorem ok_laws_szFilter : FnOk Tryz.prog 23 e_laws_szFilter := FnOk.of (fnOk (an := {}) (Λ := Lam.nil) ((base).add ok_laws_szIntS) Tryz.func23 (by kernel_rfl) (hF (by kernel_rfl) nF)) (fun a => by kernel_rfl)
noncomputable def e_laws_szRuleS : GEnt := entOf [.data false (.sl TRule), .data false (.int .i64)] [(false, (.int .i64))] fun a => Pu.laws_szRuleS a.1 a.2.1
theorem ok_laws_szRuleS : FnOk Tryz.prog 85 e_laws_szRuleS := FnOk.of (fnOk (an := {}) (Λ := Lam.nil) (base) Tryz.func85 (by kernel_rfl) (hF (by kernel_rfl) nF)) (fun a => by kernel_rfl)
noncomputable def e_laws_szSlotS : GEnt := entOf [.data false (.sl TSlot), .data false (.int .i64)] [(false, (.int .i64))] fun a => Pu.laws_szSlotS a.1 a.2.1
theorem ok_laws_szSlotS : FnOk Tryz.prog 137 e_laws_szSlotS := FnOk.of (fnOk (an := {}) (Λ := Lam.nil) (base) Tryz.func137 (by kernel_rfl) (hF (by kernel_rfl) nF)) (fun a => by kernel_rfl)
noncomputable def e_laws_szFlowTable : GEnt := entOf [.data true (.sl TSlot), .data false (.int .i64)] [(false, (.int .i64))] fun a => Pu.laws_szFlowTable a.1 a.2.1
theorem ok_laws_szFlowTable : FnOk Tryz.prog 86 e_laws_szFlowTable := FnOk.of (fnOk (an := {}) (Λ := Lam.nil) ((base).add ok_laws_szSlotS) Tryz.func86 (by kernel_rfl) (hF (by kernel_rfl) nF)) (fun a => by kernel_rfl)
noncomputable def e_laws_szSpread : GEnt := entOf [.data true TSpread, .data false (.int .i64)] [(false, (.int .i64))] fun a => Pu.laws_szSpread a.1 a.2.1
theorem ok_laws_szSpread : FnOk Tryz.prog 87 e_laws_szSpread := FnOk.of (fnOk (an := {}) (Λ := Lam.nil) ((base).add ok_laws_szIntS) Tryz.func87 (by kernel_rfl) (hF (by kernel_rfl) nF)) (fun a => by kernel_rfl)
noncomputable def e_laws_szSteering : GEnt := entOf [.data true TSteering, .data false (.int .i64)] [(false, (.int .i64))] fun a => Pu.laws_szSteering a.1 a.2.1
theorem ok_laws_szSteering : FnOk Tryz.prog 24 e_laws_szSteering := FnOk.of (fnOk (an := {}) (Λ := Lam.nil) ((((base).add ok_laws_szRuleS).add ok_laws_szFlowTable).add ok_laws_szSpread) Tryz.func24 (by kernel_rfl) (hF (by kernel_rfl) nF)) (fun a => by kernel_rfl)
noncomputable def e_laws_szStream : GEnt := entOf [.data true TStream, .data false (.int .i64)] [(false, (.int .i64))] fun a => Pu.laws_szStream a.1 a.2.1
theorem ok_laws_szStream : FnOk Tryz.prog 88 e_laws_szStream := FnOk.of (fnOk (an := {}) (Λ := Lam.nil) (base) Tryz.func88 (by kernel_rfl) (hF (by kernel_rfl) nF)) (fun a => by kernel_rfl)
noncomputable def e_laws_szStreamS : GEnt := entOf [.data false (.sl TStream), .data false (.int .i64)] [(false, (.int .i64))] fun a => Pu.laws_szStreamS a.1 a.2.1
noncomputable def g_laws_szStreamS : Gam := (Gam.nil).add 88 e_laws_szStream
def n_laws_szStreamS : An := { mask := fun | 5 => [0, 1, 4, 5] | _ => [] }
@[reducible] def d_laws_szStreamS_5 : SD := ⟨[.data false (.sl .arg TStream),DI,B,B,DI,DI,B,B,B,B,B,B,B,B,B,B,B,B,B,B,B,B,B,B,B,B,B], [Z,Z,Z,Z,Z,Z,Z,Z,Z,Z,Z,Z,Z,Z,Z,Z,Z,Z,Z,Z,Z,Z,Z,Z,Z,Z,Z], .none⟩
noncomputable def t_laws_szStreamS_5 {R : Type} (X : SD.D d_laws_szStreamS_5) (K : Ex → AS → Option R) := Pu.laws_szStreamS_T5 (fun y0 y1 => K (.exit 0) (SD.enc d_laws_szStreamS_5 ((X.1.1, (y0, (X.1.2.2.1, (y1, ())))), (), ()))) (fun y0 y1 y2 => K .ret (SD.enc d_laws_szStreamS_5 ((X.1.1, (y0, (y1, (y2, ())))), (), ()))) X.1.1 X.1.2.2.1
noncomputable def l_laws_szStreamS_5 : LEnt := ⟨d_laws_szStreamS_5, fun X K => iterL (t_laws_szStreamS_5 X K) fuel (X.1.2.1, X.1.2.2.2.1)⟩
noncomputable def L_laws_szStreamS : Lam := (Lam.nil).add 5 l_laws_szStreamS_5
theorem lok_laws_szStreamS_5 : LOk E g_laws_szStreamS n_laws_szStreamS L_laws_szStreamS (loopBody Tryz.f25 0) :=
  lok l_laws_szStreamS_5 (by kernel_rfl) fuel fun R X K => (loop_iter (σ := Int × Int) (fun x => SD.enc d_laws_szStreamS_5 ((X.1.1, (x.1, (X.1.2.2.1, (x.2, ())))), (), ())) (t_laws_szStreamS_5 X K) (fun m x => by kernel_rfl) fuel (X.1.2.1, X.1.2.2.2.1)).symm
theorem ok_laws_szStreamS : FnOk Tryz.prog 25 e_laws_szStreamS := FnOk.of (fnOk (Γ := g_laws_szStreamS) (an := n_laws_szStreamS) (Λ := L_laws_szStreamS) ((base).add ok_laws_szStream) Tryz.func25 (by kernel_rfl) (hF (by kernel_rfl) (cF lok_laws_szStreamS_5 nF))) (fun a => by kernel_rfl)
noncomputable def e_laws_szHost : GEnt := entOf [.data true THost, .data false (.int .i64)] [(false, (.int .i64))] fun a => Pu.laws_szHost a.1 a.2.1
theorem ok_laws_szHost : FnOk Tryz.prog 5 e_laws_szHost := FnOk.of (fnOk (an := {}) (Λ := Lam.nil) (((((((((((((base).add ok_laws_szMemory).add ok_laws_szIntS).add ok_laws_szMappingS).add ok_laws_szTxQueue).add ok_laws_szRxQueueS).add ok_laws_szPoolS).add ok_laws_szVectorS).add ok_laws_szBoolS).add ok_laws_szFilter).add ok_laws_szSteering).add ok_laws_szStreamS).add ok_laws_szStringS) Tryz.func5 (by kernel_rfl) (hF (by kernel_rfl) nF)) (fun a => by kernel_rfl)
noncomputable def e_spec_l16Copy : GEnt := entOf [.data true (.sl .str)] [(true, (.sl (.own none) .str))] fun a => Pu.spec_l16Copy a.1
theorem ok_spec_l16Copy : FnOk Tryz.prog 90 e_spec_l16Copy := FnOk.of (fnOk (an := {}) (Λ := Lam.nil) (base) Tryz.func90 (by kernel_rfl) (hF (by kernel_rfl) nF)) (fun a => by kernel_rfl)
noncomputable def e_spec_l39Copy : GEnt := entOf [.data true TMove] [(true, (.pair (.sl (.own none) .str) (.pair (.sl (.own none) (.int .i64)) (.int .i64))))] fun a => Pu.spec_l39Copy a.1
theorem ok_spec_l39Copy : FnOk Tryz.prog 89 e_spec_l39Copy := FnOk.of (fnOk (an := { sb := fun | 2 => some 2 | _ => none }) (Λ := Lam.nil) ((base).add ok_spec_l16Copy) Tryz.func89 (by kernel_rfl) (hF (by kernel_rfl) nF)) (fun a => by kernel_rfl)
noncomputable def e_spec_CopyRound : GEnt := entOf [.data true TMove, .data true (.sl .str)] [(true, (.pair (.sl (.own none) .str) (.pair (.sl (.own none) (.int .i64)) (.int .i64))))] fun a => Pu.spec_CopyRound a.1 a.2.1
noncomputable def g_spec_CopyRound : Gam := (Gam.nil).add 89 e_spec_l39Copy
def n_spec_CopyRound : An := { mask := fun | 3 => [2, 3, 4, 5, 6] | _ => [], merge := fun | 6 => some 38 | _ => none, mv := [55] }
@[reducible] def d_spec_CopyRound_3 : SD := ⟨[B,B,.ptr 2 0,.ptr 3 0,.ptr 4 0,.ptr 5 0,DI,B,B,B,B,B,B,B,B,B,B,B,B,B,B,B,B,B,B,B,B,B,B,B,B,B,B,B,B,B,B,B,B,B,B,B,B,B,B,B,B,B,B,B,B,B,B,B,B,B], [Z,Z,some (.pair (.sl .arg .str) (.pair (.sl .arg (.int .i64)) (.int .i64))),some (.sl .arg .str),some (.pair (.sl (.own (some 49153)) .str) (.pair (.sl (.own (some 49156)) (.int .i64)) (.int .i64))),some (.pair (.sl (.own (some 61441)) .str) (.pair (.sl (.own (some 61444)) (.int .i64)) (.int .i64))),Z,Z,Z,Z,Z,Z,Z,Z,Z,Z,Z,Z,Z,Z,Z,Z,Z,Z,Z,Z,Z,Z,Z,Z,Z,Z,Z,Z,Z,Z,Z,Z,Z,Z,Z,Z,Z,Z,Z,Z,Z,Z,Z,Z,Z,Z,Z,Z,Z,Z], .none⟩
noncomputable def t_spec_CopyRound_3 {R : Type} (X : SD.D d_spec_CopyRound_3) (K : Ex → AS → Option R) := Pu.spec_CopyRound_T3 (fun y0 y1 => K (.exit 0) (SD.enc d_spec_CopyRound_3 ((y0, ()), (X.2.1.1, (X.2.1.2.1, (X.2.1.2.2.1, (y1, ())))), ()))) X.2.1.1 X.2.1.2.1 X.2.1.2.2.1
noncomputable def l_spec_CopyRound_3 : LEnt := ⟨d_spec_CopyRound_3, fun X K => iterL (t_spec_CopyRound_3 X K) fuel (X.1.1, X.2.1.2.2.2.1)⟩
noncomputable def L_spec_CopyRound : Lam := (Lam.nil).add 3 l_spec_CopyRound_3
theorem lok_spec_CopyRound_3 : LOk E g_spec_CopyRound n_spec_CopyRound L_spec_CopyRound (loopBody Tryz.f27 0) :=
  lok l_spec_CopyRound_3 (by kernel_rfl) fuel fun R X K => (loop_iter (σ := Int × Pu.Move) (fun x => SD.enc d_spec_CopyRound_3 ((x.1, ()), (X.2.1.1, (X.2.1.2.1, (X.2.1.2.2.1, (x.2, ())))), ())) (t_spec_CopyRound_3 X K) (fun m x => by kernel_rfl) fuel (X.1.1, X.2.1.2.2.2.1)).symm
theorem ok_spec_CopyRound : FnOk Tryz.prog 27 e_spec_CopyRound := FnOk.of (fnOk (Γ := g_spec_CopyRound) (an := n_spec_CopyRound) (Λ := L_spec_CopyRound) ((base).add ok_spec_l39Copy) Tryz.func27 (by kernel_rfl) (hF (by kernel_rfl) (cF lok_spec_CopyRound_3 nF))) (fun a => by kernel_rfl)
noncomputable def e_spec_l21Copy : GEnt := entOf [.data true TPool] [(true, (.pair (.int .i64) (.pair (.int .i64) (.pair (.int .i64) (.sl (.own none) (.int .i64))))))] fun a => Pu.spec_l21Copy a.1
theorem ok_spec_l21Copy : FnOk Tryz.prog 92 e_spec_l21Copy := FnOk.of (fnOk (an := { sb := fun | 2 => some 2 | _ => none }) (Λ := Lam.nil) (base) Tryz.func92 (by kernel_rfl) (hF (by kernel_rfl) nF)) (fun a => by kernel_rfl)
noncomputable def e_spec_l22Copy : GEnt := entOf [.data true TTxQueue] [(true, (.pair (.pair (.int .i64) (.pair (.int .i64) (.pair (.int .i64) (.int .i64)))) (.pair (.pair (.int .i64) (.pair (.int .i64) (.pair (.int .i64) (.sl (.own none) (.int .i64))))) (.pair (.sl (.own none) TSent) (.int .i64)))))] fun a => Pu.spec_l22Copy a.1
noncomputable def g_spec_l22Copy : Gam := (Gam.nil).add 92 e_spec_l21Copy
def n_spec_l22Copy : An := { mask := fun | 3 => [1, 2, 3, 4] | _ => [], mv := [27, 40], mb := fun | 27 => some 3 | _ => none, sb := fun | 3 => some 3 | 39 => some 3 | _ => none }
@[reducible] def d_spec_l22Copy_3 : SD := ⟨[B,.ptr 1 0,.ptr 2 0,.ptr 3 0,DI,B,B,B,B,B,B,B,B,B,B,B,B,B,B,B,B,B,B,B,B,B,B,B,B,B,B,B,B,B,B,B,B,B,B,B,B], [Z,some (.pair (.pair (.int .i64) (.pair (.int .i64) (.pair (.int .i64) (.int .i64)))) (.pair (.pair (.int .i64) (.pair (.int .i64) (.pair (.int .i64) (.sl .arg (.int .i64))))) (.pair (.sl .arg TSent) (.int .i64)))),some (.pair (.pair (.int .i64) (.pair (.int .i64) (.pair (.int .i64) (.int .i64)))) (.pair (.pair (.int .i64) (.pair (.int .i64) (.pair (.int .i64) (.sl (.own (some 24598)) (.int .i64))))) (.pair (.sl (.own (some 24601)) TSent) (.int .i64)))),some (.pair (.pair (.int .i64) (.pair (.int .i64) (.pair (.int .i64) (.int .i64)))) (.pair (.pair (.int .i64) (.pair (.int .i64) (.pair (.int .i64) (.sl (.own (some 36886)) (.int .i64))))) (.pair (.sl (.own (some 36889)) TSent) (.int .i64)))),Z,Z,Z,Z,Z,Z,Z,Z,Z,Z,Z,Z,Z,Z,Z,Z,Z,Z,Z,Z,Z,Z,Z,Z,Z,Z,Z,Z,Z,Z,Z,Z,Z,Z,Z,Z,Z], .none⟩
noncomputable def t_spec_l22Copy_3 {R : Type} (X : SD.D d_spec_l22Copy_3) (K : Ex → AS → Option R) := Pu.spec_l22Copy_T3 (fun y0 y1 => K (.exit 0) (SD.enc d_spec_l22Copy_3 ((y0, ()), (X.2.1.1, (X.2.1.2.1, (y1, ()))), ()))) X.2.1.1 X.2.1.2.1
noncomputable def l_spec_l22Copy_3 : LEnt := ⟨d_spec_l22Copy_3, fun X K => iterL (t_spec_l22Copy_3 X K) fuel (X.1.1, X.2.1.2.2.1)⟩
noncomputable def L_spec_l22Copy : Lam := (Lam.nil).add 3 l_spec_l22Copy_3
theorem lok_spec_l22Copy_3 : LOk E g_spec_l22Copy n_spec_l22Copy L_spec_l22Copy (loopBody Tryz.f91 0) :=
  lok l_spec_l22Copy_3 (by kernel_rfl) fuel fun R X K => (loop_iter (σ := Int × Pu.TxQueue) (fun x => SD.enc d_spec_l22Copy_3 ((x.1, ()), (X.2.1.1, (X.2.1.2.1, (x.2, ()))), ())) (t_spec_l22Copy_3 X K) (fun m x => by kernel_rfl) fuel (X.1.1, X.2.1.2.2.1)).symm
theorem ok_spec_l22Copy : FnOk Tryz.prog 91 e_spec_l22Copy := FnOk.of (fnOk (Γ := g_spec_l22Copy) (an := n_spec_l22Copy) (Λ := L_spec_l22Copy) ((base).add ok_spec_l21Copy) Tryz.func91 (by kernel_rfl) (hF (by kernel_rfl) (cF lok_spec_l22Copy_3 nF))) (fun a => by kernel_rfl)
noncomputable def e_spec_l24Copy : GEnt := entOf [.data true TFilter] [(true, (.pair (.int .i64) (.pair .bool (.sl (.own none) (.int .i64)))))] fun a => Pu.spec_l24Copy a.1
theorem ok_spec_l24Copy : FnOk Tryz.prog 93 e_spec_l24Copy := FnOk.of (fnOk (an := { sb := fun | 2 => some 2 | _ => none }) (Λ := Lam.nil) (base) Tryz.func93 (by kernel_rfl) (hF (by kernel_rfl) nF)) (fun a => by kernel_rfl)
noncomputable def e_spec_l13Copy : GEnt := entOf [.data true (.sl TSlot)] [(true, (.sl (.own none) TSlot))] fun a => Pu.spec_l13Copy a.1
theorem ok_spec_l13Copy : FnOk Tryz.prog 138 e_spec_l13Copy := FnOk.of (fnOk (an := {}) (Λ := Lam.nil) (base) Tryz.func138 (by kernel_rfl) (hF (by kernel_rfl) nF)) (fun a => by kernel_rfl)
noncomputable def e_spec_l15Copy : GEnt := entOf [.data true TSteering] [(true, (.pair (.sl (.own none) TRule) (.pair (.sl (.own none) TSlot) (.pair .str (.sl (.own none) (.int .i64))))))] fun a => Pu.spec_l15Copy a.1
theorem ok_spec_l15Copy : FnOk Tryz.prog 94 e_spec_l15Copy := FnOk.of (fnOk (an := { sb := fun | 2 => some 2 | _ => none }) (Λ := Lam.nil) ((base).add ok_spec_l13Copy) Tryz.func94 (by kernel_rfl) (hF (by kernel_rfl) nF)) (fun a => by kernel_rfl)
noncomputable def e_spec_l37Copy : GEnt := entOf [.data true THost] [(true, (.pair (.sl (.own none) .str) (.pair (.sl (.own none) TMapping) (.pair (.pair (.pair (.int .i64) (.pair (.int .i64) (.pair (.int .i64) (.int .i64)))) (.pair (.pair (.int .i64) (.pair (.int .i64) (.pair (.int .i64) (.sl (.own none) (.int .i64))))) (.pair (.sl (.own none) TSent) (.int .i64)))) (.pair (.sl (.own none) TRxQueue) (.pair (.sl (.own none) TPool) (.pair (.sl (.own none) TVector) (.pair (.sl (.own none) .bool) (.pair (.pair (.int .i64) (.pair .bool (.sl (.own none) (.int .i64)))) (.pair (.pair (.sl (.own none) TRule) (.pair (.sl (.own none) TSlot) (.pair .str (.sl (.own none) (.int .i64))))) (.pair (.sl (.own none) TStream) (.pair .bool (.pair (.sl (.own none) .str) (.pair (.sl (.own none) (.int .i64)) (.pair (.sl (.own none) (.int .i64)) (.pair (.int .i64) (.pair (.int .i64) (.pair (.int .i64) (.pair (.int .i64) (.int .i64))))))))))))))))))))] fun a => Pu.spec_l37Copy a.1
noncomputable def g_spec_l37Copy : Gam := (((((Gam.nil).add 90 e_spec_l16Copy).add 91 e_spec_l22Copy).add 92 e_spec_l21Copy).add 93 e_spec_l24Copy).add 94 e_spec_l15Copy
def n_spec_l37Copy : An := { mask := fun | 8 => [1, 2, 3, 4] | _ => [], mv := [34, 82], mb := fun | 34 => some 3 | _ => none, sb := fun | 43 => some 3 | _ => none }
@[reducible] def d_spec_l37Copy_8 : SD := ⟨[B,.ptr 1 0,.ptr 2 0,.ptr 3 0,DI,B,B,B,B,B,B,B,B,B,B,B,B,B,B,B,B,B,B,B,B,B,B,B,B,B,B,B,B,B,B,B,B,B,B,B,B,B,B,B,B,B,B,B,B,B,B,B,B,B,B,B,B,B,B,B,B,B,B,B,B,B,B,B,B,B,B,B,B,B,B,B,B,B,B,B,B,B,B], [Z,some (.pair (.sl .arg .str) (.pair (.sl .arg TMapping) (.pair (.pair (.pair (.int .i64) (.pair (.int .i64) (.pair (.int .i64) (.int .i64)))) (.pair (.pair (.int .i64) (.pair (.int .i64) (.pair (.int .i64) (.sl .arg (.int .i64))))) (.pair (.sl .arg TSent) (.int .i64)))) (.pair (.sl .arg TRxQueue) (.pair (.sl .arg TPool) (.pair (.sl .arg TVector) (.pair (.sl .arg .bool) (.pair (.pair (.int .i64) (.pair .bool (.sl .arg (.int .i64)))) (.pair (.pair (.sl .arg TRule) (.pair (.sl .arg TSlot) (.pair .str (.sl .arg (.int .i64))))) (.pair (.sl .arg TStream) (.pair .bool (.pair (.sl .arg .str) (.pair (.sl .arg (.int .i64)) (.pair (.sl .arg (.int .i64)) (.pair (.int .i64) (.pair (.int .i64) (.pair (.int .i64) (.pair (.int .i64) (.int .i64))))))))))))))))))),some (.pair (.sl (.own (some 24577)) .str) (.pair (.sl (.own (some 24580)) TMapping) (.pair (.pair (.pair (.int .i64) (.pair (.int .i64) (.pair (.int .i64) (.int .i64)))) (.pair (.pair (.int .i64) (.pair (.int .i64) (.pair (.int .i64) (.sl (.own (some 24604)) (.int .i64))))) (.pair (.sl (.own (some 24607)) TSent) (.int .i64)))) (.pair (.sl (.own (some 24613)) TRxQueue) (.pair (.sl (.own (some 24616)) TPool) (.pair (.sl (.own (some 24619)) TVector) (.pair (.sl (.own (some 24622)) .bool) (.pair (.pair (.int .i64) (.pair .bool (.sl (.own (some 24631)) (.int .i64)))) (.pair (.pair (.sl (.own (some 24634)) TRule) (.pair (.sl (.own (some 24637)) TSlot) (.pair .str (.sl (.own (some 24643)) (.int .i64))))) (.pair (.sl (.own (some 24646)) TStream) (.pair .bool (.pair (.sl (.own (some 24652)) .str) (.pair (.sl (.own (some 24655)) (.int .i64)) (.pair (.sl (.own (some 24658)) (.int .i64)) (.pair (.int .i64) (.pair (.int .i64) (.pair (.int .i64) (.pair (.int .i64) (.int .i64))))))))))))))))))),some (.pair (.sl (.own (some 36865)) .str) (.pair (.sl (.own (some 36868)) TMapping) (.pair (.pair (.pair (.int .i64) (.pair (.int .i64) (.pair (.int .i64) (.int .i64)))) (.pair (.pair (.int .i64) (.pair (.int .i64) (.pair (.int .i64) (.sl (.own (some 36892)) (.int .i64))))) (.pair (.sl (.own (some 36895)) TSent) (.int .i64)))) (.pair (.sl (.own (some 36901)) TRxQueue) (.pair (.sl (.own (some 36904)) TPool) (.pair (.sl .arg TVector) (.pair (.sl .arg .bool) (.pair (.pair (.int .i64) (.pair .bool (.sl .arg (.int .i64)))) (.pair (.pair (.sl .arg TRule) (.pair (.sl .arg TSlot) (.pair .str (.sl .arg (.int .i64))))) (.pair (.sl .arg TStream) (.pair .bool (.pair (.sl .arg .str) (.pair (.sl .arg (.int .i64)) (.pair (.sl .arg (.int .i64)) (.pair (.int .i64) (.pair (.int .i64) (.pair (.int .i64) (.pair (.int .i64) (.int .i64))))))))))))))))))),Z,Z,Z,Z,Z,Z,Z,Z,Z,Z,Z,Z,Z,Z,Z,Z,Z,Z,Z,Z,Z,Z,Z,Z,Z,Z,Z,Z,Z,Z,Z,Z,Z,Z,Z,Z,Z,Z,Z,Z,Z,Z,Z,Z,Z,Z,Z,Z,Z,Z,Z,Z,Z,Z,Z,Z,Z,Z,Z,Z,Z,Z,Z,Z,Z,Z,Z,Z,Z,Z,Z,Z,Z,Z,Z,Z,Z,Z,Z], .none⟩
noncomputable def t_spec_l37Copy_8 {R : Type} (X : SD.D d_spec_l37Copy_8) (K : Ex → AS → Option R) := Pu.spec_l37Copy_T8 (fun y0 y1 => K (.exit 0) (SD.enc d_spec_l37Copy_8 ((y0, ()), (X.2.1.1, (X.2.1.2.1, (y1, ()))), ()))) X.2.1.1 X.2.1.2.1
noncomputable def l_spec_l37Copy_8 : LEnt := ⟨d_spec_l37Copy_8, fun X K => iterL (t_spec_l37Copy_8 X K) fuel (X.1.1, X.2.1.2.2.1)⟩
noncomputable def L_spec_l37Copy : Lam := (Lam.nil).add 8 l_spec_l37Copy_8
theorem lok_spec_l37Copy_8 : LOk E g_spec_l37Copy n_spec_l37Copy L_spec_l37Copy (loopBody Tryz.f28 0) :=
  lok l_spec_l37Copy_8 (by kernel_rfl) fuel fun R X K => (loop_iter (σ := Int × Pu.Host) (fun x => SD.enc d_spec_l37Copy_8 ((x.1, ()), (X.2.1.1, (X.2.1.2.1, (x.2, ()))), ())) (t_spec_l37Copy_8 X K) (fun m x => by kernel_rfl) fuel (X.1.1, X.2.1.2.2.1)).symm
theorem ok_spec_l37Copy : FnOk Tryz.prog 28 e_spec_l37Copy := FnOk.of (fnOk (Γ := g_spec_l37Copy) (an := n_spec_l37Copy) (Λ := L_spec_l37Copy) ((((((base).add ok_spec_l16Copy).add ok_spec_l22Copy).add ok_spec_l21Copy).add ok_spec_l24Copy).add ok_spec_l15Copy) Tryz.func28 (by kernel_rfl) (hF (by kernel_rfl) (cF lok_spec_l37Copy_8 nF))) (fun a => by kernel_rfl)
noncomputable def e_spec_FinishMove : GEnt := entOf [.data true TMove, .data true THost] [(true, (.pair (.sl (.own none) .str) (.pair (.sl (.own none) TMapping) (.pair (.pair (.pair (.int .i64) (.pair (.int .i64) (.pair (.int .i64) (.int .i64)))) (.pair (.pair (.int .i64) (.pair (.int .i64) (.pair (.int .i64) (.sl (.own none) (.int .i64))))) (.pair (.sl (.own none) TSent) (.int .i64)))) (.pair (.sl (.own none) TRxQueue) (.pair (.sl (.own none) TPool) (.pair (.sl (.own none) TVector) (.pair (.sl (.own none) .bool) (.pair (.pair (.int .i64) (.pair .bool (.sl (.own none) (.int .i64)))) (.pair (.pair (.sl (.own none) TRule) (.pair (.sl (.own none) TSlot) (.pair .str (.sl (.own none) (.int .i64))))) (.pair (.sl (.own none) TStream) (.pair .bool (.pair (.sl (.own none) .str) (.pair (.sl (.own none) (.int .i64)) (.pair (.sl (.own none) (.int .i64)) (.pair (.int .i64) (.pair (.int .i64) (.pair (.int .i64) (.pair (.int .i64) (.int .i64)))))))))))))))))))), (false, .bool)] fun a => Pu.spec_FinishMove a.1 a.2.1
noncomputable def g_spec_FinishMove : Gam := ((Gam.nil).add 27 e_spec_CopyRound).add 28 e_spec_l37Copy
def n_spec_FinishMove : An := { mask := fun | 6 => [3, 4, 6, 7, 8, 9] | _ => [], merge := fun | 6 => some 36 | _ => none, mv := [17, 52] }
@[reducible] def d_spec_FinishMove_6 : SD := ⟨[B,B,B,.ptr 3 0,.ptr 4 0,B,.ptr 6 0,.ptr 7 0,DB,DI,B,B,B,B,B,B,B,B,B,B,B,B,B,B,B,B,B,B,B,B,B,B,B,B,B,B,B,B,B,B,B,B,B,B,B,B,B,B,B,B,B,B,B,B], [Z,Z,Z,some (.pair (.sl .arg .str) (.pair (.sl .arg TMapping) (.pair (.pair (.pair (.int .i64) (.pair (.int .i64) (.pair (.int .i64) (.int .i64)))) (.pair (.pair (.int .i64) (.pair (.int .i64) (.pair (.int .i64) (.sl .arg (.int .i64))))) (.pair (.sl .arg TSent) (.int .i64)))) (.pair (.sl .arg TRxQueue) (.pair (.sl .arg TPool) (.pair (.sl .arg TVector) (.pair (.sl .arg .bool) (.pair (.pair (.int .i64) (.pair .bool (.sl .arg (.int .i64)))) (.pair (.pair (.sl .arg TRule) (.pair (.sl .arg TSlot) (.pair .str (.sl .arg (.int .i64))))) (.pair (.sl .arg TStream) (.pair .bool (.pair (.sl .arg .str) (.pair (.sl .arg (.int .i64)) (.pair (.sl .arg (.int .i64)) (.pair (.int .i64) (.pair (.int .i64) (.pair (.int .i64) (.pair (.int .i64) (.int .i64))))))))))))))))))),some (.pair (.sl (.own (some 49153)) .str) (.pair (.sl (.own (some 49156)) TMapping) (.pair (.pair (.pair (.int .i64) (.pair (.int .i64) (.pair (.int .i64) (.int .i64)))) (.pair (.pair (.int .i64) (.pair (.int .i64) (.pair (.int .i64) (.sl (.own (some 49180)) (.int .i64))))) (.pair (.sl (.own (some 49183)) TSent) (.int .i64)))) (.pair (.sl (.own (some 49189)) TRxQueue) (.pair (.sl (.own (some 49192)) TPool) (.pair (.sl (.own (some 49195)) TVector) (.pair (.sl (.own (some 49198)) .bool) (.pair (.pair (.int .i64) (.pair .bool (.sl (.own (some 49207)) (.int .i64)))) (.pair (.pair (.sl (.own (some 49210)) TRule) (.pair (.sl (.own (some 49213)) TSlot) (.pair .str (.sl (.own (some 49219)) (.int .i64))))) (.pair (.sl (.own (some 49222)) TStream) (.pair .bool (.pair (.sl (.own (some 49228)) .str) (.pair (.sl (.own (some 49231)) (.int .i64)) (.pair (.sl (.own (some 49234)) (.int .i64)) (.pair (.int .i64) (.pair (.int .i64) (.pair (.int .i64) (.pair (.int .i64) (.int .i64))))))))))))))))))),Z,some (.pair (.sl .loc .str) (.pair (.sl (.own (some 73732)) (.int .i64)) (.int .i64))),some (.pair (.sl (.own (some 86017)) .str) (.pair (.sl (.own (some 86020)) TMapping) (.pair (.pair (.pair (.int .i64) (.pair (.int .i64) (.pair (.int .i64) (.int .i64)))) (.pair (.pair (.int .i64) (.pair (.int .i64) (.pair (.int .i64) (.sl (.own (some 86044)) (.int .i64))))) (.pair (.sl (.own (some 86047)) TSent) (.int .i64)))) (.pair (.sl (.own (some 86053)) TRxQueue) (.pair (.sl (.own (some 86056)) TPool) (.pair (.sl (.own (some 86059)) TVector) (.pair (.sl (.own (some 86062)) .bool) (.pair (.pair (.int .i64) (.pair .bool (.sl (.own (some 86071)) (.int .i64)))) (.pair (.pair (.sl (.own (some 86074)) TRule) (.pair (.sl (.own (some 86077)) TSlot) (.pair .str (.sl (.own (some 86083)) (.int .i64))))) (.pair (.sl (.own (some 86086)) TStream) (.pair .bool (.pair (.sl (.own (some 86092)) .str) (.pair (.sl (.own (some 86095)) (.int .i64)) (.pair (.sl (.own (some 86098)) (.int .i64)) (.pair (.int .i64) (.pair (.int .i64) (.pair (.int .i64) (.pair (.int .i64) (.int .i64))))))))))))))))))),Z,Z,Z,Z,Z,Z,Z,Z,Z,Z,Z,Z,Z,Z,Z,Z,Z,Z,Z,Z,Z,Z,Z,Z,Z,Z,Z,Z,Z,Z,Z,Z,Z,Z,Z,Z,Z,Z,Z,Z,Z,Z,Z,Z,Z,Z], .none⟩
noncomputable def t_spec_FinishMove_6 {R : Type} (X : SD.D d_spec_FinishMove_6) (K : Ex → AS → Option R) := Pu.spec_FinishMove_T6 (fun y0 y1 => K (.exit 0) (SD.enc d_spec_FinishMove_6 ((y0, (y1, ())), (X.2.1.1, (X.2.1.2.1, (X.2.1.2.2.1, (X.2.1.2.2.2.1, ())))), ()))) X.2.1.1 X.2.1.2.1 X.2.1.2.2.1 X.2.1.2.2.2.1
noncomputable def l_spec_FinishMove_6 : LEnt := ⟨d_spec_FinishMove_6, fun X K => iterL (t_spec_FinishMove_6 X K) fuel (X.1.1, X.1.2.1)⟩
noncomputable def L_spec_FinishMove : Lam := (Lam.nil).add 6 l_spec_FinishMove_6
theorem lok_spec_FinishMove_6 : LOk E g_spec_FinishMove n_spec_FinishMove L_spec_FinishMove (loopBody Tryz.f6 0) :=
  lok l_spec_FinishMove_6 (by kernel_rfl) fuel fun R X K => (loop_iter (σ := Bool × Int) (fun x => SD.enc d_spec_FinishMove_6 ((x.1, (x.2, ())), (X.2.1.1, (X.2.1.2.1, (X.2.1.2.2.1, (X.2.1.2.2.2.1, ())))), ())) (t_spec_FinishMove_6 X K) (fun m x => by kernel_rfl) fuel (X.1.1, X.1.2.1)).symm
theorem ok_spec_FinishMove : FnOk Tryz.prog 6 e_spec_FinishMove := FnOk.of (fnOk (Γ := g_spec_FinishMove) (an := n_spec_FinishMove) (Λ := L_spec_FinishMove) (((base).add ok_spec_CopyRound).add ok_spec_l37Copy) Tryz.func6 (by kernel_rfl) (hF (by kernel_rfl) (cF lok_spec_FinishMove_6 nF))) (fun a => by kernel_rfl)
noncomputable def e_laws_toStringS : GEnt := entOf [.data false (.sl .str)] [(false, (.sl (.own none) .str))] fun a => Pu.laws_toStringS a.1
noncomputable def g_laws_toStringS : Gam := Gam.nil
def n_laws_toStringS : An := { mask := fun | 3 => [0, 3, 4] | _ => [], mv := [21] }
@[reducible] def d_laws_toStringS_3 : SD := ⟨[.data false (.sl .arg .str),B,B,.data false (.sl (.own (some 36864)) .str),DI,B,B,B,B,B,B,B,B,B,B,B,B,B,B,B,B,B], [Z,Z,Z,Z,Z,Z,Z,Z,Z,Z,Z,Z,Z,Z,Z,Z,Z,Z,Z,Z,Z,Z], .none⟩
noncomputable def t_laws_toStringS_3 {R : Type} (X : SD.D d_laws_toStringS_3) (K : Ex → AS → Option R) := Pu.laws_toStringS_T3 (fun y0 y1 => K (.exit 0) (SD.enc d_laws_toStringS_3 ((X.1.1, (y0, (y1, ()))), (), ()))) X.1.1
noncomputable def l_laws_toStringS_3 : LEnt := ⟨d_laws_toStringS_3, fun X K => iterL (t_laws_toStringS_3 X K) fuel (X.1.2.1, X.1.2.2.1)⟩
noncomputable def L_laws_toStringS : Lam := (Lam.nil).add 3 l_laws_toStringS_3
theorem lok_laws_toStringS_3 : LOk E g_laws_toStringS n_laws_toStringS L_laws_toStringS (loopBody Tryz.f40 0) :=
  lok l_laws_toStringS_3 (by kernel_rfl) fuel fun R X K => (loop_iter (σ := (List Pu.Bytes) × Int) (fun x => SD.enc d_laws_toStringS_3 ((X.1.1, (x.1, (x.2, ()))), (), ())) (t_laws_toStringS_3 X K) (fun m x => by kernel_rfl) fuel (X.1.2.1, X.1.2.2.1)).symm
theorem ok_laws_toStringS : FnOk Tryz.prog 40 e_laws_toStringS := FnOk.of (fnOk (Γ := g_laws_toStringS) (an := n_laws_toStringS) (Λ := L_laws_toStringS) (base) Tryz.func40 (by kernel_rfl) (hF (by kernel_rfl) (cF lok_laws_toStringS_3 nF))) (fun a => by kernel_rfl)
noncomputable def e_laws_toMemory : GEnt := entOf [.data true (.sl .str)] [(true, (.sl (.own none) .str))] fun a => Pu.laws_toMemory a.1
theorem ok_laws_toMemory : FnOk Tryz.prog 29 e_laws_toMemory := FnOk.of (fnOk (an := { mv := [8] }) (Λ := Lam.nil) ((base).add ok_laws_toStringS) Tryz.func29 (by kernel_rfl) (hF (by kernel_rfl) nF)) (fun a => by kernel_rfl)
noncomputable def e_laws_toIntS : GEnt := entOf [.data false (.sl (.int .i64))] [(false, (.sl (.own none) (.int .i64)))] fun a => Pu.laws_toIntS a.1
noncomputable def g_laws_toIntS : Gam := Gam.nil
def n_laws_toIntS : An := { mask := fun | 3 => [0, 3, 4] | _ => [], mv := [21] }
@[reducible] def d_laws_toIntS_3 : SD := ⟨[.data false (.sl .arg (.int .i64)),B,B,.data false (.sl (.own (some 36864)) (.int .i64)),DI,B,B,B,B,B,B,B,B,B,B,B,B,B,B,B,B,B], [Z,Z,Z,Z,Z,Z,Z,Z,Z,Z,Z,Z,Z,Z,Z,Z,Z,Z,Z,Z,Z,Z], .none⟩
noncomputable def t_laws_toIntS_3 {R : Type} (X : SD.D d_laws_toIntS_3) (K : Ex → AS → Option R) := Pu.laws_toIntS_T3 (fun y0 y1 => K (.exit 0) (SD.enc d_laws_toIntS_3 ((X.1.1, (y0, (y1, ()))), (), ()))) X.1.1
noncomputable def l_laws_toIntS_3 : LEnt := ⟨d_laws_toIntS_3, fun X K => iterL (t_laws_toIntS_3 X K) fuel (X.1.2.1, X.1.2.2.1)⟩
noncomputable def L_laws_toIntS : Lam := (Lam.nil).add 3 l_laws_toIntS_3
theorem lok_laws_toIntS_3 : LOk E g_laws_toIntS n_laws_toIntS L_laws_toIntS (loopBody Tryz.f30 0) :=
  lok l_laws_toIntS_3 (by kernel_rfl) fuel fun R X K => (loop_iter (σ := (List Int) × Int) (fun x => SD.enc d_laws_toIntS_3 ((X.1.1, (x.1, (x.2, ()))), (), ())) (t_laws_toIntS_3 X K) (fun m x => by kernel_rfl) fuel (X.1.2.1, X.1.2.2.1)).symm
theorem ok_laws_toIntS : FnOk Tryz.prog 30 e_laws_toIntS := FnOk.of (fnOk (Γ := g_laws_toIntS) (an := n_laws_toIntS) (Λ := L_laws_toIntS) (base) Tryz.func30 (by kernel_rfl) (hF (by kernel_rfl) (cF lok_laws_toIntS_3 nF))) (fun a => by kernel_rfl)
noncomputable def e_laws_toMove : GEnt := entOf [.data true TMove] [(true, (.pair (.sl (.own none) .str) (.pair (.sl (.own none) (.int .i64)) (.int .i64))))] fun a => Pu.laws_toMove a.1
theorem ok_laws_toMove : FnOk Tryz.prog 7 e_laws_toMove := FnOk.of (fnOk (an := { mv := [15] }) (Λ := Lam.nil) (((base).add ok_laws_toMemory).add ok_laws_toIntS) Tryz.func7 (by kernel_rfl) (hF (by kernel_rfl) nF)) (fun a => by kernel_rfl)
noncomputable def e_laws_toMapping : GEnt := entOf [.data true TMapping] [(true, (.pair (.int .i64) (.pair (.int .i64) (.pair (.int .i64) .bool))))] fun a => Pu.laws_toMapping a.1
theorem ok_laws_toMapping : FnOk Tryz.prog 95 e_laws_toMapping := FnOk.of (fnOk (an := {}) (Λ := Lam.nil) (base) Tryz.func95 (by kernel_rfl) (hF (by kernel_rfl) nF)) (fun a => by kernel_rfl)
noncomputable def e_laws_toMappingS : GEnt := entOf [.data false (.sl TMapping)] [(false, (.sl (.own none) TMapping))] fun a => Pu.laws_toMappingS a.1
noncomputable def g_laws_toMappingS : Gam := (Gam.nil).add 95 e_laws_toMapping
def n_laws_toMappingS : An := { mask := fun | 3 => [0, 3, 4] | _ => [], mv := [22] }
@[reducible] def d_laws_toMappingS_3 : SD := ⟨[.data false (.sl .arg TMapping),B,B,.data false (.sl (.own (some 36864)) TMapping),DI,B,B,B,B,B,B,B,B,B,B,B,B,B,B,B,B,B,B], [Z,Z,Z,Z,Z,Z,Z,Z,Z,Z,Z,Z,Z,Z,Z,Z,Z,Z,Z,Z,Z,Z,Z], .none⟩
noncomputable def t_laws_toMappingS_3 {R : Type} (X : SD.D d_laws_toMappingS_3) (K : Ex → AS → Option R) := Pu.laws_toMappingS_T3 (fun y0 y1 => K (.exit 0) (SD.enc d_laws_toMappingS_3 ((X.1.1, (y0, (y1, ()))), (), ()))) X.1.1
noncomputable def l_laws_toMappingS_3 : LEnt := ⟨d_laws_toMappingS_3, fun X K => iterL (t_laws_toMappingS_3 X K) fuel (X.1.2.1, X.1.2.2.1)⟩
noncomputable def L_laws_toMappingS : Lam := (Lam.nil).add 3 l_laws_toMappingS_3
theorem lok_laws_toMappingS_3 : LOk E g_laws_toMappingS n_laws_toMappingS L_laws_toMappingS (loopBody Tryz.f31 0) :=
  lok l_laws_toMappingS_3 (by kernel_rfl) fuel fun R X K => (loop_iter (σ := (List Pu.Mapping) × Int) (fun x => SD.enc d_laws_toMappingS_3 ((X.1.1, (x.1, (x.2, ()))), (), ())) (t_laws_toMappingS_3 X K) (fun m x => by kernel_rfl) fuel (X.1.2.1, X.1.2.2.1)).symm
theorem ok_laws_toMappingS : FnOk Tryz.prog 31 e_laws_toMappingS := FnOk.of (fnOk (Γ := g_laws_toMappingS) (an := n_laws_toMappingS) (Λ := L_laws_toMappingS) ((base).add ok_laws_toMapping) Tryz.func31 (by kernel_rfl) (hF (by kernel_rfl) (cF lok_laws_toMappingS_3 nF))) (fun a => by kernel_rfl)
noncomputable def e_laws_toRing : GEnt := entOf [.data true TRing] [(true, (.pair (.int .i64) (.pair (.int .i64) (.pair (.int .i64) (.int .i64)))))] fun a => Pu.laws_toRing a.1
theorem ok_laws_toRing : FnOk Tryz.prog 96 e_laws_toRing := FnOk.of (fnOk (an := {}) (Λ := Lam.nil) (base) Tryz.func96 (by kernel_rfl) (hF (by kernel_rfl) nF)) (fun a => by kernel_rfl)
noncomputable def e_laws_toPool : GEnt := entOf [.data true TPool] [(true, (.pair (.int .i64) (.pair (.int .i64) (.pair (.int .i64) (.sl (.own none) (.int .i64))))))] fun a => Pu.laws_toPool a.1
theorem ok_laws_toPool : FnOk Tryz.prog 97 e_laws_toPool := FnOk.of (fnOk (an := { mv := [17] }) (Λ := Lam.nil) ((base).add ok_laws_toIntS) Tryz.func97 (by kernel_rfl) (hF (by kernel_rfl) nF)) (fun a => by kernel_rfl)
noncomputable def e_laws_toSent : GEnt := entOf [.data true TSent] [(true, (.pair (.int .i64) (.pair (.int .i64) (.sl (.own none) (.int .i64)))))] fun a => Pu.laws_toSent a.1
theorem ok_laws_toSent : FnOk Tryz.prog 139 e_laws_toSent := FnOk.of (fnOk (an := { mv := [14] }) (Λ := Lam.nil) ((base).add ok_laws_toIntS) Tryz.func139 (by kernel_rfl) (hF (by kernel_rfl) nF)) (fun a => by kernel_rfl)
noncomputable def e_laws_toSentS : GEnt := entOf [.data false (.sl TSent)] [(false, (.sl (.own none) TSent))] fun a => Pu.laws_toSentS a.1
noncomputable def g_laws_toSentS : Gam := (Gam.nil).add 139 e_laws_toSent
def n_laws_toSentS : An := { mask := fun | 3 => [0, 3, 4] | _ => [], mv := [22] }
@[reducible] def d_laws_toSentS_3 : SD := ⟨[.data false (.sl .arg TSent),B,B,.data false (.sl (.own (some 36864)) TSent),DI,B,B,B,B,B,B,B,B,B,B,B,B,B,B,B,B,B,B], [Z,Z,Z,Z,Z,Z,Z,Z,Z,Z,Z,Z,Z,Z,Z,Z,Z,Z,Z,Z,Z,Z,Z], .none⟩
noncomputable def t_laws_toSentS_3 {R : Type} (X : SD.D d_laws_toSentS_3) (K : Ex → AS → Option R) := Pu.laws_toSentS_T3 (fun y0 y1 => K (.exit 0) (SD.enc d_laws_toSentS_3 ((X.1.1, (y0, (y1, ()))), (), ()))) X.1.1
noncomputable def l_laws_toSentS_3 : LEnt := ⟨d_laws_toSentS_3, fun X K => iterL (t_laws_toSentS_3 X K) fuel (X.1.2.1, X.1.2.2.1)⟩
noncomputable def L_laws_toSentS : Lam := (Lam.nil).add 3 l_laws_toSentS_3
theorem lok_laws_toSentS_3 : LOk E g_laws_toSentS n_laws_toSentS L_laws_toSentS (loopBody Tryz.f98 0) :=
  lok l_laws_toSentS_3 (by kernel_rfl) fuel fun R X K => (loop_iter (σ := (List Pu.Sent) × Int) (fun x => SD.enc d_laws_toSentS_3 ((X.1.1, (x.1, (x.2, ()))), (), ())) (t_laws_toSentS_3 X K) (fun m x => by kernel_rfl) fuel (X.1.2.1, X.1.2.2.1)).symm
theorem ok_laws_toSentS : FnOk Tryz.prog 98 e_laws_toSentS := FnOk.of (fnOk (Γ := g_laws_toSentS) (an := n_laws_toSentS) (Λ := L_laws_toSentS) ((base).add ok_laws_toSent) Tryz.func98 (by kernel_rfl) (hF (by kernel_rfl) (cF lok_laws_toSentS_3 nF))) (fun a => by kernel_rfl)
noncomputable def e_laws_toTxQueue : GEnt := entOf [.data true TTxQueue] [(true, (.pair (.pair (.int .i64) (.pair (.int .i64) (.pair (.int .i64) (.int .i64)))) (.pair (.pair (.int .i64) (.pair (.int .i64) (.pair (.int .i64) (.sl (.own none) (.int .i64))))) (.pair (.sl (.own none) TSent) (.int .i64)))))] fun a => Pu.laws_toTxQueue a.1
theorem ok_laws_toTxQueue : FnOk Tryz.prog 32 e_laws_toTxQueue := FnOk.of (fnOk (an := { mv := [19] }) (Λ := Lam.nil) ((((base).add ok_laws_toRing).add ok_laws_toPool).add ok_laws_toSentS) Tryz.func32 (by kernel_rfl) (hF (by kernel_rfl) nF)) (fun a => by kernel_rfl)
noncomputable def e_laws_toCompletionQueue : GEnt := entOf [.data true TCompletionQueue] [(true, (.pair (.int .i64) (.pair (.int .i64) (.int .i64))))] fun a => Pu.laws_toCompletionQueue a.1
theorem ok_laws_toCompletionQueue : FnOk Tryz.prog 140 e_laws_toCompletionQueue := FnOk.of (fnOk (an := {}) (Λ := Lam.nil) (base) Tryz.func140 (by kernel_rfl) (hF (by kernel_rfl) nF)) (fun a => by kernel_rfl)
noncomputable def e_laws_toSegment : GEnt := entOf [.data true TSegment] [(true, (.pair (.int .i64) (.pair (.int .i64) (.pair (.int .i64) (.pair (.int .i64) (.pair (.int .i64) (.pair (.int .i64) (.pair (.int .i64) .str))))))))] fun a => Pu.laws_toSegment a.1
theorem ok_laws_toSegment : FnOk Tryz.prog 162 e_laws_toSegment := FnOk.of (fnOk (an := {}) (Λ := Lam.nil) (base) Tryz.func162 (by kernel_rfl) (hF (by kernel_rfl) nF)) (fun a => by kernel_rfl)
noncomputable def e_laws_toPacket : GEnt := entOf [.data true TPacket] [(true, (.pair (.int .i64) (.pair (.int .i64) (.pair (.int .i64) (.pair (.int .i64) (.pair (.int .i64) (.pair (.int .i64) (.pair (.int .i64) (.pair (.int .i64) (.pair (.int .i64) (.pair (.int .i64) (.pair (.int .i64) (.pair (.int .i64) (.pair (.int .i64) (.pair (.int .i64) (.pair (.int .i64) .str))))))))))))))))] fun a => Pu.laws_toPacket a.1
theorem ok_laws_toPacket : FnOk Tryz.prog 157 e_laws_toPacket := FnOk.of (fnOk (an := {}) (Λ := Lam.nil) ((base).add ok_laws_toSegment) Tryz.func157 (by kernel_rfl) (hF (by kernel_rfl) nF)) (fun a => by kernel_rfl)
noncomputable def e_laws_toSuper : GEnt := entOf [.data true TSuper] [(true, (.pair (.pair (.int .i64) (.pair (.int .i64) (.pair (.int .i64) (.pair (.int .i64) (.pair (.int .i64) (.pair (.int .i64) (.pair (.int .i64) (.pair (.int .i64) (.pair (.int .i64) (.pair (.int .i64) (.pair (.int .i64) (.pair (.int .i64) (.pair (.int .i64) (.pair (.int .i64) (.pair (.int .i64) .str))))))))))))))) (.pair (.int .i64) (.int .i64))))] fun a => Pu.laws_toSuper a.1
theorem ok_laws_toSuper : FnOk Tryz.prog 141 e_laws_toSuper := FnOk.of (fnOk (an := {}) (Λ := Lam.nil) ((base).add ok_laws_toPacket) Tryz.func141 (by kernel_rfl) (hF (by kernel_rfl) nF)) (fun a => by kernel_rfl)
noncomputable def e_laws_toRxQueue : GEnt := entOf [.data true TRxQueue] [(true, (.pair (.pair (.int .i64) (.pair (.int .i64) (.pair (.int .i64) (.int .i64)))) (.pair (.pair (.int .i64) (.pair (.int .i64) (.int .i64))) (.pair (.pair (.int .i64) (.pair (.int .i64) (.int .i64))) (.pair (.pair (.pair (.int .i64) (.pair (.int .i64) (.pair (.int .i64) (.pair (.int .i64) (.pair (.int .i64) (.pair (.int .i64) (.pair (.int .i64) (.pair (.int .i64) (.pair (.int .i64) (.pair (.int .i64) (.pair (.int .i64) (.pair (.int .i64) (.pair (.int .i64) (.pair (.int .i64) (.pair (.int .i64) .str))))))))))))))) (.pair (.int .i64) (.int .i64))) (.pair .bool (.int .i64)))))))] fun a => Pu.laws_toRxQueue a.1
theorem ok_laws_toRxQueue : FnOk Tryz.prog 99 e_laws_toRxQueue := FnOk.of (fnOk (an := {}) (Λ := Lam.nil) ((((base).add ok_laws_toRing).add ok_laws_toCompletionQueue).add ok_laws_toSuper) Tryz.func99 (by kernel_rfl) (hF (by kernel_rfl) nF)) (fun a => by kernel_rfl)
noncomputable def e_laws_toRxQueueS : GEnt := entOf [.data false (.sl TRxQueue)] [(false, (.sl (.own none) TRxQueue))] fun a => Pu.laws_toRxQueueS a.1
noncomputable def g_laws_toRxQueueS : Gam := (Gam.nil).add 99 e_laws_toRxQueue
def n_laws_toRxQueueS : An := { mask := fun | 3 => [0, 3, 4] | _ => [], mv := [22] }
@[reducible] def d_laws_toRxQueueS_3 : SD := ⟨[.data false (.sl .arg TRxQueue),B,B,.data false (.sl (.own (some 36864)) TRxQueue),DI,B,B,B,B,B,B,B,B,B,B,B,B,B,B,B,B,B,B], [Z,Z,Z,Z,Z,Z,Z,Z,Z,Z,Z,Z,Z,Z,Z,Z,Z,Z,Z,Z,Z,Z,Z], .none⟩
noncomputable def t_laws_toRxQueueS_3 {R : Type} (X : SD.D d_laws_toRxQueueS_3) (K : Ex → AS → Option R) := Pu.laws_toRxQueueS_T3 (fun y0 y1 => K (.exit 0) (SD.enc d_laws_toRxQueueS_3 ((X.1.1, (y0, (y1, ()))), (), ()))) X.1.1
noncomputable def l_laws_toRxQueueS_3 : LEnt := ⟨d_laws_toRxQueueS_3, fun X K => iterL (t_laws_toRxQueueS_3 X K) fuel (X.1.2.1, X.1.2.2.1)⟩
noncomputable def L_laws_toRxQueueS : Lam := (Lam.nil).add 3 l_laws_toRxQueueS_3
theorem lok_laws_toRxQueueS_3 : LOk E g_laws_toRxQueueS n_laws_toRxQueueS L_laws_toRxQueueS (loopBody Tryz.f33 0) :=
  lok l_laws_toRxQueueS_3 (by kernel_rfl) fuel fun R X K => (loop_iter (σ := (List Pu.RxQueue) × Int) (fun x => SD.enc d_laws_toRxQueueS_3 ((X.1.1, (x.1, (x.2, ()))), (), ())) (t_laws_toRxQueueS_3 X K) (fun m x => by kernel_rfl) fuel (X.1.2.1, X.1.2.2.1)).symm
theorem ok_laws_toRxQueueS : FnOk Tryz.prog 33 e_laws_toRxQueueS := FnOk.of (fnOk (Γ := g_laws_toRxQueueS) (an := n_laws_toRxQueueS) (Λ := L_laws_toRxQueueS) ((base).add ok_laws_toRxQueue) Tryz.func33 (by kernel_rfl) (hF (by kernel_rfl) (cF lok_laws_toRxQueueS_3 nF))) (fun a => by kernel_rfl)
noncomputable def e_laws_toPoolS : GEnt := entOf [.data false (.sl TPool)] [(false, (.sl (.own none) TPool))] fun a => Pu.laws_toPoolS a.1
noncomputable def g_laws_toPoolS : Gam := (Gam.nil).add 97 e_laws_toPool
def n_laws_toPoolS : An := { mask := fun | 3 => [0, 3, 4] | _ => [], mv := [22] }
@[reducible] def d_laws_toPoolS_3 : SD := ⟨[.data false (.sl .arg TPool),B,B,.data false (.sl (.own (some 36864)) TPool),DI,B,B,B,B,B,B,B,B,B,B,B,B,B,B,B,B,B,B], [Z,Z,Z,Z,Z,Z,Z,Z,Z,Z,Z,Z,Z,Z,Z,Z,Z,Z,Z,Z,Z,Z,Z], .none⟩
noncomputable def t_laws_toPoolS_3 {R : Type} (X : SD.D d_laws_toPoolS_3) (K : Ex → AS → Option R) := Pu.laws_toPoolS_T3 (fun y0 y1 => K (.exit 0) (SD.enc d_laws_toPoolS_3 ((X.1.1, (y0, (y1, ()))), (), ()))) X.1.1
noncomputable def l_laws_toPoolS_3 : LEnt := ⟨d_laws_toPoolS_3, fun X K => iterL (t_laws_toPoolS_3 X K) fuel (X.1.2.1, X.1.2.2.1)⟩
noncomputable def L_laws_toPoolS : Lam := (Lam.nil).add 3 l_laws_toPoolS_3
theorem lok_laws_toPoolS_3 : LOk E g_laws_toPoolS n_laws_toPoolS L_laws_toPoolS (loopBody Tryz.f34 0) :=
  lok l_laws_toPoolS_3 (by kernel_rfl) fuel fun R X K => (loop_iter (σ := (List Pu.Pool) × Int) (fun x => SD.enc d_laws_toPoolS_3 ((X.1.1, (x.1, (x.2, ()))), (), ())) (t_laws_toPoolS_3 X K) (fun m x => by kernel_rfl) fuel (X.1.2.1, X.1.2.2.1)).symm
theorem ok_laws_toPoolS : FnOk Tryz.prog 34 e_laws_toPoolS := FnOk.of (fnOk (Γ := g_laws_toPoolS) (an := n_laws_toPoolS) (Λ := L_laws_toPoolS) ((base).add ok_laws_toPool) Tryz.func34 (by kernel_rfl) (hF (by kernel_rfl) (cF lok_laws_toPoolS_3 nF))) (fun a => by kernel_rfl)
noncomputable def e_laws_toVector : GEnt := entOf [.data true TVector] [(true, (.pair (.int .i64) (.pair (.int .i64) (.pair (.int .i64) (.pair (.int .i64) (.pair .bool .bool))))))] fun a => Pu.laws_toVector a.1
theorem ok_laws_toVector : FnOk Tryz.prog 100 e_laws_toVector := FnOk.of (fnOk (an := {}) (Λ := Lam.nil) (base) Tryz.func100 (by kernel_rfl) (hF (by kernel_rfl) nF)) (fun a => by kernel_rfl)
noncomputable def e_laws_toVectorS : GEnt := entOf [.data false (.sl TVector)] [(false, (.sl (.own none) TVector))] fun a => Pu.laws_toVectorS a.1
noncomputable def g_laws_toVectorS : Gam := (Gam.nil).add 100 e_laws_toVector
def n_laws_toVectorS : An := { mask := fun | 3 => [0, 3, 4] | _ => [], mv := [22] }
@[reducible] def d_laws_toVectorS_3 : SD := ⟨[.data false (.sl .arg TVector),B,B,.data false (.sl (.own (some 36864)) TVector),DI,B,B,B,B,B,B,B,B,B,B,B,B,B,B,B,B,B,B], [Z,Z,Z,Z,Z,Z,Z,Z,Z,Z,Z,Z,Z,Z,Z,Z,Z,Z,Z,Z,Z,Z,Z], .none⟩
noncomputable def t_laws_toVectorS_3 {R : Type} (X : SD.D d_laws_toVectorS_3) (K : Ex → AS → Option R) := Pu.laws_toVectorS_T3 (fun y0 y1 => K (.exit 0) (SD.enc d_laws_toVectorS_3 ((X.1.1, (y0, (y1, ()))), (), ()))) X.1.1
noncomputable def l_laws_toVectorS_3 : LEnt := ⟨d_laws_toVectorS_3, fun X K => iterL (t_laws_toVectorS_3 X K) fuel (X.1.2.1, X.1.2.2.1)⟩
noncomputable def L_laws_toVectorS : Lam := (Lam.nil).add 3 l_laws_toVectorS_3
theorem lok_laws_toVectorS_3 : LOk E g_laws_toVectorS n_laws_toVectorS L_laws_toVectorS (loopBody Tryz.f35 0) :=
  lok l_laws_toVectorS_3 (by kernel_rfl) fuel fun R X K => (loop_iter (σ := (List Pu.Vector) × Int) (fun x => SD.enc d_laws_toVectorS_3 ((X.1.1, (x.1, (x.2, ()))), (), ())) (t_laws_toVectorS_3 X K) (fun m x => by kernel_rfl) fuel (X.1.2.1, X.1.2.2.1)).symm
theorem ok_laws_toVectorS : FnOk Tryz.prog 35 e_laws_toVectorS := FnOk.of (fnOk (Γ := g_laws_toVectorS) (an := n_laws_toVectorS) (Λ := L_laws_toVectorS) ((base).add ok_laws_toVector) Tryz.func35 (by kernel_rfl) (hF (by kernel_rfl) (cF lok_laws_toVectorS_3 nF))) (fun a => by kernel_rfl)
noncomputable def e_laws_toBoolS : GEnt := entOf [.data false (.sl .bool)] [(false, (.sl (.own none) .bool))] fun a => Pu.laws_toBoolS a.1
noncomputable def g_laws_toBoolS : Gam := Gam.nil
def n_laws_toBoolS : An := { mask := fun | 3 => [0, 3, 4] | _ => [], mv := [21] }
@[reducible] def d_laws_toBoolS_3 : SD := ⟨[.data false (.sl .arg .bool),B,B,.data false (.sl (.own (some 36864)) .bool),DI,B,B,B,B,B,B,B,B,B,B,B,B,B,B,B,B,B], [Z,Z,Z,Z,Z,Z,Z,Z,Z,Z,Z,Z,Z,Z,Z,Z,Z,Z,Z,Z,Z,Z], .none⟩
noncomputable def t_laws_toBoolS_3 {R : Type} (X : SD.D d_laws_toBoolS_3) (K : Ex → AS → Option R) := Pu.laws_toBoolS_T3 (fun y0 y1 => K (.exit 0) (SD.enc d_laws_toBoolS_3 ((X.1.1, (y0, (y1, ()))), (), ()))) X.1.1
noncomputable def l_laws_toBoolS_3 : LEnt := ⟨d_laws_toBoolS_3, fun X K => iterL (t_laws_toBoolS_3 X K) fuel (X.1.2.1, X.1.2.2.1)⟩
noncomputable def L_laws_toBoolS : Lam := (Lam.nil).add 3 l_laws_toBoolS_3
theorem lok_laws_toBoolS_3 : LOk E g_laws_toBoolS n_laws_toBoolS L_laws_toBoolS (loopBody Tryz.f36 0) :=
  lok l_laws_toBoolS_3 (by kernel_rfl) fuel fun R X K => (loop_iter (σ := (List Bool) × Int) (fun x => SD.enc d_laws_toBoolS_3 ((X.1.1, (x.1, (x.2, ()))), (), ())) (t_laws_toBoolS_3 X K) (fun m x => by kernel_rfl) fuel (X.1.2.1, X.1.2.2.1)).symm
theorem ok_laws_toBoolS : FnOk Tryz.prog 36 e_laws_toBoolS := FnOk.of (fnOk (Γ := g_laws_toBoolS) (an := n_laws_toBoolS) (Λ := L_laws_toBoolS) (base) Tryz.func36 (by kernel_rfl) (hF (by kernel_rfl) (cF lok_laws_toBoolS_3 nF))) (fun a => by kernel_rfl)
noncomputable def e_laws_toFilter : GEnt := entOf [.data true TFilter] [(true, (.pair (.int .i64) (.pair .bool (.sl (.own none) (.int .i64)))))] fun a => Pu.laws_toFilter a.1
theorem ok_laws_toFilter : FnOk Tryz.prog 37 e_laws_toFilter := FnOk.of (fnOk (an := { mv := [14] }) (Λ := Lam.nil) ((base).add ok_laws_toIntS) Tryz.func37 (by kernel_rfl) (hF (by kernel_rfl) nF)) (fun a => by kernel_rfl)
noncomputable def e_laws_toRule : GEnt := entOf [.data true TRule] [(true, (.pair (.int .i64) (.pair (.int .i64) (.pair (.int .i64) (.pair (.int .i64) (.pair (.int .i64) (.pair (.int .i64) (.pair (.int .i64) (.pair (.int .i64) (.int .i64))))))))))] fun a => Pu.laws_toRule a.1
theorem ok_laws_toRule : FnOk Tryz.prog 142 e_laws_toRule := FnOk.of (fnOk (an := {}) (Λ := Lam.nil) (base) Tryz.func142 (by kernel_rfl) (hF (by kernel_rfl) nF)) (fun a => by kernel_rfl)
noncomputable def e_laws_toRuleS : GEnt := entOf [.data false (.sl TRule)] [(false, (.sl (.own none) TRule))] fun a => Pu.laws_toRuleS a.1
noncomputable def g_laws_toRuleS : Gam := (Gam.nil).add 142 e_laws_toRule
def n_laws_toRuleS : An := { mask := fun | 3 => [0, 3, 4] | _ => [], mv := [22] }
@[reducible] def d_laws_toRuleS_3 : SD := ⟨[.data false (.sl .arg TRule),B,B,.data false (.sl (.own (some 36864)) TRule),DI,B,B,B,B,B,B,B,B,B,B,B,B,B,B,B,B,B,B], [Z,Z,Z,Z,Z,Z,Z,Z,Z,Z,Z,Z,Z,Z,Z,Z,Z,Z,Z,Z,Z,Z,Z], .none⟩
noncomputable def t_laws_toRuleS_3 {R : Type} (X : SD.D d_laws_toRuleS_3) (K : Ex → AS → Option R) := Pu.laws_toRuleS_T3 (fun y0 y1 => K (.exit 0) (SD.enc d_laws_toRuleS_3 ((X.1.1, (y0, (y1, ()))), (), ()))) X.1.1
noncomputable def l_laws_toRuleS_3 : LEnt := ⟨d_laws_toRuleS_3, fun X K => iterL (t_laws_toRuleS_3 X K) fuel (X.1.2.1, X.1.2.2.1)⟩
noncomputable def L_laws_toRuleS : Lam := (Lam.nil).add 3 l_laws_toRuleS_3
theorem lok_laws_toRuleS_3 : LOk E g_laws_toRuleS n_laws_toRuleS L_laws_toRuleS (loopBody Tryz.f101 0) :=
  lok l_laws_toRuleS_3 (by kernel_rfl) fuel fun R X K => (loop_iter (σ := (List Pu.Rule) × Int) (fun x => SD.enc d_laws_toRuleS_3 ((X.1.1, (x.1, (x.2, ()))), (), ())) (t_laws_toRuleS_3 X K) (fun m x => by kernel_rfl) fuel (X.1.2.1, X.1.2.2.1)).symm
theorem ok_laws_toRuleS : FnOk Tryz.prog 101 e_laws_toRuleS := FnOk.of (fnOk (Γ := g_laws_toRuleS) (an := n_laws_toRuleS) (Λ := L_laws_toRuleS) ((base).add ok_laws_toRule) Tryz.func101 (by kernel_rfl) (hF (by kernel_rfl) (cF lok_laws_toRuleS_3 nF))) (fun a => by kernel_rfl)
noncomputable def e_laws_toFlow : GEnt := entOf [.data true TFlow] [(true, (.pair (.int .i64) (.pair (.int .i64) (.pair (.int .i64) (.pair (.int .i64) (.int .i64))))))] fun a => Pu.laws_toFlow a.1
theorem ok_laws_toFlow : FnOk Tryz.prog 144 e_laws_toFlow := FnOk.of (fnOk (an := {}) (Λ := Lam.nil) (base) Tryz.func144 (by kernel_rfl) (hF (by kernel_rfl) nF)) (fun a => by kernel_rfl)
noncomputable def e_laws_toSlot : GEnt := entOf [.data true TSlot] [(true, (.pair (.int .i64) (.pair (.pair (.int .i64) (.pair (.int .i64) (.pair (.int .i64) (.pair (.int .i64) (.int .i64))))) (.int .i64))))] fun a => Pu.laws_toSlot a.1
theorem ok_laws_toSlot : FnOk Tryz.prog 158 e_laws_toSlot := FnOk.of (fnOk (an := {}) (Λ := Lam.nil) ((base).add ok_laws_toFlow) Tryz.func158 (by kernel_rfl) (hF (by kernel_rfl) nF)) (fun a => by kernel_rfl)
noncomputable def e_laws_toSlotS : GEnt := entOf [.data false (.sl TSlot)] [(false, (.sl (.own none) TSlot))] fun a => Pu.laws_toSlotS a.1
noncomputable def g_laws_toSlotS : Gam := (Gam.nil).add 158 e_laws_toSlot
def n_laws_toSlotS : An := { mask := fun | 3 => [0, 3, 4] | _ => [], mv := [22] }
@[reducible] def d_laws_toSlotS_3 : SD := ⟨[.data false (.sl .arg TSlot),B,B,.data false (.sl (.own (some 36864)) TSlot),DI,B,B,B,B,B,B,B,B,B,B,B,B,B,B,B,B,B,B], [Z,Z,Z,Z,Z,Z,Z,Z,Z,Z,Z,Z,Z,Z,Z,Z,Z,Z,Z,Z,Z,Z,Z], .none⟩
noncomputable def t_laws_toSlotS_3 {R : Type} (X : SD.D d_laws_toSlotS_3) (K : Ex → AS → Option R) := Pu.laws_toSlotS_T3 (fun y0 y1 => K (.exit 0) (SD.enc d_laws_toSlotS_3 ((X.1.1, (y0, (y1, ()))), (), ()))) X.1.1
noncomputable def l_laws_toSlotS_3 : LEnt := ⟨d_laws_toSlotS_3, fun X K => iterL (t_laws_toSlotS_3 X K) fuel (X.1.2.1, X.1.2.2.1)⟩
noncomputable def L_laws_toSlotS : Lam := (Lam.nil).add 3 l_laws_toSlotS_3
theorem lok_laws_toSlotS_3 : LOk E g_laws_toSlotS n_laws_toSlotS L_laws_toSlotS (loopBody Tryz.f143 0) :=
  lok l_laws_toSlotS_3 (by kernel_rfl) fuel fun R X K => (loop_iter (σ := (List Pu.Slot) × Int) (fun x => SD.enc d_laws_toSlotS_3 ((X.1.1, (x.1, (x.2, ()))), (), ())) (t_laws_toSlotS_3 X K) (fun m x => by kernel_rfl) fuel (X.1.2.1, X.1.2.2.1)).symm
theorem ok_laws_toSlotS : FnOk Tryz.prog 143 e_laws_toSlotS := FnOk.of (fnOk (Γ := g_laws_toSlotS) (an := n_laws_toSlotS) (Λ := L_laws_toSlotS) ((base).add ok_laws_toSlot) Tryz.func143 (by kernel_rfl) (hF (by kernel_rfl) (cF lok_laws_toSlotS_3 nF))) (fun a => by kernel_rfl)
noncomputable def e_laws_toFlowTable : GEnt := entOf [.data true (.sl TSlot)] [(true, (.sl (.own none) TSlot))] fun a => Pu.laws_toFlowTable a.1
theorem ok_laws_toFlowTable : FnOk Tryz.prog 102 e_laws_toFlowTable := FnOk.of (fnOk (an := { mv := [8] }) (Λ := Lam.nil) ((base).add ok_laws_toSlotS) Tryz.func102 (by kernel_rfl) (hF (by kernel_rfl) nF)) (fun a => by kernel_rfl)
noncomputable def e_laws_toSpread : GEnt := entOf [.data true TSpread] [(true, (.pair .str (.sl (.own none) (.int .i64))))] fun a => Pu.laws_toSpread a.1
theorem ok_laws_toSpread : FnOk Tryz.prog 103 e_laws_toSpread := FnOk.of (fnOk (an := { mv := [11] }) (Λ := Lam.nil) ((base).add ok_laws_toIntS) Tryz.func103 (by kernel_rfl) (hF (by kernel_rfl) nF)) (fun a => by kernel_rfl)
noncomputable def e_laws_toSteering : GEnt := entOf [.data true TSteering] [(true, (.pair (.sl (.own none) TRule) (.pair (.sl (.own none) TSlot) (.pair .str (.sl (.own none) (.int .i64))))))] fun a => Pu.laws_toSteering a.1
theorem ok_laws_toSteering : FnOk Tryz.prog 38 e_laws_toSteering := FnOk.of (fnOk (an := { mv := [16] }) (Λ := Lam.nil) ((((base).add ok_laws_toRuleS).add ok_laws_toFlowTable).add ok_laws_toSpread) Tryz.func38 (by kernel_rfl) (hF (by kernel_rfl) nF)) (fun a => by kernel_rfl)
noncomputable def e_laws_toStream : GEnt := entOf [.data true TStream] [(true, (.pair (.pair (.int .i64) (.pair (.int .i64) (.pair (.int .i64) (.pair (.int .i64) (.int .i64))))) (.pair (.int .i64) (.pair .str .bool))))] fun a => Pu.laws_toStream a.1
theorem ok_laws_toStream : FnOk Tryz.prog 104 e_laws_toStream := FnOk.of (fnOk (an := {}) (Λ := Lam.nil) ((base).add ok_laws_toFlow) Tryz.func104 (by kernel_rfl) (hF (by kernel_rfl) nF)) (fun a => by kernel_rfl)
noncomputable def e_laws_toStreamS : GEnt := entOf [.data false (.sl TStream)] [(false, (.sl (.own none) TStream))] fun a => Pu.laws_toStreamS a.1
noncomputable def g_laws_toStreamS : Gam := (Gam.nil).add 104 e_laws_toStream
def n_laws_toStreamS : An := { mask := fun | 3 => [0, 3, 4] | _ => [], mv := [22] }
@[reducible] def d_laws_toStreamS_3 : SD := ⟨[.data false (.sl .arg TStream),B,B,.data false (.sl (.own (some 36864)) TStream),DI,B,B,B,B,B,B,B,B,B,B,B,B,B,B,B,B,B,B], [Z,Z,Z,Z,Z,Z,Z,Z,Z,Z,Z,Z,Z,Z,Z,Z,Z,Z,Z,Z,Z,Z,Z], .none⟩
noncomputable def t_laws_toStreamS_3 {R : Type} (X : SD.D d_laws_toStreamS_3) (K : Ex → AS → Option R) := Pu.laws_toStreamS_T3 (fun y0 y1 => K (.exit 0) (SD.enc d_laws_toStreamS_3 ((X.1.1, (y0, (y1, ()))), (), ()))) X.1.1
noncomputable def l_laws_toStreamS_3 : LEnt := ⟨d_laws_toStreamS_3, fun X K => iterL (t_laws_toStreamS_3 X K) fuel (X.1.2.1, X.1.2.2.1)⟩
noncomputable def L_laws_toStreamS : Lam := (Lam.nil).add 3 l_laws_toStreamS_3
theorem lok_laws_toStreamS_3 : LOk E g_laws_toStreamS n_laws_toStreamS L_laws_toStreamS (loopBody Tryz.f39 0) :=
  lok l_laws_toStreamS_3 (by kernel_rfl) fuel fun R X K => (loop_iter (σ := (List Pu.Stream) × Int) (fun x => SD.enc d_laws_toStreamS_3 ((X.1.1, (x.1, (x.2, ()))), (), ())) (t_laws_toStreamS_3 X K) (fun m x => by kernel_rfl) fuel (X.1.2.1, X.1.2.2.1)).symm
theorem ok_laws_toStreamS : FnOk Tryz.prog 39 e_laws_toStreamS := FnOk.of (fnOk (Γ := g_laws_toStreamS) (an := n_laws_toStreamS) (Λ := L_laws_toStreamS) ((base).add ok_laws_toStream) Tryz.func39 (by kernel_rfl) (hF (by kernel_rfl) (cF lok_laws_toStreamS_3 nF))) (fun a => by kernel_rfl)
noncomputable def e_laws_toCounters : GEnt := entOf [.data true TFlow] [(true, (.pair (.int .i64) (.pair (.int .i64) (.pair (.int .i64) (.pair (.int .i64) (.int .i64))))))] fun a => Pu.laws_toCounters a.1
theorem ok_laws_toCounters : FnOk Tryz.prog 41 e_laws_toCounters := FnOk.of (fnOk (an := {}) (Λ := Lam.nil) (base) Tryz.func41 (by kernel_rfl) (hF (by kernel_rfl) nF)) (fun a => by kernel_rfl)
noncomputable def e_laws_toHost : GEnt := entOf [.data true THost] [(true, (.pair (.sl (.own none) .str) (.pair (.sl (.own none) TMapping) (.pair (.pair (.pair (.int .i64) (.pair (.int .i64) (.pair (.int .i64) (.int .i64)))) (.pair (.pair (.int .i64) (.pair (.int .i64) (.pair (.int .i64) (.sl (.own none) (.int .i64))))) (.pair (.sl (.own none) TSent) (.int .i64)))) (.pair (.sl (.own none) TRxQueue) (.pair (.sl (.own none) TPool) (.pair (.sl (.own none) TVector) (.pair (.sl (.own none) .bool) (.pair (.pair (.int .i64) (.pair .bool (.sl (.own none) (.int .i64)))) (.pair (.pair (.sl (.own none) TRule) (.pair (.sl (.own none) TSlot) (.pair .str (.sl (.own none) (.int .i64))))) (.pair (.sl (.own none) TStream) (.pair .bool (.pair (.sl (.own none) .str) (.pair (.sl (.own none) (.int .i64)) (.pair (.sl (.own none) (.int .i64)) (.pair (.int .i64) (.pair (.int .i64) (.pair (.int .i64) (.pair (.int .i64) (.int .i64))))))))))))))))))))] fun a => Pu.laws_toHost a.1
theorem ok_laws_toHost : FnOk Tryz.prog 8 e_laws_toHost := FnOk.of (fnOk (an := { mv := [63] }) (Λ := Lam.nil) ((((((((((((((base).add ok_laws_toMemory).add ok_laws_toIntS).add ok_laws_toMappingS).add ok_laws_toTxQueue).add ok_laws_toRxQueueS).add ok_laws_toPoolS).add ok_laws_toVectorS).add ok_laws_toBoolS).add ok_laws_toFilter).add ok_laws_toSteering).add ok_laws_toStreamS).add ok_laws_toStringS).add ok_laws_toCounters) Tryz.func8 (by kernel_rfl) (hF (by kernel_rfl) nF)) (fun a => by kernel_rfl)
noncomputable def e_impl_copyStrings : GEnt := entOf [.data false (.sl .str)] [(false, (.sl (.own none) .str))] fun a => Pu.impl_copyStrings a.1
theorem ok_impl_copyStrings : FnOk Tryz.prog 112 e_impl_copyStrings := FnOk.of (fnOk (an := {}) (Λ := Lam.nil) (base) Tryz.func112 (by kernel_rfl) (hF (by kernel_rfl) nF)) (fun a => by kernel_rfl)
noncomputable def e_impl_copyMemory : GEnt := entOf [.data true (.sl .str)] [(true, (.sl (.own none) .str))] fun a => Pu.impl_copyMemory a.1
theorem ok_impl_copyMemory : FnOk Tryz.prog 105 e_impl_copyMemory := FnOk.of (fnOk (an := {}) (Λ := Lam.nil) ((base).add ok_impl_copyStrings) Tryz.func105 (by kernel_rfl) (hF (by kernel_rfl) nF)) (fun a => by kernel_rfl)
noncomputable def e_impl_copyMappings : GEnt := entOf [.data false (.sl TMapping)] [(false, (.sl (.own none) TMapping))] fun a => Pu.impl_copyMappings a.1
theorem ok_impl_copyMappings : FnOk Tryz.prog 106 e_impl_copyMappings := FnOk.of (fnOk (an := {}) (Λ := Lam.nil) (base) Tryz.func106 (by kernel_rfl) (hF (by kernel_rfl) nF)) (fun a => by kernel_rfl)
noncomputable def e_impl_copyInts : GEnt := entOf [.data false (.sl (.int .i64))] [(false, (.sl (.own none) (.int .i64)))] fun a => Pu.impl_copyInts a.1
theorem ok_impl_copyInts : FnOk Tryz.prog 113 e_impl_copyInts := FnOk.of (fnOk (an := {}) (Λ := Lam.nil) (base) Tryz.func113 (by kernel_rfl) (hF (by kernel_rfl) nF)) (fun a => by kernel_rfl)
noncomputable def e_impl_copyPool : GEnt := entOf [.data true TPool] [(true, (.pair (.int .i64) (.pair (.int .i64) (.pair (.int .i64) (.sl (.own none) (.int .i64))))))] fun a => Pu.impl_copyPool a.1
theorem ok_impl_copyPool : FnOk Tryz.prog 108 e_impl_copyPool := FnOk.of (fnOk (an := { mv := [7] }) (Λ := Lam.nil) ((base).add ok_impl_copyInts) Tryz.func108 (by kernel_rfl) (hF (by kernel_rfl) nF)) (fun a => by kernel_rfl)
noncomputable def e_impl_copySent : GEnt := entOf [.data false (.sl TSent)] [(false, (.sl (.own none) TSent))] fun a => Pu.impl_copySent a.1
noncomputable def g_impl_copySent : Gam := (Gam.nil).add 113 e_impl_copyInts
def n_impl_copySent : An := { mask := fun | 3 => [3, 7, 8, 9] | _ => [], mv := [13, 25] }
@[reducible] def d_impl_copySent_3 : SD := ⟨[B,B,B,.data false (.sl (.own (some 36864)) TSent),B,B,B,.data false (.sl .arg TSent),DI,DI,B,B,B,B,B,B,B,B,B,B,B,B,B,B,B,B], [Z,Z,Z,Z,Z,Z,Z,Z,Z,Z,Z,Z,Z,Z,Z,Z,Z,Z,Z,Z,Z,Z,Z,Z,Z,Z], .none⟩
noncomputable def t_impl_copySent_3 {R : Type} (X : SD.D d_impl_copySent_3) (K : Ex → AS → Option R) := Pu.impl_copySent_T3 (fun y0 y1 => K (.exit 0) (SD.enc d_impl_copySent_3 ((y0, (X.1.2.1, (X.1.2.2.1, (y1, ())))), (), ()))) X.1.2.1 X.1.2.2.1
noncomputable def l_impl_copySent_3 : LEnt := ⟨d_impl_copySent_3, fun X K => iterL (t_impl_copySent_3 X K) fuel (X.1.1, X.1.2.2.2.1)⟩
noncomputable def L_impl_copySent : Lam := (Lam.nil).add 3 l_impl_copySent_3
theorem lok_impl_copySent_3 : LOk E g_impl_copySent n_impl_copySent L_impl_copySent (loopBody Tryz.f145 0) :=
  lok l_impl_copySent_3 (by kernel_rfl) fuel fun R X K => (loop_iter (σ := (List Pu.Sent) × Int) (fun x => SD.enc d_impl_copySent_3 ((x.1, (X.1.2.1, (X.1.2.2.1, (x.2, ())))), (), ())) (t_impl_copySent_3 X K) (fun m x => by kernel_rfl) fuel (X.1.1, X.1.2.2.2.1)).symm
theorem ok_impl_copySent : FnOk Tryz.prog 145 e_impl_copySent := FnOk.of (fnOk (Γ := g_impl_copySent) (an := n_impl_copySent) (Λ := L_impl_copySent) ((base).add ok_impl_copyInts) Tryz.func145 (by kernel_rfl) (hF (by kernel_rfl) (cF lok_impl_copySent_3 nF))) (fun a => by kernel_rfl)
noncomputable def e_impl_copyTx : GEnt := entOf [.data true TTxQueue] [(true, (.pair (.pair (.int .i64) (.pair (.int .i64) (.pair (.int .i64) (.int .i64)))) (.pair (.pair (.int .i64) (.pair (.int .i64) (.pair (.int .i64) (.sl (.own none) (.int .i64))))) (.pair (.sl (.own none) TSent) (.int .i64)))))] fun a => Pu.impl_copyTx a.1
theorem ok_impl_copyTx : FnOk Tryz.prog 107 e_impl_copyTx := FnOk.of (fnOk (an := { sb := fun | 2 => some 2 | _ => none }) (Λ := Lam.nil) (((base).add ok_impl_copyPool).add ok_impl_copySent) Tryz.func107 (by kernel_rfl) (hF (by kernel_rfl) nF)) (fun a => by kernel_rfl)
noncomputable def e_impl_copyFilter : GEnt := entOf [.data true TFilter] [(true, (.pair (.int .i64) (.pair .bool (.sl (.own none) (.int .i64)))))] fun a => Pu.impl_copyFilter a.1
theorem ok_impl_copyFilter : FnOk Tryz.prog 109 e_impl_copyFilter := FnOk.of (fnOk (an := { mv := [7] }) (Λ := Lam.nil) ((base).add ok_impl_copyInts) Tryz.func109 (by kernel_rfl) (hF (by kernel_rfl) nF)) (fun a => by kernel_rfl)
noncomputable def e_impl_copyTable : GEnt := entOf [.data true (.sl TSlot)] [(true, (.sl (.own none) TSlot))] fun a => Pu.impl_copyTable a.1
theorem ok_impl_copyTable : FnOk Tryz.prog 146 e_impl_copyTable := FnOk.of (fnOk (an := {}) (Λ := Lam.nil) (base) Tryz.func146 (by kernel_rfl) (hF (by kernel_rfl) nF)) (fun a => by kernel_rfl)
noncomputable def e_impl_copySpread : GEnt := entOf [.data true TSpread] [(true, (.pair .str (.sl (.own none) (.int .i64))))] fun a => Pu.impl_copySpread a.1
theorem ok_impl_copySpread : FnOk Tryz.prog 147 e_impl_copySpread := FnOk.of (fnOk (an := { sb := fun | 2 => some 2 | _ => none }) (Λ := Lam.nil) ((base).add ok_impl_copyInts) Tryz.func147 (by kernel_rfl) (hF (by kernel_rfl) nF)) (fun a => by kernel_rfl)
noncomputable def e_impl_copySteering : GEnt := entOf [.data true TSteering] [(true, (.pair (.sl (.own none) TRule) (.pair (.sl (.own none) TSlot) (.pair .str (.sl (.own none) (.int .i64))))))] fun a => Pu.impl_copySteering a.1
theorem ok_impl_copySteering : FnOk Tryz.prog 110 e_impl_copySteering := FnOk.of (fnOk (an := { sb := fun | 2 => some 2 | _ => none }) (Λ := Lam.nil) (((base).add ok_impl_copyTable).add ok_impl_copySpread) Tryz.func110 (by kernel_rfl) (hF (by kernel_rfl) nF)) (fun a => by kernel_rfl)
noncomputable def e_impl_copyStreams : GEnt := entOf [.data false (.sl TStream)] [(false, (.sl (.own none) TStream))] fun a => Pu.impl_copyStreams a.1
theorem ok_impl_copyStreams : FnOk Tryz.prog 111 e_impl_copyStreams := FnOk.of (fnOk (an := {}) (Λ := Lam.nil) (base) Tryz.func111 (by kernel_rfl) (hF (by kernel_rfl) nF)) (fun a => by kernel_rfl)
noncomputable def e_impl_copyHost : GEnt := entOf [.data true THost] [(true, (.pair (.sl (.own none) .str) (.pair (.sl (.own none) TMapping) (.pair (.pair (.pair (.int .i64) (.pair (.int .i64) (.pair (.int .i64) (.int .i64)))) (.pair (.pair (.int .i64) (.pair (.int .i64) (.pair (.int .i64) (.sl (.own none) (.int .i64))))) (.pair (.sl (.own none) TSent) (.int .i64)))) (.pair (.sl (.own none) TRxQueue) (.pair (.sl (.own none) TPool) (.pair (.sl (.own none) TVector) (.pair (.sl (.own none) .bool) (.pair (.pair (.int .i64) (.pair .bool (.sl (.own none) (.int .i64)))) (.pair (.pair (.sl (.own none) TRule) (.pair (.sl (.own none) TSlot) (.pair .str (.sl (.own none) (.int .i64))))) (.pair (.sl (.own none) TStream) (.pair .bool (.pair (.sl (.own none) .str) (.pair (.sl (.own none) (.int .i64)) (.pair (.sl (.own none) (.int .i64)) (.pair (.int .i64) (.pair (.int .i64) (.pair (.int .i64) (.pair (.int .i64) (.int .i64))))))))))))))))))))] fun a => Pu.impl_copyHost a.1
noncomputable def g_impl_copyHost : Gam := (((((((((Gam.nil).add 105 e_impl_copyMemory).add 106 e_impl_copyMappings).add 107 e_impl_copyTx).add 108 e_impl_copyPool).add 109 e_impl_copyFilter).add 110 e_impl_copySteering).add 111 e_impl_copyStreams).add 112 e_impl_copyStrings).add 113 e_impl_copyInts
def n_impl_copyHost : An := { mask := fun | 8 => [1, 2, 3, 27, 28, 29] | _ => [], mv := [34, 75], mb := fun | 34 => some 3 | _ => none, sb := fun | 39 => some 3 | _ => none }
@[reducible] def d_impl_copyHost_8 : SD := ⟨[B,.ptr 1 0,.ptr 2 0,.ptr 3 0,B,B,B,B,B,B,B,B,B,B,B,B,B,B,B,B,B,B,B,B,B,B,B,.data false (.sl .arg TPool),DI,DI,B,B,B,B,B,B,B,B,B,B,B,B,B,B,B,B,B,B,B,B,B,B,B,B,B,B,B,B,B,B,B,B,B,B,B,B,B,B,B,B,B,B,B,B,B,B], [Z,some (.pair (.sl .arg .str) (.pair (.sl .arg TMapping) (.pair (.pair (.pair (.int .i64) (.pair (.int .i64) (.pair (.int .i64) (.int .i64)))) (.pair (.pair (.int .i64) (.pair (.int .i64) (.pair (.int .i64) (.sl .arg (.int .i64))))) (.pair (.sl .arg TSent) (.int .i64)))) (.pair (.sl .arg TRxQueue) (.pair (.sl .arg TPool) (.pair (.sl .arg TVector) (.pair (.sl .arg .bool) (.pair (.pair (.int .i64) (.pair .bool (.sl .arg (.int .i64)))) (.pair (.pair (.sl .arg TRule) (.pair (.sl .arg TSlot) (.pair .str (.sl .arg (.int .i64))))) (.pair (.sl .arg TStream) (.pair .bool (.pair (.sl .arg .str) (.pair (.sl .arg (.int .i64)) (.pair (.sl .arg (.int .i64)) (.pair (.int .i64) (.pair (.int .i64) (.pair (.int .i64) (.pair (.int .i64) (.int .i64))))))))))))))))))),some (.pair (.sl (.own (some 24577)) .str) (.pair (.sl (.own (some 24580)) TMapping) (.pair (.pair (.pair (.int .i64) (.pair (.int .i64) (.pair (.int .i64) (.int .i64)))) (.pair (.pair (.int .i64) (.pair (.int .i64) (.pair (.int .i64) (.sl (.own (some 24604)) (.int .i64))))) (.pair (.sl (.own (some 24607)) TSent) (.int .i64)))) (.pair (.sl (.own (some 24613)) TRxQueue) (.pair (.sl (.own (some 24616)) TPool) (.pair (.sl (.own (some 24619)) TVector) (.pair (.sl (.own (some 24622)) .bool) (.pair (.pair (.int .i64) (.pair .bool (.sl (.own (some 24631)) (.int .i64)))) (.pair (.pair (.sl (.own (some 24634)) TRule) (.pair (.sl (.own (some 24637)) TSlot) (.pair .str (.sl (.own (some 24643)) (.int .i64))))) (.pair (.sl (.own (some 24646)) TStream) (.pair .bool (.pair (.sl (.own (some 24652)) .str) (.pair (.sl (.own (some 24655)) (.int .i64)) (.pair (.sl (.own (some 24658)) (.int .i64)) (.pair (.int .i64) (.pair (.int .i64) (.pair (.int .i64) (.pair (.int .i64) (.int .i64))))))))))))))))))),some (.pair (.sl (.own (some 36865)) .str) (.pair (.sl (.own (some 36868)) TMapping) (.pair (.pair (.pair (.int .i64) (.pair (.int .i64) (.pair (.int .i64) (.int .i64)))) (.pair (.pair (.int .i64) (.pair (.int .i64) (.pair (.int .i64) (.sl (.own (some 36892)) (.int .i64))))) (.pair (.sl (.own (some 36895)) TSent) (.int .i64)))) (.pair (.sl (.own (some 36901)) TRxQueue) (.pair (.sl (.own (some 36904)) TPool) (.pair (.sl .arg TVector) (.pair (.sl .arg .bool) (.pair (.pair (.int .i64) (.pair .bool (.sl .arg (.int .i64)))) (.pair (.pair (.sl .arg TRule) (.pair (.sl .arg TSlot) (.pair .str (.sl .arg (.int .i64))))) (.pair (.sl .arg TStream) (.pair .bool (.pair (.sl .arg .str) (.pair (.sl .arg (.int .i64)) (.pair (.sl .arg (.int .i64)) (.pair (.int .i64) (.pair (.int .i64) (.pair (.int .i64) (.pair (.int .i64) (.int .i64))))))))))))))))))),Z,Z,Z,Z,Z,Z,Z,Z,Z,Z,Z,Z,Z,Z,Z,Z,Z,Z,Z,Z,Z,Z,Z,Z,Z,Z,Z,Z,Z,Z,Z,Z,Z,Z,Z,Z,Z,Z,Z,Z,Z,Z,Z,Z,Z,Z,Z,Z,Z,Z,Z,Z,Z,Z,Z,Z,Z,Z,Z,Z,Z,Z,Z,Z,Z,Z,Z,Z,Z,Z,Z,Z], .none⟩
noncomputable def t_impl_copyHost_8 {R : Type} (X : SD.D d_impl_copyHost_8) (K : Ex → AS → Option R) := Pu.impl_copyHost_T8 (fun y0 y1 => K (.exit 0) (SD.enc d_impl_copyHost_8 ((X.1.1, (X.1.2.1, (y0, ()))), (X.2.1.1, (X.2.1.2.1, (y1, ()))), ()))) X.1.1 X.1.2.1 X.2.1.1 X.2.1.2.1
noncomputable def l_impl_copyHost_8 : LEnt := ⟨d_impl_copyHost_8, fun X K => iterL (t_impl_copyHost_8 X K) fuel (X.1.2.2.1, X.2.1.2.2.1)⟩
noncomputable def L_impl_copyHost : Lam := (Lam.nil).add 8 l_impl_copyHost_8
theorem lok_impl_copyHost_8 : LOk E g_impl_copyHost n_impl_copyHost L_impl_copyHost (loopBody Tryz.f42 0) :=
  lok l_impl_copyHost_8 (by kernel_rfl) fuel fun R X K => (loop_iter (σ := Int × Pu.Host) (fun x => SD.enc d_impl_copyHost_8 ((X.1.1, (X.1.2.1, (x.1, ()))), (X.2.1.1, (X.2.1.2.1, (x.2, ()))), ())) (t_impl_copyHost_8 X K) (fun m x => by kernel_rfl) fuel (X.1.2.2.1, X.2.1.2.2.1)).symm
theorem ok_impl_copyHost : FnOk Tryz.prog 42 e_impl_copyHost := FnOk.of (fnOk (Γ := g_impl_copyHost) (an := n_impl_copyHost) (Λ := L_impl_copyHost) ((((((((((base).add ok_impl_copyMemory).add ok_impl_copyMappings).add ok_impl_copyTx).add ok_impl_copyPool).add ok_impl_copyFilter).add ok_impl_copySteering).add ok_impl_copyStreams).add ok_impl_copyStrings).add ok_impl_copyInts) Tryz.func42 (by kernel_rfl) (hF (by kernel_rfl) (cF lok_impl_copyHost_8 nF))) (fun a => by kernel_rfl)
noncomputable def e_impl_CopyRound : GEnt := entOf [.data true TMove, .data true (.sl .str)] [(true, (.pair (.sl (.own none) .str) (.pair (.sl (.own none) (.int .i64)) (.int .i64))))] fun a => Pu.impl_CopyRound a.1 a.2.1
noncomputable def g_impl_CopyRound : Gam := (Gam.nil).add 105 e_impl_copyMemory
def n_impl_CopyRound : An := { mask := fun | 3 => [3, 4, 5, 15, 16, 17] | _ => [], merge := fun | 5 => some 37 | _ => none, mv := [53], sb := fun | 5 => some 5 | _ => none }
@[reducible] def d_impl_CopyRound_3 : SD := ⟨[B,B,B,.ptr 3 0,.ptr 4 0,.ptr 5 0,B,B,B,B,B,B,B,B,B,.data false (.sl .arg (.int .i64)),DI,DI,B,B,B,B,B,B,B,B,B,B,B,B,B,B,B,B,B,B,B,B,B,B,B,B,B,B,B,B,B,B,B,B,B,B,B,B], [Z,Z,Z,some (.sl .arg .str),some (.pair (.sl (.own (some 49153)) .str) (.pair (.sl (.own (some 49156)) (.int .i64)) (.int .i64))),some (.pair (.sl (.own (some 61441)) .str) (.pair (.sl (.own (some 61444)) (.int .i64)) (.int .i64))),Z,Z,Z,Z,Z,Z,Z,Z,Z,Z,Z,Z,Z,Z,Z,Z,Z,Z,Z,Z,Z,Z,Z,Z,Z,Z,Z,Z,Z,Z,Z,Z,Z,Z,Z,Z,Z,Z,Z,Z,Z,Z,Z,Z,Z,Z,Z,Z], .none⟩
noncomputable def t_impl_CopyRound_3 {R : Type} (X : SD.D d_impl_CopyRound_3) (K : Ex → AS → Option R) := Pu.impl_CopyRound_T3 (fun y0 y1 => K (.exit 0) (SD.enc d_impl_CopyRound_3 ((X.1.1, (X.1.2.1, (y0, ()))), (X.2.1.1, (X.2.1.2.1, (y1, ()))), ()))) X.1.1 X.1.2.1 X.2.1.1 X.2.1.2.1
noncomputable def l_impl_CopyRound_3 : LEnt := ⟨d_impl_CopyRound_3, fun X K => iterL (t_impl_CopyRound_3 X K) fuel (X.1.2.2.1, X.2.1.2.2.1)⟩
noncomputable def L_impl_CopyRound : Lam := (Lam.nil).add 3 l_impl_CopyRound_3
theorem lok_impl_CopyRound_3 : LOk E g_impl_CopyRound n_impl_CopyRound L_impl_CopyRound (loopBody Tryz.f43 0) :=
  lok l_impl_CopyRound_3 (by kernel_rfl) fuel fun R X K => (loop_iter (σ := Int × Pu.Move) (fun x => SD.enc d_impl_CopyRound_3 ((X.1.1, (X.1.2.1, (x.1, ()))), (X.2.1.1, (X.2.1.2.1, (x.2, ()))), ())) (t_impl_CopyRound_3 X K) (fun m x => by kernel_rfl) fuel (X.1.2.2.1, X.2.1.2.2.1)).symm
theorem ok_impl_CopyRound : FnOk Tryz.prog 43 e_impl_CopyRound := FnOk.of (fnOk (Γ := g_impl_CopyRound) (an := n_impl_CopyRound) (Λ := L_impl_CopyRound) ((base).add ok_impl_copyMemory) Tryz.func43 (by kernel_rfl) (hF (by kernel_rfl) (cF lok_impl_CopyRound_3 nF))) (fun a => by kernel_rfl)
noncomputable def e_slices_Equal_string : GEnt := entOf [.data false (.sl .str), .data false (.sl .str)] [(false, .bool)] fun a => Pu.slices_Equal_string a.1 a.2.1
noncomputable def g_slices_Equal_string : Gam := Gam.nil
def n_slices_Equal_string : An := { mask := fun | 4 => [0, 1, 4, 12, 13] | _ => [] }
@[reducible] def d_slices_Equal_string_4 : SD := ⟨[.data false (.sl .arg .str),.data false (.sl .arg .str),B,B,DB,B,B,B,B,B,B,B,DI,DI,B,B,B,B,B,B,B,B,B,B,B,B], [Z,Z,Z,Z,Z,Z,Z,Z,Z,Z,Z,Z,Z,Z,Z,Z,Z,Z,Z,Z,Z,Z,Z,Z,Z,Z], .none⟩
noncomputable def t_slices_Equal_string_4 {R : Type} (X : SD.D d_slices_Equal_string_4) (K : Ex → AS → Option R) := Pu.slices_Equal_string_T4 (fun y0 => K (.exit 0) (SD.enc d_slices_Equal_string_4 ((X.1.1, (X.1.2.1, (X.1.2.2.1, (X.1.2.2.2.1, (y0, ()))))), (), ()))) (fun y0 y1 => K .ret (SD.enc d_slices_Equal_string_4 ((X.1.1, (X.1.2.1, (y0, (X.1.2.2.2.1, (y1, ()))))), (), ()))) X.1.1 X.1.2.1 X.1.2.2.1 X.1.2.2.2.1
noncomputable def l_slices_Equal_string_4 : LEnt := ⟨d_slices_Equal_string_4, fun X K => iterL (t_slices_Equal_string_4 X K) fuel X.1.2.2.2.2.1⟩
noncomputable def L_slices_Equal_string : Lam := (Lam.nil).add 4 l_slices_Equal_string_4
theorem lok_slices_Equal_string_4 : LOk E g_slices_Equal_string n_slices_Equal_string L_slices_Equal_string (loopBody Tryz.f44 0) :=
  lok l_slices_Equal_string_4 (by kernel_rfl) fuel fun R X K => (loop_iter (σ := Int) (fun x => SD.enc d_slices_Equal_string_4 ((X.1.1, (X.1.2.1, (X.1.2.2.1, (X.1.2.2.2.1, (x, ()))))), (), ())) (t_slices_Equal_string_4 X K) (fun m x => by kernel_rfl) fuel X.1.2.2.2.2.1).symm
theorem ok_slices_Equal_string : FnOk Tryz.prog 44 e_slices_Equal_string := FnOk.of (fnOk (Γ := g_slices_Equal_string) (an := n_slices_Equal_string) (Λ := L_slices_Equal_string) (base) Tryz.func44 (by kernel_rfl) (hF (by kernel_rfl) (cF lok_slices_Equal_string_4 nF))) (fun a => by kernel_rfl)
noncomputable def e_impl_FinishMove : GEnt := entOf [.data true TMove, .data true THost] [(true, (.pair (.sl (.own none) .str) (.pair (.sl (.own none) TMapping) (.pair (.pair (.pair (.int .i64) (.pair (.int .i64) (.pair (.int .i64) (.int .i64)))) (.pair (.pair (.int .i64) (.pair (.int .i64) (.pair (.int .i64) (.sl (.own none) (.int .i64))))) (.pair (.sl (.own none) TSent) (.int .i64)))) (.pair (.sl (.own none) TRxQueue) (.pair (.sl (.own none) TPool) (.pair (.sl (.own none) TVector) (.pair (.sl (.own none) .bool) (.pair (.pair (.int .i64) (.pair .bool (.sl (.own none) (.int .i64)))) (.pair (.pair (.sl (.own none) TRule) (.pair (.sl (.own none) TSlot) (.pair .str (.sl (.own none) (.int .i64))))) (.pair (.sl (.own none) TStream) (.pair .bool (.pair (.sl (.own none) .str) (.pair (.sl (.own none) (.int .i64)) (.pair (.sl (.own none) (.int .i64)) (.pair (.int .i64) (.pair (.int .i64) (.pair (.int .i64) (.pair (.int .i64) (.int .i64)))))))))))))))))))), (false, .bool)] fun a => Pu.impl_FinishMove a.1 a.2.1
theorem ok_impl_FinishMove : FnOk Tryz.prog 9 e_impl_FinishMove := FnOk.of (fnOk (an := { late := [15], sb := fun | 4 => some 4 | _ => none }) (Λ := Lam.nil) ((((base).add ok_impl_copyHost).add ok_impl_CopyRound).add ok_slices_Equal_string) Tryz.func9 (by kernel_rfl) (hF (by kernel_rfl) nF)) (fun a => by kernel_rfl)
noncomputable def e_laws_eqStringS : GEnt := entOf [.data false (.sl .str), .data false (.sl .str)] [(false, .bool)] fun a => Pu.laws_eqStringS a.1 a.2.1
noncomputable def g_laws_eqStringS : Gam := Gam.nil
def n_laws_eqStringS : An := { mask := fun | 4 => [0, 1, 4, 5] | _ => [] }
@[reducible] def d_laws_eqStringS_4 : SD := ⟨[.data false (.sl .arg .str),.data false (.sl .arg .str),B,B,DB,DI,B,B,B,B,B,B,B,B,B,B,B,B,B,B,B,B,B,B,B,B], [Z,Z,Z,Z,Z,Z,Z,Z,Z,Z,Z,Z,Z,Z,Z,Z,Z,Z,Z,Z,Z,Z,Z,Z,Z,Z], .none⟩
noncomputable def t_laws_eqStringS_4 {R : Type} (X : SD.D d_laws_eqStringS_4) (K : Ex → AS → Option R) := Pu.laws_eqStringS_T4 (fun y0 => K (.exit 0) (SD.enc d_laws_eqStringS_4 ((X.1.1, (X.1.2.1, (X.1.2.2.1, (y0, ())))), (), ()))) (fun y0 y1 => K .ret (SD.enc d_laws_eqStringS_4 ((X.1.1, (X.1.2.1, (y0, (y1, ())))), (), ()))) X.1.1 X.1.2.1 X.1.2.2.1
noncomputable def l_laws_eqStringS_4 : LEnt := ⟨d_laws_eqStringS_4, fun X K => iterL (t_laws_eqStringS_4 X K) fuel X.1.2.2.2.1⟩
noncomputable def L_laws_eqStringS : Lam := (Lam.nil).add 4 l_laws_eqStringS_4
theorem lok_laws_eqStringS_4 : LOk E g_laws_eqStringS n_laws_eqStringS L_laws_eqStringS (loopBody Tryz.f55 0) :=
  lok l_laws_eqStringS_4 (by kernel_rfl) fuel fun R X K => (loop_iter (σ := Int) (fun x => SD.enc d_laws_eqStringS_4 ((X.1.1, (X.1.2.1, (X.1.2.2.1, (x, ())))), (), ())) (t_laws_eqStringS_4 X K) (fun m x => by kernel_rfl) fuel X.1.2.2.2.1).symm
theorem ok_laws_eqStringS : FnOk Tryz.prog 55 e_laws_eqStringS := FnOk.of (fnOk (Γ := g_laws_eqStringS) (an := n_laws_eqStringS) (Λ := L_laws_eqStringS) (base) Tryz.func55 (by kernel_rfl) (hF (by kernel_rfl) (cF lok_laws_eqStringS_4 nF))) (fun a => by kernel_rfl)
noncomputable def e_laws_eqMemory : GEnt := entOf [.data true (.sl .str), .data true (.sl .str)] [(false, .bool)] fun a => Pu.laws_eqMemory a.1 a.2.1
theorem ok_laws_eqMemory : FnOk Tryz.prog 45 e_laws_eqMemory := FnOk.of (fnOk (an := {}) (Λ := Lam.nil) ((base).add ok_laws_eqStringS) Tryz.func45 (by kernel_rfl) (hF (by kernel_rfl) nF)) (fun a => by kernel_rfl)
noncomputable def e_laws_eqMapping : GEnt := entOf [.data true TMapping, .data true TMapping] [(false, .bool)] fun a => Pu.laws_eqMapping a.1 a.2.1
theorem ok_laws_eqMapping : FnOk Tryz.prog 114 e_laws_eqMapping := FnOk.of (fnOk (an := {}) (Λ := Lam.nil) (base) Tryz.func114 (by kernel_rfl) (hF (by kernel_rfl) nF)) (fun a => by kernel_rfl)
noncomputable def e_laws_eqMappingS : GEnt := entOf [.data false (.sl TMapping), .data false (.sl TMapping)] [(false, .bool)] fun a => Pu.laws_eqMappingS a.1 a.2.1
noncomputable def g_laws_eqMappingS : Gam := (Gam.nil).add 114 e_laws_eqMapping
def n_laws_eqMappingS : An := { mask := fun | 4 => [0, 1, 4, 5] | _ => [] }
@[reducible] def d_laws_eqMappingS_4 : SD := ⟨[.data false (.sl .arg TMapping),.data false (.sl .arg TMapping),B,B,DB,DI,B,B,B,B,B,B,B,B,B,B,B,B,B,B,B,B,B,B,B,B,B], [Z,Z,Z,Z,Z,Z,Z,Z,Z,Z,Z,Z,Z,Z,Z,Z,Z,Z,Z,Z,Z,Z,Z,Z,Z,Z,Z], .none⟩
noncomputable def t_laws_eqMappingS_4 {R : Type} (X : SD.D d_laws_eqMappingS_4) (K : Ex → AS → Option R) := Pu.laws_eqMappingS_T4 (fun y0 => K (.exit 0) (SD.enc d_laws_eqMappingS_4 ((X.1.1, (X.1.2.1, (X.1.2.2.1, (y0, ())))), (), ()))) (fun y0 y1 => K .ret (SD.enc d_laws_eqMappingS_4 ((X.1.1, (X.1.2.1, (y0, (y1, ())))), (), ()))) X.1.1 X.1.2.1 X.1.2.2.1
noncomputable def l_laws_eqMappingS_4 : LEnt := ⟨d_laws_eqMappingS_4, fun X K => iterL (t_laws_eqMappingS_4 X K) fuel X.1.2.2.2.1⟩
noncomputable def L_laws_eqMappingS : Lam := (Lam.nil).add 4 l_laws_eqMappingS_4
theorem lok_laws_eqMappingS_4 : LOk E g_laws_eqMappingS n_laws_eqMappingS L_laws_eqMappingS (loopBody Tryz.f46 0) :=
  lok l_laws_eqMappingS_4 (by kernel_rfl) fuel fun R X K => (loop_iter (σ := Int) (fun x => SD.enc d_laws_eqMappingS_4 ((X.1.1, (X.1.2.1, (X.1.2.2.1, (x, ())))), (), ())) (t_laws_eqMappingS_4 X K) (fun m x => by kernel_rfl) fuel X.1.2.2.2.1).symm
theorem ok_laws_eqMappingS : FnOk Tryz.prog 46 e_laws_eqMappingS := FnOk.of (fnOk (Γ := g_laws_eqMappingS) (an := n_laws_eqMappingS) (Λ := L_laws_eqMappingS) ((base).add ok_laws_eqMapping) Tryz.func46 (by kernel_rfl) (hF (by kernel_rfl) (cF lok_laws_eqMappingS_4 nF))) (fun a => by kernel_rfl)
noncomputable def e_laws_eqRing : GEnt := entOf [.data true TRing, .data true TRing] [(false, .bool)] fun a => Pu.laws_eqRing a.1 a.2.1
theorem ok_laws_eqRing : FnOk Tryz.prog 115 e_laws_eqRing := FnOk.of (fnOk (an := {}) (Λ := Lam.nil) (base) Tryz.func115 (by kernel_rfl) (hF (by kernel_rfl) nF)) (fun a => by kernel_rfl)
noncomputable def e_laws_eqIntS : GEnt := entOf [.data false (.sl (.int .i64)), .data false (.sl (.int .i64))] [(false, .bool)] fun a => Pu.laws_eqIntS a.1 a.2.1
noncomputable def g_laws_eqIntS : Gam := Gam.nil
def n_laws_eqIntS : An := { mask := fun | 4 => [0, 1, 4, 5] | _ => [] }
@[reducible] def d_laws_eqIntS_4 : SD := ⟨[.data false (.sl .arg (.int .i64)),.data false (.sl .arg (.int .i64)),B,B,DB,DI,B,B,B,B,B,B,B,B,B,B,B,B,B,B,B,B,B,B,B,B], [Z,Z,Z,Z,Z,Z,Z,Z,Z,Z,Z,Z,Z,Z,Z,Z,Z,Z,Z,Z,Z,Z,Z,Z,Z,Z], .none⟩
noncomputable def t_laws_eqIntS_4 {R : Type} (X : SD.D d_laws_eqIntS_4) (K : Ex → AS → Option R) := Pu.laws_eqIntS_T4 (fun y0 => K (.exit 0) (SD.enc d_laws_eqIntS_4 ((X.1.1, (X.1.2.1, (X.1.2.2.1, (y0, ())))), (), ()))) (fun y0 y1 => K .ret (SD.enc d_laws_eqIntS_4 ((X.1.1, (X.1.2.1, (y0, (y1, ())))), (), ()))) X.1.1 X.1.2.1 X.1.2.2.1
noncomputable def l_laws_eqIntS_4 : LEnt := ⟨d_laws_eqIntS_4, fun X K => iterL (t_laws_eqIntS_4 X K) fuel X.1.2.2.2.1⟩
noncomputable def L_laws_eqIntS : Lam := (Lam.nil).add 4 l_laws_eqIntS_4
theorem lok_laws_eqIntS_4 : LOk E g_laws_eqIntS n_laws_eqIntS L_laws_eqIntS (loopBody Tryz.f56 0) :=
  lok l_laws_eqIntS_4 (by kernel_rfl) fuel fun R X K => (loop_iter (σ := Int) (fun x => SD.enc d_laws_eqIntS_4 ((X.1.1, (X.1.2.1, (X.1.2.2.1, (x, ())))), (), ())) (t_laws_eqIntS_4 X K) (fun m x => by kernel_rfl) fuel X.1.2.2.2.1).symm
theorem ok_laws_eqIntS : FnOk Tryz.prog 56 e_laws_eqIntS := FnOk.of (fnOk (Γ := g_laws_eqIntS) (an := n_laws_eqIntS) (Λ := L_laws_eqIntS) (base) Tryz.func56 (by kernel_rfl) (hF (by kernel_rfl) (cF lok_laws_eqIntS_4 nF))) (fun a => by kernel_rfl)
noncomputable def e_laws_eqPool : GEnt := entOf [.data true TPool, .data true TPool] [(false, .bool)] fun a => Pu.laws_eqPool a.1 a.2.1
theorem ok_laws_eqPool : FnOk Tryz.prog 116 e_laws_eqPool := FnOk.of (fnOk (an := {}) (Λ := Lam.nil) ((base).add ok_laws_eqIntS) Tryz.func116 (by kernel_rfl) (hF (by kernel_rfl) nF)) (fun a => by kernel_rfl)
noncomputable def e_laws_eqSent : GEnt := entOf [.data true TSent, .data true TSent] [(false, .bool)] fun a => Pu.laws_eqSent a.1 a.2.1
theorem ok_laws_eqSent : FnOk Tryz.prog 148 e_laws_eqSent := FnOk.of (fnOk (an := {}) (Λ := Lam.nil) ((base).add ok_laws_eqIntS) Tryz.func148 (by kernel_rfl) (hF (by kernel_rfl) nF)) (fun a => by kernel_rfl)
noncomputable def e_laws_eqSentS : GEnt := entOf [.data false (.sl TSent), .data false (.sl TSent)] [(false, .bool)] fun a => Pu.laws_eqSentS a.1 a.2.1
noncomputable def g_laws_eqSentS : Gam := (Gam.nil).add 148 e_laws_eqSent
def n_laws_eqSentS : An := { mask := fun | 4 => [0, 1, 4, 5] | _ => [] }
@[reducible] def d_laws_eqSentS_4 : SD := ⟨[.data false (.sl .arg TSent),.data false (.sl .arg TSent),B,B,DB,DI,B,B,B,B,B,B,B,B,B,B,B,B,B,B,B,B,B,B,B,B,B], [Z,Z,Z,Z,Z,Z,Z,Z,Z,Z,Z,Z,Z,Z,Z,Z,Z,Z,Z,Z,Z,Z,Z,Z,Z,Z,Z], .none⟩
noncomputable def t_laws_eqSentS_4 {R : Type} (X : SD.D d_laws_eqSentS_4) (K : Ex → AS → Option R) := Pu.laws_eqSentS_T4 (fun y0 => K (.exit 0) (SD.enc d_laws_eqSentS_4 ((X.1.1, (X.1.2.1, (X.1.2.2.1, (y0, ())))), (), ()))) (fun y0 y1 => K .ret (SD.enc d_laws_eqSentS_4 ((X.1.1, (X.1.2.1, (y0, (y1, ())))), (), ()))) X.1.1 X.1.2.1 X.1.2.2.1
noncomputable def l_laws_eqSentS_4 : LEnt := ⟨d_laws_eqSentS_4, fun X K => iterL (t_laws_eqSentS_4 X K) fuel X.1.2.2.2.1⟩
noncomputable def L_laws_eqSentS : Lam := (Lam.nil).add 4 l_laws_eqSentS_4
theorem lok_laws_eqSentS_4 : LOk E g_laws_eqSentS n_laws_eqSentS L_laws_eqSentS (loopBody Tryz.f117 0) :=
  lok l_laws_eqSentS_4 (by kernel_rfl) fuel fun R X K => (loop_iter (σ := Int) (fun x => SD.enc d_laws_eqSentS_4 ((X.1.1, (X.1.2.1, (X.1.2.2.1, (x, ())))), (), ())) (t_laws_eqSentS_4 X K) (fun m x => by kernel_rfl) fuel X.1.2.2.2.1).symm
theorem ok_laws_eqSentS : FnOk Tryz.prog 117 e_laws_eqSentS := FnOk.of (fnOk (Γ := g_laws_eqSentS) (an := n_laws_eqSentS) (Λ := L_laws_eqSentS) ((base).add ok_laws_eqSent) Tryz.func117 (by kernel_rfl) (hF (by kernel_rfl) (cF lok_laws_eqSentS_4 nF))) (fun a => by kernel_rfl)
noncomputable def e_laws_eqTxQueue : GEnt := entOf [.data true TTxQueue, .data true TTxQueue] [(false, .bool)] fun a => Pu.laws_eqTxQueue a.1 a.2.1
theorem ok_laws_eqTxQueue : FnOk Tryz.prog 47 e_laws_eqTxQueue := FnOk.of (fnOk (an := {}) (Λ := Lam.nil) ((((base).add ok_laws_eqRing).add ok_laws_eqPool).add ok_laws_eqSentS) Tryz.func47 (by kernel_rfl) (hF (by kernel_rfl) nF)) (fun a => by kernel_rfl)
noncomputable def e_laws_eqCompletionQueue : GEnt := entOf [.data true TCompletionQueue, .data true TCompletionQueue] [(false, .bool)] fun a => Pu.laws_eqCompletionQueue a.1 a.2.1
theorem ok_laws_eqCompletionQueue : FnOk Tryz.prog 149 e_laws_eqCompletionQueue := FnOk.of (fnOk (an := {}) (Λ := Lam.nil) (base) Tryz.func149 (by kernel_rfl) (hF (by kernel_rfl) nF)) (fun a => by kernel_rfl)
noncomputable def e_laws_eqSegment : GEnt := entOf [.data true TSegment, .data true TSegment] [(false, .bool)] fun a => Pu.laws_eqSegment a.1 a.2.1
theorem ok_laws_eqSegment : FnOk Tryz.prog 163 e_laws_eqSegment := FnOk.of (fnOk (an := {}) (Λ := Lam.nil) (base) Tryz.func163 (by kernel_rfl) (hF (by kernel_rfl) nF)) (fun a => by kernel_rfl)
noncomputable def e_laws_eqPacket : GEnt := entOf [.data true TPacket, .data true TPacket] [(false, .bool)] fun a => Pu.laws_eqPacket a.1 a.2.1
theorem ok_laws_eqPacket : FnOk Tryz.prog 159 e_laws_eqPacket := FnOk.of (fnOk (an := {}) (Λ := Lam.nil) ((base).add ok_laws_eqSegment) Tryz.func159 (by kernel_rfl) (hF (by kernel_rfl) nF)) (fun a => by kernel_rfl)
noncomputable def e_laws_eqSuper : GEnt := entOf [.data true TSuper, .data true TSuper] [(false, .bool)] fun a => Pu.laws_eqSuper a.1 a.2.1
theorem ok_laws_eqSuper : FnOk Tryz.prog 150 e_laws_eqSuper := FnOk.of (fnOk (an := {}) (Λ := Lam.nil) ((base).add ok_laws_eqPacket) Tryz.func150 (by kernel_rfl) (hF (by kernel_rfl) nF)) (fun a => by kernel_rfl)
noncomputable def e_laws_eqRxQueue : GEnt := entOf [.data true TRxQueue, .data true TRxQueue] [(false, .bool)] fun a => Pu.laws_eqRxQueue a.1 a.2.1
theorem ok_laws_eqRxQueue : FnOk Tryz.prog 118 e_laws_eqRxQueue := FnOk.of (fnOk (an := {}) (Λ := Lam.nil) ((((base).add ok_laws_eqRing).add ok_laws_eqCompletionQueue).add ok_laws_eqSuper) Tryz.func118 (by kernel_rfl) (hF (by kernel_rfl) nF)) (fun a => by kernel_rfl)
noncomputable def e_laws_eqRxQueueS : GEnt := entOf [.data false (.sl TRxQueue), .data false (.sl TRxQueue)] [(false, .bool)] fun a => Pu.laws_eqRxQueueS a.1 a.2.1
noncomputable def g_laws_eqRxQueueS : Gam := (Gam.nil).add 118 e_laws_eqRxQueue
def n_laws_eqRxQueueS : An := { mask := fun | 4 => [0, 1, 4, 5] | _ => [] }
@[reducible] def d_laws_eqRxQueueS_4 : SD := ⟨[.data false (.sl .arg TRxQueue),.data false (.sl .arg TRxQueue),B,B,DB,DI,B,B,B,B,B,B,B,B,B,B,B,B,B,B,B,B,B,B,B,B,B], [Z,Z,Z,Z,Z,Z,Z,Z,Z,Z,Z,Z,Z,Z,Z,Z,Z,Z,Z,Z,Z,Z,Z,Z,Z,Z,Z], .none⟩
noncomputable def t_laws_eqRxQueueS_4 {R : Type} (X : SD.D d_laws_eqRxQueueS_4) (K : Ex → AS → Option R) := Pu.laws_eqRxQueueS_T4 (fun y0 => K (.exit 0) (SD.enc d_laws_eqRxQueueS_4 ((X.1.1, (X.1.2.1, (X.1.2.2.1, (y0, ())))), (), ()))) (fun y0 y1 => K .ret (SD.enc d_laws_eqRxQueueS_4 ((X.1.1, (X.1.2.1, (y0, (y1, ())))), (), ()))) X.1.1 X.1.2.1 X.1.2.2.1
noncomputable def l_laws_eqRxQueueS_4 : LEnt := ⟨d_laws_eqRxQueueS_4, fun X K => iterL (t_laws_eqRxQueueS_4 X K) fuel X.1.2.2.2.1⟩
noncomputable def L_laws_eqRxQueueS : Lam := (Lam.nil).add 4 l_laws_eqRxQueueS_4
theorem lok_laws_eqRxQueueS_4 : LOk E g_laws_eqRxQueueS n_laws_eqRxQueueS L_laws_eqRxQueueS (loopBody Tryz.f48 0) :=
  lok l_laws_eqRxQueueS_4 (by kernel_rfl) fuel fun R X K => (loop_iter (σ := Int) (fun x => SD.enc d_laws_eqRxQueueS_4 ((X.1.1, (X.1.2.1, (X.1.2.2.1, (x, ())))), (), ())) (t_laws_eqRxQueueS_4 X K) (fun m x => by kernel_rfl) fuel X.1.2.2.2.1).symm
theorem ok_laws_eqRxQueueS : FnOk Tryz.prog 48 e_laws_eqRxQueueS := FnOk.of (fnOk (Γ := g_laws_eqRxQueueS) (an := n_laws_eqRxQueueS) (Λ := L_laws_eqRxQueueS) ((base).add ok_laws_eqRxQueue) Tryz.func48 (by kernel_rfl) (hF (by kernel_rfl) (cF lok_laws_eqRxQueueS_4 nF))) (fun a => by kernel_rfl)
noncomputable def e_laws_eqPoolS : GEnt := entOf [.data false (.sl TPool), .data false (.sl TPool)] [(false, .bool)] fun a => Pu.laws_eqPoolS a.1 a.2.1
noncomputable def g_laws_eqPoolS : Gam := (Gam.nil).add 116 e_laws_eqPool
def n_laws_eqPoolS : An := { mask := fun | 4 => [0, 1, 4, 5] | _ => [] }
@[reducible] def d_laws_eqPoolS_4 : SD := ⟨[.data false (.sl .arg TPool),.data false (.sl .arg TPool),B,B,DB,DI,B,B,B,B,B,B,B,B,B,B,B,B,B,B,B,B,B,B,B,B,B], [Z,Z,Z,Z,Z,Z,Z,Z,Z,Z,Z,Z,Z,Z,Z,Z,Z,Z,Z,Z,Z,Z,Z,Z,Z,Z,Z], .none⟩
noncomputable def t_laws_eqPoolS_4 {R : Type} (X : SD.D d_laws_eqPoolS_4) (K : Ex → AS → Option R) := Pu.laws_eqPoolS_T4 (fun y0 => K (.exit 0) (SD.enc d_laws_eqPoolS_4 ((X.1.1, (X.1.2.1, (X.1.2.2.1, (y0, ())))), (), ()))) (fun y0 y1 => K .ret (SD.enc d_laws_eqPoolS_4 ((X.1.1, (X.1.2.1, (y0, (y1, ())))), (), ()))) X.1.1 X.1.2.1 X.1.2.2.1
noncomputable def l_laws_eqPoolS_4 : LEnt := ⟨d_laws_eqPoolS_4, fun X K => iterL (t_laws_eqPoolS_4 X K) fuel X.1.2.2.2.1⟩
noncomputable def L_laws_eqPoolS : Lam := (Lam.nil).add 4 l_laws_eqPoolS_4
theorem lok_laws_eqPoolS_4 : LOk E g_laws_eqPoolS n_laws_eqPoolS L_laws_eqPoolS (loopBody Tryz.f49 0) :=
  lok l_laws_eqPoolS_4 (by kernel_rfl) fuel fun R X K => (loop_iter (σ := Int) (fun x => SD.enc d_laws_eqPoolS_4 ((X.1.1, (X.1.2.1, (X.1.2.2.1, (x, ())))), (), ())) (t_laws_eqPoolS_4 X K) (fun m x => by kernel_rfl) fuel X.1.2.2.2.1).symm
theorem ok_laws_eqPoolS : FnOk Tryz.prog 49 e_laws_eqPoolS := FnOk.of (fnOk (Γ := g_laws_eqPoolS) (an := n_laws_eqPoolS) (Λ := L_laws_eqPoolS) ((base).add ok_laws_eqPool) Tryz.func49 (by kernel_rfl) (hF (by kernel_rfl) (cF lok_laws_eqPoolS_4 nF))) (fun a => by kernel_rfl)
noncomputable def e_laws_eqVector : GEnt := entOf [.data true TVector, .data true TVector] [(false, .bool)] fun a => Pu.laws_eqVector a.1 a.2.1
theorem ok_laws_eqVector : FnOk Tryz.prog 119 e_laws_eqVector := FnOk.of (fnOk (an := {}) (Λ := Lam.nil) (base) Tryz.func119 (by kernel_rfl) (hF (by kernel_rfl) nF)) (fun a => by kernel_rfl)
noncomputable def e_laws_eqVectorS : GEnt := entOf [.data false (.sl TVector), .data false (.sl TVector)] [(false, .bool)] fun a => Pu.laws_eqVectorS a.1 a.2.1
noncomputable def g_laws_eqVectorS : Gam := (Gam.nil).add 119 e_laws_eqVector
def n_laws_eqVectorS : An := { mask := fun | 4 => [0, 1, 4, 5] | _ => [] }
@[reducible] def d_laws_eqVectorS_4 : SD := ⟨[.data false (.sl .arg TVector),.data false (.sl .arg TVector),B,B,DB,DI,B,B,B,B,B,B,B,B,B,B,B,B,B,B,B,B,B,B,B,B,B], [Z,Z,Z,Z,Z,Z,Z,Z,Z,Z,Z,Z,Z,Z,Z,Z,Z,Z,Z,Z,Z,Z,Z,Z,Z,Z,Z], .none⟩
noncomputable def t_laws_eqVectorS_4 {R : Type} (X : SD.D d_laws_eqVectorS_4) (K : Ex → AS → Option R) := Pu.laws_eqVectorS_T4 (fun y0 => K (.exit 0) (SD.enc d_laws_eqVectorS_4 ((X.1.1, (X.1.2.1, (X.1.2.2.1, (y0, ())))), (), ()))) (fun y0 y1 => K .ret (SD.enc d_laws_eqVectorS_4 ((X.1.1, (X.1.2.1, (y0, (y1, ())))), (), ()))) X.1.1 X.1.2.1 X.1.2.2.1
noncomputable def l_laws_eqVectorS_4 : LEnt := ⟨d_laws_eqVectorS_4, fun X K => iterL (t_laws_eqVectorS_4 X K) fuel X.1.2.2.2.1⟩
noncomputable def L_laws_eqVectorS : Lam := (Lam.nil).add 4 l_laws_eqVectorS_4
theorem lok_laws_eqVectorS_4 : LOk E g_laws_eqVectorS n_laws_eqVectorS L_laws_eqVectorS (loopBody Tryz.f50 0) :=
  lok l_laws_eqVectorS_4 (by kernel_rfl) fuel fun R X K => (loop_iter (σ := Int) (fun x => SD.enc d_laws_eqVectorS_4 ((X.1.1, (X.1.2.1, (X.1.2.2.1, (x, ())))), (), ())) (t_laws_eqVectorS_4 X K) (fun m x => by kernel_rfl) fuel X.1.2.2.2.1).symm
theorem ok_laws_eqVectorS : FnOk Tryz.prog 50 e_laws_eqVectorS := FnOk.of (fnOk (Γ := g_laws_eqVectorS) (an := n_laws_eqVectorS) (Λ := L_laws_eqVectorS) ((base).add ok_laws_eqVector) Tryz.func50 (by kernel_rfl) (hF (by kernel_rfl) (cF lok_laws_eqVectorS_4 nF))) (fun a => by kernel_rfl)
noncomputable def e_laws_eqBoolS : GEnt := entOf [.data false (.sl .bool), .data false (.sl .bool)] [(false, .bool)] fun a => Pu.laws_eqBoolS a.1 a.2.1
noncomputable def g_laws_eqBoolS : Gam := Gam.nil
def n_laws_eqBoolS : An := { mask := fun | 4 => [0, 1, 4, 5] | _ => [] }
@[reducible] def d_laws_eqBoolS_4 : SD := ⟨[.data false (.sl .arg .bool),.data false (.sl .arg .bool),B,B,DB,DI,B,B,B,B,B,B,B,B,B,B,B,B,B,B,B,B,B,B,B,B], [Z,Z,Z,Z,Z,Z,Z,Z,Z,Z,Z,Z,Z,Z,Z,Z,Z,Z,Z,Z,Z,Z,Z,Z,Z,Z], .none⟩
noncomputable def t_laws_eqBoolS_4 {R : Type} (X : SD.D d_laws_eqBoolS_4) (K : Ex → AS → Option R) := Pu.laws_eqBoolS_T4 (fun y0 => K (.exit 0) (SD.enc d_laws_eqBoolS_4 ((X.1.1, (X.1.2.1, (X.1.2.2.1, (y0, ())))), (), ()))) (fun y0 y1 => K .ret (SD.enc d_laws_eqBoolS_4 ((X.1.1, (X.1.2.1, (y0, (y1, ())))), (), ()))) X.1.1 X.1.2.1 X.1.2.2.1
noncomputable def l_laws_eqBoolS_4 : LEnt := ⟨d_laws_eqBoolS_4, fun X K => iterL (t_laws_eqBoolS_4 X K) fuel X.1.2.2.2.1⟩
noncomputable def L_laws_eqBoolS : Lam := (Lam.nil).add 4 l_laws_eqBoolS_4
theorem lok_laws_eqBoolS_4 : LOk E g_laws_eqBoolS n_laws_eqBoolS L_laws_eqBoolS (loopBody Tryz.f51 0) :=
  lok l_laws_eqBoolS_4 (by kernel_rfl) fuel fun R X K => (loop_iter (σ := Int) (fun x => SD.enc d_laws_eqBoolS_4 ((X.1.1, (X.1.2.1, (X.1.2.2.1, (x, ())))), (), ())) (t_laws_eqBoolS_4 X K) (fun m x => by kernel_rfl) fuel X.1.2.2.2.1).symm
theorem ok_laws_eqBoolS : FnOk Tryz.prog 51 e_laws_eqBoolS := FnOk.of (fnOk (Γ := g_laws_eqBoolS) (an := n_laws_eqBoolS) (Λ := L_laws_eqBoolS) (base) Tryz.func51 (by kernel_rfl) (hF (by kernel_rfl) (cF lok_laws_eqBoolS_4 nF))) (fun a => by kernel_rfl)
noncomputable def e_laws_eqFilter : GEnt := entOf [.data true TFilter, .data true TFilter] [(false, .bool)] fun a => Pu.laws_eqFilter a.1 a.2.1
theorem ok_laws_eqFilter : FnOk Tryz.prog 52 e_laws_eqFilter := FnOk.of (fnOk (an := {}) (Λ := Lam.nil) ((base).add ok_laws_eqIntS) Tryz.func52 (by kernel_rfl) (hF (by kernel_rfl) nF)) (fun a => by kernel_rfl)
noncomputable def e_laws_eqRule : GEnt := entOf [.data true TRule, .data true TRule] [(false, .bool)] fun a => Pu.laws_eqRule a.1 a.2.1
theorem ok_laws_eqRule : FnOk Tryz.prog 151 e_laws_eqRule := FnOk.of (fnOk (an := {}) (Λ := Lam.nil) (base) Tryz.func151 (by kernel_rfl) (hF (by kernel_rfl) nF)) (fun a => by kernel_rfl)
noncomputable def e_laws_eqRuleS : GEnt := entOf [.data false (.sl TRule), .data false (.sl TRule)] [(false, .bool)] fun a => Pu.laws_eqRuleS a.1 a.2.1
noncomputable def g_laws_eqRuleS : Gam := (Gam.nil).add 151 e_laws_eqRule
def n_laws_eqRuleS : An := { mask := fun | 4 => [0, 1, 4, 5] | _ => [] }
@[reducible] def d_laws_eqRuleS_4 : SD := ⟨[.data false (.sl .arg TRule),.data false (.sl .arg TRule),B,B,DB,DI,B,B,B,B,B,B,B,B,B,B,B,B,B,B,B,B,B,B,B,B,B], [Z,Z,Z,Z,Z,Z,Z,Z,Z,Z,Z,Z,Z,Z,Z,Z,Z,Z,Z,Z,Z,Z,Z,Z,Z,Z,Z], .none⟩
noncomputable def t_laws_eqRuleS_4 {R : Type} (X : SD.D d_laws_eqRuleS_4) (K : Ex → AS → Option R) := Pu.laws_eqRuleS_T4 (fun y0 => K (.exit 0) (SD.enc d_laws_eqRuleS_4 ((X.1.1, (X.1.2.1, (X.1.2.2.1, (y0, ())))), (), ()))) (fun y0 y1 => K .ret (SD.enc d_laws_eqRuleS_4 ((X.1.1, (X.1.2.1, (y0, (y1, ())))), (), ()))) X.1.1 X.1.2.1 X.1.2.2.1
noncomputable def l_laws_eqRuleS_4 : LEnt := ⟨d_laws_eqRuleS_4, fun X K => iterL (t_laws_eqRuleS_4 X K) fuel X.1.2.2.2.1⟩
noncomputable def L_laws_eqRuleS : Lam := (Lam.nil).add 4 l_laws_eqRuleS_4
theorem lok_laws_eqRuleS_4 : LOk E g_laws_eqRuleS n_laws_eqRuleS L_laws_eqRuleS (loopBody Tryz.f120 0) :=
  lok l_laws_eqRuleS_4 (by kernel_rfl) fuel fun R X K => (loop_iter (σ := Int) (fun x => SD.enc d_laws_eqRuleS_4 ((X.1.1, (X.1.2.1, (X.1.2.2.1, (x, ())))), (), ())) (t_laws_eqRuleS_4 X K) (fun m x => by kernel_rfl) fuel X.1.2.2.2.1).symm
theorem ok_laws_eqRuleS : FnOk Tryz.prog 120 e_laws_eqRuleS := FnOk.of (fnOk (Γ := g_laws_eqRuleS) (an := n_laws_eqRuleS) (Λ := L_laws_eqRuleS) ((base).add ok_laws_eqRule) Tryz.func120 (by kernel_rfl) (hF (by kernel_rfl) (cF lok_laws_eqRuleS_4 nF))) (fun a => by kernel_rfl)
noncomputable def e_laws_eqFlow : GEnt := entOf [.data true TFlow, .data true TFlow] [(false, .bool)] fun a => Pu.laws_eqFlow a.1 a.2.1
theorem ok_laws_eqFlow : FnOk Tryz.prog 153 e_laws_eqFlow := FnOk.of (fnOk (an := {}) (Λ := Lam.nil) (base) Tryz.func153 (by kernel_rfl) (hF (by kernel_rfl) nF)) (fun a => by kernel_rfl)
noncomputable def e_laws_eqSlot : GEnt := entOf [.data true TSlot, .data true TSlot] [(false, .bool)] fun a => Pu.laws_eqSlot a.1 a.2.1
theorem ok_laws_eqSlot : FnOk Tryz.prog 160 e_laws_eqSlot := FnOk.of (fnOk (an := {}) (Λ := Lam.nil) ((base).add ok_laws_eqFlow) Tryz.func160 (by kernel_rfl) (hF (by kernel_rfl) nF)) (fun a => by kernel_rfl)
noncomputable def e_laws_eqSlotS : GEnt := entOf [.data false (.sl TSlot), .data false (.sl TSlot)] [(false, .bool)] fun a => Pu.laws_eqSlotS a.1 a.2.1
noncomputable def g_laws_eqSlotS : Gam := (Gam.nil).add 160 e_laws_eqSlot
def n_laws_eqSlotS : An := { mask := fun | 4 => [0, 1, 4, 5] | _ => [] }
@[reducible] def d_laws_eqSlotS_4 : SD := ⟨[.data false (.sl .arg TSlot),.data false (.sl .arg TSlot),B,B,DB,DI,B,B,B,B,B,B,B,B,B,B,B,B,B,B,B,B,B,B,B,B,B], [Z,Z,Z,Z,Z,Z,Z,Z,Z,Z,Z,Z,Z,Z,Z,Z,Z,Z,Z,Z,Z,Z,Z,Z,Z,Z,Z], .none⟩
noncomputable def t_laws_eqSlotS_4 {R : Type} (X : SD.D d_laws_eqSlotS_4) (K : Ex → AS → Option R) := Pu.laws_eqSlotS_T4 (fun y0 => K (.exit 0) (SD.enc d_laws_eqSlotS_4 ((X.1.1, (X.1.2.1, (X.1.2.2.1, (y0, ())))), (), ()))) (fun y0 y1 => K .ret (SD.enc d_laws_eqSlotS_4 ((X.1.1, (X.1.2.1, (y0, (y1, ())))), (), ()))) X.1.1 X.1.2.1 X.1.2.2.1
noncomputable def l_laws_eqSlotS_4 : LEnt := ⟨d_laws_eqSlotS_4, fun X K => iterL (t_laws_eqSlotS_4 X K) fuel X.1.2.2.2.1⟩
noncomputable def L_laws_eqSlotS : Lam := (Lam.nil).add 4 l_laws_eqSlotS_4
theorem lok_laws_eqSlotS_4 : LOk E g_laws_eqSlotS n_laws_eqSlotS L_laws_eqSlotS (loopBody Tryz.f152 0) :=
  lok l_laws_eqSlotS_4 (by kernel_rfl) fuel fun R X K => (loop_iter (σ := Int) (fun x => SD.enc d_laws_eqSlotS_4 ((X.1.1, (X.1.2.1, (X.1.2.2.1, (x, ())))), (), ())) (t_laws_eqSlotS_4 X K) (fun m x => by kernel_rfl) fuel X.1.2.2.2.1).symm
theorem ok_laws_eqSlotS : FnOk Tryz.prog 152 e_laws_eqSlotS := FnOk.of (fnOk (Γ := g_laws_eqSlotS) (an := n_laws_eqSlotS) (Λ := L_laws_eqSlotS) ((base).add ok_laws_eqSlot) Tryz.func152 (by kernel_rfl) (hF (by kernel_rfl) (cF lok_laws_eqSlotS_4 nF))) (fun a => by kernel_rfl)
noncomputable def e_laws_eqFlowTable : GEnt := entOf [.data true (.sl TSlot), .data true (.sl TSlot)] [(false, .bool)] fun a => Pu.laws_eqFlowTable a.1 a.2.1
theorem ok_laws_eqFlowTable : FnOk Tryz.prog 121 e_laws_eqFlowTable := FnOk.of (fnOk (an := {}) (Λ := Lam.nil) ((base).add ok_laws_eqSlotS) Tryz.func121 (by kernel_rfl) (hF (by kernel_rfl) nF)) (fun a => by kernel_rfl)
noncomputable def e_laws_eqSpread : GEnt := entOf [.data true TSpread, .data true TSpread] [(false, .bool)] fun a => Pu.laws_eqSpread a.1 a.2.1
theorem ok_laws_eqSpread : FnOk Tryz.prog 122 e_laws_eqSpread := FnOk.of (fnOk (an := {}) (Λ := Lam.nil) ((base).add ok_laws_eqIntS) Tryz.func122 (by kernel_rfl) (hF (by kernel_rfl) nF)) (fun a => by kernel_rfl)
noncomputable def e_laws_eqSteering : GEnt := entOf [.data true TSteering, .data true TSteering] [(false, .bool)] fun a => Pu.laws_eqSteering a.1 a.2.1
theorem ok_laws_eqSteering : FnOk Tryz.prog 53 e_laws_eqSteering := FnOk.of (fnOk (an := {}) (Λ := Lam.nil) ((((base).add ok_laws_eqRuleS).add ok_laws_eqFlowTable).add ok_laws_eqSpread) Tryz.func53 (by kernel_rfl) (hF (by kernel_rfl) nF)) (fun a => by kernel_rfl)
noncomputable def e_laws_eqStream : GEnt := entOf [.data true TStream, .data true TStream] [(false, .bool)] fun a => Pu.laws_eqStream a.1 a.2.1
theorem ok_laws_eqStream : FnOk Tryz.prog 123 e_laws_eqStream := FnOk.of (fnOk (an := {}) (Λ := Lam.nil) ((base).add ok_laws_eqFlow) Tryz.func123 (by kernel_rfl) (hF (by kernel_rfl) nF)) (fun a => by kernel_rfl)
noncomputable def e_laws_eqStreamS : GEnt := entOf [.data false (.sl TStream), .data false (.sl TStream)] [(false, .bool)] fun a => Pu.laws_eqStreamS a.1 a.2.1
noncomputable def g_laws_eqStreamS : Gam := (Gam.nil).add 123 e_laws_eqStream
def n_laws_eqStreamS : An := { mask := fun | 4 => [0, 1, 4, 5] | _ => [] }
@[reducible] def d_laws_eqStreamS_4 : SD := ⟨[.data false (.sl .arg TStream),.data false (.sl .arg TStream),B,B,DB,DI,B,B,B,B,B,B,B,B,B,B,B,B,B,B,B,B,B,B,B,B,B], [Z,Z,Z,Z,Z,Z,Z,Z,Z,Z,Z,Z,Z,Z,Z,Z,Z,Z,Z,Z,Z,Z,Z,Z,Z,Z,Z], .none⟩
noncomputable def t_laws_eqStreamS_4 {R : Type} (X : SD.D d_laws_eqStreamS_4) (K : Ex → AS → Option R) := Pu.laws_eqStreamS_T4 (fun y0 => K (.exit 0) (SD.enc d_laws_eqStreamS_4 ((X.1.1, (X.1.2.1, (X.1.2.2.1, (y0, ())))), (), ()))) (fun y0 y1 => K .ret (SD.enc d_laws_eqStreamS_4 ((X.1.1, (X.1.2.1, (y0, (y1, ())))), (), ()))) X.1.1 X.1.2.1 X.1.2.2.1
noncomputable def l_laws_eqStreamS_4 : LEnt := ⟨d_laws_eqStreamS_4, fun X K => iterL (t_laws_eqStreamS_4 X K) fuel X.1.2.2.2.1⟩
noncomputable def L_laws_eqStreamS : Lam := (Lam.nil).add 4 l_laws_eqStreamS_4
theorem lok_laws_eqStreamS_4 : LOk E g_laws_eqStreamS n_laws_eqStreamS L_laws_eqStreamS (loopBody Tryz.f54 0) :=
  lok l_laws_eqStreamS_4 (by kernel_rfl) fuel fun R X K => (loop_iter (σ := Int) (fun x => SD.enc d_laws_eqStreamS_4 ((X.1.1, (X.1.2.1, (X.1.2.2.1, (x, ())))), (), ())) (t_laws_eqStreamS_4 X K) (fun m x => by kernel_rfl) fuel X.1.2.2.2.1).symm
theorem ok_laws_eqStreamS : FnOk Tryz.prog 54 e_laws_eqStreamS := FnOk.of (fnOk (Γ := g_laws_eqStreamS) (an := n_laws_eqStreamS) (Λ := L_laws_eqStreamS) ((base).add ok_laws_eqStream) Tryz.func54 (by kernel_rfl) (hF (by kernel_rfl) (cF lok_laws_eqStreamS_4 nF))) (fun a => by kernel_rfl)
noncomputable def e_laws_eqCounters : GEnt := entOf [.data true TFlow, .data true TFlow] [(false, .bool)] fun a => Pu.laws_eqCounters a.1 a.2.1
theorem ok_laws_eqCounters : FnOk Tryz.prog 57 e_laws_eqCounters := FnOk.of (fnOk (an := {}) (Λ := Lam.nil) (base) Tryz.func57 (by kernel_rfl) (hF (by kernel_rfl) nF)) (fun a => by kernel_rfl)
noncomputable def e_laws_eqHost : GEnt := entOf [.data true THost, .data true THost] [(false, .bool)] fun a => Pu.laws_eqHost a.1 a.2.1
theorem ok_laws_eqHost : FnOk Tryz.prog 10 e_laws_eqHost := FnOk.of (fnOk (an := {}) (Λ := Lam.nil) ((((((((((((((base).add ok_laws_eqMemory).add ok_laws_eqMappingS).add ok_laws_eqTxQueue).add ok_laws_eqRxQueueS).add ok_laws_eqPoolS).add ok_laws_eqVectorS).add ok_laws_eqBoolS).add ok_laws_eqFilter).add ok_laws_eqSteering).add ok_laws_eqStreamS).add ok_laws_eqStringS).add ok_laws_eqIntS).add ok_laws_eqCounters) Tryz.func10 (by kernel_rfl) (hF (by kernel_rfl) nF)) (fun a => by kernel_rfl)
noncomputable def e_laws_eqMove : GEnt := entOf [.data true TMove, .data true TMove] [(false, .bool)] fun a => Pu.laws_eqMove a.1 a.2.1
theorem ok_laws_eqMove : FnOk Tryz.prog 11 e_laws_eqMove := FnOk.of (fnOk (an := {}) (Λ := Lam.nil) (((base).add ok_laws_eqMemory).add ok_laws_eqIntS) Tryz.func11 (by kernel_rfl) (hF (by kernel_rfl) nF)) (fun a => by kernel_rfl)
noncomputable def e_laws_markText : GEnt := entOf [.data false (.int .i64)] [(false, .str)] fun a => Pu.laws_markText a.1
noncomputable def g_laws_markText : Gam := Gam.nil
def n_laws_markText : An := { mask := fun | 4 => [0, 3] | _ => [] }
@[reducible] def d_laws_markText_4 : SD := ⟨[DI,B,B,.data false .str,B,B,B,B,B,B,B,B,B,B,B,B,B,B,B,B], [Z,Z,Z,Z,Z,Z,Z,Z,Z,Z,Z,Z,Z,Z,Z,Z,Z,Z,Z,Z], .none⟩
noncomputable def t_laws_markText_4 {R : Type} (X : SD.D d_laws_markText_4) (K : Ex → AS → Option R) := Pu.laws_markText_T4 (fun y0 y1 => K (.exit 0) (SD.enc d_laws_markText_4 ((y0, (y1, ())), (), ()))) 
noncomputable def l_laws_markText_4 : LEnt := ⟨d_laws_markText_4, fun X K => iterL (t_laws_markText_4 X K) fuel (X.1.1, X.1.2.1)⟩
noncomputable def L_laws_markText : Lam := (Lam.nil).add 4 l_laws_markText_4
theorem lok_laws_markText_4 : LOk E g_laws_markText n_laws_markText L_laws_markText (loopBody Tryz.f126 0) :=
  lok l_laws_markText_4 (by kernel_rfl) fuel fun R X K => (loop_iter (σ := Int × Pu.Bytes) (fun x => SD.enc d_laws_markText_4 ((x.1, (x.2, ())), (), ())) (t_laws_markText_4 X K) (fun m x => by kernel_rfl) fuel (X.1.1, X.1.2.1)).symm
theorem ok_laws_markText : FnOk Tryz.prog 126 e_laws_markText := FnOk.of (fnOk (Γ := g_laws_markText) (an := n_laws_markText) (Λ := L_laws_markText) (base) Tryz.func126 (by kernel_rfl) (hF (by kernel_rfl) (cF lok_laws_markText_4 nF))) (fun a => by kernel_rfl)
noncomputable def e_laws_markStringS : GEnt := entIo (.sl .str) false [.data false (.int .i64)] [(false, (.int .i64))] fun x a => Pu.laws_markStringS x a.1
noncomputable def g_laws_markStringS : Gam := (Gam.nil).add 126 e_laws_markText
def n_laws_markStringS : An := { mask := fun | 2 => [0, 1, 5] | _ => [] }
@[reducible] def d_laws_markStringS_2 : SD := ⟨[.data false (.sl (.lio 0 12288036864) .str),DI,B,B,B,DI,B,B,B,B,B,B,B,B,B,B,B,B,B,B], [Z,Z,Z,Z,Z,Z,Z,Z,Z,Z,Z,Z,Z,Z,Z,Z,Z,Z,Z,Z], .some (.sl (.own (some 12288036864)) .str)⟩
noncomputable def t_laws_markStringS_2 {R : Type} (X : SD.D d_laws_markStringS_2) (K : Ex → AS → Option R) := Pu.laws_markStringS_T2 (fun y0 y1 y2 y3 => K (.exit 0) (SD.enc d_laws_markStringS_2 ((y0, (y1, (y2, ()))), (), y3))) 
noncomputable def l_laws_markStringS_2 : LEnt := ⟨d_laws_markStringS_2, fun X K => iterL (t_laws_markStringS_2 X K) fuel (X.1.1, X.1.2.1, X.1.2.2.1, X.2.2)⟩
noncomputable def L_laws_markStringS : Lam := (Lam.nil).add 2 l_laws_markStringS_2
theorem lok_laws_markStringS_2 : LOk E g_laws_markStringS n_laws_markStringS L_laws_markStringS (loopBody Tryz.f69 0) :=
  lok l_laws_markStringS_2 (by kernel_rfl) fuel fun R X K => (loop_iter (σ := (List Pu.Bytes) × Int × Int × List Pu.Bytes) (fun x => SD.enc d_laws_markStringS_2 ((x.1, (x.2.1, (x.2.2.1, ()))), (), x.2.2.2)) (t_laws_markStringS_2 X K) (fun m x => by kernel_rfl) fuel (X.1.1, X.1.2.1, X.1.2.2.1, X.2.2)).symm
theorem ok_laws_markStringS : FnOk Tryz.prog 69 e_laws_markStringS := FnOk.ofIo (fnIo (Γ := g_laws_markStringS) (an := n_laws_markStringS) (Λ := L_laws_markStringS) ((base).add ok_laws_markText) Tryz.func69 (by kernel_rfl) (hF (by kernel_rfl) (cF lok_laws_markStringS_2 nF))) (fun x a => by kernel_rfl)
noncomputable def e_laws_markMemory : GEnt := entIo (.sl .str) true [.data false (.int .i64)] [(false, (.int .i64))] fun x a => Pu.laws_markMemory x a.1
theorem ok_laws_markMemory : FnOk Tryz.prog 58 e_laws_markMemory := FnOk.ofIo (fnIo (an := {}) (Λ := Lam.nil) ((base).add ok_laws_markStringS) Tryz.func58 (by kernel_rfl) (hF (by kernel_rfl) nF)) (fun x a => by kernel_rfl)
noncomputable def e_laws_markIntS : GEnt := entIo (.sl (.int .i64)) false [.data false (.int .i64)] [(false, (.int .i64))] fun x a => Pu.laws_markIntS x a.1
noncomputable def g_laws_markIntS : Gam := Gam.nil
def n_laws_markIntS : An := { mask := fun | 2 => [0, 1, 5] | _ => [] }
@[reducible] def d_laws_markIntS_2 : SD := ⟨[.data false (.sl (.lio 0 12288036864) (.int .i64)),DI,B,B,B,DI,B,B,B,B,B,B,B,B,B,B,B,B,B], [Z,Z,Z,Z,Z,Z,Z,Z,Z,Z,Z,Z,Z,Z,Z,Z,Z,Z,Z], .some (.sl (.own (some 12288036864)) (.int .i64))⟩
noncomputable def t_laws_markIntS_2 {R : Type} (X : SD.D d_laws_markIntS_2) (K : Ex → AS → Option R) := Pu.laws_markIntS_T2 (fun y0 y1 y2 y3 => K (.exit 0) (SD.enc d_laws_markIntS_2 ((y0, (y1, (y2, ()))), (), y3))) 
noncomputable def l_laws_markIntS_2 : LEnt := ⟨d_laws_markIntS_2, fun X K => iterL (t_laws_markIntS_2 X K) fuel (X.1.1, X.1.2.1, X.1.2.2.1, X.2.2)⟩
noncomputable def L_laws_markIntS : Lam := (Lam.nil).add 2 l_laws_markIntS_2
theorem lok_laws_markIntS_2 : LOk E g_laws_markIntS n_laws_markIntS L_laws_markIntS (loopBody Tryz.f59 0) :=
  lok l_laws_markIntS_2 (by kernel_rfl) fuel fun R X K => (loop_iter (σ := (List Int) × Int × Int × List Int) (fun x => SD.enc d_laws_markIntS_2 ((x.1, (x.2.1, (x.2.2.1, ()))), (), x.2.2.2)) (t_laws_markIntS_2 X K) (fun m x => by kernel_rfl) fuel (X.1.1, X.1.2.1, X.1.2.2.1, X.2.2)).symm
theorem ok_laws_markIntS : FnOk Tryz.prog 59 e_laws_markIntS := FnOk.ofIo (fnIo (Γ := g_laws_markIntS) (an := n_laws_markIntS) (Λ := L_laws_markIntS) (base) Tryz.func59 (by kernel_rfl) (hF (by kernel_rfl) (cF lok_laws_markIntS_2 nF))) (fun x a => by kernel_rfl)
noncomputable def e_laws_markMove : GEnt := entIo TMove true [.data false (.int .i64)] [(false, (.int .i64))] fun x a => Pu.laws_markMove x a.1
theorem ok_laws_markMove : FnOk Tryz.prog 12 e_laws_markMove := FnOk.ofIo (fnIo (an := {}) (Λ := Lam.nil) (((base).add ok_laws_markMemory).add ok_laws_markIntS) Tryz.func12 (by kernel_rfl) (hF (by kernel_rfl) nF)) (fun x a => by kernel_rfl)
noncomputable def e_laws_markMappingS : GEnt := entIo (.sl TMapping) false [.data false (.int .i64)] [(false, (.int .i64))] fun x a => Pu.laws_markMappingS x a.1
noncomputable def g_laws_markMappingS : Gam := Gam.nil
def n_laws_markMappingS : An := { mask := fun | 2 => [0, 1, 5] | _ => [] }
@[reducible] def d_laws_markMappingS_2 : SD := ⟨[.data false (.sl (.lio 0 12288036864) TMapping),DI,B,B,B,DI,B,B,B,B,B,B,B,B,B,B,B,B,B,B,B,B,B,B,B,B,B,B,B,B,B,B,B,B,B,B,B,B,B,B,B,B,B], [Z,Z,Z,Z,Z,Z,Z,Z,Z,Z,Z,Z,Z,Z,Z,Z,Z,Z,Z,Z,Z,Z,Z,Z,Z,Z,Z,Z,Z,Z,Z,Z,Z,Z,Z,Z,Z,Z,Z,Z,Z,Z,Z], .some (.sl (.own (some 12288036864)) TMapping)⟩
noncomputable def t_laws_markMappingS_2 {R : Type} (X : SD.D d_laws_markMappingS_2) (K : Ex → AS → Option R) := Pu.laws_markMappingS_T2 (fun y0 y1 y2 y3 => K (.exit 0) (SD.enc d_laws_markMappingS_2 ((y0, (y1, (y2, ()))), (), y3))) 
noncomputable def l_laws_markMappingS_2 : LEnt := ⟨d_laws_markMappingS_2, fun X K => iterL (t_laws_markMappingS_2 X K) fuel (X.1.1, X.1.2.1, X.1.2.2.1, X.2.2)⟩
noncomputable def L_laws_markMappingS : Lam := (Lam.nil).add 2 l_laws_markMappingS_2
theorem lok_laws_markMappingS_2 : LOk E g_laws_markMappingS n_laws_markMappingS L_laws_markMappingS (loopBody Tryz.f60 0) :=
  lok l_laws_markMappingS_2 (by kernel_rfl) fuel fun R X K => (loop_iter (σ := (List Pu.Mapping) × Int × Int × List Pu.Mapping) (fun x => SD.enc d_laws_markMappingS_2 ((x.1, (x.2.1, (x.2.2.1, ()))), (), x.2.2.2)) (t_laws_markMappingS_2 X K) (fun m x => by kernel_rfl) fuel (X.1.1, X.1.2.1, X.1.2.2.1, X.2.2)).symm
theorem ok_laws_markMappingS : FnOk Tryz.prog 60 e_laws_markMappingS := FnOk.ofIo (fnIo (Γ := g_laws_markMappingS) (an := n_laws_markMappingS) (Λ := L_laws_markMappingS) (base) Tryz.func60 (by kernel_rfl) (hF (by kernel_rfl) (cF lok_laws_markMappingS_2 nF))) (fun x a => by kernel_rfl)
noncomputable def e_laws_markPool : GEnt := entIo TPool true [.data false (.int .i64)] [(false, (.int .i64))] fun x a => Pu.laws_markPool x a.1
theorem ok_laws_markPool : FnOk Tryz.prog 124 e_laws_markPool := FnOk.ofIo (fnIo (an := {}) (Λ := Lam.nil) ((base).add ok_laws_markIntS) Tryz.func124 (by kernel_rfl) (hF (by kernel_rfl) nF)) (fun x a => by kernel_rfl)
noncomputable def e_laws_markSentS : GEnt := entIo (.sl TSent) false [.data false (.int .i64)] [(false, (.int .i64))] fun x a => Pu.laws_markSentS x a.1
noncomputable def g_laws_markSentS : Gam := (Gam.nil).add 59 e_laws_markIntS
def n_laws_markSentS : An := { mask := fun | 2 => [0, 1, 5] | _ => [], nest := [30] }
@[reducible] def d_laws_markSentS_2 : SD := ⟨[.data false (.sl (.lio 0 12288036864) TSent),DI,B,B,B,DI,B,B,B,B,B,B,B,B,B,B,B,B,B,B,B,B,B,B,B,B,B,B,B,B,B,B,B,B], [Z,Z,Z,Z,Z,Z,Z,Z,Z,Z,Z,Z,Z,Z,Z,Z,Z,Z,Z,Z,Z,Z,Z,Z,Z,Z,Z,Z,Z,Z,Z,Z,Z,Z], .some (.sl (.own (some 12288036864)) TSent)⟩
noncomputable def t_laws_markSentS_2 {R : Type} (X : SD.D d_laws_markSentS_2) (K : Ex → AS → Option R) := Pu.laws_markSentS_T2 (fun y0 y1 y2 y3 => K (.exit 0) (SD.enc d_laws_markSentS_2 ((y0, (y1, (y2, ()))), (), y3))) 
noncomputable def l_laws_markSentS_2 : LEnt := ⟨d_laws_markSentS_2, fun X K => iterL (t_laws_markSentS_2 X K) fuel (X.1.1, X.1.2.1, X.1.2.2.1, X.2.2)⟩
noncomputable def L_laws_markSentS : Lam := (Lam.nil).add 2 l_laws_markSentS_2
theorem lok_laws_markSentS_2 : LOk E g_laws_markSentS n_laws_markSentS L_laws_markSentS (loopBody Tryz.f125 0) :=
  lok l_laws_markSentS_2 (by kernel_rfl) fuel fun R X K => (loop_iter (σ := (List Pu.Sent) × Int × Int × List Pu.Sent) (fun x => SD.enc d_laws_markSentS_2 ((x.1, (x.2.1, (x.2.2.1, ()))), (), x.2.2.2)) (t_laws_markSentS_2 X K) (fun m x => by kernel_rfl) fuel (X.1.1, X.1.2.1, X.1.2.2.1, X.2.2)).symm
theorem ok_laws_markSentS : FnOk Tryz.prog 125 e_laws_markSentS := FnOk.ofIo (fnIo (Γ := g_laws_markSentS) (an := n_laws_markSentS) (Λ := L_laws_markSentS) ((base).add ok_laws_markIntS) Tryz.func125 (by kernel_rfl) (hF (by kernel_rfl) (cF lok_laws_markSentS_2 nF))) (fun x a => by kernel_rfl)
noncomputable def e_laws_markTxQueue : GEnt := entIo TTxQueue true [.data false (.int .i64)] [(false, (.int .i64))] fun x a => Pu.laws_markTxQueue x a.1
theorem ok_laws_markTxQueue : FnOk Tryz.prog 61 e_laws_markTxQueue := FnOk.ofIo (fnIo (an := {}) (Λ := Lam.nil) (((base).add ok_laws_markPool).add ok_laws_markSentS) Tryz.func61 (by kernel_rfl) (hF (by kernel_rfl) nF)) (fun x a => by kernel_rfl)
noncomputable def e_laws_markRxQueueS : GEnt := entIo (.sl TRxQueue) false [.data false (.int .i64)] [(false, (.int .i64))] fun x a => Pu.laws_markRxQueueS x a.1
noncomputable def g_laws_markRxQueueS : Gam := (Gam.nil).add 126 e_laws_markText
def n_laws_markRxQueueS : An := { mask := fun | 2 => [0, 1, 5] | _ => [] }
@[reducible] def d_laws_markRxQueueS_2 : SD := ⟨[.data false (.sl (.lio 0 12288036864) TRxQueue),DI,B,B,B,DI,B,B,B,B,B,B,B,B,B,B,B,B,B,B,B,B,B,B,B,B,B,B,B,B,B,B,B,B,B,B,B,B,B,B,B,B,B,B,B,B,B,B,B,B,B,B,B,B,B,B,B,B,B,B,B,B,B,B,B,B,B,B,B,B,B,B,B,B,B,B,B,B,B,B,B,B,B,B,B,B,B,B,B,B,B,B,B,B,B,B,B,B,B,B,B,B,B,B,B,B,B,B,B,B,B,B,B,B,B,B,B,B,B,B,B,B,B,B,B,B,B,B,B,B,B,B,B,B,B,B,B,B,B,B,B,B,B,B,B,B,B,B,B,B,B,B,B,B,B,B,B,B,B,B,B,B,B,B,B,B,B,B,B,B,B,B,B,B,B,B,B,B,B,B,B,B,B,B,B,B,B,B,B,B,B,B,B,B,B,B,B,B,B,B,B,B,B,B,B,B,B,B,B,B,B,B,B,B,B,B,B,B,B,B,B,B,B,B,B,B,B,B,B,B,B,B,B,B,B,B,B,B,B,B,B,B,B,B,B,B,B,B,B,B,B,B,B,B,B,B,B,B,B,B,B,B,B,B,B,B,B,B,B,B,B,B,B,B,B,B,B,B], [Z,Z,Z,Z,Z,Z,Z,Z,Z,Z,Z,Z,Z,Z,Z,Z,Z,Z,Z,Z,Z,Z,Z,Z,Z,Z,Z,Z,Z,Z,Z,Z,Z,Z,Z,Z,Z,Z,Z,Z,Z,Z,Z,Z,Z,Z,Z,Z,Z,Z,Z,Z,Z,Z,Z,Z,Z,Z,Z,Z,Z,Z,Z,Z,Z,Z,Z,Z,Z,Z,Z,Z,Z,Z,Z,Z,Z,Z,Z,Z,Z,Z,Z,Z,Z,Z,Z,Z,Z,Z,Z,Z,Z,Z,Z,Z,Z,Z,Z,Z,Z,Z,Z,Z,Z,Z,Z,Z,Z,Z,Z,Z,Z,Z,Z,Z,Z,Z,Z,Z,Z,Z,Z,Z,Z,Z,Z,Z,Z,Z,Z,Z,Z,Z,Z,Z,Z,Z,Z,Z,Z,Z,Z,Z,Z,Z,Z,Z,Z,Z,Z,Z,Z,Z,Z,Z,Z,Z,Z,Z,Z,Z,Z,Z,Z,Z,Z,Z,Z,Z,Z,Z,Z,Z,Z,Z,Z,Z,Z,Z,Z,Z,Z,Z,Z,Z,Z,Z,Z,Z,Z,Z,Z,Z,Z,Z,Z,Z,Z,Z,Z,Z,Z,Z,Z,Z,Z,Z,Z,Z,Z,Z,Z,Z,Z,Z,Z,Z,Z,Z,Z,Z,Z,Z,Z,Z,Z,Z,Z,Z,Z,Z,Z,Z,Z,Z,Z,Z,Z,Z,Z,Z,Z,Z,Z,Z,Z,Z,Z,Z,Z,Z,Z,Z,Z,Z,Z,Z,Z,Z,Z,Z,Z,Z,Z,Z,Z,Z,Z,Z,Z,Z,Z,Z,Z,Z,Z,Z], .some (.sl (.own (some 12288036864)) TRxQueue)⟩
noncomputable def t_laws_markRxQueueS_2 {R : Type} (X : SD.D d_laws_markRxQueueS_2) (K : Ex → AS → Option R) := Pu.laws_markRxQueueS_T2 (fun y0 y1 y2 y3 => K (.exit 0) (SD.enc d_laws_markRxQueueS_2 ((y0, (y1, (y2, ()))), (), y3))) 
noncomputable def l_laws_markRxQueueS_2 : LEnt := ⟨d_laws_markRxQueueS_2, fun X K => iterL (t_laws_markRxQueueS_2 X K) fuel (X.1.1, X.1.2.1, X.1.2.2.1, X.2.2)⟩
noncomputable def L_laws_markRxQueueS : Lam := (Lam.nil).add 2 l_laws_markRxQueueS_2
theorem lok_laws_markRxQueueS_2 : LOk E g_laws_markRxQueueS n_laws_markRxQueueS L_laws_markRxQueueS (loopBody Tryz.f62 0) :=
  lok l_laws_markRxQueueS_2 (by kernel_rfl) fuel fun R X K => (loop_iter (σ := (List Pu.RxQueue) × Int × Int × List Pu.RxQueue) (fun x => SD.enc d_laws_markRxQueueS_2 ((x.1, (x.2.1, (x.2.2.1, ()))), (), x.2.2.2)) (t_laws_markRxQueueS_2 X K) (fun m x => by kernel_rfl) fuel (X.1.1, X.1.2.1, X.1.2.2.1, X.2.2)).symm
theorem ok_laws_markRxQueueS : FnOk Tryz.prog 62 e_laws_markRxQueueS := FnOk.ofIo (fnIo (Γ := g_laws_markRxQueueS) (an := n_laws_markRxQueueS) (Λ := L_laws_markRxQueueS) ((base).add ok_laws_markText) Tryz.func62 (by kernel_rfl) (hF (by kernel_rfl) (cF lok_laws_markRxQueueS_2 nF))) (fun x a => by kernel_rfl)
noncomputable def e_laws_markPoolS : GEnt := entIo (.sl TPool) false [.data false (.int .i64)] [(false, (.int .i64))] fun x a => Pu.laws_markPoolS x a.1
noncomputable def g_laws_markPoolS : Gam := (Gam.nil).add 59 e_laws_markIntS
def n_laws_markPoolS : An := { mask := fun | 2 => [0, 1, 5] | _ => [], nest := [37] }
@[reducible] def d_laws_markPoolS_2 : SD := ⟨[.data false (.sl (.lio 0 12288036864) TPool),DI,B,B,B,DI,B,B,B,B,B,B,B,B,B,B,B,B,B,B,B,B,B,B,B,B,B,B,B,B,B,B,B,B,B,B,B,B,B,B,B], [Z,Z,Z,Z,Z,Z,Z,Z,Z,Z,Z,Z,Z,Z,Z,Z,Z,Z,Z,Z,Z,Z,Z,Z,Z,Z,Z,Z,Z,Z,Z,Z,Z,Z,Z,Z,Z,Z,Z,Z,Z], .some (.sl (.own (some 12288036864)) TPool)⟩
noncomputable def t_laws_markPoolS_2 {R : Type} (X : SD.D d_laws_markPoolS_2) (K : Ex → AS → Option R) := Pu.laws_markPoolS_T2 (fun y0 y1 y2 y3 => K (.exit 0) (SD.enc d_laws_markPoolS_2 ((y0, (y1, (y2, ()))), (), y3))) 
noncomputable def l_laws_markPoolS_2 : LEnt := ⟨d_laws_markPoolS_2, fun X K => iterL (t_laws_markPoolS_2 X K) fuel (X.1.1, X.1.2.1, X.1.2.2.1, X.2.2)⟩
noncomputable def L_laws_markPoolS : Lam := (Lam.nil).add 2 l_laws_markPoolS_2
theorem lok_laws_markPoolS_2 : LOk E g_laws_markPoolS n_laws_markPoolS L_laws_markPoolS (loopBody Tryz.f63 0) :=
  lok l_laws_markPoolS_2 (by kernel_rfl) fuel fun R X K => (loop_iter (σ := (List Pu.Pool) × Int × Int × List Pu.Pool) (fun x => SD.enc d_laws_markPoolS_2 ((x.1, (x.2.1, (x.2.2.1, ()))), (), x.2.2.2)) (t_laws_markPoolS_2 X K) (fun m x => by kernel_rfl) fuel (X.1.1, X.1.2.1, X.1.2.2.1, X.2.2)).symm
theorem ok_laws_markPoolS : FnOk Tryz.prog 63 e_laws_markPoolS := FnOk.ofIo (fnIo (Γ := g_laws_markPoolS) (an := n_laws_markPoolS) (Λ := L_laws_markPoolS) ((base).add ok_laws_markIntS) Tryz.func63 (by kernel_rfl) (hF (by kernel_rfl) (cF lok_laws_markPoolS_2 nF))) (fun x a => by kernel_rfl)
noncomputable def e_laws_markVectorS : GEnt := entIo (.sl TVector) false [.data false (.int .i64)] [(false, (.int .i64))] fun x a => Pu.laws_markVectorS x a.1
noncomputable def g_laws_markVectorS : Gam := Gam.nil
def n_laws_markVectorS : An := { mask := fun | 2 => [0, 1, 5] | _ => [] }
@[reducible] def d_laws_markVectorS_2 : SD := ⟨[.data false (.sl (.lio 0 12288036864) TVector),DI,B,B,B,DI,B,B,B,B,B,B,B,B,B,B,B,B,B,B,B,B,B,B,B,B,B,B,B,B,B,B,B,B,B,B,B,B,B,B,B,B,B,B,B,B,B,B,B,B,B,B,B,B,B,B,B,B,B], [Z,Z,Z,Z,Z,Z,Z,Z,Z,Z,Z,Z,Z,Z,Z,Z,Z,Z,Z,Z,Z,Z,Z,Z,Z,Z,Z,Z,Z,Z,Z,Z,Z,Z,Z,Z,Z,Z,Z,Z,Z,Z,Z,Z,Z,Z,Z,Z,Z,Z,Z,Z,Z,Z,Z,Z,Z,Z,Z], .some (.sl (.own (some 12288036864)) TVector)⟩
noncomputable def t_laws_markVectorS_2 {R : Type} (X : SD.D d_laws_markVectorS_2) (K : Ex → AS → Option R) := Pu.laws_markVectorS_T2 (fun y0 y1 y2 y3 => K (.exit 0) (SD.enc d_laws_markVectorS_2 ((y0, (y1, (y2, ()))), (), y3))) 
noncomputable def l_laws_markVectorS_2 : LEnt := ⟨d_laws_markVectorS_2, fun X K => iterL (t_laws_markVectorS_2 X K) fuel (X.1.1, X.1.2.1, X.1.2.2.1, X.2.2)⟩
noncomputable def L_laws_markVectorS : Lam := (Lam.nil).add 2 l_laws_markVectorS_2
theorem lok_laws_markVectorS_2 : LOk E g_laws_markVectorS n_laws_markVectorS L_laws_markVectorS (loopBody Tryz.f64 0) :=
  lok l_laws_markVectorS_2 (by kernel_rfl) fuel fun R X K => (loop_iter (σ := (List Pu.Vector) × Int × Int × List Pu.Vector) (fun x => SD.enc d_laws_markVectorS_2 ((x.1, (x.2.1, (x.2.2.1, ()))), (), x.2.2.2)) (t_laws_markVectorS_2 X K) (fun m x => by kernel_rfl) fuel (X.1.1, X.1.2.1, X.1.2.2.1, X.2.2)).symm
theorem ok_laws_markVectorS : FnOk Tryz.prog 64 e_laws_markVectorS := FnOk.ofIo (fnIo (Γ := g_laws_markVectorS) (an := n_laws_markVectorS) (Λ := L_laws_markVectorS) (base) Tryz.func64 (by kernel_rfl) (hF (by kernel_rfl) (cF lok_laws_markVectorS_2 nF))) (fun x a => by kernel_rfl)
noncomputable def e_laws_markBoolS : GEnt := entIo (.sl .bool) false [.data false (.int .i64)] [(false, (.int .i64))] fun x a => Pu.laws_markBoolS x a.1
noncomputable def g_laws_markBoolS : Gam := Gam.nil
def n_laws_markBoolS : An := { mask := fun | 2 => [0, 1, 5] | _ => [] }
@[reducible] def d_laws_markBoolS_2 : SD := ⟨[.data false (.sl (.lio 0 12288036864) .bool),DI,B,B,B,DI,B,B,B,B,B,B,B,B,B,B,B,B,B,B,B], [Z,Z,Z,Z,Z,Z,Z,Z,Z,Z,Z,Z,Z,Z,Z,Z,Z,Z,Z,Z,Z], .some (.sl (.own (some 12288036864)) .bool)⟩
noncomputable def t_laws_markBoolS_2 {R : Type} (X : SD.D d_laws_markBoolS_2) (K : Ex → AS → Option R) := Pu.laws_markBoolS_T2 (fun y0 y1 y2 y3 => K (.exit 0) (SD.enc d_laws_markBoolS_2 ((y0, (y1, (y2, ()))), (), y3))) 
noncomputable def l_laws_markBoolS_2 : LEnt := ⟨d_laws_markBoolS_2, fun X K => iterL (t_laws_markBoolS_2 X K) fuel (X.1.1, X.1.2.1, X.1.2.2.1, X.2.2)⟩
noncomputable def L_laws_markBoolS : Lam := (Lam.nil).add 2 l_laws_markBoolS_2
theorem lok_laws_markBoolS_2 : LOk E g_laws_markBoolS n_laws_markBoolS L_laws_markBoolS (loopBody Tryz.f65 0) :=
  lok l_laws_markBoolS_2 (by kernel_rfl) fuel fun R X K => (loop_iter (σ := (List Bool) × Int × Int × List Bool) (fun x => SD.enc d_laws_markBoolS_2 ((x.1, (x.2.1, (x.2.2.1, ()))), (), x.2.2.2)) (t_laws_markBoolS_2 X K) (fun m x => by kernel_rfl) fuel (X.1.1, X.1.2.1, X.1.2.2.1, X.2.2)).symm
theorem ok_laws_markBoolS : FnOk Tryz.prog 65 e_laws_markBoolS := FnOk.ofIo (fnIo (Γ := g_laws_markBoolS) (an := n_laws_markBoolS) (Λ := L_laws_markBoolS) (base) Tryz.func65 (by kernel_rfl) (hF (by kernel_rfl) (cF lok_laws_markBoolS_2 nF))) (fun x a => by kernel_rfl)
noncomputable def e_laws_markFilter : GEnt := entIo TFilter true [.data false (.int .i64)] [(false, (.int .i64))] fun x a => Pu.laws_markFilter x a.1
theorem ok_laws_markFilter : FnOk Tryz.prog 66 e_laws_markFilter := FnOk.ofIo (fnIo (an := {}) (Λ := Lam.nil) ((base).add ok_laws_markIntS) Tryz.func66 (by kernel_rfl) (hF (by kernel_rfl) nF)) (fun x a => by kernel_rfl)
noncomputable def e_laws_markRuleS : GEnt := entIo (.sl TRule) false [.data false (.int .i64)] [(false, (.int .i64))] fun x a => Pu.laws_markRuleS x a.1
noncomputable def g_laws_markRuleS : Gam := Gam.nil
def n_laws_markRuleS : An := { mask := fun | 2 => [0, 1, 5] | _ => [] }
@[reducible] def d_laws_markRuleS_2 : SD := ⟨[.data false (.sl (.lio 0 12288036864) TRule),DI,B,B,B,DI,B,B,B,B,B,B,B,B,B,B,B,B,B,B,B,B,B,B,B,B,B,B,B,B,B,B,B,B,B,B,B,B,B,B,B,B,B,B,B,B,B,B,B,B,B,B,B,B,B,B,B,B,B,B,B,B,B,B,B,B,B,B,B,B,B,B,B,B,B,B], [Z,Z,Z,Z,Z,Z,Z,Z,Z,Z,Z,Z,Z,Z,Z,Z,Z,Z,Z,Z,Z,Z,Z,Z,Z,Z,Z,Z,Z,Z,Z,Z,Z,Z,Z,Z,Z,Z,Z,Z,Z,Z,Z,Z,Z,Z,Z,Z,Z,Z,Z,Z,Z,Z,Z,Z,Z,Z,Z,Z,Z,Z,Z,Z,Z,Z,Z,Z,Z,Z,Z,Z,Z,Z,Z,Z], .some (.sl (.own (some 12288036864)) TRule)⟩
noncomputable def t_laws_markRuleS_2 {R : Type} (X : SD.D d_laws_markRuleS_2) (K : Ex → AS → Option R) := Pu.laws_markRuleS_T2 (fun y0 y1 y2 y3 => K (.exit 0) (SD.enc d_laws_markRuleS_2 ((y0, (y1, (y2, ()))), (), y3))) 
noncomputable def l_laws_markRuleS_2 : LEnt := ⟨d_laws_markRuleS_2, fun X K => iterL (t_laws_markRuleS_2 X K) fuel (X.1.1, X.1.2.1, X.1.2.2.1, X.2.2)⟩
noncomputable def L_laws_markRuleS : Lam := (Lam.nil).add 2 l_laws_markRuleS_2
theorem lok_laws_markRuleS_2 : LOk E g_laws_markRuleS n_laws_markRuleS L_laws_markRuleS (loopBody Tryz.f127 0) :=
  lok l_laws_markRuleS_2 (by kernel_rfl) fuel fun R X K => (loop_iter (σ := (List Pu.Rule) × Int × Int × List Pu.Rule) (fun x => SD.enc d_laws_markRuleS_2 ((x.1, (x.2.1, (x.2.2.1, ()))), (), x.2.2.2)) (t_laws_markRuleS_2 X K) (fun m x => by kernel_rfl) fuel (X.1.1, X.1.2.1, X.1.2.2.1, X.2.2)).symm
theorem ok_laws_markRuleS : FnOk Tryz.prog 127 e_laws_markRuleS := FnOk.ofIo (fnIo (Γ := g_laws_markRuleS) (an := n_laws_markRuleS) (Λ := L_laws_markRuleS) (base) Tryz.func127 (by kernel_rfl) (hF (by kernel_rfl) (cF lok_laws_markRuleS_2 nF))) (fun x a => by kernel_rfl)
noncomputable def e_laws_markSlotS : GEnt := entIo (.sl TSlot) false [.data false (.int .i64)] [(false, (.int .i64))] fun x a => Pu.laws_markSlotS x a.1
noncomputable def g_laws_markSlotS : Gam := Gam.nil
def n_laws_markSlotS : An := { mask := fun | 2 => [0, 1, 5] | _ => [] }
@[reducible] def d_laws_markSlotS_2 : SD := ⟨[.data false (.sl (.lio 0 12288036864) TSlot),DI,B,B,B,DI,B,B,B,B,B,B,B,B,B,B,B,B,B,B,B,B,B,B,B,B,B,B,B,B,B,B,B,B,B,B,B,B,B,B,B,B,B,B,B,B,B,B,B,B,B,B,B,B,B,B,B,B,B,B,B,B,B,B,B,B,B], [Z,Z,Z,Z,Z,Z,Z,Z,Z,Z,Z,Z,Z,Z,Z,Z,Z,Z,Z,Z,Z,Z,Z,Z,Z,Z,Z,Z,Z,Z,Z,Z,Z,Z,Z,Z,Z,Z,Z,Z,Z,Z,Z,Z,Z,Z,Z,Z,Z,Z,Z,Z,Z,Z,Z,Z,Z,Z,Z,Z,Z,Z,Z,Z,Z,Z,Z], .some (.sl (.own (some 12288036864)) TSlot)⟩
noncomputable def t_laws_markSlotS_2 {R : Type} (X : SD.D d_laws_markSlotS_2) (K : Ex → AS → Option R) := Pu.laws_markSlotS_T2 (fun y0 y1 y2 y3 => K (.exit 0) (SD.enc d_laws_markSlotS_2 ((y0, (y1, (y2, ()))), (), y3))) 
noncomputable def l_laws_markSlotS_2 : LEnt := ⟨d_laws_markSlotS_2, fun X K => iterL (t_laws_markSlotS_2 X K) fuel (X.1.1, X.1.2.1, X.1.2.2.1, X.2.2)⟩
noncomputable def L_laws_markSlotS : Lam := (Lam.nil).add 2 l_laws_markSlotS_2
theorem lok_laws_markSlotS_2 : LOk E g_laws_markSlotS n_laws_markSlotS L_laws_markSlotS (loopBody Tryz.f154 0) :=
  lok l_laws_markSlotS_2 (by kernel_rfl) fuel fun R X K => (loop_iter (σ := (List Pu.Slot) × Int × Int × List Pu.Slot) (fun x => SD.enc d_laws_markSlotS_2 ((x.1, (x.2.1, (x.2.2.1, ()))), (), x.2.2.2)) (t_laws_markSlotS_2 X K) (fun m x => by kernel_rfl) fuel (X.1.1, X.1.2.1, X.1.2.2.1, X.2.2)).symm
theorem ok_laws_markSlotS : FnOk Tryz.prog 154 e_laws_markSlotS := FnOk.ofIo (fnIo (Γ := g_laws_markSlotS) (an := n_laws_markSlotS) (Λ := L_laws_markSlotS) (base) Tryz.func154 (by kernel_rfl) (hF (by kernel_rfl) (cF lok_laws_markSlotS_2 nF))) (fun x a => by kernel_rfl)
noncomputable def e_laws_markFlowTable : GEnt := entIo (.sl TSlot) true [.data false (.int .i64)] [(false, (.int .i64))] fun x a => Pu.laws_markFlowTable x a.1
theorem ok_laws_markFlowTable : FnOk Tryz.prog 128 e_laws_markFlowTable := FnOk.ofIo (fnIo (an := {}) (Λ := Lam.nil) ((base).add ok_laws_markSlotS) Tryz.func128 (by kernel_rfl) (hF (by kernel_rfl) nF)) (fun x a => by kernel_rfl)
noncomputable def e_laws_markSpread : GEnt := entIo TSpread true [.data false (.int .i64)] [(false, (.int .i64))] fun x a => Pu.laws_markSpread x a.1
theorem ok_laws_markSpread : FnOk Tryz.prog 129 e_laws_markSpread := FnOk.ofIo (fnIo (an := {}) (Λ := Lam.nil) ((base).add ok_laws_markIntS) Tryz.func129 (by kernel_rfl) (hF (by kernel_rfl) nF)) (fun x a => by kernel_rfl)
noncomputable def e_laws_markSteering : GEnt := entIo TSteering true [.data false (.int .i64)] [(false, (.int .i64))] fun x a => Pu.laws_markSteering x a.1
theorem ok_laws_markSteering : FnOk Tryz.prog 67 e_laws_markSteering := FnOk.ofIo (fnIo (an := {}) (Λ := Lam.nil) ((((base).add ok_laws_markRuleS).add ok_laws_markFlowTable).add ok_laws_markSpread) Tryz.func67 (by kernel_rfl) (hF (by kernel_rfl) nF)) (fun x a => by kernel_rfl)
noncomputable def e_laws_markStreamS : GEnt := entIo (.sl TStream) false [.data false (.int .i64)] [(false, (.int .i64))] fun x a => Pu.laws_markStreamS x a.1
noncomputable def g_laws_markStreamS : Gam := (Gam.nil).add 126 e_laws_markText
def n_laws_markStreamS : An := { mask := fun | 2 => [0, 1, 5] | _ => [] }
@[reducible] def d_laws_markStreamS_2 : SD := ⟨[.data false (.sl (.lio 0 12288036864) TStream),DI,B,B,B,DI,B,B,B,B,B,B,B,B,B,B,B,B,B,B,B,B,B,B,B,B,B,B,B,B,B,B,B,B,B,B,B,B,B,B,B,B,B,B,B,B,B,B,B,B,B,B,B,B,B,B,B,B,B,B,B,B,B,B,B,B,B,B,B,B,B,B,B,B,B,B,B], [Z,Z,Z,Z,Z,Z,Z,Z,Z,Z,Z,Z,Z,Z,Z,Z,Z,Z,Z,Z,Z,Z,Z,Z,Z,Z,Z,Z,Z,Z,Z,Z,Z,Z,Z,Z,Z,Z,Z,Z,Z,Z,Z,Z,Z,Z,Z,Z,Z,Z,Z,Z,Z,Z,Z,Z,Z,Z,Z,Z,Z,Z,Z,Z,Z,Z,Z,Z,Z,Z,Z,Z,Z,Z,Z,Z,Z], .some (.sl (.own (some 12288036864)) TStream)⟩
noncomputable def t_laws_markStreamS_2 {R : Type} (X : SD.D d_laws_markStreamS_2) (K : Ex → AS → Option R) := Pu.laws_markStreamS_T2 (fun y0 y1 y2 y3 => K (.exit 0) (SD.enc d_laws_markStreamS_2 ((y0, (y1, (y2, ()))), (), y3))) 
noncomputable def l_laws_markStreamS_2 : LEnt := ⟨d_laws_markStreamS_2, fun X K => iterL (t_laws_markStreamS_2 X K) fuel (X.1.1, X.1.2.1, X.1.2.2.1, X.2.2)⟩
noncomputable def L_laws_markStreamS : Lam := (Lam.nil).add 2 l_laws_markStreamS_2
theorem lok_laws_markStreamS_2 : LOk E g_laws_markStreamS n_laws_markStreamS L_laws_markStreamS (loopBody Tryz.f68 0) :=
  lok l_laws_markStreamS_2 (by kernel_rfl) fuel fun R X K => (loop_iter (σ := (List Pu.Stream) × Int × Int × List Pu.Stream) (fun x => SD.enc d_laws_markStreamS_2 ((x.1, (x.2.1, (x.2.2.1, ()))), (), x.2.2.2)) (t_laws_markStreamS_2 X K) (fun m x => by kernel_rfl) fuel (X.1.1, X.1.2.1, X.1.2.2.1, X.2.2)).symm
theorem ok_laws_markStreamS : FnOk Tryz.prog 68 e_laws_markStreamS := FnOk.ofIo (fnIo (Γ := g_laws_markStreamS) (an := n_laws_markStreamS) (Λ := L_laws_markStreamS) ((base).add ok_laws_markText) Tryz.func68 (by kernel_rfl) (hF (by kernel_rfl) (cF lok_laws_markStreamS_2 nF))) (fun x a => by kernel_rfl)
noncomputable def e_laws_markHost : GEnt := entIo THost true [.data false (.int .i64)] [(false, (.int .i64))] fun x a => Pu.laws_markHost x a.1
theorem ok_laws_markHost : FnOk Tryz.prog 13 e_laws_markHost := FnOk.ofIo (fnIo (an := {}) (Λ := Lam.nil) (((((((((((((base).add ok_laws_markMemory).add ok_laws_markIntS).add ok_laws_markMappingS).add ok_laws_markTxQueue).add ok_laws_markRxQueueS).add ok_laws_markPoolS).add ok_laws_markVectorS).add ok_laws_markBoolS).add ok_laws_markFilter).add ok_laws_markSteering).add ok_laws_markStreamS).add ok_laws_markStringS) Tryz.func13 (by kernel_rfl) (hF (by kernel_rfl) nF)) (fun x a => by kernel_rfl)
noncomputable def e_laws_heldStringS : GEnt := entOf [.data false (.sl .str), .data false (.int .i64)] [(false, (.int .i64))] fun a => Pu.laws_heldStringS a.1 a.2.1
noncomputable def g_laws_heldStringS : Gam := (Gam.nil).add 126 e_laws_markText
def n_laws_heldStringS : An := { mask := fun | 2 => [0, 1, 4, 5] | _ => [] }
@[reducible] def d_laws_heldStringS_2 : SD := ⟨[.data false (.sl .arg .str),DI,B,B,DI,DI,B,B,B,B,B,B,B,B,B,B,B,B,B,B,B,B], [Z,Z,Z,Z,Z,Z,Z,Z,Z,Z,Z,Z,Z,Z,Z,Z,Z,Z,Z,Z,Z,Z], .none⟩
noncomputable def t_laws_heldStringS_2 {R : Type} (X : SD.D d_laws_heldStringS_2) (K : Ex → AS → Option R) := Pu.laws_heldStringS_T2 (fun y0 y1 => K (.exit 0) (SD.enc d_laws_heldStringS_2 ((X.1.1, (y0, (X.1.2.2.1, (y1, ())))), (), ()))) (fun y0 y1 y2 => K .ret (SD.enc d_laws_heldStringS_2 ((X.1.1, (y0, (y1, (y2, ())))), (), ()))) X.1.1 X.1.2.2.1
noncomputable def l_laws_heldStringS_2 : LEnt := ⟨d_laws_heldStringS_2, fun X K => iterL (t_laws_heldStringS_2 X K) fuel (X.1.2.1, X.1.2.2.2.1)⟩
noncomputable def L_laws_heldStringS : Lam := (Lam.nil).add 2 l_laws_heldStringS_2
theorem lok_laws_heldStringS_2 : LOk E g_laws_heldStringS n_laws_heldStringS L_laws_heldStringS (loopBody Tryz.f80 0) :=
  lok l_laws_heldStringS_2 (by kernel_rfl) fuel fun R X K => (loop_iter (σ := Int × Int) (fun x => SD.enc d_laws_heldStringS_2 ((X.1.1, (x.1, (X.1.2.2.1, (x.2, ())))), (), ())) (t_laws_heldStringS_2 X K) (fun m x => by kernel_rfl) fuel (X.1.2.1, X.1.2.2.2.1)).symm
theorem ok_laws_heldStringS : FnOk Tryz.prog 80 e_laws_heldStringS := FnOk.of (fnOk (Γ := g_laws_heldStringS) (an := n_laws_heldStringS) (Λ := L_laws_heldStringS) ((base).add ok_laws_markText) Tryz.func80 (by kernel_rfl) (hF (by kernel_rfl) (cF lok_laws_heldStringS_2 nF))) (fun a => by kernel_rfl)
noncomputable def e_laws_heldMemory : GEnt := entOf [.data true (.sl .str), .data false (.int .i64)] [(false, (.int .i64))] fun a => Pu.laws_heldMemory a.1 a.2.1
theorem ok_laws_heldMemory : FnOk Tryz.prog 70 e_laws_heldMemory := FnOk.of (fnOk (an := {}) (Λ := Lam.nil) ((base).add ok_laws_heldStringS) Tryz.func70 (by kernel_rfl) (hF (by kernel_rfl) nF)) (fun a => by kernel_rfl)
noncomputable def e_laws_heldMappingS : GEnt := entOf [.data false (.sl TMapping), .data false (.int .i64)] [(false, (.int .i64))] fun a => Pu.laws_heldMappingS a.1 a.2.1
noncomputable def g_laws_heldMappingS : Gam := Gam.nil
def n_laws_heldMappingS : An := { mask := fun | 2 => [0, 1, 4, 5] | _ => [] }
@[reducible] def d_laws_heldMappingS_2 : SD := ⟨[.data false (.sl .arg TMapping),DI,B,B,DI,DI,B,B,B,B,B,B,B,B,B,B,B,B,B,B,B,B,B,B,B,B,B,B,B,B,B,B,B,B,B,B,B,B,B,B,B,B,B,B,B,B,B,B,B,B,B], [Z,Z,Z,Z,Z,Z,Z,Z,Z,Z,Z,Z,Z,Z,Z,Z,Z,Z,Z,Z,Z,Z,Z,Z,Z,Z,Z,Z,Z,Z,Z,Z,Z,Z,Z,Z,Z,Z,Z,Z,Z,Z,Z,Z,Z,Z,Z,Z,Z,Z,Z], .none⟩
noncomputable def t_laws_heldMappingS_2 {R : Type} (X : SD.D d_laws_heldMappingS_2) (K : Ex → AS → Option R) := Pu.laws_heldMappingS_T2 (fun y0 y1 => K (.exit 0) (SD.enc d_laws_heldMappingS_2 ((X.1.1, (y0, (X.1.2.2.1, (y1, ())))), (), ()))) (fun y0 y1 y2 => K .ret (SD.enc d_laws_heldMappingS_2 ((X.1.1, (y0, (y1, (y2, ())))), (), ()))) X.1.1 X.1.2.2.1
noncomputable def l_laws_heldMappingS_2 : LEnt := ⟨d_laws_heldMappingS_2, fun X K => iterL (t_laws_heldMappingS_2 X K) fuel (X.1.2.1, X.1.2.2.2.1)⟩
noncomputable def L_laws_heldMappingS : Lam := (Lam.nil).add 2 l_laws_heldMappingS_2
theorem lok_laws_heldMappingS_2 : LOk E g_laws_heldMappingS n_laws_heldMappingS L_laws_heldMappingS (loopBody Tryz.f71 0) :=
  lok l_laws_heldMappingS_2 (by kernel_rfl) fuel fun R X K => (loop_iter (σ := Int × Int) (fun x => SD.enc d_laws_heldMappingS_2 ((X.1.1, (x.1, (X.1.2.2.1, (x.2, ())))), (), ())) (t_laws_heldMappingS_2 X K) (fun m x => by kernel_rfl) fuel (X.1.2.1, X.1.2.2.2.1)).symm
theorem ok_laws_heldMappingS : FnOk Tryz.prog 71 e_laws_heldMappingS := FnOk.of (fnOk (Γ := g_laws_heldMappingS) (an := n_laws_heldMappingS) (Λ := L_laws_heldMappingS) (base) Tryz.func71 (by kernel_rfl) (hF (by kernel_rfl) (cF lok_laws_heldMappingS_2 nF))) (fun a => by kernel_rfl)
noncomputable def e_laws_heldIntS : GEnt := entOf [.data false (.sl (.int .i64)), .data false (.int .i64)] [(false, (.int .i64))] fun a => Pu.laws_heldIntS a.1 a.2.1
noncomputable def g_laws_heldIntS : Gam := Gam.nil
def n_laws_heldIntS : An := { mask := fun | 2 => [0, 1, 4, 5] | _ => [] }
@[reducible] def d_laws_heldIntS_2 : SD := ⟨[.data false (.sl .arg (.int .i64)),DI,B,B,DI,DI,B,B,B,B,B,B,B,B,B,B,B,B,B,B,B], [Z,Z,Z,Z,Z,Z,Z,Z,Z,Z,Z,Z,Z,Z,Z,Z,Z,Z,Z,Z,Z], .none⟩
noncomputable def t_laws_heldIntS_2 {R : Type} (X : SD.D d_laws_heldIntS_2) (K : Ex → AS → Option R) := Pu.laws_heldIntS_T2 (fun y0 y1 => K (.exit 0) (SD.enc d_laws_heldIntS_2 ((X.1.1, (y0, (X.1.2.2.1, (y1, ())))), (), ()))) (fun y0 y1 y2 => K .ret (SD.enc d_laws_heldIntS_2 ((X.1.1, (y0, (y1, (y2, ())))), (), ()))) X.1.1 X.1.2.2.1
noncomputable def l_laws_heldIntS_2 : LEnt := ⟨d_laws_heldIntS_2, fun X K => iterL (t_laws_heldIntS_2 X K) fuel (X.1.2.1, X.1.2.2.2.1)⟩
noncomputable def L_laws_heldIntS : Lam := (Lam.nil).add 2 l_laws_heldIntS_2
theorem lok_laws_heldIntS_2 : LOk E g_laws_heldIntS n_laws_heldIntS L_laws_heldIntS (loopBody Tryz.f81 0) :=
  lok l_laws_heldIntS_2 (by kernel_rfl) fuel fun R X K => (loop_iter (σ := Int × Int) (fun x => SD.enc d_laws_heldIntS_2 ((X.1.1, (x.1, (X.1.2.2.1, (x.2, ())))), (), ())) (t_laws_heldIntS_2 X K) (fun m x => by kernel_rfl) fuel (X.1.2.1, X.1.2.2.2.1)).symm
theorem ok_laws_heldIntS : FnOk Tryz.prog 81 e_laws_heldIntS := FnOk.of (fnOk (Γ := g_laws_heldIntS) (an := n_laws_heldIntS) (Λ := L_laws_heldIntS) (base) Tryz.func81 (by kernel_rfl) (hF (by kernel_rfl) (cF lok_laws_heldIntS_2 nF))) (fun a => by kernel_rfl)
noncomputable def e_laws_heldPool : GEnt := entOf [.data true TPool, .data false (.int .i64)] [(false, (.int .i64))] fun a => Pu.laws_heldPool a.1 a.2.1
theorem ok_laws_heldPool : FnOk Tryz.prog 130 e_laws_heldPool := FnOk.of (fnOk (an := {}) (Λ := Lam.nil) ((base).add ok_laws_heldIntS) Tryz.func130 (by kernel_rfl) (hF (by kernel_rfl) nF)) (fun a => by kernel_rfl)
noncomputable def e_laws_heldSentS : GEnt := entOf [.data false (.sl TSent), .data false (.int .i64)] [(false, (.int .i64))] fun a => Pu.laws_heldSentS a.1 a.2.1
noncomputable def g_laws_heldSentS : Gam := (Gam.nil).add 81 e_laws_heldIntS
def n_laws_heldSentS : An := { mask := fun | 2 => [0, 1, 4, 5] | _ => [] }
@[reducible] def d_laws_heldSentS_2 : SD := ⟨[.data false (.sl .arg TSent),DI,B,B,DI,DI,B,B,B,B,B,B,B,B,B,B,B,B,B,B,B,B,B,B,B,B,B,B,B,B,B,B,B,B,B,B,B,B,B,B], [Z,Z,Z,Z,Z,Z,Z,Z,Z,Z,Z,Z,Z,Z,Z,Z,Z,Z,Z,Z,Z,Z,Z,Z,Z,Z,Z,Z,Z,Z,Z,Z,Z,Z,Z,Z,Z,Z,Z,Z], .none⟩
noncomputable def t_laws_heldSentS_2 {R : Type} (X : SD.D d_laws_heldSentS_2) (K : Ex → AS → Option R) := Pu.laws_heldSentS_T2 (fun y0 y1 => K (.exit 0) (SD.enc d_laws_heldSentS_2 ((X.1.1, (y0, (X.1.2.2.1, (y1, ())))), (), ()))) (fun y0 y1 y2 => K .ret (SD.enc d_laws_heldSentS_2 ((X.1.1, (y0, (y1, (y2, ())))), (), ()))) X.1.1 X.1.2.2.1
noncomputable def l_laws_heldSentS_2 : LEnt := ⟨d_laws_heldSentS_2, fun X K => iterL (t_laws_heldSentS_2 X K) fuel (X.1.2.1, X.1.2.2.2.1)⟩
noncomputable def L_laws_heldSentS : Lam := (Lam.nil).add 2 l_laws_heldSentS_2
theorem lok_laws_heldSentS_2 : LOk E g_laws_heldSentS n_laws_heldSentS L_laws_heldSentS (loopBody Tryz.f131 0) :=
  lok l_laws_heldSentS_2 (by kernel_rfl) fuel fun R X K => (loop_iter (σ := Int × Int) (fun x => SD.enc d_laws_heldSentS_2 ((X.1.1, (x.1, (X.1.2.2.1, (x.2, ())))), (), ())) (t_laws_heldSentS_2 X K) (fun m x => by kernel_rfl) fuel (X.1.2.1, X.1.2.2.2.1)).symm
theorem ok_laws_heldSentS : FnOk Tryz.prog 131 e_laws_heldSentS := FnOk.of (fnOk (Γ := g_laws_heldSentS) (an := n_laws_heldSentS) (Λ := L_laws_heldSentS) ((base).add ok_laws_heldIntS) Tryz.func131 (by kernel_rfl) (hF (by kernel_rfl) (cF lok_laws_heldSentS_2 nF))) (fun a => by kernel_rfl)
noncomputable def e_laws_heldTxQueue : GEnt := entOf [.data true TTxQueue, .data false (.int .i64)] [(false, (.int .i64))] fun a => Pu.laws_heldTxQueue a.1 a.2.1
theorem ok_laws_heldTxQueue : FnOk Tryz.prog 72 e_laws_heldTxQueue := FnOk.of (fnOk (an := {}) (Λ := Lam.nil) (((base).add ok_laws_heldPool).add ok_laws_heldSentS) Tryz.func72 (by kernel_rfl) (hF (by kernel_rfl) nF)) (fun a => by kernel_rfl)
noncomputable def e_laws_heldRxQueueS : GEnt := entOf [.data false (.sl TRxQueue), .data false (.int .i64)] [(false, (.int .i64))] fun a => Pu.laws_heldRxQueueS a.1 a.2.1
noncomputable def g_laws_heldRxQueueS : Gam := (Gam.nil).add 126 e_laws_markText
def n_laws_heldRxQueueS : An := { mask := fun | 2 => [0, 1, 4, 5] | _ => [] }
@[reducible] def d_laws_heldRxQueueS_2 : SD := ⟨[.data false (.sl .arg TRxQueue),DI,B,B,DI,DI,B,B,B,B,B,B,B,B,B,B,B,B,B,B,B,B,B,B,B,B,B,B,B,B,B,B,B,B,B,B,B,B,B,B,B,B,B,B,B,B,B,B,B,B,B,B,B,B,B,B,B,B,B,B,B,B,B,B,B,B,B,B,B,B,B,B,B,B,B,B,B,B,B,B,B,B,B,B,B,B,B,B,B,B,B,B,B,B,B,B,B,B,B,B,B,B,B,B,B,B,B,B,B,B,B,B,B,B,B,B,B,B,B,B,B,B,B,B,B,B,B,B,B,B,B,B,B,B,B,B,B,B,B,B,B,B,B,B,B,B,B,B,B,B,B,B,B,B,B,B,B,B,B,B,B,B,B,B,B,B,B,B,B,B,B,B,B,B,B,B,B,B,B,B,B,B,B,B,B,B,B,B,B,B,B,B,B,B,B,B,B,B,B,B,B,B,B,B,B,B,B,B,B,B,B,B,B,B,B,B,B,B,B,B,B,B,B,B,B,B,B,B,B,B,B,B,B,B,B,B,B,B,B,B,B,B,B,B,B,B,B,B,B,B,B,B,B,B,B,B,B,B,B,B,B,B,B,B,B,B,B,B,B,B,B,B,B,B,B,B,B,B,B,B,B,B,B,B,B,B,B,B,B,B,B,B,B,B,B,B,B,B,B,B,B,B,B,B,B,B,B,B,B,B,B,B,B,B,B,B,B,B,B,B,B,B,B,B,B,B,B,B,B,B,B,B,B,B,B,B,B,B], [Z,Z,Z,Z,Z,Z,Z,Z,Z,Z,Z,Z,Z,Z,Z,Z,Z,Z,Z,Z,Z,Z,Z,Z,Z,Z,Z,Z,Z,Z,Z,Z,Z,Z,Z,Z,Z,Z,Z,Z,Z,Z,Z,Z,Z,Z,Z,Z,Z,Z,Z,Z,Z,Z,Z,Z,Z,Z,Z,Z,Z,Z,Z,Z,Z,Z,Z,Z,Z,Z,Z,Z,Z,Z,Z,Z,Z,Z,Z,Z,Z,Z,Z,Z,Z,Z,Z,Z,Z,Z,Z,Z,Z,Z,Z,Z,Z,Z,Z,Z,Z,Z,Z,Z,Z,Z,Z,Z,Z,Z,Z,Z,Z,Z,Z,Z,Z,Z,Z,Z,Z,Z,Z,Z,Z,Z,Z,Z,Z,Z,Z,Z,Z,Z,Z,Z,Z,Z,Z,Z,Z,Z,Z,Z,Z,Z,Z,Z,Z,Z,Z,Z,Z,Z,Z,Z,Z,Z,Z,Z,Z,Z,Z,Z,Z,Z,Z,Z,Z,Z,Z,Z,Z,Z,Z,Z,Z,Z,Z,Z,Z,Z,Z,Z,Z,Z,Z,Z,Z,Z,Z,Z,Z,Z,Z,Z,Z,Z,Z,Z,Z,Z,Z,Z,Z,Z,Z,Z,Z,Z,Z,Z,Z,Z,Z,Z,Z,Z,Z,Z,Z,Z,Z,Z,Z,Z,Z,Z,Z,Z,Z,Z,Z,Z,Z,Z,Z,Z,Z,Z,Z,Z,Z,Z,Z,Z,Z,Z,Z,Z,Z,Z,Z,Z,Z,Z,Z,Z,Z,Z,Z,Z,Z,Z,Z,Z,Z,Z,Z,Z,Z,Z,Z,Z,Z,Z,Z,Z,Z,Z,Z,Z,Z,Z,Z,Z,Z,Z,Z,Z,Z,Z,Z,Z,Z,Z,Z,Z,Z,Z,Z,Z,Z,Z,Z,Z,Z,Z,Z,Z,Z,Z,Z,Z,Z,Z,Z,Z,Z,Z,Z,Z,Z,Z,Z,Z,Z,Z,Z,Z,Z,Z,Z,Z,Z,Z,Z,Z], .none⟩
noncomputable def t_laws_heldRxQueueS_2 {R : Type} (X : SD.D d_laws_heldRxQueueS_2) (K : Ex → AS → Option R) := Pu.laws_heldRxQueueS_T2 (fun y0 y1 => K (.exit 0) (SD.enc d_laws_heldRxQueueS_2 ((X.1.1, (y0, (X.1.2.2.1, (y1, ())))), (), ()))) (fun y0 y1 y2 => K .ret (SD.enc d_laws_heldRxQueueS_2 ((X.1.1, (y0, (y1, (y2, ())))), (), ()))) X.1.1 X.1.2.2.1
noncomputable def l_laws_heldRxQueueS_2 : LEnt := ⟨d_laws_heldRxQueueS_2, fun X K => iterL (t_laws_heldRxQueueS_2 X K) fuel (X.1.2.1, X.1.2.2.2.1)⟩
noncomputable def L_laws_heldRxQueueS : Lam := (Lam.nil).add 2 l_laws_heldRxQueueS_2
theorem lok_laws_heldRxQueueS_2 : LOk E g_laws_heldRxQueueS n_laws_heldRxQueueS L_laws_heldRxQueueS (loopBody Tryz.f73 0) :=
  lok l_laws_heldRxQueueS_2 (by kernel_rfl) fuel fun R X K => (loop_iter (σ := Int × Int) (fun x => SD.enc d_laws_heldRxQueueS_2 ((X.1.1, (x.1, (X.1.2.2.1, (x.2, ())))), (), ())) (t_laws_heldRxQueueS_2 X K) (fun m x => by kernel_rfl) fuel (X.1.2.1, X.1.2.2.2.1)).symm
theorem ok_laws_heldRxQueueS : FnOk Tryz.prog 73 e_laws_heldRxQueueS := FnOk.of (fnOk (Γ := g_laws_heldRxQueueS) (an := n_laws_heldRxQueueS) (Λ := L_laws_heldRxQueueS) ((base).add ok_laws_markText) Tryz.func73 (by kernel_rfl) (hF (by kernel_rfl) (cF lok_laws_heldRxQueueS_2 nF))) (fun a => by kernel_rfl)
noncomputable def e_laws_heldPoolS : GEnt := entOf [.data false (.sl TPool), .data false (.int .i64)] [(false, (.int .i64))] fun a => Pu.laws_heldPoolS a.1 a.2.1
noncomputable def g_laws_heldPoolS : Gam := (Gam.nil).add 81 e_laws_heldIntS
def n_laws_heldPoolS : An := { mask := fun | 2 => [0, 1, 4, 5] | _ => [] }
@[reducible] def d_laws_heldPoolS_2 : SD := ⟨[.data false (.sl .arg TPool),DI,B,B,DI,DI,B,B,B,B,B,B,B,B,B,B,B,B,B,B,B,B,B,B,B,B,B,B,B,B,B,B,B,B,B,B,B,B,B,B,B,B,B,B,B,B,B,B,B], [Z,Z,Z,Z,Z,Z,Z,Z,Z,Z,Z,Z,Z,Z,Z,Z,Z,Z,Z,Z,Z,Z,Z,Z,Z,Z,Z,Z,Z,Z,Z,Z,Z,Z,Z,Z,Z,Z,Z,Z,Z,Z,Z,Z,Z,Z,Z,Z,Z], .none⟩
noncomputable def t_laws_heldPoolS_2 {R : Type} (X : SD.D d_laws_heldPoolS_2) (K : Ex → AS → Option R) := Pu.laws_heldPoolS_T2 (fun y0 y1 => K (.exit 0) (SD.enc d_laws_heldPoolS_2 ((X.1.1, (y0, (X.1.2.2.1, (y1, ())))), (), ()))) (fun y0 y1 y2 => K .ret (SD.enc d_laws_heldPoolS_2 ((X.1.1, (y0, (y1, (y2, ())))), (), ()))) X.1.1 X.1.2.2.1
noncomputable def l_laws_heldPoolS_2 : LEnt := ⟨d_laws_heldPoolS_2, fun X K => iterL (t_laws_heldPoolS_2 X K) fuel (X.1.2.1, X.1.2.2.2.1)⟩
noncomputable def L_laws_heldPoolS : Lam := (Lam.nil).add 2 l_laws_heldPoolS_2
theorem lok_laws_heldPoolS_2 : LOk E g_laws_heldPoolS n_laws_heldPoolS L_laws_heldPoolS (loopBody Tryz.f74 0) :=
  lok l_laws_heldPoolS_2 (by kernel_rfl) fuel fun R X K => (loop_iter (σ := Int × Int) (fun x => SD.enc d_laws_heldPoolS_2 ((X.1.1, (x.1, (X.1.2.2.1, (x.2, ())))), (), ())) (t_laws_heldPoolS_2 X K) (fun m x => by kernel_rfl) fuel (X.1.2.1, X.1.2.2.2.1)).symm
theorem ok_laws_heldPoolS : FnOk Tryz.prog 74 e_laws_heldPoolS := FnOk.of (fnOk (Γ := g_laws_heldPoolS) (an := n_laws_heldPoolS) (Λ := L_laws_heldPoolS) ((base).add ok_laws_heldIntS) Tryz.func74 (by kernel_rfl) (hF (by kernel_rfl) (cF lok_laws_heldPoolS_2 nF))) (fun a => by kernel_rfl)
noncomputable def e_laws_heldVectorS : GEnt := entOf [.data false (.sl TVector), .data false (.int .i64)] [(false, (.int .i64))] fun a => Pu.laws_heldVectorS a.1 a.2.1
noncomputable def g_laws_heldVectorS : Gam := Gam.nil
def n_laws_heldVectorS : An := { mask := fun | 2 => [0, 1, 4, 5] | _ => [] }
@[reducible] def d_laws_heldVectorS_2 : SD := ⟨[.data false (.sl .arg TVector),DI,B,B,DI,DI,B,B,B,B,B,B,B,B,B,B,B,B,B,B,B,B,B,B,B,B,B,B,B,B,B,B,B,B,B,B,B,B,B,B,B,B,B,B,B,B,B,B,B,B,B,B,B,B,B,B,B,B,B,B,B,B,B,B,B,B,B,B,B,B,B], [Z,Z,Z,Z,Z,Z,Z,Z,Z,Z,Z,Z,Z,Z,Z,Z,Z,Z,Z,Z,Z,Z,Z,Z,Z,Z,Z,Z,Z,Z,Z,Z,Z,Z,Z,Z,Z,Z,Z,Z,Z,Z,Z,Z,Z,Z,Z,Z,Z,Z,Z,Z,Z,Z,Z,Z,Z,Z,Z,Z,Z,Z,Z,Z,Z,Z,Z,Z,Z,Z,Z], .none⟩
noncomputable def t_laws_heldVectorS_2 {R : Type} (X : SD.D d_laws_heldVectorS_2) (K : Ex → AS → Option R) := Pu.laws_heldVectorS_T2 (fun y0 y1 => K (.exit 0) (SD.enc d_laws_heldVectorS_2 ((X.1.1, (y0, (X.1.2.2.1, (y1, ())))), (), ()))) (fun y0 y1 y2 => K .ret (SD.enc d_laws_heldVectorS_2 ((X.1.1, (y0, (y1, (y2, ())))), (), ()))) X.1.1 X.1.2.2.1
noncomputable def l_laws_heldVectorS_2 : LEnt := ⟨d_laws_heldVectorS_2, fun X K => iterL (t_laws_heldVectorS_2 X K) fuel (X.1.2.1, X.1.2.2.2.1)⟩
noncomputable def L_laws_heldVectorS : Lam := (Lam.nil).add 2 l_laws_heldVectorS_2
theorem lok_laws_heldVectorS_2 : LOk E g_laws_heldVectorS n_laws_heldVectorS L_laws_heldVectorS (loopBody Tryz.f75 0) :=
  lok l_laws_heldVectorS_2 (by kernel_rfl) fuel fun R X K => (loop_iter (σ := Int × Int) (fun x => SD.enc d_laws_heldVectorS_2 ((X.1.1, (x.1, (X.1.2.2.1, (x.2, ())))), (), ())) (t_laws_heldVectorS_2 X K) (fun m x => by kernel_rfl) fuel (X.1.2.1, X.1.2.2.2.1)).symm
theorem ok_laws_heldVectorS : FnOk Tryz.prog 75 e_laws_heldVectorS := FnOk.of (fnOk (Γ := g_laws_heldVectorS) (an := n_laws_heldVectorS) (Λ := L_laws_heldVectorS) (base) Tryz.func75 (by kernel_rfl) (hF (by kernel_rfl) (cF lok_laws_heldVectorS_2 nF))) (fun a => by kernel_rfl)
noncomputable def e_laws_heldBoolS : GEnt := entOf [.data false (.sl .bool), .data false (.int .i64)] [(false, (.int .i64))] fun a => Pu.laws_heldBoolS a.1 a.2.1
noncomputable def g_laws_heldBoolS : Gam := Gam.nil
def n_laws_heldBoolS : An := { mask := fun | 2 => [0, 1, 4, 5] | _ => [] }
@[reducible] def d_laws_heldBoolS_2 : SD := ⟨[.data false (.sl .arg .bool),DI,B,B,DI,DI,B,B,B,B,B,B,B,B,B,B,B,B,B,B,B,B,B], [Z,Z,Z,Z,Z,Z,Z,Z,Z,Z,Z,Z,Z,Z,Z,Z,Z,Z,Z,Z,Z,Z,Z], .none⟩
noncomputable def t_laws_heldBoolS_2 {R : Type} (X : SD.D d_laws_heldBoolS_2) (K : Ex → AS → Option R) := Pu.laws_heldBoolS_T2 (fun y0 y1 => K (.exit 0) (SD.enc d_laws_heldBoolS_2 ((X.1.1, (y0, (X.1.2.2.1, (y1, ())))), (), ()))) (fun y0 y1 y2 => K .ret (SD.enc d_laws_heldBoolS_2 ((X.1.1, (y0, (y1, (y2, ())))), (), ()))) X.1.1 X.1.2.2.1
noncomputable def l_laws_heldBoolS_2 : LEnt := ⟨d_laws_heldBoolS_2, fun X K => iterL (t_laws_heldBoolS_2 X K) fuel (X.1.2.1, X.1.2.2.2.1)⟩
noncomputable def L_laws_heldBoolS : Lam := (Lam.nil).add 2 l_laws_heldBoolS_2
theorem lok_laws_heldBoolS_2 : LOk E g_laws_heldBoolS n_laws_heldBoolS L_laws_heldBoolS (loopBody Tryz.f76 0) :=
  lok l_laws_heldBoolS_2 (by kernel_rfl) fuel fun R X K => (loop_iter (σ := Int × Int) (fun x => SD.enc d_laws_heldBoolS_2 ((X.1.1, (x.1, (X.1.2.2.1, (x.2, ())))), (), ())) (t_laws_heldBoolS_2 X K) (fun m x => by kernel_rfl) fuel (X.1.2.1, X.1.2.2.2.1)).symm
theorem ok_laws_heldBoolS : FnOk Tryz.prog 76 e_laws_heldBoolS := FnOk.of (fnOk (Γ := g_laws_heldBoolS) (an := n_laws_heldBoolS) (Λ := L_laws_heldBoolS) (base) Tryz.func76 (by kernel_rfl) (hF (by kernel_rfl) (cF lok_laws_heldBoolS_2 nF))) (fun a => by kernel_rfl)
noncomputable def e_laws_heldFilter : GEnt := entOf [.data true TFilter, .data false (.int .i64)] [(false, (.int .i64))] fun a => Pu.laws_heldFilter a.1 a.2.1
theorem ok_laws_heldFilter : FnOk Tryz.prog 77 e_laws_heldFilter := FnOk.of (fnOk (an := {}) (Λ := Lam.nil) ((base).add ok_laws_heldIntS) Tryz.func77 (by kernel_rfl) (hF (by kernel_rfl) nF)) (fun a => by kernel_rfl)
noncomputable def e_laws_heldRuleS : GEnt := entOf [.data false (.sl TRule), .data false (.int .i64)] [(false, (.int .i64))] fun a => Pu.laws_heldRuleS a.1 a.2.1
noncomputable def g_laws_heldRuleS : Gam := Gam.nil
def n_laws_heldRuleS : An := { mask := fun | 2 => [0, 1, 4, 5] | _ => [] }
@[reducible] def d_laws_heldRuleS_2 : SD := ⟨[.data false (.sl .arg TRule),DI,B,B,DI,DI,B,B,B,B,B,B,B,B,B,B,B,B,B,B,B,B,B,B,B,B,B,B,B,B,B,B,B,B,B,B,B,B,B,B,B,B,B,B,B,B,B,B,B,B,B,B,B,B,B,B,B,B,B,B,B,B,B,B,B,B,B,B,B,B,B,B,B,B,B,B,B,B,B,B,B,B,B,B,B,B,B,B,B,B,B,B,B,B], [Z,Z,Z,Z,Z,Z,Z,Z,Z,Z,Z,Z,Z,Z,Z,Z,Z,Z,Z,Z,Z,Z,Z,Z,Z,Z,Z,Z,Z,Z,Z,Z,Z,Z,Z,Z,Z,Z,Z,Z,Z,Z,Z,Z,Z,Z,Z,Z,Z,Z,Z,Z,Z,Z,Z,Z,Z,Z,Z,Z,Z,Z,Z,Z,Z,Z,Z,Z,Z,Z,Z,Z,Z,Z,Z,Z,Z,Z,Z,Z,Z,Z,Z,Z,Z,Z,Z,Z,Z,Z,Z,Z,Z,Z], .none⟩
noncomputable def t_laws_heldRuleS_2 {R : Type} (X : SD.D d_laws_heldRuleS_2) (K : Ex → AS → Option R) := Pu.laws_heldRuleS_T2 (fun y0 y1 => K (.exit 0) (SD.enc d_laws_heldRuleS_2 ((X.1.1, (y0, (X.1.2.2.1, (y1, ())))), (), ()))) (fun y0 y1 y2 => K .ret (SD.enc d_laws_heldRuleS_2 ((X.1.1, (y0, (y1, (y2, ())))), (), ()))) X.1.1 X.1.2.2.1
noncomputable def l_laws_heldRuleS_2 : LEnt := ⟨d_laws_heldRuleS_2, fun X K => iterL (t_laws_heldRuleS_2 X K) fuel (X.1.2.1, X.1.2.2.2.1)⟩
noncomputable def L_laws_heldRuleS : Lam := (Lam.nil).add 2 l_laws_heldRuleS_2
theorem lok_laws_heldRuleS_2 : LOk E g_laws_heldRuleS n_laws_heldRuleS L_laws_heldRuleS (loopBody Tryz.f132 0) :=
  lok l_laws_heldRuleS_2 (by kernel_rfl) fuel fun R X K => (loop_iter (σ := Int × Int) (fun x => SD.enc d_laws_heldRuleS_2 ((X.1.1, (x.1, (X.1.2.2.1, (x.2, ())))), (), ())) (t_laws_heldRuleS_2 X K) (fun m x => by kernel_rfl) fuel (X.1.2.1, X.1.2.2.2.1)).symm
theorem ok_laws_heldRuleS : FnOk Tryz.prog 132 e_laws_heldRuleS := FnOk.of (fnOk (Γ := g_laws_heldRuleS) (an := n_laws_heldRuleS) (Λ := L_laws_heldRuleS) (base) Tryz.func132 (by kernel_rfl) (hF (by kernel_rfl) (cF lok_laws_heldRuleS_2 nF))) (fun a => by kernel_rfl)
noncomputable def e_laws_heldSlotS : GEnt := entOf [.data false (.sl TSlot), .data false (.int .i64)] [(false, (.int .i64))] fun a => Pu.laws_heldSlotS a.1 a.2.1
noncomputable def g_laws_heldSlotS : Gam := Gam.nil
def n_laws_heldSlotS : An := { mask := fun | 2 => [0, 1, 4, 5] | _ => [] }
@[reducible] def d_laws_heldSlotS_2 : SD := ⟨[.data false (.sl .arg TSlot),DI,B,B,DI,DI,B,B,B,B,B,B,B,B,B,B,B,B,B,B,B,B,B,B,B,B,B,B,B,B,B,B,B,B,B,B,B,B,B,B,B,B,B,B,B,B,B,B,B,B,B,B,B,B,B,B,B,B,B,B,B,B,B,B,B,B,B,B,B,B,B,B,B,B,B,B,B,B,B,B,B], [Z,Z,Z,Z,Z,Z,Z,Z,Z,Z,Z,Z,Z,Z,Z,Z,Z,Z,Z,Z,Z,Z,Z,Z,Z,Z,Z,Z,Z,Z,Z,Z,Z,Z,Z,Z,Z,Z,Z,Z,Z,Z,Z,Z,Z,Z,Z,Z,Z,Z,Z,Z,Z,Z,Z,Z,Z,Z,Z,Z,Z,Z,Z,Z,Z,Z,Z,Z,Z,Z,Z,Z,Z,Z,Z,Z,Z,Z,Z,Z,Z], .none⟩
noncomputable def t_laws_heldSlotS_2 {R : Type} (X : SD.D d_laws_heldSlotS_2) (K : Ex → AS → Option R) := Pu.laws_heldSlotS_T2 (fun y0 y1 => K (.exit 0) (SD.enc d_laws_heldSlotS_2 ((X.1.1, (y0, (X.1.2.2.1, (y1, ())))), (), ()))) (fun y0 y1 y2 => K .ret (SD.enc d_laws_heldSlotS_2 ((X.1.1, (y0, (y1, (y2, ())))), (), ()))) X.1.1 X.1.2.2.1
noncomputable def l_laws_heldSlotS_2 : LEnt := ⟨d_laws_heldSlotS_2, fun X K => iterL (t_laws_heldSlotS_2 X K) fuel (X.1.2.1, X.1.2.2.2.1)⟩
noncomputable def L_laws_heldSlotS : Lam := (Lam.nil).add 2 l_laws_heldSlotS_2
theorem lok_laws_heldSlotS_2 : LOk E g_laws_heldSlotS n_laws_heldSlotS L_laws_heldSlotS (loopBody Tryz.f155 0) :=
  lok l_laws_heldSlotS_2 (by kernel_rfl) fuel fun R X K => (loop_iter (σ := Int × Int) (fun x => SD.enc d_laws_heldSlotS_2 ((X.1.1, (x.1, (X.1.2.2.1, (x.2, ())))), (), ())) (t_laws_heldSlotS_2 X K) (fun m x => by kernel_rfl) fuel (X.1.2.1, X.1.2.2.2.1)).symm
theorem ok_laws_heldSlotS : FnOk Tryz.prog 155 e_laws_heldSlotS := FnOk.of (fnOk (Γ := g_laws_heldSlotS) (an := n_laws_heldSlotS) (Λ := L_laws_heldSlotS) (base) Tryz.func155 (by kernel_rfl) (hF (by kernel_rfl) (cF lok_laws_heldSlotS_2 nF))) (fun a => by kernel_rfl)
noncomputable def e_laws_heldFlowTable : GEnt := entOf [.data true (.sl TSlot), .data false (.int .i64)] [(false, (.int .i64))] fun a => Pu.laws_heldFlowTable a.1 a.2.1
theorem ok_laws_heldFlowTable : FnOk Tryz.prog 133 e_laws_heldFlowTable := FnOk.of (fnOk (an := {}) (Λ := Lam.nil) ((base).add ok_laws_heldSlotS) Tryz.func133 (by kernel_rfl) (hF (by kernel_rfl) nF)) (fun a => by kernel_rfl)
noncomputable def e_laws_heldSpread : GEnt := entOf [.data true TSpread, .data false (.int .i64)] [(false, (.int .i64))] fun a => Pu.laws_heldSpread a.1 a.2.1
theorem ok_laws_heldSpread : FnOk Tryz.prog 134 e_laws_heldSpread := FnOk.of (fnOk (an := {}) (Λ := Lam.nil) ((base).add ok_laws_heldIntS) Tryz.func134 (by kernel_rfl) (hF (by kernel_rfl) nF)) (fun a => by kernel_rfl)
noncomputable def e_laws_heldSteering : GEnt := entOf [.data true TSteering, .data false (.int .i64)] [(false, (.int .i64))] fun a => Pu.laws_heldSteering a.1 a.2.1
theorem ok_laws_heldSteering : FnOk Tryz.prog 78 e_laws_heldSteering := FnOk.of (fnOk (an := {}) (Λ := Lam.nil) ((((base).add ok_laws_heldRuleS).add ok_laws_heldFlowTable).add ok_laws_heldSpread) Tryz.func78 (by kernel_rfl) (hF (by kernel_rfl) nF)) (fun a => by kernel_rfl)
noncomputable def e_laws_heldStreamS : GEnt := entOf [.data false (.sl TStream), .data false (.int .i64)] [(false, (.int .i64))] fun a => Pu.laws_heldStreamS a.1 a.2.1
noncomputable def g_laws_heldStreamS : Gam := (Gam.nil).add 126 e_laws_markText
def n_laws_heldStreamS : An := { mask := fun | 2 => [0, 1, 4, 5] | _ => [] }
@[reducible] def d_laws_heldStreamS_2 : SD := ⟨[.data false (.sl .arg TStream),DI,B,B,DI,DI,B,B,B,B,B,B,B,B,B,B,B,B,B,B,B,B,B,B,B,B,B,B,B,B,B,B,B,B,B,B,B,B,B,B,B,B,B,B,B,B,B,B,B,B,B,B,B,B,B,B,B,B,B,B,B,B,B,B,B,B,B,B,B,B,B,B,B,B,B,B,B,B,B,B,B,B,B,B,B,B,B,B,B,B,B,B,B], [Z,Z,Z,Z,Z,Z,Z,Z,Z,Z,Z,Z,Z,Z,Z,Z,Z,Z,Z,Z,Z,Z,Z,Z,Z,Z,Z,Z,Z,Z,Z,Z,Z,Z,Z,Z,Z,Z,Z,Z,Z,Z,Z,Z,Z,Z,Z,Z,Z,Z,Z,Z,Z,Z,Z,Z,Z,Z,Z,Z,Z,Z,Z,Z,Z,Z,Z,Z,Z,Z,Z,Z,Z,Z,Z,Z,Z,Z,Z,Z,Z,Z,Z,Z,Z,Z,Z,Z,Z,Z,Z,Z,Z], .none⟩
noncomputable def t_laws_heldStreamS_2 {R : Type} (X : SD.D d_laws_heldStreamS_2) (K : Ex → AS → Option R) := Pu.laws_heldStreamS_T2 (fun y0 y1 => K (.exit 0) (SD.enc d_laws_heldStreamS_2 ((X.1.1, (y0, (X.1.2.2.1, (y1, ())))), (), ()))) (fun y0 y1 y2 => K .ret (SD.enc d_laws_heldStreamS_2 ((X.1.1, (y0, (y1, (y2, ())))), (), ()))) X.1.1 X.1.2.2.1
noncomputable def l_laws_heldStreamS_2 : LEnt := ⟨d_laws_heldStreamS_2, fun X K => iterL (t_laws_heldStreamS_2 X K) fuel (X.1.2.1, X.1.2.2.2.1)⟩
noncomputable def L_laws_heldStreamS : Lam := (Lam.nil).add 2 l_laws_heldStreamS_2
theorem lok_laws_heldStreamS_2 : LOk E g_laws_heldStreamS n_laws_heldStreamS L_laws_heldStreamS (loopBody Tryz.f79 0) :=
  lok l_laws_heldStreamS_2 (by kernel_rfl) fuel fun R X K => (loop_iter (σ := Int × Int) (fun x => SD.enc d_laws_heldStreamS_2 ((X.1.1, (x.1, (X.1.2.2.1, (x.2, ())))), (), ())) (t_laws_heldStreamS_2 X K) (fun m x => by kernel_rfl) fuel (X.1.2.1, X.1.2.2.2.1)).symm
theorem ok_laws_heldStreamS : FnOk Tryz.prog 79 e_laws_heldStreamS := FnOk.of (fnOk (Γ := g_laws_heldStreamS) (an := n_laws_heldStreamS) (Λ := L_laws_heldStreamS) ((base).add ok_laws_markText) Tryz.func79 (by kernel_rfl) (hF (by kernel_rfl) (cF lok_laws_heldStreamS_2 nF))) (fun a => by kernel_rfl)
noncomputable def e_laws_heldHost : GEnt := entOf [.data true THost, .data false (.int .i64)] [(false, (.int .i64))] fun a => Pu.laws_heldHost a.1 a.2.1
theorem ok_laws_heldHost : FnOk Tryz.prog 14 e_laws_heldHost := FnOk.of (fnOk (an := {}) (Λ := Lam.nil) (((((((((((((base).add ok_laws_heldMemory).add ok_laws_heldMappingS).add ok_laws_heldTxQueue).add ok_laws_heldRxQueueS).add ok_laws_heldPoolS).add ok_laws_heldVectorS).add ok_laws_heldBoolS).add ok_laws_heldFilter).add ok_laws_heldSteering).add ok_laws_heldStreamS).add ok_laws_heldStringS).add ok_laws_heldIntS) Tryz.func14 (by kernel_rfl) (hF (by kernel_rfl) nF)) (fun a => by kernel_rfl)
@[reducible] def s_laws_FnExactFinishMove : List PS := [.data true TMove, .data true THost]
noncomputable def e_laws_FnExactFinishMove : GEnt := entOf s_laws_FnExactFinishMove [(false, .bool)] fun a => Pu.laws_FnExactFinishMove a.1 a.2.1
theorem ok_laws_FnExactFinishMove : FnOk Tryz.prog 3 e_laws_FnExactFinishMove := FnOk.of (fnOk (an := { merge := fun | 12 => some 53 | 21 => some 82 | 32 => some 110 | _ => none, mv := [27, 33, 39, 100], sb := fun | 6 => some 6 | 15 => some 15 | _ => none }) (Λ := Lam.nil) ((((((((((((base).add ok_laws_szMove).add ok_laws_szHost).add ok_spec_FinishMove).add ok_laws_toMove).add ok_laws_toHost).add ok_impl_FinishMove).add ok_laws_eqHost).add ok_laws_eqMove).add ok_laws_markMove).add ok_laws_markHost).add ok_laws_heldHost) Tryz.func3 (by kernel_rfl) (hF (by kernel_rfl) nF)) (fun a => by kernel_rfl)

end Go.Proofs.YtclgaiiidllehacGreat.Fn
