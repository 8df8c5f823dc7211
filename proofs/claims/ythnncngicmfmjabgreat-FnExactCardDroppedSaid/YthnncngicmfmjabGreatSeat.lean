import Derived.Test.YthnncngicmfmjabGreatDnSig
import Derived.Test.YthnncngicmfmjabGreatPure
import Derived.Test.YthnncngicmfmjabGreatRows
/- Each function of the program is its pure function (made by gen.py). -/
namespace Go.Proofs.YthnncngicmfmjabGreat.Fn
open Go.Dn
open Go.Pu (TMapping TClock TRing TPool TSent TTxQueue TBucket TCompletionQueue TPacket TSuper TRxQueue TVector TFilter TRule TFlow TCounters TSlot TSteering TStream THost TVirtualFunction TMailbox TCard TSpread TSegment)
set_option maxRecDepth 100000
abbrev B : PD := .bot
abbrev DI : PD := .data false (.int .i64)
abbrev DB : PD := .data false .bool
abbrev Z : Option FT := none
theorem nF {p : Code → Prop} : ∀ x ∈ ([] : List Code), p x := fun _ h => nomatch h
theorem cF {p : Code → Prop} {a : Code} {l : List Code} (h : p a) (t : ∀ x ∈ l, p x) : ∀ x ∈ a :: l, p x := List.forall_mem_cons.2 ⟨h, t⟩
theorem hF {p : Code → Prop} {l m : List Code} (e : l = m) (h : ∀ x ∈ m, p x) : ∀ x ∈ l, p x := e ▸ h
def E : Env := { ty := [(3, ⟨false, (.int .i64), []⟩),
  (4, ⟨false, .bool, []⟩),
  (9, ⟨false, .str, []⟩),
  (22, ⟨false, (.sl THost), [(117, 0)]⟩),
  (23, ⟨false, (.sl TVirtualFunction), [(139, 0)]⟩),
  (24, ⟨false, (.sl TMailbox), [(120, 0)]⟩),
  (25, ⟨false, (.sl .str), [(9, 0)]⟩),
  (27, ⟨true, (.sl .str), [(0, 1)]⟩),
  (29, ⟨true, TClock, [(0, 1), (1, 1), (2, 1), (3, 1)]⟩),
  (30, ⟨false, (.sl (.int .i64)), [(3, 0)]⟩),
  (32, ⟨true, TCard, [(0, 1), (1, 1), (2, 1), (3, 1), (4, 4), (8, 1), (9, 1)]⟩),
  (35, ⟨false, (.sl THost), [(80, 0)]⟩),
  (36, ⟨false, (.sl TVirtualFunction), [(135, 0)]⟩),
  (37, ⟨false, (.sl TMailbox), [(141, 0)]⟩),
  (38, ⟨true, (.sl .str), [(0, 1)]⟩),
  (39, ⟨true, TClock, [(0, 1), (1, 1), (2, 1), (3, 1)]⟩),
  (41, ⟨true, TCard, [(0, 1), (1, 1), (2, 1), (3, 1), (4, 4), (8, 1), (9, 1)]⟩),
  (53, ⟨true, (.sl .str), [(0, 1)]⟩),
  (54, ⟨false, (.sl TMapping), [(200, 0)]⟩),
  (56, ⟨true, TClock, [(0, 1), (1, 1), (2, 1), (3, 1)]⟩),
  (58, ⟨true, TPool, [(0, 1), (1, 1), (2, 1), (3, 1)]⟩),
  (59, ⟨false, (.sl TSent), [(233, 0)]⟩),
  (61, ⟨true, TTxQueue, [(0, 4), (4, 4), (8, 1), (9, 1)]⟩),
  (62, ⟨false, (.sl TRxQueue), [(130, 0)]⟩),
  (63, ⟨false, (.sl TPool), [(58, 0)]⟩),
  (64, ⟨false, (.sl TVector), [(208, 0)]⟩),
  (65, ⟨false, (.sl .bool), [(4, 0)]⟩),
  (67, ⟨true, TFilter, [(0, 1), (1, 1), (2, 1)]⟩),
  (68, ⟨false, (.sl TRule), [(238, 0)]⟩),
  (69, ⟨false, (.sl TSlot), [(252, 0)]⟩),
  (71, ⟨true, (.sl TSlot), [(0, 1)]⟩),
  (73, ⟨true, TSpread, [(0, 1), (1, 1)]⟩),
  (75, ⟨true, TSteering, [(0, 1), (1, 1), (2, 2)]⟩),
  (76, ⟨false, (.sl TStream), [(216, 0)]⟩),
  (78, ⟨true, TFlow, [(0, 1), (1, 1), (2, 1), (3, 1), (4, 1)]⟩),
  (80, ⟨true, THost, [(0, 1), (1, 1), (2, 10), (12, 1), (13, 1), (14, 1), (15, 1), (16, 3), (19, 4), (23, 1), (24, 1), (25, 1), (26, 1), (27, 1), (28, 5)]⟩),
  (96, ⟨true, (.sl .str), [(0, 1)]⟩),
  (97, ⟨false, (.sl TMapping), [(202, 0)]⟩),
  (98, ⟨true, TClock, [(0, 1), (1, 1), (2, 1), (3, 1)]⟩),
  (99, ⟨true, TPool, [(0, 1), (1, 1), (2, 1), (3, 1)]⟩),
  (100, ⟨false, (.sl TSent), [(230, 0)]⟩),
  (102, ⟨true, TTxQueue, [(0, 4), (4, 4), (8, 1), (9, 1)]⟩),
  (103, ⟨false, (.sl TRxQueue), [(190, 0)]⟩),
  (104, ⟨false, (.sl TPool), [(99, 0)]⟩),
  (105, ⟨false, (.sl TVector), [(210, 0)]⟩),
  (106, ⟨true, TFilter, [(0, 1), (1, 1), (2, 1)]⟩),
  (107, ⟨false, (.sl TRule), [(240, 0)]⟩),
  (108, ⟨false, (.sl TSlot), [(255, 0)]⟩),
  (110, ⟨true, (.sl TSlot), [(0, 1)]⟩),
  (111, ⟨true, TSpread, [(0, 1), (1, 1)]⟩),
  (113, ⟨true, TSteering, [(0, 1), (1, 1), (2, 2)]⟩),
  (114, ⟨false, (.sl TStream), [(198, 0)]⟩),
  (115, ⟨true, TFlow, [(0, 1), (1, 1), (2, 1), (3, 1), (4, 1)]⟩),
  (117, ⟨true, THost, [(0, 1), (1, 1), (2, 10), (12, 1), (13, 1), (14, 1), (15, 1), (16, 3), (19, 4), (23, 1), (24, 1), (25, 1), (26, 1), (27, 1), (28, 5)]⟩),
  (120, ⟨true, TMailbox, [(0, 3), (3, 1), (4, 1), (5, 1)]⟩),
  (122, ⟨true, TBucket, [(0, 1), (1, 1), (2, 1)]⟩),
  (124, ⟨true, TSegment, [(0, 1), (1, 1), (2, 1), (3, 1), (4, 1), (5, 1), (6, 1), (7, 1)]⟩),
  (126, ⟨true, TPacket, [(0, 1), (1, 1), (2, 1), (3, 1), (4, 1), (5, 1), (6, 1), (7, 1), (8, 8)]⟩),
  (128, ⟨true, TSuper, [(0, 16), (16, 1), (17, 1)]⟩),
  (130, ⟨true, TRxQueue, [(0, 4), (4, 3), (7, 3), (10, 18), (28, 1), (29, 1)]⟩),
  (133, ⟨true, TBucket, [(0, 1), (1, 1), (2, 1)]⟩),
  (135, ⟨true, TVirtualFunction, [(0, 1), (1, 1), (2, 3), (5, 1), (6, 1), (7, 1)]⟩),
  (137, ⟨true, TBucket, [(0, 1), (1, 1), (2, 1)]⟩),
  (139, ⟨true, TVirtualFunction, [(0, 1), (1, 1), (2, 3), (5, 1), (6, 1), (7, 1)]⟩),
  (141, ⟨true, TMailbox, [(0, 3), (3, 1), (4, 1), (5, 1)]⟩),
  (183, ⟨true, TBucket, [(0, 1), (1, 1), (2, 1)]⟩),
  (184, ⟨true, TSegment, [(0, 1), (1, 1), (2, 1), (3, 1), (4, 1), (5, 1), (6, 1), (7, 1)]⟩),
  (186, ⟨true, TPacket, [(0, 1), (1, 1), (2, 1), (3, 1), (4, 1), (5, 1), (6, 1), (7, 1), (8, 8)]⟩),
  (188, ⟨true, TSuper, [(0, 16), (16, 1), (17, 1)]⟩),
  (190, ⟨true, TRxQueue, [(0, 4), (4, 3), (7, 3), (10, 18), (28, 1), (29, 1)]⟩),
  (196, ⟨true, TFlow, [(0, 1), (1, 1), (2, 1), (3, 1), (4, 1)]⟩),
  (198, ⟨true, TStream, [(0, 5), (5, 1), (6, 1), (7, 1)]⟩),
  (200, ⟨true, TMapping, [(0, 1), (1, 1), (2, 1), (3, 1)]⟩),
  (202, ⟨true, TMapping, [(0, 1), (1, 1), (2, 1), (3, 1)]⟩),
  (208, ⟨true, TVector, [(0, 1), (1, 1), (2, 1), (3, 1), (4, 1), (5, 1)]⟩),
  (210, ⟨true, TVector, [(0, 1), (1, 1), (2, 1), (3, 1), (4, 1), (5, 1)]⟩),
  (214, ⟨true, TFlow, [(0, 1), (1, 1), (2, 1), (3, 1), (4, 1)]⟩),
  (216, ⟨true, TStream, [(0, 5), (5, 1), (6, 1), (7, 1)]⟩),
  (230, ⟨true, TSent, [(0, 1), (1, 1), (2, 1)]⟩),
  (233, ⟨true, TSent, [(0, 1), (1, 1), (2, 1)]⟩),
  (238, ⟨true, TRule, [(0, 1), (1, 1), (2, 1), (3, 1), (4, 1), (5, 1), (6, 1), (7, 1), (8, 1)]⟩),
  (240, ⟨true, TRule, [(0, 1), (1, 1), (2, 1), (3, 1), (4, 1), (5, 1), (6, 1), (7, 1), (8, 1)]⟩),
  (252, ⟨true, TSlot, [(0, 1), (1, 5), (6, 1)]⟩),
  (255, ⟨true, TSlot, [(0, 1), (1, 5), (6, 1)]⟩)], eqs := [] }
theorem base : Sound Tryz.prog E Gam.nil := Sound.nil (lookE_ok (by kernel_rfl)) (lookQ_ok (by kernel_rfl)) (by kernel_rfl)
noncomputable def e_laws_szIntS : GEnt := entOf [.data false (.sl (.int .i64)), .data false (.int .i64)] [(false, (.int .i64))] fun a => Pu.laws_szIntS a.1 a.2.1
theorem ok_laws_szIntS : FnOk Tryz.prog 13 e_laws_szIntS := FnOk.of (fnOk (an := {}) (Λ := Lam.nil) (base) Tryz.func13 (by kernel_rfl) (hF (by kernel_rfl) nF)) (fun a => by kernel_rfl)
noncomputable def e_laws_szStringS : GEnt := entOf [.data false (.sl .str), .data false (.int .i64)] [(false, (.int .i64))] fun a => Pu.laws_szStringS a.1 a.2.1
noncomputable def g_laws_szStringS : Gam := Gam.nil
def n_laws_szStringS : An := { mask := fun | 5 => [0, 1, 4, 5] | _ => [] }
@[reducible] def d_laws_szStringS_5 : SD := ⟨[.data false (.sl .arg .str),DI,B,B,DI,DI,B,B,B,B,B,B,B,B,B,B,B,B,B,B,B,B,B,B,B,B,B,B], [Z,Z,Z,Z,Z,Z,Z,Z,Z,Z,Z,Z,Z,Z,Z,Z,Z,Z,Z,Z,Z,Z,Z,Z,Z,Z,Z,Z], none⟩
noncomputable def t_laws_szStringS_5 {R : Type} (X : SD.D d_laws_szStringS_5) (K : Ex → AS → Option R) := Pu.laws_szStringS_T5 (fun y0 y1 => K (.exit 0) (SD.enc d_laws_szStringS_5 ((X.1.1, (y0, (X.1.2.2.1, (y1, ())))), (), ()))) (fun y0 y1 y2 => K .ret (SD.enc d_laws_szStringS_5 ((X.1.1, (y0, (y1, (y2, ())))), (), ()))) X.1.1 X.1.2.2.1
noncomputable def l_laws_szStringS_5 : LEnt := ⟨d_laws_szStringS_5, fun X K => iterL (t_laws_szStringS_5 X K) fuel (X.1.2.1, X.1.2.2.2.1)⟩
noncomputable def L_laws_szStringS : Lam := (Lam.nil).add 5 l_laws_szStringS_5
theorem lok_laws_szStringS_5 : LOk E g_laws_szStringS n_laws_szStringS L_laws_szStringS (loopBody Tryz.f14 0) :=
  lok l_laws_szStringS_5 (by kernel_rfl) fuel fun R X K => (loop_iter (σ := Int × Int) (fun x => SD.enc d_laws_szStringS_5 ((X.1.1, (x.1, (X.1.2.2.1, (x.2, ())))), (), ())) (t_laws_szStringS_5 X K) (fun m x => by kernel_rfl) fuel (X.1.2.1, X.1.2.2.2.1)).symm
theorem ok_laws_szStringS : FnOk Tryz.prog 14 e_laws_szStringS := FnOk.of (fnOk (Γ := g_laws_szStringS) (an := n_laws_szStringS) (Λ := L_laws_szStringS) (base) Tryz.func14 (by kernel_rfl) (hF (by kernel_rfl) (cF lok_laws_szStringS_5 nF))) (fun a => by kernel_rfl)
noncomputable def e_laws_szMemory : GEnt := entOf [.data true (.sl .str), .data false (.int .i64)] [(false, (.int .i64))] fun a => Pu.laws_szMemory a.1 a.2.1
theorem ok_laws_szMemory : FnOk Tryz.prog 39 e_laws_szMemory := FnOk.of (fnOk (an := {}) (Λ := Lam.nil) ((base).add ok_laws_szStringS) Tryz.func39 (by kernel_rfl) (hF (by kernel_rfl) nF)) (fun a => by kernel_rfl)
noncomputable def e_laws_szMappingS : GEnt := entOf [.data false (.sl TMapping), .data false (.int .i64)] [(false, (.int .i64))] fun a => Pu.laws_szMappingS a.1 a.2.1
theorem ok_laws_szMappingS : FnOk Tryz.prog 40 e_laws_szMappingS := FnOk.of (fnOk (an := {}) (Λ := Lam.nil) (base) Tryz.func40 (by kernel_rfl) (hF (by kernel_rfl) nF)) (fun a => by kernel_rfl)
noncomputable def e_laws_szPool : GEnt := entOf [.data true TPool, .data false (.int .i64)] [(false, (.int .i64))] fun a => Pu.laws_szPool a.1 a.2.1
theorem ok_laws_szPool : FnOk Tryz.prog 73 e_laws_szPool := FnOk.of (fnOk (an := {}) (Λ := Lam.nil) ((base).add ok_laws_szIntS) Tryz.func73 (by kernel_rfl) (hF (by kernel_rfl) nF)) (fun a => by kernel_rfl)
noncomputable def e_laws_szSent : GEnt := entOf [.data true TSent, .data false (.int .i64)] [(false, (.int .i64))] fun a => Pu.laws_szSent a.1 a.2.1
theorem ok_laws_szSent : FnOk Tryz.prog 100 e_laws_szSent := FnOk.of (fnOk (an := {}) (Λ := Lam.nil) ((base).add ok_laws_szIntS) Tryz.func100 (by kernel_rfl) (hF (by kernel_rfl) nF)) (fun a => by kernel_rfl)
noncomputable def e_laws_szSentS : GEnt := entOf [.data false (.sl TSent), .data false (.int .i64)] [(false, (.int .i64))] fun a => Pu.laws_szSentS a.1 a.2.1
noncomputable def g_laws_szSentS : Gam := (Gam.nil).add 100 e_laws_szSent
def n_laws_szSentS : An := { mask := fun | 5 => [0, 1, 4, 5] | _ => [] }
@[reducible] def d_laws_szSentS_5 : SD := ⟨[.data false (.sl .arg TSent),DI,B,B,DI,DI,B,B,B,B,B,B,B,B,B,B,B,B,B,B,B,B,B,B,B,B,B], [Z,Z,Z,Z,Z,Z,Z,Z,Z,Z,Z,Z,Z,Z,Z,Z,Z,Z,Z,Z,Z,Z,Z,Z,Z,Z,Z], none⟩
noncomputable def t_laws_szSentS_5 {R : Type} (X : SD.D d_laws_szSentS_5) (K : Ex → AS → Option R) := Pu.laws_szSentS_T5 (fun y0 y1 => K (.exit 0) (SD.enc d_laws_szSentS_5 ((X.1.1, (y0, (X.1.2.2.1, (y1, ())))), (), ()))) (fun y0 y1 y2 => K .ret (SD.enc d_laws_szSentS_5 ((X.1.1, (y0, (y1, (y2, ())))), (), ()))) X.1.1 X.1.2.2.1
noncomputable def l_laws_szSentS_5 : LEnt := ⟨d_laws_szSentS_5, fun X K => iterL (t_laws_szSentS_5 X K) fuel (X.1.2.1, X.1.2.2.2.1)⟩
noncomputable def L_laws_szSentS : Lam := (Lam.nil).add 5 l_laws_szSentS_5
theorem lok_laws_szSentS_5 : LOk E g_laws_szSentS n_laws_szSentS L_laws_szSentS (loopBody Tryz.f74 0) :=
  lok l_laws_szSentS_5 (by kernel_rfl) fuel fun R X K => (loop_iter (σ := Int × Int) (fun x => SD.enc d_laws_szSentS_5 ((X.1.1, (x.1, (X.1.2.2.1, (x.2, ())))), (), ())) (t_laws_szSentS_5 X K) (fun m x => by kernel_rfl) fuel (X.1.2.1, X.1.2.2.2.1)).symm
theorem ok_laws_szSentS : FnOk Tryz.prog 74 e_laws_szSentS := FnOk.of (fnOk (Γ := g_laws_szSentS) (an := n_laws_szSentS) (Λ := L_laws_szSentS) ((base).add ok_laws_szSent) Tryz.func74 (by kernel_rfl) (hF (by kernel_rfl) (cF lok_laws_szSentS_5 nF))) (fun a => by kernel_rfl)
noncomputable def e_laws_szTxQueue : GEnt := entOf [.data true TTxQueue, .data false (.int .i64)] [(false, (.int .i64))] fun a => Pu.laws_szTxQueue a.1 a.2.1
theorem ok_laws_szTxQueue : FnOk Tryz.prog 41 e_laws_szTxQueue := FnOk.of (fnOk (an := {}) (Λ := Lam.nil) (((base).add ok_laws_szPool).add ok_laws_szSentS) Tryz.func41 (by kernel_rfl) (hF (by kernel_rfl) nF)) (fun a => by kernel_rfl)
noncomputable def e_laws_szSegment : GEnt := entOf [.data true TSegment, .data false (.int .i64)] [(false, (.int .i64))] fun a => Pu.laws_szSegment a.1 a.2.1
theorem ok_laws_szSegment : FnOk Tryz.prog 120 e_laws_szSegment := FnOk.of (fnOk (an := {}) (Λ := Lam.nil) (base) Tryz.func120 (by kernel_rfl) (hF (by kernel_rfl) nF)) (fun a => by kernel_rfl)
noncomputable def e_laws_szPacket : GEnt := entOf [.data true TPacket, .data false (.int .i64)] [(false, (.int .i64))] fun a => Pu.laws_szPacket a.1 a.2.1
theorem ok_laws_szPacket : FnOk Tryz.prog 115 e_laws_szPacket := FnOk.of (fnOk (an := {}) (Λ := Lam.nil) ((base).add ok_laws_szSegment) Tryz.func115 (by kernel_rfl) (hF (by kernel_rfl) nF)) (fun a => by kernel_rfl)
noncomputable def e_laws_szSuper : GEnt := entOf [.data true TSuper, .data false (.int .i64)] [(false, (.int .i64))] fun a => Pu.laws_szSuper a.1 a.2.1
theorem ok_laws_szSuper : FnOk Tryz.prog 101 e_laws_szSuper := FnOk.of (fnOk (an := {}) (Λ := Lam.nil) ((base).add ok_laws_szPacket) Tryz.func101 (by kernel_rfl) (hF (by kernel_rfl) nF)) (fun a => by kernel_rfl)
noncomputable def e_laws_szRxQueue : GEnt := entOf [.data true TRxQueue, .data false (.int .i64)] [(false, (.int .i64))] fun a => Pu.laws_szRxQueue a.1 a.2.1
theorem ok_laws_szRxQueue : FnOk Tryz.prog 75 e_laws_szRxQueue := FnOk.of (fnOk (an := {}) (Λ := Lam.nil) ((base).add ok_laws_szSuper) Tryz.func75 (by kernel_rfl) (hF (by kernel_rfl) nF)) (fun a => by kernel_rfl)
noncomputable def e_laws_szRxQueueS : GEnt := entOf [.data false (.sl TRxQueue), .data false (.int .i64)] [(false, (.int .i64))] fun a => Pu.laws_szRxQueueS a.1 a.2.1
noncomputable def g_laws_szRxQueueS : Gam := (Gam.nil).add 75 e_laws_szRxQueue
def n_laws_szRxQueueS : An := { mask := fun | 5 => [0, 1, 4, 5] | _ => [] }
@[reducible] def d_laws_szRxQueueS_5 : SD := ⟨[.data false (.sl .arg TRxQueue),DI,B,B,DI,DI,B,B,B,B,B,B,B,B,B,B,B,B,B,B,B,B,B,B,B,B,B], [Z,Z,Z,Z,Z,Z,Z,Z,Z,Z,Z,Z,Z,Z,Z,Z,Z,Z,Z,Z,Z,Z,Z,Z,Z,Z,Z], none⟩
noncomputable def t_laws_szRxQueueS_5 {R : Type} (X : SD.D d_laws_szRxQueueS_5) (K : Ex → AS → Option R) := Pu.laws_szRxQueueS_T5 (fun y0 y1 => K (.exit 0) (SD.enc d_laws_szRxQueueS_5 ((X.1.1, (y0, (X.1.2.2.1, (y1, ())))), (), ()))) (fun y0 y1 y2 => K .ret (SD.enc d_laws_szRxQueueS_5 ((X.1.1, (y0, (y1, (y2, ())))), (), ()))) X.1.1 X.1.2.2.1
noncomputable def l_laws_szRxQueueS_5 : LEnt := ⟨d_laws_szRxQueueS_5, fun X K => iterL (t_laws_szRxQueueS_5 X K) fuel (X.1.2.1, X.1.2.2.2.1)⟩
noncomputable def L_laws_szRxQueueS : Lam := (Lam.nil).add 5 l_laws_szRxQueueS_5
theorem lok_laws_szRxQueueS_5 : LOk E g_laws_szRxQueueS n_laws_szRxQueueS L_laws_szRxQueueS (loopBody Tryz.f42 0) :=
  lok l_laws_szRxQueueS_5 (by kernel_rfl) fuel fun R X K => (loop_iter (σ := Int × Int) (fun x => SD.enc d_laws_szRxQueueS_5 ((X.1.1, (x.1, (X.1.2.2.1, (x.2, ())))), (), ())) (t_laws_szRxQueueS_5 X K) (fun m x => by kernel_rfl) fuel (X.1.2.1, X.1.2.2.2.1)).symm
theorem ok_laws_szRxQueueS : FnOk Tryz.prog 42 e_laws_szRxQueueS := FnOk.of (fnOk (Γ := g_laws_szRxQueueS) (an := n_laws_szRxQueueS) (Λ := L_laws_szRxQueueS) ((base).add ok_laws_szRxQueue) Tryz.func42 (by kernel_rfl) (hF (by kernel_rfl) (cF lok_laws_szRxQueueS_5 nF))) (fun a => by kernel_rfl)
noncomputable def e_laws_szPoolS : GEnt := entOf [.data false (.sl TPool), .data false (.int .i64)] [(false, (.int .i64))] fun a => Pu.laws_szPoolS a.1 a.2.1
noncomputable def g_laws_szPoolS : Gam := (Gam.nil).add 73 e_laws_szPool
def n_laws_szPoolS : An := { mask := fun | 5 => [0, 1, 4, 5] | _ => [] }
@[reducible] def d_laws_szPoolS_5 : SD := ⟨[.data false (.sl .arg TPool),DI,B,B,DI,DI,B,B,B,B,B,B,B,B,B,B,B,B,B,B,B,B,B,B,B,B,B], [Z,Z,Z,Z,Z,Z,Z,Z,Z,Z,Z,Z,Z,Z,Z,Z,Z,Z,Z,Z,Z,Z,Z,Z,Z,Z,Z], none⟩
noncomputable def t_laws_szPoolS_5 {R : Type} (X : SD.D d_laws_szPoolS_5) (K : Ex → AS → Option R) := Pu.laws_szPoolS_T5 (fun y0 y1 => K (.exit 0) (SD.enc d_laws_szPoolS_5 ((X.1.1, (y0, (X.1.2.2.1, (y1, ())))), (), ()))) (fun y0 y1 y2 => K .ret (SD.enc d_laws_szPoolS_5 ((X.1.1, (y0, (y1, (y2, ())))), (), ()))) X.1.1 X.1.2.2.1
noncomputable def l_laws_szPoolS_5 : LEnt := ⟨d_laws_szPoolS_5, fun X K => iterL (t_laws_szPoolS_5 X K) fuel (X.1.2.1, X.1.2.2.2.1)⟩
noncomputable def L_laws_szPoolS : Lam := (Lam.nil).add 5 l_laws_szPoolS_5
theorem lok_laws_szPoolS_5 : LOk E g_laws_szPoolS n_laws_szPoolS L_laws_szPoolS (loopBody Tryz.f43 0) :=
  lok l_laws_szPoolS_5 (by kernel_rfl) fuel fun R X K => (loop_iter (σ := Int × Int) (fun x => SD.enc d_laws_szPoolS_5 ((X.1.1, (x.1, (X.1.2.2.1, (x.2, ())))), (), ())) (t_laws_szPoolS_5 X K) (fun m x => by kernel_rfl) fuel (X.1.2.1, X.1.2.2.2.1)).symm
theorem ok_laws_szPoolS : FnOk Tryz.prog 43 e_laws_szPoolS := FnOk.of (fnOk (Γ := g_laws_szPoolS) (an := n_laws_szPoolS) (Λ := L_laws_szPoolS) ((base).add ok_laws_szPool) Tryz.func43 (by kernel_rfl) (hF (by kernel_rfl) (cF lok_laws_szPoolS_5 nF))) (fun a => by kernel_rfl)
noncomputable def e_laws_szVectorS : GEnt := entOf [.data false (.sl TVector), .data false (.int .i64)] [(false, (.int .i64))] fun a => Pu.laws_szVectorS a.1 a.2.1
theorem ok_laws_szVectorS : FnOk Tryz.prog 44 e_laws_szVectorS := FnOk.of (fnOk (an := {}) (Λ := Lam.nil) (base) Tryz.func44 (by kernel_rfl) (hF (by kernel_rfl) nF)) (fun a => by kernel_rfl)
noncomputable def e_laws_szBoolS : GEnt := entOf [.data false (.sl .bool), .data false (.int .i64)] [(false, (.int .i64))] fun a => Pu.laws_szBoolS a.1 a.2.1
theorem ok_laws_szBoolS : FnOk Tryz.prog 45 e_laws_szBoolS := FnOk.of (fnOk (an := {}) (Λ := Lam.nil) (base) Tryz.func45 (by kernel_rfl) (hF (by kernel_rfl) nF)) (fun a => by kernel_rfl)
noncomputable def e_laws_szFilter : GEnt := entOf [.data true TFilter, .data false (.int .i64)] [(false, (.int .i64))] fun a => Pu.laws_szFilter a.1 a.2.1
theorem ok_laws_szFilter : FnOk Tryz.prog 46 e_laws_szFilter := FnOk.of (fnOk (an := {}) (Λ := Lam.nil) ((base).add ok_laws_szIntS) Tryz.func46 (by kernel_rfl) (hF (by kernel_rfl) nF)) (fun a => by kernel_rfl)
noncomputable def e_laws_szRuleS : GEnt := entOf [.data false (.sl TRule), .data false (.int .i64)] [(false, (.int .i64))] fun a => Pu.laws_szRuleS a.1 a.2.1
theorem ok_laws_szRuleS : FnOk Tryz.prog 76 e_laws_szRuleS := FnOk.of (fnOk (an := {}) (Λ := Lam.nil) (base) Tryz.func76 (by kernel_rfl) (hF (by kernel_rfl) nF)) (fun a => by kernel_rfl)
noncomputable def e_laws_szSlotS : GEnt := entOf [.data false (.sl TSlot), .data false (.int .i64)] [(false, (.int .i64))] fun a => Pu.laws_szSlotS a.1 a.2.1
theorem ok_laws_szSlotS : FnOk Tryz.prog 102 e_laws_szSlotS := FnOk.of (fnOk (an := {}) (Λ := Lam.nil) (base) Tryz.func102 (by kernel_rfl) (hF (by kernel_rfl) nF)) (fun a => by kernel_rfl)
noncomputable def e_laws_szFlowTable : GEnt := entOf [.data true (.sl TSlot), .data false (.int .i64)] [(false, (.int .i64))] fun a => Pu.laws_szFlowTable a.1 a.2.1
theorem ok_laws_szFlowTable : FnOk Tryz.prog 77 e_laws_szFlowTable := FnOk.of (fnOk (an := {}) (Λ := Lam.nil) ((base).add ok_laws_szSlotS) Tryz.func77 (by kernel_rfl) (hF (by kernel_rfl) nF)) (fun a => by kernel_rfl)
noncomputable def e_laws_szSpread : GEnt := entOf [.data true TSpread, .data false (.int .i64)] [(false, (.int .i64))] fun a => Pu.laws_szSpread a.1 a.2.1
theorem ok_laws_szSpread : FnOk Tryz.prog 78 e_laws_szSpread := FnOk.of (fnOk (an := {}) (Λ := Lam.nil) ((base).add ok_laws_szIntS) Tryz.func78 (by kernel_rfl) (hF (by kernel_rfl) nF)) (fun a => by kernel_rfl)
noncomputable def e_laws_szSteering : GEnt := entOf [.data true TSteering, .data false (.int .i64)] [(false, (.int .i64))] fun a => Pu.laws_szSteering a.1 a.2.1
theorem ok_laws_szSteering : FnOk Tryz.prog 47 e_laws_szSteering := FnOk.of (fnOk (an := {}) (Λ := Lam.nil) ((((base).add ok_laws_szRuleS).add ok_laws_szFlowTable).add ok_laws_szSpread) Tryz.func47 (by kernel_rfl) (hF (by kernel_rfl) nF)) (fun a => by kernel_rfl)
noncomputable def e_laws_szStream : GEnt := entOf [.data true TStream, .data false (.int .i64)] [(false, (.int .i64))] fun a => Pu.laws_szStream a.1 a.2.1
theorem ok_laws_szStream : FnOk Tryz.prog 79 e_laws_szStream := FnOk.of (fnOk (an := {}) (Λ := Lam.nil) (base) Tryz.func79 (by kernel_rfl) (hF (by kernel_rfl) nF)) (fun a => by kernel_rfl)
noncomputable def e_laws_szStreamS : GEnt := entOf [.data false (.sl TStream), .data false (.int .i64)] [(false, (.int .i64))] fun a => Pu.laws_szStreamS a.1 a.2.1
noncomputable def g_laws_szStreamS : Gam := (Gam.nil).add 79 e_laws_szStream
def n_laws_szStreamS : An := { mask := fun | 5 => [0, 1, 4, 5] | _ => [] }
@[reducible] def d_laws_szStreamS_5 : SD := ⟨[.data false (.sl .arg TStream),DI,B,B,DI,DI,B,B,B,B,B,B,B,B,B,B,B,B,B,B,B,B,B,B,B,B,B], [Z,Z,Z,Z,Z,Z,Z,Z,Z,Z,Z,Z,Z,Z,Z,Z,Z,Z,Z,Z,Z,Z,Z,Z,Z,Z,Z], none⟩
noncomputable def t_laws_szStreamS_5 {R : Type} (X : SD.D d_laws_szStreamS_5) (K : Ex → AS → Option R) := Pu.laws_szStreamS_T5 (fun y0 y1 => K (.exit 0) (SD.enc d_laws_szStreamS_5 ((X.1.1, (y0, (X.1.2.2.1, (y1, ())))), (), ()))) (fun y0 y1 y2 => K .ret (SD.enc d_laws_szStreamS_5 ((X.1.1, (y0, (y1, (y2, ())))), (), ()))) X.1.1 X.1.2.2.1
noncomputable def l_laws_szStreamS_5 : LEnt := ⟨d_laws_szStreamS_5, fun X K => iterL (t_laws_szStreamS_5 X K) fuel (X.1.2.1, X.1.2.2.2.1)⟩
noncomputable def L_laws_szStreamS : Lam := (Lam.nil).add 5 l_laws_szStreamS_5
theorem lok_laws_szStreamS_5 : LOk E g_laws_szStreamS n_laws_szStreamS L_laws_szStreamS (loopBody Tryz.f48 0) :=
  lok l_laws_szStreamS_5 (by kernel_rfl) fuel fun R X K => (loop_iter (σ := Int × Int) (fun x => SD.enc d_laws_szStreamS_5 ((X.1.1, (x.1, (X.1.2.2.1, (x.2, ())))), (), ())) (t_laws_szStreamS_5 X K) (fun m x => by kernel_rfl) fuel (X.1.2.1, X.1.2.2.2.1)).symm
theorem ok_laws_szStreamS : FnOk Tryz.prog 48 e_laws_szStreamS := FnOk.of (fnOk (Γ := g_laws_szStreamS) (an := n_laws_szStreamS) (Λ := L_laws_szStreamS) ((base).add ok_laws_szStream) Tryz.func48 (by kernel_rfl) (hF (by kernel_rfl) (cF lok_laws_szStreamS_5 nF))) (fun a => by kernel_rfl)
noncomputable def e_laws_szHost : GEnt := entOf [.data true THost, .data false (.int .i64)] [(false, (.int .i64))] fun a => Pu.laws_szHost a.1 a.2.1
theorem ok_laws_szHost : FnOk Tryz.prog 31 e_laws_szHost := FnOk.of (fnOk (an := {}) (Λ := Lam.nil) (((((((((((((base).add ok_laws_szIntS).add ok_laws_szStringS).add ok_laws_szMemory).add ok_laws_szMappingS).add ok_laws_szTxQueue).add ok_laws_szRxQueueS).add ok_laws_szPoolS).add ok_laws_szVectorS).add ok_laws_szBoolS).add ok_laws_szFilter).add ok_laws_szSteering).add ok_laws_szStreamS) Tryz.func31 (by kernel_rfl) (hF (by kernel_rfl) nF)) (fun a => by kernel_rfl)
noncomputable def e_laws_szHostS : GEnt := entOf [.data false (.sl THost), .data false (.int .i64)] [(false, (.int .i64))] fun a => Pu.laws_szHostS a.1 a.2.1
noncomputable def g_laws_szHostS : Gam := (Gam.nil).add 31 e_laws_szHost
def n_laws_szHostS : An := { mask := fun | 5 => [0, 1, 4, 5] | _ => [] }
@[reducible] def d_laws_szHostS_5 : SD := ⟨[.data false (.sl .arg THost),DI,B,B,DI,DI,B,B,B,B,B,B,B,B,B,B,B,B,B,B,B,B,B,B,B,B,B], [Z,Z,Z,Z,Z,Z,Z,Z,Z,Z,Z,Z,Z,Z,Z,Z,Z,Z,Z,Z,Z,Z,Z,Z,Z,Z,Z], none⟩
noncomputable def t_laws_szHostS_5 {R : Type} (X : SD.D d_laws_szHostS_5) (K : Ex → AS → Option R) := Pu.laws_szHostS_T5 (fun y0 y1 => K (.exit 0) (SD.enc d_laws_szHostS_5 ((X.1.1, (y0, (X.1.2.2.1, (y1, ())))), (), ()))) (fun y0 y1 y2 => K .ret (SD.enc d_laws_szHostS_5 ((X.1.1, (y0, (y1, (y2, ())))), (), ()))) X.1.1 X.1.2.2.1
noncomputable def l_laws_szHostS_5 : LEnt := ⟨d_laws_szHostS_5, fun X K => iterL (t_laws_szHostS_5 X K) fuel (X.1.2.1, X.1.2.2.2.1)⟩
noncomputable def L_laws_szHostS : Lam := (Lam.nil).add 5 l_laws_szHostS_5
theorem lok_laws_szHostS_5 : LOk E g_laws_szHostS n_laws_szHostS L_laws_szHostS (loopBody Tryz.f9 0) :=
  lok l_laws_szHostS_5 (by kernel_rfl) fuel fun R X K => (loop_iter (σ := Int × Int) (fun x => SD.enc d_laws_szHostS_5 ((X.1.1, (x.1, (X.1.2.2.1, (x.2, ())))), (), ())) (t_laws_szHostS_5 X K) (fun m x => by kernel_rfl) fuel (X.1.2.1, X.1.2.2.2.1)).symm
theorem ok_laws_szHostS : FnOk Tryz.prog 9 e_laws_szHostS := FnOk.of (fnOk (Γ := g_laws_szHostS) (an := n_laws_szHostS) (Λ := L_laws_szHostS) ((base).add ok_laws_szHost) Tryz.func9 (by kernel_rfl) (hF (by kernel_rfl) (cF lok_laws_szHostS_5 nF))) (fun a => by kernel_rfl)
noncomputable def e_laws_szVirtualFunctionS : GEnt := entOf [.data false (.sl TVirtualFunction), .data false (.int .i64)] [(false, (.int .i64))] fun a => Pu.laws_szVirtualFunctionS a.1 a.2.1
theorem ok_laws_szVirtualFunctionS : FnOk Tryz.prog 10 e_laws_szVirtualFunctionS := FnOk.of (fnOk (an := {}) (Λ := Lam.nil) (base) Tryz.func10 (by kernel_rfl) (hF (by kernel_rfl) nF)) (fun a => by kernel_rfl)
noncomputable def e_laws_szMailbox : GEnt := entOf [.data true TMailbox, .data false (.int .i64)] [(false, (.int .i64))] fun a => Pu.laws_szMailbox a.1 a.2.1
theorem ok_laws_szMailbox : FnOk Tryz.prog 32 e_laws_szMailbox := FnOk.of (fnOk (an := {}) (Λ := Lam.nil) ((base).add ok_laws_szFilter) Tryz.func32 (by kernel_rfl) (hF (by kernel_rfl) nF)) (fun a => by kernel_rfl)
noncomputable def e_laws_szMailboxS : GEnt := entOf [.data false (.sl TMailbox), .data false (.int .i64)] [(false, (.int .i64))] fun a => Pu.laws_szMailboxS a.1 a.2.1
noncomputable def g_laws_szMailboxS : Gam := (Gam.nil).add 32 e_laws_szMailbox
def n_laws_szMailboxS : An := { mask := fun | 5 => [0, 1, 4, 5] | _ => [] }
@[reducible] def d_laws_szMailboxS_5 : SD := ⟨[.data false (.sl .arg TMailbox),DI,B,B,DI,DI,B,B,B,B,B,B,B,B,B,B,B,B,B,B,B,B,B,B,B,B,B], [Z,Z,Z,Z,Z,Z,Z,Z,Z,Z,Z,Z,Z,Z,Z,Z,Z,Z,Z,Z,Z,Z,Z,Z,Z,Z,Z], none⟩
noncomputable def t_laws_szMailboxS_5 {R : Type} (X : SD.D d_laws_szMailboxS_5) (K : Ex → AS → Option R) := Pu.laws_szMailboxS_T5 (fun y0 y1 => K (.exit 0) (SD.enc d_laws_szMailboxS_5 ((X.1.1, (y0, (X.1.2.2.1, (y1, ())))), (), ()))) (fun y0 y1 y2 => K .ret (SD.enc d_laws_szMailboxS_5 ((X.1.1, (y0, (y1, (y2, ())))), (), ()))) X.1.1 X.1.2.2.1
noncomputable def l_laws_szMailboxS_5 : LEnt := ⟨d_laws_szMailboxS_5, fun X K => iterL (t_laws_szMailboxS_5 X K) fuel (X.1.2.1, X.1.2.2.2.1)⟩
noncomputable def L_laws_szMailboxS : Lam := (Lam.nil).add 5 l_laws_szMailboxS_5
theorem lok_laws_szMailboxS_5 : LOk E g_laws_szMailboxS n_laws_szMailboxS L_laws_szMailboxS (loopBody Tryz.f11 0) :=
  lok l_laws_szMailboxS_5 (by kernel_rfl) fuel fun R X K => (loop_iter (σ := Int × Int) (fun x => SD.enc d_laws_szMailboxS_5 ((X.1.1, (x.1, (X.1.2.2.1, (x.2, ())))), (), ())) (t_laws_szMailboxS_5 X K) (fun m x => by kernel_rfl) fuel (X.1.2.1, X.1.2.2.2.1)).symm
theorem ok_laws_szMailboxS : FnOk Tryz.prog 11 e_laws_szMailboxS := FnOk.of (fnOk (Γ := g_laws_szMailboxS) (an := n_laws_szMailboxS) (Λ := L_laws_szMailboxS) ((base).add ok_laws_szMailbox) Tryz.func11 (by kernel_rfl) (hF (by kernel_rfl) (cF lok_laws_szMailboxS_5 nF))) (fun a => by kernel_rfl)
noncomputable def e_laws_szFlash : GEnt := entOf [.data true (.sl .str), .data false (.int .i64)] [(false, (.int .i64))] fun a => Pu.laws_szFlash a.1 a.2.1
theorem ok_laws_szFlash : FnOk Tryz.prog 12 e_laws_szFlash := FnOk.of (fnOk (an := {}) (Λ := Lam.nil) ((base).add ok_laws_szStringS) Tryz.func12 (by kernel_rfl) (hF (by kernel_rfl) nF)) (fun a => by kernel_rfl)
noncomputable def e_laws_szCard : GEnt := entOf [.data true TCard, .data false (.int .i64)] [(false, (.int .i64))] fun a => Pu.laws_szCard a.1 a.2.1
theorem ok_laws_szCard : FnOk Tryz.prog 4 e_laws_szCard := FnOk.of (fnOk (an := {}) (Λ := Lam.nil) (((((((base).add ok_laws_szHostS).add ok_laws_szVirtualFunctionS).add ok_laws_szMailboxS).add ok_laws_szFlash).add ok_laws_szIntS).add ok_laws_szStringS) Tryz.func4 (by kernel_rfl) (hF (by kernel_rfl) nF)) (fun a => by kernel_rfl)
noncomputable def e_spec_HostDropped : GEnt := entOf [.data true THost] [(false, (.int .i64))] fun a => Pu.spec_HostDropped a.1
noncomputable def g_spec_HostDropped : Gam := Gam.nil
def n_spec_HostDropped : An := { mask := fun | 3 => [1, 3, 4] | _ => [] }
@[reducible] def d_spec_HostDropped_3 : SD := ⟨[B,.ptr 1 0,B,DI,DI,B,B,B,B,B,B,B,B,B,B,B,B,B,B,B,B], [Z,some (.pair (.sl .arg .str) (.pair (.sl .arg TMapping) (.pair (.pair (.pair (.int .i64) (.pair (.int .i64) (.pair (.int .i64) (.int .i64)))) (.pair (.pair (.int .i64) (.pair (.int .i64) (.pair (.int .i64) (.sl .arg (.int .i64))))) (.pair (.sl .arg TSent) (.int .i64)))) (.pair (.sl .arg TRxQueue) (.pair (.sl .arg TPool) (.pair (.sl .arg TVector) (.pair (.sl .arg .bool) (.pair (.pair (.int .i64) (.pair .bool (.sl .arg (.int .i64)))) (.pair (.pair (.sl .arg TRule) (.pair (.sl .arg TSlot) (.pair .str (.sl .arg (.int .i64))))) (.pair (.sl .arg TStream) (.pair .bool (.pair (.sl .arg .str) (.pair (.sl .arg (.int .i64)) (.pair (.sl .arg (.int .i64)) (.pair (.int .i64) (.pair (.int .i64) (.pair (.int .i64) (.pair (.int .i64) (.int .i64))))))))))))))))))),Z,Z,Z,Z,Z,Z,Z,Z,Z,Z,Z,Z,Z,Z,Z,Z,Z,Z,Z], none⟩
noncomputable def t_spec_HostDropped_3 {R : Type} (X : SD.D d_spec_HostDropped_3) (K : Ex → AS → Option R) := Pu.spec_HostDropped_T3 (fun y0 y1 => K (.exit 0) (SD.enc d_spec_HostDropped_3 ((y0, (y1, ())), (X.2.1.1, ()), ()))) X.2.1.1
noncomputable def l_spec_HostDropped_3 : LEnt := ⟨d_spec_HostDropped_3, fun X K => iterL (t_spec_HostDropped_3 X K) fuel (X.1.1, X.1.2.1)⟩
noncomputable def L_spec_HostDropped : Lam := (Lam.nil).add 3 l_spec_HostDropped_3
theorem lok_spec_HostDropped_3 : LOk E g_spec_HostDropped n_spec_HostDropped L_spec_HostDropped (loopBody Tryz.f15 0) :=
  lok l_spec_HostDropped_3 (by kernel_rfl) fuel fun R X K => (loop_iter (σ := Int × Int) (fun x => SD.enc d_spec_HostDropped_3 ((x.1, (x.2, ())), (X.2.1.1, ()), ())) (t_spec_HostDropped_3 X K) (fun m x => by kernel_rfl) fuel (X.1.1, X.1.2.1)).symm
theorem ok_spec_HostDropped : FnOk Tryz.prog 15 e_spec_HostDropped := FnOk.of (fnOk (Γ := g_spec_HostDropped) (an := n_spec_HostDropped) (Λ := L_spec_HostDropped) (base) Tryz.func15 (by kernel_rfl) (hF (by kernel_rfl) (cF lok_spec_HostDropped_3 nF))) (fun a => by kernel_rfl)
noncomputable def e_spec_CardDropped : GEnt := entOf [.data true TCard] [(false, (.int .i64))] fun a => Pu.spec_CardDropped a.1
noncomputable def g_spec_CardDropped : Gam := (Gam.nil).add 15 e_spec_HostDropped
def n_spec_CardDropped : An := { mask := fun | 3 => [1, 3, 4] | _ => [] }
@[reducible] def d_spec_CardDropped_3 : SD := ⟨[B,.ptr 1 0,B,DI,DI,B,B,B,B,B,B,B,B,B,B,B,B,B,B,B,B], [Z,some (.pair (.sl .arg THost) (.pair (.sl .arg TVirtualFunction) (.pair (.sl .arg TMailbox) (.pair (.sl .arg .str) (.pair (.pair (.int .i64) (.pair (.int .i64) (.pair (.int .i64) (.int .i64)))) (.pair (.sl .arg (.int .i64)) (.sl .arg .str))))))),Z,Z,Z,Z,Z,Z,Z,Z,Z,Z,Z,Z,Z,Z,Z,Z,Z,Z,Z], none⟩
noncomputable def t_spec_CardDropped_3 {R : Type} (X : SD.D d_spec_CardDropped_3) (K : Ex → AS → Option R) := Pu.spec_CardDropped_T3 (fun y0 y1 => K (.exit 0) (SD.enc d_spec_CardDropped_3 ((y0, (y1, ())), (X.2.1.1, ()), ()))) X.2.1.1
noncomputable def l_spec_CardDropped_3 : LEnt := ⟨d_spec_CardDropped_3, fun X K => iterL (t_spec_CardDropped_3 X K) fuel (X.1.1, X.1.2.1)⟩
noncomputable def L_spec_CardDropped : Lam := (Lam.nil).add 3 l_spec_CardDropped_3
theorem lok_spec_CardDropped_3 : LOk E g_spec_CardDropped n_spec_CardDropped L_spec_CardDropped (loopBody Tryz.f5 0) :=
  lok l_spec_CardDropped_3 (by kernel_rfl) fuel fun R X K => (loop_iter (σ := Int × Int) (fun x => SD.enc d_spec_CardDropped_3 ((x.1, (x.2, ())), (X.2.1.1, ()), ())) (t_spec_CardDropped_3 X K) (fun m x => by kernel_rfl) fuel (X.1.1, X.1.2.1)).symm
theorem ok_spec_CardDropped : FnOk Tryz.prog 5 e_spec_CardDropped := FnOk.of (fnOk (Γ := g_spec_CardDropped) (an := n_spec_CardDropped) (Λ := L_spec_CardDropped) ((base).add ok_spec_HostDropped) Tryz.func5 (by kernel_rfl) (hF (by kernel_rfl) (cF lok_spec_CardDropped_3 nF))) (fun a => by kernel_rfl)
noncomputable def e_laws_toIntS : GEnt := entOf [.data false (.sl (.int .i64))] [(false, (.sl (.own none) (.int .i64)))] fun a => Pu.laws_toIntS a.1
noncomputable def g_laws_toIntS : Gam := Gam.nil
def n_laws_toIntS : An := { mask := fun | 3 => [0, 3, 4] | _ => [], mv := [21] }
@[reducible] def d_laws_toIntS_3 : SD := ⟨[.data false (.sl .arg (.int .i64)),B,B,.data false (.sl (.own (some 36864)) (.int .i64)),DI,B,B,B,B,B,B,B,B,B,B,B,B,B,B,B,B,B], [Z,Z,Z,Z,Z,Z,Z,Z,Z,Z,Z,Z,Z,Z,Z,Z,Z,Z,Z,Z,Z,Z], none⟩
noncomputable def t_laws_toIntS_3 {R : Type} (X : SD.D d_laws_toIntS_3) (K : Ex → AS → Option R) := Pu.laws_toIntS_T3 (fun y0 y1 => K (.exit 0) (SD.enc d_laws_toIntS_3 ((X.1.1, (y0, (y1, ()))), (), ()))) X.1.1
noncomputable def l_laws_toIntS_3 : LEnt := ⟨d_laws_toIntS_3, fun X K => iterL (t_laws_toIntS_3 X K) fuel (X.1.2.1, X.1.2.2.1)⟩
noncomputable def L_laws_toIntS : Lam := (Lam.nil).add 3 l_laws_toIntS_3
theorem lok_laws_toIntS_3 : LOk E g_laws_toIntS n_laws_toIntS L_laws_toIntS (loopBody Tryz.f21 0) :=
  lok l_laws_toIntS_3 (by kernel_rfl) fuel fun R X K => (loop_iter (σ := (List Int) × Int) (fun x => SD.enc d_laws_toIntS_3 ((X.1.1, (x.1, (x.2, ()))), (), ())) (t_laws_toIntS_3 X K) (fun m x => by kernel_rfl) fuel (X.1.2.1, X.1.2.2.1)).symm
theorem ok_laws_toIntS : FnOk Tryz.prog 21 e_laws_toIntS := FnOk.of (fnOk (Γ := g_laws_toIntS) (an := n_laws_toIntS) (Λ := L_laws_toIntS) (base) Tryz.func21 (by kernel_rfl) (hF (by kernel_rfl) (cF lok_laws_toIntS_3 nF))) (fun a => by kernel_rfl)
noncomputable def e_laws_toStringS : GEnt := entOf [.data false (.sl .str)] [(false, (.sl (.own none) .str))] fun a => Pu.laws_toStringS a.1
noncomputable def g_laws_toStringS : Gam := Gam.nil
def n_laws_toStringS : An := { mask := fun | 3 => [0, 3, 4] | _ => [], mv := [21] }
@[reducible] def d_laws_toStringS_3 : SD := ⟨[.data false (.sl .arg .str),B,B,.data false (.sl (.own (some 36864)) .str),DI,B,B,B,B,B,B,B,B,B,B,B,B,B,B,B,B,B], [Z,Z,Z,Z,Z,Z,Z,Z,Z,Z,Z,Z,Z,Z,Z,Z,Z,Z,Z,Z,Z,Z], none⟩
noncomputable def t_laws_toStringS_3 {R : Type} (X : SD.D d_laws_toStringS_3) (K : Ex → AS → Option R) := Pu.laws_toStringS_T3 (fun y0 y1 => K (.exit 0) (SD.enc d_laws_toStringS_3 ((X.1.1, (y0, (y1, ()))), (), ()))) X.1.1
noncomputable def l_laws_toStringS_3 : LEnt := ⟨d_laws_toStringS_3, fun X K => iterL (t_laws_toStringS_3 X K) fuel (X.1.2.1, X.1.2.2.1)⟩
noncomputable def L_laws_toStringS : Lam := (Lam.nil).add 3 l_laws_toStringS_3
theorem lok_laws_toStringS_3 : LOk E g_laws_toStringS n_laws_toStringS L_laws_toStringS (loopBody Tryz.f22 0) :=
  lok l_laws_toStringS_3 (by kernel_rfl) fuel fun R X K => (loop_iter (σ := (List Pu.Bytes) × Int) (fun x => SD.enc d_laws_toStringS_3 ((X.1.1, (x.1, (x.2, ()))), (), ())) (t_laws_toStringS_3 X K) (fun m x => by kernel_rfl) fuel (X.1.2.1, X.1.2.2.1)).symm
theorem ok_laws_toStringS : FnOk Tryz.prog 22 e_laws_toStringS := FnOk.of (fnOk (Γ := g_laws_toStringS) (an := n_laws_toStringS) (Λ := L_laws_toStringS) (base) Tryz.func22 (by kernel_rfl) (hF (by kernel_rfl) (cF lok_laws_toStringS_3 nF))) (fun a => by kernel_rfl)
noncomputable def e_laws_toMemory : GEnt := entOf [.data true (.sl .str)] [(true, (.sl (.own none) .str))] fun a => Pu.laws_toMemory a.1
theorem ok_laws_toMemory : FnOk Tryz.prog 49 e_laws_toMemory := FnOk.of (fnOk (an := { mv := [8] }) (Λ := Lam.nil) ((base).add ok_laws_toStringS) Tryz.func49 (by kernel_rfl) (hF (by kernel_rfl) nF)) (fun a => by kernel_rfl)
noncomputable def e_laws_toMapping : GEnt := entOf [.data true TMapping] [(true, (.pair (.int .i64) (.pair (.int .i64) (.pair (.int .i64) .bool))))] fun a => Pu.laws_toMapping a.1
theorem ok_laws_toMapping : FnOk Tryz.prog 80 e_laws_toMapping := FnOk.of (fnOk (an := {}) (Λ := Lam.nil) (base) Tryz.func80 (by kernel_rfl) (hF (by kernel_rfl) nF)) (fun a => by kernel_rfl)
noncomputable def e_laws_toMappingS : GEnt := entOf [.data false (.sl TMapping)] [(false, (.sl (.own none) TMapping))] fun a => Pu.laws_toMappingS a.1
noncomputable def g_laws_toMappingS : Gam := (Gam.nil).add 80 e_laws_toMapping
def n_laws_toMappingS : An := { mask := fun | 3 => [0, 3, 4] | _ => [], mv := [22] }
@[reducible] def d_laws_toMappingS_3 : SD := ⟨[.data false (.sl .arg TMapping),B,B,.data false (.sl (.own (some 36864)) TMapping),DI,B,B,B,B,B,B,B,B,B,B,B,B,B,B,B,B,B,B], [Z,Z,Z,Z,Z,Z,Z,Z,Z,Z,Z,Z,Z,Z,Z,Z,Z,Z,Z,Z,Z,Z,Z], none⟩
noncomputable def t_laws_toMappingS_3 {R : Type} (X : SD.D d_laws_toMappingS_3) (K : Ex → AS → Option R) := Pu.laws_toMappingS_T3 (fun y0 y1 => K (.exit 0) (SD.enc d_laws_toMappingS_3 ((X.1.1, (y0, (y1, ()))), (), ()))) X.1.1
noncomputable def l_laws_toMappingS_3 : LEnt := ⟨d_laws_toMappingS_3, fun X K => iterL (t_laws_toMappingS_3 X K) fuel (X.1.2.1, X.1.2.2.1)⟩
noncomputable def L_laws_toMappingS : Lam := (Lam.nil).add 3 l_laws_toMappingS_3
theorem lok_laws_toMappingS_3 : LOk E g_laws_toMappingS n_laws_toMappingS L_laws_toMappingS (loopBody Tryz.f50 0) :=
  lok l_laws_toMappingS_3 (by kernel_rfl) fuel fun R X K => (loop_iter (σ := (List Pu.Mapping) × Int) (fun x => SD.enc d_laws_toMappingS_3 ((X.1.1, (x.1, (x.2, ()))), (), ())) (t_laws_toMappingS_3 X K) (fun m x => by kernel_rfl) fuel (X.1.2.1, X.1.2.2.1)).symm
theorem ok_laws_toMappingS : FnOk Tryz.prog 50 e_laws_toMappingS := FnOk.of (fnOk (Γ := g_laws_toMappingS) (an := n_laws_toMappingS) (Λ := L_laws_toMappingS) ((base).add ok_laws_toMapping) Tryz.func50 (by kernel_rfl) (hF (by kernel_rfl) (cF lok_laws_toMappingS_3 nF))) (fun a => by kernel_rfl)
noncomputable def e_laws_toRing : GEnt := entOf [.data true TClock] [(true, (.pair (.int .i64) (.pair (.int .i64) (.pair (.int .i64) (.int .i64)))))] fun a => Pu.laws_toRing a.1
theorem ok_laws_toRing : FnOk Tryz.prog 81 e_laws_toRing := FnOk.of (fnOk (an := {}) (Λ := Lam.nil) (base) Tryz.func81 (by kernel_rfl) (hF (by kernel_rfl) nF)) (fun a => by kernel_rfl)
noncomputable def e_laws_toPool : GEnt := entOf [.data true TPool] [(true, (.pair (.int .i64) (.pair (.int .i64) (.pair (.int .i64) (.sl (.own none) (.int .i64))))))] fun a => Pu.laws_toPool a.1
theorem ok_laws_toPool : FnOk Tryz.prog 82 e_laws_toPool := FnOk.of (fnOk (an := { mv := [17] }) (Λ := Lam.nil) ((base).add ok_laws_toIntS) Tryz.func82 (by kernel_rfl) (hF (by kernel_rfl) nF)) (fun a => by kernel_rfl)
noncomputable def e_laws_toSent : GEnt := entOf [.data true TSent] [(true, (.pair (.int .i64) (.pair (.int .i64) (.sl (.own none) (.int .i64)))))] fun a => Pu.laws_toSent a.1
theorem ok_laws_toSent : FnOk Tryz.prog 103 e_laws_toSent := FnOk.of (fnOk (an := { mv := [14] }) (Λ := Lam.nil) ((base).add ok_laws_toIntS) Tryz.func103 (by kernel_rfl) (hF (by kernel_rfl) nF)) (fun a => by kernel_rfl)
noncomputable def e_laws_toSentS : GEnt := entOf [.data false (.sl TSent)] [(false, (.sl (.own none) TSent))] fun a => Pu.laws_toSentS a.1
noncomputable def g_laws_toSentS : Gam := (Gam.nil).add 103 e_laws_toSent
def n_laws_toSentS : An := { mask := fun | 3 => [0, 3, 4] | _ => [], mv := [22] }
@[reducible] def d_laws_toSentS_3 : SD := ⟨[.data false (.sl .arg TSent),B,B,.data false (.sl (.own (some 36864)) TSent),DI,B,B,B,B,B,B,B,B,B,B,B,B,B,B,B,B,B,B], [Z,Z,Z,Z,Z,Z,Z,Z,Z,Z,Z,Z,Z,Z,Z,Z,Z,Z,Z,Z,Z,Z,Z], none⟩
noncomputable def t_laws_toSentS_3 {R : Type} (X : SD.D d_laws_toSentS_3) (K : Ex → AS → Option R) := Pu.laws_toSentS_T3 (fun y0 y1 => K (.exit 0) (SD.enc d_laws_toSentS_3 ((X.1.1, (y0, (y1, ()))), (), ()))) X.1.1
noncomputable def l_laws_toSentS_3 : LEnt := ⟨d_laws_toSentS_3, fun X K => iterL (t_laws_toSentS_3 X K) fuel (X.1.2.1, X.1.2.2.1)⟩
noncomputable def L_laws_toSentS : Lam := (Lam.nil).add 3 l_laws_toSentS_3
theorem lok_laws_toSentS_3 : LOk E g_laws_toSentS n_laws_toSentS L_laws_toSentS (loopBody Tryz.f83 0) :=
  lok l_laws_toSentS_3 (by kernel_rfl) fuel fun R X K => (loop_iter (σ := (List Pu.Sent) × Int) (fun x => SD.enc d_laws_toSentS_3 ((X.1.1, (x.1, (x.2, ()))), (), ())) (t_laws_toSentS_3 X K) (fun m x => by kernel_rfl) fuel (X.1.2.1, X.1.2.2.1)).symm
theorem ok_laws_toSentS : FnOk Tryz.prog 83 e_laws_toSentS := FnOk.of (fnOk (Γ := g_laws_toSentS) (an := n_laws_toSentS) (Λ := L_laws_toSentS) ((base).add ok_laws_toSent) Tryz.func83 (by kernel_rfl) (hF (by kernel_rfl) (cF lok_laws_toSentS_3 nF))) (fun a => by kernel_rfl)
noncomputable def e_laws_toTxQueue : GEnt := entOf [.data true TTxQueue] [(true, (.pair (.pair (.int .i64) (.pair (.int .i64) (.pair (.int .i64) (.int .i64)))) (.pair (.pair (.int .i64) (.pair (.int .i64) (.pair (.int .i64) (.sl (.own none) (.int .i64))))) (.pair (.sl (.own none) TSent) (.int .i64)))))] fun a => Pu.laws_toTxQueue a.1
theorem ok_laws_toTxQueue : FnOk Tryz.prog 51 e_laws_toTxQueue := FnOk.of (fnOk (an := { mv := [19] }) (Λ := Lam.nil) ((((base).add ok_laws_toRing).add ok_laws_toPool).add ok_laws_toSentS) Tryz.func51 (by kernel_rfl) (hF (by kernel_rfl) nF)) (fun a => by kernel_rfl)
noncomputable def e_laws_toCompletionQueue : GEnt := entOf [.data true TBucket] [(true, (.pair (.int .i64) (.pair (.int .i64) (.int .i64))))] fun a => Pu.laws_toCompletionQueue a.1
theorem ok_laws_toCompletionQueue : FnOk Tryz.prog 104 e_laws_toCompletionQueue := FnOk.of (fnOk (an := {}) (Λ := Lam.nil) (base) Tryz.func104 (by kernel_rfl) (hF (by kernel_rfl) nF)) (fun a => by kernel_rfl)
noncomputable def e_laws_toSegment : GEnt := entOf [.data true TSegment] [(true, (.pair (.int .i64) (.pair (.int .i64) (.pair (.int .i64) (.pair (.int .i64) (.pair (.int .i64) (.pair (.int .i64) (.pair (.int .i64) .str))))))))] fun a => Pu.laws_toSegment a.1
theorem ok_laws_toSegment : FnOk Tryz.prog 121 e_laws_toSegment := FnOk.of (fnOk (an := {}) (Λ := Lam.nil) (base) Tryz.func121 (by kernel_rfl) (hF (by kernel_rfl) nF)) (fun a => by kernel_rfl)
noncomputable def e_laws_toPacket : GEnt := entOf [.data true TPacket] [(true, (.pair (.int .i64) (.pair (.int .i64) (.pair (.int .i64) (.pair (.int .i64) (.pair (.int .i64) (.pair (.int .i64) (.pair (.int .i64) (.pair (.int .i64) (.pair (.int .i64) (.pair (.int .i64) (.pair (.int .i64) (.pair (.int .i64) (.pair (.int .i64) (.pair (.int .i64) (.pair (.int .i64) .str))))))))))))))))] fun a => Pu.laws_toPacket a.1
theorem ok_laws_toPacket : FnOk Tryz.prog 116 e_laws_toPacket := FnOk.of (fnOk (an := {}) (Λ := Lam.nil) ((base).add ok_laws_toSegment) Tryz.func116 (by kernel_rfl) (hF (by kernel_rfl) nF)) (fun a => by kernel_rfl)
noncomputable def e_laws_toSuper : GEnt := entOf [.data true TSuper] [(true, (.pair (.pair (.int .i64) (.pair (.int .i64) (.pair (.int .i64) (.pair (.int .i64) (.pair (.int .i64) (.pair (.int .i64) (.pair (.int .i64) (.pair (.int .i64) (.pair (.int .i64) (.pair (.int .i64) (.pair (.int .i64) (.pair (.int .i64) (.pair (.int .i64) (.pair (.int .i64) (.pair (.int .i64) .str))))))))))))))) (.pair (.int .i64) (.int .i64))))] fun a => Pu.laws_toSuper a.1
theorem ok_laws_toSuper : FnOk Tryz.prog 105 e_laws_toSuper := FnOk.of (fnOk (an := {}) (Λ := Lam.nil) ((base).add ok_laws_toPacket) Tryz.func105 (by kernel_rfl) (hF (by kernel_rfl) nF)) (fun a => by kernel_rfl)
noncomputable def e_laws_toRxQueue : GEnt := entOf [.data true TRxQueue] [(true, (.pair (.pair (.int .i64) (.pair (.int .i64) (.pair (.int .i64) (.int .i64)))) (.pair (.pair (.int .i64) (.pair (.int .i64) (.int .i64))) (.pair (.pair (.int .i64) (.pair (.int .i64) (.int .i64))) (.pair (.pair (.pair (.int .i64) (.pair (.int .i64) (.pair (.int .i64) (.pair (.int .i64) (.pair (.int .i64) (.pair (.int .i64) (.pair (.int .i64) (.pair (.int .i64) (.pair (.int .i64) (.pair (.int .i64) (.pair (.int .i64) (.pair (.int .i64) (.pair (.int .i64) (.pair (.int .i64) (.pair (.int .i64) .str))))))))))))))) (.pair (.int .i64) (.int .i64))) (.pair .bool (.int .i64)))))))] fun a => Pu.laws_toRxQueue a.1
theorem ok_laws_toRxQueue : FnOk Tryz.prog 84 e_laws_toRxQueue := FnOk.of (fnOk (an := {}) (Λ := Lam.nil) ((((base).add ok_laws_toRing).add ok_laws_toCompletionQueue).add ok_laws_toSuper) Tryz.func84 (by kernel_rfl) (hF (by kernel_rfl) nF)) (fun a => by kernel_rfl)
noncomputable def e_laws_toRxQueueS : GEnt := entOf [.data false (.sl TRxQueue)] [(false, (.sl (.own none) TRxQueue))] fun a => Pu.laws_toRxQueueS a.1
noncomputable def g_laws_toRxQueueS : Gam := (Gam.nil).add 84 e_laws_toRxQueue
def n_laws_toRxQueueS : An := { mask := fun | 3 => [0, 3, 4] | _ => [], mv := [22] }
@[reducible] def d_laws_toRxQueueS_3 : SD := ⟨[.data false (.sl .arg TRxQueue),B,B,.data false (.sl (.own (some 36864)) TRxQueue),DI,B,B,B,B,B,B,B,B,B,B,B,B,B,B,B,B,B,B], [Z,Z,Z,Z,Z,Z,Z,Z,Z,Z,Z,Z,Z,Z,Z,Z,Z,Z,Z,Z,Z,Z,Z], none⟩
noncomputable def t_laws_toRxQueueS_3 {R : Type} (X : SD.D d_laws_toRxQueueS_3) (K : Ex → AS → Option R) := Pu.laws_toRxQueueS_T3 (fun y0 y1 => K (.exit 0) (SD.enc d_laws_toRxQueueS_3 ((X.1.1, (y0, (y1, ()))), (), ()))) X.1.1
noncomputable def l_laws_toRxQueueS_3 : LEnt := ⟨d_laws_toRxQueueS_3, fun X K => iterL (t_laws_toRxQueueS_3 X K) fuel (X.1.2.1, X.1.2.2.1)⟩
noncomputable def L_laws_toRxQueueS : Lam := (Lam.nil).add 3 l_laws_toRxQueueS_3
theorem lok_laws_toRxQueueS_3 : LOk E g_laws_toRxQueueS n_laws_toRxQueueS L_laws_toRxQueueS (loopBody Tryz.f52 0) :=
  lok l_laws_toRxQueueS_3 (by kernel_rfl) fuel fun R X K => (loop_iter (σ := (List Pu.RxQueue) × Int) (fun x => SD.enc d_laws_toRxQueueS_3 ((X.1.1, (x.1, (x.2, ()))), (), ())) (t_laws_toRxQueueS_3 X K) (fun m x => by kernel_rfl) fuel (X.1.2.1, X.1.2.2.1)).symm
theorem ok_laws_toRxQueueS : FnOk Tryz.prog 52 e_laws_toRxQueueS := FnOk.of (fnOk (Γ := g_laws_toRxQueueS) (an := n_laws_toRxQueueS) (Λ := L_laws_toRxQueueS) ((base).add ok_laws_toRxQueue) Tryz.func52 (by kernel_rfl) (hF (by kernel_rfl) (cF lok_laws_toRxQueueS_3 nF))) (fun a => by kernel_rfl)
noncomputable def e_laws_toPoolS : GEnt := entOf [.data false (.sl TPool)] [(false, (.sl (.own none) TPool))] fun a => Pu.laws_toPoolS a.1
noncomputable def g_laws_toPoolS : Gam := (Gam.nil).add 82 e_laws_toPool
def n_laws_toPoolS : An := { mask := fun | 3 => [0, 3, 4] | _ => [], mv := [22] }
@[reducible] def d_laws_toPoolS_3 : SD := ⟨[.data false (.sl .arg TPool),B,B,.data false (.sl (.own (some 36864)) TPool),DI,B,B,B,B,B,B,B,B,B,B,B,B,B,B,B,B,B,B], [Z,Z,Z,Z,Z,Z,Z,Z,Z,Z,Z,Z,Z,Z,Z,Z,Z,Z,Z,Z,Z,Z,Z], none⟩
noncomputable def t_laws_toPoolS_3 {R : Type} (X : SD.D d_laws_toPoolS_3) (K : Ex → AS → Option R) := Pu.laws_toPoolS_T3 (fun y0 y1 => K (.exit 0) (SD.enc d_laws_toPoolS_3 ((X.1.1, (y0, (y1, ()))), (), ()))) X.1.1
noncomputable def l_laws_toPoolS_3 : LEnt := ⟨d_laws_toPoolS_3, fun X K => iterL (t_laws_toPoolS_3 X K) fuel (X.1.2.1, X.1.2.2.1)⟩
noncomputable def L_laws_toPoolS : Lam := (Lam.nil).add 3 l_laws_toPoolS_3
theorem lok_laws_toPoolS_3 : LOk E g_laws_toPoolS n_laws_toPoolS L_laws_toPoolS (loopBody Tryz.f53 0) :=
  lok l_laws_toPoolS_3 (by kernel_rfl) fuel fun R X K => (loop_iter (σ := (List Pu.Pool) × Int) (fun x => SD.enc d_laws_toPoolS_3 ((X.1.1, (x.1, (x.2, ()))), (), ())) (t_laws_toPoolS_3 X K) (fun m x => by kernel_rfl) fuel (X.1.2.1, X.1.2.2.1)).symm
theorem ok_laws_toPoolS : FnOk Tryz.prog 53 e_laws_toPoolS := FnOk.of (fnOk (Γ := g_laws_toPoolS) (an := n_laws_toPoolS) (Λ := L_laws_toPoolS) ((base).add ok_laws_toPool) Tryz.func53 (by kernel_rfl) (hF (by kernel_rfl) (cF lok_laws_toPoolS_3 nF))) (fun a => by kernel_rfl)
noncomputable def e_laws_toVector : GEnt := entOf [.data true TVector] [(true, (.pair (.int .i64) (.pair (.int .i64) (.pair (.int .i64) (.pair (.int .i64) (.pair .bool .bool))))))] fun a => Pu.laws_toVector a.1
theorem ok_laws_toVector : FnOk Tryz.prog 85 e_laws_toVector := FnOk.of (fnOk (an := {}) (Λ := Lam.nil) (base) Tryz.func85 (by kernel_rfl) (hF (by kernel_rfl) nF)) (fun a => by kernel_rfl)
noncomputable def e_laws_toVectorS : GEnt := entOf [.data false (.sl TVector)] [(false, (.sl (.own none) TVector))] fun a => Pu.laws_toVectorS a.1
noncomputable def g_laws_toVectorS : Gam := (Gam.nil).add 85 e_laws_toVector
def n_laws_toVectorS : An := { mask := fun | 3 => [0, 3, 4] | _ => [], mv := [22] }
@[reducible] def d_laws_toVectorS_3 : SD := ⟨[.data false (.sl .arg TVector),B,B,.data false (.sl (.own (some 36864)) TVector),DI,B,B,B,B,B,B,B,B,B,B,B,B,B,B,B,B,B,B], [Z,Z,Z,Z,Z,Z,Z,Z,Z,Z,Z,Z,Z,Z,Z,Z,Z,Z,Z,Z,Z,Z,Z], none⟩
noncomputable def t_laws_toVectorS_3 {R : Type} (X : SD.D d_laws_toVectorS_3) (K : Ex → AS → Option R) := Pu.laws_toVectorS_T3 (fun y0 y1 => K (.exit 0) (SD.enc d_laws_toVectorS_3 ((X.1.1, (y0, (y1, ()))), (), ()))) X.1.1
noncomputable def l_laws_toVectorS_3 : LEnt := ⟨d_laws_toVectorS_3, fun X K => iterL (t_laws_toVectorS_3 X K) fuel (X.1.2.1, X.1.2.2.1)⟩
noncomputable def L_laws_toVectorS : Lam := (Lam.nil).add 3 l_laws_toVectorS_3
theorem lok_laws_toVectorS_3 : LOk E g_laws_toVectorS n_laws_toVectorS L_laws_toVectorS (loopBody Tryz.f54 0) :=
  lok l_laws_toVectorS_3 (by kernel_rfl) fuel fun R X K => (loop_iter (σ := (List Pu.Vector) × Int) (fun x => SD.enc d_laws_toVectorS_3 ((X.1.1, (x.1, (x.2, ()))), (), ())) (t_laws_toVectorS_3 X K) (fun m x => by kernel_rfl) fuel (X.1.2.1, X.1.2.2.1)).symm
theorem ok_laws_toVectorS : FnOk Tryz.prog 54 e_laws_toVectorS := FnOk.of (fnOk (Γ := g_laws_toVectorS) (an := n_laws_toVectorS) (Λ := L_laws_toVectorS) ((base).add ok_laws_toVector) Tryz.func54 (by kernel_rfl) (hF (by kernel_rfl) (cF lok_laws_toVectorS_3 nF))) (fun a => by kernel_rfl)
noncomputable def e_laws_toBoolS : GEnt := entOf [.data false (.sl .bool)] [(false, (.sl (.own none) .bool))] fun a => Pu.laws_toBoolS a.1
noncomputable def g_laws_toBoolS : Gam := Gam.nil
def n_laws_toBoolS : An := { mask := fun | 3 => [0, 3, 4] | _ => [], mv := [21] }
@[reducible] def d_laws_toBoolS_3 : SD := ⟨[.data false (.sl .arg .bool),B,B,.data false (.sl (.own (some 36864)) .bool),DI,B,B,B,B,B,B,B,B,B,B,B,B,B,B,B,B,B], [Z,Z,Z,Z,Z,Z,Z,Z,Z,Z,Z,Z,Z,Z,Z,Z,Z,Z,Z,Z,Z,Z], none⟩
noncomputable def t_laws_toBoolS_3 {R : Type} (X : SD.D d_laws_toBoolS_3) (K : Ex → AS → Option R) := Pu.laws_toBoolS_T3 (fun y0 y1 => K (.exit 0) (SD.enc d_laws_toBoolS_3 ((X.1.1, (y0, (y1, ()))), (), ()))) X.1.1
noncomputable def l_laws_toBoolS_3 : LEnt := ⟨d_laws_toBoolS_3, fun X K => iterL (t_laws_toBoolS_3 X K) fuel (X.1.2.1, X.1.2.2.1)⟩
noncomputable def L_laws_toBoolS : Lam := (Lam.nil).add 3 l_laws_toBoolS_3
theorem lok_laws_toBoolS_3 : LOk E g_laws_toBoolS n_laws_toBoolS L_laws_toBoolS (loopBody Tryz.f55 0) :=
  lok l_laws_toBoolS_3 (by kernel_rfl) fuel fun R X K => (loop_iter (σ := (List Bool) × Int) (fun x => SD.enc d_laws_toBoolS_3 ((X.1.1, (x.1, (x.2, ()))), (), ())) (t_laws_toBoolS_3 X K) (fun m x => by kernel_rfl) fuel (X.1.2.1, X.1.2.2.1)).symm
theorem ok_laws_toBoolS : FnOk Tryz.prog 55 e_laws_toBoolS := FnOk.of (fnOk (Γ := g_laws_toBoolS) (an := n_laws_toBoolS) (Λ := L_laws_toBoolS) (base) Tryz.func55 (by kernel_rfl) (hF (by kernel_rfl) (cF lok_laws_toBoolS_3 nF))) (fun a => by kernel_rfl)
noncomputable def e_laws_toFilter : GEnt := entOf [.data true TFilter] [(true, (.pair (.int .i64) (.pair .bool (.sl (.own none) (.int .i64)))))] fun a => Pu.laws_toFilter a.1
theorem ok_laws_toFilter : FnOk Tryz.prog 56 e_laws_toFilter := FnOk.of (fnOk (an := { mv := [14] }) (Λ := Lam.nil) ((base).add ok_laws_toIntS) Tryz.func56 (by kernel_rfl) (hF (by kernel_rfl) nF)) (fun a => by kernel_rfl)
noncomputable def e_laws_toRule : GEnt := entOf [.data true TRule] [(true, (.pair (.int .i64) (.pair (.int .i64) (.pair (.int .i64) (.pair (.int .i64) (.pair (.int .i64) (.pair (.int .i64) (.pair (.int .i64) (.pair (.int .i64) (.int .i64))))))))))] fun a => Pu.laws_toRule a.1
theorem ok_laws_toRule : FnOk Tryz.prog 106 e_laws_toRule := FnOk.of (fnOk (an := {}) (Λ := Lam.nil) (base) Tryz.func106 (by kernel_rfl) (hF (by kernel_rfl) nF)) (fun a => by kernel_rfl)
noncomputable def e_laws_toRuleS : GEnt := entOf [.data false (.sl TRule)] [(false, (.sl (.own none) TRule))] fun a => Pu.laws_toRuleS a.1
noncomputable def g_laws_toRuleS : Gam := (Gam.nil).add 106 e_laws_toRule
def n_laws_toRuleS : An := { mask := fun | 3 => [0, 3, 4] | _ => [], mv := [22] }
@[reducible] def d_laws_toRuleS_3 : SD := ⟨[.data false (.sl .arg TRule),B,B,.data false (.sl (.own (some 36864)) TRule),DI,B,B,B,B,B,B,B,B,B,B,B,B,B,B,B,B,B,B], [Z,Z,Z,Z,Z,Z,Z,Z,Z,Z,Z,Z,Z,Z,Z,Z,Z,Z,Z,Z,Z,Z,Z], none⟩
noncomputable def t_laws_toRuleS_3 {R : Type} (X : SD.D d_laws_toRuleS_3) (K : Ex → AS → Option R) := Pu.laws_toRuleS_T3 (fun y0 y1 => K (.exit 0) (SD.enc d_laws_toRuleS_3 ((X.1.1, (y0, (y1, ()))), (), ()))) X.1.1
noncomputable def l_laws_toRuleS_3 : LEnt := ⟨d_laws_toRuleS_3, fun X K => iterL (t_laws_toRuleS_3 X K) fuel (X.1.2.1, X.1.2.2.1)⟩
noncomputable def L_laws_toRuleS : Lam := (Lam.nil).add 3 l_laws_toRuleS_3
theorem lok_laws_toRuleS_3 : LOk E g_laws_toRuleS n_laws_toRuleS L_laws_toRuleS (loopBody Tryz.f86 0) :=
  lok l_laws_toRuleS_3 (by kernel_rfl) fuel fun R X K => (loop_iter (σ := (List Pu.Rule) × Int) (fun x => SD.enc d_laws_toRuleS_3 ((X.1.1, (x.1, (x.2, ()))), (), ())) (t_laws_toRuleS_3 X K) (fun m x => by kernel_rfl) fuel (X.1.2.1, X.1.2.2.1)).symm
theorem ok_laws_toRuleS : FnOk Tryz.prog 86 e_laws_toRuleS := FnOk.of (fnOk (Γ := g_laws_toRuleS) (an := n_laws_toRuleS) (Λ := L_laws_toRuleS) ((base).add ok_laws_toRule) Tryz.func86 (by kernel_rfl) (hF (by kernel_rfl) (cF lok_laws_toRuleS_3 nF))) (fun a => by kernel_rfl)
noncomputable def e_laws_toFlow : GEnt := entOf [.data true TFlow] [(true, (.pair (.int .i64) (.pair (.int .i64) (.pair (.int .i64) (.pair (.int .i64) (.int .i64))))))] fun a => Pu.laws_toFlow a.1
theorem ok_laws_toFlow : FnOk Tryz.prog 108 e_laws_toFlow := FnOk.of (fnOk (an := {}) (Λ := Lam.nil) (base) Tryz.func108 (by kernel_rfl) (hF (by kernel_rfl) nF)) (fun a => by kernel_rfl)
noncomputable def e_laws_toSlot : GEnt := entOf [.data true TSlot] [(true, (.pair (.int .i64) (.pair (.pair (.int .i64) (.pair (.int .i64) (.pair (.int .i64) (.pair (.int .i64) (.int .i64))))) (.int .i64))))] fun a => Pu.laws_toSlot a.1
theorem ok_laws_toSlot : FnOk Tryz.prog 117 e_laws_toSlot := FnOk.of (fnOk (an := {}) (Λ := Lam.nil) ((base).add ok_laws_toFlow) Tryz.func117 (by kernel_rfl) (hF (by kernel_rfl) nF)) (fun a => by kernel_rfl)
noncomputable def e_laws_toSlotS : GEnt := entOf [.data false (.sl TSlot)] [(false, (.sl (.own none) TSlot))] fun a => Pu.laws_toSlotS a.1
noncomputable def g_laws_toSlotS : Gam := (Gam.nil).add 117 e_laws_toSlot
def n_laws_toSlotS : An := { mask := fun | 3 => [0, 3, 4] | _ => [], mv := [22] }
@[reducible] def d_laws_toSlotS_3 : SD := ⟨[.data false (.sl .arg TSlot),B,B,.data false (.sl (.own (some 36864)) TSlot),DI,B,B,B,B,B,B,B,B,B,B,B,B,B,B,B,B,B,B], [Z,Z,Z,Z,Z,Z,Z,Z,Z,Z,Z,Z,Z,Z,Z,Z,Z,Z,Z,Z,Z,Z,Z], none⟩
noncomputable def t_laws_toSlotS_3 {R : Type} (X : SD.D d_laws_toSlotS_3) (K : Ex → AS → Option R) := Pu.laws_toSlotS_T3 (fun y0 y1 => K (.exit 0) (SD.enc d_laws_toSlotS_3 ((X.1.1, (y0, (y1, ()))), (), ()))) X.1.1
noncomputable def l_laws_toSlotS_3 : LEnt := ⟨d_laws_toSlotS_3, fun X K => iterL (t_laws_toSlotS_3 X K) fuel (X.1.2.1, X.1.2.2.1)⟩
noncomputable def L_laws_toSlotS : Lam := (Lam.nil).add 3 l_laws_toSlotS_3
theorem lok_laws_toSlotS_3 : LOk E g_laws_toSlotS n_laws_toSlotS L_laws_toSlotS (loopBody Tryz.f107 0) :=
  lok l_laws_toSlotS_3 (by kernel_rfl) fuel fun R X K => (loop_iter (σ := (List Pu.Slot) × Int) (fun x => SD.enc d_laws_toSlotS_3 ((X.1.1, (x.1, (x.2, ()))), (), ())) (t_laws_toSlotS_3 X K) (fun m x => by kernel_rfl) fuel (X.1.2.1, X.1.2.2.1)).symm
theorem ok_laws_toSlotS : FnOk Tryz.prog 107 e_laws_toSlotS := FnOk.of (fnOk (Γ := g_laws_toSlotS) (an := n_laws_toSlotS) (Λ := L_laws_toSlotS) ((base).add ok_laws_toSlot) Tryz.func107 (by kernel_rfl) (hF (by kernel_rfl) (cF lok_laws_toSlotS_3 nF))) (fun a => by kernel_rfl)
noncomputable def e_laws_toFlowTable : GEnt := entOf [.data true (.sl TSlot)] [(true, (.sl (.own none) TSlot))] fun a => Pu.laws_toFlowTable a.1
theorem ok_laws_toFlowTable : FnOk Tryz.prog 87 e_laws_toFlowTable := FnOk.of (fnOk (an := { mv := [8] }) (Λ := Lam.nil) ((base).add ok_laws_toSlotS) Tryz.func87 (by kernel_rfl) (hF (by kernel_rfl) nF)) (fun a => by kernel_rfl)
noncomputable def e_laws_toSpread : GEnt := entOf [.data true TSpread] [(true, (.pair .str (.sl (.own none) (.int .i64))))] fun a => Pu.laws_toSpread a.1
theorem ok_laws_toSpread : FnOk Tryz.prog 88 e_laws_toSpread := FnOk.of (fnOk (an := { mv := [11] }) (Λ := Lam.nil) ((base).add ok_laws_toIntS) Tryz.func88 (by kernel_rfl) (hF (by kernel_rfl) nF)) (fun a => by kernel_rfl)
noncomputable def e_laws_toSteering : GEnt := entOf [.data true TSteering] [(true, (.pair (.sl (.own none) TRule) (.pair (.sl (.own none) TSlot) (.pair .str (.sl (.own none) (.int .i64))))))] fun a => Pu.laws_toSteering a.1
theorem ok_laws_toSteering : FnOk Tryz.prog 57 e_laws_toSteering := FnOk.of (fnOk (an := { mv := [16] }) (Λ := Lam.nil) ((((base).add ok_laws_toRuleS).add ok_laws_toFlowTable).add ok_laws_toSpread) Tryz.func57 (by kernel_rfl) (hF (by kernel_rfl) nF)) (fun a => by kernel_rfl)
noncomputable def e_laws_toStream : GEnt := entOf [.data true TStream] [(true, (.pair (.pair (.int .i64) (.pair (.int .i64) (.pair (.int .i64) (.pair (.int .i64) (.int .i64))))) (.pair (.int .i64) (.pair .str .bool))))] fun a => Pu.laws_toStream a.1
theorem ok_laws_toStream : FnOk Tryz.prog 89 e_laws_toStream := FnOk.of (fnOk (an := {}) (Λ := Lam.nil) ((base).add ok_laws_toFlow) Tryz.func89 (by kernel_rfl) (hF (by kernel_rfl) nF)) (fun a => by kernel_rfl)
noncomputable def e_laws_toStreamS : GEnt := entOf [.data false (.sl TStream)] [(false, (.sl (.own none) TStream))] fun a => Pu.laws_toStreamS a.1
noncomputable def g_laws_toStreamS : Gam := (Gam.nil).add 89 e_laws_toStream
def n_laws_toStreamS : An := { mask := fun | 3 => [0, 3, 4] | _ => [], mv := [22] }
@[reducible] def d_laws_toStreamS_3 : SD := ⟨[.data false (.sl .arg TStream),B,B,.data false (.sl (.own (some 36864)) TStream),DI,B,B,B,B,B,B,B,B,B,B,B,B,B,B,B,B,B,B], [Z,Z,Z,Z,Z,Z,Z,Z,Z,Z,Z,Z,Z,Z,Z,Z,Z,Z,Z,Z,Z,Z,Z], none⟩
noncomputable def t_laws_toStreamS_3 {R : Type} (X : SD.D d_laws_toStreamS_3) (K : Ex → AS → Option R) := Pu.laws_toStreamS_T3 (fun y0 y1 => K (.exit 0) (SD.enc d_laws_toStreamS_3 ((X.1.1, (y0, (y1, ()))), (), ()))) X.1.1
noncomputable def l_laws_toStreamS_3 : LEnt := ⟨d_laws_toStreamS_3, fun X K => iterL (t_laws_toStreamS_3 X K) fuel (X.1.2.1, X.1.2.2.1)⟩
noncomputable def L_laws_toStreamS : Lam := (Lam.nil).add 3 l_laws_toStreamS_3
theorem lok_laws_toStreamS_3 : LOk E g_laws_toStreamS n_laws_toStreamS L_laws_toStreamS (loopBody Tryz.f58 0) :=
  lok l_laws_toStreamS_3 (by kernel_rfl) fuel fun R X K => (loop_iter (σ := (List Pu.Stream) × Int) (fun x => SD.enc d_laws_toStreamS_3 ((X.1.1, (x.1, (x.2, ()))), (), ())) (t_laws_toStreamS_3 X K) (fun m x => by kernel_rfl) fuel (X.1.2.1, X.1.2.2.1)).symm
theorem ok_laws_toStreamS : FnOk Tryz.prog 58 e_laws_toStreamS := FnOk.of (fnOk (Γ := g_laws_toStreamS) (an := n_laws_toStreamS) (Λ := L_laws_toStreamS) ((base).add ok_laws_toStream) Tryz.func58 (by kernel_rfl) (hF (by kernel_rfl) (cF lok_laws_toStreamS_3 nF))) (fun a => by kernel_rfl)
noncomputable def e_laws_toCounters : GEnt := entOf [.data true TFlow] [(true, (.pair (.int .i64) (.pair (.int .i64) (.pair (.int .i64) (.pair (.int .i64) (.int .i64))))))] fun a => Pu.laws_toCounters a.1
theorem ok_laws_toCounters : FnOk Tryz.prog 59 e_laws_toCounters := FnOk.of (fnOk (an := {}) (Λ := Lam.nil) (base) Tryz.func59 (by kernel_rfl) (hF (by kernel_rfl) nF)) (fun a => by kernel_rfl)
noncomputable def e_laws_toHost : GEnt := entOf [.data true THost] [(true, (.pair (.sl (.own none) .str) (.pair (.sl (.own none) TMapping) (.pair (.pair (.pair (.int .i64) (.pair (.int .i64) (.pair (.int .i64) (.int .i64)))) (.pair (.pair (.int .i64) (.pair (.int .i64) (.pair (.int .i64) (.sl (.own none) (.int .i64))))) (.pair (.sl (.own none) TSent) (.int .i64)))) (.pair (.sl (.own none) TRxQueue) (.pair (.sl (.own none) TPool) (.pair (.sl (.own none) TVector) (.pair (.sl (.own none) .bool) (.pair (.pair (.int .i64) (.pair .bool (.sl (.own none) (.int .i64)))) (.pair (.pair (.sl (.own none) TRule) (.pair (.sl (.own none) TSlot) (.pair .str (.sl (.own none) (.int .i64))))) (.pair (.sl (.own none) TStream) (.pair .bool (.pair (.sl (.own none) .str) (.pair (.sl (.own none) (.int .i64)) (.pair (.sl (.own none) (.int .i64)) (.pair (.int .i64) (.pair (.int .i64) (.pair (.int .i64) (.pair (.int .i64) (.int .i64))))))))))))))))))))] fun a => Pu.laws_toHost a.1
theorem ok_laws_toHost : FnOk Tryz.prog 33 e_laws_toHost := FnOk.of (fnOk (an := { mv := [63] }) (Λ := Lam.nil) ((((((((((((((base).add ok_laws_toIntS).add ok_laws_toStringS).add ok_laws_toMemory).add ok_laws_toMappingS).add ok_laws_toTxQueue).add ok_laws_toRxQueueS).add ok_laws_toPoolS).add ok_laws_toVectorS).add ok_laws_toBoolS).add ok_laws_toFilter).add ok_laws_toSteering).add ok_laws_toStreamS).add ok_laws_toCounters) Tryz.func33 (by kernel_rfl) (hF (by kernel_rfl) nF)) (fun a => by kernel_rfl)
noncomputable def e_laws_toHostS : GEnt := entOf [.data false (.sl THost)] [(false, (.sl (.own none) THost))] fun a => Pu.laws_toHostS a.1
noncomputable def g_laws_toHostS : Gam := (Gam.nil).add 33 e_laws_toHost
def n_laws_toHostS : An := { mask := fun | 3 => [0, 3, 4] | _ => [], mv := [22] }
@[reducible] def d_laws_toHostS_3 : SD := ⟨[.data false (.sl .arg THost),B,B,.data false (.sl (.own (some 36864)) THost),DI,B,B,B,B,B,B,B,B,B,B,B,B,B,B,B,B,B,B], [Z,Z,Z,Z,Z,Z,Z,Z,Z,Z,Z,Z,Z,Z,Z,Z,Z,Z,Z,Z,Z,Z,Z], none⟩
noncomputable def t_laws_toHostS_3 {R : Type} (X : SD.D d_laws_toHostS_3) (K : Ex → AS → Option R) := Pu.laws_toHostS_T3 (fun y0 y1 => K (.exit 0) (SD.enc d_laws_toHostS_3 ((X.1.1, (y0, (y1, ()))), (), ()))) X.1.1
noncomputable def l_laws_toHostS_3 : LEnt := ⟨d_laws_toHostS_3, fun X K => iterL (t_laws_toHostS_3 X K) fuel (X.1.2.1, X.1.2.2.1)⟩
noncomputable def L_laws_toHostS : Lam := (Lam.nil).add 3 l_laws_toHostS_3
theorem lok_laws_toHostS_3 : LOk E g_laws_toHostS n_laws_toHostS L_laws_toHostS (loopBody Tryz.f16 0) :=
  lok l_laws_toHostS_3 (by kernel_rfl) fuel fun R X K => (loop_iter (σ := (List Pu.Host) × Int) (fun x => SD.enc d_laws_toHostS_3 ((X.1.1, (x.1, (x.2, ()))), (), ())) (t_laws_toHostS_3 X K) (fun m x => by kernel_rfl) fuel (X.1.2.1, X.1.2.2.1)).symm
theorem ok_laws_toHostS : FnOk Tryz.prog 16 e_laws_toHostS := FnOk.of (fnOk (Γ := g_laws_toHostS) (an := n_laws_toHostS) (Λ := L_laws_toHostS) ((base).add ok_laws_toHost) Tryz.func16 (by kernel_rfl) (hF (by kernel_rfl) (cF lok_laws_toHostS_3 nF))) (fun a => by kernel_rfl)
noncomputable def e_laws_toBucket : GEnt := entOf [.data true TBucket] [(true, (.pair (.int .i64) (.pair (.int .i64) (.int .i64))))] fun a => Pu.laws_toBucket a.1
theorem ok_laws_toBucket : FnOk Tryz.prog 60 e_laws_toBucket := FnOk.of (fnOk (an := {}) (Λ := Lam.nil) (base) Tryz.func60 (by kernel_rfl) (hF (by kernel_rfl) nF)) (fun a => by kernel_rfl)
noncomputable def e_laws_toVirtualFunction : GEnt := entOf [.data true TVirtualFunction] [(true, (.pair (.int .i64) (.pair (.int .i64) (.pair (.pair (.int .i64) (.pair (.int .i64) (.int .i64))) (.pair .bool (.pair (.int .i64) (.int .i64)))))))] fun a => Pu.laws_toVirtualFunction a.1
theorem ok_laws_toVirtualFunction : FnOk Tryz.prog 34 e_laws_toVirtualFunction := FnOk.of (fnOk (an := {}) (Λ := Lam.nil) ((base).add ok_laws_toBucket) Tryz.func34 (by kernel_rfl) (hF (by kernel_rfl) nF)) (fun a => by kernel_rfl)
noncomputable def e_laws_toVirtualFunctionS : GEnt := entOf [.data false (.sl TVirtualFunction)] [(false, (.sl (.own none) TVirtualFunction))] fun a => Pu.laws_toVirtualFunctionS a.1
noncomputable def g_laws_toVirtualFunctionS : Gam := (Gam.nil).add 34 e_laws_toVirtualFunction
def n_laws_toVirtualFunctionS : An := { mask := fun | 3 => [0, 3, 4] | _ => [], mv := [22] }
@[reducible] def d_laws_toVirtualFunctionS_3 : SD := ⟨[.data false (.sl .arg TVirtualFunction),B,B,.data false (.sl (.own (some 36864)) TVirtualFunction),DI,B,B,B,B,B,B,B,B,B,B,B,B,B,B,B,B,B,B], [Z,Z,Z,Z,Z,Z,Z,Z,Z,Z,Z,Z,Z,Z,Z,Z,Z,Z,Z,Z,Z,Z,Z], none⟩
noncomputable def t_laws_toVirtualFunctionS_3 {R : Type} (X : SD.D d_laws_toVirtualFunctionS_3) (K : Ex → AS → Option R) := Pu.laws_toVirtualFunctionS_T3 (fun y0 y1 => K (.exit 0) (SD.enc d_laws_toVirtualFunctionS_3 ((X.1.1, (y0, (y1, ()))), (), ()))) X.1.1
noncomputable def l_laws_toVirtualFunctionS_3 : LEnt := ⟨d_laws_toVirtualFunctionS_3, fun X K => iterL (t_laws_toVirtualFunctionS_3 X K) fuel (X.1.2.1, X.1.2.2.1)⟩
noncomputable def L_laws_toVirtualFunctionS : Lam := (Lam.nil).add 3 l_laws_toVirtualFunctionS_3
theorem lok_laws_toVirtualFunctionS_3 : LOk E g_laws_toVirtualFunctionS n_laws_toVirtualFunctionS L_laws_toVirtualFunctionS (loopBody Tryz.f17 0) :=
  lok l_laws_toVirtualFunctionS_3 (by kernel_rfl) fuel fun R X K => (loop_iter (σ := (List Pu.VirtualFunction) × Int) (fun x => SD.enc d_laws_toVirtualFunctionS_3 ((X.1.1, (x.1, (x.2, ()))), (), ())) (t_laws_toVirtualFunctionS_3 X K) (fun m x => by kernel_rfl) fuel (X.1.2.1, X.1.2.2.1)).symm
theorem ok_laws_toVirtualFunctionS : FnOk Tryz.prog 17 e_laws_toVirtualFunctionS := FnOk.of (fnOk (Γ := g_laws_toVirtualFunctionS) (an := n_laws_toVirtualFunctionS) (Λ := L_laws_toVirtualFunctionS) ((base).add ok_laws_toVirtualFunction) Tryz.func17 (by kernel_rfl) (hF (by kernel_rfl) (cF lok_laws_toVirtualFunctionS_3 nF))) (fun a => by kernel_rfl)
noncomputable def e_laws_toMailbox : GEnt := entOf [.data true TMailbox] [(true, (.pair (.pair (.int .i64) (.pair .bool (.sl (.own none) (.int .i64)))) (.pair (.int .i64) (.pair (.int .i64) (.int .i64)))))] fun a => Pu.laws_toMailbox a.1
theorem ok_laws_toMailbox : FnOk Tryz.prog 35 e_laws_toMailbox := FnOk.of (fnOk (an := { mv := [17] }) (Λ := Lam.nil) ((base).add ok_laws_toFilter) Tryz.func35 (by kernel_rfl) (hF (by kernel_rfl) nF)) (fun a => by kernel_rfl)
noncomputable def e_laws_toMailboxS : GEnt := entOf [.data false (.sl TMailbox)] [(false, (.sl (.own none) TMailbox))] fun a => Pu.laws_toMailboxS a.1
noncomputable def g_laws_toMailboxS : Gam := (Gam.nil).add 35 e_laws_toMailbox
def n_laws_toMailboxS : An := { mask := fun | 3 => [0, 3, 4] | _ => [], mv := [22] }
@[reducible] def d_laws_toMailboxS_3 : SD := ⟨[.data false (.sl .arg TMailbox),B,B,.data false (.sl (.own (some 36864)) TMailbox),DI,B,B,B,B,B,B,B,B,B,B,B,B,B,B,B,B,B,B], [Z,Z,Z,Z,Z,Z,Z,Z,Z,Z,Z,Z,Z,Z,Z,Z,Z,Z,Z,Z,Z,Z,Z], none⟩
noncomputable def t_laws_toMailboxS_3 {R : Type} (X : SD.D d_laws_toMailboxS_3) (K : Ex → AS → Option R) := Pu.laws_toMailboxS_T3 (fun y0 y1 => K (.exit 0) (SD.enc d_laws_toMailboxS_3 ((X.1.1, (y0, (y1, ()))), (), ()))) X.1.1
noncomputable def l_laws_toMailboxS_3 : LEnt := ⟨d_laws_toMailboxS_3, fun X K => iterL (t_laws_toMailboxS_3 X K) fuel (X.1.2.1, X.1.2.2.1)⟩
noncomputable def L_laws_toMailboxS : Lam := (Lam.nil).add 3 l_laws_toMailboxS_3
theorem lok_laws_toMailboxS_3 : LOk E g_laws_toMailboxS n_laws_toMailboxS L_laws_toMailboxS (loopBody Tryz.f18 0) :=
  lok l_laws_toMailboxS_3 (by kernel_rfl) fuel fun R X K => (loop_iter (σ := (List Pu.Mailbox) × Int) (fun x => SD.enc d_laws_toMailboxS_3 ((X.1.1, (x.1, (x.2, ()))), (), ())) (t_laws_toMailboxS_3 X K) (fun m x => by kernel_rfl) fuel (X.1.2.1, X.1.2.2.1)).symm
theorem ok_laws_toMailboxS : FnOk Tryz.prog 18 e_laws_toMailboxS := FnOk.of (fnOk (Γ := g_laws_toMailboxS) (an := n_laws_toMailboxS) (Λ := L_laws_toMailboxS) ((base).add ok_laws_toMailbox) Tryz.func18 (by kernel_rfl) (hF (by kernel_rfl) (cF lok_laws_toMailboxS_3 nF))) (fun a => by kernel_rfl)
noncomputable def e_laws_toFlash : GEnt := entOf [.data true (.sl .str)] [(true, (.sl (.own none) .str))] fun a => Pu.laws_toFlash a.1
theorem ok_laws_toFlash : FnOk Tryz.prog 19 e_laws_toFlash := FnOk.of (fnOk (an := { mv := [8] }) (Λ := Lam.nil) ((base).add ok_laws_toStringS) Tryz.func19 (by kernel_rfl) (hF (by kernel_rfl) nF)) (fun a => by kernel_rfl)
noncomputable def e_laws_toClock : GEnt := entOf [.data true TClock] [(true, (.pair (.int .i64) (.pair (.int .i64) (.pair (.int .i64) (.int .i64)))))] fun a => Pu.laws_toClock a.1
theorem ok_laws_toClock : FnOk Tryz.prog 20 e_laws_toClock := FnOk.of (fnOk (an := {}) (Λ := Lam.nil) (base) Tryz.func20 (by kernel_rfl) (hF (by kernel_rfl) nF)) (fun a => by kernel_rfl)
noncomputable def e_laws_toCard : GEnt := entOf [.data true TCard] [(true, (.pair (.sl (.own none) THost) (.pair (.sl (.own none) TVirtualFunction) (.pair (.sl (.own none) TMailbox) (.pair (.sl (.own none) .str) (.pair (.pair (.int .i64) (.pair (.int .i64) (.pair (.int .i64) (.int .i64)))) (.pair (.sl (.own none) (.int .i64)) (.sl (.own none) .str))))))))] fun a => Pu.laws_toCard a.1
theorem ok_laws_toCard : FnOk Tryz.prog 6 e_laws_toCard := FnOk.of (fnOk (an := { mv := [32] }) (Λ := Lam.nil) ((((((((base).add ok_laws_toHostS).add ok_laws_toVirtualFunctionS).add ok_laws_toMailboxS).add ok_laws_toFlash).add ok_laws_toClock).add ok_laws_toIntS).add ok_laws_toStringS) Tryz.func6 (by kernel_rfl) (hF (by kernel_rfl) nF)) (fun a => by kernel_rfl)
noncomputable def e_impl_HostDropped : GEnt := entOf [.data true THost] [(false, (.int .i64))] fun a => Pu.impl_HostDropped a.1
noncomputable def g_impl_HostDropped : Gam := Gam.nil
def n_impl_HostDropped : An := { mask := fun | 3 => [3, 7, 8, 9] | _ => [] }
@[reducible] def d_impl_HostDropped_3 : SD := ⟨[B,B,B,DI,B,B,B,.data false (.sl .arg TRxQueue),DI,DI,B,B,B,B,B,B,B,B,B], [Z,Z,Z,Z,Z,Z,Z,Z,Z,Z,Z,Z,Z,Z,Z,Z,Z,Z,Z], none⟩
noncomputable def t_impl_HostDropped_3 {R : Type} (X : SD.D d_impl_HostDropped_3) (K : Ex → AS → Option R) := Pu.impl_HostDropped_T3 (fun y0 y1 => K (.exit 0) (SD.enc d_impl_HostDropped_3 ((y0, (X.1.2.1, (X.1.2.2.1, (y1, ())))), (), ()))) X.1.2.1 X.1.2.2.1
noncomputable def l_impl_HostDropped_3 : LEnt := ⟨d_impl_HostDropped_3, fun X K => iterL (t_impl_HostDropped_3 X K) fuel (X.1.1, X.1.2.2.2.1)⟩
noncomputable def L_impl_HostDropped : Lam := (Lam.nil).add 3 l_impl_HostDropped_3
theorem lok_impl_HostDropped_3 : LOk E g_impl_HostDropped n_impl_HostDropped L_impl_HostDropped (loopBody Tryz.f23 0) :=
  lok l_impl_HostDropped_3 (by kernel_rfl) fuel fun R X K => (loop_iter (σ := Int × Int) (fun x => SD.enc d_impl_HostDropped_3 ((x.1, (X.1.2.1, (X.1.2.2.1, (x.2, ())))), (), ())) (t_impl_HostDropped_3 X K) (fun m x => by kernel_rfl) fuel (X.1.1, X.1.2.2.2.1)).symm
theorem ok_impl_HostDropped : FnOk Tryz.prog 23 e_impl_HostDropped := FnOk.of (fnOk (Γ := g_impl_HostDropped) (an := n_impl_HostDropped) (Λ := L_impl_HostDropped) (base) Tryz.func23 (by kernel_rfl) (hF (by kernel_rfl) (cF lok_impl_HostDropped_3 nF))) (fun a => by kernel_rfl)
noncomputable def e_impl_CardDropped : GEnt := entOf [.data true TCard] [(false, (.int .i64))] fun a => Pu.impl_CardDropped a.1
noncomputable def g_impl_CardDropped : Gam := (Gam.nil).add 23 e_impl_HostDropped
def n_impl_CardDropped : An := { mask := fun | 3 => [3, 7, 8, 9] | _ => [] }
@[reducible] def d_impl_CardDropped_3 : SD := ⟨[B,B,B,DI,B,B,B,.data false (.sl .arg THost),DI,DI,B,B,B,B,B,B,B,B,B], [Z,Z,Z,Z,Z,Z,Z,Z,Z,Z,Z,Z,Z,Z,Z,Z,Z,Z,Z], none⟩
noncomputable def t_impl_CardDropped_3 {R : Type} (X : SD.D d_impl_CardDropped_3) (K : Ex → AS → Option R) := Pu.impl_CardDropped_T3 (fun y0 y1 => K (.exit 0) (SD.enc d_impl_CardDropped_3 ((y0, (X.1.2.1, (X.1.2.2.1, (y1, ())))), (), ()))) X.1.2.1 X.1.2.2.1
noncomputable def l_impl_CardDropped_3 : LEnt := ⟨d_impl_CardDropped_3, fun X K => iterL (t_impl_CardDropped_3 X K) fuel (X.1.1, X.1.2.2.2.1)⟩
noncomputable def L_impl_CardDropped : Lam := (Lam.nil).add 3 l_impl_CardDropped_3
theorem lok_impl_CardDropped_3 : LOk E g_impl_CardDropped n_impl_CardDropped L_impl_CardDropped (loopBody Tryz.f7 0) :=
  lok l_impl_CardDropped_3 (by kernel_rfl) fuel fun R X K => (loop_iter (σ := Int × Int) (fun x => SD.enc d_impl_CardDropped_3 ((x.1, (X.1.2.1, (X.1.2.2.1, (x.2, ())))), (), ())) (t_impl_CardDropped_3 X K) (fun m x => by kernel_rfl) fuel (X.1.1, X.1.2.2.2.1)).symm
theorem ok_impl_CardDropped : FnOk Tryz.prog 7 e_impl_CardDropped := FnOk.of (fnOk (Γ := g_impl_CardDropped) (an := n_impl_CardDropped) (Λ := L_impl_CardDropped) ((base).add ok_impl_HostDropped) Tryz.func7 (by kernel_rfl) (hF (by kernel_rfl) (cF lok_impl_CardDropped_3 nF))) (fun a => by kernel_rfl)
noncomputable def e_laws_eqIntS : GEnt := entOf [.data false (.sl (.int .i64)), .data false (.sl (.int .i64))] [(false, .bool)] fun a => Pu.laws_eqIntS a.1 a.2.1
noncomputable def g_laws_eqIntS : Gam := Gam.nil
def n_laws_eqIntS : An := { mask := fun | 4 => [0, 1, 4, 5] | _ => [] }
@[reducible] def d_laws_eqIntS_4 : SD := ⟨[.data false (.sl .arg (.int .i64)),.data false (.sl .arg (.int .i64)),B,B,DB,DI,B,B,B,B,B,B,B,B,B,B,B,B,B,B,B,B,B,B,B,B], [Z,Z,Z,Z,Z,Z,Z,Z,Z,Z,Z,Z,Z,Z,Z,Z,Z,Z,Z,Z,Z,Z,Z,Z,Z,Z], none⟩
noncomputable def t_laws_eqIntS_4 {R : Type} (X : SD.D d_laws_eqIntS_4) (K : Ex → AS → Option R) := Pu.laws_eqIntS_T4 (fun y0 => K (.exit 0) (SD.enc d_laws_eqIntS_4 ((X.1.1, (X.1.2.1, (X.1.2.2.1, (y0, ())))), (), ()))) (fun y0 y1 => K .ret (SD.enc d_laws_eqIntS_4 ((X.1.1, (X.1.2.1, (y0, (y1, ())))), (), ()))) X.1.1 X.1.2.1 X.1.2.2.1
noncomputable def l_laws_eqIntS_4 : LEnt := ⟨d_laws_eqIntS_4, fun X K => iterL (t_laws_eqIntS_4 X K) fuel X.1.2.2.2.1⟩
noncomputable def L_laws_eqIntS : Lam := (Lam.nil).add 4 l_laws_eqIntS_4
theorem lok_laws_eqIntS_4 : LOk E g_laws_eqIntS n_laws_eqIntS L_laws_eqIntS (loopBody Tryz.f29 0) :=
  lok l_laws_eqIntS_4 (by kernel_rfl) fuel fun R X K => (loop_iter (σ := Int) (fun x => SD.enc d_laws_eqIntS_4 ((X.1.1, (X.1.2.1, (X.1.2.2.1, (x, ())))), (), ())) (t_laws_eqIntS_4 X K) (fun m x => by kernel_rfl) fuel X.1.2.2.2.1).symm
theorem ok_laws_eqIntS : FnOk Tryz.prog 29 e_laws_eqIntS := FnOk.of (fnOk (Γ := g_laws_eqIntS) (an := n_laws_eqIntS) (Λ := L_laws_eqIntS) (base) Tryz.func29 (by kernel_rfl) (hF (by kernel_rfl) (cF lok_laws_eqIntS_4 nF))) (fun a => by kernel_rfl)
noncomputable def e_laws_eqStringS : GEnt := entOf [.data false (.sl .str), .data false (.sl .str)] [(false, .bool)] fun a => Pu.laws_eqStringS a.1 a.2.1
noncomputable def g_laws_eqStringS : Gam := Gam.nil
def n_laws_eqStringS : An := { mask := fun | 4 => [0, 1, 4, 5] | _ => [] }
@[reducible] def d_laws_eqStringS_4 : SD := ⟨[.data false (.sl .arg .str),.data false (.sl .arg .str),B,B,DB,DI,B,B,B,B,B,B,B,B,B,B,B,B,B,B,B,B,B,B,B,B], [Z,Z,Z,Z,Z,Z,Z,Z,Z,Z,Z,Z,Z,Z,Z,Z,Z,Z,Z,Z,Z,Z,Z,Z,Z,Z], none⟩
noncomputable def t_laws_eqStringS_4 {R : Type} (X : SD.D d_laws_eqStringS_4) (K : Ex → AS → Option R) := Pu.laws_eqStringS_T4 (fun y0 => K (.exit 0) (SD.enc d_laws_eqStringS_4 ((X.1.1, (X.1.2.1, (X.1.2.2.1, (y0, ())))), (), ()))) (fun y0 y1 => K .ret (SD.enc d_laws_eqStringS_4 ((X.1.1, (X.1.2.1, (y0, (y1, ())))), (), ()))) X.1.1 X.1.2.1 X.1.2.2.1
noncomputable def l_laws_eqStringS_4 : LEnt := ⟨d_laws_eqStringS_4, fun X K => iterL (t_laws_eqStringS_4 X K) fuel X.1.2.2.2.1⟩
noncomputable def L_laws_eqStringS : Lam := (Lam.nil).add 4 l_laws_eqStringS_4
theorem lok_laws_eqStringS_4 : LOk E g_laws_eqStringS n_laws_eqStringS L_laws_eqStringS (loopBody Tryz.f30 0) :=
  lok l_laws_eqStringS_4 (by kernel_rfl) fuel fun R X K => (loop_iter (σ := Int) (fun x => SD.enc d_laws_eqStringS_4 ((X.1.1, (X.1.2.1, (X.1.2.2.1, (x, ())))), (), ())) (t_laws_eqStringS_4 X K) (fun m x => by kernel_rfl) fuel X.1.2.2.2.1).symm
theorem ok_laws_eqStringS : FnOk Tryz.prog 30 e_laws_eqStringS := FnOk.of (fnOk (Γ := g_laws_eqStringS) (an := n_laws_eqStringS) (Λ := L_laws_eqStringS) (base) Tryz.func30 (by kernel_rfl) (hF (by kernel_rfl) (cF lok_laws_eqStringS_4 nF))) (fun a => by kernel_rfl)
noncomputable def e_laws_eqMemory : GEnt := entOf [.data true (.sl .str), .data true (.sl .str)] [(false, .bool)] fun a => Pu.laws_eqMemory a.1 a.2.1
theorem ok_laws_eqMemory : FnOk Tryz.prog 61 e_laws_eqMemory := FnOk.of (fnOk (an := {}) (Λ := Lam.nil) ((base).add ok_laws_eqStringS) Tryz.func61 (by kernel_rfl) (hF (by kernel_rfl) nF)) (fun a => by kernel_rfl)
noncomputable def e_laws_eqMapping : GEnt := entOf [.data true TMapping, .data true TMapping] [(false, .bool)] fun a => Pu.laws_eqMapping a.1 a.2.1
theorem ok_laws_eqMapping : FnOk Tryz.prog 90 e_laws_eqMapping := FnOk.of (fnOk (an := {}) (Λ := Lam.nil) (base) Tryz.func90 (by kernel_rfl) (hF (by kernel_rfl) nF)) (fun a => by kernel_rfl)
noncomputable def e_laws_eqMappingS : GEnt := entOf [.data false (.sl TMapping), .data false (.sl TMapping)] [(false, .bool)] fun a => Pu.laws_eqMappingS a.1 a.2.1
noncomputable def g_laws_eqMappingS : Gam := (Gam.nil).add 90 e_laws_eqMapping
def n_laws_eqMappingS : An := { mask := fun | 4 => [0, 1, 4, 5] | _ => [] }
@[reducible] def d_laws_eqMappingS_4 : SD := ⟨[.data false (.sl .arg TMapping),.data false (.sl .arg TMapping),B,B,DB,DI,B,B,B,B,B,B,B,B,B,B,B,B,B,B,B,B,B,B,B,B,B], [Z,Z,Z,Z,Z,Z,Z,Z,Z,Z,Z,Z,Z,Z,Z,Z,Z,Z,Z,Z,Z,Z,Z,Z,Z,Z,Z], none⟩
noncomputable def t_laws_eqMappingS_4 {R : Type} (X : SD.D d_laws_eqMappingS_4) (K : Ex → AS → Option R) := Pu.laws_eqMappingS_T4 (fun y0 => K (.exit 0) (SD.enc d_laws_eqMappingS_4 ((X.1.1, (X.1.2.1, (X.1.2.2.1, (y0, ())))), (), ()))) (fun y0 y1 => K .ret (SD.enc d_laws_eqMappingS_4 ((X.1.1, (X.1.2.1, (y0, (y1, ())))), (), ()))) X.1.1 X.1.2.1 X.1.2.2.1
noncomputable def l_laws_eqMappingS_4 : LEnt := ⟨d_laws_eqMappingS_4, fun X K => iterL (t_laws_eqMappingS_4 X K) fuel X.1.2.2.2.1⟩
noncomputable def L_laws_eqMappingS : Lam := (Lam.nil).add 4 l_laws_eqMappingS_4
theorem lok_laws_eqMappingS_4 : LOk E g_laws_eqMappingS n_laws_eqMappingS L_laws_eqMappingS (loopBody Tryz.f62 0) :=
  lok l_laws_eqMappingS_4 (by kernel_rfl) fuel fun R X K => (loop_iter (σ := Int) (fun x => SD.enc d_laws_eqMappingS_4 ((X.1.1, (X.1.2.1, (X.1.2.2.1, (x, ())))), (), ())) (t_laws_eqMappingS_4 X K) (fun m x => by kernel_rfl) fuel X.1.2.2.2.1).symm
theorem ok_laws_eqMappingS : FnOk Tryz.prog 62 e_laws_eqMappingS := FnOk.of (fnOk (Γ := g_laws_eqMappingS) (an := n_laws_eqMappingS) (Λ := L_laws_eqMappingS) ((base).add ok_laws_eqMapping) Tryz.func62 (by kernel_rfl) (hF (by kernel_rfl) (cF lok_laws_eqMappingS_4 nF))) (fun a => by kernel_rfl)
noncomputable def e_laws_eqRing : GEnt := entOf [.data true TClock, .data true TClock] [(false, .bool)] fun a => Pu.laws_eqRing a.1 a.2.1
theorem ok_laws_eqRing : FnOk Tryz.prog 91 e_laws_eqRing := FnOk.of (fnOk (an := {}) (Λ := Lam.nil) (base) Tryz.func91 (by kernel_rfl) (hF (by kernel_rfl) nF)) (fun a => by kernel_rfl)
noncomputable def e_laws_eqPool : GEnt := entOf [.data true TPool, .data true TPool] [(false, .bool)] fun a => Pu.laws_eqPool a.1 a.2.1
theorem ok_laws_eqPool : FnOk Tryz.prog 92 e_laws_eqPool := FnOk.of (fnOk (an := {}) (Λ := Lam.nil) ((base).add ok_laws_eqIntS) Tryz.func92 (by kernel_rfl) (hF (by kernel_rfl) nF)) (fun a => by kernel_rfl)
noncomputable def e_laws_eqSent : GEnt := entOf [.data true TSent, .data true TSent] [(false, .bool)] fun a => Pu.laws_eqSent a.1 a.2.1
theorem ok_laws_eqSent : FnOk Tryz.prog 109 e_laws_eqSent := FnOk.of (fnOk (an := {}) (Λ := Lam.nil) ((base).add ok_laws_eqIntS) Tryz.func109 (by kernel_rfl) (hF (by kernel_rfl) nF)) (fun a => by kernel_rfl)
noncomputable def e_laws_eqSentS : GEnt := entOf [.data false (.sl TSent), .data false (.sl TSent)] [(false, .bool)] fun a => Pu.laws_eqSentS a.1 a.2.1
noncomputable def g_laws_eqSentS : Gam := (Gam.nil).add 109 e_laws_eqSent
def n_laws_eqSentS : An := { mask := fun | 4 => [0, 1, 4, 5] | _ => [] }
@[reducible] def d_laws_eqSentS_4 : SD := ⟨[.data false (.sl .arg TSent),.data false (.sl .arg TSent),B,B,DB,DI,B,B,B,B,B,B,B,B,B,B,B,B,B,B,B,B,B,B,B,B,B], [Z,Z,Z,Z,Z,Z,Z,Z,Z,Z,Z,Z,Z,Z,Z,Z,Z,Z,Z,Z,Z,Z,Z,Z,Z,Z,Z], none⟩
noncomputable def t_laws_eqSentS_4 {R : Type} (X : SD.D d_laws_eqSentS_4) (K : Ex → AS → Option R) := Pu.laws_eqSentS_T4 (fun y0 => K (.exit 0) (SD.enc d_laws_eqSentS_4 ((X.1.1, (X.1.2.1, (X.1.2.2.1, (y0, ())))), (), ()))) (fun y0 y1 => K .ret (SD.enc d_laws_eqSentS_4 ((X.1.1, (X.1.2.1, (y0, (y1, ())))), (), ()))) X.1.1 X.1.2.1 X.1.2.2.1
noncomputable def l_laws_eqSentS_4 : LEnt := ⟨d_laws_eqSentS_4, fun X K => iterL (t_laws_eqSentS_4 X K) fuel X.1.2.2.2.1⟩
noncomputable def L_laws_eqSentS : Lam := (Lam.nil).add 4 l_laws_eqSentS_4
theorem lok_laws_eqSentS_4 : LOk E g_laws_eqSentS n_laws_eqSentS L_laws_eqSentS (loopBody Tryz.f93 0) :=
  lok l_laws_eqSentS_4 (by kernel_rfl) fuel fun R X K => (loop_iter (σ := Int) (fun x => SD.enc d_laws_eqSentS_4 ((X.1.1, (X.1.2.1, (X.1.2.2.1, (x, ())))), (), ())) (t_laws_eqSentS_4 X K) (fun m x => by kernel_rfl) fuel X.1.2.2.2.1).symm
theorem ok_laws_eqSentS : FnOk Tryz.prog 93 e_laws_eqSentS := FnOk.of (fnOk (Γ := g_laws_eqSentS) (an := n_laws_eqSentS) (Λ := L_laws_eqSentS) ((base).add ok_laws_eqSent) Tryz.func93 (by kernel_rfl) (hF (by kernel_rfl) (cF lok_laws_eqSentS_4 nF))) (fun a => by kernel_rfl)
noncomputable def e_laws_eqTxQueue : GEnt := entOf [.data true TTxQueue, .data true TTxQueue] [(false, .bool)] fun a => Pu.laws_eqTxQueue a.1 a.2.1
theorem ok_laws_eqTxQueue : FnOk Tryz.prog 63 e_laws_eqTxQueue := FnOk.of (fnOk (an := {}) (Λ := Lam.nil) ((((base).add ok_laws_eqRing).add ok_laws_eqPool).add ok_laws_eqSentS) Tryz.func63 (by kernel_rfl) (hF (by kernel_rfl) nF)) (fun a => by kernel_rfl)
noncomputable def e_laws_eqCompletionQueue : GEnt := entOf [.data true TBucket, .data true TBucket] [(false, .bool)] fun a => Pu.laws_eqCompletionQueue a.1 a.2.1
theorem ok_laws_eqCompletionQueue : FnOk Tryz.prog 110 e_laws_eqCompletionQueue := FnOk.of (fnOk (an := {}) (Λ := Lam.nil) (base) Tryz.func110 (by kernel_rfl) (hF (by kernel_rfl) nF)) (fun a => by kernel_rfl)
noncomputable def e_laws_eqSegment : GEnt := entOf [.data true TSegment, .data true TSegment] [(false, .bool)] fun a => Pu.laws_eqSegment a.1 a.2.1
theorem ok_laws_eqSegment : FnOk Tryz.prog 122 e_laws_eqSegment := FnOk.of (fnOk (an := {}) (Λ := Lam.nil) (base) Tryz.func122 (by kernel_rfl) (hF (by kernel_rfl) nF)) (fun a => by kernel_rfl)
noncomputable def e_laws_eqPacket : GEnt := entOf [.data true TPacket, .data true TPacket] [(false, .bool)] fun a => Pu.laws_eqPacket a.1 a.2.1
theorem ok_laws_eqPacket : FnOk Tryz.prog 118 e_laws_eqPacket := FnOk.of (fnOk (an := {}) (Λ := Lam.nil) ((base).add ok_laws_eqSegment) Tryz.func118 (by kernel_rfl) (hF (by kernel_rfl) nF)) (fun a => by kernel_rfl)
noncomputable def e_laws_eqSuper : GEnt := entOf [.data true TSuper, .data true TSuper] [(false, .bool)] fun a => Pu.laws_eqSuper a.1 a.2.1
theorem ok_laws_eqSuper : FnOk Tryz.prog 111 e_laws_eqSuper := FnOk.of (fnOk (an := {}) (Λ := Lam.nil) ((base).add ok_laws_eqPacket) Tryz.func111 (by kernel_rfl) (hF (by kernel_rfl) nF)) (fun a => by kernel_rfl)
noncomputable def e_laws_eqRxQueue : GEnt := entOf [.data true TRxQueue, .data true TRxQueue] [(false, .bool)] fun a => Pu.laws_eqRxQueue a.1 a.2.1
theorem ok_laws_eqRxQueue : FnOk Tryz.prog 94 e_laws_eqRxQueue := FnOk.of (fnOk (an := {}) (Λ := Lam.nil) ((((base).add ok_laws_eqRing).add ok_laws_eqCompletionQueue).add ok_laws_eqSuper) Tryz.func94 (by kernel_rfl) (hF (by kernel_rfl) nF)) (fun a => by kernel_rfl)
noncomputable def e_laws_eqRxQueueS : GEnt := entOf [.data false (.sl TRxQueue), .data false (.sl TRxQueue)] [(false, .bool)] fun a => Pu.laws_eqRxQueueS a.1 a.2.1
noncomputable def g_laws_eqRxQueueS : Gam := (Gam.nil).add 94 e_laws_eqRxQueue
def n_laws_eqRxQueueS : An := { mask := fun | 4 => [0, 1, 4, 5] | _ => [] }
@[reducible] def d_laws_eqRxQueueS_4 : SD := ⟨[.data false (.sl .arg TRxQueue),.data false (.sl .arg TRxQueue),B,B,DB,DI,B,B,B,B,B,B,B,B,B,B,B,B,B,B,B,B,B,B,B,B,B], [Z,Z,Z,Z,Z,Z,Z,Z,Z,Z,Z,Z,Z,Z,Z,Z,Z,Z,Z,Z,Z,Z,Z,Z,Z,Z,Z], none⟩
noncomputable def t_laws_eqRxQueueS_4 {R : Type} (X : SD.D d_laws_eqRxQueueS_4) (K : Ex → AS → Option R) := Pu.laws_eqRxQueueS_T4 (fun y0 => K (.exit 0) (SD.enc d_laws_eqRxQueueS_4 ((X.1.1, (X.1.2.1, (X.1.2.2.1, (y0, ())))), (), ()))) (fun y0 y1 => K .ret (SD.enc d_laws_eqRxQueueS_4 ((X.1.1, (X.1.2.1, (y0, (y1, ())))), (), ()))) X.1.1 X.1.2.1 X.1.2.2.1
noncomputable def l_laws_eqRxQueueS_4 : LEnt := ⟨d_laws_eqRxQueueS_4, fun X K => iterL (t_laws_eqRxQueueS_4 X K) fuel X.1.2.2.2.1⟩
noncomputable def L_laws_eqRxQueueS : Lam := (Lam.nil).add 4 l_laws_eqRxQueueS_4
theorem lok_laws_eqRxQueueS_4 : LOk E g_laws_eqRxQueueS n_laws_eqRxQueueS L_laws_eqRxQueueS (loopBody Tryz.f64 0) :=
  lok l_laws_eqRxQueueS_4 (by kernel_rfl) fuel fun R X K => (loop_iter (σ := Int) (fun x => SD.enc d_laws_eqRxQueueS_4 ((X.1.1, (X.1.2.1, (X.1.2.2.1, (x, ())))), (), ())) (t_laws_eqRxQueueS_4 X K) (fun m x => by kernel_rfl) fuel X.1.2.2.2.1).symm
theorem ok_laws_eqRxQueueS : FnOk Tryz.prog 64 e_laws_eqRxQueueS := FnOk.of (fnOk (Γ := g_laws_eqRxQueueS) (an := n_laws_eqRxQueueS) (Λ := L_laws_eqRxQueueS) ((base).add ok_laws_eqRxQueue) Tryz.func64 (by kernel_rfl) (hF (by kernel_rfl) (cF lok_laws_eqRxQueueS_4 nF))) (fun a => by kernel_rfl)
noncomputable def e_laws_eqPoolS : GEnt := entOf [.data false (.sl TPool), .data false (.sl TPool)] [(false, .bool)] fun a => Pu.laws_eqPoolS a.1 a.2.1
noncomputable def g_laws_eqPoolS : Gam := (Gam.nil).add 92 e_laws_eqPool
def n_laws_eqPoolS : An := { mask := fun | 4 => [0, 1, 4, 5] | _ => [] }
@[reducible] def d_laws_eqPoolS_4 : SD := ⟨[.data false (.sl .arg TPool),.data false (.sl .arg TPool),B,B,DB,DI,B,B,B,B,B,B,B,B,B,B,B,B,B,B,B,B,B,B,B,B,B], [Z,Z,Z,Z,Z,Z,Z,Z,Z,Z,Z,Z,Z,Z,Z,Z,Z,Z,Z,Z,Z,Z,Z,Z,Z,Z,Z], none⟩
noncomputable def t_laws_eqPoolS_4 {R : Type} (X : SD.D d_laws_eqPoolS_4) (K : Ex → AS → Option R) := Pu.laws_eqPoolS_T4 (fun y0 => K (.exit 0) (SD.enc d_laws_eqPoolS_4 ((X.1.1, (X.1.2.1, (X.1.2.2.1, (y0, ())))), (), ()))) (fun y0 y1 => K .ret (SD.enc d_laws_eqPoolS_4 ((X.1.1, (X.1.2.1, (y0, (y1, ())))), (), ()))) X.1.1 X.1.2.1 X.1.2.2.1
noncomputable def l_laws_eqPoolS_4 : LEnt := ⟨d_laws_eqPoolS_4, fun X K => iterL (t_laws_eqPoolS_4 X K) fuel X.1.2.2.2.1⟩
noncomputable def L_laws_eqPoolS : Lam := (Lam.nil).add 4 l_laws_eqPoolS_4
theorem lok_laws_eqPoolS_4 : LOk E g_laws_eqPoolS n_laws_eqPoolS L_laws_eqPoolS (loopBody Tryz.f65 0) :=
  lok l_laws_eqPoolS_4 (by kernel_rfl) fuel fun R X K => (loop_iter (σ := Int) (fun x => SD.enc d_laws_eqPoolS_4 ((X.1.1, (X.1.2.1, (X.1.2.2.1, (x, ())))), (), ())) (t_laws_eqPoolS_4 X K) (fun m x => by kernel_rfl) fuel X.1.2.2.2.1).symm
theorem ok_laws_eqPoolS : FnOk Tryz.prog 65 e_laws_eqPoolS := FnOk.of (fnOk (Γ := g_laws_eqPoolS) (an := n_laws_eqPoolS) (Λ := L_laws_eqPoolS) ((base).add ok_laws_eqPool) Tryz.func65 (by kernel_rfl) (hF (by kernel_rfl) (cF lok_laws_eqPoolS_4 nF))) (fun a => by kernel_rfl)
noncomputable def e_laws_eqVector : GEnt := entOf [.data true TVector, .data true TVector] [(false, .bool)] fun a => Pu.laws_eqVector a.1 a.2.1
theorem ok_laws_eqVector : FnOk Tryz.prog 95 e_laws_eqVector := FnOk.of (fnOk (an := {}) (Λ := Lam.nil) (base) Tryz.func95 (by kernel_rfl) (hF (by kernel_rfl) nF)) (fun a => by kernel_rfl)
noncomputable def e_laws_eqVectorS : GEnt := entOf [.data false (.sl TVector), .data false (.sl TVector)] [(false, .bool)] fun a => Pu.laws_eqVectorS a.1 a.2.1
noncomputable def g_laws_eqVectorS : Gam := (Gam.nil).add 95 e_laws_eqVector
def n_laws_eqVectorS : An := { mask := fun | 4 => [0, 1, 4, 5] | _ => [] }
@[reducible] def d_laws_eqVectorS_4 : SD := ⟨[.data false (.sl .arg TVector),.data false (.sl .arg TVector),B,B,DB,DI,B,B,B,B,B,B,B,B,B,B,B,B,B,B,B,B,B,B,B,B,B], [Z,Z,Z,Z,Z,Z,Z,Z,Z,Z,Z,Z,Z,Z,Z,Z,Z,Z,Z,Z,Z,Z,Z,Z,Z,Z,Z], none⟩
noncomputable def t_laws_eqVectorS_4 {R : Type} (X : SD.D d_laws_eqVectorS_4) (K : Ex → AS → Option R) := Pu.laws_eqVectorS_T4 (fun y0 => K (.exit 0) (SD.enc d_laws_eqVectorS_4 ((X.1.1, (X.1.2.1, (X.1.2.2.1, (y0, ())))), (), ()))) (fun y0 y1 => K .ret (SD.enc d_laws_eqVectorS_4 ((X.1.1, (X.1.2.1, (y0, (y1, ())))), (), ()))) X.1.1 X.1.2.1 X.1.2.2.1
noncomputable def l_laws_eqVectorS_4 : LEnt := ⟨d_laws_eqVectorS_4, fun X K => iterL (t_laws_eqVectorS_4 X K) fuel X.1.2.2.2.1⟩
noncomputable def L_laws_eqVectorS : Lam := (Lam.nil).add 4 l_laws_eqVectorS_4
theorem lok_laws_eqVectorS_4 : LOk E g_laws_eqVectorS n_laws_eqVectorS L_laws_eqVectorS (loopBody Tryz.f66 0) :=
  lok l_laws_eqVectorS_4 (by kernel_rfl) fuel fun R X K => (loop_iter (σ := Int) (fun x => SD.enc d_laws_eqVectorS_4 ((X.1.1, (X.1.2.1, (X.1.2.2.1, (x, ())))), (), ())) (t_laws_eqVectorS_4 X K) (fun m x => by kernel_rfl) fuel X.1.2.2.2.1).symm
theorem ok_laws_eqVectorS : FnOk Tryz.prog 66 e_laws_eqVectorS := FnOk.of (fnOk (Γ := g_laws_eqVectorS) (an := n_laws_eqVectorS) (Λ := L_laws_eqVectorS) ((base).add ok_laws_eqVector) Tryz.func66 (by kernel_rfl) (hF (by kernel_rfl) (cF lok_laws_eqVectorS_4 nF))) (fun a => by kernel_rfl)
noncomputable def e_laws_eqBoolS : GEnt := entOf [.data false (.sl .bool), .data false (.sl .bool)] [(false, .bool)] fun a => Pu.laws_eqBoolS a.1 a.2.1
noncomputable def g_laws_eqBoolS : Gam := Gam.nil
def n_laws_eqBoolS : An := { mask := fun | 4 => [0, 1, 4, 5] | _ => [] }
@[reducible] def d_laws_eqBoolS_4 : SD := ⟨[.data false (.sl .arg .bool),.data false (.sl .arg .bool),B,B,DB,DI,B,B,B,B,B,B,B,B,B,B,B,B,B,B,B,B,B,B,B,B], [Z,Z,Z,Z,Z,Z,Z,Z,Z,Z,Z,Z,Z,Z,Z,Z,Z,Z,Z,Z,Z,Z,Z,Z,Z,Z], none⟩
noncomputable def t_laws_eqBoolS_4 {R : Type} (X : SD.D d_laws_eqBoolS_4) (K : Ex → AS → Option R) := Pu.laws_eqBoolS_T4 (fun y0 => K (.exit 0) (SD.enc d_laws_eqBoolS_4 ((X.1.1, (X.1.2.1, (X.1.2.2.1, (y0, ())))), (), ()))) (fun y0 y1 => K .ret (SD.enc d_laws_eqBoolS_4 ((X.1.1, (X.1.2.1, (y0, (y1, ())))), (), ()))) X.1.1 X.1.2.1 X.1.2.2.1
noncomputable def l_laws_eqBoolS_4 : LEnt := ⟨d_laws_eqBoolS_4, fun X K => iterL (t_laws_eqBoolS_4 X K) fuel X.1.2.2.2.1⟩
noncomputable def L_laws_eqBoolS : Lam := (Lam.nil).add 4 l_laws_eqBoolS_4
theorem lok_laws_eqBoolS_4 : LOk E g_laws_eqBoolS n_laws_eqBoolS L_laws_eqBoolS (loopBody Tryz.f67 0) :=
  lok l_laws_eqBoolS_4 (by kernel_rfl) fuel fun R X K => (loop_iter (σ := Int) (fun x => SD.enc d_laws_eqBoolS_4 ((X.1.1, (X.1.2.1, (X.1.2.2.1, (x, ())))), (), ())) (t_laws_eqBoolS_4 X K) (fun m x => by kernel_rfl) fuel X.1.2.2.2.1).symm
theorem ok_laws_eqBoolS : FnOk Tryz.prog 67 e_laws_eqBoolS := FnOk.of (fnOk (Γ := g_laws_eqBoolS) (an := n_laws_eqBoolS) (Λ := L_laws_eqBoolS) (base) Tryz.func67 (by kernel_rfl) (hF (by kernel_rfl) (cF lok_laws_eqBoolS_4 nF))) (fun a => by kernel_rfl)
noncomputable def e_laws_eqFilter : GEnt := entOf [.data true TFilter, .data true TFilter] [(false, .bool)] fun a => Pu.laws_eqFilter a.1 a.2.1
theorem ok_laws_eqFilter : FnOk Tryz.prog 68 e_laws_eqFilter := FnOk.of (fnOk (an := {}) (Λ := Lam.nil) ((base).add ok_laws_eqIntS) Tryz.func68 (by kernel_rfl) (hF (by kernel_rfl) nF)) (fun a => by kernel_rfl)
noncomputable def e_laws_eqRule : GEnt := entOf [.data true TRule, .data true TRule] [(false, .bool)] fun a => Pu.laws_eqRule a.1 a.2.1
theorem ok_laws_eqRule : FnOk Tryz.prog 112 e_laws_eqRule := FnOk.of (fnOk (an := {}) (Λ := Lam.nil) (base) Tryz.func112 (by kernel_rfl) (hF (by kernel_rfl) nF)) (fun a => by kernel_rfl)
noncomputable def e_laws_eqRuleS : GEnt := entOf [.data false (.sl TRule), .data false (.sl TRule)] [(false, .bool)] fun a => Pu.laws_eqRuleS a.1 a.2.1
noncomputable def g_laws_eqRuleS : Gam := (Gam.nil).add 112 e_laws_eqRule
def n_laws_eqRuleS : An := { mask := fun | 4 => [0, 1, 4, 5] | _ => [] }
@[reducible] def d_laws_eqRuleS_4 : SD := ⟨[.data false (.sl .arg TRule),.data false (.sl .arg TRule),B,B,DB,DI,B,B,B,B,B,B,B,B,B,B,B,B,B,B,B,B,B,B,B,B,B], [Z,Z,Z,Z,Z,Z,Z,Z,Z,Z,Z,Z,Z,Z,Z,Z,Z,Z,Z,Z,Z,Z,Z,Z,Z,Z,Z], none⟩
noncomputable def t_laws_eqRuleS_4 {R : Type} (X : SD.D d_laws_eqRuleS_4) (K : Ex → AS → Option R) := Pu.laws_eqRuleS_T4 (fun y0 => K (.exit 0) (SD.enc d_laws_eqRuleS_4 ((X.1.1, (X.1.2.1, (X.1.2.2.1, (y0, ())))), (), ()))) (fun y0 y1 => K .ret (SD.enc d_laws_eqRuleS_4 ((X.1.1, (X.1.2.1, (y0, (y1, ())))), (), ()))) X.1.1 X.1.2.1 X.1.2.2.1
noncomputable def l_laws_eqRuleS_4 : LEnt := ⟨d_laws_eqRuleS_4, fun X K => iterL (t_laws_eqRuleS_4 X K) fuel X.1.2.2.2.1⟩
noncomputable def L_laws_eqRuleS : Lam := (Lam.nil).add 4 l_laws_eqRuleS_4
theorem lok_laws_eqRuleS_4 : LOk E g_laws_eqRuleS n_laws_eqRuleS L_laws_eqRuleS (loopBody Tryz.f96 0) :=
  lok l_laws_eqRuleS_4 (by kernel_rfl) fuel fun R X K => (loop_iter (σ := Int) (fun x => SD.enc d_laws_eqRuleS_4 ((X.1.1, (X.1.2.1, (X.1.2.2.1, (x, ())))), (), ())) (t_laws_eqRuleS_4 X K) (fun m x => by kernel_rfl) fuel X.1.2.2.2.1).symm
theorem ok_laws_eqRuleS : FnOk Tryz.prog 96 e_laws_eqRuleS := FnOk.of (fnOk (Γ := g_laws_eqRuleS) (an := n_laws_eqRuleS) (Λ := L_laws_eqRuleS) ((base).add ok_laws_eqRule) Tryz.func96 (by kernel_rfl) (hF (by kernel_rfl) (cF lok_laws_eqRuleS_4 nF))) (fun a => by kernel_rfl)
noncomputable def e_laws_eqFlow : GEnt := entOf [.data true TFlow, .data true TFlow] [(false, .bool)] fun a => Pu.laws_eqFlow a.1 a.2.1
theorem ok_laws_eqFlow : FnOk Tryz.prog 114 e_laws_eqFlow := FnOk.of (fnOk (an := {}) (Λ := Lam.nil) (base) Tryz.func114 (by kernel_rfl) (hF (by kernel_rfl) nF)) (fun a => by kernel_rfl)
noncomputable def e_laws_eqSlot : GEnt := entOf [.data true TSlot, .data true TSlot] [(false, .bool)] fun a => Pu.laws_eqSlot a.1 a.2.1
theorem ok_laws_eqSlot : FnOk Tryz.prog 119 e_laws_eqSlot := FnOk.of (fnOk (an := {}) (Λ := Lam.nil) ((base).add ok_laws_eqFlow) Tryz.func119 (by kernel_rfl) (hF (by kernel_rfl) nF)) (fun a => by kernel_rfl)
noncomputable def e_laws_eqSlotS : GEnt := entOf [.data false (.sl TSlot), .data false (.sl TSlot)] [(false, .bool)] fun a => Pu.laws_eqSlotS a.1 a.2.1
noncomputable def g_laws_eqSlotS : Gam := (Gam.nil).add 119 e_laws_eqSlot
def n_laws_eqSlotS : An := { mask := fun | 4 => [0, 1, 4, 5] | _ => [] }
@[reducible] def d_laws_eqSlotS_4 : SD := ⟨[.data false (.sl .arg TSlot),.data false (.sl .arg TSlot),B,B,DB,DI,B,B,B,B,B,B,B,B,B,B,B,B,B,B,B,B,B,B,B,B,B], [Z,Z,Z,Z,Z,Z,Z,Z,Z,Z,Z,Z,Z,Z,Z,Z,Z,Z,Z,Z,Z,Z,Z,Z,Z,Z,Z], none⟩
noncomputable def t_laws_eqSlotS_4 {R : Type} (X : SD.D d_laws_eqSlotS_4) (K : Ex → AS → Option R) := Pu.laws_eqSlotS_T4 (fun y0 => K (.exit 0) (SD.enc d_laws_eqSlotS_4 ((X.1.1, (X.1.2.1, (X.1.2.2.1, (y0, ())))), (), ()))) (fun y0 y1 => K .ret (SD.enc d_laws_eqSlotS_4 ((X.1.1, (X.1.2.1, (y0, (y1, ())))), (), ()))) X.1.1 X.1.2.1 X.1.2.2.1
noncomputable def l_laws_eqSlotS_4 : LEnt := ⟨d_laws_eqSlotS_4, fun X K => iterL (t_laws_eqSlotS_4 X K) fuel X.1.2.2.2.1⟩
noncomputable def L_laws_eqSlotS : Lam := (Lam.nil).add 4 l_laws_eqSlotS_4
theorem lok_laws_eqSlotS_4 : LOk E g_laws_eqSlotS n_laws_eqSlotS L_laws_eqSlotS (loopBody Tryz.f113 0) :=
  lok l_laws_eqSlotS_4 (by kernel_rfl) fuel fun R X K => (loop_iter (σ := Int) (fun x => SD.enc d_laws_eqSlotS_4 ((X.1.1, (X.1.2.1, (X.1.2.2.1, (x, ())))), (), ())) (t_laws_eqSlotS_4 X K) (fun m x => by kernel_rfl) fuel X.1.2.2.2.1).symm
theorem ok_laws_eqSlotS : FnOk Tryz.prog 113 e_laws_eqSlotS := FnOk.of (fnOk (Γ := g_laws_eqSlotS) (an := n_laws_eqSlotS) (Λ := L_laws_eqSlotS) ((base).add ok_laws_eqSlot) Tryz.func113 (by kernel_rfl) (hF (by kernel_rfl) (cF lok_laws_eqSlotS_4 nF))) (fun a => by kernel_rfl)
noncomputable def e_laws_eqFlowTable : GEnt := entOf [.data true (.sl TSlot), .data true (.sl TSlot)] [(false, .bool)] fun a => Pu.laws_eqFlowTable a.1 a.2.1
theorem ok_laws_eqFlowTable : FnOk Tryz.prog 97 e_laws_eqFlowTable := FnOk.of (fnOk (an := {}) (Λ := Lam.nil) ((base).add ok_laws_eqSlotS) Tryz.func97 (by kernel_rfl) (hF (by kernel_rfl) nF)) (fun a => by kernel_rfl)
noncomputable def e_laws_eqSpread : GEnt := entOf [.data true TSpread, .data true TSpread] [(false, .bool)] fun a => Pu.laws_eqSpread a.1 a.2.1
theorem ok_laws_eqSpread : FnOk Tryz.prog 98 e_laws_eqSpread := FnOk.of (fnOk (an := {}) (Λ := Lam.nil) ((base).add ok_laws_eqIntS) Tryz.func98 (by kernel_rfl) (hF (by kernel_rfl) nF)) (fun a => by kernel_rfl)
noncomputable def e_laws_eqSteering : GEnt := entOf [.data true TSteering, .data true TSteering] [(false, .bool)] fun a => Pu.laws_eqSteering a.1 a.2.1
theorem ok_laws_eqSteering : FnOk Tryz.prog 69 e_laws_eqSteering := FnOk.of (fnOk (an := {}) (Λ := Lam.nil) ((((base).add ok_laws_eqRuleS).add ok_laws_eqFlowTable).add ok_laws_eqSpread) Tryz.func69 (by kernel_rfl) (hF (by kernel_rfl) nF)) (fun a => by kernel_rfl)
noncomputable def e_laws_eqStream : GEnt := entOf [.data true TStream, .data true TStream] [(false, .bool)] fun a => Pu.laws_eqStream a.1 a.2.1
theorem ok_laws_eqStream : FnOk Tryz.prog 99 e_laws_eqStream := FnOk.of (fnOk (an := {}) (Λ := Lam.nil) ((base).add ok_laws_eqFlow) Tryz.func99 (by kernel_rfl) (hF (by kernel_rfl) nF)) (fun a => by kernel_rfl)
noncomputable def e_laws_eqStreamS : GEnt := entOf [.data false (.sl TStream), .data false (.sl TStream)] [(false, .bool)] fun a => Pu.laws_eqStreamS a.1 a.2.1
noncomputable def g_laws_eqStreamS : Gam := (Gam.nil).add 99 e_laws_eqStream
def n_laws_eqStreamS : An := { mask := fun | 4 => [0, 1, 4, 5] | _ => [] }
@[reducible] def d_laws_eqStreamS_4 : SD := ⟨[.data false (.sl .arg TStream),.data false (.sl .arg TStream),B,B,DB,DI,B,B,B,B,B,B,B,B,B,B,B,B,B,B,B,B,B,B,B,B,B], [Z,Z,Z,Z,Z,Z,Z,Z,Z,Z,Z,Z,Z,Z,Z,Z,Z,Z,Z,Z,Z,Z,Z,Z,Z,Z,Z], none⟩
noncomputable def t_laws_eqStreamS_4 {R : Type} (X : SD.D d_laws_eqStreamS_4) (K : Ex → AS → Option R) := Pu.laws_eqStreamS_T4 (fun y0 => K (.exit 0) (SD.enc d_laws_eqStreamS_4 ((X.1.1, (X.1.2.1, (X.1.2.2.1, (y0, ())))), (), ()))) (fun y0 y1 => K .ret (SD.enc d_laws_eqStreamS_4 ((X.1.1, (X.1.2.1, (y0, (y1, ())))), (), ()))) X.1.1 X.1.2.1 X.1.2.2.1
noncomputable def l_laws_eqStreamS_4 : LEnt := ⟨d_laws_eqStreamS_4, fun X K => iterL (t_laws_eqStreamS_4 X K) fuel X.1.2.2.2.1⟩
noncomputable def L_laws_eqStreamS : Lam := (Lam.nil).add 4 l_laws_eqStreamS_4
theorem lok_laws_eqStreamS_4 : LOk E g_laws_eqStreamS n_laws_eqStreamS L_laws_eqStreamS (loopBody Tryz.f70 0) :=
  lok l_laws_eqStreamS_4 (by kernel_rfl) fuel fun R X K => (loop_iter (σ := Int) (fun x => SD.enc d_laws_eqStreamS_4 ((X.1.1, (X.1.2.1, (X.1.2.2.1, (x, ())))), (), ())) (t_laws_eqStreamS_4 X K) (fun m x => by kernel_rfl) fuel X.1.2.2.2.1).symm
theorem ok_laws_eqStreamS : FnOk Tryz.prog 70 e_laws_eqStreamS := FnOk.of (fnOk (Γ := g_laws_eqStreamS) (an := n_laws_eqStreamS) (Λ := L_laws_eqStreamS) ((base).add ok_laws_eqStream) Tryz.func70 (by kernel_rfl) (hF (by kernel_rfl) (cF lok_laws_eqStreamS_4 nF))) (fun a => by kernel_rfl)
noncomputable def e_laws_eqCounters : GEnt := entOf [.data true TFlow, .data true TFlow] [(false, .bool)] fun a => Pu.laws_eqCounters a.1 a.2.1
theorem ok_laws_eqCounters : FnOk Tryz.prog 71 e_laws_eqCounters := FnOk.of (fnOk (an := {}) (Λ := Lam.nil) (base) Tryz.func71 (by kernel_rfl) (hF (by kernel_rfl) nF)) (fun a => by kernel_rfl)
noncomputable def e_laws_eqHost : GEnt := entOf [.data true THost, .data true THost] [(false, .bool)] fun a => Pu.laws_eqHost a.1 a.2.1
theorem ok_laws_eqHost : FnOk Tryz.prog 36 e_laws_eqHost := FnOk.of (fnOk (an := {}) (Λ := Lam.nil) ((((((((((((((base).add ok_laws_eqIntS).add ok_laws_eqStringS).add ok_laws_eqMemory).add ok_laws_eqMappingS).add ok_laws_eqTxQueue).add ok_laws_eqRxQueueS).add ok_laws_eqPoolS).add ok_laws_eqVectorS).add ok_laws_eqBoolS).add ok_laws_eqFilter).add ok_laws_eqSteering).add ok_laws_eqStreamS).add ok_laws_eqCounters) Tryz.func36 (by kernel_rfl) (hF (by kernel_rfl) nF)) (fun a => by kernel_rfl)
noncomputable def e_laws_eqHostS : GEnt := entOf [.data false (.sl THost), .data false (.sl THost)] [(false, .bool)] fun a => Pu.laws_eqHostS a.1 a.2.1
noncomputable def g_laws_eqHostS : Gam := (Gam.nil).add 36 e_laws_eqHost
def n_laws_eqHostS : An := { mask := fun | 4 => [0, 1, 4, 5] | _ => [] }
@[reducible] def d_laws_eqHostS_4 : SD := ⟨[.data false (.sl .arg THost),.data false (.sl .arg THost),B,B,DB,DI,B,B,B,B,B,B,B,B,B,B,B,B,B,B,B,B,B,B,B,B,B], [Z,Z,Z,Z,Z,Z,Z,Z,Z,Z,Z,Z,Z,Z,Z,Z,Z,Z,Z,Z,Z,Z,Z,Z,Z,Z,Z], none⟩
noncomputable def t_laws_eqHostS_4 {R : Type} (X : SD.D d_laws_eqHostS_4) (K : Ex → AS → Option R) := Pu.laws_eqHostS_T4 (fun y0 => K (.exit 0) (SD.enc d_laws_eqHostS_4 ((X.1.1, (X.1.2.1, (X.1.2.2.1, (y0, ())))), (), ()))) (fun y0 y1 => K .ret (SD.enc d_laws_eqHostS_4 ((X.1.1, (X.1.2.1, (y0, (y1, ())))), (), ()))) X.1.1 X.1.2.1 X.1.2.2.1
noncomputable def l_laws_eqHostS_4 : LEnt := ⟨d_laws_eqHostS_4, fun X K => iterL (t_laws_eqHostS_4 X K) fuel X.1.2.2.2.1⟩
noncomputable def L_laws_eqHostS : Lam := (Lam.nil).add 4 l_laws_eqHostS_4
theorem lok_laws_eqHostS_4 : LOk E g_laws_eqHostS n_laws_eqHostS L_laws_eqHostS (loopBody Tryz.f24 0) :=
  lok l_laws_eqHostS_4 (by kernel_rfl) fuel fun R X K => (loop_iter (σ := Int) (fun x => SD.enc d_laws_eqHostS_4 ((X.1.1, (X.1.2.1, (X.1.2.2.1, (x, ())))), (), ())) (t_laws_eqHostS_4 X K) (fun m x => by kernel_rfl) fuel X.1.2.2.2.1).symm
theorem ok_laws_eqHostS : FnOk Tryz.prog 24 e_laws_eqHostS := FnOk.of (fnOk (Γ := g_laws_eqHostS) (an := n_laws_eqHostS) (Λ := L_laws_eqHostS) ((base).add ok_laws_eqHost) Tryz.func24 (by kernel_rfl) (hF (by kernel_rfl) (cF lok_laws_eqHostS_4 nF))) (fun a => by kernel_rfl)
noncomputable def e_laws_eqBucket : GEnt := entOf [.data true TBucket, .data true TBucket] [(false, .bool)] fun a => Pu.laws_eqBucket a.1 a.2.1
theorem ok_laws_eqBucket : FnOk Tryz.prog 72 e_laws_eqBucket := FnOk.of (fnOk (an := {}) (Λ := Lam.nil) (base) Tryz.func72 (by kernel_rfl) (hF (by kernel_rfl) nF)) (fun a => by kernel_rfl)
noncomputable def e_laws_eqVirtualFunction : GEnt := entOf [.data true TVirtualFunction, .data true TVirtualFunction] [(false, .bool)] fun a => Pu.laws_eqVirtualFunction a.1 a.2.1
theorem ok_laws_eqVirtualFunction : FnOk Tryz.prog 37 e_laws_eqVirtualFunction := FnOk.of (fnOk (an := {}) (Λ := Lam.nil) ((base).add ok_laws_eqBucket) Tryz.func37 (by kernel_rfl) (hF (by kernel_rfl) nF)) (fun a => by kernel_rfl)
noncomputable def e_laws_eqVirtualFunctionS : GEnt := entOf [.data false (.sl TVirtualFunction), .data false (.sl TVirtualFunction)] [(false, .bool)] fun a => Pu.laws_eqVirtualFunctionS a.1 a.2.1
noncomputable def g_laws_eqVirtualFunctionS : Gam := (Gam.nil).add 37 e_laws_eqVirtualFunction
def n_laws_eqVirtualFunctionS : An := { mask := fun | 4 => [0, 1, 4, 5] | _ => [] }
@[reducible] def d_laws_eqVirtualFunctionS_4 : SD := ⟨[.data false (.sl .arg TVirtualFunction),.data false (.sl .arg TVirtualFunction),B,B,DB,DI,B,B,B,B,B,B,B,B,B,B,B,B,B,B,B,B,B,B,B,B,B], [Z,Z,Z,Z,Z,Z,Z,Z,Z,Z,Z,Z,Z,Z,Z,Z,Z,Z,Z,Z,Z,Z,Z,Z,Z,Z,Z], none⟩
noncomputable def t_laws_eqVirtualFunctionS_4 {R : Type} (X : SD.D d_laws_eqVirtualFunctionS_4) (K : Ex → AS → Option R) := Pu.laws_eqVirtualFunctionS_T4 (fun y0 => K (.exit 0) (SD.enc d_laws_eqVirtualFunctionS_4 ((X.1.1, (X.1.2.1, (X.1.2.2.1, (y0, ())))), (), ()))) (fun y0 y1 => K .ret (SD.enc d_laws_eqVirtualFunctionS_4 ((X.1.1, (X.1.2.1, (y0, (y1, ())))), (), ()))) X.1.1 X.1.2.1 X.1.2.2.1
noncomputable def l_laws_eqVirtualFunctionS_4 : LEnt := ⟨d_laws_eqVirtualFunctionS_4, fun X K => iterL (t_laws_eqVirtualFunctionS_4 X K) fuel X.1.2.2.2.1⟩
noncomputable def L_laws_eqVirtualFunctionS : Lam := (Lam.nil).add 4 l_laws_eqVirtualFunctionS_4
theorem lok_laws_eqVirtualFunctionS_4 : LOk E g_laws_eqVirtualFunctionS n_laws_eqVirtualFunctionS L_laws_eqVirtualFunctionS (loopBody Tryz.f25 0) :=
  lok l_laws_eqVirtualFunctionS_4 (by kernel_rfl) fuel fun R X K => (loop_iter (σ := Int) (fun x => SD.enc d_laws_eqVirtualFunctionS_4 ((X.1.1, (X.1.2.1, (X.1.2.2.1, (x, ())))), (), ())) (t_laws_eqVirtualFunctionS_4 X K) (fun m x => by kernel_rfl) fuel X.1.2.2.2.1).symm
theorem ok_laws_eqVirtualFunctionS : FnOk Tryz.prog 25 e_laws_eqVirtualFunctionS := FnOk.of (fnOk (Γ := g_laws_eqVirtualFunctionS) (an := n_laws_eqVirtualFunctionS) (Λ := L_laws_eqVirtualFunctionS) ((base).add ok_laws_eqVirtualFunction) Tryz.func25 (by kernel_rfl) (hF (by kernel_rfl) (cF lok_laws_eqVirtualFunctionS_4 nF))) (fun a => by kernel_rfl)
noncomputable def e_laws_eqMailbox : GEnt := entOf [.data true TMailbox, .data true TMailbox] [(false, .bool)] fun a => Pu.laws_eqMailbox a.1 a.2.1
theorem ok_laws_eqMailbox : FnOk Tryz.prog 38 e_laws_eqMailbox := FnOk.of (fnOk (an := {}) (Λ := Lam.nil) ((base).add ok_laws_eqFilter) Tryz.func38 (by kernel_rfl) (hF (by kernel_rfl) nF)) (fun a => by kernel_rfl)
noncomputable def e_laws_eqMailboxS : GEnt := entOf [.data false (.sl TMailbox), .data false (.sl TMailbox)] [(false, .bool)] fun a => Pu.laws_eqMailboxS a.1 a.2.1
noncomputable def g_laws_eqMailboxS : Gam := (Gam.nil).add 38 e_laws_eqMailbox
def n_laws_eqMailboxS : An := { mask := fun | 4 => [0, 1, 4, 5] | _ => [] }
@[reducible] def d_laws_eqMailboxS_4 : SD := ⟨[.data false (.sl .arg TMailbox),.data false (.sl .arg TMailbox),B,B,DB,DI,B,B,B,B,B,B,B,B,B,B,B,B,B,B,B,B,B,B,B,B,B], [Z,Z,Z,Z,Z,Z,Z,Z,Z,Z,Z,Z,Z,Z,Z,Z,Z,Z,Z,Z,Z,Z,Z,Z,Z,Z,Z], none⟩
noncomputable def t_laws_eqMailboxS_4 {R : Type} (X : SD.D d_laws_eqMailboxS_4) (K : Ex → AS → Option R) := Pu.laws_eqMailboxS_T4 (fun y0 => K (.exit 0) (SD.enc d_laws_eqMailboxS_4 ((X.1.1, (X.1.2.1, (X.1.2.2.1, (y0, ())))), (), ()))) (fun y0 y1 => K .ret (SD.enc d_laws_eqMailboxS_4 ((X.1.1, (X.1.2.1, (y0, (y1, ())))), (), ()))) X.1.1 X.1.2.1 X.1.2.2.1
noncomputable def l_laws_eqMailboxS_4 : LEnt := ⟨d_laws_eqMailboxS_4, fun X K => iterL (t_laws_eqMailboxS_4 X K) fuel X.1.2.2.2.1⟩
noncomputable def L_laws_eqMailboxS : Lam := (Lam.nil).add 4 l_laws_eqMailboxS_4
theorem lok_laws_eqMailboxS_4 : LOk E g_laws_eqMailboxS n_laws_eqMailboxS L_laws_eqMailboxS (loopBody Tryz.f26 0) :=
  lok l_laws_eqMailboxS_4 (by kernel_rfl) fuel fun R X K => (loop_iter (σ := Int) (fun x => SD.enc d_laws_eqMailboxS_4 ((X.1.1, (X.1.2.1, (X.1.2.2.1, (x, ())))), (), ())) (t_laws_eqMailboxS_4 X K) (fun m x => by kernel_rfl) fuel X.1.2.2.2.1).symm
theorem ok_laws_eqMailboxS : FnOk Tryz.prog 26 e_laws_eqMailboxS := FnOk.of (fnOk (Γ := g_laws_eqMailboxS) (an := n_laws_eqMailboxS) (Λ := L_laws_eqMailboxS) ((base).add ok_laws_eqMailbox) Tryz.func26 (by kernel_rfl) (hF (by kernel_rfl) (cF lok_laws_eqMailboxS_4 nF))) (fun a => by kernel_rfl)
noncomputable def e_laws_eqFlash : GEnt := entOf [.data true (.sl .str), .data true (.sl .str)] [(false, .bool)] fun a => Pu.laws_eqFlash a.1 a.2.1
theorem ok_laws_eqFlash : FnOk Tryz.prog 27 e_laws_eqFlash := FnOk.of (fnOk (an := {}) (Λ := Lam.nil) ((base).add ok_laws_eqStringS) Tryz.func27 (by kernel_rfl) (hF (by kernel_rfl) nF)) (fun a => by kernel_rfl)
noncomputable def e_laws_eqClock : GEnt := entOf [.data true TClock, .data true TClock] [(false, .bool)] fun a => Pu.laws_eqClock a.1 a.2.1
theorem ok_laws_eqClock : FnOk Tryz.prog 28 e_laws_eqClock := FnOk.of (fnOk (an := {}) (Λ := Lam.nil) (base) Tryz.func28 (by kernel_rfl) (hF (by kernel_rfl) nF)) (fun a => by kernel_rfl)
noncomputable def e_laws_eqCard : GEnt := entOf [.data true TCard, .data true TCard] [(false, .bool)] fun a => Pu.laws_eqCard a.1 a.2.1
theorem ok_laws_eqCard : FnOk Tryz.prog 8 e_laws_eqCard := FnOk.of (fnOk (an := {}) (Λ := Lam.nil) ((((((((base).add ok_laws_eqHostS).add ok_laws_eqVirtualFunctionS).add ok_laws_eqMailboxS).add ok_laws_eqFlash).add ok_laws_eqClock).add ok_laws_eqIntS).add ok_laws_eqStringS) Tryz.func8 (by kernel_rfl) (hF (by kernel_rfl) nF)) (fun a => by kernel_rfl)
@[reducible] def s_laws_FnExactCardDropped : List PS := [.data true TCard]
noncomputable def e_laws_FnExactCardDropped : GEnt := entOf s_laws_FnExactCardDropped [(false, .bool)] fun a => Pu.laws_FnExactCardDropped a.1
theorem ok_laws_FnExactCardDropped : FnOk Tryz.prog 3 e_laws_FnExactCardDropped := FnOk.of (fnOk (an := {}) (Λ := Lam.nil) ((((((base).add ok_laws_szCard).add ok_spec_CardDropped).add ok_laws_toCard).add ok_impl_CardDropped).add ok_laws_eqCard) Tryz.func3 (by kernel_rfl) (hF (by kernel_rfl) nF)) (fun a => by kernel_rfl)

end Go.Proofs.YthnncngicmfmjabGreat.Fn
