import Derived.Test.YtpnmgicfhmidcabGreatDnSig
import Derived.Test.YtpnmgicfhmidcabGreatPure
import Derived.Test.YtpnmgicfhmidcabGreatRows
/- Each function of the program is its pure function (made by gen.py). -/
namespace Go.Proofs.YtpnmgicfhmidcabGreat.Fn
open Go.Dn
open Go.Pu (TMapping TClock TRing TPool TSent TTxQueue TBucket TCompletionQueue TPacket TSuper TRxQueue TVector TFilter TRule TFlow TCounters TSlot TSteering TStream THost TVirtualFunction TMailbox TCard TSoft TIdeal TSpread TPort TSegment)
set_option maxRecDepth 100000
abbrev B : PD := .bot
abbrev DI : PD := .data false (.int .i64)
abbrev DB : PD := .data false .bool
abbrev Z : Option FT := none
theorem nF {p : Code → Prop} : ∀ x ∈ ([] : List Code), p x := fun _ h => nomatch h
theorem cF {p : Code → Prop} {a : Code} {l : List Code} (h : p a) (t : ∀ x ∈ l, p x) : ∀ x ∈ a :: l, p x := List.forall_mem_cons.2 ⟨h, t⟩
theorem hF {p : Code → Prop} {l m : List Code} (e : l = m) (h : ∀ x ∈ m, p x) : ∀ x ∈ l, p x := e ▸ h
def E : Env := { ty := [(3, ⟨false, (.int .i64), []⟩),
  (4, ⟨false, .bool, []⟩),
  (5, ⟨false, (.int .u8), []⟩),
  (9, ⟨false, .str, []⟩),
  (22, ⟨false, (.sl THost), [(141, 0)]⟩),
  (23, ⟨false, (.sl TVirtualFunction), [(163, 0)]⟩),
  (24, ⟨false, (.sl TMailbox), [(144, 0)]⟩),
  (25, ⟨false, (.sl .str), [(9, 0)]⟩),
  (27, ⟨true, (.sl .str), [(0, 1)]⟩),
  (29, ⟨true, TClock, [(0, 1), (1, 1), (2, 1), (3, 1)]⟩),
  (30, ⟨false, (.sl (.int .i64)), [(3, 0)]⟩),
  (32, ⟨true, TCard, [(0, 1), (1, 1), (2, 1), (3, 1), (4, 4), (8, 1), (9, 1)]⟩),
  (33, ⟨false, (.sl TSoft), [(147, 0)]⟩),
  (34, ⟨false, (.sl (.sl .str)), [(25, 0)]⟩),
  (36, ⟨true, TIdeal, [(0, 1), (1, 1), (2, 1), (3, 1), (4, 1)]⟩),
  (40, ⟨false, (.sl THost), [(98, 0)]⟩),
  (41, ⟨false, (.sl TVirtualFunction), [(68, 0)]⟩),
  (42, ⟨false, (.sl TMailbox), [(157, 0)]⟩),
  (43, ⟨true, (.sl .str), [(0, 1)]⟩),
  (44, ⟨true, TClock, [(0, 1), (1, 1), (2, 1), (3, 1)]⟩),
  (46, ⟨true, TCard, [(0, 1), (1, 1), (2, 1), (3, 1), (4, 4), (8, 1), (9, 1)]⟩),
  (48, ⟨false, (.sl TSoft), [(100, 0)]⟩),
  (50, ⟨true, TIdeal, [(0, 1), (1, 1), (2, 1), (3, 1), (4, 1)]⟩),
  (66, ⟨true, TBucket, [(0, 1), (1, 1), (2, 1)]⟩),
  (68, ⟨true, TVirtualFunction, [(0, 1), (1, 1), (2, 3), (5, 1), (6, 1), (7, 1)]⟩),
  (71, ⟨true, (.sl .str), [(0, 1)]⟩),
  (72, ⟨false, (.sl TMapping), [(262, 0)]⟩),
  (74, ⟨true, TClock, [(0, 1), (1, 1), (2, 1), (3, 1)]⟩),
  (76, ⟨true, TPool, [(0, 1), (1, 1), (2, 1), (3, 1)]⟩),
  (77, ⟨false, (.sl TSent), [(265, 0)]⟩),
  (79, ⟨true, TTxQueue, [(0, 4), (4, 4), (8, 1), (9, 1)]⟩),
  (80, ⟨false, (.sl TRxQueue), [(210, 0)]⟩),
  (81, ⟨false, (.sl TPool), [(76, 0)]⟩),
  (82, ⟨false, (.sl TVector), [(214, 0)]⟩),
  (83, ⟨false, (.sl .bool), [(4, 0)]⟩),
  (85, ⟨true, TFilter, [(0, 1), (1, 1), (2, 1)]⟩),
  (86, ⟨false, (.sl TRule), [(272, 0)]⟩),
  (87, ⟨false, (.sl TSlot), [(274, 0)]⟩),
  (89, ⟨true, (.sl TSlot), [(0, 1)]⟩),
  (91, ⟨true, TSpread, [(0, 1), (1, 1)]⟩),
  (93, ⟨true, TSteering, [(0, 1), (1, 1), (2, 2)]⟩),
  (94, ⟨false, (.sl TStream), [(170, 0)]⟩),
  (96, ⟨true, TFlow, [(0, 1), (1, 1), (2, 1), (3, 1), (4, 1)]⟩),
  (98, ⟨true, THost, [(0, 1), (1, 1), (2, 10), (12, 1), (13, 1), (14, 1), (15, 1), (16, 3), (19, 4), (23, 1), (24, 1), (25, 1), (26, 1), (27, 1), (28, 5)]⟩),
  (100, ⟨true, TSoft, [(0, 3), (3, 4), (7, 1), (8, 1), (9, 1)]⟩),
  (120, ⟨true, (.sl .str), [(0, 1)]⟩),
  (121, ⟨false, (.sl TMapping), [(278, 0)]⟩),
  (122, ⟨true, TClock, [(0, 1), (1, 1), (2, 1), (3, 1)]⟩),
  (123, ⟨true, TPool, [(0, 1), (1, 1), (2, 1), (3, 1)]⟩),
  (124, ⟨false, (.sl TSent), [(303, 0)]⟩),
  (126, ⟨true, TTxQueue, [(0, 4), (4, 4), (8, 1), (9, 1)]⟩),
  (127, ⟨false, (.sl TRxQueue), [(250, 0)]⟩),
  (128, ⟨false, (.sl TPool), [(123, 0)]⟩),
  (129, ⟨false, (.sl TVector), [(284, 0)]⟩),
  (130, ⟨true, TFilter, [(0, 1), (1, 1), (2, 1)]⟩),
  (131, ⟨false, (.sl TRule), [(319, 0)]⟩),
  (132, ⟨false, (.sl TSlot), [(335, 0)]⟩),
  (134, ⟨true, (.sl TSlot), [(0, 1)]⟩),
  (135, ⟨true, TSpread, [(0, 1), (1, 1)]⟩),
  (137, ⟨true, TSteering, [(0, 1), (1, 1), (2, 2)]⟩),
  (138, ⟨false, (.sl TStream), [(257, 0)]⟩),
  (139, ⟨true, TFlow, [(0, 1), (1, 1), (2, 1), (3, 1), (4, 1)]⟩),
  (141, ⟨true, THost, [(0, 1), (1, 1), (2, 10), (12, 1), (13, 1), (14, 1), (15, 1), (16, 3), (19, 4), (23, 1), (24, 1), (25, 1), (26, 1), (27, 1), (28, 5)]⟩),
  (144, ⟨true, TMailbox, [(0, 3), (3, 1), (4, 1), (5, 1)]⟩),
  (147, ⟨true, TSoft, [(0, 3), (3, 4), (7, 1), (8, 1), (9, 1)]⟩),
  (148, ⟨false, (.sl TPort), [(188, 0)]⟩),
  (157, ⟨true, TMailbox, [(0, 3), (3, 1), (4, 1), (5, 1)]⟩),
  (161, ⟨true, TBucket, [(0, 1), (1, 1), (2, 1)]⟩),
  (163, ⟨true, TVirtualFunction, [(0, 1), (1, 1), (2, 3), (5, 1), (6, 1), (7, 1)]⟩),
  (168, ⟨true, TFlow, [(0, 1), (1, 1), (2, 1), (3, 1), (4, 1)]⟩),
  (170, ⟨true, TStream, [(0, 5), (5, 1), (6, 1), (7, 1)]⟩),
  (188, ⟨true, TPort, [(0, 1), (1, 1), (2, 1), (3, 1)]⟩),
  (202, ⟨true, TBucket, [(0, 1), (1, 1), (2, 1)]⟩),
  (204, ⟨true, TSegment, [(0, 1), (1, 1), (2, 1), (3, 1), (4, 1), (5, 1), (6, 1), (7, 1)]⟩),
  (206, ⟨true, TPacket, [(0, 1), (1, 1), (2, 1), (3, 1), (4, 1), (5, 1), (6, 1), (7, 1), (8, 8)]⟩),
  (208, ⟨true, TSuper, [(0, 16), (16, 1), (17, 1)]⟩),
  (210, ⟨true, TRxQueue, [(0, 4), (4, 3), (7, 3), (10, 18), (28, 1), (29, 1)]⟩),
  (214, ⟨true, TVector, [(0, 1), (1, 1), (2, 1), (3, 1), (4, 1), (5, 1)]⟩),
  (243, ⟨true, TBucket, [(0, 1), (1, 1), (2, 1)]⟩),
  (244, ⟨true, TSegment, [(0, 1), (1, 1), (2, 1), (3, 1), (4, 1), (5, 1), (6, 1), (7, 1)]⟩),
  (246, ⟨true, TPacket, [(0, 1), (1, 1), (2, 1), (3, 1), (4, 1), (5, 1), (6, 1), (7, 1), (8, 8)]⟩),
  (248, ⟨true, TSuper, [(0, 16), (16, 1), (17, 1)]⟩),
  (250, ⟨true, TRxQueue, [(0, 4), (4, 3), (7, 3), (10, 18), (28, 1), (29, 1)]⟩),
  (255, ⟨true, TFlow, [(0, 1), (1, 1), (2, 1), (3, 1), (4, 1)]⟩),
  (257, ⟨true, TStream, [(0, 5), (5, 1), (6, 1), (7, 1)]⟩),
  (262, ⟨true, TMapping, [(0, 1), (1, 1), (2, 1), (3, 1)]⟩),
  (265, ⟨true, TSent, [(0, 1), (1, 1), (2, 1)]⟩),
  (272, ⟨true, TRule, [(0, 1), (1, 1), (2, 1), (3, 1), (4, 1), (5, 1), (6, 1), (7, 1), (8, 1)]⟩),
  (274, ⟨true, TSlot, [(0, 1), (1, 5), (6, 1)]⟩),
  (278, ⟨true, TMapping, [(0, 1), (1, 1), (2, 1), (3, 1)]⟩),
  (284, ⟨true, TVector, [(0, 1), (1, 1), (2, 1), (3, 1), (4, 1), (5, 1)]⟩),
  (303, ⟨true, TSent, [(0, 1), (1, 1), (2, 1)]⟩),
  (319, ⟨true, TRule, [(0, 1), (1, 1), (2, 1), (3, 1), (4, 1), (5, 1), (6, 1), (7, 1), (8, 1)]⟩),
  (330, ⟨false, (.sl (.int .u8)), [(5, 0)]⟩),
  (335, ⟨true, TSlot, [(0, 1), (1, 5), (6, 1)]⟩),
  (337, ⟨false, (.int .u32), []⟩)], eqs := [(68, [.int, .int, .int, .int, .int, .bool, .int, .int]), (168, [.int, .int, .int, .int, .int]), (170, [.int, .int, .int, .int, .int, .int, .str, .bool]), (208, [.int, .int, .int, .int, .int, .int, .int, .int, .int, .int, .int, .int, .int, .int, .int, .str, .int, .int])] }
theorem base : Sound Tryz.prog E Gam.nil := Sound.nil (lookE_ok (by kernel_rfl)) (lookQ_ok (by kernel_rfl)) (by kernel_rfl)
noncomputable def e_laws_szIntS : GEnt := entOf [.data false (.sl (.int .i64)), .data false (.int .i64)] [(false, (.int .i64))] fun a => Pu.laws_szIntS a.1 a.2.1
theorem ok_laws_szIntS : FnOk Tryz.prog 16 e_laws_szIntS := FnOk.of (fnOk (an := {}) (Λ := Lam.nil) (base) Tryz.func16 (by kernel_rfl) (hF (by kernel_rfl) nF)) (fun a => by kernel_rfl)
noncomputable def e_laws_szStringS : GEnt := entOf [.data false (.sl .str), .data false (.int .i64)] [(false, (.int .i64))] fun a => Pu.laws_szStringS a.1 a.2.1
noncomputable def g_laws_szStringS : Gam := Gam.nil
def n_laws_szStringS : An := { mask := fun | 5 => [0, 1, 4, 5] | _ => [] }
@[reducible] def d_laws_szStringS_5 : SD := ⟨[.data false (.sl .arg .str),DI,B,B,DI,DI,B,B,B,B,B,B,B,B,B,B,B,B,B,B,B,B,B,B,B,B,B,B], [Z,Z,Z,Z,Z,Z,Z,Z,Z,Z,Z,Z,Z,Z,Z,Z,Z,Z,Z,Z,Z,Z,Z,Z,Z,Z,Z,Z], none⟩
noncomputable def t_laws_szStringS_5 {R : Type} (X : SD.D d_laws_szStringS_5) (K : Ex → AS → Option R) := Pu.laws_szStringS_T5 (fun y0 y1 => K (.exit 0) (SD.enc d_laws_szStringS_5 ((X.1.1, (y0, (X.1.2.2.1, (y1, ())))), (), ()))) (fun y0 y1 y2 => K .ret (SD.enc d_laws_szStringS_5 ((X.1.1, (y0, (y1, (y2, ())))), (), ()))) X.1.1 X.1.2.2.1
noncomputable def l_laws_szStringS_5 : LEnt := ⟨d_laws_szStringS_5, fun X K => iterL (t_laws_szStringS_5 X K) fuel (X.1.2.1, X.1.2.2.2.1)⟩
noncomputable def L_laws_szStringS : Lam := (Lam.nil).add 5 l_laws_szStringS_5
theorem lok_laws_szStringS_5 : LOk E g_laws_szStringS n_laws_szStringS L_laws_szStringS (loopBody Tryz.f17 0) :=
  lok l_laws_szStringS_5 (by kernel_rfl) fuel fun R X K => (loop_iter (σ := Int × Int) (fun x => SD.enc d_laws_szStringS_5 ((X.1.1, (x.1, (X.1.2.2.1, (x.2, ())))), (), ())) (t_laws_szStringS_5 X K) (fun m x => by kernel_rfl) fuel (X.1.2.1, X.1.2.2.2.1)).symm
theorem ok_laws_szStringS : FnOk Tryz.prog 17 e_laws_szStringS := FnOk.of (fnOk (Γ := g_laws_szStringS) (an := n_laws_szStringS) (Λ := L_laws_szStringS) (base) Tryz.func17 (by kernel_rfl) (hF (by kernel_rfl) (cF lok_laws_szStringS_5 nF))) (fun a => by kernel_rfl)
noncomputable def e_laws_szMemory : GEnt := entOf [.data true (.sl .str), .data false (.int .i64)] [(false, (.int .i64))] fun a => Pu.laws_szMemory a.1 a.2.1
theorem ok_laws_szMemory : FnOk Tryz.prog 74 e_laws_szMemory := FnOk.of (fnOk (an := {}) (Λ := Lam.nil) ((base).add ok_laws_szStringS) Tryz.func74 (by kernel_rfl) (hF (by kernel_rfl) nF)) (fun a => by kernel_rfl)
noncomputable def e_laws_szMappingS : GEnt := entOf [.data false (.sl TMapping), .data false (.int .i64)] [(false, (.int .i64))] fun a => Pu.laws_szMappingS a.1 a.2.1
theorem ok_laws_szMappingS : FnOk Tryz.prog 75 e_laws_szMappingS := FnOk.of (fnOk (an := {}) (Λ := Lam.nil) (base) Tryz.func75 (by kernel_rfl) (hF (by kernel_rfl) nF)) (fun a => by kernel_rfl)
noncomputable def e_laws_szPool : GEnt := entOf [.data true TPool, .data false (.int .i64)] [(false, (.int .i64))] fun a => Pu.laws_szPool a.1 a.2.1
theorem ok_laws_szPool : FnOk Tryz.prog 143 e_laws_szPool := FnOk.of (fnOk (an := {}) (Λ := Lam.nil) ((base).add ok_laws_szIntS) Tryz.func143 (by kernel_rfl) (hF (by kernel_rfl) nF)) (fun a => by kernel_rfl)
noncomputable def e_laws_szSent : GEnt := entOf [.data true TSent, .data false (.int .i64)] [(false, (.int .i64))] fun a => Pu.laws_szSent a.1 a.2.1
theorem ok_laws_szSent : FnOk Tryz.prog 194 e_laws_szSent := FnOk.of (fnOk (an := {}) (Λ := Lam.nil) ((base).add ok_laws_szIntS) Tryz.func194 (by kernel_rfl) (hF (by kernel_rfl) nF)) (fun a => by kernel_rfl)
noncomputable def e_laws_szSentS : GEnt := entOf [.data false (.sl TSent), .data false (.int .i64)] [(false, (.int .i64))] fun a => Pu.laws_szSentS a.1 a.2.1
noncomputable def g_laws_szSentS : Gam := (Gam.nil).add 194 e_laws_szSent
def n_laws_szSentS : An := { mask := fun | 5 => [0, 1, 4, 5] | _ => [] }
@[reducible] def d_laws_szSentS_5 : SD := ⟨[.data false (.sl .arg TSent),DI,B,B,DI,DI,B,B,B,B,B,B,B,B,B,B,B,B,B,B,B,B,B,B,B,B,B], [Z,Z,Z,Z,Z,Z,Z,Z,Z,Z,Z,Z,Z,Z,Z,Z,Z,Z,Z,Z,Z,Z,Z,Z,Z,Z,Z], none⟩
noncomputable def t_laws_szSentS_5 {R : Type} (X : SD.D d_laws_szSentS_5) (K : Ex → AS → Option R) := Pu.laws_szSentS_T5 (fun y0 y1 => K (.exit 0) (SD.enc d_laws_szSentS_5 ((X.1.1, (y0, (X.1.2.2.1, (y1, ())))), (), ()))) (fun y0 y1 y2 => K .ret (SD.enc d_laws_szSentS_5 ((X.1.1, (y0, (y1, (y2, ())))), (), ()))) X.1.1 X.1.2.2.1
noncomputable def l_laws_szSentS_5 : LEnt := ⟨d_laws_szSentS_5, fun X K => iterL (t_laws_szSentS_5 X K) fuel (X.1.2.1, X.1.2.2.2.1)⟩
noncomputable def L_laws_szSentS : Lam := (Lam.nil).add 5 l_laws_szSentS_5
theorem lok_laws_szSentS_5 : LOk E g_laws_szSentS n_laws_szSentS L_laws_szSentS (loopBody Tryz.f144 0) :=
  lok l_laws_szSentS_5 (by kernel_rfl) fuel fun R X K => (loop_iter (σ := Int × Int) (fun x => SD.enc d_laws_szSentS_5 ((X.1.1, (x.1, (X.1.2.2.1, (x.2, ())))), (), ())) (t_laws_szSentS_5 X K) (fun m x => by kernel_rfl) fuel (X.1.2.1, X.1.2.2.2.1)).symm
theorem ok_laws_szSentS : FnOk Tryz.prog 144 e_laws_szSentS := FnOk.of (fnOk (Γ := g_laws_szSentS) (an := n_laws_szSentS) (Λ := L_laws_szSentS) ((base).add ok_laws_szSent) Tryz.func144 (by kernel_rfl) (hF (by kernel_rfl) (cF lok_laws_szSentS_5 nF))) (fun a => by kernel_rfl)
noncomputable def e_laws_szTxQueue : GEnt := entOf [.data true TTxQueue, .data false (.int .i64)] [(false, (.int .i64))] fun a => Pu.laws_szTxQueue a.1 a.2.1
theorem ok_laws_szTxQueue : FnOk Tryz.prog 76 e_laws_szTxQueue := FnOk.of (fnOk (an := {}) (Λ := Lam.nil) (((base).add ok_laws_szPool).add ok_laws_szSentS) Tryz.func76 (by kernel_rfl) (hF (by kernel_rfl) nF)) (fun a => by kernel_rfl)
noncomputable def e_laws_szSegment : GEnt := entOf [.data true TSegment, .data false (.int .i64)] [(false, (.int .i64))] fun a => Pu.laws_szSegment a.1 a.2.1
theorem ok_laws_szSegment : FnOk Tryz.prog 240 e_laws_szSegment := FnOk.of (fnOk (an := {}) (Λ := Lam.nil) (base) Tryz.func240 (by kernel_rfl) (hF (by kernel_rfl) nF)) (fun a => by kernel_rfl)
noncomputable def e_laws_szPacket : GEnt := entOf [.data true TPacket, .data false (.int .i64)] [(false, (.int .i64))] fun a => Pu.laws_szPacket a.1 a.2.1
theorem ok_laws_szPacket : FnOk Tryz.prog 231 e_laws_szPacket := FnOk.of (fnOk (an := {}) (Λ := Lam.nil) ((base).add ok_laws_szSegment) Tryz.func231 (by kernel_rfl) (hF (by kernel_rfl) nF)) (fun a => by kernel_rfl)
noncomputable def e_laws_szSuper : GEnt := entOf [.data true TSuper, .data false (.int .i64)] [(false, (.int .i64))] fun a => Pu.laws_szSuper a.1 a.2.1
theorem ok_laws_szSuper : FnOk Tryz.prog 195 e_laws_szSuper := FnOk.of (fnOk (an := {}) (Λ := Lam.nil) ((base).add ok_laws_szPacket) Tryz.func195 (by kernel_rfl) (hF (by kernel_rfl) nF)) (fun a => by kernel_rfl)
noncomputable def e_laws_szRxQueue : GEnt := entOf [.data true TRxQueue, .data false (.int .i64)] [(false, (.int .i64))] fun a => Pu.laws_szRxQueue a.1 a.2.1
theorem ok_laws_szRxQueue : FnOk Tryz.prog 145 e_laws_szRxQueue := FnOk.of (fnOk (an := {}) (Λ := Lam.nil) ((base).add ok_laws_szSuper) Tryz.func145 (by kernel_rfl) (hF (by kernel_rfl) nF)) (fun a => by kernel_rfl)
noncomputable def e_laws_szRxQueueS : GEnt := entOf [.data false (.sl TRxQueue), .data false (.int .i64)] [(false, (.int .i64))] fun a => Pu.laws_szRxQueueS a.1 a.2.1
noncomputable def g_laws_szRxQueueS : Gam := (Gam.nil).add 145 e_laws_szRxQueue
def n_laws_szRxQueueS : An := { mask := fun | 5 => [0, 1, 4, 5] | _ => [] }
@[reducible] def d_laws_szRxQueueS_5 : SD := ⟨[.data false (.sl .arg TRxQueue),DI,B,B,DI,DI,B,B,B,B,B,B,B,B,B,B,B,B,B,B,B,B,B,B,B,B,B], [Z,Z,Z,Z,Z,Z,Z,Z,Z,Z,Z,Z,Z,Z,Z,Z,Z,Z,Z,Z,Z,Z,Z,Z,Z,Z,Z], none⟩
noncomputable def t_laws_szRxQueueS_5 {R : Type} (X : SD.D d_laws_szRxQueueS_5) (K : Ex → AS → Option R) := Pu.laws_szRxQueueS_T5 (fun y0 y1 => K (.exit 0) (SD.enc d_laws_szRxQueueS_5 ((X.1.1, (y0, (X.1.2.2.1, (y1, ())))), (), ()))) (fun y0 y1 y2 => K .ret (SD.enc d_laws_szRxQueueS_5 ((X.1.1, (y0, (y1, (y2, ())))), (), ()))) X.1.1 X.1.2.2.1
noncomputable def l_laws_szRxQueueS_5 : LEnt := ⟨d_laws_szRxQueueS_5, fun X K => iterL (t_laws_szRxQueueS_5 X K) fuel (X.1.2.1, X.1.2.2.2.1)⟩
noncomputable def L_laws_szRxQueueS : Lam := (Lam.nil).add 5 l_laws_szRxQueueS_5
theorem lok_laws_szRxQueueS_5 : LOk E g_laws_szRxQueueS n_laws_szRxQueueS L_laws_szRxQueueS (loopBody Tryz.f77 0) :=
  lok l_laws_szRxQueueS_5 (by kernel_rfl) fuel fun R X K => (loop_iter (σ := Int × Int) (fun x => SD.enc d_laws_szRxQueueS_5 ((X.1.1, (x.1, (X.1.2.2.1, (x.2, ())))), (), ())) (t_laws_szRxQueueS_5 X K) (fun m x => by kernel_rfl) fuel (X.1.2.1, X.1.2.2.2.1)).symm
theorem ok_laws_szRxQueueS : FnOk Tryz.prog 77 e_laws_szRxQueueS := FnOk.of (fnOk (Γ := g_laws_szRxQueueS) (an := n_laws_szRxQueueS) (Λ := L_laws_szRxQueueS) ((base).add ok_laws_szRxQueue) Tryz.func77 (by kernel_rfl) (hF (by kernel_rfl) (cF lok_laws_szRxQueueS_5 nF))) (fun a => by kernel_rfl)
noncomputable def e_laws_szPoolS : GEnt := entOf [.data false (.sl TPool), .data false (.int .i64)] [(false, (.int .i64))] fun a => Pu.laws_szPoolS a.1 a.2.1
noncomputable def g_laws_szPoolS : Gam := (Gam.nil).add 143 e_laws_szPool
def n_laws_szPoolS : An := { mask := fun | 5 => [0, 1, 4, 5] | _ => [] }
@[reducible] def d_laws_szPoolS_5 : SD := ⟨[.data false (.sl .arg TPool),DI,B,B,DI,DI,B,B,B,B,B,B,B,B,B,B,B,B,B,B,B,B,B,B,B,B,B], [Z,Z,Z,Z,Z,Z,Z,Z,Z,Z,Z,Z,Z,Z,Z,Z,Z,Z,Z,Z,Z,Z,Z,Z,Z,Z,Z], none⟩
noncomputable def t_laws_szPoolS_5 {R : Type} (X : SD.D d_laws_szPoolS_5) (K : Ex → AS → Option R) := Pu.laws_szPoolS_T5 (fun y0 y1 => K (.exit 0) (SD.enc d_laws_szPoolS_5 ((X.1.1, (y0, (X.1.2.2.1, (y1, ())))), (), ()))) (fun y0 y1 y2 => K .ret (SD.enc d_laws_szPoolS_5 ((X.1.1, (y0, (y1, (y2, ())))), (), ()))) X.1.1 X.1.2.2.1
noncomputable def l_laws_szPoolS_5 : LEnt := ⟨d_laws_szPoolS_5, fun X K => iterL (t_laws_szPoolS_5 X K) fuel (X.1.2.1, X.1.2.2.2.1)⟩
noncomputable def L_laws_szPoolS : Lam := (Lam.nil).add 5 l_laws_szPoolS_5
theorem lok_laws_szPoolS_5 : LOk E g_laws_szPoolS n_laws_szPoolS L_laws_szPoolS (loopBody Tryz.f78 0) :=
  lok l_laws_szPoolS_5 (by kernel_rfl) fuel fun R X K => (loop_iter (σ := Int × Int) (fun x => SD.enc d_laws_szPoolS_5 ((X.1.1, (x.1, (X.1.2.2.1, (x.2, ())))), (), ())) (t_laws_szPoolS_5 X K) (fun m x => by kernel_rfl) fuel (X.1.2.1, X.1.2.2.2.1)).symm
theorem ok_laws_szPoolS : FnOk Tryz.prog 78 e_laws_szPoolS := FnOk.of (fnOk (Γ := g_laws_szPoolS) (an := n_laws_szPoolS) (Λ := L_laws_szPoolS) ((base).add ok_laws_szPool) Tryz.func78 (by kernel_rfl) (hF (by kernel_rfl) (cF lok_laws_szPoolS_5 nF))) (fun a => by kernel_rfl)
noncomputable def e_laws_szVectorS : GEnt := entOf [.data false (.sl TVector), .data false (.int .i64)] [(false, (.int .i64))] fun a => Pu.laws_szVectorS a.1 a.2.1
theorem ok_laws_szVectorS : FnOk Tryz.prog 79 e_laws_szVectorS := FnOk.of (fnOk (an := {}) (Λ := Lam.nil) (base) Tryz.func79 (by kernel_rfl) (hF (by kernel_rfl) nF)) (fun a => by kernel_rfl)
noncomputable def e_laws_szBoolS : GEnt := entOf [.data false (.sl .bool), .data false (.int .i64)] [(false, (.int .i64))] fun a => Pu.laws_szBoolS a.1 a.2.1
theorem ok_laws_szBoolS : FnOk Tryz.prog 80 e_laws_szBoolS := FnOk.of (fnOk (an := {}) (Λ := Lam.nil) (base) Tryz.func80 (by kernel_rfl) (hF (by kernel_rfl) nF)) (fun a => by kernel_rfl)
noncomputable def e_laws_szFilter : GEnt := entOf [.data true TFilter, .data false (.int .i64)] [(false, (.int .i64))] fun a => Pu.laws_szFilter a.1 a.2.1
theorem ok_laws_szFilter : FnOk Tryz.prog 81 e_laws_szFilter := FnOk.of (fnOk (an := {}) (Λ := Lam.nil) ((base).add ok_laws_szIntS) Tryz.func81 (by kernel_rfl) (hF (by kernel_rfl) nF)) (fun a => by kernel_rfl)
noncomputable def e_laws_szRuleS : GEnt := entOf [.data false (.sl TRule), .data false (.int .i64)] [(false, (.int .i64))] fun a => Pu.laws_szRuleS a.1 a.2.1
theorem ok_laws_szRuleS : FnOk Tryz.prog 146 e_laws_szRuleS := FnOk.of (fnOk (an := {}) (Λ := Lam.nil) (base) Tryz.func146 (by kernel_rfl) (hF (by kernel_rfl) nF)) (fun a => by kernel_rfl)
noncomputable def e_laws_szSlotS : GEnt := entOf [.data false (.sl TSlot), .data false (.int .i64)] [(false, (.int .i64))] fun a => Pu.laws_szSlotS a.1 a.2.1
theorem ok_laws_szSlotS : FnOk Tryz.prog 196 e_laws_szSlotS := FnOk.of (fnOk (an := {}) (Λ := Lam.nil) (base) Tryz.func196 (by kernel_rfl) (hF (by kernel_rfl) nF)) (fun a => by kernel_rfl)
noncomputable def e_laws_szFlowTable : GEnt := entOf [.data true (.sl TSlot), .data false (.int .i64)] [(false, (.int .i64))] fun a => Pu.laws_szFlowTable a.1 a.2.1
theorem ok_laws_szFlowTable : FnOk Tryz.prog 147 e_laws_szFlowTable := FnOk.of (fnOk (an := {}) (Λ := Lam.nil) ((base).add ok_laws_szSlotS) Tryz.func147 (by kernel_rfl) (hF (by kernel_rfl) nF)) (fun a => by kernel_rfl)
noncomputable def e_laws_szSpread : GEnt := entOf [.data true TSpread, .data false (.int .i64)] [(false, (.int .i64))] fun a => Pu.laws_szSpread a.1 a.2.1
theorem ok_laws_szSpread : FnOk Tryz.prog 148 e_laws_szSpread := FnOk.of (fnOk (an := {}) (Λ := Lam.nil) ((base).add ok_laws_szIntS) Tryz.func148 (by kernel_rfl) (hF (by kernel_rfl) nF)) (fun a => by kernel_rfl)
noncomputable def e_laws_szSteering : GEnt := entOf [.data true TSteering, .data false (.int .i64)] [(false, (.int .i64))] fun a => Pu.laws_szSteering a.1 a.2.1
theorem ok_laws_szSteering : FnOk Tryz.prog 82 e_laws_szSteering := FnOk.of (fnOk (an := {}) (Λ := Lam.nil) ((((base).add ok_laws_szRuleS).add ok_laws_szFlowTable).add ok_laws_szSpread) Tryz.func82 (by kernel_rfl) (hF (by kernel_rfl) nF)) (fun a => by kernel_rfl)
noncomputable def e_laws_szStream : GEnt := entOf [.data true TStream, .data false (.int .i64)] [(false, (.int .i64))] fun a => Pu.laws_szStream a.1 a.2.1
theorem ok_laws_szStream : FnOk Tryz.prog 149 e_laws_szStream := FnOk.of (fnOk (an := {}) (Λ := Lam.nil) (base) Tryz.func149 (by kernel_rfl) (hF (by kernel_rfl) nF)) (fun a => by kernel_rfl)
noncomputable def e_laws_szStreamS : GEnt := entOf [.data false (.sl TStream), .data false (.int .i64)] [(false, (.int .i64))] fun a => Pu.laws_szStreamS a.1 a.2.1
noncomputable def g_laws_szStreamS : Gam := (Gam.nil).add 149 e_laws_szStream
def n_laws_szStreamS : An := { mask := fun | 5 => [0, 1, 4, 5] | _ => [] }
@[reducible] def d_laws_szStreamS_5 : SD := ⟨[.data false (.sl .arg TStream),DI,B,B,DI,DI,B,B,B,B,B,B,B,B,B,B,B,B,B,B,B,B,B,B,B,B,B], [Z,Z,Z,Z,Z,Z,Z,Z,Z,Z,Z,Z,Z,Z,Z,Z,Z,Z,Z,Z,Z,Z,Z,Z,Z,Z,Z], none⟩
noncomputable def t_laws_szStreamS_5 {R : Type} (X : SD.D d_laws_szStreamS_5) (K : Ex → AS → Option R) := Pu.laws_szStreamS_T5 (fun y0 y1 => K (.exit 0) (SD.enc d_laws_szStreamS_5 ((X.1.1, (y0, (X.1.2.2.1, (y1, ())))), (), ()))) (fun y0 y1 y2 => K .ret (SD.enc d_laws_szStreamS_5 ((X.1.1, (y0, (y1, (y2, ())))), (), ()))) X.1.1 X.1.2.2.1
noncomputable def l_laws_szStreamS_5 : LEnt := ⟨d_laws_szStreamS_5, fun X K => iterL (t_laws_szStreamS_5 X K) fuel (X.1.2.1, X.1.2.2.2.1)⟩
noncomputable def L_laws_szStreamS : Lam := (Lam.nil).add 5 l_laws_szStreamS_5
theorem lok_laws_szStreamS_5 : LOk E g_laws_szStreamS n_laws_szStreamS L_laws_szStreamS (loopBody Tryz.f83 0) :=
  lok l_laws_szStreamS_5 (by kernel_rfl) fuel fun R X K => (loop_iter (σ := Int × Int) (fun x => SD.enc d_laws_szStreamS_5 ((X.1.1, (x.1, (X.1.2.2.1, (x.2, ())))), (), ())) (t_laws_szStreamS_5 X K) (fun m x => by kernel_rfl) fuel (X.1.2.1, X.1.2.2.2.1)).symm
theorem ok_laws_szStreamS : FnOk Tryz.prog 83 e_laws_szStreamS := FnOk.of (fnOk (Γ := g_laws_szStreamS) (an := n_laws_szStreamS) (Λ := L_laws_szStreamS) ((base).add ok_laws_szStream) Tryz.func83 (by kernel_rfl) (hF (by kernel_rfl) (cF lok_laws_szStreamS_5 nF))) (fun a => by kernel_rfl)
noncomputable def e_laws_szHost : GEnt := entOf [.data true THost, .data false (.int .i64)] [(false, (.int .i64))] fun a => Pu.laws_szHost a.1 a.2.1
theorem ok_laws_szHost : FnOk Tryz.prog 45 e_laws_szHost := FnOk.of (fnOk (an := {}) (Λ := Lam.nil) (((((((((((((base).add ok_laws_szIntS).add ok_laws_szStringS).add ok_laws_szMemory).add ok_laws_szMappingS).add ok_laws_szTxQueue).add ok_laws_szRxQueueS).add ok_laws_szPoolS).add ok_laws_szVectorS).add ok_laws_szBoolS).add ok_laws_szFilter).add ok_laws_szSteering).add ok_laws_szStreamS) Tryz.func45 (by kernel_rfl) (hF (by kernel_rfl) nF)) (fun a => by kernel_rfl)
noncomputable def e_laws_szHostS : GEnt := entOf [.data false (.sl THost), .data false (.int .i64)] [(false, (.int .i64))] fun a => Pu.laws_szHostS a.1 a.2.1
noncomputable def g_laws_szHostS : Gam := (Gam.nil).add 45 e_laws_szHost
def n_laws_szHostS : An := { mask := fun | 5 => [0, 1, 4, 5] | _ => [] }
@[reducible] def d_laws_szHostS_5 : SD := ⟨[.data false (.sl .arg THost),DI,B,B,DI,DI,B,B,B,B,B,B,B,B,B,B,B,B,B,B,B,B,B,B,B,B,B], [Z,Z,Z,Z,Z,Z,Z,Z,Z,Z,Z,Z,Z,Z,Z,Z,Z,Z,Z,Z,Z,Z,Z,Z,Z,Z,Z], none⟩
noncomputable def t_laws_szHostS_5 {R : Type} (X : SD.D d_laws_szHostS_5) (K : Ex → AS → Option R) := Pu.laws_szHostS_T5 (fun y0 y1 => K (.exit 0) (SD.enc d_laws_szHostS_5 ((X.1.1, (y0, (X.1.2.2.1, (y1, ())))), (), ()))) (fun y0 y1 y2 => K .ret (SD.enc d_laws_szHostS_5 ((X.1.1, (y0, (y1, (y2, ())))), (), ()))) X.1.1 X.1.2.2.1
noncomputable def l_laws_szHostS_5 : LEnt := ⟨d_laws_szHostS_5, fun X K => iterL (t_laws_szHostS_5 X K) fuel (X.1.2.1, X.1.2.2.2.1)⟩
noncomputable def L_laws_szHostS : Lam := (Lam.nil).add 5 l_laws_szHostS_5
theorem lok_laws_szHostS_5 : LOk E g_laws_szHostS n_laws_szHostS L_laws_szHostS (loopBody Tryz.f12 0) :=
  lok l_laws_szHostS_5 (by kernel_rfl) fuel fun R X K => (loop_iter (σ := Int × Int) (fun x => SD.enc d_laws_szHostS_5 ((X.1.1, (x.1, (X.1.2.2.1, (x.2, ())))), (), ())) (t_laws_szHostS_5 X K) (fun m x => by kernel_rfl) fuel (X.1.2.1, X.1.2.2.2.1)).symm
theorem ok_laws_szHostS : FnOk Tryz.prog 12 e_laws_szHostS := FnOk.of (fnOk (Γ := g_laws_szHostS) (an := n_laws_szHostS) (Λ := L_laws_szHostS) ((base).add ok_laws_szHost) Tryz.func12 (by kernel_rfl) (hF (by kernel_rfl) (cF lok_laws_szHostS_5 nF))) (fun a => by kernel_rfl)
noncomputable def e_laws_szVirtualFunctionS : GEnt := entOf [.data false (.sl TVirtualFunction), .data false (.int .i64)] [(false, (.int .i64))] fun a => Pu.laws_szVirtualFunctionS a.1 a.2.1
theorem ok_laws_szVirtualFunctionS : FnOk Tryz.prog 13 e_laws_szVirtualFunctionS := FnOk.of (fnOk (an := {}) (Λ := Lam.nil) (base) Tryz.func13 (by kernel_rfl) (hF (by kernel_rfl) nF)) (fun a => by kernel_rfl)
noncomputable def e_laws_szMailbox : GEnt := entOf [.data true TMailbox, .data false (.int .i64)] [(false, (.int .i64))] fun a => Pu.laws_szMailbox a.1 a.2.1
theorem ok_laws_szMailbox : FnOk Tryz.prog 46 e_laws_szMailbox := FnOk.of (fnOk (an := {}) (Λ := Lam.nil) ((base).add ok_laws_szFilter) Tryz.func46 (by kernel_rfl) (hF (by kernel_rfl) nF)) (fun a => by kernel_rfl)
noncomputable def e_laws_szMailboxS : GEnt := entOf [.data false (.sl TMailbox), .data false (.int .i64)] [(false, (.int .i64))] fun a => Pu.laws_szMailboxS a.1 a.2.1
noncomputable def g_laws_szMailboxS : Gam := (Gam.nil).add 46 e_laws_szMailbox
def n_laws_szMailboxS : An := { mask := fun | 5 => [0, 1, 4, 5] | _ => [] }
@[reducible] def d_laws_szMailboxS_5 : SD := ⟨[.data false (.sl .arg TMailbox),DI,B,B,DI,DI,B,B,B,B,B,B,B,B,B,B,B,B,B,B,B,B,B,B,B,B,B], [Z,Z,Z,Z,Z,Z,Z,Z,Z,Z,Z,Z,Z,Z,Z,Z,Z,Z,Z,Z,Z,Z,Z,Z,Z,Z,Z], none⟩
noncomputable def t_laws_szMailboxS_5 {R : Type} (X : SD.D d_laws_szMailboxS_5) (K : Ex → AS → Option R) := Pu.laws_szMailboxS_T5 (fun y0 y1 => K (.exit 0) (SD.enc d_laws_szMailboxS_5 ((X.1.1, (y0, (X.1.2.2.1, (y1, ())))), (), ()))) (fun y0 y1 y2 => K .ret (SD.enc d_laws_szMailboxS_5 ((X.1.1, (y0, (y1, (y2, ())))), (), ()))) X.1.1 X.1.2.2.1
noncomputable def l_laws_szMailboxS_5 : LEnt := ⟨d_laws_szMailboxS_5, fun X K => iterL (t_laws_szMailboxS_5 X K) fuel (X.1.2.1, X.1.2.2.2.1)⟩
noncomputable def L_laws_szMailboxS : Lam := (Lam.nil).add 5 l_laws_szMailboxS_5
theorem lok_laws_szMailboxS_5 : LOk E g_laws_szMailboxS n_laws_szMailboxS L_laws_szMailboxS (loopBody Tryz.f14 0) :=
  lok l_laws_szMailboxS_5 (by kernel_rfl) fuel fun R X K => (loop_iter (σ := Int × Int) (fun x => SD.enc d_laws_szMailboxS_5 ((X.1.1, (x.1, (X.1.2.2.1, (x.2, ())))), (), ())) (t_laws_szMailboxS_5 X K) (fun m x => by kernel_rfl) fuel (X.1.2.1, X.1.2.2.2.1)).symm
theorem ok_laws_szMailboxS : FnOk Tryz.prog 14 e_laws_szMailboxS := FnOk.of (fnOk (Γ := g_laws_szMailboxS) (an := n_laws_szMailboxS) (Λ := L_laws_szMailboxS) ((base).add ok_laws_szMailbox) Tryz.func14 (by kernel_rfl) (hF (by kernel_rfl) (cF lok_laws_szMailboxS_5 nF))) (fun a => by kernel_rfl)
noncomputable def e_laws_szFlash : GEnt := entOf [.data true (.sl .str), .data false (.int .i64)] [(false, (.int .i64))] fun a => Pu.laws_szFlash a.1 a.2.1
theorem ok_laws_szFlash : FnOk Tryz.prog 15 e_laws_szFlash := FnOk.of (fnOk (an := {}) (Λ := Lam.nil) ((base).add ok_laws_szStringS) Tryz.func15 (by kernel_rfl) (hF (by kernel_rfl) nF)) (fun a => by kernel_rfl)
noncomputable def e_laws_szCard : GEnt := entOf [.data true TCard, .data false (.int .i64)] [(false, (.int .i64))] fun a => Pu.laws_szCard a.1 a.2.1
theorem ok_laws_szCard : FnOk Tryz.prog 4 e_laws_szCard := FnOk.of (fnOk (an := {}) (Λ := Lam.nil) (((((((base).add ok_laws_szHostS).add ok_laws_szVirtualFunctionS).add ok_laws_szMailboxS).add ok_laws_szFlash).add ok_laws_szIntS).add ok_laws_szStringS) Tryz.func4 (by kernel_rfl) (hF (by kernel_rfl) nF)) (fun a => by kernel_rfl)
noncomputable def e_laws_szSoft : GEnt := entOf [.data true TSoft, .data false (.int .i64)] [(false, (.int .i64))] fun a => Pu.laws_szSoft a.1 a.2.1
theorem ok_laws_szSoft : FnOk Tryz.prog 47 e_laws_szSoft := FnOk.of (fnOk (an := {}) (Λ := Lam.nil) (((((base).add ok_laws_szStringS).add ok_laws_szFilter).add ok_laws_szSteering).add ok_laws_szStreamS) Tryz.func47 (by kernel_rfl) (hF (by kernel_rfl) nF)) (fun a => by kernel_rfl)
noncomputable def e_laws_szSoftS : GEnt := entOf [.data false (.sl TSoft), .data false (.int .i64)] [(false, (.int .i64))] fun a => Pu.laws_szSoftS a.1 a.2.1
noncomputable def g_laws_szSoftS : Gam := (Gam.nil).add 47 e_laws_szSoft
def n_laws_szSoftS : An := { mask := fun | 5 => [0, 1, 4, 5] | _ => [] }
@[reducible] def d_laws_szSoftS_5 : SD := ⟨[.data false (.sl .arg TSoft),DI,B,B,DI,DI,B,B,B,B,B,B,B,B,B,B,B,B,B,B,B,B,B,B,B,B,B], [Z,Z,Z,Z,Z,Z,Z,Z,Z,Z,Z,Z,Z,Z,Z,Z,Z,Z,Z,Z,Z,Z,Z,Z,Z,Z,Z], none⟩
noncomputable def t_laws_szSoftS_5 {R : Type} (X : SD.D d_laws_szSoftS_5) (K : Ex → AS → Option R) := Pu.laws_szSoftS_T5 (fun y0 y1 => K (.exit 0) (SD.enc d_laws_szSoftS_5 ((X.1.1, (y0, (X.1.2.2.1, (y1, ())))), (), ()))) (fun y0 y1 y2 => K .ret (SD.enc d_laws_szSoftS_5 ((X.1.1, (y0, (y1, (y2, ())))), (), ()))) X.1.1 X.1.2.2.1
noncomputable def l_laws_szSoftS_5 : LEnt := ⟨d_laws_szSoftS_5, fun X K => iterL (t_laws_szSoftS_5 X K) fuel (X.1.2.1, X.1.2.2.2.1)⟩
noncomputable def L_laws_szSoftS : Lam := (Lam.nil).add 5 l_laws_szSoftS_5
theorem lok_laws_szSoftS_5 : LOk E g_laws_szSoftS n_laws_szSoftS L_laws_szSoftS (loopBody Tryz.f18 0) :=
  lok l_laws_szSoftS_5 (by kernel_rfl) fuel fun R X K => (loop_iter (σ := Int × Int) (fun x => SD.enc d_laws_szSoftS_5 ((X.1.1, (x.1, (X.1.2.2.1, (x.2, ())))), (), ())) (t_laws_szSoftS_5 X K) (fun m x => by kernel_rfl) fuel (X.1.2.1, X.1.2.2.2.1)).symm
theorem ok_laws_szSoftS : FnOk Tryz.prog 18 e_laws_szSoftS := FnOk.of (fnOk (Γ := g_laws_szSoftS) (an := n_laws_szSoftS) (Λ := L_laws_szSoftS) ((base).add ok_laws_szSoft) Tryz.func18 (by kernel_rfl) (hF (by kernel_rfl) (cF lok_laws_szSoftS_5 nF))) (fun a => by kernel_rfl)
noncomputable def e_laws_szStringSS : GEnt := entOf [.data false (.sl (.sl .str)), .data false (.int .i64)] [(false, (.int .i64))] fun a => Pu.laws_szStringSS a.1 a.2.1
noncomputable def g_laws_szStringSS : Gam := (Gam.nil).add 17 e_laws_szStringS
def n_laws_szStringSS : An := { mask := fun | 5 => [0, 1, 4, 5] | _ => [] }
@[reducible] def d_laws_szStringSS_5 : SD := ⟨[.data false (.sl .arg (.sl .str)),DI,B,B,DI,DI,B,B,B,B,B,B,B,B,B,B,B,B,B,B,B,B,B,B,B,B,B], [Z,Z,Z,Z,Z,Z,Z,Z,Z,Z,Z,Z,Z,Z,Z,Z,Z,Z,Z,Z,Z,Z,Z,Z,Z,Z,Z], none⟩
noncomputable def t_laws_szStringSS_5 {R : Type} (X : SD.D d_laws_szStringSS_5) (K : Ex → AS → Option R) := Pu.laws_szStringSS_T5 (fun y0 y1 => K (.exit 0) (SD.enc d_laws_szStringSS_5 ((X.1.1, (y0, (X.1.2.2.1, (y1, ())))), (), ()))) (fun y0 y1 y2 => K .ret (SD.enc d_laws_szStringSS_5 ((X.1.1, (y0, (y1, (y2, ())))), (), ()))) X.1.1 X.1.2.2.1
noncomputable def l_laws_szStringSS_5 : LEnt := ⟨d_laws_szStringSS_5, fun X K => iterL (t_laws_szStringSS_5 X K) fuel (X.1.2.1, X.1.2.2.2.1)⟩
noncomputable def L_laws_szStringSS : Lam := (Lam.nil).add 5 l_laws_szStringSS_5
theorem lok_laws_szStringSS_5 : LOk E g_laws_szStringSS n_laws_szStringSS L_laws_szStringSS (loopBody Tryz.f19 0) :=
  lok l_laws_szStringSS_5 (by kernel_rfl) fuel fun R X K => (loop_iter (σ := Int × Int) (fun x => SD.enc d_laws_szStringSS_5 ((X.1.1, (x.1, (X.1.2.2.1, (x.2, ())))), (), ())) (t_laws_szStringSS_5 X K) (fun m x => by kernel_rfl) fuel (X.1.2.1, X.1.2.2.2.1)).symm
theorem ok_laws_szStringSS : FnOk Tryz.prog 19 e_laws_szStringSS := FnOk.of (fnOk (Γ := g_laws_szStringSS) (an := n_laws_szStringSS) (Λ := L_laws_szStringSS) ((base).add ok_laws_szStringS) Tryz.func19 (by kernel_rfl) (hF (by kernel_rfl) (cF lok_laws_szStringSS_5 nF))) (fun a => by kernel_rfl)
noncomputable def e_laws_szIdeal : GEnt := entOf [.data true TIdeal, .data false (.int .i64)] [(false, (.int .i64))] fun a => Pu.laws_szIdeal a.1 a.2.1
theorem ok_laws_szIdeal : FnOk Tryz.prog 5 e_laws_szIdeal := FnOk.of (fnOk (an := {}) (Λ := Lam.nil) ((((((base).add ok_laws_szVirtualFunctionS).add ok_laws_szMailboxS).add ok_laws_szStringS).add ok_laws_szSoftS).add ok_laws_szStringSS) Tryz.func5 (by kernel_rfl) (hF (by kernel_rfl) nF)) (fun a => by kernel_rfl)
noncomputable def e_spec_l01In : GEnt := entOf [.data false (.int .i64), .data false (.int .i64), .data false (.int .i64)] [(false, .bool)] fun a => Pu.spec_l01In a.1 a.2.1 a.2.2.1
theorem ok_spec_l01In : FnOk Tryz.prog 84 e_spec_l01In := FnOk.of (fnOk (an := { merge := fun | 1 => some 6 | _ => none }) (Λ := Lam.nil) (base) Tryz.func84 (by kernel_rfl) (hF (by kernel_rfl) nF)) (fun a => by kernel_rfl)
noncomputable def e_spec_FilterOk : GEnt := entOf [.data true TFilter] [(false, .bool)] fun a => Pu.spec_FilterOk a.1
noncomputable def g_spec_FilterOk : Gam := (Gam.nil).add 84 e_spec_l01In
def n_spec_FilterOk : An := { mask := fun | 2 => [1, 2, 3] | _ => [], merge := fun | 4 => some 35 | 6 => some 2 | _ => none }
@[reducible] def d_spec_FilterOk_2 : SD := ⟨[B,.ptr 1 0,DB,DI,B,B,B,B,B,B,B,B,B,B,B,B,B,B,B,B,B,B,B,B,B,B,B,B,B,B,B,B,B,B,B,B,B,B,B,B,B,B,B,B,B], [Z,some (.pair (.int .i64) (.pair .bool (.sl .arg (.int .i64)))),Z,Z,Z,Z,Z,Z,Z,Z,Z,Z,Z,Z,Z,Z,Z,Z,Z,Z,Z,Z,Z,Z,Z,Z,Z,Z,Z,Z,Z,Z,Z,Z,Z,Z,Z,Z,Z,Z,Z,Z,Z,Z,Z], none⟩
noncomputable def t_spec_FilterOk_2 {R : Type} (X : SD.D d_spec_FilterOk_2) (K : Ex → AS → Option R) := Pu.spec_FilterOk_T2 (fun y0 => K (.exit 0) (SD.enc d_spec_FilterOk_2 ((X.1.1, (y0, ())), (X.2.1.1, ()), ()))) (fun y0 y1 => K .ret (SD.enc d_spec_FilterOk_2 ((y0, (y1, ())), (X.2.1.1, ()), ()))) X.1.1 X.2.1.1
noncomputable def l_spec_FilterOk_2 : LEnt := ⟨d_spec_FilterOk_2, fun X K => iterL (t_spec_FilterOk_2 X K) fuel X.1.2.1⟩
noncomputable def L_spec_FilterOk : Lam := (Lam.nil).add 2 l_spec_FilterOk_2
theorem lok_spec_FilterOk_2 : LOk E g_spec_FilterOk n_spec_FilterOk L_spec_FilterOk (loopBody Tryz.f94 0) :=
  lok l_spec_FilterOk_2 (by kernel_rfl) fuel fun R X K => (loop_iter (σ := Int) (fun x => SD.enc d_spec_FilterOk_2 ((X.1.1, (x, ())), (X.2.1.1, ()), ())) (t_spec_FilterOk_2 X K) (fun m x => by kernel_rfl) fuel X.1.2.1).symm
theorem ok_spec_FilterOk : FnOk Tryz.prog 94 e_spec_FilterOk := FnOk.of (fnOk (Γ := g_spec_FilterOk) (an := n_spec_FilterOk) (Λ := L_spec_FilterOk) ((base).add ok_spec_l01In) Tryz.func94 (by kernel_rfl) (hF (by kernel_rfl) (cF lok_spec_FilterOk_2 nF))) (fun a => by kernel_rfl)
noncomputable def e_spec_MailboxOk : GEnt := entOf [.data true TMailbox] [(false, .bool)] fun a => Pu.spec_MailboxOk a.1
theorem ok_spec_MailboxOk : FnOk Tryz.prog 85 e_spec_MailboxOk := FnOk.of (fnOk (an := { merge := fun | 1 => some 2 | _ => none }) (Λ := Lam.nil) (((base).add ok_spec_l01In).add ok_spec_FilterOk) Tryz.func85 (by kernel_rfl) (hF (by kernel_rfl) nF)) (fun a => by kernel_rfl)
noncomputable def e_spec_l24Has : GEnt := entOf [.data false (.sl (.int .i64)), .data false (.int .i64)] [(false, .bool)] fun a => Pu.spec_l24Has a.1 a.2.1
noncomputable def g_spec_l24Has : Gam := Gam.nil
def n_spec_l24Has : An := { mask := fun | 2 => [0, 1, 4, 5] | _ => [] }
@[reducible] def d_spec_l24Has_2 : SD := ⟨[.data false (.sl .arg (.int .i64)),DI,B,B,DB,DI,B,B,B,B,B,B,B,B,B,B,B,B], [Z,Z,Z,Z,Z,Z,Z,Z,Z,Z,Z,Z,Z,Z,Z,Z,Z,Z], none⟩
noncomputable def t_spec_l24Has_2 {R : Type} (X : SD.D d_spec_l24Has_2) (K : Ex → AS → Option R) := Pu.spec_l24Has_T2 (fun y0 => K (.exit 0) (SD.enc d_spec_l24Has_2 ((X.1.1, (X.1.2.1, (X.1.2.2.1, (y0, ())))), (), ()))) (fun y0 y1 => K .ret (SD.enc d_spec_l24Has_2 ((X.1.1, (X.1.2.1, (y0, (y1, ())))), (), ()))) X.1.1 X.1.2.1 X.1.2.2.1
noncomputable def l_spec_l24Has_2 : LEnt := ⟨d_spec_l24Has_2, fun X K => iterL (t_spec_l24Has_2 X K) fuel X.1.2.2.2.1⟩
noncomputable def L_spec_l24Has : Lam := (Lam.nil).add 2 l_spec_l24Has_2
theorem lok_spec_l24Has_2 : LOk E g_spec_l24Has n_spec_l24Has L_spec_l24Has (loopBody Tryz.f150 0) :=
  lok l_spec_l24Has_2 (by kernel_rfl) fuel fun R X K => (loop_iter (σ := Int) (fun x => SD.enc d_spec_l24Has_2 ((X.1.1, (X.1.2.1, (X.1.2.2.1, (x, ())))), (), ())) (t_spec_l24Has_2 X K) (fun m x => by kernel_rfl) fuel X.1.2.2.2.1).symm
theorem ok_spec_l24Has : FnOk Tryz.prog 150 e_spec_l24Has := FnOk.of (fnOk (Γ := g_spec_l24Has) (an := n_spec_l24Has) (Λ := L_spec_l24Has) (base) Tryz.func150 (by kernel_rfl) (hF (by kernel_rfl) (cF lok_spec_l24Has_2 nF))) (fun a => by kernel_rfl)
noncomputable def e_spec_l42Union : GEnt := entOf [.data false (.sl (.int .i64)), .data false (.sl (.int .i64))] [(false, (.sl (.own none) (.int .i64)))] fun a => Pu.spec_l42Union a.1 a.2.1
noncomputable def g_spec_l42Union : Gam := (Gam.nil).add 150 e_spec_l24Has
def n_spec_l42Union : An := { mask := fun | 3 => [1, 5, 6] | 7 => [1, 5, 6, 7] | _ => [], merge := fun | 7 => some 37 | _ => none, mv := [55] }
@[reducible] def d_spec_l42Union_7 : SD := ⟨[B,.data false (.sl .arg (.int .i64)),B,B,B,.data false (.sl (.own (some 61440)) (.int .i64)),DI,DI,B,B,B,B,B,B,B,B,B,B,B,B,B,B,B,B,B,B,B,B,B,B,B,B,B,B,B,B,B,B,B,B,B,B,B,B,B,B,B,B,B,B,B,B,B,B,B,B], [Z,Z,Z,Z,Z,Z,Z,Z,Z,Z,Z,Z,Z,Z,Z,Z,Z,Z,Z,Z,Z,Z,Z,Z,Z,Z,Z,Z,Z,Z,Z,Z,Z,Z,Z,Z,Z,Z,Z,Z,Z,Z,Z,Z,Z,Z,Z,Z,Z,Z,Z,Z,Z,Z,Z,Z], none⟩
noncomputable def t_spec_l42Union_7 {R : Type} (X : SD.D d_spec_l42Union_7) (K : Ex → AS → Option R) := Pu.spec_l42Union_T7 (fun y0 => K (.exit 2) (SD.enc d_spec_l42Union_7 ((X.1.1, (X.1.2.1, (X.1.2.2.1, (y0, ())))), (), ()))) X.1.1 X.1.2.1 X.1.2.2.1
noncomputable def l_spec_l42Union_7 : LEnt := ⟨d_spec_l42Union_7, fun X K => iterL (t_spec_l42Union_7 X K) fuel X.1.2.2.2.1⟩
@[reducible] def d_spec_l42Union_3 : SD := ⟨[B,.data false (.sl .arg (.int .i64)),B,B,B,.data false (.sl (.own (some 61440)) (.int .i64)),DI,B,B,B,B,B,B,B,B,B,B,B,B,B,B,B,B,B,B,B,B,B,B,B,B,B,B,B,B,B,B,B,B,B,B,B,B,B,B,B,B,B,B,B,B,B,B,B,B,B], [Z,Z,Z,Z,Z,Z,Z,Z,Z,Z,Z,Z,Z,Z,Z,Z,Z,Z,Z,Z,Z,Z,Z,Z,Z,Z,Z,Z,Z,Z,Z,Z,Z,Z,Z,Z,Z,Z,Z,Z,Z,Z,Z,Z,Z,Z,Z,Z,Z,Z,Z,Z,Z,Z,Z,Z], none⟩
noncomputable def t_spec_l42Union_3 {R : Type} (X : SD.D d_spec_l42Union_3) (K : Ex → AS → Option R) := Pu.spec_l42Union_T3 (fun y0 y1 => K (.exit 0) (SD.enc d_spec_l42Union_3 ((X.1.1, (y0, (y1, ()))), (), ()))) X.1.1
noncomputable def l_spec_l42Union_3 : LEnt := ⟨d_spec_l42Union_3, fun X K => iterL (t_spec_l42Union_3 X K) fuel (X.1.2.1, X.1.2.2.1)⟩
noncomputable def L_spec_l42Union : Lam := ((Lam.nil).add 7 l_spec_l42Union_7).add 3 l_spec_l42Union_3
theorem lok_spec_l42Union_7 : LOk E g_spec_l42Union n_spec_l42Union L_spec_l42Union (loopBody Tryz.f86 1) :=
  lok l_spec_l42Union_7 (by kernel_rfl) fuel fun R X K => (loop_iter (σ := Int) (fun x => SD.enc d_spec_l42Union_7 ((X.1.1, (X.1.2.1, (X.1.2.2.1, (x, ())))), (), ())) (t_spec_l42Union_7 X K) (fun m x => by kernel_rfl) fuel X.1.2.2.2.1).symm
theorem lok_spec_l42Union_3 : LOk E g_spec_l42Union n_spec_l42Union L_spec_l42Union (loopBody Tryz.f86 0) :=
  lok l_spec_l42Union_3 (by kernel_rfl) fuel fun R X K => (loop_iter (σ := (List Int) × Int) (fun x => SD.enc d_spec_l42Union_3 ((X.1.1, (x.1, (x.2, ()))), (), ())) (t_spec_l42Union_3 X K) (fun m x => by kernel_rfl) fuel (X.1.2.1, X.1.2.2.1)).symm
theorem ok_spec_l42Union : FnOk Tryz.prog 86 e_spec_l42Union := FnOk.of (fnOk (Γ := g_spec_l42Union) (an := n_spec_l42Union) (Λ := L_spec_l42Union) ((base).add ok_spec_l24Has) Tryz.func86 (by kernel_rfl) (hF (by kernel_rfl) (cF lok_spec_l42Union_3 (cF lok_spec_l42Union_7 nF)))) (fun a => by kernel_rfl)
noncomputable def e_spec_PortsOk : GEnt := entOf [.data false (.sl TPort)] [(false, .bool)] fun a => Pu.spec_PortsOk a.1
noncomputable def g_spec_PortsOk : Gam := (((Gam.nil).add 84 e_spec_l01In).add 94 e_spec_FilterOk).add 150 e_spec_l24Has
def n_spec_PortsOk : An := { mask := fun | 4 => [0, 2, 3] | 9 => [0, 2, 3, 4] | _ => [] }
@[reducible] def d_spec_PortsOk_9 : SD := ⟨[.data false (.sl .arg TPort),B,DB,DI,DI,B,B,B,B,B,B,B,B,B,B,B,B,B,B,B,B,B,B,B,B,B,B,B,B,B,B,B,B,B,B,B,B,B,B,B,B,B,B,B,B,B,B,B,B,B,B,B,B,B,B,B,B,B], [Z,Z,Z,Z,Z,Z,Z,Z,Z,Z,Z,Z,Z,Z,Z,Z,Z,Z,Z,Z,Z,Z,Z,Z,Z,Z,Z,Z,Z,Z,Z,Z,Z,Z,Z,Z,Z,Z,Z,Z,Z,Z,Z,Z,Z,Z,Z,Z,Z,Z,Z,Z,Z,Z,Z,Z,Z,Z], none⟩
noncomputable def t_spec_PortsOk_9 {R : Type} (X : SD.D d_spec_PortsOk_9) (K : Ex → AS → Option R) := Pu.spec_PortsOk_T9 (fun y0 => K (.exit 2) (SD.enc d_spec_PortsOk_9 ((X.1.1, (X.1.2.1, (X.1.2.2.1, (y0, ())))), (), ()))) (fun y0 y1 => K .ret (SD.enc d_spec_PortsOk_9 ((X.1.1, (y0, (X.1.2.2.1, (y1, ())))), (), ()))) X.1.1 X.1.2.1 X.1.2.2.1
noncomputable def l_spec_PortsOk_9 : LEnt := ⟨d_spec_PortsOk_9, fun X K => iterL (t_spec_PortsOk_9 X K) fuel X.1.2.2.2.1⟩
@[reducible] def d_spec_PortsOk_4 : SD := ⟨[.data false (.sl .arg TPort),B,DB,DI,B,B,B,B,B,B,B,B,B,B,B,B,B,B,B,B,B,B,B,B,B,B,B,B,B,B,B,B,B,B,B,B,B,B,B,B,B,B,B,B,B,B,B,B,B,B,B,B,B,B,B,B,B,B], [Z,Z,Z,Z,Z,Z,Z,Z,Z,Z,Z,Z,Z,Z,Z,Z,Z,Z,Z,Z,Z,Z,Z,Z,Z,Z,Z,Z,Z,Z,Z,Z,Z,Z,Z,Z,Z,Z,Z,Z,Z,Z,Z,Z,Z,Z,Z,Z,Z,Z,Z,Z,Z,Z,Z,Z,Z,Z], none⟩
noncomputable def t_spec_PortsOk_4 {R : Type} (X : SD.D d_spec_PortsOk_4) (K : Ex → AS → Option R) := Pu.spec_PortsOk_T4 (fun y0 => K (.exit 0) (SD.enc d_spec_PortsOk_4 ((X.1.1, (X.1.2.1, (y0, ()))), (), ()))) (fun y0 y1 => K .ret (SD.enc d_spec_PortsOk_4 ((X.1.1, (y0, (y1, ()))), (), ()))) X.1.1 X.1.2.1
noncomputable def l_spec_PortsOk_4 : LEnt := ⟨d_spec_PortsOk_4, fun X K => iterL (t_spec_PortsOk_4 X K) fuel X.1.2.2.1⟩
noncomputable def L_spec_PortsOk : Lam := ((Lam.nil).add 9 l_spec_PortsOk_9).add 4 l_spec_PortsOk_4
theorem lok_spec_PortsOk_9 : LOk E g_spec_PortsOk n_spec_PortsOk L_spec_PortsOk (loopBody Tryz.f87 1) :=
  lok l_spec_PortsOk_9 (by kernel_rfl) fuel fun R X K => (loop_iter (σ := Int) (fun x => SD.enc d_spec_PortsOk_9 ((X.1.1, (X.1.2.1, (X.1.2.2.1, (x, ())))), (), ())) (t_spec_PortsOk_9 X K) (fun m x => by kernel_rfl) fuel X.1.2.2.2.1).symm
theorem lok_spec_PortsOk_4 : LOk E g_spec_PortsOk n_spec_PortsOk L_spec_PortsOk (loopBody Tryz.f87 0) :=
  lok l_spec_PortsOk_4 (by kernel_rfl) fuel fun R X K => (loop_iter (σ := Int) (fun x => SD.enc d_spec_PortsOk_4 ((X.1.1, (X.1.2.1, (x, ()))), (), ())) (t_spec_PortsOk_4 X K) (fun m x => by kernel_rfl) fuel X.1.2.2.1).symm
theorem ok_spec_PortsOk : FnOk Tryz.prog 87 e_spec_PortsOk := FnOk.of (fnOk (Γ := g_spec_PortsOk) (an := n_spec_PortsOk) (Λ := L_spec_PortsOk) ((((base).add ok_spec_l01In).add ok_spec_FilterOk).add ok_spec_l24Has) Tryz.func87 (by kernel_rfl) (hF (by kernel_rfl) (cF lok_spec_PortsOk_4 (cF lok_spec_PortsOk_9 nF)))) (fun a => by kernel_rfl)
noncomputable def e_spec_PortsOf : GEnt := entOf [.data false (.sl TMailbox)] [(false, (.sl (.own none) TPort)), (false, .bool)] fun a => Pu.spec_PortsOf a.1
noncomputable def g_spec_PortsOf : Gam := ((((Gam.nil).add 84 e_spec_l01In).add 85 e_spec_MailboxOk).add 86 e_spec_l42Union).add 87 e_spec_PortsOk
def n_spec_PortsOf : An := { mask := fun | 5 => [0, 2, 3, 4, 5] | _ => [], mv := [41, 63] }
@[reducible] def d_spec_PortsOf_5 : SD := ⟨[.data false (.sl .arg TMailbox),B,.data false (.sl (.own (some 24576)) TPort),DB,.data false (.sl (.own (some 49152)) TPort),DI,B,B,B,B,B,B,B,B,B,B,B,B,B,B,B,B,B,B,B,B,B,B,B,B,B,B,B,B,B,B,B,B,B,B,B,B,B,B,B,B,B,B,B,B,B,B,B,B,B,B,B,B,B,B,B,B,B,B], [Z,Z,Z,Z,Z,Z,Z,Z,Z,Z,Z,Z,Z,Z,Z,Z,Z,Z,Z,Z,Z,Z,Z,Z,Z,Z,Z,Z,Z,Z,Z,Z,Z,Z,Z,Z,Z,Z,Z,Z,Z,Z,Z,Z,Z,Z,Z,Z,Z,Z,Z,Z,Z,Z,Z,Z,Z,Z,Z,Z,Z,Z,Z,Z], none⟩
noncomputable def t_spec_PortsOf_5 {R : Type} (X : SD.D d_spec_PortsOf_5) (K : Ex → AS → Option R) := Pu.spec_PortsOf_T5 (fun y0 y1 => K (.exit 0) (SD.enc d_spec_PortsOf_5 ((X.1.1, (X.1.2.1, (X.1.2.2.1, (y0, (y1, ()))))), (), ()))) (fun y0 y1 y2 y3 => K .ret (SD.enc d_spec_PortsOf_5 ((X.1.1, (y0, (y1, (y2, (y3, ()))))), (), ()))) X.1.1 X.1.2.1 X.1.2.2.1
noncomputable def l_spec_PortsOf_5 : LEnt := ⟨d_spec_PortsOf_5, fun X K => iterL (t_spec_PortsOf_5 X K) fuel (X.1.2.2.2.1, X.1.2.2.2.2.1)⟩
noncomputable def L_spec_PortsOf : Lam := (Lam.nil).add 5 l_spec_PortsOf_5
theorem lok_spec_PortsOf_5 : LOk E g_spec_PortsOf n_spec_PortsOf L_spec_PortsOf (loopBody Tryz.f48 0) :=
  lok l_spec_PortsOf_5 (by kernel_rfl) fuel fun R X K => (loop_iter (σ := (List Pu.Port) × Int) (fun x => SD.enc d_spec_PortsOf_5 ((X.1.1, (X.1.2.1, (X.1.2.2.1, (x.1, (x.2, ()))))), (), ())) (t_spec_PortsOf_5 X K) (fun m x => by kernel_rfl) fuel (X.1.2.2.2.1, X.1.2.2.2.2.1)).symm
theorem ok_spec_PortsOf : FnOk Tryz.prog 48 e_spec_PortsOf := FnOk.of (fnOk (Γ := g_spec_PortsOf) (an := n_spec_PortsOf) (Λ := L_spec_PortsOf) (((((base).add ok_spec_l01In).add ok_spec_MailboxOk).add ok_spec_l42Union).add ok_spec_PortsOk) Tryz.func48 (by kernel_rfl) (hF (by kernel_rfl) (cF lok_spec_PortsOf_5 nF))) (fun a => by kernel_rfl)
noncomputable def e_spec_BucketOk : GEnt := entOf [.data true TBucket] [(false, .bool)] fun a => Pu.spec_BucketOk a.1
theorem ok_spec_BucketOk : FnOk Tryz.prog 88 e_spec_BucketOk := FnOk.of (fnOk (an := { merge := fun | 1 => some 2 | _ => none }) (Λ := Lam.nil) ((base).add ok_spec_l01In) Tryz.func88 (by kernel_rfl) (hF (by kernel_rfl) nF)) (fun a => by kernel_rfl)
noncomputable def e_spec_FunctionsOk : GEnt := entOf [.data false (.sl TVirtualFunction), .data false (.sl TPort)] [(false, .bool)] fun a => Pu.spec_FunctionsOk a.1 a.2.1
noncomputable def g_spec_FunctionsOk : Gam := (((Gam.nil).add 84 e_spec_l01In).add 87 e_spec_PortsOk).add 88 e_spec_BucketOk
def n_spec_FunctionsOk : An := { mask := fun | 4 => [0, 1, 4, 5] | 10 => [0, 1, 4, 5, 6, 7] | _ => [], merge := fun | 7 => some 51 | 12 => some 74 | _ => none }
@[reducible] def d_spec_FunctionsOk_10 : SD := ⟨[.data false (.sl .arg TVirtualFunction),.data false (.sl .arg TPort),B,B,DB,DI,.ptr 6 0,DI,B,B,B,B,B,B,B,B,B,B,B,B,B,B,B,B,B,B,B,B,B,B,B,B,B,B,B,B,B,B,B,B,B,B,B,B,B,B,B,B,B,B,B,B,B,B,B,B,B,B,B,B,B,B,B,B,B,B,B,B,B,B,B,B,B,B,B], [Z,Z,Z,Z,Z,Z,some (.pair (.int .i64) (.pair (.int .i64) (.pair (.pair (.int .i64) (.pair (.int .i64) (.int .i64))) (.pair .bool (.pair (.int .i64) (.int .i64)))))),Z,Z,Z,Z,Z,Z,Z,Z,Z,Z,Z,Z,Z,Z,Z,Z,Z,Z,Z,Z,Z,Z,Z,Z,Z,Z,Z,Z,Z,Z,Z,Z,Z,Z,Z,Z,Z,Z,Z,Z,Z,Z,Z,Z,Z,Z,Z,Z,Z,Z,Z,Z,Z,Z,Z,Z,Z,Z,Z,Z,Z,Z,Z,Z,Z,Z,Z,Z], none⟩
noncomputable def t_spec_FunctionsOk_10 {R : Type} (X : SD.D d_spec_FunctionsOk_10) (K : Ex → AS → Option R) := Pu.spec_FunctionsOk_T10 (fun y0 => K (.exit 2) (SD.enc d_spec_FunctionsOk_10 ((X.1.1, (X.1.2.1, (X.1.2.2.1, (X.1.2.2.2.1, (y0, ()))))), (X.2.1.1, ()), ()))) (fun y0 y1 => K .ret (SD.enc d_spec_FunctionsOk_10 ((X.1.1, (X.1.2.1, (y0, (X.1.2.2.2.1, (y1, ()))))), (X.2.1.1, ()), ()))) X.1.1 X.1.2.1 X.1.2.2.1 X.1.2.2.2.1 X.2.1.1
noncomputable def l_spec_FunctionsOk_10 : LEnt := ⟨d_spec_FunctionsOk_10, fun X K => iterL (t_spec_FunctionsOk_10 X K) fuel X.1.2.2.2.2.1⟩
@[reducible] def d_spec_FunctionsOk_4 : SD := ⟨[.data false (.sl .arg TVirtualFunction),.data false (.sl .arg TPort),B,B,DB,DI,B,B,B,B,B,B,B,B,B,B,B,B,B,B,B,B,B,B,B,B,B,B,B,B,B,B,B,B,B,B,B,B,B,B,B,B,B,B,B,B,B,B,B,B,B,B,B,B,B,B,B,B,B,B,B,B,B,B,B,B,B,B,B,B,B,B,B,B,B], [Z,Z,Z,Z,Z,Z,Z,Z,Z,Z,Z,Z,Z,Z,Z,Z,Z,Z,Z,Z,Z,Z,Z,Z,Z,Z,Z,Z,Z,Z,Z,Z,Z,Z,Z,Z,Z,Z,Z,Z,Z,Z,Z,Z,Z,Z,Z,Z,Z,Z,Z,Z,Z,Z,Z,Z,Z,Z,Z,Z,Z,Z,Z,Z,Z,Z,Z,Z,Z,Z,Z,Z,Z,Z,Z], none⟩
noncomputable def t_spec_FunctionsOk_4 {R : Type} (X : SD.D d_spec_FunctionsOk_4) (K : Ex → AS → Option R) := Pu.spec_FunctionsOk_T4 (fun y0 => K (.exit 0) (SD.enc d_spec_FunctionsOk_4 ((X.1.1, (X.1.2.1, (X.1.2.2.1, (y0, ())))), (), ()))) (fun y0 y1 => K .ret (SD.enc d_spec_FunctionsOk_4 ((X.1.1, (X.1.2.1, (y0, (y1, ())))), (), ()))) X.1.1 X.1.2.1 X.1.2.2.1
noncomputable def l_spec_FunctionsOk_4 : LEnt := ⟨d_spec_FunctionsOk_4, fun X K => iterL (t_spec_FunctionsOk_4 X K) fuel X.1.2.2.2.1⟩
noncomputable def L_spec_FunctionsOk : Lam := ((Lam.nil).add 10 l_spec_FunctionsOk_10).add 4 l_spec_FunctionsOk_4
theorem lok_spec_FunctionsOk_10 : LOk E g_spec_FunctionsOk n_spec_FunctionsOk L_spec_FunctionsOk (loopBody Tryz.f49 1) :=
  lok l_spec_FunctionsOk_10 (by kernel_rfl) fuel fun R X K => (loop_iter (σ := Int) (fun x => SD.enc d_spec_FunctionsOk_10 ((X.1.1, (X.1.2.1, (X.1.2.2.1, (X.1.2.2.2.1, (x, ()))))), (X.2.1.1, ()), ())) (t_spec_FunctionsOk_10 X K) (fun m x => by kernel_rfl) fuel X.1.2.2.2.2.1).symm
theorem lok_spec_FunctionsOk_4 : LOk E g_spec_FunctionsOk n_spec_FunctionsOk L_spec_FunctionsOk (loopBody Tryz.f49 0) :=
  lok l_spec_FunctionsOk_4 (by kernel_rfl) fuel fun R X K => (loop_iter (σ := Int) (fun x => SD.enc d_spec_FunctionsOk_4 ((X.1.1, (X.1.2.1, (X.1.2.2.1, (x, ())))), (), ())) (t_spec_FunctionsOk_4 X K) (fun m x => by kernel_rfl) fuel X.1.2.2.2.1).symm
theorem ok_spec_FunctionsOk : FnOk Tryz.prog 49 e_spec_FunctionsOk := FnOk.of (fnOk (Γ := g_spec_FunctionsOk) (an := n_spec_FunctionsOk) (Λ := L_spec_FunctionsOk) ((((base).add ok_spec_l01In).add ok_spec_PortsOk).add ok_spec_BucketOk) Tryz.func49 (by kernel_rfl) (hF (by kernel_rfl) (cF lok_spec_FunctionsOk_4 (cF lok_spec_FunctionsOk_10 nF)))) (fun a => by kernel_rfl)
noncomputable def e_spec_FlashOk : GEnt := entOf [.data true (.sl .str)] [(false, .bool)] fun a => Pu.spec_FlashOk a.1
theorem ok_spec_FlashOk : FnOk Tryz.prog 89 e_spec_FlashOk := FnOk.of (fnOk (an := { merge := fun | 1 => some 2 | _ => none }) (Λ := Lam.nil) (base) Tryz.func89 (by kernel_rfl) (hF (by kernel_rfl) nF)) (fun a => by kernel_rfl)
noncomputable def e_spec_l02Within : GEnt := entOf [.data false .str, .data false (.int .i64), .data false (.int .i64)] [(false, .bool)] fun a => Pu.spec_l02Within a.1 a.2.1 a.2.2.1
theorem ok_spec_l02Within : FnOk Tryz.prog 197 e_spec_l02Within := FnOk.of (fnOk (an := { merge := fun | 1 => some 6 | _ => none }) (Λ := Lam.nil) (base) Tryz.func197 (by kernel_rfl) (hF (by kernel_rfl) nF)) (fun a => by kernel_rfl)
noncomputable def e_spec_Get16 : GEnt := entOf [.data false .str, .data false (.int .i64)] [(false, (.int .i64))] fun a => Pu.spec_Get16 a.1 a.2.1
theorem ok_spec_Get16 : FnOk Tryz.prog 198 e_spec_Get16 := FnOk.of (fnOk (an := {}) (Λ := Lam.nil) ((base).add ok_spec_l02Within) Tryz.func198 (by kernel_rfl) (hF (by kernel_rfl) nF)) (fun a => by kernel_rfl)
noncomputable def e_spec_Get32 : GEnt := entOf [.data false .str, .data false (.int .i64)] [(false, (.int .i64))] fun a => Pu.spec_Get32 a.1 a.2.1
theorem ok_spec_Get32 : FnOk Tryz.prog 151 e_spec_Get32 := FnOk.of (fnOk (an := {}) (Λ := Lam.nil) (((base).add ok_spec_l02Within).add ok_spec_Get16) Tryz.func151 (by kernel_rfl) (hF (by kernel_rfl) nF)) (fun a => by kernel_rfl)
noncomputable def e_spec_Word32 : GEnt := entOf [.data false (.int .i64)] [(false, .str)] fun a => Pu.spec_Word32 a.1
theorem ok_spec_Word32 : FnOk Tryz.prog 199 e_spec_Word32 := FnOk.of (fnOk (an := {}) (Λ := Lam.nil) ((base).add ok_spec_l01In) Tryz.func199 (by kernel_rfl) (hF (by kernel_rfl) nF)) (fun a => by kernel_rfl)
noncomputable def e_spec_Crc32 : GEnt := entOf [.data false .str] [(false, (.int .i64))] fun a => Pu.spec_Crc32 a.1
noncomputable def g_spec_Crc32 : Gam := Gam.nil
def n_spec_Crc32 : An := { mask := fun | 3 => [0, 3, 4] | 7 => [0, 3, 4, 5] | _ => [] }
@[reducible] def d_spec_Crc32_7 : SD := ⟨[.data false .str,B,B,DI,DI,DI,B,B,B,B,B,B,B,B,B,B,B,B,B,B,B,B,B,B,B,B,B,B,B,B,B,B], [Z,Z,Z,Z,Z,Z,Z,Z,Z,Z,Z,Z,Z,Z,Z,Z,Z,Z,Z,Z,Z,Z,Z,Z,Z,Z,Z,Z,Z,Z,Z,Z], none⟩
noncomputable def t_spec_Crc32_7 {R : Type} (X : SD.D d_spec_Crc32_7) (K : Ex → AS → Option R) := Pu.spec_Crc32_T7 (fun y0 y1 => K (.exit 2) (SD.enc d_spec_Crc32_7 ((X.1.1, (y0, (X.1.2.2.1, (y1, ())))), (), ()))) X.1.1 X.1.2.2.1
noncomputable def l_spec_Crc32_7 : LEnt := ⟨d_spec_Crc32_7, fun X K => iterL (t_spec_Crc32_7 X K) fuel (X.1.2.1, X.1.2.2.2.1)⟩
@[reducible] def d_spec_Crc32_3 : SD := ⟨[.data false .str,B,B,DI,DI,B,B,B,B,B,B,B,B,B,B,B,B,B,B,B,B,B,B,B,B,B,B,B,B,B,B,B], [Z,Z,Z,Z,Z,Z,Z,Z,Z,Z,Z,Z,Z,Z,Z,Z,Z,Z,Z,Z,Z,Z,Z,Z,Z,Z,Z,Z,Z,Z,Z,Z], none⟩
noncomputable def t_spec_Crc32_3 {R : Type} (X : SD.D d_spec_Crc32_3) (K : Ex → AS → Option R) := Pu.spec_Crc32_T3 (fun y0 y1 => K (.exit 0) (SD.enc d_spec_Crc32_3 ((X.1.1, (y0, (y1, ()))), (), ()))) X.1.1
noncomputable def l_spec_Crc32_3 : LEnt := ⟨d_spec_Crc32_3, fun X K => iterL (t_spec_Crc32_3 X K) fuel (X.1.2.1, X.1.2.2.1)⟩
noncomputable def L_spec_Crc32 : Lam := ((Lam.nil).add 7 l_spec_Crc32_7).add 3 l_spec_Crc32_3
theorem lok_spec_Crc32_7 : LOk E g_spec_Crc32 n_spec_Crc32 L_spec_Crc32 (loopBody Tryz.f200 1) :=
  lok l_spec_Crc32_7 (by kernel_rfl) fuel fun R X K => (loop_iter (σ := Int × Int) (fun x => SD.enc d_spec_Crc32_7 ((X.1.1, (x.1, (X.1.2.2.1, (x.2, ())))), (), ())) (t_spec_Crc32_7 X K) (fun m x => by kernel_rfl) fuel (X.1.2.1, X.1.2.2.2.1)).symm
theorem lok_spec_Crc32_3 : LOk E g_spec_Crc32 n_spec_Crc32 L_spec_Crc32 (loopBody Tryz.f200 0) :=
  lok l_spec_Crc32_3 (by kernel_rfl) fuel fun R X K => (loop_iter (σ := Int × Int) (fun x => SD.enc d_spec_Crc32_3 ((X.1.1, (x.1, (x.2, ()))), (), ())) (t_spec_Crc32_3 X K) (fun m x => by kernel_rfl) fuel (X.1.2.1, X.1.2.2.1)).symm
theorem ok_spec_Crc32 : FnOk Tryz.prog 200 e_spec_Crc32 := FnOk.of (fnOk (Γ := g_spec_Crc32) (an := n_spec_Crc32) (Λ := L_spec_Crc32) (base) Tryz.func200 (by kernel_rfl) (hF (by kernel_rfl) (cF lok_spec_Crc32_3 (cF lok_spec_Crc32_7 nF)))) (fun a => by kernel_rfl)
noncomputable def e_spec_MakeImage : GEnt := entOf [.data false (.int .i64), .data false .str] [(false, .str), (false, .bool)] fun a => Pu.spec_MakeImage a.1 a.2.1
theorem ok_spec_MakeImage : FnOk Tryz.prog 152 e_spec_MakeImage := FnOk.of (fnOk (an := { merge := fun | 1 => some 15 | _ => none }) (Λ := Lam.nil) ((((base).add ok_spec_l01In).add ok_spec_Word32).add ok_spec_Crc32) Tryz.func152 (by kernel_rfl) (hF (by kernel_rfl) nF)) (fun a => by kernel_rfl)
noncomputable def e_spec_ImageVersion : GEnt := entOf [.data false .str] [(false, (.int .i64))] fun a => Pu.spec_ImageVersion a.1
theorem ok_spec_ImageVersion : FnOk Tryz.prog 90 e_spec_ImageVersion := FnOk.of (fnOk (an := { merge := fun | 2 => some 17 | 5 => some 37 | _ => none }) (Λ := Lam.nil) ((((base).add ok_spec_l01In).add ok_spec_Get32).add ok_spec_MakeImage) Tryz.func90 (by kernel_rfl) (hF (by kernel_rfl) nF)) (fun a => by kernel_rfl)
noncomputable def e_spec_BootBank : GEnt := entOf [.data true (.sl .str)] [(false, (.int .i64))] fun a => Pu.spec_BootBank a.1
theorem ok_spec_BootBank : FnOk Tryz.prog 50 e_spec_BootBank := FnOk.of (fnOk (an := { merge := fun | 5 => some 23 | _ => none }) (Λ := Lam.nil) (((base).add ok_spec_FlashOk).add ok_spec_ImageVersion) Tryz.func50 (by kernel_rfl) (hF (by kernel_rfl) nF)) (fun a => by kernel_rfl)
noncomputable def e_spec_ClockOk : GEnt := entOf [.data true TClock] [(false, .bool)] fun a => Pu.spec_ClockOk a.1
theorem ok_spec_ClockOk : FnOk Tryz.prog 51 e_spec_ClockOk := FnOk.of (fnOk (an := { merge := fun | 1 => some 2 | _ => none }) (Λ := Lam.nil) ((base).add ok_spec_l01In) Tryz.func51 (by kernel_rfl) (hF (by kernel_rfl) nF)) (fun a => by kernel_rfl)
noncomputable def e_spec_MemoryOk : GEnt := entOf [.data true (.sl .str)] [(false, .bool)] fun a => Pu.spec_MemoryOk a.1
noncomputable def g_spec_MemoryOk : Gam := Gam.nil
def n_spec_MemoryOk : An := { mask := fun | 2 => [1, 2, 3] | _ => [] }
@[reducible] def d_spec_MemoryOk_2 : SD := ⟨[B,.ptr 1 0,DB,DI,B,B,B,B,B,B,B,B,B,B,B,B,B,B,B,B,B,B], [Z,some (.sl .arg .str),Z,Z,Z,Z,Z,Z,Z,Z,Z,Z,Z,Z,Z,Z,Z,Z,Z,Z,Z,Z], none⟩
noncomputable def t_spec_MemoryOk_2 {R : Type} (X : SD.D d_spec_MemoryOk_2) (K : Ex → AS → Option R) := Pu.spec_MemoryOk_T2 (fun y0 => K (.exit 0) (SD.enc d_spec_MemoryOk_2 ((X.1.1, (y0, ())), (X.2.1.1, ()), ()))) (fun y0 y1 => K .ret (SD.enc d_spec_MemoryOk_2 ((y0, (y1, ())), (X.2.1.1, ()), ()))) X.1.1 X.2.1.1
noncomputable def l_spec_MemoryOk_2 : LEnt := ⟨d_spec_MemoryOk_2, fun X K => iterL (t_spec_MemoryOk_2 X K) fuel X.1.2.1⟩
noncomputable def L_spec_MemoryOk : Lam := (Lam.nil).add 2 l_spec_MemoryOk_2
theorem lok_spec_MemoryOk_2 : LOk E g_spec_MemoryOk n_spec_MemoryOk L_spec_MemoryOk (loopBody Tryz.f91 0) :=
  lok l_spec_MemoryOk_2 (by kernel_rfl) fuel fun R X K => (loop_iter (σ := Int) (fun x => SD.enc d_spec_MemoryOk_2 ((X.1.1, (x, ())), (X.2.1.1, ()), ())) (t_spec_MemoryOk_2 X K) (fun m x => by kernel_rfl) fuel X.1.2.1).symm
theorem ok_spec_MemoryOk : FnOk Tryz.prog 91 e_spec_MemoryOk := FnOk.of (fnOk (Γ := g_spec_MemoryOk) (an := n_spec_MemoryOk) (Λ := L_spec_MemoryOk) (base) Tryz.func91 (by kernel_rfl) (hF (by kernel_rfl) (cF lok_spec_MemoryOk_2 nF))) (fun a => by kernel_rfl)
noncomputable def e_spec_MappingsOk : GEnt := entOf [.data false (.sl TMapping)] [(false, .bool)] fun a => Pu.spec_MappingsOk a.1
noncomputable def g_spec_MappingsOk : Gam := (Gam.nil).add 84 e_spec_l01In
def n_spec_MappingsOk : An := { mask := fun | 4 => [0, 2, 3] | 10 => [0, 2, 3, 4, 5] | _ => [], merge := fun | 7 => some 34 | 12 => some 57 | _ => none }
@[reducible] def d_spec_MappingsOk_10 : SD := ⟨[.data false (.sl .arg TMapping),B,DB,DI,.ptr 4 0,DI,B,B,B,B,B,B,B,B,B,B,B,B,B,B,B,B,B,B,B,B,B,B,B,B,B,B,B,B,B,B,B,B,B,B,B,B,B,B,B,B,B,B,B,B,B,B,B,B,B,B,B,B], [Z,Z,Z,Z,some (.pair (.int .i64) (.pair (.int .i64) (.pair (.int .i64) .bool))),Z,Z,Z,Z,Z,Z,Z,Z,Z,Z,Z,Z,Z,Z,Z,Z,Z,Z,Z,Z,Z,Z,Z,Z,Z,Z,Z,Z,Z,Z,Z,Z,Z,Z,Z,Z,Z,Z,Z,Z,Z,Z,Z,Z,Z,Z,Z,Z,Z,Z,Z,Z,Z], none⟩
noncomputable def t_spec_MappingsOk_10 {R : Type} (X : SD.D d_spec_MappingsOk_10) (K : Ex → AS → Option R) := Pu.spec_MappingsOk_T10 (fun y0 => K (.exit 2) (SD.enc d_spec_MappingsOk_10 ((X.1.1, (X.1.2.1, (X.1.2.2.1, (y0, ())))), (X.2.1.1, ()), ()))) (fun y0 y1 => K .ret (SD.enc d_spec_MappingsOk_10 ((X.1.1, (y0, (X.1.2.2.1, (y1, ())))), (X.2.1.1, ()), ()))) X.1.1 X.1.2.1 X.1.2.2.1 X.2.1.1
noncomputable def l_spec_MappingsOk_10 : LEnt := ⟨d_spec_MappingsOk_10, fun X K => iterL (t_spec_MappingsOk_10 X K) fuel X.1.2.2.2.1⟩
@[reducible] def d_spec_MappingsOk_4 : SD := ⟨[.data false (.sl .arg TMapping),B,DB,DI,B,B,B,B,B,B,B,B,B,B,B,B,B,B,B,B,B,B,B,B,B,B,B,B,B,B,B,B,B,B,B,B,B,B,B,B,B,B,B,B,B,B,B,B,B,B,B,B,B,B,B,B,B,B], [Z,Z,Z,Z,Z,Z,Z,Z,Z,Z,Z,Z,Z,Z,Z,Z,Z,Z,Z,Z,Z,Z,Z,Z,Z,Z,Z,Z,Z,Z,Z,Z,Z,Z,Z,Z,Z,Z,Z,Z,Z,Z,Z,Z,Z,Z,Z,Z,Z,Z,Z,Z,Z,Z,Z,Z,Z,Z], none⟩
noncomputable def t_spec_MappingsOk_4 {R : Type} (X : SD.D d_spec_MappingsOk_4) (K : Ex → AS → Option R) := Pu.spec_MappingsOk_T4 (fun y0 => K (.exit 0) (SD.enc d_spec_MappingsOk_4 ((X.1.1, (X.1.2.1, (y0, ()))), (), ()))) (fun y0 y1 => K .ret (SD.enc d_spec_MappingsOk_4 ((X.1.1, (y0, (y1, ()))), (), ()))) X.1.1 X.1.2.1
noncomputable def l_spec_MappingsOk_4 : LEnt := ⟨d_spec_MappingsOk_4, fun X K => iterL (t_spec_MappingsOk_4 X K) fuel X.1.2.2.1⟩
noncomputable def L_spec_MappingsOk : Lam := ((Lam.nil).add 10 l_spec_MappingsOk_10).add 4 l_spec_MappingsOk_4
theorem lok_spec_MappingsOk_10 : LOk E g_spec_MappingsOk n_spec_MappingsOk L_spec_MappingsOk (loopBody Tryz.f92 1) :=
  lok l_spec_MappingsOk_10 (by kernel_rfl) fuel fun R X K => (loop_iter (σ := Int) (fun x => SD.enc d_spec_MappingsOk_10 ((X.1.1, (X.1.2.1, (X.1.2.2.1, (x, ())))), (X.2.1.1, ()), ())) (t_spec_MappingsOk_10 X K) (fun m x => by kernel_rfl) fuel X.1.2.2.2.1).symm
theorem lok_spec_MappingsOk_4 : LOk E g_spec_MappingsOk n_spec_MappingsOk L_spec_MappingsOk (loopBody Tryz.f92 0) :=
  lok l_spec_MappingsOk_4 (by kernel_rfl) fuel fun R X K => (loop_iter (σ := Int) (fun x => SD.enc d_spec_MappingsOk_4 ((X.1.1, (X.1.2.1, (x, ()))), (), ())) (t_spec_MappingsOk_4 X K) (fun m x => by kernel_rfl) fuel X.1.2.2.1).symm
theorem ok_spec_MappingsOk : FnOk Tryz.prog 92 e_spec_MappingsOk := FnOk.of (fnOk (Γ := g_spec_MappingsOk) (an := n_spec_MappingsOk) (Λ := L_spec_MappingsOk) ((base).add ok_spec_l01In) Tryz.func92 (by kernel_rfl) (hF (by kernel_rfl) (cF lok_spec_MappingsOk_4 (cF lok_spec_MappingsOk_10 nF)))) (fun a => by kernel_rfl)
noncomputable def e_spec_PoolOk : GEnt := entOf [.data true TPool] [(false, .bool)] fun a => Pu.spec_PoolOk a.1
noncomputable def g_spec_PoolOk : Gam := (Gam.nil).add 84 e_spec_l01In
def n_spec_PoolOk : An := { mask := fun | 5 => [1, 2, 3, 4] | _ => [], merge := fun | 1 => some 20 | 7 => some 50 | _ => none }
@[reducible] def d_spec_PoolOk_5 : SD := ⟨[B,.ptr 1 0,DB,.data false (.sl (.own (some 36864)) .bool),DI,B,B,B,B,B,B,B,B,B,B,B,B,B,B,B,B,B,B,B,B,B,B,B,B,B,B,B,B,B,B,B,B,B,B,B,B,B,B,B,B,B,B,B,B,B,B,B,B,B,B,B,B,B], [Z,some (.pair (.int .i64) (.pair (.int .i64) (.pair (.int .i64) (.sl .arg (.int .i64))))),Z,Z,Z,Z,Z,Z,Z,Z,Z,Z,Z,Z,Z,Z,Z,Z,Z,Z,Z,Z,Z,Z,Z,Z,Z,Z,Z,Z,Z,Z,Z,Z,Z,Z,Z,Z,Z,Z,Z,Z,Z,Z,Z,Z,Z,Z,Z,Z,Z,Z,Z,Z,Z,Z,Z,Z], none⟩
noncomputable def t_spec_PoolOk_5 {R : Type} (X : SD.D d_spec_PoolOk_5) (K : Ex → AS → Option R) := Pu.spec_PoolOk_T5 (fun y0 y1 => K (.exit 0) (SD.enc d_spec_PoolOk_5 ((X.1.1, (y0, (y1, ()))), (X.2.1.1, ()), ()))) (fun y0 y1 y2 => K .ret (SD.enc d_spec_PoolOk_5 ((y0, (y1, (y2, ()))), (X.2.1.1, ()), ()))) X.1.1 X.2.1.1
noncomputable def l_spec_PoolOk_5 : LEnt := ⟨d_spec_PoolOk_5, fun X K => iterL (t_spec_PoolOk_5 X K) fuel (X.1.2.1, X.1.2.2.1)⟩
noncomputable def L_spec_PoolOk : Lam := (Lam.nil).add 5 l_spec_PoolOk_5
theorem lok_spec_PoolOk_5 : LOk E g_spec_PoolOk n_spec_PoolOk L_spec_PoolOk (loopBody Tryz.f97 0) :=
  lok l_spec_PoolOk_5 (by kernel_rfl) fuel fun R X K => (loop_iter (σ := (List Bool) × Int) (fun x => SD.enc d_spec_PoolOk_5 ((X.1.1, (x.1, (x.2, ()))), (X.2.1.1, ()), ())) (t_spec_PoolOk_5 X K) (fun m x => by kernel_rfl) fuel (X.1.2.1, X.1.2.2.1)).symm
theorem ok_spec_PoolOk : FnOk Tryz.prog 97 e_spec_PoolOk := FnOk.of (fnOk (Γ := g_spec_PoolOk) (an := n_spec_PoolOk) (Λ := L_spec_PoolOk) ((base).add ok_spec_l01In) Tryz.func97 (by kernel_rfl) (hF (by kernel_rfl) (cF lok_spec_PoolOk_5 nF))) (fun a => by kernel_rfl)
noncomputable def e_spec_l20Size : GEnt := entOf [.data false (.int .i64)] [(false, .bool)] fun a => Pu.spec_l20Size a.1
theorem ok_spec_l20Size : FnOk Tryz.prog 201 e_spec_l20Size := FnOk.of (fnOk (an := { merge := fun | 1 => some 2 | _ => none }) (Λ := Lam.nil) (base) Tryz.func201 (by kernel_rfl) (hF (by kernel_rfl) nF)) (fun a => by kernel_rfl)
noncomputable def e_spec_RingUsed : GEnt := entOf [.data true TClock] [(false, (.int .i64))] fun a => Pu.spec_RingUsed a.1
theorem ok_spec_RingUsed : FnOk Tryz.prog 202 e_spec_RingUsed := FnOk.of (fnOk (an := {}) (Λ := Lam.nil) ((base).add ok_spec_l20Size) Tryz.func202 (by kernel_rfl) (hF (by kernel_rfl) nF)) (fun a => by kernel_rfl)
noncomputable def e_spec_RingOk : GEnt := entOf [.data true TClock] [(false, .bool)] fun a => Pu.spec_RingOk a.1
theorem ok_spec_RingOk : FnOk Tryz.prog 153 e_spec_RingOk := FnOk.of (fnOk (an := { merge := fun | 1 => some 2 | _ => none }) (Λ := Lam.nil) ((((base).add ok_spec_l01In).add ok_spec_l20Size).add ok_spec_RingUsed) Tryz.func153 (by kernel_rfl) (hF (by kernel_rfl) nF)) (fun a => by kernel_rfl)
noncomputable def e_spec_l21Copy : GEnt := entOf [.data true TPool] [(true, (.pair (.int .i64) (.pair (.int .i64) (.pair (.int .i64) (.sl (.own none) (.int .i64))))))] fun a => Pu.spec_l21Copy a.1
theorem ok_spec_l21Copy : FnOk Tryz.prog 203 e_spec_l21Copy := FnOk.of (fnOk (an := { sb := fun | 2 => some 2 | _ => none }) (Λ := Lam.nil) (base) Tryz.func203 (by kernel_rfl) (hF (by kernel_rfl) nF)) (fun a => by kernel_rfl)
noncomputable def e_spec_GiveBuffers : GEnt := entOf [.data true TPool, .data false (.sl (.int .i64))] [(true, (.pair (.int .i64) (.pair (.int .i64) (.pair (.int .i64) (.sl (.own none) (.int .i64)))))), (false, .bool)] fun a => Pu.spec_GiveBuffers a.1 a.2.1
theorem ok_spec_GiveBuffers : FnOk Tryz.prog 154 e_spec_GiveBuffers := FnOk.of (fnOk (an := { merge := fun | 3 => some 21 | _ => none, mv := [10, 24] }) (Λ := Lam.nil) (((base).add ok_spec_PoolOk).add ok_spec_l21Copy) Tryz.func154 (by kernel_rfl) (hF (by kernel_rfl) nF)) (fun a => by kernel_rfl)
noncomputable def e_spec_TxOk : GEnt := entOf [.data true TTxQueue] [(false, .bool)] fun a => Pu.spec_TxOk a.1
noncomputable def g_spec_TxOk : Gam := ((((Gam.nil).add 84 e_spec_l01In).add 97 e_spec_PoolOk).add 153 e_spec_RingOk).add 154 e_spec_GiveBuffers
def n_spec_TxOk : An := { mask := fun | 6 => [1, 2, 3, 4, 5] | _ => [], merge := fun | 1 => some 24 | 9 => some 50 | 14 => some 2 | _ => none, mv := [55] }
@[reducible] def d_spec_TxOk_6 : SD := ⟨[B,.ptr 1 0,DB,DI,.data false (.sl (.own (some 49152)) (.int .i64)),DI,B,B,B,B,B,B,B,B,B,B,B,B,B,B,B,B,B,B,B,B,B,B,B,B,B,B,B,B,B,B,B,B,B,B,B,B,B,B,B,B,B,B,B,B,B,B,B,B,B,B,B,B,B,B,B,B,B,B,B,B,B,B,B,B,B,B,B,B], [Z,some (.pair (.pair (.int .i64) (.pair (.int .i64) (.pair (.int .i64) (.int .i64)))) (.pair (.pair (.int .i64) (.pair (.int .i64) (.pair (.int .i64) (.sl .arg (.int .i64))))) (.pair (.sl .arg TSent) (.int .i64)))),Z,Z,Z,Z,Z,Z,Z,Z,Z,Z,Z,Z,Z,Z,Z,Z,Z,Z,Z,Z,Z,Z,Z,Z,Z,Z,Z,Z,Z,Z,Z,Z,Z,Z,Z,Z,Z,Z,Z,Z,Z,Z,Z,Z,Z,Z,Z,Z,Z,Z,Z,Z,Z,Z,Z,Z,Z,Z,Z,Z,Z,Z,Z,Z,Z,Z,Z,Z,Z,Z,Z,Z], none⟩
noncomputable def t_spec_TxOk_6 {R : Type} (X : SD.D d_spec_TxOk_6) (K : Ex → AS → Option R) := Pu.spec_TxOk_T6 (fun y0 y1 y2 => K (.exit 0) (SD.enc d_spec_TxOk_6 ((X.1.1, (y0, (y1, (y2, ())))), (X.2.1.1, ()), ()))) (fun y0 y1 y2 y3 => K .ret (SD.enc d_spec_TxOk_6 ((y0, (y1, (y2, (y3, ())))), (X.2.1.1, ()), ()))) X.1.1 X.2.1.1
noncomputable def l_spec_TxOk_6 : LEnt := ⟨d_spec_TxOk_6, fun X K => iterL (t_spec_TxOk_6 X K) fuel (X.1.2.1, X.1.2.2.1, X.1.2.2.2.1)⟩
noncomputable def L_spec_TxOk : Lam := (Lam.nil).add 6 l_spec_TxOk_6
theorem lok_spec_TxOk_6 : LOk E g_spec_TxOk n_spec_TxOk L_spec_TxOk (loopBody Tryz.f93 0) :=
  lok l_spec_TxOk_6 (by kernel_rfl) fuel fun R X K => (loop_iter (σ := Int × (List Int) × Int) (fun x => SD.enc d_spec_TxOk_6 ((X.1.1, (x.1, (x.2.1, (x.2.2, ())))), (X.2.1.1, ()), ())) (t_spec_TxOk_6 X K) (fun m x => by kernel_rfl) fuel (X.1.2.1, X.1.2.2.1, X.1.2.2.2.1)).symm
theorem ok_spec_TxOk : FnOk Tryz.prog 93 e_spec_TxOk := FnOk.of (fnOk (Γ := g_spec_TxOk) (an := n_spec_TxOk) (Λ := L_spec_TxOk) (((((base).add ok_spec_l01In).add ok_spec_PoolOk).add ok_spec_RingOk).add ok_spec_GiveBuffers) Tryz.func93 (by kernel_rfl) (hF (by kernel_rfl) (cF lok_spec_TxOk_6 nF))) (fun a => by kernel_rfl)
noncomputable def e_spec_RuleOk : GEnt := entOf [.data true TRule] [(false, .bool)] fun a => Pu.spec_RuleOk a.1
theorem ok_spec_RuleOk : FnOk Tryz.prog 204 e_spec_RuleOk := FnOk.of (fnOk (an := { merge := fun | 1 => some 33 | 3 => some 54 | 5 => some 2 | _ => none }) (Λ := Lam.nil) ((base).add ok_spec_l01In) Tryz.func204 (by kernel_rfl) (hF (by kernel_rfl) nF)) (fun a => by kernel_rfl)
noncomputable def e_spec_RulesOk : GEnt := entOf [.data false (.sl TRule)] [(false, .bool)] fun a => Pu.spec_RulesOk a.1
noncomputable def g_spec_RulesOk : Gam := (Gam.nil).add 204 e_spec_RuleOk
def n_spec_RulesOk : An := { mask := fun | 2 => [0, 2, 3] | _ => [] }
@[reducible] def d_spec_RulesOk_2 : SD := ⟨[.data false (.sl .arg TRule),B,DB,DI,B,B,B,B,B,B,B,B,B,B,B,B,B,B,B], [Z,Z,Z,Z,Z,Z,Z,Z,Z,Z,Z,Z,Z,Z,Z,Z,Z,Z,Z], none⟩
noncomputable def t_spec_RulesOk_2 {R : Type} (X : SD.D d_spec_RulesOk_2) (K : Ex → AS → Option R) := Pu.spec_RulesOk_T2 (fun y0 => K (.exit 0) (SD.enc d_spec_RulesOk_2 ((X.1.1, (X.1.2.1, (y0, ()))), (), ()))) (fun y0 y1 => K .ret (SD.enc d_spec_RulesOk_2 ((X.1.1, (y0, (y1, ()))), (), ()))) X.1.1 X.1.2.1
noncomputable def l_spec_RulesOk_2 : LEnt := ⟨d_spec_RulesOk_2, fun X K => iterL (t_spec_RulesOk_2 X K) fuel X.1.2.2.1⟩
noncomputable def L_spec_RulesOk : Lam := (Lam.nil).add 2 l_spec_RulesOk_2
theorem lok_spec_RulesOk_2 : LOk E g_spec_RulesOk n_spec_RulesOk L_spec_RulesOk (loopBody Tryz.f155 0) :=
  lok l_spec_RulesOk_2 (by kernel_rfl) fuel fun R X K => (loop_iter (σ := Int) (fun x => SD.enc d_spec_RulesOk_2 ((X.1.1, (X.1.2.1, (x, ()))), (), ())) (t_spec_RulesOk_2 X K) (fun m x => by kernel_rfl) fuel X.1.2.2.1).symm
theorem ok_spec_RulesOk : FnOk Tryz.prog 155 e_spec_RulesOk := FnOk.of (fnOk (Γ := g_spec_RulesOk) (an := n_spec_RulesOk) (Λ := L_spec_RulesOk) ((base).add ok_spec_RuleOk) Tryz.func155 (by kernel_rfl) (hF (by kernel_rfl) (cF lok_spec_RulesOk_2 nF))) (fun a => by kernel_rfl)
noncomputable def e_spec_HomeSlot : GEnt := entOf [.data true TFlow] [(false, (.int .i64))] fun a => Pu.spec_HomeSlot a.1
noncomputable def g_spec_HomeSlot : Gam := Gam.nil
def n_spec_HomeSlot : An := { mask := fun | 4 => [3, 4, 5] | _ => [] }
@[reducible] def d_spec_HomeSlot_4 : SD := ⟨[B,B,B,DI,.data false (.sl (.own (some 49152)) (.int .i64)),DI,B,B,B,B,B,B,B,B,B,B,B,B,B,B,B,B,B,B,B,B,B,B,B,B,B,B], [Z,Z,Z,Z,Z,Z,Z,Z,Z,Z,Z,Z,Z,Z,Z,Z,Z,Z,Z,Z,Z,Z,Z,Z,Z,Z,Z,Z,Z,Z,Z,Z], none⟩
noncomputable def t_spec_HomeSlot_4 {R : Type} (X : SD.D d_spec_HomeSlot_4) (K : Ex → AS → Option R) := Pu.spec_HomeSlot_T4 (fun y0 y1 => K (.exit 0) (SD.enc d_spec_HomeSlot_4 ((y0, (X.1.2.1, (y1, ()))), (), ()))) X.1.2.1
noncomputable def l_spec_HomeSlot_4 : LEnt := ⟨d_spec_HomeSlot_4, fun X K => iterL (t_spec_HomeSlot_4 X K) fuel (X.1.1, X.1.2.2.1)⟩
noncomputable def L_spec_HomeSlot : Lam := (Lam.nil).add 4 l_spec_HomeSlot_4
theorem lok_spec_HomeSlot_4 : LOk E g_spec_HomeSlot n_spec_HomeSlot L_spec_HomeSlot (loopBody Tryz.f232 0) :=
  lok l_spec_HomeSlot_4 (by kernel_rfl) fuel fun R X K => (loop_iter (σ := Int × Int) (fun x => SD.enc d_spec_HomeSlot_4 ((x.1, (X.1.2.1, (x.2, ()))), (), ())) (t_spec_HomeSlot_4 X K) (fun m x => by kernel_rfl) fuel (X.1.1, X.1.2.2.1)).symm
theorem ok_spec_HomeSlot : FnOk Tryz.prog 232 e_spec_HomeSlot := FnOk.of (fnOk (Γ := g_spec_HomeSlot) (an := n_spec_HomeSlot) (Λ := L_spec_HomeSlot) (base) Tryz.func232 (by kernel_rfl) (hF (by kernel_rfl) (cF lok_spec_HomeSlot_4 nF))) (fun a => by kernel_rfl)
noncomputable def e_spec_l13Find : GEnt := entOf [.data true (.sl TSlot), .data true TFlow] [(false, (.int .i64))] fun a => Pu.spec_l13Find a.1 a.2.1
noncomputable def g_spec_l13Find : Gam := (Gam.nil).add 232 e_spec_HomeSlot
def n_spec_l13Find : An := { mask := fun | 2 => [2, 3, 4, 5] | _ => [], merge := fun | 7 => some 39 | _ => none }
@[reducible] def d_spec_l13Find_2 : SD := ⟨[B,B,.ptr 2 0,.ptr 3 0,DI,DI,B,B,B,B,B,B,B,B,B,B,B,B,B,B,B,B,B,B,B,B,B,B,B,B,B,B,B,B,B,B,B,B,B,B,B], [Z,Z,some (.sl .arg TSlot),some (.pair (.int .i64) (.pair (.int .i64) (.pair (.int .i64) (.pair (.int .i64) (.int .i64))))),Z,Z,Z,Z,Z,Z,Z,Z,Z,Z,Z,Z,Z,Z,Z,Z,Z,Z,Z,Z,Z,Z,Z,Z,Z,Z,Z,Z,Z,Z,Z,Z,Z,Z,Z,Z,Z], none⟩
noncomputable def t_spec_l13Find_2 {R : Type} (X : SD.D d_spec_l13Find_2) (K : Ex → AS → Option R) := Pu.spec_l13Find_T2 (fun y0 => K (.exit 0) (SD.enc d_spec_l13Find_2 ((X.1.1, (y0, ())), (X.2.1.1, (X.2.1.2.1, ())), ()))) (fun y0 y1 => K .ret (SD.enc d_spec_l13Find_2 ((y0, (y1, ())), (X.2.1.1, (X.2.1.2.1, ())), ()))) X.1.1 X.2.1.1 X.2.1.2.1
noncomputable def l_spec_l13Find_2 : LEnt := ⟨d_spec_l13Find_2, fun X K => iterL (t_spec_l13Find_2 X K) fuel X.1.2.1⟩
noncomputable def L_spec_l13Find : Lam := (Lam.nil).add 2 l_spec_l13Find_2
theorem lok_spec_l13Find_2 : LOk E g_spec_l13Find n_spec_l13Find L_spec_l13Find (loopBody Tryz.f205 0) :=
  lok l_spec_l13Find_2 (by kernel_rfl) fuel fun R X K => (loop_iter (σ := Int) (fun x => SD.enc d_spec_l13Find_2 ((X.1.1, (x, ())), (X.2.1.1, (X.2.1.2.1, ())), ())) (t_spec_l13Find_2 X K) (fun m x => by kernel_rfl) fuel X.1.2.1).symm
theorem ok_spec_l13Find : FnOk Tryz.prog 205 e_spec_l13Find := FnOk.of (fnOk (Γ := g_spec_l13Find) (an := n_spec_l13Find) (Λ := L_spec_l13Find) ((base).add ok_spec_HomeSlot) Tryz.func205 (by kernel_rfl) (hF (by kernel_rfl) (cF lok_spec_l13Find_2 nF))) (fun a => by kernel_rfl)
noncomputable def e_spec_TableOk : GEnt := entOf [.data true (.sl TSlot)] [(false, .bool)] fun a => Pu.spec_TableOk a.1
noncomputable def g_spec_TableOk : Gam := ((Gam.nil).add 84 e_spec_l01In).add 205 e_spec_l13Find
def n_spec_TableOk : An := { mask := fun | 4 => [1, 2, 3] | _ => [], merge := fun | 7 => some 30 | 10 => some 42 | _ => none }
@[reducible] def d_spec_TableOk_4 : SD := ⟨[B,.ptr 1 0,DB,DI,B,B,B,B,B,B,B,B,B,B,B,B,B,B,B,B,B,B,B,B,B,B,B,B,B,B,B,B,B,B,B,B,B,B,B,B,B,B,B,B,B,B,B,B,B], [Z,some (.sl .arg TSlot),Z,Z,Z,Z,Z,Z,Z,Z,Z,Z,Z,Z,Z,Z,Z,Z,Z,Z,Z,Z,Z,Z,Z,Z,Z,Z,Z,Z,Z,Z,Z,Z,Z,Z,Z,Z,Z,Z,Z,Z,Z,Z,Z,Z,Z,Z,Z], none⟩
noncomputable def t_spec_TableOk_4 {R : Type} (X : SD.D d_spec_TableOk_4) (K : Ex → AS → Option R) := Pu.spec_TableOk_T4 (fun y0 => K (.exit 0) (SD.enc d_spec_TableOk_4 ((X.1.1, (y0, ())), (X.2.1.1, ()), ()))) (fun y0 y1 => K .ret (SD.enc d_spec_TableOk_4 ((y0, (y1, ())), (X.2.1.1, ()), ()))) X.1.1 X.2.1.1
noncomputable def l_spec_TableOk_4 : LEnt := ⟨d_spec_TableOk_4, fun X K => iterL (t_spec_TableOk_4 X K) fuel X.1.2.1⟩
noncomputable def L_spec_TableOk : Lam := (Lam.nil).add 4 l_spec_TableOk_4
theorem lok_spec_TableOk_4 : LOk E g_spec_TableOk n_spec_TableOk L_spec_TableOk (loopBody Tryz.f156 0) :=
  lok l_spec_TableOk_4 (by kernel_rfl) fuel fun R X K => (loop_iter (σ := Int) (fun x => SD.enc d_spec_TableOk_4 ((X.1.1, (x, ())), (X.2.1.1, ()), ())) (t_spec_TableOk_4 X K) (fun m x => by kernel_rfl) fuel X.1.2.1).symm
theorem ok_spec_TableOk : FnOk Tryz.prog 156 e_spec_TableOk := FnOk.of (fnOk (Γ := g_spec_TableOk) (an := n_spec_TableOk) (Λ := L_spec_TableOk) (((base).add ok_spec_l01In).add ok_spec_l13Find) Tryz.func156 (by kernel_rfl) (hF (by kernel_rfl) (cF lok_spec_TableOk_4 nF))) (fun a => by kernel_rfl)
noncomputable def e_spec_l12Size : GEnt := entOf [.data false (.int .i64)] [(false, .bool)] fun a => Pu.spec_l12Size a.1
theorem ok_spec_l12Size : FnOk Tryz.prog 206 e_spec_l12Size := FnOk.of (fnOk (an := { merge := fun | 1 => some 2 | _ => none }) (Λ := Lam.nil) (base) Tryz.func206 (by kernel_rfl) (hF (by kernel_rfl) nF)) (fun a => by kernel_rfl)
noncomputable def e_spec_SpreadOk : GEnt := entOf [.data true TSpread, .data false (.int .i64)] [(false, .bool)] fun a => Pu.spec_SpreadOk a.1 a.2.1
noncomputable def g_spec_SpreadOk : Gam := ((Gam.nil).add 84 e_spec_l01In).add 206 e_spec_l12Size
def n_spec_SpreadOk : An := { mask := fun | 4 => [1, 2, 4, 5] | _ => [], merge := fun | 1 => some 21 | _ => none }
@[reducible] def d_spec_SpreadOk_4 : SD := ⟨[B,DI,.ptr 2 0,B,DB,DI,B,B,B,B,B,B,B,B,B,B,B,B,B,B,B,B,B,B,B,B,B,B,B,B,B,B,B,B,B,B,B,B], [Z,Z,some (.pair .str (.sl .arg (.int .i64))),Z,Z,Z,Z,Z,Z,Z,Z,Z,Z,Z,Z,Z,Z,Z,Z,Z,Z,Z,Z,Z,Z,Z,Z,Z,Z,Z,Z,Z,Z,Z,Z,Z,Z,Z], none⟩
noncomputable def t_spec_SpreadOk_4 {R : Type} (X : SD.D d_spec_SpreadOk_4) (K : Ex → AS → Option R) := Pu.spec_SpreadOk_T4 (fun y0 => K (.exit 0) (SD.enc d_spec_SpreadOk_4 ((X.1.1, (X.1.2.1, (y0, ()))), (X.2.1.1, ()), ()))) (fun y0 y1 => K .ret (SD.enc d_spec_SpreadOk_4 ((X.1.1, (y0, (y1, ()))), (X.2.1.1, ()), ()))) X.1.1 X.1.2.1 X.2.1.1
noncomputable def l_spec_SpreadOk_4 : LEnt := ⟨d_spec_SpreadOk_4, fun X K => iterL (t_spec_SpreadOk_4 X K) fuel X.1.2.2.1⟩
noncomputable def L_spec_SpreadOk : Lam := (Lam.nil).add 4 l_spec_SpreadOk_4
theorem lok_spec_SpreadOk_4 : LOk E g_spec_SpreadOk n_spec_SpreadOk L_spec_SpreadOk (loopBody Tryz.f157 0) :=
  lok l_spec_SpreadOk_4 (by kernel_rfl) fuel fun R X K => (loop_iter (σ := Int) (fun x => SD.enc d_spec_SpreadOk_4 ((X.1.1, (X.1.2.1, (x, ()))), (X.2.1.1, ()), ())) (t_spec_SpreadOk_4 X K) (fun m x => by kernel_rfl) fuel X.1.2.2.1).symm
theorem ok_spec_SpreadOk : FnOk Tryz.prog 157 e_spec_SpreadOk := FnOk.of (fnOk (Γ := g_spec_SpreadOk) (an := n_spec_SpreadOk) (Λ := L_spec_SpreadOk) (((base).add ok_spec_l01In).add ok_spec_l12Size) Tryz.func157 (by kernel_rfl) (hF (by kernel_rfl) (cF lok_spec_SpreadOk_4 nF))) (fun a => by kernel_rfl)
noncomputable def e_spec_SteeringOk : GEnt := entOf [.data true TSteering, .data false (.int .i64)] [(false, .bool)] fun a => Pu.spec_SteeringOk a.1 a.2.1
noncomputable def g_spec_SteeringOk : Gam := (((Gam.nil).add 155 e_spec_RulesOk).add 156 e_spec_TableOk).add 157 e_spec_SpreadOk
def n_spec_SteeringOk : An := { mask := fun | 4 => [1, 2, 4, 5] | 9 => [1, 2, 4, 6] | _ => [], merge := fun | 1 => some 23 | _ => none }
@[reducible] def d_spec_SteeringOk_4 : SD := ⟨[B,DI,.ptr 2 0,B,DB,DI,B,B,B,B,B,B,B,B,B,B,B,B,B,B,B,B,B,B,B,B,B,B,B,B,B,B,B,B,B,B,B,B,B,B,B,B,B,B,B,B,B,B,B,B,B,B,B,B,B,B], [Z,Z,some (.pair (.sl .arg TRule) (.pair (.sl .arg TSlot) (.pair .str (.sl .arg (.int .i64))))),Z,Z,Z,Z,Z,Z,Z,Z,Z,Z,Z,Z,Z,Z,Z,Z,Z,Z,Z,Z,Z,Z,Z,Z,Z,Z,Z,Z,Z,Z,Z,Z,Z,Z,Z,Z,Z,Z,Z,Z,Z,Z,Z,Z,Z,Z,Z,Z,Z,Z,Z,Z,Z], none⟩
noncomputable def t_spec_SteeringOk_4 {R : Type} (X : SD.D d_spec_SteeringOk_4) (K : Ex → AS → Option R) := Pu.spec_SteeringOk_T4 (fun y0 => K (.exit 0) (SD.enc d_spec_SteeringOk_4 ((X.1.1, (X.1.2.1, (y0, ()))), (X.2.1.1, ()), ()))) (fun y0 y1 => K .ret (SD.enc d_spec_SteeringOk_4 ((X.1.1, (y0, (y1, ()))), (X.2.1.1, ()), ()))) X.1.1 X.1.2.1 X.2.1.1
noncomputable def l_spec_SteeringOk_4 : LEnt := ⟨d_spec_SteeringOk_4, fun X K => iterL (t_spec_SteeringOk_4 X K) fuel X.1.2.2.1⟩
@[reducible] def d_spec_SteeringOk_9 : SD := ⟨[B,DI,.ptr 2 0,B,DB,B,DI,B,B,B,B,B,B,B,B,B,B,B,B,B,B,B,B,B,B,B,B,B,B,B,B,B,B,B,B,B,B,B,B,B,B,B,B,B,B,B,B,B,B,B,B,B,B,B,B,B], [Z,Z,some (.pair (.sl .arg TRule) (.pair (.sl .arg TSlot) (.pair .str (.sl .arg (.int .i64))))),Z,Z,Z,Z,Z,Z,Z,Z,Z,Z,Z,Z,Z,Z,Z,Z,Z,Z,Z,Z,Z,Z,Z,Z,Z,Z,Z,Z,Z,Z,Z,Z,Z,Z,Z,Z,Z,Z,Z,Z,Z,Z,Z,Z,Z,Z,Z,Z,Z,Z,Z,Z,Z], none⟩
noncomputable def t_spec_SteeringOk_9 {R : Type} (X : SD.D d_spec_SteeringOk_9) (K : Ex → AS → Option R) := Pu.spec_SteeringOk_T9 (fun y0 => K (.exit 2) (SD.enc d_spec_SteeringOk_9 ((X.1.1, (X.1.2.1, (y0, ()))), (X.2.1.1, ()), ()))) (fun y0 y1 => K .ret (SD.enc d_spec_SteeringOk_9 ((X.1.1, (y0, (y1, ()))), (X.2.1.1, ()), ()))) X.1.1 X.1.2.1 X.2.1.1
noncomputable def l_spec_SteeringOk_9 : LEnt := ⟨d_spec_SteeringOk_9, fun X K => iterL (t_spec_SteeringOk_9 X K) fuel X.1.2.2.1⟩
noncomputable def L_spec_SteeringOk : Lam := ((Lam.nil).add 4 l_spec_SteeringOk_4).add 9 l_spec_SteeringOk_9
theorem lok_spec_SteeringOk_4 : LOk E g_spec_SteeringOk n_spec_SteeringOk L_spec_SteeringOk (loopBody Tryz.f95 0) :=
  lok l_spec_SteeringOk_4 (by kernel_rfl) fuel fun R X K => (loop_iter (σ := Int) (fun x => SD.enc d_spec_SteeringOk_4 ((X.1.1, (X.1.2.1, (x, ()))), (X.2.1.1, ()), ())) (t_spec_SteeringOk_4 X K) (fun m x => by kernel_rfl) fuel X.1.2.2.1).symm
theorem lok_spec_SteeringOk_9 : LOk E g_spec_SteeringOk n_spec_SteeringOk L_spec_SteeringOk (loopBody Tryz.f95 1) :=
  lok l_spec_SteeringOk_9 (by kernel_rfl) fuel fun R X K => (loop_iter (σ := Int) (fun x => SD.enc d_spec_SteeringOk_9 ((X.1.1, (X.1.2.1, (x, ()))), (X.2.1.1, ()), ())) (t_spec_SteeringOk_9 X K) (fun m x => by kernel_rfl) fuel X.1.2.2.1).symm
theorem ok_spec_SteeringOk : FnOk Tryz.prog 95 e_spec_SteeringOk := FnOk.of (fnOk (Γ := g_spec_SteeringOk) (an := n_spec_SteeringOk) (Λ := L_spec_SteeringOk) ((((base).add ok_spec_RulesOk).add ok_spec_TableOk).add ok_spec_SpreadOk) Tryz.func95 (by kernel_rfl) (hF (by kernel_rfl) (cF lok_spec_SteeringOk_4 (cF lok_spec_SteeringOk_9 nF)))) (fun a => by kernel_rfl)
noncomputable def e_spec_QueueOk : GEnt := entOf [.data true TBucket] [(false, .bool)] fun a => Pu.spec_QueueOk a.1
theorem ok_spec_QueueOk : FnOk Tryz.prog 158 e_spec_QueueOk := FnOk.of (fnOk (an := { merge := fun | 1 => some 2 | _ => none }) (Λ := Lam.nil) (((base).add ok_spec_l01In).add ok_spec_l20Size) Tryz.func158 (by kernel_rfl) (hF (by kernel_rfl) nF)) (fun a => by kernel_rfl)
noncomputable def e_spec_SegmentOk : GEnt := entOf [.data true TSegment] [(false, .bool)] fun a => Pu.spec_SegmentOk a.1
theorem ok_spec_SegmentOk : FnOk Tryz.prog 207 e_spec_SegmentOk := FnOk.of (fnOk (an := { merge := fun | 1 => some 18 | 4 => some 2 | 5 => some 2 | _ => none }) (Λ := Lam.nil) ((base).add ok_spec_l01In) Tryz.func207 (by kernel_rfl) (hF (by kernel_rfl) nF)) (fun a => by kernel_rfl)
noncomputable def e_spec_SuperOk : GEnt := entOf [.data true TPacket] [(false, .bool)] fun a => Pu.spec_SuperOk a.1
theorem ok_spec_SuperOk : FnOk Tryz.prog 159 e_spec_SuperOk := FnOk.of (fnOk (an := { merge := fun | 1 => some 55 | 3 => some 3 | 4 => some 2 | _ => none }) (Λ := Lam.nil) (((base).add ok_spec_l01In).add ok_spec_SegmentOk) Tryz.func159 (by kernel_rfl) (hF (by kernel_rfl) nF)) (fun a => by kernel_rfl)
noncomputable def e_spec_RxOk : GEnt := entOf [.data true TRxQueue] [(false, .bool)] fun a => Pu.spec_RxOk a.1
theorem ok_spec_RxOk : FnOk Tryz.prog 96 e_spec_RxOk := FnOk.of (fnOk (an := { merge := fun | 1 => some 42 | 5 => some 2 | _ => none }) (Λ := Lam.nil) (((((base).add ok_spec_l01In).add ok_spec_RingOk).add ok_spec_QueueOk).add ok_spec_SuperOk) Tryz.func96 (by kernel_rfl) (hF (by kernel_rfl) nF)) (fun a => by kernel_rfl)
noncomputable def e_spec_l28Due : GEnt := entOf [.data true TVector] [(false, .bool)] fun a => Pu.spec_l28Due a.1
theorem ok_spec_l28Due : FnOk Tryz.prog 160 e_spec_l28Due := FnOk.of (fnOk (an := { merge := fun | 1 => some 2 | _ => none }) (Λ := Lam.nil) (base) Tryz.func160 (by kernel_rfl) (hF (by kernel_rfl) nF)) (fun a => by kernel_rfl)
noncomputable def e_spec_VectorOk : GEnt := entOf [.data true TVector] [(false, .bool)] fun a => Pu.spec_VectorOk a.1
theorem ok_spec_VectorOk : FnOk Tryz.prog 98 e_spec_VectorOk := FnOk.of (fnOk (an := { merge := fun | 1 => some 24 | 3 => some 2 | _ => none }) (Λ := Lam.nil) (((base).add ok_spec_l01In).add ok_spec_l28Due) Tryz.func98 (by kernel_rfl) (hF (by kernel_rfl) nF)) (fun a => by kernel_rfl)
noncomputable def e_spec_HostOk : GEnt := entOf [.data true THost] [(false, .bool)] fun a => Pu.spec_HostOk a.1
noncomputable def g_spec_HostOk : Gam := (((((((((Gam.nil).add 84 e_spec_l01In).add 91 e_spec_MemoryOk).add 92 e_spec_MappingsOk).add 93 e_spec_TxOk).add 94 e_spec_FilterOk).add 95 e_spec_SteeringOk).add 96 e_spec_RxOk).add 97 e_spec_PoolOk).add 98 e_spec_VectorOk
def n_spec_HostOk : An := { mask := fun | 5 => [1, 2, 3, 4] | 11 => [2, 5, 6] | _ => [], merge := fun | 2 => some 64 | 7 => some 94 | _ => none }
@[reducible] def d_spec_HostOk_5 : SD := ⟨[B,.ptr 1 0,DB,DI,DI,B,B,B,B,B,B,B,B,B,B,B,B,B,B,B,B,B,B,B,B,B,B,B,B,B,B,B,B,B,B,B,B,B,B,B,B,B,B,B,B,B,B,B,B,B,B,B,B,B,B,B,B,B,B,B,B,B,B,B,B,B,B,B,B,B,B,B,B,B,B,B,B,B,B,B,B,B,B,B,B,B,B,B,B,B,B,B,B,B,B,B,B,B,B,B,B,B,B,B,B,B,B,B,B,B,B,B,B,B,B,B,B,B,B,B,B,B,B], [Z,some (.pair (.sl .arg .str) (.pair (.sl .arg TMapping) (.pair (.pair (.pair (.int .i64) (.pair (.int .i64) (.pair (.int .i64) (.int .i64)))) (.pair (.pair (.int .i64) (.pair (.int .i64) (.pair (.int .i64) (.sl .arg (.int .i64))))) (.pair (.sl .arg TSent) (.int .i64)))) (.pair (.sl .arg TRxQueue) (.pair (.sl .arg TPool) (.pair (.sl .arg TVector) (.pair (.sl .arg .bool) (.pair (.pair (.int .i64) (.pair .bool (.sl .arg (.int .i64)))) (.pair (.pair (.sl .arg TRule) (.pair (.sl .arg TSlot) (.pair .str (.sl .arg (.int .i64))))) (.pair (.sl .arg TStream) (.pair .bool (.pair (.sl .arg .str) (.pair (.sl .arg (.int .i64)) (.pair (.sl .arg (.int .i64)) (.pair (.int .i64) (.pair (.int .i64) (.pair (.int .i64) (.pair (.int .i64) (.int .i64))))))))))))))))))),Z,Z,Z,Z,Z,Z,Z,Z,Z,Z,Z,Z,Z,Z,Z,Z,Z,Z,Z,Z,Z,Z,Z,Z,Z,Z,Z,Z,Z,Z,Z,Z,Z,Z,Z,Z,Z,Z,Z,Z,Z,Z,Z,Z,Z,Z,Z,Z,Z,Z,Z,Z,Z,Z,Z,Z,Z,Z,Z,Z,Z,Z,Z,Z,Z,Z,Z,Z,Z,Z,Z,Z,Z,Z,Z,Z,Z,Z,Z,Z,Z,Z,Z,Z,Z,Z,Z,Z,Z,Z,Z,Z,Z,Z,Z,Z,Z,Z,Z,Z,Z,Z,Z,Z,Z,Z,Z,Z,Z,Z,Z,Z,Z,Z,Z,Z,Z,Z,Z,Z,Z], none⟩
noncomputable def t_spec_HostOk_5 {R : Type} (X : SD.D d_spec_HostOk_5) (K : Ex → AS → Option R) := Pu.spec_HostOk_T5 (fun y0 => K (.exit 0) (SD.enc d_spec_HostOk_5 ((X.1.1, (X.1.2.1, (y0, ()))), (X.2.1.1, ()), ()))) (fun y0 y1 => K .ret (SD.enc d_spec_HostOk_5 ((y0, (X.1.2.1, (y1, ()))), (X.2.1.1, ()), ()))) X.1.1 X.1.2.1 X.2.1.1
noncomputable def l_spec_HostOk_5 : LEnt := ⟨d_spec_HostOk_5, fun X K => iterL (t_spec_HostOk_5 X K) fuel X.1.2.2.1⟩
@[reducible] def d_spec_HostOk_11 : SD := ⟨[B,B,DB,B,B,.data false (.sl (.own (some 61440)) (.int .i64)),DI,B,B,B,B,B,B,B,B,B,B,B,B,B,B,B,B,B,B,B,B,B,B,B,B,B,B,B,B,B,B,B,B,B,B,B,B,B,B,B,B,B,B,B,B,B,B,B,B,B,B,B,B,B,B,B,B,B,B,B,B,B,B,B,B,B,B,B,B,B,B,B,B,B,B,B,B,B,B,B,B,B,B,B,B,B,B,B,B,B,B,B,B,B,B,B,B,B,B,B,B,B,B,B,B,B,B,B,B,B,B,B,B,B,B,B,B], [Z,Z,Z,Z,Z,Z,Z,Z,Z,Z,Z,Z,Z,Z,Z,Z,Z,Z,Z,Z,Z,Z,Z,Z,Z,Z,Z,Z,Z,Z,Z,Z,Z,Z,Z,Z,Z,Z,Z,Z,Z,Z,Z,Z,Z,Z,Z,Z,Z,Z,Z,Z,Z,Z,Z,Z,Z,Z,Z,Z,Z,Z,Z,Z,Z,Z,Z,Z,Z,Z,Z,Z,Z,Z,Z,Z,Z,Z,Z,Z,Z,Z,Z,Z,Z,Z,Z,Z,Z,Z,Z,Z,Z,Z,Z,Z,Z,Z,Z,Z,Z,Z,Z,Z,Z,Z,Z,Z,Z,Z,Z,Z,Z,Z,Z,Z,Z,Z,Z,Z,Z,Z,Z], none⟩
noncomputable def t_spec_HostOk_11 {R : Type} (X : SD.D d_spec_HostOk_11) (K : Ex → AS → Option R) := Pu.spec_HostOk_T11 (fun y0 => K (.exit 2) (SD.enc d_spec_HostOk_11 ((X.1.1, (X.1.2.1, (y0, ()))), (), ()))) (fun y0 y1 => K .ret (SD.enc d_spec_HostOk_11 ((y0, (X.1.2.1, (y1, ()))), (), ()))) X.1.1 X.1.2.1
noncomputable def l_spec_HostOk_11 : LEnt := ⟨d_spec_HostOk_11, fun X K => iterL (t_spec_HostOk_11 X K) fuel X.1.2.2.1⟩
noncomputable def L_spec_HostOk : Lam := ((Lam.nil).add 5 l_spec_HostOk_5).add 11 l_spec_HostOk_11
theorem lok_spec_HostOk_5 : LOk E g_spec_HostOk n_spec_HostOk L_spec_HostOk (loopBody Tryz.f52 0) :=
  lok l_spec_HostOk_5 (by kernel_rfl) fuel fun R X K => (loop_iter (σ := Int) (fun x => SD.enc d_spec_HostOk_5 ((X.1.1, (X.1.2.1, (x, ()))), (X.2.1.1, ()), ())) (t_spec_HostOk_5 X K) (fun m x => by kernel_rfl) fuel X.1.2.2.1).symm
theorem lok_spec_HostOk_11 : LOk E g_spec_HostOk n_spec_HostOk L_spec_HostOk (loopBody Tryz.f52 1) :=
  lok l_spec_HostOk_11 (by kernel_rfl) fuel fun R X K => (loop_iter (σ := Int) (fun x => SD.enc d_spec_HostOk_11 ((X.1.1, (X.1.2.1, (x, ()))), (), ())) (t_spec_HostOk_11 X K) (fun m x => by kernel_rfl) fuel X.1.2.2.1).symm
theorem ok_spec_HostOk : FnOk Tryz.prog 52 e_spec_HostOk := FnOk.of (fnOk (Γ := g_spec_HostOk) (an := n_spec_HostOk) (Λ := L_spec_HostOk) ((((((((((base).add ok_spec_l01In).add ok_spec_MemoryOk).add ok_spec_MappingsOk).add ok_spec_TxOk).add ok_spec_FilterOk).add ok_spec_SteeringOk).add ok_spec_RxOk).add ok_spec_PoolOk).add ok_spec_VectorOk) Tryz.func52 (by kernel_rfl) (hF (by kernel_rfl) (cF lok_spec_HostOk_5 (cF lok_spec_HostOk_11 nF)))) (fun a => by kernel_rfl)
noncomputable def e_spec_l39Ints : GEnt := entOf [.data false (.sl (.int .i64)), .data false (.sl (.int .i64))] [(false, .bool)] fun a => Pu.spec_l39Ints a.1 a.2.1
noncomputable def g_spec_l39Ints : Gam := Gam.nil
def n_spec_l39Ints : An := { mask := fun | 4 => [0, 1, 4, 5] | _ => [] }
@[reducible] def d_spec_l39Ints_4 : SD := ⟨[.data false (.sl .arg (.int .i64)),.data false (.sl .arg (.int .i64)),B,B,DB,DI,B,B,B,B,B,B,B,B,B,B,B,B,B,B,B,B,B,B,B,B], [Z,Z,Z,Z,Z,Z,Z,Z,Z,Z,Z,Z,Z,Z,Z,Z,Z,Z,Z,Z,Z,Z,Z,Z,Z,Z], none⟩
noncomputable def t_spec_l39Ints_4 {R : Type} (X : SD.D d_spec_l39Ints_4) (K : Ex → AS → Option R) := Pu.spec_l39Ints_T4 (fun y0 => K (.exit 0) (SD.enc d_spec_l39Ints_4 ((X.1.1, (X.1.2.1, (X.1.2.2.1, (y0, ())))), (), ()))) (fun y0 y1 => K .ret (SD.enc d_spec_l39Ints_4 ((X.1.1, (X.1.2.1, (y0, (y1, ())))), (), ()))) X.1.1 X.1.2.1 X.1.2.2.1
noncomputable def l_spec_l39Ints_4 : LEnt := ⟨d_spec_l39Ints_4, fun X K => iterL (t_spec_l39Ints_4 X K) fuel X.1.2.2.2.1⟩
noncomputable def L_spec_l39Ints : Lam := (Lam.nil).add 4 l_spec_l39Ints_4
theorem lok_spec_l39Ints_4 : LOk E g_spec_l39Ints n_spec_l39Ints L_spec_l39Ints (loopBody Tryz.f99 0) :=
  lok l_spec_l39Ints_4 (by kernel_rfl) fuel fun R X K => (loop_iter (σ := Int) (fun x => SD.enc d_spec_l39Ints_4 ((X.1.1, (X.1.2.1, (X.1.2.2.1, (x, ())))), (), ())) (t_spec_l39Ints_4 X K) (fun m x => by kernel_rfl) fuel X.1.2.2.2.1).symm
theorem ok_spec_l39Ints : FnOk Tryz.prog 99 e_spec_l39Ints := FnOk.of (fnOk (Γ := g_spec_l39Ints) (an := n_spec_l39Ints) (Λ := L_spec_l39Ints) (base) Tryz.func99 (by kernel_rfl) (hF (by kernel_rfl) (cF lok_spec_l39Ints_4 nF))) (fun a => by kernel_rfl)
noncomputable def e_spec_l42SameFilter : GEnt := entOf [.data true TFilter, .data true TFilter] [(false, .bool)] fun a => Pu.spec_l42SameFilter a.1 a.2.1
theorem ok_spec_l42SameFilter : FnOk Tryz.prog 53 e_spec_l42SameFilter := FnOk.of (fnOk (an := { merge := fun | 1 => some 4 | _ => none }) (Λ := Lam.nil) ((base).add ok_spec_l39Ints) Tryz.func53 (by kernel_rfl) (hF (by kernel_rfl) nF)) (fun a => by kernel_rfl)
noncomputable def e_spec_CardOk : GEnt := entOf [.data true TCard] [(false, .bool)] fun a => Pu.spec_CardOk a.1
noncomputable def g_spec_CardOk : Gam := ((((((Gam.nil).add 48 e_spec_PortsOf).add 49 e_spec_FunctionsOk).add 50 e_spec_BootBank).add 51 e_spec_ClockOk).add 52 e_spec_HostOk).add 53 e_spec_l42SameFilter
def n_spec_CardOk : An := { mask := fun | 6 => [1, 2, 5, 6] | _ => [], merge := fun | 3 => some 50 | 8 => some 99 | _ => none }
@[reducible] def d_spec_CardOk_6 : SD := ⟨[B,.ptr 1 0,DB,B,B,DI,DI,B,B,B,B,B,B,B,B,B,B,B,B,B,B,B,B,B,B,B,B,B,B,B,B,B,B,B,B,B,B,B,B,B,B,B,B,B,B,B,B,B,B,B,B,B,B,B,B,B,B,B,B,B,B,B,B,B,B,B,B,B,B,B,B,B,B,B,B,B,B,B,B,B,B,B,B,B,B,B,B,B,B,B,B,B,B,B,B,B,B,B,B,B], [Z,some (.pair (.sl .arg THost) (.pair (.sl .arg TVirtualFunction) (.pair (.sl .arg TMailbox) (.pair (.sl .arg .str) (.pair (.pair (.int .i64) (.pair (.int .i64) (.pair (.int .i64) (.int .i64)))) (.pair (.sl .arg (.int .i64)) (.sl .arg .str))))))),Z,Z,Z,Z,Z,Z,Z,Z,Z,Z,Z,Z,Z,Z,Z,Z,Z,Z,Z,Z,Z,Z,Z,Z,Z,Z,Z,Z,Z,Z,Z,Z,Z,Z,Z,Z,Z,Z,Z,Z,Z,Z,Z,Z,Z,Z,Z,Z,Z,Z,Z,Z,Z,Z,Z,Z,Z,Z,Z,Z,Z,Z,Z,Z,Z,Z,Z,Z,Z,Z,Z,Z,Z,Z,Z,Z,Z,Z,Z,Z,Z,Z,Z,Z,Z,Z,Z,Z,Z,Z,Z,Z,Z,Z,Z,Z,Z,Z], none⟩
noncomputable def t_spec_CardOk_6 {R : Type} (X : SD.D d_spec_CardOk_6) (K : Ex → AS → Option R) := Pu.spec_CardOk_T6 (fun y0 => K (.exit 0) (SD.enc d_spec_CardOk_6 ((X.1.1, (X.1.2.1, (y0, ()))), (X.2.1.1, ()), ()))) (fun y0 y1 => K .ret (SD.enc d_spec_CardOk_6 ((y0, (X.1.2.1, (y1, ()))), (X.2.1.1, ()), ()))) X.1.1 X.1.2.1 X.2.1.1
noncomputable def l_spec_CardOk_6 : LEnt := ⟨d_spec_CardOk_6, fun X K => iterL (t_spec_CardOk_6 X K) fuel X.1.2.2.1⟩
noncomputable def L_spec_CardOk : Lam := (Lam.nil).add 6 l_spec_CardOk_6
theorem lok_spec_CardOk_6 : LOk E g_spec_CardOk n_spec_CardOk L_spec_CardOk (loopBody Tryz.f20 0) :=
  lok l_spec_CardOk_6 (by kernel_rfl) fuel fun R X K => (loop_iter (σ := Int) (fun x => SD.enc d_spec_CardOk_6 ((X.1.1, (X.1.2.1, (x, ()))), (X.2.1.1, ()), ())) (t_spec_CardOk_6 X K) (fun m x => by kernel_rfl) fuel X.1.2.2.1).symm
theorem ok_spec_CardOk : FnOk Tryz.prog 20 e_spec_CardOk := FnOk.of (fnOk (Γ := g_spec_CardOk) (an := n_spec_CardOk) (Λ := L_spec_CardOk) (((((((base).add ok_spec_PortsOf).add ok_spec_FunctionsOk).add ok_spec_BootBank).add ok_spec_ClockOk).add ok_spec_HostOk).add ok_spec_l42SameFilter) Tryz.func20 (by kernel_rfl) (hF (by kernel_rfl) (cF lok_spec_CardOk_6 nF))) (fun a => by kernel_rfl)
noncomputable def e_spec_SoftOk : GEnt := entOf [.data true TSoft] [(false, .bool)] fun a => Pu.spec_SoftOk a.1
theorem ok_spec_SoftOk : FnOk Tryz.prog 54 e_spec_SoftOk := FnOk.of (fnOk (an := { merge := fun | 1 => some 2 | _ => none }) (Λ := Lam.nil) (((base).add ok_spec_FilterOk).add ok_spec_SteeringOk) Tryz.func54 (by kernel_rfl) (hF (by kernel_rfl) nF)) (fun a => by kernel_rfl)
noncomputable def e_spec_IdealOk : GEnt := entOf [.data true TIdeal] [(false, .bool)] fun a => Pu.spec_IdealOk a.1
noncomputable def g_spec_IdealOk : Gam := ((((Gam.nil).add 48 e_spec_PortsOf).add 49 e_spec_FunctionsOk).add 53 e_spec_l42SameFilter).add 54 e_spec_SoftOk
def n_spec_IdealOk : An := { mask := fun | 6 => [1, 2, 5, 6] | _ => [], merge := fun | 3 => some 45 | 8 => some 94 | _ => none }
@[reducible] def d_spec_IdealOk_6 : SD := ⟨[B,.ptr 1 0,DB,B,B,DI,DI,B,B,B,B,B,B,B,B,B,B,B,B,B,B,B,B,B,B,B,B,B,B,B,B,B,B,B,B,B,B,B,B,B,B,B,B,B,B,B,B,B,B,B,B,B,B,B,B,B,B,B,B,B,B,B,B,B,B,B,B,B,B,B,B,B,B,B,B,B,B,B,B,B,B,B,B,B,B,B,B,B,B,B,B,B,B,B,B], [Z,some (.pair (.sl .arg TSoft) (.pair (.sl .arg (.sl .str)) (.pair (.sl .arg TVirtualFunction) (.pair (.sl .arg TMailbox) (.sl .arg .str))))),Z,Z,Z,Z,Z,Z,Z,Z,Z,Z,Z,Z,Z,Z,Z,Z,Z,Z,Z,Z,Z,Z,Z,Z,Z,Z,Z,Z,Z,Z,Z,Z,Z,Z,Z,Z,Z,Z,Z,Z,Z,Z,Z,Z,Z,Z,Z,Z,Z,Z,Z,Z,Z,Z,Z,Z,Z,Z,Z,Z,Z,Z,Z,Z,Z,Z,Z,Z,Z,Z,Z,Z,Z,Z,Z,Z,Z,Z,Z,Z,Z,Z,Z,Z,Z,Z,Z,Z,Z,Z,Z,Z,Z], none⟩
noncomputable def t_spec_IdealOk_6 {R : Type} (X : SD.D d_spec_IdealOk_6) (K : Ex → AS → Option R) := Pu.spec_IdealOk_T6 (fun y0 => K (.exit 0) (SD.enc d_spec_IdealOk_6 ((X.1.1, (X.1.2.1, (y0, ()))), (X.2.1.1, ()), ()))) (fun y0 y1 => K .ret (SD.enc d_spec_IdealOk_6 ((y0, (X.1.2.1, (y1, ()))), (X.2.1.1, ()), ()))) X.1.1 X.1.2.1 X.2.1.1
noncomputable def l_spec_IdealOk_6 : LEnt := ⟨d_spec_IdealOk_6, fun X K => iterL (t_spec_IdealOk_6 X K) fuel X.1.2.2.1⟩
noncomputable def L_spec_IdealOk : Lam := (Lam.nil).add 6 l_spec_IdealOk_6
theorem lok_spec_IdealOk_6 : LOk E g_spec_IdealOk n_spec_IdealOk L_spec_IdealOk (loopBody Tryz.f21 0) :=
  lok l_spec_IdealOk_6 (by kernel_rfl) fuel fun R X K => (loop_iter (σ := Int) (fun x => SD.enc d_spec_IdealOk_6 ((X.1.1, (X.1.2.1, (x, ()))), (X.2.1.1, ()), ())) (t_spec_IdealOk_6 X K) (fun m x => by kernel_rfl) fuel X.1.2.2.1).symm
theorem ok_spec_IdealOk : FnOk Tryz.prog 21 e_spec_IdealOk := FnOk.of (fnOk (Γ := g_spec_IdealOk) (an := n_spec_IdealOk) (Λ := L_spec_IdealOk) (((((base).add ok_spec_PortsOf).add ok_spec_FunctionsOk).add ok_spec_l42SameFilter).add ok_spec_SoftOk) Tryz.func21 (by kernel_rfl) (hF (by kernel_rfl) (cF lok_spec_IdealOk_6 nF))) (fun a => by kernel_rfl)
noncomputable def e_spec_StreamIndex : GEnt := entOf [.data false (.sl TStream), .data true TFlow] [(false, (.int .i64))] fun a => Pu.spec_StreamIndex a.1 a.2.1
noncomputable def g_spec_StreamIndex : Gam := Gam.nil
def n_spec_StreamIndex : An := { mask := fun | 2 => [0, 3, 4, 5] | _ => [] }
@[reducible] def d_spec_StreamIndex_2 : SD := ⟨[.data false (.sl .arg TStream),B,B,.ptr 3 0,DI,DI,B,B,B,B,B,B,B,B,B,B,B,B,B,B], [Z,Z,Z,some (.pair (.int .i64) (.pair (.int .i64) (.pair (.int .i64) (.pair (.int .i64) (.int .i64))))),Z,Z,Z,Z,Z,Z,Z,Z,Z,Z,Z,Z,Z,Z,Z,Z], none⟩
noncomputable def t_spec_StreamIndex_2 {R : Type} (X : SD.D d_spec_StreamIndex_2) (K : Ex → AS → Option R) := Pu.spec_StreamIndex_T2 (fun y0 => K (.exit 0) (SD.enc d_spec_StreamIndex_2 ((X.1.1, (X.1.2.1, (y0, ()))), (X.2.1.1, ()), ()))) (fun y0 y1 => K .ret (SD.enc d_spec_StreamIndex_2 ((X.1.1, (y0, (y1, ()))), (X.2.1.1, ()), ()))) X.1.1 X.1.2.1 X.2.1.1
noncomputable def l_spec_StreamIndex_2 : LEnt := ⟨d_spec_StreamIndex_2, fun X K => iterL (t_spec_StreamIndex_2 X K) fuel X.1.2.2.1⟩
noncomputable def L_spec_StreamIndex : Lam := (Lam.nil).add 2 l_spec_StreamIndex_2
theorem lok_spec_StreamIndex_2 : LOk E g_spec_StreamIndex n_spec_StreamIndex L_spec_StreamIndex (loopBody Tryz.f100 0) :=
  lok l_spec_StreamIndex_2 (by kernel_rfl) fuel fun R X K => (loop_iter (σ := Int) (fun x => SD.enc d_spec_StreamIndex_2 ((X.1.1, (X.1.2.1, (x, ()))), (X.2.1.1, ()), ())) (t_spec_StreamIndex_2 X K) (fun m x => by kernel_rfl) fuel X.1.2.2.1).symm
theorem ok_spec_StreamIndex : FnOk Tryz.prog 100 e_spec_StreamIndex := FnOk.of (fnOk (Γ := g_spec_StreamIndex) (an := n_spec_StreamIndex) (Λ := L_spec_StreamIndex) (base) Tryz.func100 (by kernel_rfl) (hF (by kernel_rfl) (cF lok_spec_StreamIndex_2 nF))) (fun a => by kernel_rfl)
noncomputable def e_spec_l40Within : GEnt := entOf [.data false (.sl TStream), .data false (.sl TStream)] [(false, .bool)] fun a => Pu.spec_l40Within a.1 a.2.1
noncomputable def g_spec_l40Within : Gam := (Gam.nil).add 100 e_spec_StreamIndex
def n_spec_l40Within : An := { mask := fun | 2 => [0, 1, 4, 5] | _ => [], merge := fun | 6 => some 40 | _ => none }
@[reducible] def d_spec_l40Within_2 : SD := ⟨[.data false (.sl .arg TStream),.data false (.sl .arg TStream),B,B,DB,DI,B,B,B,B,B,B,B,B,B,B,B,B,B,B,B,B,B,B,B,B,B,B,B,B,B,B,B,B,B,B,B,B,B,B,B], [Z,Z,Z,Z,Z,Z,Z,Z,Z,Z,Z,Z,Z,Z,Z,Z,Z,Z,Z,Z,Z,Z,Z,Z,Z,Z,Z,Z,Z,Z,Z,Z,Z,Z,Z,Z,Z,Z,Z,Z,Z], none⟩
noncomputable def t_spec_l40Within_2 {R : Type} (X : SD.D d_spec_l40Within_2) (K : Ex → AS → Option R) := Pu.spec_l40Within_T2 (fun y0 => K (.exit 0) (SD.enc d_spec_l40Within_2 ((X.1.1, (X.1.2.1, (X.1.2.2.1, (y0, ())))), (), ()))) (fun y0 y1 => K .ret (SD.enc d_spec_l40Within_2 ((X.1.1, (X.1.2.1, (y0, (y1, ())))), (), ()))) X.1.1 X.1.2.1 X.1.2.2.1
noncomputable def l_spec_l40Within_2 : LEnt := ⟨d_spec_l40Within_2, fun X K => iterL (t_spec_l40Within_2 X K) fuel X.1.2.2.2.1⟩
noncomputable def L_spec_l40Within : Lam := (Lam.nil).add 2 l_spec_l40Within_2
theorem lok_spec_l40Within_2 : LOk E g_spec_l40Within n_spec_l40Within L_spec_l40Within (loopBody Tryz.f55 0) :=
  lok l_spec_l40Within_2 (by kernel_rfl) fuel fun R X K => (loop_iter (σ := Int) (fun x => SD.enc d_spec_l40Within_2 ((X.1.1, (X.1.2.1, (X.1.2.2.1, (x, ())))), (), ())) (t_spec_l40Within_2 X K) (fun m x => by kernel_rfl) fuel X.1.2.2.2.1).symm
theorem ok_spec_l40Within : FnOk Tryz.prog 55 e_spec_l40Within := FnOk.of (fnOk (Γ := g_spec_l40Within) (an := n_spec_l40Within) (Λ := L_spec_l40Within) ((base).add ok_spec_StreamIndex) Tryz.func55 (by kernel_rfl) (hF (by kernel_rfl) (cF lok_spec_l40Within_2 nF))) (fun a => by kernel_rfl)
noncomputable def e_spec_SameData : GEnt := entOf [.data false (.sl TStream), .data false (.sl TStream)] [(false, .bool)] fun a => Pu.spec_SameData a.1 a.2.1
theorem ok_spec_SameData : FnOk Tryz.prog 22 e_spec_SameData := FnOk.of (fnOk (an := { merge := fun | 1 => some 4 | _ => none }) (Λ := Lam.nil) ((base).add ok_spec_l40Within) Tryz.func22 (by kernel_rfl) (hF (by kernel_rfl) nF)) (fun a => by kernel_rfl)
noncomputable def e_spec_SameWorld : GEnt := entOf [.data true TCard, .data true TIdeal] [(false, .bool)] fun a => Pu.spec_SameWorld a.1 a.2.1
noncomputable def g_spec_SameWorld : Gam := (((Gam.nil).add 20 e_spec_CardOk).add 21 e_spec_IdealOk).add 22 e_spec_SameData
def n_spec_SameWorld : An := { mask := fun | 4 => [2, 3, 4, 5] | 9 => [2, 3, 4, 6] | _ => [], merge := fun | 1 => some 32 | 6 => some 66 | _ => none }
@[reducible] def d_spec_SameWorld_4 : SD := ⟨[B,B,.ptr 2 0,.ptr 3 0,DB,DI,B,B,B,B,B,B,B,B,B,B,B,B,B,B,B,B,B,B,B,B,B,B,B,B,B,B,B,B,B,B,B,B,B,B,B,B,B,B,B,B,B,B,B,B,B,B,B,B,B,B,B,B,B,B,B,B,B,B,B,B,B,B,B,B,B,B,B,B,B,B,B,B,B,B,B,B,B,B,B], [Z,Z,some (.pair (.sl .arg THost) (.pair (.sl .arg TVirtualFunction) (.pair (.sl .arg TMailbox) (.pair (.sl .arg .str) (.pair (.pair (.int .i64) (.pair (.int .i64) (.pair (.int .i64) (.int .i64)))) (.pair (.sl .arg (.int .i64)) (.sl .arg .str))))))),some (.pair (.sl .arg TSoft) (.pair (.sl .arg (.sl .str)) (.pair (.sl .arg TVirtualFunction) (.pair (.sl .arg TMailbox) (.sl .arg .str))))),Z,Z,Z,Z,Z,Z,Z,Z,Z,Z,Z,Z,Z,Z,Z,Z,Z,Z,Z,Z,Z,Z,Z,Z,Z,Z,Z,Z,Z,Z,Z,Z,Z,Z,Z,Z,Z,Z,Z,Z,Z,Z,Z,Z,Z,Z,Z,Z,Z,Z,Z,Z,Z,Z,Z,Z,Z,Z,Z,Z,Z,Z,Z,Z,Z,Z,Z,Z,Z,Z,Z,Z,Z,Z,Z,Z,Z,Z,Z,Z,Z], none⟩
noncomputable def t_spec_SameWorld_4 {R : Type} (X : SD.D d_spec_SameWorld_4) (K : Ex → AS → Option R) := Pu.spec_SameWorld_T4 (fun y0 => K (.exit 0) (SD.enc d_spec_SameWorld_4 ((X.1.1, (y0, ())), (X.2.1.1, (X.2.1.2.1, ())), ()))) (fun y0 y1 => K .ret (SD.enc d_spec_SameWorld_4 ((y0, (y1, ())), (X.2.1.1, (X.2.1.2.1, ())), ()))) X.1.1 X.2.1.1 X.2.1.2.1
noncomputable def l_spec_SameWorld_4 : LEnt := ⟨d_spec_SameWorld_4, fun X K => iterL (t_spec_SameWorld_4 X K) fuel X.1.2.1⟩
@[reducible] def d_spec_SameWorld_9 : SD := ⟨[B,B,.ptr 2 0,.ptr 3 0,DB,B,DI,B,B,B,B,B,B,B,B,B,B,B,B,B,B,B,B,B,B,B,B,B,B,B,B,B,B,B,B,B,B,B,B,B,B,B,B,B,B,B,B,B,B,B,B,B,B,B,B,B,B,B,B,B,B,B,B,B,B,B,B,B,B,B,B,B,B,B,B,B,B,B,B,B,B,B,B,B,B], [Z,Z,some (.pair (.sl .arg THost) (.pair (.sl .arg TVirtualFunction) (.pair (.sl .arg TMailbox) (.pair (.sl .arg .str) (.pair (.pair (.int .i64) (.pair (.int .i64) (.pair (.int .i64) (.int .i64)))) (.pair (.sl .arg (.int .i64)) (.sl .arg .str))))))),some (.pair (.sl .arg TSoft) (.pair (.sl .arg (.sl .str)) (.pair (.sl .arg TVirtualFunction) (.pair (.sl .arg TMailbox) (.sl .arg .str))))),Z,Z,Z,Z,Z,Z,Z,Z,Z,Z,Z,Z,Z,Z,Z,Z,Z,Z,Z,Z,Z,Z,Z,Z,Z,Z,Z,Z,Z,Z,Z,Z,Z,Z,Z,Z,Z,Z,Z,Z,Z,Z,Z,Z,Z,Z,Z,Z,Z,Z,Z,Z,Z,Z,Z,Z,Z,Z,Z,Z,Z,Z,Z,Z,Z,Z,Z,Z,Z,Z,Z,Z,Z,Z,Z,Z,Z,Z,Z,Z,Z], none⟩
noncomputable def t_spec_SameWorld_9 {R : Type} (X : SD.D d_spec_SameWorld_9) (K : Ex → AS → Option R) := Pu.spec_SameWorld_T9 (fun y0 => K (.exit 2) (SD.enc d_spec_SameWorld_9 ((X.1.1, (y0, ())), (X.2.1.1, (X.2.1.2.1, ())), ()))) (fun y0 y1 => K .ret (SD.enc d_spec_SameWorld_9 ((y0, (y1, ())), (X.2.1.1, (X.2.1.2.1, ())), ()))) X.1.1 X.2.1.1 X.2.1.2.1
noncomputable def l_spec_SameWorld_9 : LEnt := ⟨d_spec_SameWorld_9, fun X K => iterL (t_spec_SameWorld_9 X K) fuel X.1.2.1⟩
noncomputable def L_spec_SameWorld : Lam := ((Lam.nil).add 4 l_spec_SameWorld_4).add 9 l_spec_SameWorld_9
theorem lok_spec_SameWorld_4 : LOk E g_spec_SameWorld n_spec_SameWorld L_spec_SameWorld (loopBody Tryz.f6 0) :=
  lok l_spec_SameWorld_4 (by kernel_rfl) fuel fun R X K => (loop_iter (σ := Int) (fun x => SD.enc d_spec_SameWorld_4 ((X.1.1, (x, ())), (X.2.1.1, (X.2.1.2.1, ())), ())) (t_spec_SameWorld_4 X K) (fun m x => by kernel_rfl) fuel X.1.2.1).symm
theorem lok_spec_SameWorld_9 : LOk E g_spec_SameWorld n_spec_SameWorld L_spec_SameWorld (loopBody Tryz.f6 1) :=
  lok l_spec_SameWorld_9 (by kernel_rfl) fuel fun R X K => (loop_iter (σ := Int) (fun x => SD.enc d_spec_SameWorld_9 ((X.1.1, (x, ())), (X.2.1.1, (X.2.1.2.1, ())), ())) (t_spec_SameWorld_9 X K) (fun m x => by kernel_rfl) fuel X.1.2.1).symm
theorem ok_spec_SameWorld : FnOk Tryz.prog 6 e_spec_SameWorld := FnOk.of (fnOk (Γ := g_spec_SameWorld) (an := n_spec_SameWorld) (Λ := L_spec_SameWorld) ((((base).add ok_spec_CardOk).add ok_spec_IdealOk).add ok_spec_SameData) Tryz.func6 (by kernel_rfl) (hF (by kernel_rfl) (cF lok_spec_SameWorld_4 (cF lok_spec_SameWorld_9 nF)))) (fun a => by kernel_rfl)
noncomputable def e_laws_toIntS : GEnt := entOf [.data false (.sl (.int .i64))] [(false, (.sl (.own none) (.int .i64)))] fun a => Pu.laws_toIntS a.1
noncomputable def g_laws_toIntS : Gam := Gam.nil
def n_laws_toIntS : An := { mask := fun | 3 => [0, 3, 4] | _ => [], mv := [21] }
@[reducible] def d_laws_toIntS_3 : SD := ⟨[.data false (.sl .arg (.int .i64)),B,B,.data false (.sl (.own (some 36864)) (.int .i64)),DI,B,B,B,B,B,B,B,B,B,B,B,B,B,B,B,B,B], [Z,Z,Z,Z,Z,Z,Z,Z,Z,Z,Z,Z,Z,Z,Z,Z,Z,Z,Z,Z,Z,Z], none⟩
noncomputable def t_laws_toIntS_3 {R : Type} (X : SD.D d_laws_toIntS_3) (K : Ex → AS → Option R) := Pu.laws_toIntS_T3 (fun y0 y1 => K (.exit 0) (SD.enc d_laws_toIntS_3 ((X.1.1, (y0, (y1, ()))), (), ()))) X.1.1
noncomputable def l_laws_toIntS_3 : LEnt := ⟨d_laws_toIntS_3, fun X K => iterL (t_laws_toIntS_3 X K) fuel (X.1.2.1, X.1.2.2.1)⟩
noncomputable def L_laws_toIntS : Lam := (Lam.nil).add 3 l_laws_toIntS_3
theorem lok_laws_toIntS_3 : LOk E g_laws_toIntS n_laws_toIntS L_laws_toIntS (loopBody Tryz.f28 0) :=
  lok l_laws_toIntS_3 (by kernel_rfl) fuel fun R X K => (loop_iter (σ := (List Int) × Int) (fun x => SD.enc d_laws_toIntS_3 ((X.1.1, (x.1, (x.2, ()))), (), ())) (t_laws_toIntS_3 X K) (fun m x => by kernel_rfl) fuel (X.1.2.1, X.1.2.2.1)).symm
theorem ok_laws_toIntS : FnOk Tryz.prog 28 e_laws_toIntS := FnOk.of (fnOk (Γ := g_laws_toIntS) (an := n_laws_toIntS) (Λ := L_laws_toIntS) (base) Tryz.func28 (by kernel_rfl) (hF (by kernel_rfl) (cF lok_laws_toIntS_3 nF))) (fun a => by kernel_rfl)
noncomputable def e_laws_toStringS : GEnt := entOf [.data false (.sl .str)] [(false, (.sl (.own none) .str))] fun a => Pu.laws_toStringS a.1
noncomputable def g_laws_toStringS : Gam := Gam.nil
def n_laws_toStringS : An := { mask := fun | 3 => [0, 3, 4] | _ => [], mv := [21] }
@[reducible] def d_laws_toStringS_3 : SD := ⟨[.data false (.sl .arg .str),B,B,.data false (.sl (.own (some 36864)) .str),DI,B,B,B,B,B,B,B,B,B,B,B,B,B,B,B,B,B], [Z,Z,Z,Z,Z,Z,Z,Z,Z,Z,Z,Z,Z,Z,Z,Z,Z,Z,Z,Z,Z,Z], none⟩
noncomputable def t_laws_toStringS_3 {R : Type} (X : SD.D d_laws_toStringS_3) (K : Ex → AS → Option R) := Pu.laws_toStringS_T3 (fun y0 y1 => K (.exit 0) (SD.enc d_laws_toStringS_3 ((X.1.1, (y0, (y1, ()))), (), ()))) X.1.1
noncomputable def l_laws_toStringS_3 : LEnt := ⟨d_laws_toStringS_3, fun X K => iterL (t_laws_toStringS_3 X K) fuel (X.1.2.1, X.1.2.2.1)⟩
noncomputable def L_laws_toStringS : Lam := (Lam.nil).add 3 l_laws_toStringS_3
theorem lok_laws_toStringS_3 : LOk E g_laws_toStringS n_laws_toStringS L_laws_toStringS (loopBody Tryz.f29 0) :=
  lok l_laws_toStringS_3 (by kernel_rfl) fuel fun R X K => (loop_iter (σ := (List Pu.Bytes) × Int) (fun x => SD.enc d_laws_toStringS_3 ((X.1.1, (x.1, (x.2, ()))), (), ())) (t_laws_toStringS_3 X K) (fun m x => by kernel_rfl) fuel (X.1.2.1, X.1.2.2.1)).symm
theorem ok_laws_toStringS : FnOk Tryz.prog 29 e_laws_toStringS := FnOk.of (fnOk (Γ := g_laws_toStringS) (an := n_laws_toStringS) (Λ := L_laws_toStringS) (base) Tryz.func29 (by kernel_rfl) (hF (by kernel_rfl) (cF lok_laws_toStringS_3 nF))) (fun a => by kernel_rfl)
noncomputable def e_laws_toMemory : GEnt := entOf [.data true (.sl .str)] [(true, (.sl (.own none) .str))] fun a => Pu.laws_toMemory a.1
theorem ok_laws_toMemory : FnOk Tryz.prog 101 e_laws_toMemory := FnOk.of (fnOk (an := { mv := [8] }) (Λ := Lam.nil) ((base).add ok_laws_toStringS) Tryz.func101 (by kernel_rfl) (hF (by kernel_rfl) nF)) (fun a => by kernel_rfl)
noncomputable def e_laws_toMapping : GEnt := entOf [.data true TMapping] [(true, (.pair (.int .i64) (.pair (.int .i64) (.pair (.int .i64) .bool))))] fun a => Pu.laws_toMapping a.1
theorem ok_laws_toMapping : FnOk Tryz.prog 161 e_laws_toMapping := FnOk.of (fnOk (an := {}) (Λ := Lam.nil) (base) Tryz.func161 (by kernel_rfl) (hF (by kernel_rfl) nF)) (fun a => by kernel_rfl)
noncomputable def e_laws_toMappingS : GEnt := entOf [.data false (.sl TMapping)] [(false, (.sl (.own none) TMapping))] fun a => Pu.laws_toMappingS a.1
noncomputable def g_laws_toMappingS : Gam := (Gam.nil).add 161 e_laws_toMapping
def n_laws_toMappingS : An := { mask := fun | 3 => [0, 3, 4] | _ => [], mv := [22] }
@[reducible] def d_laws_toMappingS_3 : SD := ⟨[.data false (.sl .arg TMapping),B,B,.data false (.sl (.own (some 36864)) TMapping),DI,B,B,B,B,B,B,B,B,B,B,B,B,B,B,B,B,B,B], [Z,Z,Z,Z,Z,Z,Z,Z,Z,Z,Z,Z,Z,Z,Z,Z,Z,Z,Z,Z,Z,Z,Z], none⟩
noncomputable def t_laws_toMappingS_3 {R : Type} (X : SD.D d_laws_toMappingS_3) (K : Ex → AS → Option R) := Pu.laws_toMappingS_T3 (fun y0 y1 => K (.exit 0) (SD.enc d_laws_toMappingS_3 ((X.1.1, (y0, (y1, ()))), (), ()))) X.1.1
noncomputable def l_laws_toMappingS_3 : LEnt := ⟨d_laws_toMappingS_3, fun X K => iterL (t_laws_toMappingS_3 X K) fuel (X.1.2.1, X.1.2.2.1)⟩
noncomputable def L_laws_toMappingS : Lam := (Lam.nil).add 3 l_laws_toMappingS_3
theorem lok_laws_toMappingS_3 : LOk E g_laws_toMappingS n_laws_toMappingS L_laws_toMappingS (loopBody Tryz.f102 0) :=
  lok l_laws_toMappingS_3 (by kernel_rfl) fuel fun R X K => (loop_iter (σ := (List Pu.Mapping) × Int) (fun x => SD.enc d_laws_toMappingS_3 ((X.1.1, (x.1, (x.2, ()))), (), ())) (t_laws_toMappingS_3 X K) (fun m x => by kernel_rfl) fuel (X.1.2.1, X.1.2.2.1)).symm
theorem ok_laws_toMappingS : FnOk Tryz.prog 102 e_laws_toMappingS := FnOk.of (fnOk (Γ := g_laws_toMappingS) (an := n_laws_toMappingS) (Λ := L_laws_toMappingS) ((base).add ok_laws_toMapping) Tryz.func102 (by kernel_rfl) (hF (by kernel_rfl) (cF lok_laws_toMappingS_3 nF))) (fun a => by kernel_rfl)
noncomputable def e_laws_toRing : GEnt := entOf [.data true TClock] [(true, (.pair (.int .i64) (.pair (.int .i64) (.pair (.int .i64) (.int .i64)))))] fun a => Pu.laws_toRing a.1
theorem ok_laws_toRing : FnOk Tryz.prog 162 e_laws_toRing := FnOk.of (fnOk (an := {}) (Λ := Lam.nil) (base) Tryz.func162 (by kernel_rfl) (hF (by kernel_rfl) nF)) (fun a => by kernel_rfl)
noncomputable def e_laws_toPool : GEnt := entOf [.data true TPool] [(true, (.pair (.int .i64) (.pair (.int .i64) (.pair (.int .i64) (.sl (.own none) (.int .i64))))))] fun a => Pu.laws_toPool a.1
theorem ok_laws_toPool : FnOk Tryz.prog 163 e_laws_toPool := FnOk.of (fnOk (an := { mv := [17] }) (Λ := Lam.nil) ((base).add ok_laws_toIntS) Tryz.func163 (by kernel_rfl) (hF (by kernel_rfl) nF)) (fun a => by kernel_rfl)
noncomputable def e_laws_toSent : GEnt := entOf [.data true TSent] [(true, (.pair (.int .i64) (.pair (.int .i64) (.sl (.own none) (.int .i64)))))] fun a => Pu.laws_toSent a.1
theorem ok_laws_toSent : FnOk Tryz.prog 208 e_laws_toSent := FnOk.of (fnOk (an := { mv := [14] }) (Λ := Lam.nil) ((base).add ok_laws_toIntS) Tryz.func208 (by kernel_rfl) (hF (by kernel_rfl) nF)) (fun a => by kernel_rfl)
noncomputable def e_laws_toSentS : GEnt := entOf [.data false (.sl TSent)] [(false, (.sl (.own none) TSent))] fun a => Pu.laws_toSentS a.1
noncomputable def g_laws_toSentS : Gam := (Gam.nil).add 208 e_laws_toSent
def n_laws_toSentS : An := { mask := fun | 3 => [0, 3, 4] | _ => [], mv := [22] }
@[reducible] def d_laws_toSentS_3 : SD := ⟨[.data false (.sl .arg TSent),B,B,.data false (.sl (.own (some 36864)) TSent),DI,B,B,B,B,B,B,B,B,B,B,B,B,B,B,B,B,B,B], [Z,Z,Z,Z,Z,Z,Z,Z,Z,Z,Z,Z,Z,Z,Z,Z,Z,Z,Z,Z,Z,Z,Z], none⟩
noncomputable def t_laws_toSentS_3 {R : Type} (X : SD.D d_laws_toSentS_3) (K : Ex → AS → Option R) := Pu.laws_toSentS_T3 (fun y0 y1 => K (.exit 0) (SD.enc d_laws_toSentS_3 ((X.1.1, (y0, (y1, ()))), (), ()))) X.1.1
noncomputable def l_laws_toSentS_3 : LEnt := ⟨d_laws_toSentS_3, fun X K => iterL (t_laws_toSentS_3 X K) fuel (X.1.2.1, X.1.2.2.1)⟩
noncomputable def L_laws_toSentS : Lam := (Lam.nil).add 3 l_laws_toSentS_3
theorem lok_laws_toSentS_3 : LOk E g_laws_toSentS n_laws_toSentS L_laws_toSentS (loopBody Tryz.f164 0) :=
  lok l_laws_toSentS_3 (by kernel_rfl) fuel fun R X K => (loop_iter (σ := (List Pu.Sent) × Int) (fun x => SD.enc d_laws_toSentS_3 ((X.1.1, (x.1, (x.2, ()))), (), ())) (t_laws_toSentS_3 X K) (fun m x => by kernel_rfl) fuel (X.1.2.1, X.1.2.2.1)).symm
theorem ok_laws_toSentS : FnOk Tryz.prog 164 e_laws_toSentS := FnOk.of (fnOk (Γ := g_laws_toSentS) (an := n_laws_toSentS) (Λ := L_laws_toSentS) ((base).add ok_laws_toSent) Tryz.func164 (by kernel_rfl) (hF (by kernel_rfl) (cF lok_laws_toSentS_3 nF))) (fun a => by kernel_rfl)
noncomputable def e_laws_toTxQueue : GEnt := entOf [.data true TTxQueue] [(true, (.pair (.pair (.int .i64) (.pair (.int .i64) (.pair (.int .i64) (.int .i64)))) (.pair (.pair (.int .i64) (.pair (.int .i64) (.pair (.int .i64) (.sl (.own none) (.int .i64))))) (.pair (.sl (.own none) TSent) (.int .i64)))))] fun a => Pu.laws_toTxQueue a.1
theorem ok_laws_toTxQueue : FnOk Tryz.prog 103 e_laws_toTxQueue := FnOk.of (fnOk (an := { mv := [19] }) (Λ := Lam.nil) ((((base).add ok_laws_toRing).add ok_laws_toPool).add ok_laws_toSentS) Tryz.func103 (by kernel_rfl) (hF (by kernel_rfl) nF)) (fun a => by kernel_rfl)
noncomputable def e_laws_toCompletionQueue : GEnt := entOf [.data true TBucket] [(true, (.pair (.int .i64) (.pair (.int .i64) (.int .i64))))] fun a => Pu.laws_toCompletionQueue a.1
theorem ok_laws_toCompletionQueue : FnOk Tryz.prog 209 e_laws_toCompletionQueue := FnOk.of (fnOk (an := {}) (Λ := Lam.nil) (base) Tryz.func209 (by kernel_rfl) (hF (by kernel_rfl) nF)) (fun a => by kernel_rfl)
noncomputable def e_laws_toSegment : GEnt := entOf [.data true TSegment] [(true, (.pair (.int .i64) (.pair (.int .i64) (.pair (.int .i64) (.pair (.int .i64) (.pair (.int .i64) (.pair (.int .i64) (.pair (.int .i64) .str))))))))] fun a => Pu.laws_toSegment a.1
theorem ok_laws_toSegment : FnOk Tryz.prog 241 e_laws_toSegment := FnOk.of (fnOk (an := {}) (Λ := Lam.nil) (base) Tryz.func241 (by kernel_rfl) (hF (by kernel_rfl) nF)) (fun a => by kernel_rfl)
noncomputable def e_laws_toPacket : GEnt := entOf [.data true TPacket] [(true, (.pair (.int .i64) (.pair (.int .i64) (.pair (.int .i64) (.pair (.int .i64) (.pair (.int .i64) (.pair (.int .i64) (.pair (.int .i64) (.pair (.int .i64) (.pair (.int .i64) (.pair (.int .i64) (.pair (.int .i64) (.pair (.int .i64) (.pair (.int .i64) (.pair (.int .i64) (.pair (.int .i64) .str))))))))))))))))] fun a => Pu.laws_toPacket a.1
theorem ok_laws_toPacket : FnOk Tryz.prog 233 e_laws_toPacket := FnOk.of (fnOk (an := {}) (Λ := Lam.nil) ((base).add ok_laws_toSegment) Tryz.func233 (by kernel_rfl) (hF (by kernel_rfl) nF)) (fun a => by kernel_rfl)
noncomputable def e_laws_toSuper : GEnt := entOf [.data true TSuper] [(true, (.pair (.pair (.int .i64) (.pair (.int .i64) (.pair (.int .i64) (.pair (.int .i64) (.pair (.int .i64) (.pair (.int .i64) (.pair (.int .i64) (.pair (.int .i64) (.pair (.int .i64) (.pair (.int .i64) (.pair (.int .i64) (.pair (.int .i64) (.pair (.int .i64) (.pair (.int .i64) (.pair (.int .i64) .str))))))))))))))) (.pair (.int .i64) (.int .i64))))] fun a => Pu.laws_toSuper a.1
theorem ok_laws_toSuper : FnOk Tryz.prog 210 e_laws_toSuper := FnOk.of (fnOk (an := {}) (Λ := Lam.nil) ((base).add ok_laws_toPacket) Tryz.func210 (by kernel_rfl) (hF (by kernel_rfl) nF)) (fun a => by kernel_rfl)
noncomputable def e_laws_toRxQueue : GEnt := entOf [.data true TRxQueue] [(true, (.pair (.pair (.int .i64) (.pair (.int .i64) (.pair (.int .i64) (.int .i64)))) (.pair (.pair (.int .i64) (.pair (.int .i64) (.int .i64))) (.pair (.pair (.int .i64) (.pair (.int .i64) (.int .i64))) (.pair (.pair (.pair (.int .i64) (.pair (.int .i64) (.pair (.int .i64) (.pair (.int .i64) (.pair (.int .i64) (.pair (.int .i64) (.pair (.int .i64) (.pair (.int .i64) (.pair (.int .i64) (.pair (.int .i64) (.pair (.int .i64) (.pair (.int .i64) (.pair (.int .i64) (.pair (.int .i64) (.pair (.int .i64) .str))))))))))))))) (.pair (.int .i64) (.int .i64))) (.pair .bool (.int .i64)))))))] fun a => Pu.laws_toRxQueue a.1
theorem ok_laws_toRxQueue : FnOk Tryz.prog 165 e_laws_toRxQueue := FnOk.of (fnOk (an := {}) (Λ := Lam.nil) ((((base).add ok_laws_toRing).add ok_laws_toCompletionQueue).add ok_laws_toSuper) Tryz.func165 (by kernel_rfl) (hF (by kernel_rfl) nF)) (fun a => by kernel_rfl)
noncomputable def e_laws_toRxQueueS : GEnt := entOf [.data false (.sl TRxQueue)] [(false, (.sl (.own none) TRxQueue))] fun a => Pu.laws_toRxQueueS a.1
noncomputable def g_laws_toRxQueueS : Gam := (Gam.nil).add 165 e_laws_toRxQueue
def n_laws_toRxQueueS : An := { mask := fun | 3 => [0, 3, 4] | _ => [], mv := [22] }
@[reducible] def d_laws_toRxQueueS_3 : SD := ⟨[.data false (.sl .arg TRxQueue),B,B,.data false (.sl (.own (some 36864)) TRxQueue),DI,B,B,B,B,B,B,B,B,B,B,B,B,B,B,B,B,B,B], [Z,Z,Z,Z,Z,Z,Z,Z,Z,Z,Z,Z,Z,Z,Z,Z,Z,Z,Z,Z,Z,Z,Z], none⟩
noncomputable def t_laws_toRxQueueS_3 {R : Type} (X : SD.D d_laws_toRxQueueS_3) (K : Ex → AS → Option R) := Pu.laws_toRxQueueS_T3 (fun y0 y1 => K (.exit 0) (SD.enc d_laws_toRxQueueS_3 ((X.1.1, (y0, (y1, ()))), (), ()))) X.1.1
noncomputable def l_laws_toRxQueueS_3 : LEnt := ⟨d_laws_toRxQueueS_3, fun X K => iterL (t_laws_toRxQueueS_3 X K) fuel (X.1.2.1, X.1.2.2.1)⟩
noncomputable def L_laws_toRxQueueS : Lam := (Lam.nil).add 3 l_laws_toRxQueueS_3
theorem lok_laws_toRxQueueS_3 : LOk E g_laws_toRxQueueS n_laws_toRxQueueS L_laws_toRxQueueS (loopBody Tryz.f104 0) :=
  lok l_laws_toRxQueueS_3 (by kernel_rfl) fuel fun R X K => (loop_iter (σ := (List Pu.RxQueue) × Int) (fun x => SD.enc d_laws_toRxQueueS_3 ((X.1.1, (x.1, (x.2, ()))), (), ())) (t_laws_toRxQueueS_3 X K) (fun m x => by kernel_rfl) fuel (X.1.2.1, X.1.2.2.1)).symm
theorem ok_laws_toRxQueueS : FnOk Tryz.prog 104 e_laws_toRxQueueS := FnOk.of (fnOk (Γ := g_laws_toRxQueueS) (an := n_laws_toRxQueueS) (Λ := L_laws_toRxQueueS) ((base).add ok_laws_toRxQueue) Tryz.func104 (by kernel_rfl) (hF (by kernel_rfl) (cF lok_laws_toRxQueueS_3 nF))) (fun a => by kernel_rfl)
noncomputable def e_laws_toPoolS : GEnt := entOf [.data false (.sl TPool)] [(false, (.sl (.own none) TPool))] fun a => Pu.laws_toPoolS a.1
noncomputable def g_laws_toPoolS : Gam := (Gam.nil).add 163 e_laws_toPool
def n_laws_toPoolS : An := { mask := fun | 3 => [0, 3, 4] | _ => [], mv := [22] }
@[reducible] def d_laws_toPoolS_3 : SD := ⟨[.data false (.sl .arg TPool),B,B,.data false (.sl (.own (some 36864)) TPool),DI,B,B,B,B,B,B,B,B,B,B,B,B,B,B,B,B,B,B], [Z,Z,Z,Z,Z,Z,Z,Z,Z,Z,Z,Z,Z,Z,Z,Z,Z,Z,Z,Z,Z,Z,Z], none⟩
noncomputable def t_laws_toPoolS_3 {R : Type} (X : SD.D d_laws_toPoolS_3) (K : Ex → AS → Option R) := Pu.laws_toPoolS_T3 (fun y0 y1 => K (.exit 0) (SD.enc d_laws_toPoolS_3 ((X.1.1, (y0, (y1, ()))), (), ()))) X.1.1
noncomputable def l_laws_toPoolS_3 : LEnt := ⟨d_laws_toPoolS_3, fun X K => iterL (t_laws_toPoolS_3 X K) fuel (X.1.2.1, X.1.2.2.1)⟩
noncomputable def L_laws_toPoolS : Lam := (Lam.nil).add 3 l_laws_toPoolS_3
theorem lok_laws_toPoolS_3 : LOk E g_laws_toPoolS n_laws_toPoolS L_laws_toPoolS (loopBody Tryz.f105 0) :=
  lok l_laws_toPoolS_3 (by kernel_rfl) fuel fun R X K => (loop_iter (σ := (List Pu.Pool) × Int) (fun x => SD.enc d_laws_toPoolS_3 ((X.1.1, (x.1, (x.2, ()))), (), ())) (t_laws_toPoolS_3 X K) (fun m x => by kernel_rfl) fuel (X.1.2.1, X.1.2.2.1)).symm
theorem ok_laws_toPoolS : FnOk Tryz.prog 105 e_laws_toPoolS := FnOk.of (fnOk (Γ := g_laws_toPoolS) (an := n_laws_toPoolS) (Λ := L_laws_toPoolS) ((base).add ok_laws_toPool) Tryz.func105 (by kernel_rfl) (hF (by kernel_rfl) (cF lok_laws_toPoolS_3 nF))) (fun a => by kernel_rfl)
noncomputable def e_laws_toVector : GEnt := entOf [.data true TVector] [(true, (.pair (.int .i64) (.pair (.int .i64) (.pair (.int .i64) (.pair (.int .i64) (.pair .bool .bool))))))] fun a => Pu.laws_toVector a.1
theorem ok_laws_toVector : FnOk Tryz.prog 166 e_laws_toVector := FnOk.of (fnOk (an := {}) (Λ := Lam.nil) (base) Tryz.func166 (by kernel_rfl) (hF (by kernel_rfl) nF)) (fun a => by kernel_rfl)
noncomputable def e_laws_toVectorS : GEnt := entOf [.data false (.sl TVector)] [(false, (.sl (.own none) TVector))] fun a => Pu.laws_toVectorS a.1
noncomputable def g_laws_toVectorS : Gam := (Gam.nil).add 166 e_laws_toVector
def n_laws_toVectorS : An := { mask := fun | 3 => [0, 3, 4] | _ => [], mv := [22] }
@[reducible] def d_laws_toVectorS_3 : SD := ⟨[.data false (.sl .arg TVector),B,B,.data false (.sl (.own (some 36864)) TVector),DI,B,B,B,B,B,B,B,B,B,B,B,B,B,B,B,B,B,B], [Z,Z,Z,Z,Z,Z,Z,Z,Z,Z,Z,Z,Z,Z,Z,Z,Z,Z,Z,Z,Z,Z,Z], none⟩
noncomputable def t_laws_toVectorS_3 {R : Type} (X : SD.D d_laws_toVectorS_3) (K : Ex → AS → Option R) := Pu.laws_toVectorS_T3 (fun y0 y1 => K (.exit 0) (SD.enc d_laws_toVectorS_3 ((X.1.1, (y0, (y1, ()))), (), ()))) X.1.1
noncomputable def l_laws_toVectorS_3 : LEnt := ⟨d_laws_toVectorS_3, fun X K => iterL (t_laws_toVectorS_3 X K) fuel (X.1.2.1, X.1.2.2.1)⟩
noncomputable def L_laws_toVectorS : Lam := (Lam.nil).add 3 l_laws_toVectorS_3
theorem lok_laws_toVectorS_3 : LOk E g_laws_toVectorS n_laws_toVectorS L_laws_toVectorS (loopBody Tryz.f106 0) :=
  lok l_laws_toVectorS_3 (by kernel_rfl) fuel fun R X K => (loop_iter (σ := (List Pu.Vector) × Int) (fun x => SD.enc d_laws_toVectorS_3 ((X.1.1, (x.1, (x.2, ()))), (), ())) (t_laws_toVectorS_3 X K) (fun m x => by kernel_rfl) fuel (X.1.2.1, X.1.2.2.1)).symm
theorem ok_laws_toVectorS : FnOk Tryz.prog 106 e_laws_toVectorS := FnOk.of (fnOk (Γ := g_laws_toVectorS) (an := n_laws_toVectorS) (Λ := L_laws_toVectorS) ((base).add ok_laws_toVector) Tryz.func106 (by kernel_rfl) (hF (by kernel_rfl) (cF lok_laws_toVectorS_3 nF))) (fun a => by kernel_rfl)
noncomputable def e_laws_toBoolS : GEnt := entOf [.data false (.sl .bool)] [(false, (.sl (.own none) .bool))] fun a => Pu.laws_toBoolS a.1
noncomputable def g_laws_toBoolS : Gam := Gam.nil
def n_laws_toBoolS : An := { mask := fun | 3 => [0, 3, 4] | _ => [], mv := [21] }
@[reducible] def d_laws_toBoolS_3 : SD := ⟨[.data false (.sl .arg .bool),B,B,.data false (.sl (.own (some 36864)) .bool),DI,B,B,B,B,B,B,B,B,B,B,B,B,B,B,B,B,B], [Z,Z,Z,Z,Z,Z,Z,Z,Z,Z,Z,Z,Z,Z,Z,Z,Z,Z,Z,Z,Z,Z], none⟩
noncomputable def t_laws_toBoolS_3 {R : Type} (X : SD.D d_laws_toBoolS_3) (K : Ex → AS → Option R) := Pu.laws_toBoolS_T3 (fun y0 y1 => K (.exit 0) (SD.enc d_laws_toBoolS_3 ((X.1.1, (y0, (y1, ()))), (), ()))) X.1.1
noncomputable def l_laws_toBoolS_3 : LEnt := ⟨d_laws_toBoolS_3, fun X K => iterL (t_laws_toBoolS_3 X K) fuel (X.1.2.1, X.1.2.2.1)⟩
noncomputable def L_laws_toBoolS : Lam := (Lam.nil).add 3 l_laws_toBoolS_3
theorem lok_laws_toBoolS_3 : LOk E g_laws_toBoolS n_laws_toBoolS L_laws_toBoolS (loopBody Tryz.f107 0) :=
  lok l_laws_toBoolS_3 (by kernel_rfl) fuel fun R X K => (loop_iter (σ := (List Bool) × Int) (fun x => SD.enc d_laws_toBoolS_3 ((X.1.1, (x.1, (x.2, ()))), (), ())) (t_laws_toBoolS_3 X K) (fun m x => by kernel_rfl) fuel (X.1.2.1, X.1.2.2.1)).symm
theorem ok_laws_toBoolS : FnOk Tryz.prog 107 e_laws_toBoolS := FnOk.of (fnOk (Γ := g_laws_toBoolS) (an := n_laws_toBoolS) (Λ := L_laws_toBoolS) (base) Tryz.func107 (by kernel_rfl) (hF (by kernel_rfl) (cF lok_laws_toBoolS_3 nF))) (fun a => by kernel_rfl)
noncomputable def e_laws_toFilter : GEnt := entOf [.data true TFilter] [(true, (.pair (.int .i64) (.pair .bool (.sl (.own none) (.int .i64)))))] fun a => Pu.laws_toFilter a.1
theorem ok_laws_toFilter : FnOk Tryz.prog 108 e_laws_toFilter := FnOk.of (fnOk (an := { mv := [14] }) (Λ := Lam.nil) ((base).add ok_laws_toIntS) Tryz.func108 (by kernel_rfl) (hF (by kernel_rfl) nF)) (fun a => by kernel_rfl)
noncomputable def e_laws_toRule : GEnt := entOf [.data true TRule] [(true, (.pair (.int .i64) (.pair (.int .i64) (.pair (.int .i64) (.pair (.int .i64) (.pair (.int .i64) (.pair (.int .i64) (.pair (.int .i64) (.pair (.int .i64) (.int .i64))))))))))] fun a => Pu.laws_toRule a.1
theorem ok_laws_toRule : FnOk Tryz.prog 211 e_laws_toRule := FnOk.of (fnOk (an := {}) (Λ := Lam.nil) (base) Tryz.func211 (by kernel_rfl) (hF (by kernel_rfl) nF)) (fun a => by kernel_rfl)
noncomputable def e_laws_toRuleS : GEnt := entOf [.data false (.sl TRule)] [(false, (.sl (.own none) TRule))] fun a => Pu.laws_toRuleS a.1
noncomputable def g_laws_toRuleS : Gam := (Gam.nil).add 211 e_laws_toRule
def n_laws_toRuleS : An := { mask := fun | 3 => [0, 3, 4] | _ => [], mv := [22] }
@[reducible] def d_laws_toRuleS_3 : SD := ⟨[.data false (.sl .arg TRule),B,B,.data false (.sl (.own (some 36864)) TRule),DI,B,B,B,B,B,B,B,B,B,B,B,B,B,B,B,B,B,B], [Z,Z,Z,Z,Z,Z,Z,Z,Z,Z,Z,Z,Z,Z,Z,Z,Z,Z,Z,Z,Z,Z,Z], none⟩
noncomputable def t_laws_toRuleS_3 {R : Type} (X : SD.D d_laws_toRuleS_3) (K : Ex → AS → Option R) := Pu.laws_toRuleS_T3 (fun y0 y1 => K (.exit 0) (SD.enc d_laws_toRuleS_3 ((X.1.1, (y0, (y1, ()))), (), ()))) X.1.1
noncomputable def l_laws_toRuleS_3 : LEnt := ⟨d_laws_toRuleS_3, fun X K => iterL (t_laws_toRuleS_3 X K) fuel (X.1.2.1, X.1.2.2.1)⟩
noncomputable def L_laws_toRuleS : Lam := (Lam.nil).add 3 l_laws_toRuleS_3
theorem lok_laws_toRuleS_3 : LOk E g_laws_toRuleS n_laws_toRuleS L_laws_toRuleS (loopBody Tryz.f167 0) :=
  lok l_laws_toRuleS_3 (by kernel_rfl) fuel fun R X K => (loop_iter (σ := (List Pu.Rule) × Int) (fun x => SD.enc d_laws_toRuleS_3 ((X.1.1, (x.1, (x.2, ()))), (), ())) (t_laws_toRuleS_3 X K) (fun m x => by kernel_rfl) fuel (X.1.2.1, X.1.2.2.1)).symm
theorem ok_laws_toRuleS : FnOk Tryz.prog 167 e_laws_toRuleS := FnOk.of (fnOk (Γ := g_laws_toRuleS) (an := n_laws_toRuleS) (Λ := L_laws_toRuleS) ((base).add ok_laws_toRule) Tryz.func167 (by kernel_rfl) (hF (by kernel_rfl) (cF lok_laws_toRuleS_3 nF))) (fun a => by kernel_rfl)
noncomputable def e_laws_toFlow : GEnt := entOf [.data true TFlow] [(true, (.pair (.int .i64) (.pair (.int .i64) (.pair (.int .i64) (.pair (.int .i64) (.int .i64))))))] fun a => Pu.laws_toFlow a.1
theorem ok_laws_toFlow : FnOk Tryz.prog 213 e_laws_toFlow := FnOk.of (fnOk (an := {}) (Λ := Lam.nil) (base) Tryz.func213 (by kernel_rfl) (hF (by kernel_rfl) nF)) (fun a => by kernel_rfl)
noncomputable def e_laws_toSlot : GEnt := entOf [.data true TSlot] [(true, (.pair (.int .i64) (.pair (.pair (.int .i64) (.pair (.int .i64) (.pair (.int .i64) (.pair (.int .i64) (.int .i64))))) (.int .i64))))] fun a => Pu.laws_toSlot a.1
theorem ok_laws_toSlot : FnOk Tryz.prog 234 e_laws_toSlot := FnOk.of (fnOk (an := {}) (Λ := Lam.nil) ((base).add ok_laws_toFlow) Tryz.func234 (by kernel_rfl) (hF (by kernel_rfl) nF)) (fun a => by kernel_rfl)
noncomputable def e_laws_toSlotS : GEnt := entOf [.data false (.sl TSlot)] [(false, (.sl (.own none) TSlot))] fun a => Pu.laws_toSlotS a.1
noncomputable def g_laws_toSlotS : Gam := (Gam.nil).add 234 e_laws_toSlot
def n_laws_toSlotS : An := { mask := fun | 3 => [0, 3, 4] | _ => [], mv := [22] }
@[reducible] def d_laws_toSlotS_3 : SD := ⟨[.data false (.sl .arg TSlot),B,B,.data false (.sl (.own (some 36864)) TSlot),DI,B,B,B,B,B,B,B,B,B,B,B,B,B,B,B,B,B,B], [Z,Z,Z,Z,Z,Z,Z,Z,Z,Z,Z,Z,Z,Z,Z,Z,Z,Z,Z,Z,Z,Z,Z], none⟩
noncomputable def t_laws_toSlotS_3 {R : Type} (X : SD.D d_laws_toSlotS_3) (K : Ex → AS → Option R) := Pu.laws_toSlotS_T3 (fun y0 y1 => K (.exit 0) (SD.enc d_laws_toSlotS_3 ((X.1.1, (y0, (y1, ()))), (), ()))) X.1.1
noncomputable def l_laws_toSlotS_3 : LEnt := ⟨d_laws_toSlotS_3, fun X K => iterL (t_laws_toSlotS_3 X K) fuel (X.1.2.1, X.1.2.2.1)⟩
noncomputable def L_laws_toSlotS : Lam := (Lam.nil).add 3 l_laws_toSlotS_3
theorem lok_laws_toSlotS_3 : LOk E g_laws_toSlotS n_laws_toSlotS L_laws_toSlotS (loopBody Tryz.f212 0) :=
  lok l_laws_toSlotS_3 (by kernel_rfl) fuel fun R X K => (loop_iter (σ := (List Pu.Slot) × Int) (fun x => SD.enc d_laws_toSlotS_3 ((X.1.1, (x.1, (x.2, ()))), (), ())) (t_laws_toSlotS_3 X K) (fun m x => by kernel_rfl) fuel (X.1.2.1, X.1.2.2.1)).symm
theorem ok_laws_toSlotS : FnOk Tryz.prog 212 e_laws_toSlotS := FnOk.of (fnOk (Γ := g_laws_toSlotS) (an := n_laws_toSlotS) (Λ := L_laws_toSlotS) ((base).add ok_laws_toSlot) Tryz.func212 (by kernel_rfl) (hF (by kernel_rfl) (cF lok_laws_toSlotS_3 nF))) (fun a => by kernel_rfl)
noncomputable def e_laws_toFlowTable : GEnt := entOf [.data true (.sl TSlot)] [(true, (.sl (.own none) TSlot))] fun a => Pu.laws_toFlowTable a.1
theorem ok_laws_toFlowTable : FnOk Tryz.prog 168 e_laws_toFlowTable := FnOk.of (fnOk (an := { mv := [8] }) (Λ := Lam.nil) ((base).add ok_laws_toSlotS) Tryz.func168 (by kernel_rfl) (hF (by kernel_rfl) nF)) (fun a => by kernel_rfl)
noncomputable def e_laws_toSpread : GEnt := entOf [.data true TSpread] [(true, (.pair .str (.sl (.own none) (.int .i64))))] fun a => Pu.laws_toSpread a.1
theorem ok_laws_toSpread : FnOk Tryz.prog 169 e_laws_toSpread := FnOk.of (fnOk (an := { mv := [11] }) (Λ := Lam.nil) ((base).add ok_laws_toIntS) Tryz.func169 (by kernel_rfl) (hF (by kernel_rfl) nF)) (fun a => by kernel_rfl)
noncomputable def e_laws_toSteering : GEnt := entOf [.data true TSteering] [(true, (.pair (.sl (.own none) TRule) (.pair (.sl (.own none) TSlot) (.pair .str (.sl (.own none) (.int .i64))))))] fun a => Pu.laws_toSteering a.1
theorem ok_laws_toSteering : FnOk Tryz.prog 109 e_laws_toSteering := FnOk.of (fnOk (an := { mv := [16] }) (Λ := Lam.nil) ((((base).add ok_laws_toRuleS).add ok_laws_toFlowTable).add ok_laws_toSpread) Tryz.func109 (by kernel_rfl) (hF (by kernel_rfl) nF)) (fun a => by kernel_rfl)
noncomputable def e_laws_toStream : GEnt := entOf [.data true TStream] [(true, (.pair (.pair (.int .i64) (.pair (.int .i64) (.pair (.int .i64) (.pair (.int .i64) (.int .i64))))) (.pair (.int .i64) (.pair .str .bool))))] fun a => Pu.laws_toStream a.1
theorem ok_laws_toStream : FnOk Tryz.prog 170 e_laws_toStream := FnOk.of (fnOk (an := {}) (Λ := Lam.nil) ((base).add ok_laws_toFlow) Tryz.func170 (by kernel_rfl) (hF (by kernel_rfl) nF)) (fun a => by kernel_rfl)
noncomputable def e_laws_toStreamS : GEnt := entOf [.data false (.sl TStream)] [(false, (.sl (.own none) TStream))] fun a => Pu.laws_toStreamS a.1
noncomputable def g_laws_toStreamS : Gam := (Gam.nil).add 170 e_laws_toStream
def n_laws_toStreamS : An := { mask := fun | 3 => [0, 3, 4] | _ => [], mv := [22] }
@[reducible] def d_laws_toStreamS_3 : SD := ⟨[.data false (.sl .arg TStream),B,B,.data false (.sl (.own (some 36864)) TStream),DI,B,B,B,B,B,B,B,B,B,B,B,B,B,B,B,B,B,B], [Z,Z,Z,Z,Z,Z,Z,Z,Z,Z,Z,Z,Z,Z,Z,Z,Z,Z,Z,Z,Z,Z,Z], none⟩
noncomputable def t_laws_toStreamS_3 {R : Type} (X : SD.D d_laws_toStreamS_3) (K : Ex → AS → Option R) := Pu.laws_toStreamS_T3 (fun y0 y1 => K (.exit 0) (SD.enc d_laws_toStreamS_3 ((X.1.1, (y0, (y1, ()))), (), ()))) X.1.1
noncomputable def l_laws_toStreamS_3 : LEnt := ⟨d_laws_toStreamS_3, fun X K => iterL (t_laws_toStreamS_3 X K) fuel (X.1.2.1, X.1.2.2.1)⟩
noncomputable def L_laws_toStreamS : Lam := (Lam.nil).add 3 l_laws_toStreamS_3
theorem lok_laws_toStreamS_3 : LOk E g_laws_toStreamS n_laws_toStreamS L_laws_toStreamS (loopBody Tryz.f110 0) :=
  lok l_laws_toStreamS_3 (by kernel_rfl) fuel fun R X K => (loop_iter (σ := (List Pu.Stream) × Int) (fun x => SD.enc d_laws_toStreamS_3 ((X.1.1, (x.1, (x.2, ()))), (), ())) (t_laws_toStreamS_3 X K) (fun m x => by kernel_rfl) fuel (X.1.2.1, X.1.2.2.1)).symm
theorem ok_laws_toStreamS : FnOk Tryz.prog 110 e_laws_toStreamS := FnOk.of (fnOk (Γ := g_laws_toStreamS) (an := n_laws_toStreamS) (Λ := L_laws_toStreamS) ((base).add ok_laws_toStream) Tryz.func110 (by kernel_rfl) (hF (by kernel_rfl) (cF lok_laws_toStreamS_3 nF))) (fun a => by kernel_rfl)
noncomputable def e_laws_toCounters : GEnt := entOf [.data true TFlow] [(true, (.pair (.int .i64) (.pair (.int .i64) (.pair (.int .i64) (.pair (.int .i64) (.int .i64))))))] fun a => Pu.laws_toCounters a.1
theorem ok_laws_toCounters : FnOk Tryz.prog 111 e_laws_toCounters := FnOk.of (fnOk (an := {}) (Λ := Lam.nil) (base) Tryz.func111 (by kernel_rfl) (hF (by kernel_rfl) nF)) (fun a => by kernel_rfl)
noncomputable def e_laws_toHost : GEnt := entOf [.data true THost] [(true, (.pair (.sl (.own none) .str) (.pair (.sl (.own none) TMapping) (.pair (.pair (.pair (.int .i64) (.pair (.int .i64) (.pair (.int .i64) (.int .i64)))) (.pair (.pair (.int .i64) (.pair (.int .i64) (.pair (.int .i64) (.sl (.own none) (.int .i64))))) (.pair (.sl (.own none) TSent) (.int .i64)))) (.pair (.sl (.own none) TRxQueue) (.pair (.sl (.own none) TPool) (.pair (.sl (.own none) TVector) (.pair (.sl (.own none) .bool) (.pair (.pair (.int .i64) (.pair .bool (.sl (.own none) (.int .i64)))) (.pair (.pair (.sl (.own none) TRule) (.pair (.sl (.own none) TSlot) (.pair .str (.sl (.own none) (.int .i64))))) (.pair (.sl (.own none) TStream) (.pair .bool (.pair (.sl (.own none) .str) (.pair (.sl (.own none) (.int .i64)) (.pair (.sl (.own none) (.int .i64)) (.pair (.int .i64) (.pair (.int .i64) (.pair (.int .i64) (.pair (.int .i64) (.int .i64))))))))))))))))))))] fun a => Pu.laws_toHost a.1
theorem ok_laws_toHost : FnOk Tryz.prog 56 e_laws_toHost := FnOk.of (fnOk (an := { mv := [63] }) (Λ := Lam.nil) ((((((((((((((base).add ok_laws_toIntS).add ok_laws_toStringS).add ok_laws_toMemory).add ok_laws_toMappingS).add ok_laws_toTxQueue).add ok_laws_toRxQueueS).add ok_laws_toPoolS).add ok_laws_toVectorS).add ok_laws_toBoolS).add ok_laws_toFilter).add ok_laws_toSteering).add ok_laws_toStreamS).add ok_laws_toCounters) Tryz.func56 (by kernel_rfl) (hF (by kernel_rfl) nF)) (fun a => by kernel_rfl)
noncomputable def e_laws_toHostS : GEnt := entOf [.data false (.sl THost)] [(false, (.sl (.own none) THost))] fun a => Pu.laws_toHostS a.1
noncomputable def g_laws_toHostS : Gam := (Gam.nil).add 56 e_laws_toHost
def n_laws_toHostS : An := { mask := fun | 3 => [0, 3, 4] | _ => [], mv := [22] }
@[reducible] def d_laws_toHostS_3 : SD := ⟨[.data false (.sl .arg THost),B,B,.data false (.sl (.own (some 36864)) THost),DI,B,B,B,B,B,B,B,B,B,B,B,B,B,B,B,B,B,B], [Z,Z,Z,Z,Z,Z,Z,Z,Z,Z,Z,Z,Z,Z,Z,Z,Z,Z,Z,Z,Z,Z,Z], none⟩
noncomputable def t_laws_toHostS_3 {R : Type} (X : SD.D d_laws_toHostS_3) (K : Ex → AS → Option R) := Pu.laws_toHostS_T3 (fun y0 y1 => K (.exit 0) (SD.enc d_laws_toHostS_3 ((X.1.1, (y0, (y1, ()))), (), ()))) X.1.1
noncomputable def l_laws_toHostS_3 : LEnt := ⟨d_laws_toHostS_3, fun X K => iterL (t_laws_toHostS_3 X K) fuel (X.1.2.1, X.1.2.2.1)⟩
noncomputable def L_laws_toHostS : Lam := (Lam.nil).add 3 l_laws_toHostS_3
theorem lok_laws_toHostS_3 : LOk E g_laws_toHostS n_laws_toHostS L_laws_toHostS (loopBody Tryz.f23 0) :=
  lok l_laws_toHostS_3 (by kernel_rfl) fuel fun R X K => (loop_iter (σ := (List Pu.Host) × Int) (fun x => SD.enc d_laws_toHostS_3 ((X.1.1, (x.1, (x.2, ()))), (), ())) (t_laws_toHostS_3 X K) (fun m x => by kernel_rfl) fuel (X.1.2.1, X.1.2.2.1)).symm
theorem ok_laws_toHostS : FnOk Tryz.prog 23 e_laws_toHostS := FnOk.of (fnOk (Γ := g_laws_toHostS) (an := n_laws_toHostS) (Λ := L_laws_toHostS) ((base).add ok_laws_toHost) Tryz.func23 (by kernel_rfl) (hF (by kernel_rfl) (cF lok_laws_toHostS_3 nF))) (fun a => by kernel_rfl)
noncomputable def e_laws_toBucket : GEnt := entOf [.data true TBucket] [(true, (.pair (.int .i64) (.pair (.int .i64) (.int .i64))))] fun a => Pu.laws_toBucket a.1
theorem ok_laws_toBucket : FnOk Tryz.prog 112 e_laws_toBucket := FnOk.of (fnOk (an := {}) (Λ := Lam.nil) (base) Tryz.func112 (by kernel_rfl) (hF (by kernel_rfl) nF)) (fun a => by kernel_rfl)
noncomputable def e_laws_toVirtualFunction : GEnt := entOf [.data true TVirtualFunction] [(true, (.pair (.int .i64) (.pair (.int .i64) (.pair (.pair (.int .i64) (.pair (.int .i64) (.int .i64))) (.pair .bool (.pair (.int .i64) (.int .i64)))))))] fun a => Pu.laws_toVirtualFunction a.1
theorem ok_laws_toVirtualFunction : FnOk Tryz.prog 57 e_laws_toVirtualFunction := FnOk.of (fnOk (an := {}) (Λ := Lam.nil) ((base).add ok_laws_toBucket) Tryz.func57 (by kernel_rfl) (hF (by kernel_rfl) nF)) (fun a => by kernel_rfl)
noncomputable def e_laws_toVirtualFunctionS : GEnt := entOf [.data false (.sl TVirtualFunction)] [(false, (.sl (.own none) TVirtualFunction))] fun a => Pu.laws_toVirtualFunctionS a.1
noncomputable def g_laws_toVirtualFunctionS : Gam := (Gam.nil).add 57 e_laws_toVirtualFunction
def n_laws_toVirtualFunctionS : An := { mask := fun | 3 => [0, 3, 4] | _ => [], mv := [22] }
@[reducible] def d_laws_toVirtualFunctionS_3 : SD := ⟨[.data false (.sl .arg TVirtualFunction),B,B,.data false (.sl (.own (some 36864)) TVirtualFunction),DI,B,B,B,B,B,B,B,B,B,B,B,B,B,B,B,B,B,B], [Z,Z,Z,Z,Z,Z,Z,Z,Z,Z,Z,Z,Z,Z,Z,Z,Z,Z,Z,Z,Z,Z,Z], none⟩
noncomputable def t_laws_toVirtualFunctionS_3 {R : Type} (X : SD.D d_laws_toVirtualFunctionS_3) (K : Ex → AS → Option R) := Pu.laws_toVirtualFunctionS_T3 (fun y0 y1 => K (.exit 0) (SD.enc d_laws_toVirtualFunctionS_3 ((X.1.1, (y0, (y1, ()))), (), ()))) X.1.1
noncomputable def l_laws_toVirtualFunctionS_3 : LEnt := ⟨d_laws_toVirtualFunctionS_3, fun X K => iterL (t_laws_toVirtualFunctionS_3 X K) fuel (X.1.2.1, X.1.2.2.1)⟩
noncomputable def L_laws_toVirtualFunctionS : Lam := (Lam.nil).add 3 l_laws_toVirtualFunctionS_3
theorem lok_laws_toVirtualFunctionS_3 : LOk E g_laws_toVirtualFunctionS n_laws_toVirtualFunctionS L_laws_toVirtualFunctionS (loopBody Tryz.f24 0) :=
  lok l_laws_toVirtualFunctionS_3 (by kernel_rfl) fuel fun R X K => (loop_iter (σ := (List Pu.VirtualFunction) × Int) (fun x => SD.enc d_laws_toVirtualFunctionS_3 ((X.1.1, (x.1, (x.2, ()))), (), ())) (t_laws_toVirtualFunctionS_3 X K) (fun m x => by kernel_rfl) fuel (X.1.2.1, X.1.2.2.1)).symm
theorem ok_laws_toVirtualFunctionS : FnOk Tryz.prog 24 e_laws_toVirtualFunctionS := FnOk.of (fnOk (Γ := g_laws_toVirtualFunctionS) (an := n_laws_toVirtualFunctionS) (Λ := L_laws_toVirtualFunctionS) ((base).add ok_laws_toVirtualFunction) Tryz.func24 (by kernel_rfl) (hF (by kernel_rfl) (cF lok_laws_toVirtualFunctionS_3 nF))) (fun a => by kernel_rfl)
noncomputable def e_laws_toMailbox : GEnt := entOf [.data true TMailbox] [(true, (.pair (.pair (.int .i64) (.pair .bool (.sl (.own none) (.int .i64)))) (.pair (.int .i64) (.pair (.int .i64) (.int .i64)))))] fun a => Pu.laws_toMailbox a.1
theorem ok_laws_toMailbox : FnOk Tryz.prog 58 e_laws_toMailbox := FnOk.of (fnOk (an := { mv := [17] }) (Λ := Lam.nil) ((base).add ok_laws_toFilter) Tryz.func58 (by kernel_rfl) (hF (by kernel_rfl) nF)) (fun a => by kernel_rfl)
noncomputable def e_laws_toMailboxS : GEnt := entOf [.data false (.sl TMailbox)] [(false, (.sl (.own none) TMailbox))] fun a => Pu.laws_toMailboxS a.1
noncomputable def g_laws_toMailboxS : Gam := (Gam.nil).add 58 e_laws_toMailbox
def n_laws_toMailboxS : An := { mask := fun | 3 => [0, 3, 4] | _ => [], mv := [22] }
@[reducible] def d_laws_toMailboxS_3 : SD := ⟨[.data false (.sl .arg TMailbox),B,B,.data false (.sl (.own (some 36864)) TMailbox),DI,B,B,B,B,B,B,B,B,B,B,B,B,B,B,B,B,B,B], [Z,Z,Z,Z,Z,Z,Z,Z,Z,Z,Z,Z,Z,Z,Z,Z,Z,Z,Z,Z,Z,Z,Z], none⟩
noncomputable def t_laws_toMailboxS_3 {R : Type} (X : SD.D d_laws_toMailboxS_3) (K : Ex → AS → Option R) := Pu.laws_toMailboxS_T3 (fun y0 y1 => K (.exit 0) (SD.enc d_laws_toMailboxS_3 ((X.1.1, (y0, (y1, ()))), (), ()))) X.1.1
noncomputable def l_laws_toMailboxS_3 : LEnt := ⟨d_laws_toMailboxS_3, fun X K => iterL (t_laws_toMailboxS_3 X K) fuel (X.1.2.1, X.1.2.2.1)⟩
noncomputable def L_laws_toMailboxS : Lam := (Lam.nil).add 3 l_laws_toMailboxS_3
theorem lok_laws_toMailboxS_3 : LOk E g_laws_toMailboxS n_laws_toMailboxS L_laws_toMailboxS (loopBody Tryz.f25 0) :=
  lok l_laws_toMailboxS_3 (by kernel_rfl) fuel fun R X K => (loop_iter (σ := (List Pu.Mailbox) × Int) (fun x => SD.enc d_laws_toMailboxS_3 ((X.1.1, (x.1, (x.2, ()))), (), ())) (t_laws_toMailboxS_3 X K) (fun m x => by kernel_rfl) fuel (X.1.2.1, X.1.2.2.1)).symm
theorem ok_laws_toMailboxS : FnOk Tryz.prog 25 e_laws_toMailboxS := FnOk.of (fnOk (Γ := g_laws_toMailboxS) (an := n_laws_toMailboxS) (Λ := L_laws_toMailboxS) ((base).add ok_laws_toMailbox) Tryz.func25 (by kernel_rfl) (hF (by kernel_rfl) (cF lok_laws_toMailboxS_3 nF))) (fun a => by kernel_rfl)
noncomputable def e_laws_toFlash : GEnt := entOf [.data true (.sl .str)] [(true, (.sl (.own none) .str))] fun a => Pu.laws_toFlash a.1
theorem ok_laws_toFlash : FnOk Tryz.prog 26 e_laws_toFlash := FnOk.of (fnOk (an := { mv := [8] }) (Λ := Lam.nil) ((base).add ok_laws_toStringS) Tryz.func26 (by kernel_rfl) (hF (by kernel_rfl) nF)) (fun a => by kernel_rfl)
noncomputable def e_laws_toClock : GEnt := entOf [.data true TClock] [(true, (.pair (.int .i64) (.pair (.int .i64) (.pair (.int .i64) (.int .i64)))))] fun a => Pu.laws_toClock a.1
theorem ok_laws_toClock : FnOk Tryz.prog 27 e_laws_toClock := FnOk.of (fnOk (an := {}) (Λ := Lam.nil) (base) Tryz.func27 (by kernel_rfl) (hF (by kernel_rfl) nF)) (fun a => by kernel_rfl)
noncomputable def e_laws_toCard : GEnt := entOf [.data true TCard] [(true, (.pair (.sl (.own none) THost) (.pair (.sl (.own none) TVirtualFunction) (.pair (.sl (.own none) TMailbox) (.pair (.sl (.own none) .str) (.pair (.pair (.int .i64) (.pair (.int .i64) (.pair (.int .i64) (.int .i64)))) (.pair (.sl (.own none) (.int .i64)) (.sl (.own none) .str))))))))] fun a => Pu.laws_toCard a.1
theorem ok_laws_toCard : FnOk Tryz.prog 7 e_laws_toCard := FnOk.of (fnOk (an := { mv := [32] }) (Λ := Lam.nil) ((((((((base).add ok_laws_toHostS).add ok_laws_toVirtualFunctionS).add ok_laws_toMailboxS).add ok_laws_toFlash).add ok_laws_toClock).add ok_laws_toIntS).add ok_laws_toStringS) Tryz.func7 (by kernel_rfl) (hF (by kernel_rfl) nF)) (fun a => by kernel_rfl)
noncomputable def e_laws_toSoft : GEnt := entOf [.data true TSoft] [(true, (.pair (.pair (.int .i64) (.pair .bool (.sl (.own none) (.int .i64)))) (.pair (.pair (.sl (.own none) TRule) (.pair (.sl (.own none) TSlot) (.pair .str (.sl (.own none) (.int .i64))))) (.pair (.int .i64) (.pair (.sl (.own none) TStream) (.sl (.own none) .str))))))] fun a => Pu.laws_toSoft a.1
theorem ok_laws_toSoft : FnOk Tryz.prog 59 e_laws_toSoft := FnOk.of (fnOk (an := { mv := [23] }) (Λ := Lam.nil) (((((base).add ok_laws_toStringS).add ok_laws_toFilter).add ok_laws_toSteering).add ok_laws_toStreamS) Tryz.func59 (by kernel_rfl) (hF (by kernel_rfl) nF)) (fun a => by kernel_rfl)
noncomputable def e_laws_toSoftS : GEnt := entOf [.data false (.sl TSoft)] [(false, (.sl (.own none) TSoft))] fun a => Pu.laws_toSoftS a.1
noncomputable def g_laws_toSoftS : Gam := (Gam.nil).add 59 e_laws_toSoft
def n_laws_toSoftS : An := { mask := fun | 3 => [0, 3, 4] | _ => [], mv := [22] }
@[reducible] def d_laws_toSoftS_3 : SD := ⟨[.data false (.sl .arg TSoft),B,B,.data false (.sl (.own (some 36864)) TSoft),DI,B,B,B,B,B,B,B,B,B,B,B,B,B,B,B,B,B,B], [Z,Z,Z,Z,Z,Z,Z,Z,Z,Z,Z,Z,Z,Z,Z,Z,Z,Z,Z,Z,Z,Z,Z], none⟩
noncomputable def t_laws_toSoftS_3 {R : Type} (X : SD.D d_laws_toSoftS_3) (K : Ex → AS → Option R) := Pu.laws_toSoftS_T3 (fun y0 y1 => K (.exit 0) (SD.enc d_laws_toSoftS_3 ((X.1.1, (y0, (y1, ()))), (), ()))) X.1.1
noncomputable def l_laws_toSoftS_3 : LEnt := ⟨d_laws_toSoftS_3, fun X K => iterL (t_laws_toSoftS_3 X K) fuel (X.1.2.1, X.1.2.2.1)⟩
noncomputable def L_laws_toSoftS : Lam := (Lam.nil).add 3 l_laws_toSoftS_3
theorem lok_laws_toSoftS_3 : LOk E g_laws_toSoftS n_laws_toSoftS L_laws_toSoftS (loopBody Tryz.f30 0) :=
  lok l_laws_toSoftS_3 (by kernel_rfl) fuel fun R X K => (loop_iter (σ := (List Pu.Soft) × Int) (fun x => SD.enc d_laws_toSoftS_3 ((X.1.1, (x.1, (x.2, ()))), (), ())) (t_laws_toSoftS_3 X K) (fun m x => by kernel_rfl) fuel (X.1.2.1, X.1.2.2.1)).symm
theorem ok_laws_toSoftS : FnOk Tryz.prog 30 e_laws_toSoftS := FnOk.of (fnOk (Γ := g_laws_toSoftS) (an := n_laws_toSoftS) (Λ := L_laws_toSoftS) ((base).add ok_laws_toSoft) Tryz.func30 (by kernel_rfl) (hF (by kernel_rfl) (cF lok_laws_toSoftS_3 nF))) (fun a => by kernel_rfl)
noncomputable def e_laws_toStringSS : GEnt := entOf [.data false (.sl (.sl .str))] [(false, (.sl (.own none) (.sl .str)))] fun a => Pu.laws_toStringSS a.1
noncomputable def g_laws_toStringSS : Gam := (Gam.nil).add 29 e_laws_toStringS
def n_laws_toStringSS : An := { mask := fun | 3 => [0, 3, 4] | _ => [], mv := [22] }
@[reducible] def d_laws_toStringSS_3 : SD := ⟨[.data false (.sl .arg (.sl .str)),B,B,.data false (.sl (.own (some 36864)) (.sl .str)),DI,B,B,B,B,B,B,B,B,B,B,B,B,B,B,B,B,B,B], [Z,Z,Z,Z,Z,Z,Z,Z,Z,Z,Z,Z,Z,Z,Z,Z,Z,Z,Z,Z,Z,Z,Z], none⟩
noncomputable def t_laws_toStringSS_3 {R : Type} (X : SD.D d_laws_toStringSS_3) (K : Ex → AS → Option R) := Pu.laws_toStringSS_T3 (fun y0 y1 => K (.exit 0) (SD.enc d_laws_toStringSS_3 ((X.1.1, (y0, (y1, ()))), (), ()))) X.1.1
noncomputable def l_laws_toStringSS_3 : LEnt := ⟨d_laws_toStringSS_3, fun X K => iterL (t_laws_toStringSS_3 X K) fuel (X.1.2.1, X.1.2.2.1)⟩
noncomputable def L_laws_toStringSS : Lam := (Lam.nil).add 3 l_laws_toStringSS_3
theorem lok_laws_toStringSS_3 : LOk E g_laws_toStringSS n_laws_toStringSS L_laws_toStringSS (loopBody Tryz.f31 0) :=
  lok l_laws_toStringSS_3 (by kernel_rfl) fuel fun R X K => (loop_iter (σ := (List (List Pu.Bytes)) × Int) (fun x => SD.enc d_laws_toStringSS_3 ((X.1.1, (x.1, (x.2, ()))), (), ())) (t_laws_toStringSS_3 X K) (fun m x => by kernel_rfl) fuel (X.1.2.1, X.1.2.2.1)).symm
theorem ok_laws_toStringSS : FnOk Tryz.prog 31 e_laws_toStringSS := FnOk.of (fnOk (Γ := g_laws_toStringSS) (an := n_laws_toStringSS) (Λ := L_laws_toStringSS) ((base).add ok_laws_toStringS) Tryz.func31 (by kernel_rfl) (hF (by kernel_rfl) (cF lok_laws_toStringSS_3 nF))) (fun a => by kernel_rfl)
noncomputable def e_laws_toIdeal : GEnt := entOf [.data true TIdeal] [(true, (.pair (.sl (.own none) TSoft) (.pair (.sl (.own none) (.sl .str)) (.pair (.sl (.own none) TVirtualFunction) (.pair (.sl (.own none) TMailbox) (.sl (.own none) .str))))))] fun a => Pu.laws_toIdeal a.1
theorem ok_laws_toIdeal : FnOk Tryz.prog 8 e_laws_toIdeal := FnOk.of (fnOk (an := { mv := [24] }) (Λ := Lam.nil) ((((((base).add ok_laws_toVirtualFunctionS).add ok_laws_toMailboxS).add ok_laws_toStringS).add ok_laws_toSoftS).add ok_laws_toStringSS) Tryz.func8 (by kernel_rfl) (hF (by kernel_rfl) nF)) (fun a => by kernel_rfl)
noncomputable def e_impl_between : GEnt := entOf [.data false (.int .i64), .data false (.int .i64), .data false (.int .i64)] [(false, .bool)] fun a => Pu.impl_between a.1 a.2.1 a.2.2.1
theorem ok_impl_between : FnOk Tryz.prog 113 e_impl_between := FnOk.of (fnOk (an := { merge := fun | 1 => some 6 | _ => none }) (Λ := Lam.nil) (base) Tryz.func113 (by kernel_rfl) (hF (by kernel_rfl) nF)) (fun a => by kernel_rfl)
noncomputable def e_impl_FilterOk : GEnt := entOf [.data true TFilter] [(false, .bool)] fun a => Pu.impl_FilterOk a.1
noncomputable def g_impl_FilterOk : Gam := (Gam.nil).add 113 e_impl_between
def n_impl_FilterOk : An := { mask := fun | 2 => [1, 2, 6, 7, 8] | _ => [], merge := fun | 4 => some 29 | 7 => some 2 | _ => none }
@[reducible] def d_impl_FilterOk_2 : SD := ⟨[B,.ptr 1 0,DB,B,B,B,.data false (.sl .arg (.int .i64)),DI,DI,B,B,B,B,B,B,B,B,B,B,B,B,B,B,B,B,B,B,B,B,B,B,B,B,B,B,B,B,B,B,B], [Z,some (.pair (.int .i64) (.pair .bool (.sl .arg (.int .i64)))),Z,Z,Z,Z,Z,Z,Z,Z,Z,Z,Z,Z,Z,Z,Z,Z,Z,Z,Z,Z,Z,Z,Z,Z,Z,Z,Z,Z,Z,Z,Z,Z,Z,Z,Z,Z,Z,Z], none⟩
noncomputable def t_impl_FilterOk_2 {R : Type} (X : SD.D d_impl_FilterOk_2) (K : Ex → AS → Option R) := Pu.impl_FilterOk_T2 (fun y0 => K (.exit 0) (SD.enc d_impl_FilterOk_2 ((X.1.1, (X.1.2.1, (X.1.2.2.1, (y0, ())))), (X.2.1.1, ()), ()))) (fun y0 y1 => K .ret (SD.enc d_impl_FilterOk_2 ((y0, (X.1.2.1, (X.1.2.2.1, (y1, ())))), (X.2.1.1, ()), ()))) X.1.1 X.1.2.1 X.1.2.2.1 X.2.1.1
noncomputable def l_impl_FilterOk_2 : LEnt := ⟨d_impl_FilterOk_2, fun X K => iterL (t_impl_FilterOk_2 X K) fuel X.1.2.2.2.1⟩
noncomputable def L_impl_FilterOk : Lam := (Lam.nil).add 2 l_impl_FilterOk_2
theorem lok_impl_FilterOk_2 : LOk E g_impl_FilterOk n_impl_FilterOk L_impl_FilterOk (loopBody Tryz.f121 0) :=
  lok l_impl_FilterOk_2 (by kernel_rfl) fuel fun R X K => (loop_iter (σ := Int) (fun x => SD.enc d_impl_FilterOk_2 ((X.1.1, (X.1.2.1, (X.1.2.2.1, (x, ())))), (X.2.1.1, ()), ())) (t_impl_FilterOk_2 X K) (fun m x => by kernel_rfl) fuel X.1.2.2.2.1).symm
theorem ok_impl_FilterOk : FnOk Tryz.prog 121 e_impl_FilterOk := FnOk.of (fnOk (Γ := g_impl_FilterOk) (an := n_impl_FilterOk) (Λ := L_impl_FilterOk) ((base).add ok_impl_between) Tryz.func121 (by kernel_rfl) (hF (by kernel_rfl) (cF lok_impl_FilterOk_2 nF))) (fun a => by kernel_rfl)
noncomputable def e_impl_MailboxOk : GEnt := entOf [.data true TMailbox] [(false, .bool)] fun a => Pu.impl_MailboxOk a.1
theorem ok_impl_MailboxOk : FnOk Tryz.prog 114 e_impl_MailboxOk := FnOk.of (fnOk (an := { merge := fun | 1 => some 2 | _ => none }) (Λ := Lam.nil) (((base).add ok_impl_between).add ok_impl_FilterOk) Tryz.func114 (by kernel_rfl) (hF (by kernel_rfl) nF)) (fun a => by kernel_rfl)
noncomputable def e_impl_hasInt : GEnt := entOf [.data false (.sl (.int .i64)), .data false (.int .i64)] [(false, .bool)] fun a => Pu.impl_hasInt a.1 a.2.1
noncomputable def g_impl_hasInt : Gam := Gam.nil
def n_impl_hasInt : An := { mask := fun | 2 => [1, 4, 7, 8, 9] | _ => [] }
@[reducible] def d_impl_hasInt_2 : SD := ⟨[B,DI,B,B,DB,B,B,.data false (.sl .arg (.int .i64)),DI,DI,B,B,B,B,B,B,B], [Z,Z,Z,Z,Z,Z,Z,Z,Z,Z,Z,Z,Z,Z,Z,Z,Z], none⟩
noncomputable def t_impl_hasInt_2 {R : Type} (X : SD.D d_impl_hasInt_2) (K : Ex → AS → Option R) := Pu.impl_hasInt_T2 (fun y0 => K (.exit 0) (SD.enc d_impl_hasInt_2 ((X.1.1, (X.1.2.1, (X.1.2.2.1, (X.1.2.2.2.1, (y0, ()))))), (), ()))) (fun y0 y1 => K .ret (SD.enc d_impl_hasInt_2 ((X.1.1, (y0, (X.1.2.2.1, (X.1.2.2.2.1, (y1, ()))))), (), ()))) X.1.1 X.1.2.1 X.1.2.2.1 X.1.2.2.2.1
noncomputable def l_impl_hasInt_2 : LEnt := ⟨d_impl_hasInt_2, fun X K => iterL (t_impl_hasInt_2 X K) fuel X.1.2.2.2.2.1⟩
noncomputable def L_impl_hasInt : Lam := (Lam.nil).add 2 l_impl_hasInt_2
theorem lok_impl_hasInt_2 : LOk E g_impl_hasInt n_impl_hasInt L_impl_hasInt (loopBody Tryz.f115 0) :=
  lok l_impl_hasInt_2 (by kernel_rfl) fuel fun R X K => (loop_iter (σ := Int) (fun x => SD.enc d_impl_hasInt_2 ((X.1.1, (X.1.2.1, (X.1.2.2.1, (X.1.2.2.2.1, (x, ()))))), (), ())) (t_impl_hasInt_2 X K) (fun m x => by kernel_rfl) fuel X.1.2.2.2.2.1).symm
theorem ok_impl_hasInt : FnOk Tryz.prog 115 e_impl_hasInt := FnOk.of (fnOk (Γ := g_impl_hasInt) (an := n_impl_hasInt) (Λ := L_impl_hasInt) (base) Tryz.func115 (by kernel_rfl) (hF (by kernel_rfl) (cF lok_impl_hasInt_2 nF))) (fun a => by kernel_rfl)
noncomputable def e_impl_addOrdered : GEnt := entOf [.data false (.sl (.int .i64)), .data false (.int .i64)] [(false, (.sl (.own none) (.int .i64)))] fun a => Pu.impl_addOrdered a.1 a.2.1
noncomputable def g_impl_addOrdered : Gam := Gam.nil
def n_impl_addOrdered : An := { mask := fun | 4 => [1, 5, 6, 10, 11, 12] | _ => [], merge := fun | 6 => some 22 | _ => none, mv := [23, 27, 34, 38] }
@[reducible] def d_impl_addOrdered_4 : SD := ⟨[B,DI,B,B,B,.data false (.sl (.own (some 61440)) (.int .i64)),DB,B,B,B,.data false (.sl .arg (.int .i64)),DI,DI,B,B,B,B,B,B,B,B,B,B,B,B,B,B,B,B,B,B,B,B,B,B,B,B,B,B], [Z,Z,Z,Z,Z,Z,Z,Z,Z,Z,Z,Z,Z,Z,Z,Z,Z,Z,Z,Z,Z,Z,Z,Z,Z,Z,Z,Z,Z,Z,Z,Z,Z,Z,Z,Z,Z,Z,Z], none⟩
noncomputable def t_impl_addOrdered_4 {R : Type} (X : SD.D d_impl_addOrdered_4) (K : Ex → AS → Option R) := Pu.impl_addOrdered_T4 (fun y0 y1 y2 => K (.exit 0) (SD.enc d_impl_addOrdered_4 ((X.1.1, (y0, (y1, (X.1.2.2.2.1, (X.1.2.2.2.2.1, (y2, ())))))), (), ()))) X.1.1 X.1.2.2.2.1 X.1.2.2.2.2.1
noncomputable def l_impl_addOrdered_4 : LEnt := ⟨d_impl_addOrdered_4, fun X K => iterL (t_impl_addOrdered_4 X K) fuel (X.1.2.1, X.1.2.2.1, X.1.2.2.2.2.2.1)⟩
noncomputable def L_impl_addOrdered : Lam := (Lam.nil).add 4 l_impl_addOrdered_4
theorem lok_impl_addOrdered_4 : LOk E g_impl_addOrdered n_impl_addOrdered L_impl_addOrdered (loopBody Tryz.f116 0) :=
  lok l_impl_addOrdered_4 (by kernel_rfl) fuel fun R X K => (loop_iter (σ := (List Int) × Bool × Int) (fun x => SD.enc d_impl_addOrdered_4 ((X.1.1, (x.1, (x.2.1, (X.1.2.2.2.1, (X.1.2.2.2.2.1, (x.2.2, ())))))), (), ())) (t_impl_addOrdered_4 X K) (fun m x => by kernel_rfl) fuel (X.1.2.1, X.1.2.2.1, X.1.2.2.2.2.2.1)).symm
theorem ok_impl_addOrdered : FnOk Tryz.prog 116 e_impl_addOrdered := FnOk.of (fnOk (Γ := g_impl_addOrdered) (an := n_impl_addOrdered) (Λ := L_impl_addOrdered) (base) Tryz.func116 (by kernel_rfl) (hF (by kernel_rfl) (cF lok_impl_addOrdered_4 nF))) (fun a => by kernel_rfl)
noncomputable def e_impl_filterOf : GEnt := entOf [.data true TPort] [(true, (.pair (.int .i64) (.pair .bool (.sl .arg (.int .i64)))))] fun a => Pu.impl_filterOf a.1
theorem ok_impl_filterOf : FnOk Tryz.prog 171 e_impl_filterOf := FnOk.of (fnOk (an := {}) (Λ := Lam.nil) (base) Tryz.func171 (by kernel_rfl) (hF (by kernel_rfl) nF)) (fun a => by kernel_rfl)
noncomputable def e_impl_portWith : GEnt := entOf [.data false (.sl TPort), .data false (.int .i64)] [(false, (.int .i64))] fun a => Pu.impl_portWith a.1 a.2.1
noncomputable def g_impl_portWith : Gam := Gam.nil
def n_impl_portWith : An := { mask := fun | 2 => [1, 4, 7, 8, 9] | _ => [], merge := fun | 4 => some 21 | _ => none }
@[reducible] def d_impl_portWith_2 : SD := ⟨[B,DI,B,B,DI,B,B,.data false (.sl .arg TPort),DI,DI,B,B,B,B,B,B,B,B,B,B,B,B,B,B], [Z,Z,Z,Z,Z,Z,Z,Z,Z,Z,Z,Z,Z,Z,Z,Z,Z,Z,Z,Z,Z,Z,Z,Z], none⟩
noncomputable def t_impl_portWith_2 {R : Type} (X : SD.D d_impl_portWith_2) (K : Ex → AS → Option R) := Pu.impl_portWith_T2 (fun y0 => K (.exit 0) (SD.enc d_impl_portWith_2 ((X.1.1, (X.1.2.1, (X.1.2.2.1, (X.1.2.2.2.1, (y0, ()))))), (), ()))) (fun y0 y1 => K .ret (SD.enc d_impl_portWith_2 ((X.1.1, (y0, (X.1.2.2.1, (X.1.2.2.2.1, (y1, ()))))), (), ()))) X.1.1 X.1.2.1 X.1.2.2.1 X.1.2.2.2.1
noncomputable def l_impl_portWith_2 : LEnt := ⟨d_impl_portWith_2, fun X K => iterL (t_impl_portWith_2 X K) fuel X.1.2.2.2.2.1⟩
noncomputable def L_impl_portWith : Lam := (Lam.nil).add 2 l_impl_portWith_2
theorem lok_impl_portWith_2 : LOk E g_impl_portWith n_impl_portWith L_impl_portWith (loopBody Tryz.f172 0) :=
  lok l_impl_portWith_2 (by kernel_rfl) fuel fun R X K => (loop_iter (σ := Int) (fun x => SD.enc d_impl_portWith_2 ((X.1.1, (X.1.2.1, (X.1.2.2.1, (X.1.2.2.2.1, (x, ()))))), (), ())) (t_impl_portWith_2 X K) (fun m x => by kernel_rfl) fuel X.1.2.2.2.2.1).symm
theorem ok_impl_portWith : FnOk Tryz.prog 172 e_impl_portWith := FnOk.of (fnOk (Γ := g_impl_portWith) (an := n_impl_portWith) (Λ := L_impl_portWith) (base) Tryz.func172 (by kernel_rfl) (hF (by kernel_rfl) (cF lok_impl_portWith_2 nF))) (fun a => by kernel_rfl)
noncomputable def e_impl_PortsOk : GEnt := entOf [.data false (.sl TPort)] [(false, .bool)] fun a => Pu.impl_PortsOk a.1
noncomputable def g_impl_PortsOk : Gam := (((((Gam.nil).add 113 e_impl_between).add 115 e_impl_hasInt).add 121 e_impl_FilterOk).add 171 e_impl_filterOf).add 172 e_impl_portWith
def n_impl_PortsOk : An := { mask := fun | 4 => [0, 2, 9, 10, 11] | _ => [], merge := fun | 6 => some 27 | 8 => some 37 | _ => none }
@[reducible] def d_impl_PortsOk_4 : SD := ⟨[.data false (.sl .arg TPort),B,DB,B,B,B,B,B,B,.data false (.sl .arg TPort),DI,DI,B,B,B,B,B,B,B,B,B,B,B,B,B,B,B,B,B,B,B,B,B,B,B,B,B,B,B], [Z,Z,Z,Z,Z,Z,Z,Z,Z,Z,Z,Z,Z,Z,Z,Z,Z,Z,Z,Z,Z,Z,Z,Z,Z,Z,Z,Z,Z,Z,Z,Z,Z,Z,Z,Z,Z,Z,Z], none⟩
noncomputable def t_impl_PortsOk_4 {R : Type} (X : SD.D d_impl_PortsOk_4) (K : Ex → AS → Option R) := Pu.impl_PortsOk_T4 (fun y0 => K (.exit 0) (SD.enc d_impl_PortsOk_4 ((X.1.1, (X.1.2.1, (X.1.2.2.1, (X.1.2.2.2.1, (y0, ()))))), (), ()))) (fun y0 y1 => K .ret (SD.enc d_impl_PortsOk_4 ((X.1.1, (y0, (X.1.2.2.1, (X.1.2.2.2.1, (y1, ()))))), (), ()))) X.1.1 X.1.2.1 X.1.2.2.1 X.1.2.2.2.1
noncomputable def l_impl_PortsOk_4 : LEnt := ⟨d_impl_PortsOk_4, fun X K => iterL (t_impl_PortsOk_4 X K) fuel X.1.2.2.2.2.1⟩
noncomputable def L_impl_PortsOk : Lam := (Lam.nil).add 4 l_impl_PortsOk_4
theorem lok_impl_PortsOk_4 : LOk E g_impl_PortsOk n_impl_PortsOk L_impl_PortsOk (loopBody Tryz.f117 0) :=
  lok l_impl_PortsOk_4 (by kernel_rfl) fuel fun R X K => (loop_iter (σ := Int) (fun x => SD.enc d_impl_PortsOk_4 ((X.1.1, (X.1.2.1, (X.1.2.2.1, (X.1.2.2.2.1, (x, ()))))), (), ())) (t_impl_PortsOk_4 X K) (fun m x => by kernel_rfl) fuel X.1.2.2.2.2.1).symm
theorem ok_impl_PortsOk : FnOk Tryz.prog 117 e_impl_PortsOk := FnOk.of (fnOk (Γ := g_impl_PortsOk) (an := n_impl_PortsOk) (Λ := L_impl_PortsOk) ((((((base).add ok_impl_between).add ok_impl_hasInt).add ok_impl_FilterOk).add ok_impl_filterOf).add ok_impl_portWith) Tryz.func117 (by kernel_rfl) (hF (by kernel_rfl) (cF lok_impl_PortsOk_4 nF))) (fun a => by kernel_rfl)
noncomputable def e_impl_PortsOf : GEnt := entOf [.data false (.sl TMailbox)] [(false, (.sl (.own none) TPort)), (false, .bool)] fun a => Pu.impl_PortsOf a.1
noncomputable def g_impl_PortsOf : Gam := (((((Gam.nil).add 113 e_impl_between).add 114 e_impl_MailboxOk).add 115 e_impl_hasInt).add 116 e_impl_addOrdered).add 117 e_impl_PortsOk
def n_impl_PortsOf : An := { mask := fun | 6 => [2, 3, 4, 5, 18, 19, 20] | 12 => [2, 3, 4, 5, 7, 8, 18, 19, 20, 32, 33, 34] | _ => [], mv := [53, 57, 63, 69] }
@[reducible] def d_impl_PortsOf_12 : SD := ⟨[B,B,.data false (.sl (.own (some 24576)) TPort),DB,.data false (.sl (.own (some 49152)) TPort),.data false (.sl (.own (some 61440)) (.int .i64)),B,.ptr 7 0,.data false (.sl (.own (some 98304)) (.int .i64)),B,B,B,B,B,B,B,B,B,.data false (.sl .arg TMailbox),DI,DI,B,B,B,B,B,B,B,B,B,B,B,.data false (.sl (.own (some 393216)) (.int .i64)),DI,DI,B,B,B,B,B,B,B,B,B,B,B,B,B,B,B,B,B,B,B,B,B,B,B,B,B,B,B,B,B,B,B,B,B,B,B], [Z,Z,Z,Z,Z,Z,Z,some (.pair (.pair (.int .i64) (.pair .bool (.sl .arg (.int .i64)))) (.pair (.int .i64) (.pair (.int .i64) (.int .i64)))),Z,Z,Z,Z,Z,Z,Z,Z,Z,Z,Z,Z,Z,Z,Z,Z,Z,Z,Z,Z,Z,Z,Z,Z,Z,Z,Z,Z,Z,Z,Z,Z,Z,Z,Z,Z,Z,Z,Z,Z,Z,Z,Z,Z,Z,Z,Z,Z,Z,Z,Z,Z,Z,Z,Z,Z,Z,Z,Z,Z,Z,Z], none⟩
noncomputable def t_impl_PortsOf_12 {R : Type} (X : SD.D d_impl_PortsOf_12) (K : Ex → AS → Option R) := Pu.impl_PortsOf_T12 (fun y0 y1 y2 => K (.exit 2) (SD.enc d_impl_PortsOf_12 ((X.1.1, (X.1.2.1, (X.1.2.2.1, (y0, (y1, (X.1.2.2.2.2.2.1, (X.1.2.2.2.2.2.2.1, (X.1.2.2.2.2.2.2.2.1, (X.1.2.2.2.2.2.2.2.2.1, (X.1.2.2.2.2.2.2.2.2.2.1, (y2, ()))))))))))), (X.2.1.1, ()), ()))) X.1.1 X.1.2.1 X.1.2.2.1 X.1.2.2.2.2.2.1 X.1.2.2.2.2.2.2.1 X.1.2.2.2.2.2.2.2.1 X.1.2.2.2.2.2.2.2.2.1 X.1.2.2.2.2.2.2.2.2.2.1 X.2.1.1
noncomputable def l_impl_PortsOf_12 : LEnt := ⟨d_impl_PortsOf_12, fun X K => iterL (t_impl_PortsOf_12 X K) fuel (X.1.2.2.2.1, X.1.2.2.2.2.1, X.1.2.2.2.2.2.2.2.2.2.2.1)⟩
@[reducible] def d_impl_PortsOf_6 : SD := ⟨[B,B,.data false (.sl (.own (some 24576)) TPort),DB,.data false (.sl (.own (some 49152)) TPort),.data false (.sl (.own (some 61440)) (.int .i64)),B,B,B,B,B,B,B,B,B,B,B,B,.data false (.sl .arg TMailbox),DI,DI,B,B,B,B,B,B,B,B,B,B,B,B,B,B,B,B,B,B,B,B,B,B,B,B,B,B,B,B,B,B,B,B,B,B,B,B,B,B,B,B,B,B,B,B,B,B,B,B,B], [Z,Z,Z,Z,Z,Z,Z,Z,Z,Z,Z,Z,Z,Z,Z,Z,Z,Z,Z,Z,Z,Z,Z,Z,Z,Z,Z,Z,Z,Z,Z,Z,Z,Z,Z,Z,Z,Z,Z,Z,Z,Z,Z,Z,Z,Z,Z,Z,Z,Z,Z,Z,Z,Z,Z,Z,Z,Z,Z,Z,Z,Z,Z,Z,Z,Z,Z,Z,Z,Z], none⟩
noncomputable def t_impl_PortsOf_6 {R : Type} (X : SD.D d_impl_PortsOf_6) (K : Ex → AS → Option R) := Pu.impl_PortsOf_T6 (fun y0 y1 y2 => K (.exit 0) (SD.enc d_impl_PortsOf_6 ((X.1.1, (X.1.2.1, (y0, (y1, (X.1.2.2.2.2.1, (X.1.2.2.2.2.2.1, (y2, ()))))))), (), ()))) (fun y0 y1 y2 y3 y4 => K .ret (SD.enc d_impl_PortsOf_6 ((y0, (y1, (y2, (y3, (X.1.2.2.2.2.1, (X.1.2.2.2.2.2.1, (y4, ()))))))), (), ()))) X.1.1 X.1.2.1 X.1.2.2.2.2.1 X.1.2.2.2.2.2.1
noncomputable def l_impl_PortsOf_6 : LEnt := ⟨d_impl_PortsOf_6, fun X K => iterL (t_impl_PortsOf_6 X K) fuel (X.1.2.2.1, X.1.2.2.2.1, X.1.2.2.2.2.2.2.1)⟩
noncomputable def L_impl_PortsOf : Lam := ((Lam.nil).add 12 l_impl_PortsOf_12).add 6 l_impl_PortsOf_6
theorem lok_impl_PortsOf_12 : LOk E g_impl_PortsOf n_impl_PortsOf L_impl_PortsOf (loopBody Tryz.f60 1) :=
  lok l_impl_PortsOf_12 (by kernel_rfl) fuel fun R X K => (loop_iter (σ := (List Int) × (List Int) × Int) (fun x => SD.enc d_impl_PortsOf_12 ((X.1.1, (X.1.2.1, (X.1.2.2.1, (x.1, (x.2.1, (X.1.2.2.2.2.2.1, (X.1.2.2.2.2.2.2.1, (X.1.2.2.2.2.2.2.2.1, (X.1.2.2.2.2.2.2.2.2.1, (X.1.2.2.2.2.2.2.2.2.2.1, (x.2.2, ()))))))))))), (X.2.1.1, ()), ())) (t_impl_PortsOf_12 X K) (fun m x => by kernel_rfl) fuel (X.1.2.2.2.1, X.1.2.2.2.2.1, X.1.2.2.2.2.2.2.2.2.2.2.1)).symm
theorem lok_impl_PortsOf_6 : LOk E g_impl_PortsOf n_impl_PortsOf L_impl_PortsOf (loopBody Tryz.f60 0) :=
  lok l_impl_PortsOf_6 (by kernel_rfl) fuel fun R X K => (loop_iter (σ := (List Pu.Port) × (List Int) × Int) (fun x => SD.enc d_impl_PortsOf_6 ((X.1.1, (X.1.2.1, (x.1, (x.2.1, (X.1.2.2.2.2.1, (X.1.2.2.2.2.2.1, (x.2.2, ()))))))), (), ())) (t_impl_PortsOf_6 X K) (fun m x => by kernel_rfl) fuel (X.1.2.2.1, X.1.2.2.2.1, X.1.2.2.2.2.2.2.1)).symm
theorem ok_impl_PortsOf : FnOk Tryz.prog 60 e_impl_PortsOf := FnOk.of (fnOk (Γ := g_impl_PortsOf) (an := n_impl_PortsOf) (Λ := L_impl_PortsOf) ((((((base).add ok_impl_between).add ok_impl_MailboxOk).add ok_impl_hasInt).add ok_impl_addOrdered).add ok_impl_PortsOk) Tryz.func60 (by kernel_rfl) (hF (by kernel_rfl) (cF lok_impl_PortsOf_6 (cF lok_impl_PortsOf_12 nF)))) (fun a => by kernel_rfl)
noncomputable def e_impl_MemoryOk : GEnt := entOf [.data true (.sl .str)] [(false, .bool)] fun a => Pu.impl_MemoryOk a.1
noncomputable def g_impl_MemoryOk : Gam := Gam.nil
def n_impl_MemoryOk : An := { mask := fun | 2 => [1, 2, 6, 7, 8] | _ => [] }
@[reducible] def d_impl_MemoryOk_2 : SD := ⟨[B,.ptr 1 0,DB,B,B,B,.data false (.sl .arg .str),DI,DI,B,B,B,B,B,B,B,B,B,B,B], [Z,some (.sl .arg .str),Z,Z,Z,Z,Z,Z,Z,Z,Z,Z,Z,Z,Z,Z,Z,Z,Z,Z], none⟩
noncomputable def t_impl_MemoryOk_2 {R : Type} (X : SD.D d_impl_MemoryOk_2) (K : Ex → AS → Option R) := Pu.impl_MemoryOk_T2 (fun y0 => K (.exit 0) (SD.enc d_impl_MemoryOk_2 ((X.1.1, (X.1.2.1, (X.1.2.2.1, (y0, ())))), (X.2.1.1, ()), ()))) (fun y0 y1 => K .ret (SD.enc d_impl_MemoryOk_2 ((y0, (X.1.2.1, (X.1.2.2.1, (y1, ())))), (X.2.1.1, ()), ()))) X.1.1 X.1.2.1 X.1.2.2.1 X.2.1.1
noncomputable def l_impl_MemoryOk_2 : LEnt := ⟨d_impl_MemoryOk_2, fun X K => iterL (t_impl_MemoryOk_2 X K) fuel X.1.2.2.2.1⟩
noncomputable def L_impl_MemoryOk : Lam := (Lam.nil).add 2 l_impl_MemoryOk_2
theorem lok_impl_MemoryOk_2 : LOk E g_impl_MemoryOk n_impl_MemoryOk L_impl_MemoryOk (loopBody Tryz.f118 0) :=
  lok l_impl_MemoryOk_2 (by kernel_rfl) fuel fun R X K => (loop_iter (σ := Int) (fun x => SD.enc d_impl_MemoryOk_2 ((X.1.1, (X.1.2.1, (X.1.2.2.1, (x, ())))), (X.2.1.1, ()), ())) (t_impl_MemoryOk_2 X K) (fun m x => by kernel_rfl) fuel X.1.2.2.2.1).symm
theorem ok_impl_MemoryOk : FnOk Tryz.prog 118 e_impl_MemoryOk := FnOk.of (fnOk (Γ := g_impl_MemoryOk) (an := n_impl_MemoryOk) (Λ := L_impl_MemoryOk) (base) Tryz.func118 (by kernel_rfl) (hF (by kernel_rfl) (cF lok_impl_MemoryOk_2 nF))) (fun a => by kernel_rfl)
noncomputable def e_impl_pageMapping : GEnt := entOf [.data false (.sl TMapping), .data false (.int .i64), .data false (.int .i64)] [(false, (.int .i64))] fun a => Pu.impl_pageMapping a.1 a.2.1 a.2.2.1
noncomputable def g_impl_pageMapping : Gam := Gam.nil
def n_impl_pageMapping : An := { mask := fun | 2 => [1, 2, 6, 9, 10, 11] | _ => [], merge := fun | 4 => some 25 | _ => none }
@[reducible] def d_impl_pageMapping_2 : SD := ⟨[B,DI,DI,B,B,B,DI,B,B,.data false (.sl .arg TMapping),DI,DI,B,B,B,B,B,B,B,B,B,B,B,B,B,B,B,B], [Z,Z,Z,Z,Z,Z,Z,Z,Z,Z,Z,Z,Z,Z,Z,Z,Z,Z,Z,Z,Z,Z,Z,Z,Z,Z,Z,Z], none⟩
noncomputable def t_impl_pageMapping_2 {R : Type} (X : SD.D d_impl_pageMapping_2) (K : Ex → AS → Option R) := Pu.impl_pageMapping_T2 (fun y0 => K (.exit 0) (SD.enc d_impl_pageMapping_2 ((X.1.1, (X.1.2.1, (X.1.2.2.1, (X.1.2.2.2.1, (X.1.2.2.2.2.1, (y0, ())))))), (), ()))) (fun y0 y1 => K .ret (SD.enc d_impl_pageMapping_2 ((X.1.1, (X.1.2.1, (y0, (X.1.2.2.2.1, (X.1.2.2.2.2.1, (y1, ())))))), (), ()))) X.1.1 X.1.2.1 X.1.2.2.1 X.1.2.2.2.1 X.1.2.2.2.2.1
noncomputable def l_impl_pageMapping_2 : LEnt := ⟨d_impl_pageMapping_2, fun X K => iterL (t_impl_pageMapping_2 X K) fuel X.1.2.2.2.2.2.1⟩
noncomputable def L_impl_pageMapping : Lam := (Lam.nil).add 2 l_impl_pageMapping_2
theorem lok_impl_pageMapping_2 : LOk E g_impl_pageMapping n_impl_pageMapping L_impl_pageMapping (loopBody Tryz.f173 0) :=
  lok l_impl_pageMapping_2 (by kernel_rfl) fuel fun R X K => (loop_iter (σ := Int) (fun x => SD.enc d_impl_pageMapping_2 ((X.1.1, (X.1.2.1, (X.1.2.2.1, (X.1.2.2.2.1, (X.1.2.2.2.2.1, (x, ())))))), (), ())) (t_impl_pageMapping_2 X K) (fun m x => by kernel_rfl) fuel X.1.2.2.2.2.2.1).symm
theorem ok_impl_pageMapping : FnOk Tryz.prog 173 e_impl_pageMapping := FnOk.of (fnOk (Γ := g_impl_pageMapping) (an := n_impl_pageMapping) (Λ := L_impl_pageMapping) (base) Tryz.func173 (by kernel_rfl) (hF (by kernel_rfl) (cF lok_impl_pageMapping_2 nF))) (fun a => by kernel_rfl)
noncomputable def e_impl_MappingsOk : GEnt := entOf [.data false (.sl TMapping)] [(false, .bool)] fun a => Pu.impl_MappingsOk a.1
noncomputable def g_impl_MappingsOk : Gam := ((Gam.nil).add 113 e_impl_between).add 173 e_impl_pageMapping
def n_impl_MappingsOk : An := { mask := fun | 2 => [0, 2, 5, 6, 7] | _ => [], merge := fun | 4 => some 37 | _ => none }
@[reducible] def d_impl_MappingsOk_2 : SD := ⟨[.data false (.sl .arg TMapping),B,DB,B,B,.data false (.sl .arg TMapping),DI,DI,B,B,B,B,B,B,B,B,B,B,B,B,B,B,B,B,B,B,B,B,B,B,B,B,B,B,B,B,B,B,B,B,B,B], [Z,Z,Z,Z,Z,Z,Z,Z,Z,Z,Z,Z,Z,Z,Z,Z,Z,Z,Z,Z,Z,Z,Z,Z,Z,Z,Z,Z,Z,Z,Z,Z,Z,Z,Z,Z,Z,Z,Z,Z,Z,Z], none⟩
noncomputable def t_impl_MappingsOk_2 {R : Type} (X : SD.D d_impl_MappingsOk_2) (K : Ex → AS → Option R) := Pu.impl_MappingsOk_T2 (fun y0 => K (.exit 0) (SD.enc d_impl_MappingsOk_2 ((X.1.1, (X.1.2.1, (X.1.2.2.1, (X.1.2.2.2.1, (y0, ()))))), (), ()))) (fun y0 y1 => K .ret (SD.enc d_impl_MappingsOk_2 ((X.1.1, (y0, (X.1.2.2.1, (X.1.2.2.2.1, (y1, ()))))), (), ()))) X.1.1 X.1.2.1 X.1.2.2.1 X.1.2.2.2.1
noncomputable def l_impl_MappingsOk_2 : LEnt := ⟨d_impl_MappingsOk_2, fun X K => iterL (t_impl_MappingsOk_2 X K) fuel X.1.2.2.2.2.1⟩
noncomputable def L_impl_MappingsOk : Lam := (Lam.nil).add 2 l_impl_MappingsOk_2
theorem lok_impl_MappingsOk_2 : LOk E g_impl_MappingsOk n_impl_MappingsOk L_impl_MappingsOk (loopBody Tryz.f119 0) :=
  lok l_impl_MappingsOk_2 (by kernel_rfl) fuel fun R X K => (loop_iter (σ := Int) (fun x => SD.enc d_impl_MappingsOk_2 ((X.1.1, (X.1.2.1, (X.1.2.2.1, (X.1.2.2.2.1, (x, ()))))), (), ())) (t_impl_MappingsOk_2 X K) (fun m x => by kernel_rfl) fuel X.1.2.2.2.2.1).symm
theorem ok_impl_MappingsOk : FnOk Tryz.prog 119 e_impl_MappingsOk := FnOk.of (fnOk (Γ := g_impl_MappingsOk) (an := n_impl_MappingsOk) (Λ := L_impl_MappingsOk) (((base).add ok_impl_between).add ok_impl_pageMapping) Tryz.func119 (by kernel_rfl) (hF (by kernel_rfl) (cF lok_impl_MappingsOk_2 nF))) (fun a => by kernel_rfl)
noncomputable def e_impl_PoolOk : GEnt := entOf [.data true TPool] [(false, .bool)] fun a => Pu.impl_PoolOk a.1
noncomputable def g_impl_PoolOk : Gam := (Gam.nil).add 113 e_impl_between
def n_impl_PoolOk : An := { mask := fun | 5 => [1, 2, 3, 26, 27, 28] | _ => [], merge := fun | 1 => some 21 | 7 => some 43 | _ => none }
@[reducible] def d_impl_PoolOk_5 : SD := ⟨[B,.ptr 1 0,DB,.data false (.sl (.own (some 36864)) .bool),B,B,B,B,B,B,B,B,B,B,B,B,B,B,B,B,B,B,B,B,B,B,.data false (.sl .arg (.int .i64)),DI,DI,B,B,B,B,B,B,B,B,B,B,B,B,B,B,B,B,B,B,B], [Z,some (.pair (.int .i64) (.pair (.int .i64) (.pair (.int .i64) (.sl .arg (.int .i64))))),Z,Z,Z,Z,Z,Z,Z,Z,Z,Z,Z,Z,Z,Z,Z,Z,Z,Z,Z,Z,Z,Z,Z,Z,Z,Z,Z,Z,Z,Z,Z,Z,Z,Z,Z,Z,Z,Z,Z,Z,Z,Z,Z,Z,Z,Z], none⟩
noncomputable def t_impl_PoolOk_5 {R : Type} (X : SD.D d_impl_PoolOk_5) (K : Ex → AS → Option R) := Pu.impl_PoolOk_T5 (fun y0 y1 => K (.exit 0) (SD.enc d_impl_PoolOk_5 ((X.1.1, (y0, (X.1.2.2.1, (X.1.2.2.2.1, (y1, ()))))), (X.2.1.1, ()), ()))) (fun y0 y1 y2 => K .ret (SD.enc d_impl_PoolOk_5 ((y0, (y1, (X.1.2.2.1, (X.1.2.2.2.1, (y2, ()))))), (X.2.1.1, ()), ()))) X.1.1 X.1.2.2.1 X.1.2.2.2.1 X.2.1.1
noncomputable def l_impl_PoolOk_5 : LEnt := ⟨d_impl_PoolOk_5, fun X K => iterL (t_impl_PoolOk_5 X K) fuel (X.1.2.1, X.1.2.2.2.2.1)⟩
noncomputable def L_impl_PoolOk : Lam := (Lam.nil).add 5 l_impl_PoolOk_5
theorem lok_impl_PoolOk_5 : LOk E g_impl_PoolOk n_impl_PoolOk L_impl_PoolOk (loopBody Tryz.f123 0) :=
  lok l_impl_PoolOk_5 (by kernel_rfl) fuel fun R X K => (loop_iter (σ := (List Bool) × Int) (fun x => SD.enc d_impl_PoolOk_5 ((X.1.1, (x.1, (X.1.2.2.1, (X.1.2.2.2.1, (x.2, ()))))), (X.2.1.1, ()), ())) (t_impl_PoolOk_5 X K) (fun m x => by kernel_rfl) fuel (X.1.2.1, X.1.2.2.2.2.1)).symm
theorem ok_impl_PoolOk : FnOk Tryz.prog 123 e_impl_PoolOk := FnOk.of (fnOk (Γ := g_impl_PoolOk) (an := n_impl_PoolOk) (Λ := L_impl_PoolOk) ((base).add ok_impl_between) Tryz.func123 (by kernel_rfl) (hF (by kernel_rfl) (cF lok_impl_PoolOk_5 nF))) (fun a => by kernel_rfl)
noncomputable def e_impl_ringSize : GEnt := entOf [.data false (.int .i64)] [(false, .bool)] fun a => Pu.impl_ringSize a.1
theorem ok_impl_ringSize : FnOk Tryz.prog 214 e_impl_ringSize := FnOk.of (fnOk (an := { merge := fun | 1 => some 2 | _ => none }) (Λ := Lam.nil) (base) Tryz.func214 (by kernel_rfl) (hF (by kernel_rfl) nF)) (fun a => by kernel_rfl)
noncomputable def e_impl_modulo : GEnt := entOf [.data false (.int .i64), .data false (.int .i64)] [(false, (.int .i64))] fun a => Pu.impl_modulo a.1 a.2.1
theorem ok_impl_modulo : FnOk Tryz.prog 235 e_impl_modulo := FnOk.of (fnOk (an := {}) (Λ := Lam.nil) (base) Tryz.func235 (by kernel_rfl) (hF (by kernel_rfl) nF)) (fun a => by kernel_rfl)
noncomputable def e_impl_RingUsed : GEnt := entOf [.data true TClock] [(false, (.int .i64))] fun a => Pu.impl_RingUsed a.1
theorem ok_impl_RingUsed : FnOk Tryz.prog 215 e_impl_RingUsed := FnOk.of (fnOk (an := {}) (Λ := Lam.nil) (((base).add ok_impl_ringSize).add ok_impl_modulo) Tryz.func215 (by kernel_rfl) (hF (by kernel_rfl) nF)) (fun a => by kernel_rfl)
noncomputable def e_impl_RingOk : GEnt := entOf [.data true TClock] [(false, .bool)] fun a => Pu.impl_RingOk a.1
theorem ok_impl_RingOk : FnOk Tryz.prog 174 e_impl_RingOk := FnOk.of (fnOk (an := { merge := fun | 1 => some 2 | _ => none }) (Λ := Lam.nil) ((((base).add ok_impl_between).add ok_impl_ringSize).add ok_impl_RingUsed) Tryz.func174 (by kernel_rfl) (hF (by kernel_rfl) nF)) (fun a => by kernel_rfl)
noncomputable def e_impl_copyInts : GEnt := entOf [.data false (.sl (.int .i64))] [(false, (.sl (.own none) (.int .i64)))] fun a => Pu.impl_copyInts a.1
theorem ok_impl_copyInts : FnOk Tryz.prog 236 e_impl_copyInts := FnOk.of (fnOk (an := {}) (Λ := Lam.nil) (base) Tryz.func236 (by kernel_rfl) (hF (by kernel_rfl) nF)) (fun a => by kernel_rfl)
noncomputable def e_impl_copyPool : GEnt := entOf [.data true TPool] [(true, (.pair (.int .i64) (.pair (.int .i64) (.pair (.int .i64) (.sl (.own none) (.int .i64))))))] fun a => Pu.impl_copyPool a.1
theorem ok_impl_copyPool : FnOk Tryz.prog 216 e_impl_copyPool := FnOk.of (fnOk (an := { mv := [7] }) (Λ := Lam.nil) ((base).add ok_impl_copyInts) Tryz.func216 (by kernel_rfl) (hF (by kernel_rfl) nF)) (fun a => by kernel_rfl)
noncomputable def e_impl_GiveBuffers : GEnt := entOf [.data true TPool, .data false (.sl (.int .i64))] [(true, (.pair (.int .i64) (.pair (.int .i64) (.pair (.int .i64) (.sl (.own none) (.int .i64)))))), (false, .bool)] fun a => Pu.impl_GiveBuffers a.1 a.2.1
theorem ok_impl_GiveBuffers : FnOk Tryz.prog 175 e_impl_GiveBuffers := FnOk.of (fnOk (an := { merge := fun | 3 => some 21 | _ => none, mv := [10, 24] }) (Λ := Lam.nil) (((base).add ok_impl_PoolOk).add ok_impl_copyPool) Tryz.func175 (by kernel_rfl) (hF (by kernel_rfl) nF)) (fun a => by kernel_rfl)
noncomputable def e_impl_TxOk : GEnt := entOf [.data true TTxQueue] [(false, .bool)] fun a => Pu.impl_TxOk a.1
noncomputable def g_impl_TxOk : Gam := ((((Gam.nil).add 113 e_impl_between).add 123 e_impl_PoolOk).add 174 e_impl_RingOk).add 175 e_impl_GiveBuffers
def n_impl_TxOk : An := { mask := fun | 6 => [1, 2, 3, 4, 30, 31, 32] | _ => [], merge := fun | 1 => some 24 | 8 => some 50 | _ => none, mv := [55] }
@[reducible] def d_impl_TxOk_6 : SD := ⟨[B,.ptr 1 0,DB,DI,.data false (.sl (.own (some 49152)) (.int .i64)),B,B,B,B,B,B,B,B,B,B,B,B,B,B,B,B,B,B,B,B,B,B,B,B,B,.data false (.sl .arg TSent),DI,DI,B,B,B,B,B,B,B,B,B,B,B,B,B,B,B,B,B,B,B,B,B,B,B,B,B,B,B,B,B,B,B,B,B,B,B], [Z,some (.pair (.pair (.int .i64) (.pair (.int .i64) (.pair (.int .i64) (.int .i64)))) (.pair (.pair (.int .i64) (.pair (.int .i64) (.pair (.int .i64) (.sl .arg (.int .i64))))) (.pair (.sl .arg TSent) (.int .i64)))),Z,Z,Z,Z,Z,Z,Z,Z,Z,Z,Z,Z,Z,Z,Z,Z,Z,Z,Z,Z,Z,Z,Z,Z,Z,Z,Z,Z,Z,Z,Z,Z,Z,Z,Z,Z,Z,Z,Z,Z,Z,Z,Z,Z,Z,Z,Z,Z,Z,Z,Z,Z,Z,Z,Z,Z,Z,Z,Z,Z,Z,Z,Z,Z,Z,Z], none⟩
noncomputable def t_impl_TxOk_6 {R : Type} (X : SD.D d_impl_TxOk_6) (K : Ex → AS → Option R) := Pu.impl_TxOk_T6 (fun y0 y1 y2 => K (.exit 0) (SD.enc d_impl_TxOk_6 ((X.1.1, (y0, (y1, (X.1.2.2.2.1, (X.1.2.2.2.2.1, (y2, ())))))), (X.2.1.1, ()), ()))) (fun y0 y1 y2 y3 => K .ret (SD.enc d_impl_TxOk_6 ((y0, (y1, (y2, (X.1.2.2.2.1, (X.1.2.2.2.2.1, (y3, ())))))), (X.2.1.1, ()), ()))) X.1.1 X.1.2.2.2.1 X.1.2.2.2.2.1 X.2.1.1
noncomputable def l_impl_TxOk_6 : LEnt := ⟨d_impl_TxOk_6, fun X K => iterL (t_impl_TxOk_6 X K) fuel (X.1.2.1, X.1.2.2.1, X.1.2.2.2.2.2.1)⟩
noncomputable def L_impl_TxOk : Lam := (Lam.nil).add 6 l_impl_TxOk_6
theorem lok_impl_TxOk_6 : LOk E g_impl_TxOk n_impl_TxOk L_impl_TxOk (loopBody Tryz.f120 0) :=
  lok l_impl_TxOk_6 (by kernel_rfl) fuel fun R X K => (loop_iter (σ := Int × (List Int) × Int) (fun x => SD.enc d_impl_TxOk_6 ((X.1.1, (x.1, (x.2.1, (X.1.2.2.2.1, (X.1.2.2.2.2.1, (x.2.2, ())))))), (X.2.1.1, ()), ())) (t_impl_TxOk_6 X K) (fun m x => by kernel_rfl) fuel (X.1.2.1, X.1.2.2.1, X.1.2.2.2.2.2.1)).symm
theorem ok_impl_TxOk : FnOk Tryz.prog 120 e_impl_TxOk := FnOk.of (fnOk (Γ := g_impl_TxOk) (an := n_impl_TxOk) (Λ := L_impl_TxOk) (((((base).add ok_impl_between).add ok_impl_PoolOk).add ok_impl_RingOk).add ok_impl_GiveBuffers) Tryz.func120 (by kernel_rfl) (hF (by kernel_rfl) (cF lok_impl_TxOk_6 nF))) (fun a => by kernel_rfl)
noncomputable def e_impl_QueueOk : GEnt := entOf [.data true TBucket] [(false, .bool)] fun a => Pu.impl_QueueOk a.1
theorem ok_impl_QueueOk : FnOk Tryz.prog 176 e_impl_QueueOk := FnOk.of (fnOk (an := { merge := fun | 1 => some 2 | _ => none }) (Λ := Lam.nil) (((base).add ok_impl_between).add ok_impl_ringSize) Tryz.func176 (by kernel_rfl) (hF (by kernel_rfl) nF)) (fun a => by kernel_rfl)
noncomputable def e_impl_SegmentOk : GEnt := entOf [.data true TSegment] [(false, .bool)] fun a => Pu.impl_SegmentOk a.1
theorem ok_impl_SegmentOk : FnOk Tryz.prog 217 e_impl_SegmentOk := FnOk.of (fnOk (an := { merge := fun | 1 => some 18 | 5 => some 2 | 7 => some 2 | _ => none }) (Λ := Lam.nil) ((base).add ok_impl_between) Tryz.func217 (by kernel_rfl) (hF (by kernel_rfl) nF)) (fun a => by kernel_rfl)
noncomputable def e_impl_streaming : GEnt := entOf [.data false (.int .i64)] [(false, .bool)] fun a => Pu.impl_streaming a.1
theorem ok_impl_streaming : FnOk Tryz.prog 218 e_impl_streaming := FnOk.of (fnOk (an := { merge := fun | 1 => some 2 | _ => none }) (Λ := Lam.nil) (base) Tryz.func218 (by kernel_rfl) (hF (by kernel_rfl) nF)) (fun a => by kernel_rfl)
noncomputable def e_impl_SuperOk : GEnt := entOf [.data true TPacket] [(false, .bool)] fun a => Pu.impl_SuperOk a.1
theorem ok_impl_SuperOk : FnOk Tryz.prog 177 e_impl_SuperOk := FnOk.of (fnOk (an := { merge := fun | 1 => some 2 | _ => none }) (Λ := Lam.nil) ((((base).add ok_impl_between).add ok_impl_SegmentOk).add ok_impl_streaming) Tryz.func177 (by kernel_rfl) (hF (by kernel_rfl) nF)) (fun a => by kernel_rfl)
noncomputable def e_impl_RxOk : GEnt := entOf [.data true TRxQueue] [(false, .bool)] fun a => Pu.impl_RxOk a.1
theorem ok_impl_RxOk : FnOk Tryz.prog 122 e_impl_RxOk := FnOk.of (fnOk (an := { merge := fun | 1 => some 42 | 5 => some 2 | _ => none }) (Λ := Lam.nil) (((((base).add ok_impl_between).add ok_impl_RingOk).add ok_impl_QueueOk).add ok_impl_SuperOk) Tryz.func122 (by kernel_rfl) (hF (by kernel_rfl) nF)) (fun a => by kernel_rfl)
noncomputable def e_impl_due : GEnt := entOf [.data true TVector] [(false, .bool)] fun a => Pu.impl_due a.1
theorem ok_impl_due : FnOk Tryz.prog 178 e_impl_due := FnOk.of (fnOk (an := { merge := fun | 1 => some 2 | _ => none }) (Λ := Lam.nil) (base) Tryz.func178 (by kernel_rfl) (hF (by kernel_rfl) nF)) (fun a => by kernel_rfl)
noncomputable def e_impl_VectorOk : GEnt := entOf [.data true TVector] [(false, .bool)] fun a => Pu.impl_VectorOk a.1
theorem ok_impl_VectorOk : FnOk Tryz.prog 124 e_impl_VectorOk := FnOk.of (fnOk (an := { merge := fun | 1 => some 24 | 3 => some 2 | _ => none }) (Λ := Lam.nil) (((base).add ok_impl_between).add ok_impl_due) Tryz.func124 (by kernel_rfl) (hF (by kernel_rfl) nF)) (fun a => by kernel_rfl)
noncomputable def e_impl_RuleOk : GEnt := entOf [.data true TRule] [(false, .bool)] fun a => Pu.impl_RuleOk a.1
theorem ok_impl_RuleOk : FnOk Tryz.prog 219 e_impl_RuleOk := FnOk.of (fnOk (an := { merge := fun | 1 => some 33 | 3 => some 54 | 5 => some 2 | _ => none }) (Λ := Lam.nil) ((base).add ok_impl_between) Tryz.func219 (by kernel_rfl) (hF (by kernel_rfl) nF)) (fun a => by kernel_rfl)
noncomputable def e_impl_RulesOk : GEnt := entOf [.data false (.sl TRule)] [(false, .bool)] fun a => Pu.impl_RulesOk a.1
noncomputable def g_impl_RulesOk : Gam := (Gam.nil).add 219 e_impl_RuleOk
def n_impl_RulesOk : An := { mask := fun | 2 => [0, 2, 5, 6, 7] | _ => [] }
@[reducible] def d_impl_RulesOk_2 : SD := ⟨[.data false (.sl .arg TRule),B,DB,B,B,.data false (.sl .arg TRule),DI,DI,B,B,B,B,B,B,B,B,B,B], [Z,Z,Z,Z,Z,Z,Z,Z,Z,Z,Z,Z,Z,Z,Z,Z,Z,Z], none⟩
noncomputable def t_impl_RulesOk_2 {R : Type} (X : SD.D d_impl_RulesOk_2) (K : Ex → AS → Option R) := Pu.impl_RulesOk_T2 (fun y0 => K (.exit 0) (SD.enc d_impl_RulesOk_2 ((X.1.1, (X.1.2.1, (X.1.2.2.1, (X.1.2.2.2.1, (y0, ()))))), (), ()))) (fun y0 y1 => K .ret (SD.enc d_impl_RulesOk_2 ((X.1.1, (y0, (X.1.2.2.1, (X.1.2.2.2.1, (y1, ()))))), (), ()))) X.1.1 X.1.2.1 X.1.2.2.1 X.1.2.2.2.1
noncomputable def l_impl_RulesOk_2 : LEnt := ⟨d_impl_RulesOk_2, fun X K => iterL (t_impl_RulesOk_2 X K) fuel X.1.2.2.2.2.1⟩
noncomputable def L_impl_RulesOk : Lam := (Lam.nil).add 2 l_impl_RulesOk_2
theorem lok_impl_RulesOk_2 : LOk E g_impl_RulesOk n_impl_RulesOk L_impl_RulesOk (loopBody Tryz.f179 0) :=
  lok l_impl_RulesOk_2 (by kernel_rfl) fuel fun R X K => (loop_iter (σ := Int) (fun x => SD.enc d_impl_RulesOk_2 ((X.1.1, (X.1.2.1, (X.1.2.2.1, (X.1.2.2.2.1, (x, ()))))), (), ())) (t_impl_RulesOk_2 X K) (fun m x => by kernel_rfl) fuel X.1.2.2.2.2.1).symm
theorem ok_impl_RulesOk : FnOk Tryz.prog 179 e_impl_RulesOk := FnOk.of (fnOk (Γ := g_impl_RulesOk) (an := n_impl_RulesOk) (Λ := L_impl_RulesOk) ((base).add ok_impl_RuleOk) Tryz.func179 (by kernel_rfl) (hF (by kernel_rfl) (cF lok_impl_RulesOk_2 nF))) (fun a => by kernel_rfl)
noncomputable def e_impl_slotOf : GEnt := entOf [.data true (.sl TSlot), .data true TFlow] [(false, (.int .i64))] fun a => Pu.impl_slotOf a.1 a.2.1
noncomputable def g_impl_slotOf : Gam := Gam.nil
def n_impl_slotOf : An := { mask := fun | 2 => [3, 4, 8, 9, 10] | _ => [], merge := fun | 4 => some 23 | _ => none }
@[reducible] def d_impl_slotOf_2 : SD := ⟨[B,B,B,.ptr 3 0,DI,B,B,B,.data false (.sl .arg TSlot),DI,DI,B,B,B,B,B,B,B,B,B,B,B,B,B,B,B], [Z,Z,Z,some (.pair (.int .i64) (.pair (.int .i64) (.pair (.int .i64) (.pair (.int .i64) (.int .i64))))),Z,Z,Z,Z,Z,Z,Z,Z,Z,Z,Z,Z,Z,Z,Z,Z,Z,Z,Z,Z,Z,Z], none⟩
noncomputable def t_impl_slotOf_2 {R : Type} (X : SD.D d_impl_slotOf_2) (K : Ex → AS → Option R) := Pu.impl_slotOf_T2 (fun y0 => K (.exit 0) (SD.enc d_impl_slotOf_2 ((X.1.1, (X.1.2.1, (X.1.2.2.1, (y0, ())))), (X.2.1.1, ()), ()))) (fun y0 y1 => K .ret (SD.enc d_impl_slotOf_2 ((y0, (X.1.2.1, (X.1.2.2.1, (y1, ())))), (X.2.1.1, ()), ()))) X.1.1 X.1.2.1 X.1.2.2.1 X.2.1.1
noncomputable def l_impl_slotOf_2 : LEnt := ⟨d_impl_slotOf_2, fun X K => iterL (t_impl_slotOf_2 X K) fuel X.1.2.2.2.1⟩
noncomputable def L_impl_slotOf : Lam := (Lam.nil).add 2 l_impl_slotOf_2
theorem lok_impl_slotOf_2 : LOk E g_impl_slotOf n_impl_slotOf L_impl_slotOf (loopBody Tryz.f220 0) :=
  lok l_impl_slotOf_2 (by kernel_rfl) fuel fun R X K => (loop_iter (σ := Int) (fun x => SD.enc d_impl_slotOf_2 ((X.1.1, (X.1.2.1, (X.1.2.2.1, (x, ())))), (X.2.1.1, ()), ())) (t_impl_slotOf_2 X K) (fun m x => by kernel_rfl) fuel X.1.2.2.2.1).symm
theorem ok_impl_slotOf : FnOk Tryz.prog 220 e_impl_slotOf := FnOk.of (fnOk (Γ := g_impl_slotOf) (an := n_impl_slotOf) (Λ := L_impl_slotOf) (base) Tryz.func220 (by kernel_rfl) (hF (by kernel_rfl) (cF lok_impl_slotOf_2 nF))) (fun a => by kernel_rfl)
noncomputable def e_impl_HomeSlot : GEnt := entOf [.data true TFlow] [(false, (.int .i64))] fun a => Pu.impl_HomeSlot a.1
noncomputable def g_impl_HomeSlot : Gam := (Gam.nil).add 235 e_impl_modulo
def n_impl_HomeSlot : An := { mask := fun | 3 => [3, 16, 17, 18] | _ => [] }
@[reducible] def d_impl_HomeSlot_3 : SD := ⟨[B,B,B,DI,B,B,B,B,B,B,B,B,B,B,B,B,.data false (.sl (.own (some 196608)) (.int .i64)),DI,DI,B,B,B,B,B,B,B,B,B,B], [Z,Z,Z,Z,Z,Z,Z,Z,Z,Z,Z,Z,Z,Z,Z,Z,Z,Z,Z,Z,Z,Z,Z,Z,Z,Z,Z,Z,Z], none⟩
noncomputable def t_impl_HomeSlot_3 {R : Type} (X : SD.D d_impl_HomeSlot_3) (K : Ex → AS → Option R) := Pu.impl_HomeSlot_T3 (fun y0 y1 => K (.exit 0) (SD.enc d_impl_HomeSlot_3 ((y0, (X.1.2.1, (X.1.2.2.1, (y1, ())))), (), ()))) X.1.2.1 X.1.2.2.1
noncomputable def l_impl_HomeSlot_3 : LEnt := ⟨d_impl_HomeSlot_3, fun X K => iterL (t_impl_HomeSlot_3 X K) fuel (X.1.1, X.1.2.2.2.1)⟩
noncomputable def L_impl_HomeSlot : Lam := (Lam.nil).add 3 l_impl_HomeSlot_3
theorem lok_impl_HomeSlot_3 : LOk E g_impl_HomeSlot n_impl_HomeSlot L_impl_HomeSlot (loopBody Tryz.f237 0) :=
  lok l_impl_HomeSlot_3 (by kernel_rfl) fuel fun R X K => (loop_iter (σ := Int × Int) (fun x => SD.enc d_impl_HomeSlot_3 ((x.1, (X.1.2.1, (X.1.2.2.1, (x.2, ())))), (), ())) (t_impl_HomeSlot_3 X K) (fun m x => by kernel_rfl) fuel (X.1.1, X.1.2.2.2.1)).symm
theorem ok_impl_HomeSlot : FnOk Tryz.prog 237 e_impl_HomeSlot := FnOk.of (fnOk (Γ := g_impl_HomeSlot) (an := n_impl_HomeSlot) (Λ := L_impl_HomeSlot) ((base).add ok_impl_modulo) Tryz.func237 (by kernel_rfl) (hF (by kernel_rfl) (cF lok_impl_HomeSlot_3 nF))) (fun a => by kernel_rfl)
noncomputable def e_impl_wayOf : GEnt := entOf [.data true TFlow] [(false, (.sl (.own none) (.int .i64)))] fun a => Pu.impl_wayOf a.1
noncomputable def g_impl_wayOf : Gam := (Gam.nil).add 237 e_impl_HomeSlot
def n_impl_wayOf : An := { mask := fun | 3 => [1, 3, 4] | _ => [], mv := [10, 18] }
@[reducible] def d_impl_wayOf_3 : SD := ⟨[B,.ptr 1 0,B,.data false (.sl (.own (some 36864)) (.int .i64)),DI,B,B,B,B,B,B,B,B,B,B,B,B,B,B], [Z,some (.pair (.int .i64) (.pair (.int .i64) (.pair (.int .i64) (.pair (.int .i64) (.int .i64))))),Z,Z,Z,Z,Z,Z,Z,Z,Z,Z,Z,Z,Z,Z,Z,Z,Z], none⟩
noncomputable def t_impl_wayOf_3 {R : Type} (X : SD.D d_impl_wayOf_3) (K : Ex → AS → Option R) := Pu.impl_wayOf_T3 (fun y0 y1 => K (.exit 0) (SD.enc d_impl_wayOf_3 ((y0, (y1, ())), (X.2.1.1, ()), ()))) X.2.1.1
noncomputable def l_impl_wayOf_3 : LEnt := ⟨d_impl_wayOf_3, fun X K => iterL (t_impl_wayOf_3 X K) fuel (X.1.1, X.1.2.1)⟩
noncomputable def L_impl_wayOf : Lam := (Lam.nil).add 3 l_impl_wayOf_3
theorem lok_impl_wayOf_3 : LOk E g_impl_wayOf n_impl_wayOf L_impl_wayOf (loopBody Tryz.f221 0) :=
  lok l_impl_wayOf_3 (by kernel_rfl) fuel fun R X K => (loop_iter (σ := (List Int) × Int) (fun x => SD.enc d_impl_wayOf_3 ((x.1, (x.2, ())), (X.2.1.1, ()), ())) (t_impl_wayOf_3 X K) (fun m x => by kernel_rfl) fuel (X.1.1, X.1.2.1)).symm
theorem ok_impl_wayOf : FnOk Tryz.prog 221 e_impl_wayOf := FnOk.of (fnOk (Γ := g_impl_wayOf) (an := n_impl_wayOf) (Λ := L_impl_wayOf) ((base).add ok_impl_HomeSlot) Tryz.func221 (by kernel_rfl) (hF (by kernel_rfl) (cF lok_impl_wayOf_3 nF))) (fun a => by kernel_rfl)
noncomputable def e_impl_TableOk : GEnt := entOf [.data true (.sl TSlot)] [(false, .bool)] fun a => Pu.impl_TableOk a.1
noncomputable def g_impl_TableOk : Gam := (((Gam.nil).add 113 e_impl_between).add 220 e_impl_slotOf).add 221 e_impl_wayOf
def n_impl_TableOk : An := { mask := fun | 4 => [1, 2, 12, 13, 14] | 14 => [1, 2, 3, 12, 13, 14, 49, 50, 51] | _ => [], merge := fun | 6 => some 28 | 9 => some 40 | _ => none }
@[reducible] def d_impl_TableOk_14 : SD := ⟨[B,.ptr 1 0,DB,DI,B,B,B,B,B,B,B,B,.data false (.sl .arg TSlot),DI,DI,B,B,B,B,B,B,B,B,B,B,B,B,B,B,B,B,B,B,B,B,B,B,B,B,B,B,B,B,B,B,B,B,B,B,.data false (.sl (.own (some 602112)) (.int .i64)),DI,DI,B,B,B,B,B,B,B,B,B,B,B,B,B,B,B], [Z,some (.sl .arg TSlot),Z,Z,Z,Z,Z,Z,Z,Z,Z,Z,Z,Z,Z,Z,Z,Z,Z,Z,Z,Z,Z,Z,Z,Z,Z,Z,Z,Z,Z,Z,Z,Z,Z,Z,Z,Z,Z,Z,Z,Z,Z,Z,Z,Z,Z,Z,Z,Z,Z,Z,Z,Z,Z,Z,Z,Z,Z,Z,Z,Z,Z,Z,Z,Z,Z], none⟩
noncomputable def t_impl_TableOk_14 {R : Type} (X : SD.D d_impl_TableOk_14) (K : Ex → AS → Option R) := Pu.impl_TableOk_T14 (fun y0 => K (.exit 2) (SD.enc d_impl_TableOk_14 ((X.1.1, (X.1.2.1, (X.1.2.2.1, (X.1.2.2.2.1, (X.1.2.2.2.2.1, (X.1.2.2.2.2.2.1, (X.1.2.2.2.2.2.2.1, (y0, ())))))))), (X.2.1.1, ()), ()))) (fun y0 y1 => K .ret (SD.enc d_impl_TableOk_14 ((y0, (X.1.2.1, (X.1.2.2.1, (X.1.2.2.2.1, (X.1.2.2.2.2.1, (X.1.2.2.2.2.2.1, (X.1.2.2.2.2.2.2.1, (y1, ())))))))), (X.2.1.1, ()), ()))) X.1.1 X.1.2.1 X.1.2.2.1 X.1.2.2.2.1 X.1.2.2.2.2.1 X.1.2.2.2.2.2.1 X.1.2.2.2.2.2.2.1 X.2.1.1
noncomputable def l_impl_TableOk_14 : LEnt := ⟨d_impl_TableOk_14, fun X K => iterL (t_impl_TableOk_14 X K) fuel X.1.2.2.2.2.2.2.2.1⟩
@[reducible] def d_impl_TableOk_4 : SD := ⟨[B,.ptr 1 0,DB,B,B,B,B,B,B,B,B,B,.data false (.sl .arg TSlot),DI,DI,B,B,B,B,B,B,B,B,B,B,B,B,B,B,B,B,B,B,B,B,B,B,B,B,B,B,B,B,B,B,B,B,B,B,B,B,B,B,B,B,B,B,B,B,B,B,B,B,B,B,B,B], [Z,some (.sl .arg TSlot),Z,Z,Z,Z,Z,Z,Z,Z,Z,Z,Z,Z,Z,Z,Z,Z,Z,Z,Z,Z,Z,Z,Z,Z,Z,Z,Z,Z,Z,Z,Z,Z,Z,Z,Z,Z,Z,Z,Z,Z,Z,Z,Z,Z,Z,Z,Z,Z,Z,Z,Z,Z,Z,Z,Z,Z,Z,Z,Z,Z,Z,Z,Z,Z,Z], none⟩
noncomputable def t_impl_TableOk_4 {R : Type} (X : SD.D d_impl_TableOk_4) (K : Ex → AS → Option R) := Pu.impl_TableOk_T4 (fun y0 => K (.exit 0) (SD.enc d_impl_TableOk_4 ((X.1.1, (X.1.2.1, (X.1.2.2.1, (y0, ())))), (X.2.1.1, ()), ()))) (fun y0 y1 => K .ret (SD.enc d_impl_TableOk_4 ((y0, (X.1.2.1, (X.1.2.2.1, (y1, ())))), (X.2.1.1, ()), ()))) X.1.1 X.1.2.1 X.1.2.2.1 X.2.1.1
noncomputable def l_impl_TableOk_4 : LEnt := ⟨d_impl_TableOk_4, fun X K => iterL (t_impl_TableOk_4 X K) fuel X.1.2.2.2.1⟩
noncomputable def L_impl_TableOk : Lam := ((Lam.nil).add 14 l_impl_TableOk_14).add 4 l_impl_TableOk_4
theorem lok_impl_TableOk_14 : LOk E g_impl_TableOk n_impl_TableOk L_impl_TableOk (loopBody Tryz.f180 1) :=
  lok l_impl_TableOk_14 (by kernel_rfl) fuel fun R X K => (loop_iter (σ := Int) (fun x => SD.enc d_impl_TableOk_14 ((X.1.1, (X.1.2.1, (X.1.2.2.1, (X.1.2.2.2.1, (X.1.2.2.2.2.1, (X.1.2.2.2.2.2.1, (X.1.2.2.2.2.2.2.1, (x, ())))))))), (X.2.1.1, ()), ())) (t_impl_TableOk_14 X K) (fun m x => by kernel_rfl) fuel X.1.2.2.2.2.2.2.2.1).symm
theorem lok_impl_TableOk_4 : LOk E g_impl_TableOk n_impl_TableOk L_impl_TableOk (loopBody Tryz.f180 0) :=
  lok l_impl_TableOk_4 (by kernel_rfl) fuel fun R X K => (loop_iter (σ := Int) (fun x => SD.enc d_impl_TableOk_4 ((X.1.1, (X.1.2.1, (X.1.2.2.1, (x, ())))), (X.2.1.1, ()), ())) (t_impl_TableOk_4 X K) (fun m x => by kernel_rfl) fuel X.1.2.2.2.1).symm
theorem ok_impl_TableOk : FnOk Tryz.prog 180 e_impl_TableOk := FnOk.of (fnOk (Γ := g_impl_TableOk) (an := n_impl_TableOk) (Λ := L_impl_TableOk) ((((base).add ok_impl_between).add ok_impl_slotOf).add ok_impl_wayOf) Tryz.func180 (by kernel_rfl) (hF (by kernel_rfl) (cF lok_impl_TableOk_4 (cF lok_impl_TableOk_14 nF)))) (fun a => by kernel_rfl)
noncomputable def e_impl_tableSize : GEnt := entOf [.data false (.int .i64)] [(false, .bool)] fun a => Pu.impl_tableSize a.1
theorem ok_impl_tableSize : FnOk Tryz.prog 222 e_impl_tableSize := FnOk.of (fnOk (an := { merge := fun | 1 => some 2 | _ => none }) (Λ := Lam.nil) (base) Tryz.func222 (by kernel_rfl) (hF (by kernel_rfl) nF)) (fun a => by kernel_rfl)
noncomputable def e_impl_SpreadOk : GEnt := entOf [.data true TSpread, .data false (.int .i64)] [(false, .bool)] fun a => Pu.impl_SpreadOk a.1 a.2.1
noncomputable def g_impl_SpreadOk : Gam := ((Gam.nil).add 113 e_impl_between).add 222 e_impl_tableSize
def n_impl_SpreadOk : An := { mask := fun | 4 => [1, 4, 24, 25, 26] | _ => [], merge := fun | 1 => some 22 | _ => none }
@[reducible] def d_impl_SpreadOk_4 : SD := ⟨[B,DI,B,B,DB,B,B,B,B,B,B,B,B,B,B,B,B,B,B,B,B,B,B,B,.data false (.sl .arg (.int .i64)),DI,DI,B,B,B,B,B,B,B,B,B], [Z,Z,Z,Z,Z,Z,Z,Z,Z,Z,Z,Z,Z,Z,Z,Z,Z,Z,Z,Z,Z,Z,Z,Z,Z,Z,Z,Z,Z,Z,Z,Z,Z,Z,Z,Z], none⟩
noncomputable def t_impl_SpreadOk_4 {R : Type} (X : SD.D d_impl_SpreadOk_4) (K : Ex → AS → Option R) := Pu.impl_SpreadOk_T4 (fun y0 => K (.exit 0) (SD.enc d_impl_SpreadOk_4 ((X.1.1, (X.1.2.1, (X.1.2.2.1, (X.1.2.2.2.1, (y0, ()))))), (), ()))) (fun y0 y1 => K .ret (SD.enc d_impl_SpreadOk_4 ((X.1.1, (y0, (X.1.2.2.1, (X.1.2.2.2.1, (y1, ()))))), (), ()))) X.1.1 X.1.2.1 X.1.2.2.1 X.1.2.2.2.1
noncomputable def l_impl_SpreadOk_4 : LEnt := ⟨d_impl_SpreadOk_4, fun X K => iterL (t_impl_SpreadOk_4 X K) fuel X.1.2.2.2.2.1⟩
noncomputable def L_impl_SpreadOk : Lam := (Lam.nil).add 4 l_impl_SpreadOk_4
theorem lok_impl_SpreadOk_4 : LOk E g_impl_SpreadOk n_impl_SpreadOk L_impl_SpreadOk (loopBody Tryz.f181 0) :=
  lok l_impl_SpreadOk_4 (by kernel_rfl) fuel fun R X K => (loop_iter (σ := Int) (fun x => SD.enc d_impl_SpreadOk_4 ((X.1.1, (X.1.2.1, (X.1.2.2.1, (X.1.2.2.2.1, (x, ()))))), (), ())) (t_impl_SpreadOk_4 X K) (fun m x => by kernel_rfl) fuel X.1.2.2.2.2.1).symm
theorem ok_impl_SpreadOk : FnOk Tryz.prog 181 e_impl_SpreadOk := FnOk.of (fnOk (Γ := g_impl_SpreadOk) (an := n_impl_SpreadOk) (Λ := L_impl_SpreadOk) (((base).add ok_impl_between).add ok_impl_tableSize) Tryz.func181 (by kernel_rfl) (hF (by kernel_rfl) (cF lok_impl_SpreadOk_4 nF))) (fun a => by kernel_rfl)
noncomputable def e_impl_SteeringOk : GEnt := entOf [.data true TSteering, .data false (.int .i64)] [(false, .bool)] fun a => Pu.impl_SteeringOk a.1 a.2.1
noncomputable def g_impl_SteeringOk : Gam := (((Gam.nil).add 179 e_impl_RulesOk).add 180 e_impl_TableOk).add 181 e_impl_SpreadOk
def n_impl_SteeringOk : An := { mask := fun | 4 => [1, 2, 4, 27, 28, 29] | 10 => [1, 4, 45, 46, 47] | _ => [], merge := fun | 1 => some 25 | 6 => some 41 | 12 => some 59 | _ => none }
@[reducible] def d_impl_SteeringOk_4 : SD := ⟨[B,DI,.ptr 2 0,B,DB,B,B,B,B,B,B,B,B,B,B,B,B,B,B,B,B,B,B,B,B,B,B,.data false (.sl .arg TRule),DI,DI,B,B,B,B,B,B,B,B,B,B,B,B,B,B,B,B,B,B,B,B,B,B,B,B,B,B,B,B,B,B,B], [Z,Z,some (.pair (.sl .arg TRule) (.pair (.sl .arg TSlot) (.pair .str (.sl .arg (.int .i64))))),Z,Z,Z,Z,Z,Z,Z,Z,Z,Z,Z,Z,Z,Z,Z,Z,Z,Z,Z,Z,Z,Z,Z,Z,Z,Z,Z,Z,Z,Z,Z,Z,Z,Z,Z,Z,Z,Z,Z,Z,Z,Z,Z,Z,Z,Z,Z,Z,Z,Z,Z,Z,Z,Z,Z,Z,Z,Z], none⟩
noncomputable def t_impl_SteeringOk_4 {R : Type} (X : SD.D d_impl_SteeringOk_4) (K : Ex → AS → Option R) := Pu.impl_SteeringOk_T4 (fun y0 => K (.exit 0) (SD.enc d_impl_SteeringOk_4 ((X.1.1, (X.1.2.1, (X.1.2.2.1, (X.1.2.2.2.1, (y0, ()))))), (X.2.1.1, ()), ()))) (fun y0 y1 => K .ret (SD.enc d_impl_SteeringOk_4 ((X.1.1, (y0, (X.1.2.2.1, (X.1.2.2.2.1, (y1, ()))))), (X.2.1.1, ()), ()))) X.1.1 X.1.2.1 X.1.2.2.1 X.1.2.2.2.1 X.2.1.1
noncomputable def l_impl_SteeringOk_4 : LEnt := ⟨d_impl_SteeringOk_4, fun X K => iterL (t_impl_SteeringOk_4 X K) fuel X.1.2.2.2.2.1⟩
@[reducible] def d_impl_SteeringOk_10 : SD := ⟨[B,DI,B,B,DB,B,B,B,B,B,B,B,B,B,B,B,B,B,B,B,B,B,B,B,B,B,B,B,B,B,B,B,B,B,B,B,B,B,B,B,B,B,B,B,B,.data false (.sl .arg TSlot),DI,DI,B,B,B,B,B,B,B,B,B,B,B,B,B], [Z,Z,Z,Z,Z,Z,Z,Z,Z,Z,Z,Z,Z,Z,Z,Z,Z,Z,Z,Z,Z,Z,Z,Z,Z,Z,Z,Z,Z,Z,Z,Z,Z,Z,Z,Z,Z,Z,Z,Z,Z,Z,Z,Z,Z,Z,Z,Z,Z,Z,Z,Z,Z,Z,Z,Z,Z,Z,Z,Z,Z], none⟩
noncomputable def t_impl_SteeringOk_10 {R : Type} (X : SD.D d_impl_SteeringOk_10) (K : Ex → AS → Option R) := Pu.impl_SteeringOk_T10 (fun y0 => K (.exit 2) (SD.enc d_impl_SteeringOk_10 ((X.1.1, (X.1.2.1, (X.1.2.2.1, (X.1.2.2.2.1, (y0, ()))))), (), ()))) (fun y0 y1 => K .ret (SD.enc d_impl_SteeringOk_10 ((X.1.1, (y0, (X.1.2.2.1, (X.1.2.2.2.1, (y1, ()))))), (), ()))) X.1.1 X.1.2.1 X.1.2.2.1 X.1.2.2.2.1
noncomputable def l_impl_SteeringOk_10 : LEnt := ⟨d_impl_SteeringOk_10, fun X K => iterL (t_impl_SteeringOk_10 X K) fuel X.1.2.2.2.2.1⟩
noncomputable def L_impl_SteeringOk : Lam := ((Lam.nil).add 4 l_impl_SteeringOk_4).add 10 l_impl_SteeringOk_10
theorem lok_impl_SteeringOk_4 : LOk E g_impl_SteeringOk n_impl_SteeringOk L_impl_SteeringOk (loopBody Tryz.f125 0) :=
  lok l_impl_SteeringOk_4 (by kernel_rfl) fuel fun R X K => (loop_iter (σ := Int) (fun x => SD.enc d_impl_SteeringOk_4 ((X.1.1, (X.1.2.1, (X.1.2.2.1, (X.1.2.2.2.1, (x, ()))))), (X.2.1.1, ()), ())) (t_impl_SteeringOk_4 X K) (fun m x => by kernel_rfl) fuel X.1.2.2.2.2.1).symm
theorem lok_impl_SteeringOk_10 : LOk E g_impl_SteeringOk n_impl_SteeringOk L_impl_SteeringOk (loopBody Tryz.f125 1) :=
  lok l_impl_SteeringOk_10 (by kernel_rfl) fuel fun R X K => (loop_iter (σ := Int) (fun x => SD.enc d_impl_SteeringOk_10 ((X.1.1, (X.1.2.1, (X.1.2.2.1, (X.1.2.2.2.1, (x, ()))))), (), ())) (t_impl_SteeringOk_10 X K) (fun m x => by kernel_rfl) fuel X.1.2.2.2.2.1).symm
theorem ok_impl_SteeringOk : FnOk Tryz.prog 125 e_impl_SteeringOk := FnOk.of (fnOk (Γ := g_impl_SteeringOk) (an := n_impl_SteeringOk) (Λ := L_impl_SteeringOk) ((((base).add ok_impl_RulesOk).add ok_impl_TableOk).add ok_impl_SpreadOk) Tryz.func125 (by kernel_rfl) (hF (by kernel_rfl) (cF lok_impl_SteeringOk_4 (cF lok_impl_SteeringOk_10 nF)))) (fun a => by kernel_rfl)
noncomputable def e_impl_HostOk : GEnt := entOf [.data true THost] [(false, .bool)] fun a => Pu.impl_HostOk a.1
noncomputable def g_impl_HostOk : Gam := (((((((((Gam.nil).add 113 e_impl_between).add 118 e_impl_MemoryOk).add 119 e_impl_MappingsOk).add 120 e_impl_TxOk).add 121 e_impl_FilterOk).add 122 e_impl_RxOk).add 123 e_impl_PoolOk).add 124 e_impl_VectorOk).add 125 e_impl_SteeringOk
def n_impl_HostOk : An := { mask := fun | 5 => [1, 2, 3, 61, 62] | 12 => [1, 2, 3, 103, 104, 105] | _ => [], merge := fun | 2 => some 58 | 7 => some 89 | _ => none }
@[reducible] def d_impl_HostOk_5 : SD := ⟨[B,.ptr 1 0,DB,DI,B,B,B,B,B,B,B,B,B,B,B,B,B,B,B,B,B,B,B,B,B,B,B,B,B,B,B,B,B,B,B,B,B,B,B,B,B,B,B,B,B,B,B,B,B,B,B,B,B,B,B,B,B,B,B,B,B,DI,DI,B,B,B,B,B,B,B,B,B,B,B,B,B,B,B,B,B,B,B,B,B,B,B,B,B,B,B,B,B,B,B,B,B,B,B,B,B,B,B,B,B,B,B,B,B,B,B,B,B,B,B,B,B,B], [Z,some (.pair (.sl .arg .str) (.pair (.sl .arg TMapping) (.pair (.pair (.pair (.int .i64) (.pair (.int .i64) (.pair (.int .i64) (.int .i64)))) (.pair (.pair (.int .i64) (.pair (.int .i64) (.pair (.int .i64) (.sl .arg (.int .i64))))) (.pair (.sl .arg TSent) (.int .i64)))) (.pair (.sl .arg TRxQueue) (.pair (.sl .arg TPool) (.pair (.sl .arg TVector) (.pair (.sl .arg .bool) (.pair (.pair (.int .i64) (.pair .bool (.sl .arg (.int .i64)))) (.pair (.pair (.sl .arg TRule) (.pair (.sl .arg TSlot) (.pair .str (.sl .arg (.int .i64))))) (.pair (.sl .arg TStream) (.pair .bool (.pair (.sl .arg .str) (.pair (.sl .arg (.int .i64)) (.pair (.sl .arg (.int .i64)) (.pair (.int .i64) (.pair (.int .i64) (.pair (.int .i64) (.pair (.int .i64) (.int .i64))))))))))))))))))),Z,Z,Z,Z,Z,Z,Z,Z,Z,Z,Z,Z,Z,Z,Z,Z,Z,Z,Z,Z,Z,Z,Z,Z,Z,Z,Z,Z,Z,Z,Z,Z,Z,Z,Z,Z,Z,Z,Z,Z,Z,Z,Z,Z,Z,Z,Z,Z,Z,Z,Z,Z,Z,Z,Z,Z,Z,Z,Z,Z,Z,Z,Z,Z,Z,Z,Z,Z,Z,Z,Z,Z,Z,Z,Z,Z,Z,Z,Z,Z,Z,Z,Z,Z,Z,Z,Z,Z,Z,Z,Z,Z,Z,Z,Z,Z,Z,Z,Z,Z,Z,Z,Z,Z,Z,Z,Z,Z,Z,Z,Z,Z,Z,Z,Z], none⟩
noncomputable def t_impl_HostOk_5 {R : Type} (X : SD.D d_impl_HostOk_5) (K : Ex → AS → Option R) := Pu.impl_HostOk_T5 (fun y0 => K (.exit 0) (SD.enc d_impl_HostOk_5 ((X.1.1, (X.1.2.1, (X.1.2.2.1, (y0, ())))), (X.2.1.1, ()), ()))) (fun y0 y1 => K .ret (SD.enc d_impl_HostOk_5 ((y0, (X.1.2.1, (X.1.2.2.1, (y1, ())))), (X.2.1.1, ()), ()))) X.1.1 X.1.2.1 X.1.2.2.1 X.2.1.1
noncomputable def l_impl_HostOk_5 : LEnt := ⟨d_impl_HostOk_5, fun X K => iterL (t_impl_HostOk_5 X K) fuel X.1.2.2.2.1⟩
@[reducible] def d_impl_HostOk_12 : SD := ⟨[B,.ptr 1 0,DB,DI,B,B,B,B,B,B,B,B,B,B,B,B,B,B,B,B,B,B,B,B,B,B,B,B,B,B,B,B,B,B,B,B,B,B,B,B,B,B,B,B,B,B,B,B,B,B,B,B,B,B,B,B,B,B,B,B,B,B,B,B,B,B,B,B,B,B,B,B,B,B,B,B,B,B,B,B,B,B,B,B,B,B,B,B,B,B,B,B,B,B,B,B,B,B,B,B,B,B,B,.data false (.sl (.own (some 1265664)) (.int .i64)),DI,DI,B,B,B,B,B,B,B,B,B,B,B], [Z,some (.pair (.sl .arg .str) (.pair (.sl .arg TMapping) (.pair (.pair (.pair (.int .i64) (.pair (.int .i64) (.pair (.int .i64) (.int .i64)))) (.pair (.pair (.int .i64) (.pair (.int .i64) (.pair (.int .i64) (.sl .arg (.int .i64))))) (.pair (.sl .arg TSent) (.int .i64)))) (.pair (.sl .arg TRxQueue) (.pair (.sl .arg TPool) (.pair (.sl .arg TVector) (.pair (.sl .arg .bool) (.pair (.pair (.int .i64) (.pair .bool (.sl .arg (.int .i64)))) (.pair (.pair (.sl .arg TRule) (.pair (.sl .arg TSlot) (.pair .str (.sl .arg (.int .i64))))) (.pair (.sl .arg TStream) (.pair .bool (.pair (.sl .arg .str) (.pair (.sl .arg (.int .i64)) (.pair (.sl .arg (.int .i64)) (.pair (.int .i64) (.pair (.int .i64) (.pair (.int .i64) (.pair (.int .i64) (.int .i64))))))))))))))))))),Z,Z,Z,Z,Z,Z,Z,Z,Z,Z,Z,Z,Z,Z,Z,Z,Z,Z,Z,Z,Z,Z,Z,Z,Z,Z,Z,Z,Z,Z,Z,Z,Z,Z,Z,Z,Z,Z,Z,Z,Z,Z,Z,Z,Z,Z,Z,Z,Z,Z,Z,Z,Z,Z,Z,Z,Z,Z,Z,Z,Z,Z,Z,Z,Z,Z,Z,Z,Z,Z,Z,Z,Z,Z,Z,Z,Z,Z,Z,Z,Z,Z,Z,Z,Z,Z,Z,Z,Z,Z,Z,Z,Z,Z,Z,Z,Z,Z,Z,Z,Z,Z,Z,Z,Z,Z,Z,Z,Z,Z,Z,Z,Z,Z,Z], none⟩
noncomputable def t_impl_HostOk_12 {R : Type} (X : SD.D d_impl_HostOk_12) (K : Ex → AS → Option R) := Pu.impl_HostOk_T12 (fun y0 => K (.exit 2) (SD.enc d_impl_HostOk_12 ((X.1.1, (X.1.2.1, (X.1.2.2.1, (X.1.2.2.2.1, (y0, ()))))), (X.2.1.1, ()), ()))) (fun y0 y1 => K .ret (SD.enc d_impl_HostOk_12 ((y0, (X.1.2.1, (X.1.2.2.1, (X.1.2.2.2.1, (y1, ()))))), (X.2.1.1, ()), ()))) X.1.1 X.1.2.1 X.1.2.2.1 X.1.2.2.2.1 X.2.1.1
noncomputable def l_impl_HostOk_12 : LEnt := ⟨d_impl_HostOk_12, fun X K => iterL (t_impl_HostOk_12 X K) fuel X.1.2.2.2.2.1⟩
noncomputable def L_impl_HostOk : Lam := ((Lam.nil).add 5 l_impl_HostOk_5).add 12 l_impl_HostOk_12
theorem lok_impl_HostOk_5 : LOk E g_impl_HostOk n_impl_HostOk L_impl_HostOk (loopBody Tryz.f61 0) :=
  lok l_impl_HostOk_5 (by kernel_rfl) fuel fun R X K => (loop_iter (σ := Int) (fun x => SD.enc d_impl_HostOk_5 ((X.1.1, (X.1.2.1, (X.1.2.2.1, (x, ())))), (X.2.1.1, ()), ())) (t_impl_HostOk_5 X K) (fun m x => by kernel_rfl) fuel X.1.2.2.2.1).symm
theorem lok_impl_HostOk_12 : LOk E g_impl_HostOk n_impl_HostOk L_impl_HostOk (loopBody Tryz.f61 1) :=
  lok l_impl_HostOk_12 (by kernel_rfl) fuel fun R X K => (loop_iter (σ := Int) (fun x => SD.enc d_impl_HostOk_12 ((X.1.1, (X.1.2.1, (X.1.2.2.1, (X.1.2.2.2.1, (x, ()))))), (X.2.1.1, ()), ())) (t_impl_HostOk_12 X K) (fun m x => by kernel_rfl) fuel X.1.2.2.2.2.1).symm
theorem ok_impl_HostOk : FnOk Tryz.prog 61 e_impl_HostOk := FnOk.of (fnOk (Γ := g_impl_HostOk) (an := n_impl_HostOk) (Λ := L_impl_HostOk) ((((((((((base).add ok_impl_between).add ok_impl_MemoryOk).add ok_impl_MappingsOk).add ok_impl_TxOk).add ok_impl_FilterOk).add ok_impl_RxOk).add ok_impl_PoolOk).add ok_impl_VectorOk).add ok_impl_SteeringOk) Tryz.func61 (by kernel_rfl) (hF (by kernel_rfl) (cF lok_impl_HostOk_5 (cF lok_impl_HostOk_12 nF)))) (fun a => by kernel_rfl)
noncomputable def e_slices_Equal_int : GEnt := entOf [.data false (.sl (.int .i64)), .data false (.sl (.int .i64))] [(false, .bool)] fun a => Pu.slices_Equal_int a.1 a.2.1
noncomputable def g_slices_Equal_int : Gam := Gam.nil
def n_slices_Equal_int : An := { mask := fun | 4 => [0, 1, 4, 12, 13] | _ => [] }
@[reducible] def d_slices_Equal_int_4 : SD := ⟨[.data false (.sl .arg (.int .i64)),.data false (.sl .arg (.int .i64)),B,B,DB,B,B,B,B,B,B,B,DI,DI,B,B,B,B,B,B,B,B,B,B,B,B], [Z,Z,Z,Z,Z,Z,Z,Z,Z,Z,Z,Z,Z,Z,Z,Z,Z,Z,Z,Z,Z,Z,Z,Z,Z,Z], none⟩
noncomputable def t_slices_Equal_int_4 {R : Type} (X : SD.D d_slices_Equal_int_4) (K : Ex → AS → Option R) := Pu.slices_Equal_int_T4 (fun y0 => K (.exit 0) (SD.enc d_slices_Equal_int_4 ((X.1.1, (X.1.2.1, (X.1.2.2.1, (X.1.2.2.2.1, (y0, ()))))), (), ()))) (fun y0 y1 => K .ret (SD.enc d_slices_Equal_int_4 ((X.1.1, (X.1.2.1, (y0, (X.1.2.2.2.1, (y1, ()))))), (), ()))) X.1.1 X.1.2.1 X.1.2.2.1 X.1.2.2.2.1
noncomputable def l_slices_Equal_int_4 : LEnt := ⟨d_slices_Equal_int_4, fun X K => iterL (t_slices_Equal_int_4 X K) fuel X.1.2.2.2.2.1⟩
noncomputable def L_slices_Equal_int : Lam := (Lam.nil).add 4 l_slices_Equal_int_4
theorem lok_slices_Equal_int_4 : LOk E g_slices_Equal_int n_slices_Equal_int L_slices_Equal_int (loopBody Tryz.f126 0) :=
  lok l_slices_Equal_int_4 (by kernel_rfl) fuel fun R X K => (loop_iter (σ := Int) (fun x => SD.enc d_slices_Equal_int_4 ((X.1.1, (X.1.2.1, (X.1.2.2.1, (X.1.2.2.2.1, (x, ()))))), (), ())) (t_slices_Equal_int_4 X K) (fun m x => by kernel_rfl) fuel X.1.2.2.2.2.1).symm
theorem ok_slices_Equal_int : FnOk Tryz.prog 126 e_slices_Equal_int := FnOk.of (fnOk (Γ := g_slices_Equal_int) (an := n_slices_Equal_int) (Λ := L_slices_Equal_int) (base) Tryz.func126 (by kernel_rfl) (hF (by kernel_rfl) (cF lok_slices_Equal_int_4 nF))) (fun a => by kernel_rfl)
noncomputable def e_impl_sameFilter : GEnt := entOf [.data true TFilter, .data true TFilter] [(false, .bool)] fun a => Pu.impl_sameFilter a.1 a.2.1
theorem ok_impl_sameFilter : FnOk Tryz.prog 62 e_impl_sameFilter := FnOk.of (fnOk (an := { merge := fun | 1 => some 4 | _ => none }) (Λ := Lam.nil) ((base).add ok_slices_Equal_int) Tryz.func62 (by kernel_rfl) (hF (by kernel_rfl) nF)) (fun a => by kernel_rfl)
noncomputable def e_impl_BucketOk : GEnt := entOf [.data true TBucket] [(false, .bool)] fun a => Pu.impl_BucketOk a.1
theorem ok_impl_BucketOk : FnOk Tryz.prog 127 e_impl_BucketOk := FnOk.of (fnOk (an := { merge := fun | 1 => some 2 | _ => none }) (Λ := Lam.nil) ((base).add ok_impl_between) Tryz.func127 (by kernel_rfl) (hF (by kernel_rfl) nF)) (fun a => by kernel_rfl)
noncomputable def e_impl_FunctionsOk : GEnt := entOf [.data false (.sl TVirtualFunction), .data false (.sl TPort)] [(false, .bool)] fun a => Pu.impl_FunctionsOk a.1 a.2.1
noncomputable def g_impl_FunctionsOk : Gam := (((Gam.nil).add 113 e_impl_between).add 117 e_impl_PortsOk).add 127 e_impl_BucketOk
def n_impl_FunctionsOk : An := { mask := fun | 4 => [0, 1, 4, 12, 13, 14] | 9 => [0, 1, 4, 6, 12, 13, 14, 52, 53, 54] | _ => [], merge := fun | 6 => some 49 | 11 => some 69 | _ => none }
@[reducible] def d_impl_FunctionsOk_9 : SD := ⟨[.data false (.sl .arg TVirtualFunction),.data false (.sl .arg TPort),B,B,DB,B,.ptr 6 0,B,B,B,B,B,.data false (.sl .arg TVirtualFunction),DI,DI,B,B,B,B,B,B,B,B,B,B,B,B,B,B,B,B,B,B,B,B,B,B,B,B,B,B,B,B,B,B,B,B,B,B,B,B,B,.data false (.sl .arg TVirtualFunction),DI,DI,B,B,B,B,B,B,B,B,B,B,B,B,B,B,B,B,B], [Z,Z,Z,Z,Z,Z,some (.pair (.int .i64) (.pair (.int .i64) (.pair (.pair (.int .i64) (.pair (.int .i64) (.int .i64))) (.pair .bool (.pair (.int .i64) (.int .i64)))))),Z,Z,Z,Z,Z,Z,Z,Z,Z,Z,Z,Z,Z,Z,Z,Z,Z,Z,Z,Z,Z,Z,Z,Z,Z,Z,Z,Z,Z,Z,Z,Z,Z,Z,Z,Z,Z,Z,Z,Z,Z,Z,Z,Z,Z,Z,Z,Z,Z,Z,Z,Z,Z,Z,Z,Z,Z,Z,Z,Z,Z,Z,Z,Z,Z], none⟩
noncomputable def t_impl_FunctionsOk_9 {R : Type} (X : SD.D d_impl_FunctionsOk_9) (K : Ex → AS → Option R) := Pu.impl_FunctionsOk_T9 (fun y0 => K (.exit 2) (SD.enc d_impl_FunctionsOk_9 ((X.1.1, (X.1.2.1, (X.1.2.2.1, (X.1.2.2.2.1, (X.1.2.2.2.2.1, (X.1.2.2.2.2.2.1, (X.1.2.2.2.2.2.2.1, (X.1.2.2.2.2.2.2.2.1, (y0, ()))))))))), (X.2.1.1, ()), ()))) (fun y0 y1 => K .ret (SD.enc d_impl_FunctionsOk_9 ((X.1.1, (X.1.2.1, (y0, (X.1.2.2.2.1, (X.1.2.2.2.2.1, (X.1.2.2.2.2.2.1, (X.1.2.2.2.2.2.2.1, (X.1.2.2.2.2.2.2.2.1, (y1, ()))))))))), (X.2.1.1, ()), ()))) X.1.1 X.1.2.1 X.1.2.2.1 X.1.2.2.2.1 X.1.2.2.2.2.1 X.1.2.2.2.2.2.1 X.1.2.2.2.2.2.2.1 X.1.2.2.2.2.2.2.2.1 X.2.1.1
noncomputable def l_impl_FunctionsOk_9 : LEnt := ⟨d_impl_FunctionsOk_9, fun X K => iterL (t_impl_FunctionsOk_9 X K) fuel X.1.2.2.2.2.2.2.2.2.1⟩
@[reducible] def d_impl_FunctionsOk_4 : SD := ⟨[.data false (.sl .arg TVirtualFunction),.data false (.sl .arg TPort),B,B,DB,B,B,B,B,B,B,B,.data false (.sl .arg TVirtualFunction),DI,DI,B,B,B,B,B,B,B,B,B,B,B,B,B,B,B,B,B,B,B,B,B,B,B,B,B,B,B,B,B,B,B,B,B,B,B,B,B,B,B,B,B,B,B,B,B,B,B,B,B,B,B,B,B,B,B,B,B], [Z,Z,Z,Z,Z,Z,Z,Z,Z,Z,Z,Z,Z,Z,Z,Z,Z,Z,Z,Z,Z,Z,Z,Z,Z,Z,Z,Z,Z,Z,Z,Z,Z,Z,Z,Z,Z,Z,Z,Z,Z,Z,Z,Z,Z,Z,Z,Z,Z,Z,Z,Z,Z,Z,Z,Z,Z,Z,Z,Z,Z,Z,Z,Z,Z,Z,Z,Z,Z,Z,Z,Z], none⟩
noncomputable def t_impl_FunctionsOk_4 {R : Type} (X : SD.D d_impl_FunctionsOk_4) (K : Ex → AS → Option R) := Pu.impl_FunctionsOk_T4 (fun y0 => K (.exit 0) (SD.enc d_impl_FunctionsOk_4 ((X.1.1, (X.1.2.1, (X.1.2.2.1, (X.1.2.2.2.1, (X.1.2.2.2.2.1, (y0, ())))))), (), ()))) (fun y0 y1 => K .ret (SD.enc d_impl_FunctionsOk_4 ((X.1.1, (X.1.2.1, (y0, (X.1.2.2.2.1, (X.1.2.2.2.2.1, (y1, ())))))), (), ()))) X.1.1 X.1.2.1 X.1.2.2.1 X.1.2.2.2.1 X.1.2.2.2.2.1
noncomputable def l_impl_FunctionsOk_4 : LEnt := ⟨d_impl_FunctionsOk_4, fun X K => iterL (t_impl_FunctionsOk_4 X K) fuel X.1.2.2.2.2.2.1⟩
noncomputable def L_impl_FunctionsOk : Lam := ((Lam.nil).add 9 l_impl_FunctionsOk_9).add 4 l_impl_FunctionsOk_4
theorem lok_impl_FunctionsOk_9 : LOk E g_impl_FunctionsOk n_impl_FunctionsOk L_impl_FunctionsOk (loopBody Tryz.f63 1) :=
  lok l_impl_FunctionsOk_9 (by kernel_rfl) fuel fun R X K => (loop_iter (σ := Int) (fun x => SD.enc d_impl_FunctionsOk_9 ((X.1.1, (X.1.2.1, (X.1.2.2.1, (X.1.2.2.2.1, (X.1.2.2.2.2.1, (X.1.2.2.2.2.2.1, (X.1.2.2.2.2.2.2.1, (X.1.2.2.2.2.2.2.2.1, (x, ()))))))))), (X.2.1.1, ()), ())) (t_impl_FunctionsOk_9 X K) (fun m x => by kernel_rfl) fuel X.1.2.2.2.2.2.2.2.2.1).symm
theorem lok_impl_FunctionsOk_4 : LOk E g_impl_FunctionsOk n_impl_FunctionsOk L_impl_FunctionsOk (loopBody Tryz.f63 0) :=
  lok l_impl_FunctionsOk_4 (by kernel_rfl) fuel fun R X K => (loop_iter (σ := Int) (fun x => SD.enc d_impl_FunctionsOk_4 ((X.1.1, (X.1.2.1, (X.1.2.2.1, (X.1.2.2.2.1, (X.1.2.2.2.2.1, (x, ())))))), (), ())) (t_impl_FunctionsOk_4 X K) (fun m x => by kernel_rfl) fuel X.1.2.2.2.2.2.1).symm
theorem ok_impl_FunctionsOk : FnOk Tryz.prog 63 e_impl_FunctionsOk := FnOk.of (fnOk (Γ := g_impl_FunctionsOk) (an := n_impl_FunctionsOk) (Λ := L_impl_FunctionsOk) ((((base).add ok_impl_between).add ok_impl_PortsOk).add ok_impl_BucketOk) Tryz.func63 (by kernel_rfl) (hF (by kernel_rfl) (cF lok_impl_FunctionsOk_4 (cF lok_impl_FunctionsOk_9 nF)))) (fun a => by kernel_rfl)
noncomputable def e_impl_ownPlaces : GEnt := entOf [.data false (.sl TVirtualFunction)] [(false, .bool)] fun a => Pu.impl_ownPlaces a.1
noncomputable def g_impl_ownPlaces : Gam := Gam.nil
def n_impl_ownPlaces : An := { mask := fun | 2 => [2, 5, 6, 7] | _ => [], merge := fun | 4 => some 22 | _ => none }
@[reducible] def d_impl_ownPlaces_2 : SD := ⟨[B,B,DB,B,B,.data false (.sl .arg TVirtualFunction),DI,DI,B,B,B,B,B,B,B,B,B,B,B,B,B,B,B,B], [Z,Z,Z,Z,Z,Z,Z,Z,Z,Z,Z,Z,Z,Z,Z,Z,Z,Z,Z,Z,Z,Z,Z,Z], none⟩
noncomputable def t_impl_ownPlaces_2 {R : Type} (X : SD.D d_impl_ownPlaces_2) (K : Ex → AS → Option R) := Pu.impl_ownPlaces_T2 (fun y0 => K (.exit 0) (SD.enc d_impl_ownPlaces_2 ((X.1.1, (X.1.2.1, (X.1.2.2.1, (y0, ())))), (), ()))) (fun y0 y1 => K .ret (SD.enc d_impl_ownPlaces_2 ((y0, (X.1.2.1, (X.1.2.2.1, (y1, ())))), (), ()))) X.1.1 X.1.2.1 X.1.2.2.1
noncomputable def l_impl_ownPlaces_2 : LEnt := ⟨d_impl_ownPlaces_2, fun X K => iterL (t_impl_ownPlaces_2 X K) fuel X.1.2.2.2.1⟩
noncomputable def L_impl_ownPlaces : Lam := (Lam.nil).add 2 l_impl_ownPlaces_2
theorem lok_impl_ownPlaces_2 : LOk E g_impl_ownPlaces n_impl_ownPlaces L_impl_ownPlaces (loopBody Tryz.f64 0) :=
  lok l_impl_ownPlaces_2 (by kernel_rfl) fuel fun R X K => (loop_iter (σ := Int) (fun x => SD.enc d_impl_ownPlaces_2 ((X.1.1, (X.1.2.1, (X.1.2.2.1, (x, ())))), (), ())) (t_impl_ownPlaces_2 X K) (fun m x => by kernel_rfl) fuel X.1.2.2.2.1).symm
theorem ok_impl_ownPlaces : FnOk Tryz.prog 64 e_impl_ownPlaces := FnOk.of (fnOk (Γ := g_impl_ownPlaces) (an := n_impl_ownPlaces) (Λ := L_impl_ownPlaces) (base) Tryz.func64 (by kernel_rfl) (hF (by kernel_rfl) (cF lok_impl_ownPlaces_2 nF))) (fun a => by kernel_rfl)
noncomputable def e_impl_FlashOk : GEnt := entOf [.data true (.sl .str)] [(false, .bool)] fun a => Pu.impl_FlashOk a.1
theorem ok_impl_FlashOk : FnOk Tryz.prog 128 e_impl_FlashOk := FnOk.of (fnOk (an := { merge := fun | 1 => some 2 | _ => none }) (Λ := Lam.nil) (base) Tryz.func128 (by kernel_rfl) (hF (by kernel_rfl) nF)) (fun a => by kernel_rfl)
noncomputable def e_impl_Get32 : GEnt := entOf [.data false .str, .data false (.int .i64)] [(false, (.int .i64))] fun a => Pu.impl_Get32 a.1 a.2.1
theorem ok_impl_Get32 : FnOk Tryz.prog 182 e_impl_Get32 := FnOk.of (fnOk (an := { merge := fun | 1 => some 13 | _ => none }) (Λ := Lam.nil) (base) Tryz.func182 (by kernel_rfl) (hF (by kernel_rfl) nF)) (fun a => by kernel_rfl)
noncomputable def e_impl_Word32 : GEnt := entOf [.data false (.int .i64)] [(false, .str)] fun a => Pu.impl_Word32 a.1
theorem ok_impl_Word32 : FnOk Tryz.prog 223 e_impl_Word32 := FnOk.of (fnOk (an := {}) (Λ := Lam.nil) ((base).add ok_impl_between) Tryz.func223 (by kernel_rfl) (hF (by kernel_rfl) nF)) (fun a => by kernel_rfl)
noncomputable def e_impl_Crc32 : GEnt := entOf [.data false .str] [(false, (.int .i64))] fun a => Pu.impl_Crc32 a.1
noncomputable def g_impl_Crc32 : Gam := Gam.nil
def n_impl_Crc32 : An := { mask := fun | 3 => [0, 3, 4] | 7 => [0, 3, 4, 5] | _ => [] }
@[reducible] def d_impl_Crc32_7 : SD := ⟨[.data false .str,B,B,.data false (.int .u32),DI,DI,B,B,B,B,B,B,B,B,B,B,B,B,B,B,B,B,B,B,B,B,B,B,B,B,B,B,B,B], [Z,Z,Z,Z,Z,Z,Z,Z,Z,Z,Z,Z,Z,Z,Z,Z,Z,Z,Z,Z,Z,Z,Z,Z,Z,Z,Z,Z,Z,Z,Z,Z,Z,Z], none⟩
noncomputable def t_impl_Crc32_7 {R : Type} (X : SD.D d_impl_Crc32_7) (K : Ex → AS → Option R) := Pu.impl_Crc32_T7 (fun y0 y1 => K (.exit 2) (SD.enc d_impl_Crc32_7 ((X.1.1, (y0, (X.1.2.2.1, (y1, ())))), (), ()))) X.1.1 X.1.2.2.1
noncomputable def l_impl_Crc32_7 : LEnt := ⟨d_impl_Crc32_7, fun X K => iterL (t_impl_Crc32_7 X K) fuel (X.1.2.1, X.1.2.2.2.1)⟩
@[reducible] def d_impl_Crc32_3 : SD := ⟨[.data false .str,B,B,.data false (.int .u32),DI,B,B,B,B,B,B,B,B,B,B,B,B,B,B,B,B,B,B,B,B,B,B,B,B,B,B,B,B,B], [Z,Z,Z,Z,Z,Z,Z,Z,Z,Z,Z,Z,Z,Z,Z,Z,Z,Z,Z,Z,Z,Z,Z,Z,Z,Z,Z,Z,Z,Z,Z,Z,Z,Z], none⟩
noncomputable def t_impl_Crc32_3 {R : Type} (X : SD.D d_impl_Crc32_3) (K : Ex → AS → Option R) := Pu.impl_Crc32_T3 (fun y0 y1 => K (.exit 0) (SD.enc d_impl_Crc32_3 ((X.1.1, (y0, (y1, ()))), (), ()))) X.1.1
noncomputable def l_impl_Crc32_3 : LEnt := ⟨d_impl_Crc32_3, fun X K => iterL (t_impl_Crc32_3 X K) fuel (X.1.2.1, X.1.2.2.1)⟩
noncomputable def L_impl_Crc32 : Lam := ((Lam.nil).add 7 l_impl_Crc32_7).add 3 l_impl_Crc32_3
theorem lok_impl_Crc32_7 : LOk E g_impl_Crc32 n_impl_Crc32 L_impl_Crc32 (loopBody Tryz.f224 1) :=
  lok l_impl_Crc32_7 (by kernel_rfl) fuel fun R X K => (loop_iter (σ := Int × Int) (fun x => SD.enc d_impl_Crc32_7 ((X.1.1, (x.1, (X.1.2.2.1, (x.2, ())))), (), ())) (t_impl_Crc32_7 X K) (fun m x => by kernel_rfl) fuel (X.1.2.1, X.1.2.2.2.1)).symm
theorem lok_impl_Crc32_3 : LOk E g_impl_Crc32 n_impl_Crc32 L_impl_Crc32 (loopBody Tryz.f224 0) :=
  lok l_impl_Crc32_3 (by kernel_rfl) fuel fun R X K => (loop_iter (σ := Int × Int) (fun x => SD.enc d_impl_Crc32_3 ((X.1.1, (x.1, (x.2, ()))), (), ())) (t_impl_Crc32_3 X K) (fun m x => by kernel_rfl) fuel (X.1.2.1, X.1.2.2.1)).symm
theorem ok_impl_Crc32 : FnOk Tryz.prog 224 e_impl_Crc32 := FnOk.of (fnOk (Γ := g_impl_Crc32) (an := n_impl_Crc32) (Λ := L_impl_Crc32) (base) Tryz.func224 (by kernel_rfl) (hF (by kernel_rfl) (cF lok_impl_Crc32_3 (cF lok_impl_Crc32_7 nF)))) (fun a => by kernel_rfl)
noncomputable def e_impl_MakeImage : GEnt := entOf [.data false (.int .i64), .data false .str] [(false, .str), (false, .bool)] fun a => Pu.impl_MakeImage a.1 a.2.1
theorem ok_impl_MakeImage : FnOk Tryz.prog 183 e_impl_MakeImage := FnOk.of (fnOk (an := { merge := fun | 1 => some 15 | _ => none }) (Λ := Lam.nil) ((((base).add ok_impl_between).add ok_impl_Word32).add ok_impl_Crc32) Tryz.func183 (by kernel_rfl) (hF (by kernel_rfl) nF)) (fun a => by kernel_rfl)
noncomputable def e_impl_ImageVersion : GEnt := entOf [.data false .str] [(false, (.int .i64))] fun a => Pu.impl_ImageVersion a.1
theorem ok_impl_ImageVersion : FnOk Tryz.prog 129 e_impl_ImageVersion := FnOk.of (fnOk (an := { merge := fun | 2 => some 19 | 5 => some 38 | _ => none }) (Λ := Lam.nil) (((base).add ok_impl_Get32).add ok_impl_MakeImage) Tryz.func129 (by kernel_rfl) (hF (by kernel_rfl) nF)) (fun a => by kernel_rfl)
noncomputable def e_impl_BootBank : GEnt := entOf [.data true (.sl .str)] [(false, (.int .i64))] fun a => Pu.impl_BootBank a.1
theorem ok_impl_BootBank : FnOk Tryz.prog 65 e_impl_BootBank := FnOk.of (fnOk (an := { merge := fun | 4 => some 18 | _ => none }) (Λ := Lam.nil) (((base).add ok_impl_FlashOk).add ok_impl_ImageVersion) Tryz.func65 (by kernel_rfl) (hF (by kernel_rfl) nF)) (fun a => by kernel_rfl)
noncomputable def e_impl_ClockOk : GEnt := entOf [.data true TClock] [(false, .bool)] fun a => Pu.impl_ClockOk a.1
theorem ok_impl_ClockOk : FnOk Tryz.prog 66 e_impl_ClockOk := FnOk.of (fnOk (an := { merge := fun | 1 => some 2 | _ => none }) (Λ := Lam.nil) ((base).add ok_impl_between) Tryz.func66 (by kernel_rfl) (hF (by kernel_rfl) nF)) (fun a => by kernel_rfl)
noncomputable def e_impl_CardOk : GEnt := entOf [.data true TCard] [(false, .bool)] fun a => Pu.impl_CardOk a.1
noncomputable def g_impl_CardOk : Gam := (((((((Gam.nil).add 60 e_impl_PortsOf).add 61 e_impl_HostOk).add 62 e_impl_sameFilter).add 63 e_impl_FunctionsOk).add 64 e_impl_ownPlaces).add 65 e_impl_BootBank).add 66 e_impl_ClockOk
def n_impl_CardOk : An := { mask := fun | 5 => [1, 2, 3, 34, 35, 36] | _ => [], merge := fun | 2 => some 32 | 7 => some 55 | 10 => some 2 | _ => none }
@[reducible] def d_impl_CardOk_5 : SD := ⟨[B,.ptr 1 0,DB,.data false (.sl .loc TPort),B,B,B,B,B,B,B,B,B,B,B,B,B,B,B,B,B,B,B,B,B,B,B,B,B,B,B,B,B,B,.data false (.sl .arg THost),DI,DI,B,B,B,B,B,B,B,B,B,B,B,B,B,B,B,B,B,B,B,B,B,B,B,B,B,B,B,B,B,B,B,B,B,B,B,B,B,B,B,B], [Z,some (.pair (.sl .arg THost) (.pair (.sl .arg TVirtualFunction) (.pair (.sl .arg TMailbox) (.pair (.sl .arg .str) (.pair (.pair (.int .i64) (.pair (.int .i64) (.pair (.int .i64) (.int .i64)))) (.pair (.sl .arg (.int .i64)) (.sl .arg .str))))))),Z,Z,Z,Z,Z,Z,Z,Z,Z,Z,Z,Z,Z,Z,Z,Z,Z,Z,Z,Z,Z,Z,Z,Z,Z,Z,Z,Z,Z,Z,Z,Z,Z,Z,Z,Z,Z,Z,Z,Z,Z,Z,Z,Z,Z,Z,Z,Z,Z,Z,Z,Z,Z,Z,Z,Z,Z,Z,Z,Z,Z,Z,Z,Z,Z,Z,Z,Z,Z,Z,Z,Z,Z,Z,Z], none⟩
noncomputable def t_impl_CardOk_5 {R : Type} (X : SD.D d_impl_CardOk_5) (K : Ex → AS → Option R) := Pu.impl_CardOk_T5 (fun y0 => K (.exit 0) (SD.enc d_impl_CardOk_5 ((X.1.1, (X.1.2.1, (X.1.2.2.1, (X.1.2.2.2.1, (y0, ()))))), (X.2.1.1, ()), ()))) (fun y0 y1 => K .ret (SD.enc d_impl_CardOk_5 ((y0, (X.1.2.1, (X.1.2.2.1, (X.1.2.2.2.1, (y1, ()))))), (X.2.1.1, ()), ()))) X.1.1 X.1.2.1 X.1.2.2.1 X.1.2.2.2.1 X.2.1.1
noncomputable def l_impl_CardOk_5 : LEnt := ⟨d_impl_CardOk_5, fun X K => iterL (t_impl_CardOk_5 X K) fuel X.1.2.2.2.2.1⟩
noncomputable def L_impl_CardOk : Lam := (Lam.nil).add 5 l_impl_CardOk_5
theorem lok_impl_CardOk_5 : LOk E g_impl_CardOk n_impl_CardOk L_impl_CardOk (loopBody Tryz.f32 0) :=
  lok l_impl_CardOk_5 (by kernel_rfl) fuel fun R X K => (loop_iter (σ := Int) (fun x => SD.enc d_impl_CardOk_5 ((X.1.1, (X.1.2.1, (X.1.2.2.1, (X.1.2.2.2.1, (x, ()))))), (X.2.1.1, ()), ())) (t_impl_CardOk_5 X K) (fun m x => by kernel_rfl) fuel X.1.2.2.2.2.1).symm
theorem ok_impl_CardOk : FnOk Tryz.prog 32 e_impl_CardOk := FnOk.of (fnOk (Γ := g_impl_CardOk) (an := n_impl_CardOk) (Λ := L_impl_CardOk) ((((((((base).add ok_impl_PortsOf).add ok_impl_HostOk).add ok_impl_sameFilter).add ok_impl_FunctionsOk).add ok_impl_ownPlaces).add ok_impl_BootBank).add ok_impl_ClockOk) Tryz.func32 (by kernel_rfl) (hF (by kernel_rfl) (cF lok_impl_CardOk_5 nF))) (fun a => by kernel_rfl)
noncomputable def e_impl_SoftOk : GEnt := entOf [.data true TSoft] [(false, .bool)] fun a => Pu.impl_SoftOk a.1
theorem ok_impl_SoftOk : FnOk Tryz.prog 67 e_impl_SoftOk := FnOk.of (fnOk (an := { merge := fun | 1 => some 2 | _ => none }) (Λ := Lam.nil) (((base).add ok_impl_FilterOk).add ok_impl_SteeringOk) Tryz.func67 (by kernel_rfl) (hF (by kernel_rfl) nF)) (fun a => by kernel_rfl)
noncomputable def e_impl_IdealOk : GEnt := entOf [.data true TIdeal] [(false, .bool)] fun a => Pu.impl_IdealOk a.1
noncomputable def g_impl_IdealOk : Gam := (((((Gam.nil).add 60 e_impl_PortsOf).add 62 e_impl_sameFilter).add 63 e_impl_FunctionsOk).add 64 e_impl_ownPlaces).add 67 e_impl_SoftOk
def n_impl_IdealOk : An := { mask := fun | 6 => [1, 2, 3, 41, 42, 43] | _ => [], merge := fun | 3 => some 39 | 8 => some 62 | 11 => some 2 | _ => none }
@[reducible] def d_impl_IdealOk_6 : SD := ⟨[B,.ptr 1 0,DB,.data false (.sl .loc TPort),B,B,B,B,B,B,B,B,B,B,B,B,B,B,B,B,B,B,B,B,B,B,B,B,B,B,B,B,B,B,B,B,B,B,B,B,B,.data false (.sl .arg TSoft),DI,DI,B,B,B,B,B,B,B,B,B,B,B,B,B,B,B,B,B,B,B,B,B,B,B,B,B,B,B,B,B], [Z,some (.pair (.sl .arg TSoft) (.pair (.sl .arg (.sl .str)) (.pair (.sl .arg TVirtualFunction) (.pair (.sl .arg TMailbox) (.sl .arg .str))))),Z,Z,Z,Z,Z,Z,Z,Z,Z,Z,Z,Z,Z,Z,Z,Z,Z,Z,Z,Z,Z,Z,Z,Z,Z,Z,Z,Z,Z,Z,Z,Z,Z,Z,Z,Z,Z,Z,Z,Z,Z,Z,Z,Z,Z,Z,Z,Z,Z,Z,Z,Z,Z,Z,Z,Z,Z,Z,Z,Z,Z,Z,Z,Z,Z,Z,Z,Z,Z,Z,Z], none⟩
noncomputable def t_impl_IdealOk_6 {R : Type} (X : SD.D d_impl_IdealOk_6) (K : Ex → AS → Option R) := Pu.impl_IdealOk_T6 (fun y0 => K (.exit 0) (SD.enc d_impl_IdealOk_6 ((X.1.1, (X.1.2.1, (X.1.2.2.1, (X.1.2.2.2.1, (y0, ()))))), (X.2.1.1, ()), ()))) (fun y0 y1 => K .ret (SD.enc d_impl_IdealOk_6 ((y0, (X.1.2.1, (X.1.2.2.1, (X.1.2.2.2.1, (y1, ()))))), (X.2.1.1, ()), ()))) X.1.1 X.1.2.1 X.1.2.2.1 X.1.2.2.2.1 X.2.1.1
noncomputable def l_impl_IdealOk_6 : LEnt := ⟨d_impl_IdealOk_6, fun X K => iterL (t_impl_IdealOk_6 X K) fuel X.1.2.2.2.2.1⟩
noncomputable def L_impl_IdealOk : Lam := (Lam.nil).add 6 l_impl_IdealOk_6
theorem lok_impl_IdealOk_6 : LOk E g_impl_IdealOk n_impl_IdealOk L_impl_IdealOk (loopBody Tryz.f33 0) :=
  lok l_impl_IdealOk_6 (by kernel_rfl) fuel fun R X K => (loop_iter (σ := Int) (fun x => SD.enc d_impl_IdealOk_6 ((X.1.1, (X.1.2.1, (X.1.2.2.1, (X.1.2.2.2.1, (x, ()))))), (X.2.1.1, ()), ())) (t_impl_IdealOk_6 X K) (fun m x => by kernel_rfl) fuel X.1.2.2.2.2.1).symm
theorem ok_impl_IdealOk : FnOk Tryz.prog 33 e_impl_IdealOk := FnOk.of (fnOk (Γ := g_impl_IdealOk) (an := n_impl_IdealOk) (Λ := L_impl_IdealOk) ((((((base).add ok_impl_PortsOf).add ok_impl_sameFilter).add ok_impl_FunctionsOk).add ok_impl_ownPlaces).add ok_impl_SoftOk) Tryz.func33 (by kernel_rfl) (hF (by kernel_rfl) (cF lok_impl_IdealOk_6 nF))) (fun a => by kernel_rfl)
noncomputable def e_slices_Equal_VirtualFunction : GEnt := entOf [.data false (.sl TVirtualFunction), .data false (.sl TVirtualFunction)] [(false, .bool)] fun a => Pu.slices_Equal_VirtualFunction a.1 a.2.1
noncomputable def g_slices_Equal_VirtualFunction : Gam := Gam.nil
def n_slices_Equal_VirtualFunction : An := { mask := fun | 4 => [0, 1, 4, 12, 13] | _ => [] }
@[reducible] def d_slices_Equal_VirtualFunction_4 : SD := ⟨[.data false (.sl .arg TVirtualFunction),.data false (.sl .arg TVirtualFunction),B,B,DB,B,B,B,B,B,B,B,DI,DI,B,B,B,B,B,B,B,B,B,B,B,B], [Z,Z,Z,Z,Z,Z,Z,Z,Z,Z,Z,Z,Z,Z,Z,Z,Z,Z,Z,Z,Z,Z,Z,Z,Z,Z], none⟩
noncomputable def t_slices_Equal_VirtualFunction_4 {R : Type} (X : SD.D d_slices_Equal_VirtualFunction_4) (K : Ex → AS → Option R) := Pu.slices_Equal_VirtualFunction_T4 (fun y0 => K (.exit 0) (SD.enc d_slices_Equal_VirtualFunction_4 ((X.1.1, (X.1.2.1, (X.1.2.2.1, (X.1.2.2.2.1, (y0, ()))))), (), ()))) (fun y0 y1 => K .ret (SD.enc d_slices_Equal_VirtualFunction_4 ((X.1.1, (X.1.2.1, (y0, (X.1.2.2.2.1, (y1, ()))))), (), ()))) X.1.1 X.1.2.1 X.1.2.2.1 X.1.2.2.2.1
noncomputable def l_slices_Equal_VirtualFunction_4 : LEnt := ⟨d_slices_Equal_VirtualFunction_4, fun X K => iterL (t_slices_Equal_VirtualFunction_4 X K) fuel X.1.2.2.2.2.1⟩
noncomputable def L_slices_Equal_VirtualFunction : Lam := (Lam.nil).add 4 l_slices_Equal_VirtualFunction_4
theorem lok_slices_Equal_VirtualFunction_4 : LOk E g_slices_Equal_VirtualFunction n_slices_Equal_VirtualFunction L_slices_Equal_VirtualFunction (loopBody Tryz.f68 0) :=
  lok l_slices_Equal_VirtualFunction_4 (by kernel_rfl) fuel fun R X K => (loop_iter (σ := Int) (fun x => SD.enc d_slices_Equal_VirtualFunction_4 ((X.1.1, (X.1.2.1, (X.1.2.2.1, (X.1.2.2.2.1, (x, ()))))), (), ())) (t_slices_Equal_VirtualFunction_4 X K) (fun m x => by kernel_rfl) fuel X.1.2.2.2.2.1).symm
theorem ok_slices_Equal_VirtualFunction : FnOk Tryz.prog 68 e_slices_Equal_VirtualFunction := FnOk.of (fnOk (Γ := g_slices_Equal_VirtualFunction) (an := n_slices_Equal_VirtualFunction) (Λ := L_slices_Equal_VirtualFunction) (base) Tryz.func68 (by kernel_rfl) (hF (by kernel_rfl) (cF lok_slices_Equal_VirtualFunction_4 nF))) (fun a => by kernel_rfl)
noncomputable def e_impl_sameFunctions : GEnt := entOf [.data false (.sl TVirtualFunction), .data false (.sl TVirtualFunction)] [(false, .bool)] fun a => Pu.impl_sameFunctions a.1 a.2.1
theorem ok_impl_sameFunctions : FnOk Tryz.prog 34 e_impl_sameFunctions := FnOk.of (fnOk (an := {}) (Λ := Lam.nil) ((base).add ok_slices_Equal_VirtualFunction) Tryz.func34 (by kernel_rfl) (hF (by kernel_rfl) nF)) (fun a => by kernel_rfl)
noncomputable def e_impl_StreamIndex : GEnt := entOf [.data false (.sl TStream), .data true TFlow] [(false, (.int .i64))] fun a => Pu.impl_StreamIndex a.1 a.2.1
noncomputable def g_impl_StreamIndex : Gam := Gam.nil
def n_impl_StreamIndex : An := { mask := fun | 2 => [3, 4, 7, 8, 9] | _ => [] }
@[reducible] def d_impl_StreamIndex_2 : SD := ⟨[B,B,B,.ptr 3 0,DI,B,B,.data false (.sl .arg TStream),DI,DI,B,B,B,B,B,B,B,B,B,B], [Z,Z,Z,some (.pair (.int .i64) (.pair (.int .i64) (.pair (.int .i64) (.pair (.int .i64) (.int .i64))))),Z,Z,Z,Z,Z,Z,Z,Z,Z,Z,Z,Z,Z,Z,Z,Z], none⟩
noncomputable def t_impl_StreamIndex_2 {R : Type} (X : SD.D d_impl_StreamIndex_2) (K : Ex → AS → Option R) := Pu.impl_StreamIndex_T2 (fun y0 => K (.exit 0) (SD.enc d_impl_StreamIndex_2 ((X.1.1, (X.1.2.1, (X.1.2.2.1, (y0, ())))), (X.2.1.1, ()), ()))) (fun y0 y1 => K .ret (SD.enc d_impl_StreamIndex_2 ((y0, (X.1.2.1, (X.1.2.2.1, (y1, ())))), (X.2.1.1, ()), ()))) X.1.1 X.1.2.1 X.1.2.2.1 X.2.1.1
noncomputable def l_impl_StreamIndex_2 : LEnt := ⟨d_impl_StreamIndex_2, fun X K => iterL (t_impl_StreamIndex_2 X K) fuel X.1.2.2.2.1⟩
noncomputable def L_impl_StreamIndex : Lam := (Lam.nil).add 2 l_impl_StreamIndex_2
theorem lok_impl_StreamIndex_2 : LOk E g_impl_StreamIndex n_impl_StreamIndex L_impl_StreamIndex (loopBody Tryz.f130 0) :=
  lok l_impl_StreamIndex_2 (by kernel_rfl) fuel fun R X K => (loop_iter (σ := Int) (fun x => SD.enc d_impl_StreamIndex_2 ((X.1.1, (X.1.2.1, (X.1.2.2.1, (x, ())))), (X.2.1.1, ()), ())) (t_impl_StreamIndex_2 X K) (fun m x => by kernel_rfl) fuel X.1.2.2.2.1).symm
theorem ok_impl_StreamIndex : FnOk Tryz.prog 130 e_impl_StreamIndex := FnOk.of (fnOk (Γ := g_impl_StreamIndex) (an := n_impl_StreamIndex) (Λ := L_impl_StreamIndex) (base) Tryz.func130 (by kernel_rfl) (hF (by kernel_rfl) (cF lok_impl_StreamIndex_2 nF))) (fun a => by kernel_rfl)
noncomputable def e_impl_sameFirst : GEnt := entOf [.data false (.sl TStream), .data false (.sl TStream), .data true TFlow] [(false, .bool)] fun a => Pu.impl_sameFirst a.1 a.2.1 a.2.2.1
theorem ok_impl_sameFirst : FnOk Tryz.prog 69 e_impl_sameFirst := FnOk.of (fnOk (an := { merge := fun | 2 => some 6 | _ => none }) (Λ := Lam.nil) ((base).add ok_impl_StreamIndex) Tryz.func69 (by kernel_rfl) (hF (by kernel_rfl) nF)) (fun a => by kernel_rfl)
noncomputable def e_impl_SameData : GEnt := entOf [.data false (.sl TStream), .data false (.sl TStream)] [(false, .bool)] fun a => Pu.impl_SameData a.1 a.2.1
noncomputable def g_impl_SameData : Gam := (Gam.nil).add 69 e_impl_sameFirst
def n_impl_SameData : An := { mask := fun | 2 => [0, 1, 4, 9, 10, 11] | 8 => [0, 1, 4, 22, 23, 24] | _ => [] }
@[reducible] def d_impl_SameData_2 : SD := ⟨[.data false (.sl .arg TStream),.data false (.sl .arg TStream),B,B,DB,B,B,B,B,.data false (.sl .arg TStream),DI,DI,B,B,B,B,B,B,B,B,B,B,B,B,B,B,B,B,B,B,B,B,B,B,B], [Z,Z,Z,Z,Z,Z,Z,Z,Z,Z,Z,Z,Z,Z,Z,Z,Z,Z,Z,Z,Z,Z,Z,Z,Z,Z,Z,Z,Z,Z,Z,Z,Z,Z,Z], none⟩
noncomputable def t_impl_SameData_2 {R : Type} (X : SD.D d_impl_SameData_2) (K : Ex → AS → Option R) := Pu.impl_SameData_T2 (fun y0 => K (.exit 0) (SD.enc d_impl_SameData_2 ((X.1.1, (X.1.2.1, (X.1.2.2.1, (X.1.2.2.2.1, (X.1.2.2.2.2.1, (y0, ())))))), (), ()))) (fun y0 y1 => K .ret (SD.enc d_impl_SameData_2 ((X.1.1, (X.1.2.1, (y0, (X.1.2.2.2.1, (X.1.2.2.2.2.1, (y1, ())))))), (), ()))) X.1.1 X.1.2.1 X.1.2.2.1 X.1.2.2.2.1 X.1.2.2.2.2.1
noncomputable def l_impl_SameData_2 : LEnt := ⟨d_impl_SameData_2, fun X K => iterL (t_impl_SameData_2 X K) fuel X.1.2.2.2.2.2.1⟩
@[reducible] def d_impl_SameData_8 : SD := ⟨[.data false (.sl .arg TStream),.data false (.sl .arg TStream),B,B,DB,B,B,B,B,B,B,B,B,B,B,B,B,B,B,B,B,B,.data false (.sl .arg TStream),DI,DI,B,B,B,B,B,B,B,B,B,B], [Z,Z,Z,Z,Z,Z,Z,Z,Z,Z,Z,Z,Z,Z,Z,Z,Z,Z,Z,Z,Z,Z,Z,Z,Z,Z,Z,Z,Z,Z,Z,Z,Z,Z,Z], none⟩
noncomputable def t_impl_SameData_8 {R : Type} (X : SD.D d_impl_SameData_8) (K : Ex → AS → Option R) := Pu.impl_SameData_T8 (fun y0 => K (.exit 2) (SD.enc d_impl_SameData_8 ((X.1.1, (X.1.2.1, (X.1.2.2.1, (X.1.2.2.2.1, (X.1.2.2.2.2.1, (y0, ())))))), (), ()))) (fun y0 y1 => K .ret (SD.enc d_impl_SameData_8 ((X.1.1, (X.1.2.1, (y0, (X.1.2.2.2.1, (X.1.2.2.2.2.1, (y1, ())))))), (), ()))) X.1.1 X.1.2.1 X.1.2.2.1 X.1.2.2.2.1 X.1.2.2.2.2.1
noncomputable def l_impl_SameData_8 : LEnt := ⟨d_impl_SameData_8, fun X K => iterL (t_impl_SameData_8 X K) fuel X.1.2.2.2.2.2.1⟩
noncomputable def L_impl_SameData : Lam := ((Lam.nil).add 2 l_impl_SameData_2).add 8 l_impl_SameData_8
theorem lok_impl_SameData_2 : LOk E g_impl_SameData n_impl_SameData L_impl_SameData (loopBody Tryz.f35 0) :=
  lok l_impl_SameData_2 (by kernel_rfl) fuel fun R X K => (loop_iter (σ := Int) (fun x => SD.enc d_impl_SameData_2 ((X.1.1, (X.1.2.1, (X.1.2.2.1, (X.1.2.2.2.1, (X.1.2.2.2.2.1, (x, ())))))), (), ())) (t_impl_SameData_2 X K) (fun m x => by kernel_rfl) fuel X.1.2.2.2.2.2.1).symm
theorem lok_impl_SameData_8 : LOk E g_impl_SameData n_impl_SameData L_impl_SameData (loopBody Tryz.f35 1) :=
  lok l_impl_SameData_8 (by kernel_rfl) fuel fun R X K => (loop_iter (σ := Int) (fun x => SD.enc d_impl_SameData_8 ((X.1.1, (X.1.2.1, (X.1.2.2.1, (X.1.2.2.2.1, (X.1.2.2.2.2.1, (x, ())))))), (), ())) (t_impl_SameData_8 X K) (fun m x => by kernel_rfl) fuel X.1.2.2.2.2.2.1).symm
theorem ok_impl_SameData : FnOk Tryz.prog 35 e_impl_SameData := FnOk.of (fnOk (Γ := g_impl_SameData) (an := n_impl_SameData) (Λ := L_impl_SameData) ((base).add ok_impl_sameFirst) Tryz.func35 (by kernel_rfl) (hF (by kernel_rfl) (cF lok_impl_SameData_2 (cF lok_impl_SameData_8 nF)))) (fun a => by kernel_rfl)
noncomputable def e_impl_SameWorld : GEnt := entOf [.data true TCard, .data true TIdeal] [(false, .bool)] fun a => Pu.impl_SameWorld a.1 a.2.1
noncomputable def g_impl_SameWorld : Gam := ((((Gam.nil).add 32 e_impl_CardOk).add 33 e_impl_IdealOk).add 34 e_impl_sameFunctions).add 35 e_impl_SameData
def n_impl_SameWorld : An := { mask := fun | 4 => [2, 3, 4, 35, 36, 37] | 10 => [3, 4, 51, 52, 53] | _ => [], merge := fun | 1 => some 33 | _ => none }
@[reducible] def d_impl_SameWorld_4 : SD := ⟨[B,B,.ptr 2 0,.ptr 3 0,DB,B,B,B,B,B,B,B,B,B,B,B,B,B,B,B,B,B,B,B,B,B,B,B,B,B,B,B,B,B,B,.data false (.sl .arg .str),DI,DI,B,B,B,B,B,B,B,B,B,B,B,B,B,B,B,B,B,B,B,B,B,B,B,B,B,B,B,B,B,B,B], [Z,Z,some (.pair (.sl .arg THost) (.pair (.sl .arg TVirtualFunction) (.pair (.sl .arg TMailbox) (.pair (.sl .arg .str) (.pair (.pair (.int .i64) (.pair (.int .i64) (.pair (.int .i64) (.int .i64)))) (.pair (.sl .arg (.int .i64)) (.sl .arg .str))))))),some (.pair (.sl .arg TSoft) (.pair (.sl .arg (.sl .str)) (.pair (.sl .arg TVirtualFunction) (.pair (.sl .arg TMailbox) (.sl .arg .str))))),Z,Z,Z,Z,Z,Z,Z,Z,Z,Z,Z,Z,Z,Z,Z,Z,Z,Z,Z,Z,Z,Z,Z,Z,Z,Z,Z,Z,Z,Z,Z,Z,Z,Z,Z,Z,Z,Z,Z,Z,Z,Z,Z,Z,Z,Z,Z,Z,Z,Z,Z,Z,Z,Z,Z,Z,Z,Z,Z,Z,Z,Z,Z,Z,Z], none⟩
noncomputable def t_impl_SameWorld_4 {R : Type} (X : SD.D d_impl_SameWorld_4) (K : Ex → AS → Option R) := Pu.impl_SameWorld_T4 (fun y0 => K (.exit 0) (SD.enc d_impl_SameWorld_4 ((X.1.1, (X.1.2.1, (X.1.2.2.1, (y0, ())))), (X.2.1.1, (X.2.1.2.1, ())), ()))) (fun y0 y1 => K .ret (SD.enc d_impl_SameWorld_4 ((y0, (X.1.2.1, (X.1.2.2.1, (y1, ())))), (X.2.1.1, (X.2.1.2.1, ())), ()))) X.1.1 X.1.2.1 X.1.2.2.1 X.2.1.1 X.2.1.2.1
noncomputable def l_impl_SameWorld_4 : LEnt := ⟨d_impl_SameWorld_4, fun X K => iterL (t_impl_SameWorld_4 X K) fuel X.1.2.2.2.1⟩
@[reducible] def d_impl_SameWorld_10 : SD := ⟨[B,B,B,.ptr 3 0,DB,B,B,B,B,B,B,B,B,B,B,B,B,B,B,B,B,B,B,B,B,B,B,B,B,B,B,B,B,B,B,B,B,B,B,B,B,B,B,B,B,B,B,B,B,B,B,.data false (.sl .arg THost),DI,DI,B,B,B,B,B,B,B,B,B,B,B,B,B,B,B], [Z,Z,Z,some (.pair (.sl .arg TSoft) (.pair (.sl .arg (.sl .str)) (.pair (.sl .arg TVirtualFunction) (.pair (.sl .arg TMailbox) (.sl .arg .str))))),Z,Z,Z,Z,Z,Z,Z,Z,Z,Z,Z,Z,Z,Z,Z,Z,Z,Z,Z,Z,Z,Z,Z,Z,Z,Z,Z,Z,Z,Z,Z,Z,Z,Z,Z,Z,Z,Z,Z,Z,Z,Z,Z,Z,Z,Z,Z,Z,Z,Z,Z,Z,Z,Z,Z,Z,Z,Z,Z,Z,Z,Z,Z,Z,Z], none⟩
noncomputable def t_impl_SameWorld_10 {R : Type} (X : SD.D d_impl_SameWorld_10) (K : Ex → AS → Option R) := Pu.impl_SameWorld_T10 (fun y0 => K (.exit 2) (SD.enc d_impl_SameWorld_10 ((X.1.1, (X.1.2.1, (X.1.2.2.1, (y0, ())))), (X.2.1.1, ()), ()))) (fun y0 y1 => K .ret (SD.enc d_impl_SameWorld_10 ((y0, (X.1.2.1, (X.1.2.2.1, (y1, ())))), (X.2.1.1, ()), ()))) X.1.1 X.1.2.1 X.1.2.2.1 X.2.1.1
noncomputable def l_impl_SameWorld_10 : LEnt := ⟨d_impl_SameWorld_10, fun X K => iterL (t_impl_SameWorld_10 X K) fuel X.1.2.2.2.1⟩
noncomputable def L_impl_SameWorld : Lam := ((Lam.nil).add 4 l_impl_SameWorld_4).add 10 l_impl_SameWorld_10
theorem lok_impl_SameWorld_4 : LOk E g_impl_SameWorld n_impl_SameWorld L_impl_SameWorld (loopBody Tryz.f9 0) :=
  lok l_impl_SameWorld_4 (by kernel_rfl) fuel fun R X K => (loop_iter (σ := Int) (fun x => SD.enc d_impl_SameWorld_4 ((X.1.1, (X.1.2.1, (X.1.2.2.1, (x, ())))), (X.2.1.1, (X.2.1.2.1, ())), ())) (t_impl_SameWorld_4 X K) (fun m x => by kernel_rfl) fuel X.1.2.2.2.1).symm
theorem lok_impl_SameWorld_10 : LOk E g_impl_SameWorld n_impl_SameWorld L_impl_SameWorld (loopBody Tryz.f9 1) :=
  lok l_impl_SameWorld_10 (by kernel_rfl) fuel fun R X K => (loop_iter (σ := Int) (fun x => SD.enc d_impl_SameWorld_10 ((X.1.1, (X.1.2.1, (X.1.2.2.1, (x, ())))), (X.2.1.1, ()), ())) (t_impl_SameWorld_10 X K) (fun m x => by kernel_rfl) fuel X.1.2.2.2.1).symm
theorem ok_impl_SameWorld : FnOk Tryz.prog 9 e_impl_SameWorld := FnOk.of (fnOk (Γ := g_impl_SameWorld) (an := n_impl_SameWorld) (Λ := L_impl_SameWorld) (((((base).add ok_impl_CardOk).add ok_impl_IdealOk).add ok_impl_sameFunctions).add ok_impl_SameData) Tryz.func9 (by kernel_rfl) (hF (by kernel_rfl) (cF lok_impl_SameWorld_4 (cF lok_impl_SameWorld_10 nF)))) (fun a => by kernel_rfl)
noncomputable def e_laws_eqIntS : GEnt := entOf [.data false (.sl (.int .i64)), .data false (.sl (.int .i64))] [(false, .bool)] fun a => Pu.laws_eqIntS a.1 a.2.1
noncomputable def g_laws_eqIntS : Gam := Gam.nil
def n_laws_eqIntS : An := { mask := fun | 4 => [0, 1, 4, 5] | _ => [] }
@[reducible] def d_laws_eqIntS_4 : SD := ⟨[.data false (.sl .arg (.int .i64)),.data false (.sl .arg (.int .i64)),B,B,DB,DI,B,B,B,B,B,B,B,B,B,B,B,B,B,B,B,B,B,B,B,B], [Z,Z,Z,Z,Z,Z,Z,Z,Z,Z,Z,Z,Z,Z,Z,Z,Z,Z,Z,Z,Z,Z,Z,Z,Z,Z], none⟩
noncomputable def t_laws_eqIntS_4 {R : Type} (X : SD.D d_laws_eqIntS_4) (K : Ex → AS → Option R) := Pu.laws_eqIntS_T4 (fun y0 => K (.exit 0) (SD.enc d_laws_eqIntS_4 ((X.1.1, (X.1.2.1, (X.1.2.2.1, (y0, ())))), (), ()))) (fun y0 y1 => K .ret (SD.enc d_laws_eqIntS_4 ((X.1.1, (X.1.2.1, (y0, (y1, ())))), (), ()))) X.1.1 X.1.2.1 X.1.2.2.1
noncomputable def l_laws_eqIntS_4 : LEnt := ⟨d_laws_eqIntS_4, fun X K => iterL (t_laws_eqIntS_4 X K) fuel X.1.2.2.2.1⟩
noncomputable def L_laws_eqIntS : Lam := (Lam.nil).add 4 l_laws_eqIntS_4
theorem lok_laws_eqIntS_4 : LOk E g_laws_eqIntS n_laws_eqIntS L_laws_eqIntS (loopBody Tryz.f41 0) :=
  lok l_laws_eqIntS_4 (by kernel_rfl) fuel fun R X K => (loop_iter (σ := Int) (fun x => SD.enc d_laws_eqIntS_4 ((X.1.1, (X.1.2.1, (X.1.2.2.1, (x, ())))), (), ())) (t_laws_eqIntS_4 X K) (fun m x => by kernel_rfl) fuel X.1.2.2.2.1).symm
theorem ok_laws_eqIntS : FnOk Tryz.prog 41 e_laws_eqIntS := FnOk.of (fnOk (Γ := g_laws_eqIntS) (an := n_laws_eqIntS) (Λ := L_laws_eqIntS) (base) Tryz.func41 (by kernel_rfl) (hF (by kernel_rfl) (cF lok_laws_eqIntS_4 nF))) (fun a => by kernel_rfl)
noncomputable def e_laws_eqStringS : GEnt := entOf [.data false (.sl .str), .data false (.sl .str)] [(false, .bool)] fun a => Pu.laws_eqStringS a.1 a.2.1
noncomputable def g_laws_eqStringS : Gam := Gam.nil
def n_laws_eqStringS : An := { mask := fun | 4 => [0, 1, 4, 5] | _ => [] }
@[reducible] def d_laws_eqStringS_4 : SD := ⟨[.data false (.sl .arg .str),.data false (.sl .arg .str),B,B,DB,DI,B,B,B,B,B,B,B,B,B,B,B,B,B,B,B,B,B,B,B,B], [Z,Z,Z,Z,Z,Z,Z,Z,Z,Z,Z,Z,Z,Z,Z,Z,Z,Z,Z,Z,Z,Z,Z,Z,Z,Z], none⟩
noncomputable def t_laws_eqStringS_4 {R : Type} (X : SD.D d_laws_eqStringS_4) (K : Ex → AS → Option R) := Pu.laws_eqStringS_T4 (fun y0 => K (.exit 0) (SD.enc d_laws_eqStringS_4 ((X.1.1, (X.1.2.1, (X.1.2.2.1, (y0, ())))), (), ()))) (fun y0 y1 => K .ret (SD.enc d_laws_eqStringS_4 ((X.1.1, (X.1.2.1, (y0, (y1, ())))), (), ()))) X.1.1 X.1.2.1 X.1.2.2.1
noncomputable def l_laws_eqStringS_4 : LEnt := ⟨d_laws_eqStringS_4, fun X K => iterL (t_laws_eqStringS_4 X K) fuel X.1.2.2.2.1⟩
noncomputable def L_laws_eqStringS : Lam := (Lam.nil).add 4 l_laws_eqStringS_4
theorem lok_laws_eqStringS_4 : LOk E g_laws_eqStringS n_laws_eqStringS L_laws_eqStringS (loopBody Tryz.f42 0) :=
  lok l_laws_eqStringS_4 (by kernel_rfl) fuel fun R X K => (loop_iter (σ := Int) (fun x => SD.enc d_laws_eqStringS_4 ((X.1.1, (X.1.2.1, (X.1.2.2.1, (x, ())))), (), ())) (t_laws_eqStringS_4 X K) (fun m x => by kernel_rfl) fuel X.1.2.2.2.1).symm
theorem ok_laws_eqStringS : FnOk Tryz.prog 42 e_laws_eqStringS := FnOk.of (fnOk (Γ := g_laws_eqStringS) (an := n_laws_eqStringS) (Λ := L_laws_eqStringS) (base) Tryz.func42 (by kernel_rfl) (hF (by kernel_rfl) (cF lok_laws_eqStringS_4 nF))) (fun a => by kernel_rfl)
noncomputable def e_laws_eqMemory : GEnt := entOf [.data true (.sl .str), .data true (.sl .str)] [(false, .bool)] fun a => Pu.laws_eqMemory a.1 a.2.1
theorem ok_laws_eqMemory : FnOk Tryz.prog 131 e_laws_eqMemory := FnOk.of (fnOk (an := {}) (Λ := Lam.nil) ((base).add ok_laws_eqStringS) Tryz.func131 (by kernel_rfl) (hF (by kernel_rfl) nF)) (fun a => by kernel_rfl)
noncomputable def e_laws_eqMapping : GEnt := entOf [.data true TMapping, .data true TMapping] [(false, .bool)] fun a => Pu.laws_eqMapping a.1 a.2.1
theorem ok_laws_eqMapping : FnOk Tryz.prog 184 e_laws_eqMapping := FnOk.of (fnOk (an := {}) (Λ := Lam.nil) (base) Tryz.func184 (by kernel_rfl) (hF (by kernel_rfl) nF)) (fun a => by kernel_rfl)
noncomputable def e_laws_eqMappingS : GEnt := entOf [.data false (.sl TMapping), .data false (.sl TMapping)] [(false, .bool)] fun a => Pu.laws_eqMappingS a.1 a.2.1
noncomputable def g_laws_eqMappingS : Gam := (Gam.nil).add 184 e_laws_eqMapping
def n_laws_eqMappingS : An := { mask := fun | 4 => [0, 1, 4, 5] | _ => [] }
@[reducible] def d_laws_eqMappingS_4 : SD := ⟨[.data false (.sl .arg TMapping),.data false (.sl .arg TMapping),B,B,DB,DI,B,B,B,B,B,B,B,B,B,B,B,B,B,B,B,B,B,B,B,B,B], [Z,Z,Z,Z,Z,Z,Z,Z,Z,Z,Z,Z,Z,Z,Z,Z,Z,Z,Z,Z,Z,Z,Z,Z,Z,Z,Z], none⟩
noncomputable def t_laws_eqMappingS_4 {R : Type} (X : SD.D d_laws_eqMappingS_4) (K : Ex → AS → Option R) := Pu.laws_eqMappingS_T4 (fun y0 => K (.exit 0) (SD.enc d_laws_eqMappingS_4 ((X.1.1, (X.1.2.1, (X.1.2.2.1, (y0, ())))), (), ()))) (fun y0 y1 => K .ret (SD.enc d_laws_eqMappingS_4 ((X.1.1, (X.1.2.1, (y0, (y1, ())))), (), ()))) X.1.1 X.1.2.1 X.1.2.2.1
noncomputable def l_laws_eqMappingS_4 : LEnt := ⟨d_laws_eqMappingS_4, fun X K => iterL (t_laws_eqMappingS_4 X K) fuel X.1.2.2.2.1⟩
noncomputable def L_laws_eqMappingS : Lam := (Lam.nil).add 4 l_laws_eqMappingS_4
theorem lok_laws_eqMappingS_4 : LOk E g_laws_eqMappingS n_laws_eqMappingS L_laws_eqMappingS (loopBody Tryz.f132 0) :=
  lok l_laws_eqMappingS_4 (by kernel_rfl) fuel fun R X K => (loop_iter (σ := Int) (fun x => SD.enc d_laws_eqMappingS_4 ((X.1.1, (X.1.2.1, (X.1.2.2.1, (x, ())))), (), ())) (t_laws_eqMappingS_4 X K) (fun m x => by kernel_rfl) fuel X.1.2.2.2.1).symm
theorem ok_laws_eqMappingS : FnOk Tryz.prog 132 e_laws_eqMappingS := FnOk.of (fnOk (Γ := g_laws_eqMappingS) (an := n_laws_eqMappingS) (Λ := L_laws_eqMappingS) ((base).add ok_laws_eqMapping) Tryz.func132 (by kernel_rfl) (hF (by kernel_rfl) (cF lok_laws_eqMappingS_4 nF))) (fun a => by kernel_rfl)
noncomputable def e_laws_eqRing : GEnt := entOf [.data true TClock, .data true TClock] [(false, .bool)] fun a => Pu.laws_eqRing a.1 a.2.1
theorem ok_laws_eqRing : FnOk Tryz.prog 185 e_laws_eqRing := FnOk.of (fnOk (an := {}) (Λ := Lam.nil) (base) Tryz.func185 (by kernel_rfl) (hF (by kernel_rfl) nF)) (fun a => by kernel_rfl)
noncomputable def e_laws_eqPool : GEnt := entOf [.data true TPool, .data true TPool] [(false, .bool)] fun a => Pu.laws_eqPool a.1 a.2.1
theorem ok_laws_eqPool : FnOk Tryz.prog 186 e_laws_eqPool := FnOk.of (fnOk (an := {}) (Λ := Lam.nil) ((base).add ok_laws_eqIntS) Tryz.func186 (by kernel_rfl) (hF (by kernel_rfl) nF)) (fun a => by kernel_rfl)
noncomputable def e_laws_eqSent : GEnt := entOf [.data true TSent, .data true TSent] [(false, .bool)] fun a => Pu.laws_eqSent a.1 a.2.1
theorem ok_laws_eqSent : FnOk Tryz.prog 225 e_laws_eqSent := FnOk.of (fnOk (an := {}) (Λ := Lam.nil) ((base).add ok_laws_eqIntS) Tryz.func225 (by kernel_rfl) (hF (by kernel_rfl) nF)) (fun a => by kernel_rfl)
noncomputable def e_laws_eqSentS : GEnt := entOf [.data false (.sl TSent), .data false (.sl TSent)] [(false, .bool)] fun a => Pu.laws_eqSentS a.1 a.2.1
noncomputable def g_laws_eqSentS : Gam := (Gam.nil).add 225 e_laws_eqSent
def n_laws_eqSentS : An := { mask := fun | 4 => [0, 1, 4, 5] | _ => [] }
@[reducible] def d_laws_eqSentS_4 : SD := ⟨[.data false (.sl .arg TSent),.data false (.sl .arg TSent),B,B,DB,DI,B,B,B,B,B,B,B,B,B,B,B,B,B,B,B,B,B,B,B,B,B], [Z,Z,Z,Z,Z,Z,Z,Z,Z,Z,Z,Z,Z,Z,Z,Z,Z,Z,Z,Z,Z,Z,Z,Z,Z,Z,Z], none⟩
noncomputable def t_laws_eqSentS_4 {R : Type} (X : SD.D d_laws_eqSentS_4) (K : Ex → AS → Option R) := Pu.laws_eqSentS_T4 (fun y0 => K (.exit 0) (SD.enc d_laws_eqSentS_4 ((X.1.1, (X.1.2.1, (X.1.2.2.1, (y0, ())))), (), ()))) (fun y0 y1 => K .ret (SD.enc d_laws_eqSentS_4 ((X.1.1, (X.1.2.1, (y0, (y1, ())))), (), ()))) X.1.1 X.1.2.1 X.1.2.2.1
noncomputable def l_laws_eqSentS_4 : LEnt := ⟨d_laws_eqSentS_4, fun X K => iterL (t_laws_eqSentS_4 X K) fuel X.1.2.2.2.1⟩
noncomputable def L_laws_eqSentS : Lam := (Lam.nil).add 4 l_laws_eqSentS_4
theorem lok_laws_eqSentS_4 : LOk E g_laws_eqSentS n_laws_eqSentS L_laws_eqSentS (loopBody Tryz.f187 0) :=
  lok l_laws_eqSentS_4 (by kernel_rfl) fuel fun R X K => (loop_iter (σ := Int) (fun x => SD.enc d_laws_eqSentS_4 ((X.1.1, (X.1.2.1, (X.1.2.2.1, (x, ())))), (), ())) (t_laws_eqSentS_4 X K) (fun m x => by kernel_rfl) fuel X.1.2.2.2.1).symm
theorem ok_laws_eqSentS : FnOk Tryz.prog 187 e_laws_eqSentS := FnOk.of (fnOk (Γ := g_laws_eqSentS) (an := n_laws_eqSentS) (Λ := L_laws_eqSentS) ((base).add ok_laws_eqSent) Tryz.func187 (by kernel_rfl) (hF (by kernel_rfl) (cF lok_laws_eqSentS_4 nF))) (fun a => by kernel_rfl)
noncomputable def e_laws_eqTxQueue : GEnt := entOf [.data true TTxQueue, .data true TTxQueue] [(false, .bool)] fun a => Pu.laws_eqTxQueue a.1 a.2.1
theorem ok_laws_eqTxQueue : FnOk Tryz.prog 133 e_laws_eqTxQueue := FnOk.of (fnOk (an := {}) (Λ := Lam.nil) ((((base).add ok_laws_eqRing).add ok_laws_eqPool).add ok_laws_eqSentS) Tryz.func133 (by kernel_rfl) (hF (by kernel_rfl) nF)) (fun a => by kernel_rfl)
noncomputable def e_laws_eqCompletionQueue : GEnt := entOf [.data true TBucket, .data true TBucket] [(false, .bool)] fun a => Pu.laws_eqCompletionQueue a.1 a.2.1
theorem ok_laws_eqCompletionQueue : FnOk Tryz.prog 226 e_laws_eqCompletionQueue := FnOk.of (fnOk (an := {}) (Λ := Lam.nil) (base) Tryz.func226 (by kernel_rfl) (hF (by kernel_rfl) nF)) (fun a => by kernel_rfl)
noncomputable def e_laws_eqSegment : GEnt := entOf [.data true TSegment, .data true TSegment] [(false, .bool)] fun a => Pu.laws_eqSegment a.1 a.2.1
theorem ok_laws_eqSegment : FnOk Tryz.prog 242 e_laws_eqSegment := FnOk.of (fnOk (an := {}) (Λ := Lam.nil) (base) Tryz.func242 (by kernel_rfl) (hF (by kernel_rfl) nF)) (fun a => by kernel_rfl)
noncomputable def e_laws_eqPacket : GEnt := entOf [.data true TPacket, .data true TPacket] [(false, .bool)] fun a => Pu.laws_eqPacket a.1 a.2.1
theorem ok_laws_eqPacket : FnOk Tryz.prog 238 e_laws_eqPacket := FnOk.of (fnOk (an := {}) (Λ := Lam.nil) ((base).add ok_laws_eqSegment) Tryz.func238 (by kernel_rfl) (hF (by kernel_rfl) nF)) (fun a => by kernel_rfl)
noncomputable def e_laws_eqSuper : GEnt := entOf [.data true TSuper, .data true TSuper] [(false, .bool)] fun a => Pu.laws_eqSuper a.1 a.2.1
theorem ok_laws_eqSuper : FnOk Tryz.prog 227 e_laws_eqSuper := FnOk.of (fnOk (an := {}) (Λ := Lam.nil) ((base).add ok_laws_eqPacket) Tryz.func227 (by kernel_rfl) (hF (by kernel_rfl) nF)) (fun a => by kernel_rfl)
noncomputable def e_laws_eqRxQueue : GEnt := entOf [.data true TRxQueue, .data true TRxQueue] [(false, .bool)] fun a => Pu.laws_eqRxQueue a.1 a.2.1
theorem ok_laws_eqRxQueue : FnOk Tryz.prog 188 e_laws_eqRxQueue := FnOk.of (fnOk (an := {}) (Λ := Lam.nil) ((((base).add ok_laws_eqRing).add ok_laws_eqCompletionQueue).add ok_laws_eqSuper) Tryz.func188 (by kernel_rfl) (hF (by kernel_rfl) nF)) (fun a => by kernel_rfl)
noncomputable def e_laws_eqRxQueueS : GEnt := entOf [.data false (.sl TRxQueue), .data false (.sl TRxQueue)] [(false, .bool)] fun a => Pu.laws_eqRxQueueS a.1 a.2.1
noncomputable def g_laws_eqRxQueueS : Gam := (Gam.nil).add 188 e_laws_eqRxQueue
def n_laws_eqRxQueueS : An := { mask := fun | 4 => [0, 1, 4, 5] | _ => [] }
@[reducible] def d_laws_eqRxQueueS_4 : SD := ⟨[.data false (.sl .arg TRxQueue),.data false (.sl .arg TRxQueue),B,B,DB,DI,B,B,B,B,B,B,B,B,B,B,B,B,B,B,B,B,B,B,B,B,B], [Z,Z,Z,Z,Z,Z,Z,Z,Z,Z,Z,Z,Z,Z,Z,Z,Z,Z,Z,Z,Z,Z,Z,Z,Z,Z,Z], none⟩
noncomputable def t_laws_eqRxQueueS_4 {R : Type} (X : SD.D d_laws_eqRxQueueS_4) (K : Ex → AS → Option R) := Pu.laws_eqRxQueueS_T4 (fun y0 => K (.exit 0) (SD.enc d_laws_eqRxQueueS_4 ((X.1.1, (X.1.2.1, (X.1.2.2.1, (y0, ())))), (), ()))) (fun y0 y1 => K .ret (SD.enc d_laws_eqRxQueueS_4 ((X.1.1, (X.1.2.1, (y0, (y1, ())))), (), ()))) X.1.1 X.1.2.1 X.1.2.2.1
noncomputable def l_laws_eqRxQueueS_4 : LEnt := ⟨d_laws_eqRxQueueS_4, fun X K => iterL (t_laws_eqRxQueueS_4 X K) fuel X.1.2.2.2.1⟩
noncomputable def L_laws_eqRxQueueS : Lam := (Lam.nil).add 4 l_laws_eqRxQueueS_4
theorem lok_laws_eqRxQueueS_4 : LOk E g_laws_eqRxQueueS n_laws_eqRxQueueS L_laws_eqRxQueueS (loopBody Tryz.f134 0) :=
  lok l_laws_eqRxQueueS_4 (by kernel_rfl) fuel fun R X K => (loop_iter (σ := Int) (fun x => SD.enc d_laws_eqRxQueueS_4 ((X.1.1, (X.1.2.1, (X.1.2.2.1, (x, ())))), (), ())) (t_laws_eqRxQueueS_4 X K) (fun m x => by kernel_rfl) fuel X.1.2.2.2.1).symm
theorem ok_laws_eqRxQueueS : FnOk Tryz.prog 134 e_laws_eqRxQueueS := FnOk.of (fnOk (Γ := g_laws_eqRxQueueS) (an := n_laws_eqRxQueueS) (Λ := L_laws_eqRxQueueS) ((base).add ok_laws_eqRxQueue) Tryz.func134 (by kernel_rfl) (hF (by kernel_rfl) (cF lok_laws_eqRxQueueS_4 nF))) (fun a => by kernel_rfl)
noncomputable def e_laws_eqPoolS : GEnt := entOf [.data false (.sl TPool), .data false (.sl TPool)] [(false, .bool)] fun a => Pu.laws_eqPoolS a.1 a.2.1
noncomputable def g_laws_eqPoolS : Gam := (Gam.nil).add 186 e_laws_eqPool
def n_laws_eqPoolS : An := { mask := fun | 4 => [0, 1, 4, 5] | _ => [] }
@[reducible] def d_laws_eqPoolS_4 : SD := ⟨[.data false (.sl .arg TPool),.data false (.sl .arg TPool),B,B,DB,DI,B,B,B,B,B,B,B,B,B,B,B,B,B,B,B,B,B,B,B,B,B], [Z,Z,Z,Z,Z,Z,Z,Z,Z,Z,Z,Z,Z,Z,Z,Z,Z,Z,Z,Z,Z,Z,Z,Z,Z,Z,Z], none⟩
noncomputable def t_laws_eqPoolS_4 {R : Type} (X : SD.D d_laws_eqPoolS_4) (K : Ex → AS → Option R) := Pu.laws_eqPoolS_T4 (fun y0 => K (.exit 0) (SD.enc d_laws_eqPoolS_4 ((X.1.1, (X.1.2.1, (X.1.2.2.1, (y0, ())))), (), ()))) (fun y0 y1 => K .ret (SD.enc d_laws_eqPoolS_4 ((X.1.1, (X.1.2.1, (y0, (y1, ())))), (), ()))) X.1.1 X.1.2.1 X.1.2.2.1
noncomputable def l_laws_eqPoolS_4 : LEnt := ⟨d_laws_eqPoolS_4, fun X K => iterL (t_laws_eqPoolS_4 X K) fuel X.1.2.2.2.1⟩
noncomputable def L_laws_eqPoolS : Lam := (Lam.nil).add 4 l_laws_eqPoolS_4
theorem lok_laws_eqPoolS_4 : LOk E g_laws_eqPoolS n_laws_eqPoolS L_laws_eqPoolS (loopBody Tryz.f135 0) :=
  lok l_laws_eqPoolS_4 (by kernel_rfl) fuel fun R X K => (loop_iter (σ := Int) (fun x => SD.enc d_laws_eqPoolS_4 ((X.1.1, (X.1.2.1, (X.1.2.2.1, (x, ())))), (), ())) (t_laws_eqPoolS_4 X K) (fun m x => by kernel_rfl) fuel X.1.2.2.2.1).symm
theorem ok_laws_eqPoolS : FnOk Tryz.prog 135 e_laws_eqPoolS := FnOk.of (fnOk (Γ := g_laws_eqPoolS) (an := n_laws_eqPoolS) (Λ := L_laws_eqPoolS) ((base).add ok_laws_eqPool) Tryz.func135 (by kernel_rfl) (hF (by kernel_rfl) (cF lok_laws_eqPoolS_4 nF))) (fun a => by kernel_rfl)
noncomputable def e_laws_eqVector : GEnt := entOf [.data true TVector, .data true TVector] [(false, .bool)] fun a => Pu.laws_eqVector a.1 a.2.1
theorem ok_laws_eqVector : FnOk Tryz.prog 189 e_laws_eqVector := FnOk.of (fnOk (an := {}) (Λ := Lam.nil) (base) Tryz.func189 (by kernel_rfl) (hF (by kernel_rfl) nF)) (fun a => by kernel_rfl)
noncomputable def e_laws_eqVectorS : GEnt := entOf [.data false (.sl TVector), .data false (.sl TVector)] [(false, .bool)] fun a => Pu.laws_eqVectorS a.1 a.2.1
noncomputable def g_laws_eqVectorS : Gam := (Gam.nil).add 189 e_laws_eqVector
def n_laws_eqVectorS : An := { mask := fun | 4 => [0, 1, 4, 5] | _ => [] }
@[reducible] def d_laws_eqVectorS_4 : SD := ⟨[.data false (.sl .arg TVector),.data false (.sl .arg TVector),B,B,DB,DI,B,B,B,B,B,B,B,B,B,B,B,B,B,B,B,B,B,B,B,B,B], [Z,Z,Z,Z,Z,Z,Z,Z,Z,Z,Z,Z,Z,Z,Z,Z,Z,Z,Z,Z,Z,Z,Z,Z,Z,Z,Z], none⟩
noncomputable def t_laws_eqVectorS_4 {R : Type} (X : SD.D d_laws_eqVectorS_4) (K : Ex → AS → Option R) := Pu.laws_eqVectorS_T4 (fun y0 => K (.exit 0) (SD.enc d_laws_eqVectorS_4 ((X.1.1, (X.1.2.1, (X.1.2.2.1, (y0, ())))), (), ()))) (fun y0 y1 => K .ret (SD.enc d_laws_eqVectorS_4 ((X.1.1, (X.1.2.1, (y0, (y1, ())))), (), ()))) X.1.1 X.1.2.1 X.1.2.2.1
noncomputable def l_laws_eqVectorS_4 : LEnt := ⟨d_laws_eqVectorS_4, fun X K => iterL (t_laws_eqVectorS_4 X K) fuel X.1.2.2.2.1⟩
noncomputable def L_laws_eqVectorS : Lam := (Lam.nil).add 4 l_laws_eqVectorS_4
theorem lok_laws_eqVectorS_4 : LOk E g_laws_eqVectorS n_laws_eqVectorS L_laws_eqVectorS (loopBody Tryz.f136 0) :=
  lok l_laws_eqVectorS_4 (by kernel_rfl) fuel fun R X K => (loop_iter (σ := Int) (fun x => SD.enc d_laws_eqVectorS_4 ((X.1.1, (X.1.2.1, (X.1.2.2.1, (x, ())))), (), ())) (t_laws_eqVectorS_4 X K) (fun m x => by kernel_rfl) fuel X.1.2.2.2.1).symm
theorem ok_laws_eqVectorS : FnOk Tryz.prog 136 e_laws_eqVectorS := FnOk.of (fnOk (Γ := g_laws_eqVectorS) (an := n_laws_eqVectorS) (Λ := L_laws_eqVectorS) ((base).add ok_laws_eqVector) Tryz.func136 (by kernel_rfl) (hF (by kernel_rfl) (cF lok_laws_eqVectorS_4 nF))) (fun a => by kernel_rfl)
noncomputable def e_laws_eqBoolS : GEnt := entOf [.data false (.sl .bool), .data false (.sl .bool)] [(false, .bool)] fun a => Pu.laws_eqBoolS a.1 a.2.1
noncomputable def g_laws_eqBoolS : Gam := Gam.nil
def n_laws_eqBoolS : An := { mask := fun | 4 => [0, 1, 4, 5] | _ => [] }
@[reducible] def d_laws_eqBoolS_4 : SD := ⟨[.data false (.sl .arg .bool),.data false (.sl .arg .bool),B,B,DB,DI,B,B,B,B,B,B,B,B,B,B,B,B,B,B,B,B,B,B,B,B], [Z,Z,Z,Z,Z,Z,Z,Z,Z,Z,Z,Z,Z,Z,Z,Z,Z,Z,Z,Z,Z,Z,Z,Z,Z,Z], none⟩
noncomputable def t_laws_eqBoolS_4 {R : Type} (X : SD.D d_laws_eqBoolS_4) (K : Ex → AS → Option R) := Pu.laws_eqBoolS_T4 (fun y0 => K (.exit 0) (SD.enc d_laws_eqBoolS_4 ((X.1.1, (X.1.2.1, (X.1.2.2.1, (y0, ())))), (), ()))) (fun y0 y1 => K .ret (SD.enc d_laws_eqBoolS_4 ((X.1.1, (X.1.2.1, (y0, (y1, ())))), (), ()))) X.1.1 X.1.2.1 X.1.2.2.1
noncomputable def l_laws_eqBoolS_4 : LEnt := ⟨d_laws_eqBoolS_4, fun X K => iterL (t_laws_eqBoolS_4 X K) fuel X.1.2.2.2.1⟩
noncomputable def L_laws_eqBoolS : Lam := (Lam.nil).add 4 l_laws_eqBoolS_4
theorem lok_laws_eqBoolS_4 : LOk E g_laws_eqBoolS n_laws_eqBoolS L_laws_eqBoolS (loopBody Tryz.f137 0) :=
  lok l_laws_eqBoolS_4 (by kernel_rfl) fuel fun R X K => (loop_iter (σ := Int) (fun x => SD.enc d_laws_eqBoolS_4 ((X.1.1, (X.1.2.1, (X.1.2.2.1, (x, ())))), (), ())) (t_laws_eqBoolS_4 X K) (fun m x => by kernel_rfl) fuel X.1.2.2.2.1).symm
theorem ok_laws_eqBoolS : FnOk Tryz.prog 137 e_laws_eqBoolS := FnOk.of (fnOk (Γ := g_laws_eqBoolS) (an := n_laws_eqBoolS) (Λ := L_laws_eqBoolS) (base) Tryz.func137 (by kernel_rfl) (hF (by kernel_rfl) (cF lok_laws_eqBoolS_4 nF))) (fun a => by kernel_rfl)
noncomputable def e_laws_eqFilter : GEnt := entOf [.data true TFilter, .data true TFilter] [(false, .bool)] fun a => Pu.laws_eqFilter a.1 a.2.1
theorem ok_laws_eqFilter : FnOk Tryz.prog 138 e_laws_eqFilter := FnOk.of (fnOk (an := {}) (Λ := Lam.nil) ((base).add ok_laws_eqIntS) Tryz.func138 (by kernel_rfl) (hF (by kernel_rfl) nF)) (fun a => by kernel_rfl)
noncomputable def e_laws_eqRule : GEnt := entOf [.data true TRule, .data true TRule] [(false, .bool)] fun a => Pu.laws_eqRule a.1 a.2.1
theorem ok_laws_eqRule : FnOk Tryz.prog 228 e_laws_eqRule := FnOk.of (fnOk (an := {}) (Λ := Lam.nil) (base) Tryz.func228 (by kernel_rfl) (hF (by kernel_rfl) nF)) (fun a => by kernel_rfl)
noncomputable def e_laws_eqRuleS : GEnt := entOf [.data false (.sl TRule), .data false (.sl TRule)] [(false, .bool)] fun a => Pu.laws_eqRuleS a.1 a.2.1
noncomputable def g_laws_eqRuleS : Gam := (Gam.nil).add 228 e_laws_eqRule
def n_laws_eqRuleS : An := { mask := fun | 4 => [0, 1, 4, 5] | _ => [] }
@[reducible] def d_laws_eqRuleS_4 : SD := ⟨[.data false (.sl .arg TRule),.data false (.sl .arg TRule),B,B,DB,DI,B,B,B,B,B,B,B,B,B,B,B,B,B,B,B,B,B,B,B,B,B], [Z,Z,Z,Z,Z,Z,Z,Z,Z,Z,Z,Z,Z,Z,Z,Z,Z,Z,Z,Z,Z,Z,Z,Z,Z,Z,Z], none⟩
noncomputable def t_laws_eqRuleS_4 {R : Type} (X : SD.D d_laws_eqRuleS_4) (K : Ex → AS → Option R) := Pu.laws_eqRuleS_T4 (fun y0 => K (.exit 0) (SD.enc d_laws_eqRuleS_4 ((X.1.1, (X.1.2.1, (X.1.2.2.1, (y0, ())))), (), ()))) (fun y0 y1 => K .ret (SD.enc d_laws_eqRuleS_4 ((X.1.1, (X.1.2.1, (y0, (y1, ())))), (), ()))) X.1.1 X.1.2.1 X.1.2.2.1
noncomputable def l_laws_eqRuleS_4 : LEnt := ⟨d_laws_eqRuleS_4, fun X K => iterL (t_laws_eqRuleS_4 X K) fuel X.1.2.2.2.1⟩
noncomputable def L_laws_eqRuleS : Lam := (Lam.nil).add 4 l_laws_eqRuleS_4
theorem lok_laws_eqRuleS_4 : LOk E g_laws_eqRuleS n_laws_eqRuleS L_laws_eqRuleS (loopBody Tryz.f190 0) :=
  lok l_laws_eqRuleS_4 (by kernel_rfl) fuel fun R X K => (loop_iter (σ := Int) (fun x => SD.enc d_laws_eqRuleS_4 ((X.1.1, (X.1.2.1, (X.1.2.2.1, (x, ())))), (), ())) (t_laws_eqRuleS_4 X K) (fun m x => by kernel_rfl) fuel X.1.2.2.2.1).symm
theorem ok_laws_eqRuleS : FnOk Tryz.prog 190 e_laws_eqRuleS := FnOk.of (fnOk (Γ := g_laws_eqRuleS) (an := n_laws_eqRuleS) (Λ := L_laws_eqRuleS) ((base).add ok_laws_eqRule) Tryz.func190 (by kernel_rfl) (hF (by kernel_rfl) (cF lok_laws_eqRuleS_4 nF))) (fun a => by kernel_rfl)

end Go.Proofs.YtpnmgicfhmidcabGreat.Fn
