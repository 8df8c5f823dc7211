import Derived.Test.YtclgaiiidllehaeGreatDnSig
import Derived.Test.YtclgaiiidllehaeGreatPure
import Derived.Test.YtclgaiiidllehaeGreatRows
/- Each function of the program is its pure function (made by gen.py). -/
namespace Go.Proofs.YtclgaiiidllehaeGreat.Fn
open Go.Dn
open Go.Pu (TMapping TClock TRing TPool TSent TTxQueue TBucket TCompletionQueue TPacket TSuper TRxQueue TVector TFilter TRule TFlow TCounters TSlot TSteering TStream THost TVirtualFunction TMailbox TCard TSoft TIdeal TSpread TPort TSegment)
set_option maxRecDepth 100000
noncomputable section
abbrev B : PD := .bot
abbrev DI : PD := .data false (.int .i64)
abbrev DB : PD := .data false .bool
abbrev Z : Option FT := none
theorem nF {p : Code → Prop} : ∀ x ∈ ([] : List Code), p x := fun _ h => nomatch h
theorem cF {p : Code → Prop} {a : Code} {l : List Code} (h : p a) (t : ∀ x ∈ l, p x) : ∀ x ∈ a :: l, p x := List.forall_mem_cons.2 ⟨h, t⟩
theorem hF {p : Code → Prop} {l m : List Code} (e : l = m) (h : ∀ x ∈ m, p x) : ∀ x ∈ l, p x := e ▸ h
theorem fk {P : Program} {E : Env} {Γ : Gam} {s : List PS} {rs : List (Bool × FT)} {F : Args s → Option (resD rs)} {f : Nat} {fn : Func} (an : An) (hS : Sound P E Γ) (hf : P.funcs[f]? = some fn) {Λ : Lam} {l : List Code} (h : ∀ c ∈ l, LOk E Γ an Λ c) (hn : (fn.name == "runtime.NumGoroutine") = false := by kernel_rfl) (hl : loopsOf (fn.body.getD .skip) = l := by kernel_rfl) (hF : ∀ a, evalFn E Γ an Λ fn rs (argsOf s a) = F a := by intro a; kernel_rfl) : FnOk P f (entOf s rs F) := FnOk.of (fnOk hS hf hn (Fn.hF hl h)) hF
def E : Env := { ty := [(3, ⟨false, (.int .i64), []⟩),
  (4, ⟨false, .bool, []⟩),
  (5, ⟨false, (.int .u8), []⟩),
  (9, ⟨false, .str, []⟩),
  (22, ⟨false, (.sl THost), [(140, 0)]⟩),
  (23, ⟨false, (.sl TVirtualFunction), [(162, 0)]⟩),
  (24, ⟨false, (.sl TMailbox), [(143, 0)]⟩),
  (25, ⟨false, (.sl .str), [(9, 0)]⟩),
  (27, ⟨true, (.sl .str), [(0, 1)]⟩),
  (29, ⟨true, TClock, [(0, 1), (1, 1), (2, 1), (3, 1)]⟩),
  (30, ⟨false, (.sl (.int .i64)), [(3, 0)]⟩),
  (32, ⟨true, TCard, [(0, 1), (1, 1), (2, 1), (3, 1), (4, 4), (8, 1), (9, 1)]⟩),
  (34, ⟨false, (.sl TSoft), [(71, 0)]⟩),
  (35, ⟨false, (.sl (.sl .str)), [(25, 0)]⟩),
  (36, ⟨false, (.sl TVirtualFunction), [(155, 0)]⟩),
  (37, ⟨false, (.sl TMailbox), [(92, 0)]⟩),
  (39, ⟨true, TIdeal, [(0, 1), (1, 1), (2, 1), (3, 1), (4, 1)]⟩),
  (41, ⟨false, (.sl THost), [(90, 0)]⟩),
  (42, ⟨true, (.sl .str), [(0, 1)]⟩),
  (43, ⟨true, TClock, [(0, 1), (1, 1), (2, 1), (3, 1)]⟩),
  (45, ⟨true, TCard, [(0, 1), (1, 1), (2, 1), (3, 1), (4, 4), (8, 1), (9, 1)]⟩),
  (60, ⟨true, TFilter, [(0, 1), (1, 1), (2, 1)]⟩),
  (61, ⟨false, (.sl TRule), [(250, 0)]⟩),
  (62, ⟨false, (.sl TSlot), [(254, 0)]⟩),
  (64, ⟨true, (.sl TSlot), [(0, 1)]⟩),
  (66, ⟨true, TSpread, [(0, 1), (1, 1)]⟩),
  (68, ⟨true, TSteering, [(0, 1), (1, 1), (2, 2)]⟩),
  (69, ⟨false, (.sl TStream), [(257, 0)]⟩),
  (71, ⟨true, TSoft, [(0, 3), (3, 4), (7, 1), (8, 1), (9, 1)]⟩),
  (74, ⟨true, (.sl .str), [(0, 1)]⟩),
  (75, ⟨false, (.sl TMapping), [(246, 0)]⟩),
  (77, ⟨true, TClock, [(0, 1), (1, 1), (2, 1), (3, 1)]⟩),
  (79, ⟨true, TPool, [(0, 1), (1, 1), (2, 1), (3, 1)]⟩),
  (80, ⟨false, (.sl TSent), [(248, 0)]⟩),
  (82, ⟨true, TTxQueue, [(0, 4), (4, 4), (8, 1), (9, 1)]⟩),
  (83, ⟨false, (.sl TRxQueue), [(213, 0)]⟩),
  (84, ⟨false, (.sl TPool), [(79, 0)]⟩),
  (85, ⟨false, (.sl TVector), [(217, 0)]⟩),
  (86, ⟨false, (.sl .bool), [(4, 0)]⟩),
  (88, ⟨true, TFlow, [(0, 1), (1, 1), (2, 1), (3, 1), (4, 1)]⟩),
  (90, ⟨true, THost, [(0, 1), (1, 1), (2, 10), (12, 1), (13, 1), (14, 1), (15, 1), (16, 3), (19, 4), (23, 1), (24, 1), (25, 1), (26, 1), (27, 1), (28, 5)]⟩),
  (92, ⟨true, TMailbox, [(0, 3), (3, 1), (4, 1), (5, 1)]⟩),
  (119, ⟨true, (.sl .str), [(0, 1)]⟩),
  (120, ⟨false, (.sl TMapping), [(288, 0)]⟩),
  (121, ⟨true, TClock, [(0, 1), (1, 1), (2, 1), (3, 1)]⟩),
  (122, ⟨true, TPool, [(0, 1), (1, 1), (2, 1), (3, 1)]⟩),
  (123, ⟨false, (.sl TSent), [(314, 0)]⟩),
  (125, ⟨true, TTxQueue, [(0, 4), (4, 4), (8, 1), (9, 1)]⟩),
  (126, ⟨false, (.sl TRxQueue), [(268, 0)]⟩),
  (127, ⟨false, (.sl TPool), [(122, 0)]⟩),
  (128, ⟨false, (.sl TVector), [(294, 0)]⟩),
  (129, ⟨true, TFilter, [(0, 1), (1, 1), (2, 1)]⟩),
  (130, ⟨false, (.sl TRule), [(329, 0)]⟩),
  (131, ⟨false, (.sl TSlot), [(344, 0)]⟩),
  (133, ⟨true, (.sl TSlot), [(0, 1)]⟩),
  (134, ⟨true, TSpread, [(0, 1), (1, 1)]⟩),
  (136, ⟨true, TSteering, [(0, 1), (1, 1), (2, 2)]⟩),
  (137, ⟨false, (.sl TStream), [(275, 0)]⟩),
  (138, ⟨true, TFlow, [(0, 1), (1, 1), (2, 1), (3, 1), (4, 1)]⟩),
  (140, ⟨true, THost, [(0, 1), (1, 1), (2, 10), (12, 1), (13, 1), (14, 1), (15, 1), (16, 3), (19, 4), (23, 1), (24, 1), (25, 1), (26, 1), (27, 1), (28, 5)]⟩),
  (143, ⟨true, TMailbox, [(0, 3), (3, 1), (4, 1), (5, 1)]⟩),
  (144, ⟨false, (.sl TPort), [(191, 0)]⟩),
  (153, ⟨true, TBucket, [(0, 1), (1, 1), (2, 1)]⟩),
  (155, ⟨true, TVirtualFunction, [(0, 1), (1, 1), (2, 3), (5, 1), (6, 1), (7, 1)]⟩),
  (160, ⟨true, TBucket, [(0, 1), (1, 1), (2, 1)]⟩),
  (162, ⟨true, TVirtualFunction, [(0, 1), (1, 1), (2, 3), (5, 1), (6, 1), (7, 1)]⟩),
  (191, ⟨true, TPort, [(0, 1), (1, 1), (2, 1), (3, 1)]⟩),
  (205, ⟨true, TBucket, [(0, 1), (1, 1), (2, 1)]⟩),
  (207, ⟨true, TSegment, [(0, 1), (1, 1), (2, 1), (3, 1), (4, 1), (5, 1), (6, 1), (7, 1)]⟩),
  (209, ⟨true, TPacket, [(0, 1), (1, 1), (2, 1), (3, 1), (4, 1), (5, 1), (6, 1), (7, 1), (8, 8)]⟩),
  (211, ⟨true, TSuper, [(0, 16), (16, 1), (17, 1)]⟩),
  (213, ⟨true, TRxQueue, [(0, 4), (4, 3), (7, 3), (10, 18), (28, 1), (29, 1)]⟩),
  (217, ⟨true, TVector, [(0, 1), (1, 1), (2, 1), (3, 1), (4, 1), (5, 1)]⟩),
  (246, ⟨true, TMapping, [(0, 1), (1, 1), (2, 1), (3, 1)]⟩),
  (248, ⟨true, TSent, [(0, 1), (1, 1), (2, 1)]⟩),
  (250, ⟨true, TRule, [(0, 1), (1, 1), (2, 1), (3, 1), (4, 1), (5, 1), (6, 1), (7, 1), (8, 1)]⟩),
  (252, ⟨true, TFlow, [(0, 1), (1, 1), (2, 1), (3, 1), (4, 1)]⟩),
  (254, ⟨true, TSlot, [(0, 1), (1, 5), (6, 1)]⟩),
  (255, ⟨false, (.sl (.int .u8)), [(5, 0)]⟩),
  (257, ⟨true, TStream, [(0, 5), (5, 1), (6, 1), (7, 1)]⟩),
  (261, ⟨true, TBucket, [(0, 1), (1, 1), (2, 1)]⟩),
  (262, ⟨true, TSegment, [(0, 1), (1, 1), (2, 1), (3, 1), (4, 1), (5, 1), (6, 1), (7, 1)]⟩),
  (264, ⟨true, TPacket, [(0, 1), (1, 1), (2, 1), (3, 1), (4, 1), (5, 1), (6, 1), (7, 1), (8, 8)]⟩),
  (266, ⟨true, TSuper, [(0, 16), (16, 1), (17, 1)]⟩),
  (268, ⟨true, TRxQueue, [(0, 4), (4, 3), (7, 3), (10, 18), (28, 1), (29, 1)]⟩),
  (273, ⟨true, TFlow, [(0, 1), (1, 1), (2, 1), (3, 1), (4, 1)]⟩),
  (275, ⟨true, TStream, [(0, 5), (5, 1), (6, 1), (7, 1)]⟩),
  (288, ⟨true, TMapping, [(0, 1), (1, 1), (2, 1), (3, 1)]⟩),
  (294, ⟨true, TVector, [(0, 1), (1, 1), (2, 1), (3, 1), (4, 1), (5, 1)]⟩),
  (314, ⟨true, TSent, [(0, 1), (1, 1), (2, 1)]⟩),
  (329, ⟨true, TRule, [(0, 1), (1, 1), (2, 1), (3, 1), (4, 1), (5, 1), (6, 1), (7, 1), (8, 1)]⟩),
  (344, ⟨true, TSlot, [(0, 1), (1, 5), (6, 1)]⟩),
  (346, ⟨false, (.int .u32), []⟩)], eqs := [(211, [.int, .int, .int, .int, .int, .int, .int, .int, .int, .int, .int, .int, .int, .int, .int, .str, .int, .int]), (252, [.int, .int, .int, .int, .int])], fts := [] }
theorem base : Sound Tryz.prog E Gam.nil := Sound.nil (lookE_ok (by kernel_rfl)) (lookQ_ok (by kernel_rfl)) (lookF_ok (by kernel_rfl)) (by kernel_rfl)
def e17 : GEnt := entOf [.data false (.sl (.int .i64)), .data false (.int .i64)] [(false, (.int .i64))] fun a => Pu.laws_szIntS a.1 a.2.1
theorem o17 : FnOk Tryz.prog 17 e17 := fk {} (base) Tryz.func17 (Λ := Lam.nil) nF
def e18 : GEnt := entOf [.data false (.sl .str), .data false (.int .i64)] [(false, (.int .i64))] fun a => Pu.laws_szStringS a.1 a.2.1
def g18 : Gam := Gam.nil
def n18 : An := { mask := fun | 5 => [0, 1, 4, 5] | _ => [] }
@[reducible] def d18_5 : SD := ⟨[.data false (.sl .arg .str),DI,B,B,DI,DI,B,B,B,B,B,B,B,B,B,B,B,B,B,B,B,B,B,B,B,B,B,B], [Z,Z,Z,Z,Z,Z,Z,Z,Z,Z,Z,Z,Z,Z,Z,Z,Z,Z,Z,Z,Z,Z,Z,Z,Z,Z,Z,Z], .none⟩
def t18_5 {R : Type} (X : SD.D d18_5) (K : Ex → AS → Option R) := Pu.laws_szStringS_T5 (fun y0 y1 => K (.exit 0) (SD.enc d18_5 ((X.1.1, (y0, (X.1.2.2.1, (y1, ())))), (), ()))) (fun y0 y1 y2 => K .ret (SD.enc d18_5 ((X.1.1, (y0, (y1, (y2, ())))), (), ()))) X.1.1 X.1.2.2.1
def l18_5 : LEnt := ⟨d18_5, fun X K => iterL (t18_5 X K) fuel (X.1.2.1, X.1.2.2.2.1)⟩
def L18 : Lam := (Lam.nil).add 5 l18_5
theorem k18_5 : LOk E g18 n18 L18 (loopBody Tryz.f18 0) :=
  lok l18_5 (by kernel_rfl) fuel fun R X K => (loop_iter (σ := Int × Int) (fun x => SD.enc d18_5 ((X.1.1, (x.1, (X.1.2.2.1, (x.2, ())))), (), ())) (t18_5 X K) (fun m x => by kernel_rfl) fuel (X.1.2.1, X.1.2.2.2.1)).symm
theorem o18 : FnOk Tryz.prog 18 e18 := fk n18 (base) Tryz.func18 (Λ := L18) (cF k18_5 nF)
def e96 : GEnt := entOf [.data true (.sl .str), .data false (.int .i64)] [(false, (.int .i64))] fun a => Pu.laws_szMemory a.1 a.2.1
theorem o96 : FnOk Tryz.prog 96 e96 := fk {} ((base).add o18) Tryz.func96 (Λ := Lam.nil) nF
def e97 : GEnt := entOf [.data false (.sl TMapping), .data false (.int .i64)] [(false, (.int .i64))] fun a => Pu.laws_szMappingS a.1 a.2.1
theorem o97 : FnOk Tryz.prog 97 e97 := fk {} (base) Tryz.func97 (Λ := Lam.nil) nF
def e167 : GEnt := entOf [.data true TPool, .data false (.int .i64)] [(false, (.int .i64))] fun a => Pu.laws_szPool a.1 a.2.1
theorem o167 : FnOk Tryz.prog 167 e167 := fk {} ((base).add o17) Tryz.func167 (Λ := Lam.nil) nF
def e221 : GEnt := entOf [.data true TSent, .data false (.int .i64)] [(false, (.int .i64))] fun a => Pu.laws_szSent a.1 a.2.1
theorem o221 : FnOk Tryz.prog 221 e221 := fk {} ((base).add o17) Tryz.func221 (Λ := Lam.nil) nF
def e168 : GEnt := entOf [.data false (.sl TSent), .data false (.int .i64)] [(false, (.int .i64))] fun a => Pu.laws_szSentS a.1 a.2.1
def g168 : Gam := (Gam.nil).add 221 e221
def n168 : An := { mask := fun | 5 => [0, 1, 4, 5] | _ => [] }
@[reducible] def d168_5 : SD := ⟨[.data false (.sl .arg TSent),DI,B,B,DI,DI,B,B,B,B,B,B,B,B,B,B,B,B,B,B,B,B,B,B,B,B,B], [Z,Z,Z,Z,Z,Z,Z,Z,Z,Z,Z,Z,Z,Z,Z,Z,Z,Z,Z,Z,Z,Z,Z,Z,Z,Z,Z], .none⟩
def t168_5 {R : Type} (X : SD.D d168_5) (K : Ex → AS → Option R) := Pu.laws_szSentS_T5 (fun y0 y1 => K (.exit 0) (SD.enc d168_5 ((X.1.1, (y0, (X.1.2.2.1, (y1, ())))), (), ()))) (fun y0 y1 y2 => K .ret (SD.enc d168_5 ((X.1.1, (y0, (y1, (y2, ())))), (), ()))) X.1.1 X.1.2.2.1
def l168_5 : LEnt := ⟨d168_5, fun X K => iterL (t168_5 X K) fuel (X.1.2.1, X.1.2.2.2.1)⟩
def L168 : Lam := (Lam.nil).add 5 l168_5
theorem k168_5 : LOk E g168 n168 L168 (loopBody Tryz.f168 0) :=
  lok l168_5 (by kernel_rfl) fuel fun R X K => (loop_iter (σ := Int × Int) (fun x => SD.enc d168_5 ((X.1.1, (x.1, (X.1.2.2.1, (x.2, ())))), (), ())) (t168_5 X K) (fun m x => by kernel_rfl) fuel (X.1.2.1, X.1.2.2.2.1)).symm
theorem o168 : FnOk Tryz.prog 168 e168 := fk n168 ((base).add o221) Tryz.func168 (Λ := L168) (cF k168_5 nF)
def e98 : GEnt := entOf [.data true TTxQueue, .data false (.int .i64)] [(false, (.int .i64))] fun a => Pu.laws_szTxQueue a.1 a.2.1
theorem o98 : FnOk Tryz.prog 98 e98 := fk {} (((base).add o167).add o168) Tryz.func98 (Λ := Lam.nil) nF
def e266 : GEnt := entOf [.data true TSegment, .data false (.int .i64)] [(false, (.int .i64))] fun a => Pu.laws_szSegment a.1 a.2.1
theorem o266 : FnOk Tryz.prog 266 e266 := fk {} (base) Tryz.func266 (Λ := Lam.nil) nF
def e258 : GEnt := entOf [.data true TPacket, .data false (.int .i64)] [(false, (.int .i64))] fun a => Pu.laws_szPacket a.1 a.2.1
theorem o258 : FnOk Tryz.prog 258 e258 := fk {} ((base).add o266) Tryz.func258 (Λ := Lam.nil) nF
def e222 : GEnt := entOf [.data true TSuper, .data false (.int .i64)] [(false, (.int .i64))] fun a => Pu.laws_szSuper a.1 a.2.1
theorem o222 : FnOk Tryz.prog 222 e222 := fk {} ((base).add o258) Tryz.func222 (Λ := Lam.nil) nF
def e169 : GEnt := entOf [.data true TRxQueue, .data false (.int .i64)] [(false, (.int .i64))] fun a => Pu.laws_szRxQueue a.1 a.2.1
theorem o169 : FnOk Tryz.prog 169 e169 := fk {} ((base).add o222) Tryz.func169 (Λ := Lam.nil) nF
def e99 : GEnt := entOf [.data false (.sl TRxQueue), .data false (.int .i64)] [(false, (.int .i64))] fun a => Pu.laws_szRxQueueS a.1 a.2.1
def g99 : Gam := (Gam.nil).add 169 e169
def n99 : An := { mask := fun | 5 => [0, 1, 4, 5] | _ => [] }
@[reducible] def d99_5 : SD := ⟨[.data false (.sl .arg TRxQueue),DI,B,B,DI,DI,B,B,B,B,B,B,B,B,B,B,B,B,B,B,B,B,B,B,B,B,B], [Z,Z,Z,Z,Z,Z,Z,Z,Z,Z,Z,Z,Z,Z,Z,Z,Z,Z,Z,Z,Z,Z,Z,Z,Z,Z,Z], .none⟩
def t99_5 {R : Type} (X : SD.D d99_5) (K : Ex → AS → Option R) := Pu.laws_szRxQueueS_T5 (fun y0 y1 => K (.exit 0) (SD.enc d99_5 ((X.1.1, (y0, (X.1.2.2.1, (y1, ())))), (), ()))) (fun y0 y1 y2 => K .ret (SD.enc d99_5 ((X.1.1, (y0, (y1, (y2, ())))), (), ()))) X.1.1 X.1.2.2.1
def l99_5 : LEnt := ⟨d99_5, fun X K => iterL (t99_5 X K) fuel (X.1.2.1, X.1.2.2.2.1)⟩
def L99 : Lam := (Lam.nil).add 5 l99_5
theorem k99_5 : LOk E g99 n99 L99 (loopBody Tryz.f99 0) :=
  lok l99_5 (by kernel_rfl) fuel fun R X K => (loop_iter (σ := Int × Int) (fun x => SD.enc d99_5 ((X.1.1, (x.1, (X.1.2.2.1, (x.2, ())))), (), ())) (t99_5 X K) (fun m x => by kernel_rfl) fuel (X.1.2.1, X.1.2.2.2.1)).symm
theorem o99 : FnOk Tryz.prog 99 e99 := fk n99 ((base).add o169) Tryz.func99 (Λ := L99) (cF k99_5 nF)
def e100 : GEnt := entOf [.data false (.sl TPool), .data false (.int .i64)] [(false, (.int .i64))] fun a => Pu.laws_szPoolS a.1 a.2.1
def g100 : Gam := (Gam.nil).add 167 e167
def n100 : An := { mask := fun | 5 => [0, 1, 4, 5] | _ => [] }
@[reducible] def d100_5 : SD := ⟨[.data false (.sl .arg TPool),DI,B,B,DI,DI,B,B,B,B,B,B,B,B,B,B,B,B,B,B,B,B,B,B,B,B,B], [Z,Z,Z,Z,Z,Z,Z,Z,Z,Z,Z,Z,Z,Z,Z,Z,Z,Z,Z,Z,Z,Z,Z,Z,Z,Z,Z], .none⟩
def t100_5 {R : Type} (X : SD.D d100_5) (K : Ex → AS → Option R) := Pu.laws_szPoolS_T5 (fun y0 y1 => K (.exit 0) (SD.enc d100_5 ((X.1.1, (y0, (X.1.2.2.1, (y1, ())))), (), ()))) (fun y0 y1 y2 => K .ret (SD.enc d100_5 ((X.1.1, (y0, (y1, (y2, ())))), (), ()))) X.1.1 X.1.2.2.1
def l100_5 : LEnt := ⟨d100_5, fun X K => iterL (t100_5 X K) fuel (X.1.2.1, X.1.2.2.2.1)⟩
def L100 : Lam := (Lam.nil).add 5 l100_5
theorem k100_5 : LOk E g100 n100 L100 (loopBody Tryz.f100 0) :=
  lok l100_5 (by kernel_rfl) fuel fun R X K => (loop_iter (σ := Int × Int) (fun x => SD.enc d100_5 ((X.1.1, (x.1, (X.1.2.2.1, (x.2, ())))), (), ())) (t100_5 X K) (fun m x => by kernel_rfl) fuel (X.1.2.1, X.1.2.2.2.1)).symm
theorem o100 : FnOk Tryz.prog 100 e100 := fk n100 ((base).add o167) Tryz.func100 (Λ := L100) (cF k100_5 nF)
def e101 : GEnt := entOf [.data false (.sl TVector), .data false (.int .i64)] [(false, (.int .i64))] fun a => Pu.laws_szVectorS a.1 a.2.1
theorem o101 : FnOk Tryz.prog 101 e101 := fk {} (base) Tryz.func101 (Λ := Lam.nil) nF
def e102 : GEnt := entOf [.data false (.sl .bool), .data false (.int .i64)] [(false, (.int .i64))] fun a => Pu.laws_szBoolS a.1 a.2.1
theorem o102 : FnOk Tryz.prog 102 e102 := fk {} (base) Tryz.func102 (Λ := Lam.nil) nF
def e103 : GEnt := entOf [.data true TFilter, .data false (.int .i64)] [(false, (.int .i64))] fun a => Pu.laws_szFilter a.1 a.2.1
theorem o103 : FnOk Tryz.prog 103 e103 := fk {} ((base).add o17) Tryz.func103 (Λ := Lam.nil) nF
def e170 : GEnt := entOf [.data false (.sl TRule), .data false (.int .i64)] [(false, (.int .i64))] fun a => Pu.laws_szRuleS a.1 a.2.1
theorem o170 : FnOk Tryz.prog 170 e170 := fk {} (base) Tryz.func170 (Λ := Lam.nil) nF
def e223 : GEnt := entOf [.data false (.sl TSlot), .data false (.int .i64)] [(false, (.int .i64))] fun a => Pu.laws_szSlotS a.1 a.2.1
theorem o223 : FnOk Tryz.prog 223 e223 := fk {} (base) Tryz.func223 (Λ := Lam.nil) nF
def e171 : GEnt := entOf [.data true (.sl TSlot), .data false (.int .i64)] [(false, (.int .i64))] fun a => Pu.laws_szFlowTable a.1 a.2.1
theorem o171 : FnOk Tryz.prog 171 e171 := fk {} ((base).add o223) Tryz.func171 (Λ := Lam.nil) nF
def e172 : GEnt := entOf [.data true TSpread, .data false (.int .i64)] [(false, (.int .i64))] fun a => Pu.laws_szSpread a.1 a.2.1
theorem o172 : FnOk Tryz.prog 172 e172 := fk {} ((base).add o17) Tryz.func172 (Λ := Lam.nil) nF
def e104 : GEnt := entOf [.data true TSteering, .data false (.int .i64)] [(false, (.int .i64))] fun a => Pu.laws_szSteering a.1 a.2.1
theorem o104 : FnOk Tryz.prog 104 e104 := fk {} ((((base).add o170).add o171).add o172) Tryz.func104 (Λ := Lam.nil) nF
def e173 : GEnt := entOf [.data true TStream, .data false (.int .i64)] [(false, (.int .i64))] fun a => Pu.laws_szStream a.1 a.2.1
theorem o173 : FnOk Tryz.prog 173 e173 := fk {} (base) Tryz.func173 (Λ := Lam.nil) nF
def e105 : GEnt := entOf [.data false (.sl TStream), .data false (.int .i64)] [(false, (.int .i64))] fun a => Pu.laws_szStreamS a.1 a.2.1
def g105 : Gam := (Gam.nil).add 173 e173
def n105 : An := { mask := fun | 5 => [0, 1, 4, 5] | _ => [] }
@[reducible] def d105_5 : SD := ⟨[.data false (.sl .arg TStream),DI,B,B,DI,DI,B,B,B,B,B,B,B,B,B,B,B,B,B,B,B,B,B,B,B,B,B], [Z,Z,Z,Z,Z,Z,Z,Z,Z,Z,Z,Z,Z,Z,Z,Z,Z,Z,Z,Z,Z,Z,Z,Z,Z,Z,Z], .none⟩
def t105_5 {R : Type} (X : SD.D d105_5) (K : Ex → AS → Option R) := Pu.laws_szStreamS_T5 (fun y0 y1 => K (.exit 0) (SD.enc d105_5 ((X.1.1, (y0, (X.1.2.2.1, (y1, ())))), (), ()))) (fun y0 y1 y2 => K .ret (SD.enc d105_5 ((X.1.1, (y0, (y1, (y2, ())))), (), ()))) X.1.1 X.1.2.2.1
def l105_5 : LEnt := ⟨d105_5, fun X K => iterL (t105_5 X K) fuel (X.1.2.1, X.1.2.2.2.1)⟩
def L105 : Lam := (Lam.nil).add 5 l105_5
theorem k105_5 : LOk E g105 n105 L105 (loopBody Tryz.f105 0) :=
  lok l105_5 (by kernel_rfl) fuel fun R X K => (loop_iter (σ := Int × Int) (fun x => SD.enc d105_5 ((X.1.1, (x.1, (X.1.2.2.1, (x.2, ())))), (), ())) (t105_5 X K) (fun m x => by kernel_rfl) fuel (X.1.2.1, X.1.2.2.2.1)).symm
theorem o105 : FnOk Tryz.prog 105 e105 := fk n105 ((base).add o173) Tryz.func105 (Λ := L105) (cF k105_5 nF)
def e56 : GEnt := entOf [.data true THost, .data false (.int .i64)] [(false, (.int .i64))] fun a => Pu.laws_szHost a.1 a.2.1
theorem o56 : FnOk Tryz.prog 56 e56 := fk {} (((((((((((((base).add o17).add o18).add o96).add o97).add o98).add o99).add o100).add o101).add o102).add o103).add o104).add o105) Tryz.func56 (Λ := Lam.nil) nF
def e13 : GEnt := entOf [.data false (.sl THost), .data false (.int .i64)] [(false, (.int .i64))] fun a => Pu.laws_szHostS a.1 a.2.1
def g13 : Gam := (Gam.nil).add 56 e56
def n13 : An := { mask := fun | 5 => [0, 1, 4, 5] | _ => [] }
@[reducible] def d13_5 : SD := ⟨[.data false (.sl .arg THost),DI,B,B,DI,DI,B,B,B,B,B,B,B,B,B,B,B,B,B,B,B,B,B,B,B,B,B], [Z,Z,Z,Z,Z,Z,Z,Z,Z,Z,Z,Z,Z,Z,Z,Z,Z,Z,Z,Z,Z,Z,Z,Z,Z,Z,Z], .none⟩
def t13_5 {R : Type} (X : SD.D d13_5) (K : Ex → AS → Option R) := Pu.laws_szHostS_T5 (fun y0 y1 => K (.exit 0) (SD.enc d13_5 ((X.1.1, (y0, (X.1.2.2.1, (y1, ())))), (), ()))) (fun y0 y1 y2 => K .ret (SD.enc d13_5 ((X.1.1, (y0, (y1, (y2, ())))), (), ()))) X.1.1 X.1.2.2.1
def l13_5 : LEnt := ⟨d13_5, fun X K => iterL (t13_5 X K) fuel (X.1.2.1, X.1.2.2.2.1)⟩
def L13 : Lam := (Lam.nil).add 5 l13_5
theorem k13_5 : LOk E g13 n13 L13 (loopBody Tryz.f13 0) :=
  lok l13_5 (by kernel_rfl) fuel fun R X K => (loop_iter (σ := Int × Int) (fun x => SD.enc d13_5 ((X.1.1, (x.1, (X.1.2.2.1, (x.2, ())))), (), ())) (t13_5 X K) (fun m x => by kernel_rfl) fuel (X.1.2.1, X.1.2.2.2.1)).symm
theorem o13 : FnOk Tryz.prog 13 e13 := fk n13 ((base).add o56) Tryz.func13 (Λ := L13) (cF k13_5 nF)
def e14 : GEnt := entOf [.data false (.sl TVirtualFunction), .data false (.int .i64)] [(false, (.int .i64))] fun a => Pu.laws_szVirtualFunctionS a.1 a.2.1
theorem o14 : FnOk Tryz.prog 14 e14 := fk {} (base) Tryz.func14 (Λ := Lam.nil) nF
def e57 : GEnt := entOf [.data true TMailbox, .data false (.int .i64)] [(false, (.int .i64))] fun a => Pu.laws_szMailbox a.1 a.2.1
theorem o57 : FnOk Tryz.prog 57 e57 := fk {} ((base).add o103) Tryz.func57 (Λ := Lam.nil) nF
def e15 : GEnt := entOf [.data false (.sl TMailbox), .data false (.int .i64)] [(false, (.int .i64))] fun a => Pu.laws_szMailboxS a.1 a.2.1
def g15 : Gam := (Gam.nil).add 57 e57
def n15 : An := { mask := fun | 5 => [0, 1, 4, 5] | _ => [] }
@[reducible] def d15_5 : SD := ⟨[.data false (.sl .arg TMailbox),DI,B,B,DI,DI,B,B,B,B,B,B,B,B,B,B,B,B,B,B,B,B,B,B,B,B,B], [Z,Z,Z,Z,Z,Z,Z,Z,Z,Z,Z,Z,Z,Z,Z,Z,Z,Z,Z,Z,Z,Z,Z,Z,Z,Z,Z], .none⟩
def t15_5 {R : Type} (X : SD.D d15_5) (K : Ex → AS → Option R) := Pu.laws_szMailboxS_T5 (fun y0 y1 => K (.exit 0) (SD.enc d15_5 ((X.1.1, (y0, (X.1.2.2.1, (y1, ())))), (), ()))) (fun y0 y1 y2 => K .ret (SD.enc d15_5 ((X.1.1, (y0, (y1, (y2, ())))), (), ()))) X.1.1 X.1.2.2.1
def l15_5 : LEnt := ⟨d15_5, fun X K => iterL (t15_5 X K) fuel (X.1.2.1, X.1.2.2.2.1)⟩
def L15 : Lam := (Lam.nil).add 5 l15_5
theorem k15_5 : LOk E g15 n15 L15 (loopBody Tryz.f15 0) :=
  lok l15_5 (by kernel_rfl) fuel fun R X K => (loop_iter (σ := Int × Int) (fun x => SD.enc d15_5 ((X.1.1, (x.1, (X.1.2.2.1, (x.2, ())))), (), ())) (t15_5 X K) (fun m x => by kernel_rfl) fuel (X.1.2.1, X.1.2.2.2.1)).symm
theorem o15 : FnOk Tryz.prog 15 e15 := fk n15 ((base).add o57) Tryz.func15 (Λ := L15) (cF k15_5 nF)
def e16 : GEnt := entOf [.data true (.sl .str), .data false (.int .i64)] [(false, (.int .i64))] fun a => Pu.laws_szFlash a.1 a.2.1
theorem o16 : FnOk Tryz.prog 16 e16 := fk {} ((base).add o18) Tryz.func16 (Λ := Lam.nil) nF
def e4 : GEnt := entOf [.data true TCard, .data false (.int .i64)] [(false, (.int .i64))] fun a => Pu.laws_szCard a.1 a.2.1
theorem o4 : FnOk Tryz.prog 4 e4 := fk {} (((((((base).add o13).add o14).add o15).add o16).add o17).add o18) Tryz.func4 (Λ := Lam.nil) nF
def e106 : GEnt := entOf [.data false (.int .i64), .data false (.int .i64), .data false (.int .i64)] [(false, .bool)] fun a => Pu.spec_l01In a.1 a.2.1 a.2.2.1
theorem o106 : FnOk Tryz.prog 106 e106 := fk { merge := fun | 1 => some 6 | _ => none } (base) Tryz.func106 (Λ := Lam.nil) nF
def e116 : GEnt := entOf [.data true TFilter] [(false, .bool)] fun a => Pu.spec_FilterOk a.1
def g116 : Gam := (Gam.nil).add 106 e106
def n116 : An := { mask := fun | 2 => [1, 2, 3] | _ => [], merge := fun | 4 => some 35 | 6 => some 2 | _ => none }
@[reducible] def d116_2 : SD := ⟨[B,.ptr 1 0,DB,DI,B,B,B,B,B,B,B,B,B,B,B,B,B,B,B,B,B,B,B,B,B,B,B,B,B,B,B,B,B,B,B,B,B,B,B,B,B,B,B,B,B], [Z,some (.pair (.int .i64) (.pair .bool (.sl .arg (.int .i64)))),Z,Z,Z,Z,Z,Z,Z,Z,Z,Z,Z,Z,Z,Z,Z,Z,Z,Z,Z,Z,Z,Z,Z,Z,Z,Z,Z,Z,Z,Z,Z,Z,Z,Z,Z,Z,Z,Z,Z,Z,Z,Z,Z], .none⟩
def t116_2 {R : Type} (X : SD.D d116_2) (K : Ex → AS → Option R) := Pu.spec_FilterOk_T2 (fun y0 => K (.exit 0) (SD.enc d116_2 ((X.1.1, (y0, ())), (X.2.1.1, ()), ()))) (fun y0 y1 => K .ret (SD.enc d116_2 ((y0, (y1, ())), (X.2.1.1, ()), ()))) X.1.1 X.2.1.1
def l116_2 : LEnt := ⟨d116_2, fun X K => iterL (t116_2 X K) fuel X.1.2.1⟩
def L116 : Lam := (Lam.nil).add 2 l116_2
theorem k116_2 : LOk E g116 n116 L116 (loopBody Tryz.f116 0) :=
  lok l116_2 (by kernel_rfl) fuel fun R X K => (loop_iter (σ := Int) (fun x => SD.enc d116_2 ((X.1.1, (x, ())), (X.2.1.1, ()), ())) (t116_2 X K) (fun m x => by kernel_rfl) fuel X.1.2.1).symm
theorem o116 : FnOk Tryz.prog 116 e116 := fk n116 ((base).add o106) Tryz.func116 (Λ := L116) (cF k116_2 nF)
def e107 : GEnt := entOf [.data true TMailbox] [(false, .bool)] fun a => Pu.spec_MailboxOk a.1
theorem o107 : FnOk Tryz.prog 107 e107 := fk { merge := fun | 1 => some 2 | _ => none } (((base).add o106).add o116) Tryz.func107 (Λ := Lam.nil) nF
def e174 : GEnt := entOf [.data false (.sl (.int .i64)), .data false (.int .i64)] [(false, .bool)] fun a => Pu.spec_l24Has a.1 a.2.1
def g174 : Gam := Gam.nil
def n174 : An := { mask := fun | 2 => [0, 1, 4, 5] | _ => [] }
@[reducible] def d174_2 : SD := ⟨[.data false (.sl .arg (.int .i64)),DI,B,B,DB,DI,B,B,B,B,B,B,B,B,B,B,B,B], [Z,Z,Z,Z,Z,Z,Z,Z,Z,Z,Z,Z,Z,Z,Z,Z,Z,Z], .none⟩
def t174_2 {R : Type} (X : SD.D d174_2) (K : Ex → AS → Option R) := Pu.spec_l24Has_T2 (fun y0 => K (.exit 0) (SD.enc d174_2 ((X.1.1, (X.1.2.1, (X.1.2.2.1, (y0, ())))), (), ()))) (fun y0 y1 => K .ret (SD.enc d174_2 ((X.1.1, (X.1.2.1, (y0, (y1, ())))), (), ()))) X.1.1 X.1.2.1 X.1.2.2.1
def l174_2 : LEnt := ⟨d174_2, fun X K => iterL (t174_2 X K) fuel X.1.2.2.2.1⟩
def L174 : Lam := (Lam.nil).add 2 l174_2
theorem k174_2 : LOk E g174 n174 L174 (loopBody Tryz.f174 0) :=
  lok l174_2 (by kernel_rfl) fuel fun R X K => (loop_iter (σ := Int) (fun x => SD.enc d174_2 ((X.1.1, (X.1.2.1, (X.1.2.2.1, (x, ())))), (), ())) (t174_2 X K) (fun m x => by kernel_rfl) fuel X.1.2.2.2.1).symm
theorem o174 : FnOk Tryz.prog 174 e174 := fk n174 (base) Tryz.func174 (Λ := L174) (cF k174_2 nF)
def e108 : GEnt := entOf [.data false (.sl (.int .i64)), .data false (.sl (.int .i64))] [(false, (.sl (.own none) (.int .i64)))] fun a => Pu.spec_l42Union a.1 a.2.1
def g108 : Gam := (Gam.nil).add 174 e174
def n108 : An := { mask := fun | 3 => [1, 5, 6] | 7 => [1, 5, 6, 7] | _ => [], merge := fun | 7 => some 37 | _ => none, mv := [55] }
@[reducible] def d108_7 : SD := ⟨[B,.data false (.sl .arg (.int .i64)),B,B,B,.data false (.sl (.own (some 61440)) (.int .i64)),DI,DI,B,B,B,B,B,B,B,B,B,B,B,B,B,B,B,B,B,B,B,B,B,B,B,B,B,B,B,B,B,B,B,B,B,B,B,B,B,B,B,B,B,B,B,B,B,B,B,B], [Z,Z,Z,Z,Z,Z,Z,Z,Z,Z,Z,Z,Z,Z,Z,Z,Z,Z,Z,Z,Z,Z,Z,Z,Z,Z,Z,Z,Z,Z,Z,Z,Z,Z,Z,Z,Z,Z,Z,Z,Z,Z,Z,Z,Z,Z,Z,Z,Z,Z,Z,Z,Z,Z,Z,Z], .none⟩
def t108_7 {R : Type} (X : SD.D d108_7) (K : Ex → AS → Option R) := Pu.spec_l42Union_T7 (fun y0 => K (.exit 2) (SD.enc d108_7 ((X.1.1, (X.1.2.1, (X.1.2.2.1, (y0, ())))), (), ()))) X.1.1 X.1.2.1 X.1.2.2.1
def l108_7 : LEnt := ⟨d108_7, fun X K => iterL (t108_7 X K) fuel X.1.2.2.2.1⟩
@[reducible] def d108_3 : SD := ⟨[B,.data false (.sl .arg (.int .i64)),B,B,B,.data false (.sl (.own (some 61440)) (.int .i64)),DI,B,B,B,B,B,B,B,B,B,B,B,B,B,B,B,B,B,B,B,B,B,B,B,B,B,B,B,B,B,B,B,B,B,B,B,B,B,B,B,B,B,B,B,B,B,B,B,B,B], [Z,Z,Z,Z,Z,Z,Z,Z,Z,Z,Z,Z,Z,Z,Z,Z,Z,Z,Z,Z,Z,Z,Z,Z,Z,Z,Z,Z,Z,Z,Z,Z,Z,Z,Z,Z,Z,Z,Z,Z,Z,Z,Z,Z,Z,Z,Z,Z,Z,Z,Z,Z,Z,Z,Z,Z], .none⟩
def t108_3 {R : Type} (X : SD.D d108_3) (K : Ex → AS → Option R) := Pu.spec_l42Union_T3 (fun y0 y1 => K (.exit 0) (SD.enc d108_3 ((X.1.1, (y0, (y1, ()))), (), ()))) X.1.1
def l108_3 : LEnt := ⟨d108_3, fun X K => iterL (t108_3 X K) fuel (X.1.2.1, X.1.2.2.1)⟩
def L108 : Lam := ((Lam.nil).add 7 l108_7).add 3 l108_3
theorem k108_7 : LOk E g108 n108 L108 (loopBody Tryz.f108 1) :=
  lok l108_7 (by kernel_rfl) fuel fun R X K => (loop_iter (σ := Int) (fun x => SD.enc d108_7 ((X.1.1, (X.1.2.1, (X.1.2.2.1, (x, ())))), (), ())) (t108_7 X K) (fun m x => by kernel_rfl) fuel X.1.2.2.2.1).symm
theorem k108_3 : LOk E g108 n108 L108 (loopBody Tryz.f108 0) :=
  lok l108_3 (by kernel_rfl) fuel fun R X K => (loop_iter (σ := (List Int) × Int) (fun x => SD.enc d108_3 ((X.1.1, (x.1, (x.2, ()))), (), ())) (t108_3 X K) (fun m x => by kernel_rfl) fuel (X.1.2.1, X.1.2.2.1)).symm
theorem o108 : FnOk Tryz.prog 108 e108 := fk n108 ((base).add o174) Tryz.func108 (Λ := L108) (cF k108_3 (cF k108_7 nF))
def e109 : GEnt := entOf [.data false (.sl TPort)] [(false, .bool)] fun a => Pu.spec_PortsOk a.1
def g109 : Gam := (((Gam.nil).add 106 e106).add 116 e116).add 174 e174
def n109 : An := { mask := fun | 4 => [0, 2, 3] | 9 => [0, 2, 3, 4] | _ => [] }
@[reducible] def d109_9 : SD := ⟨[.data false (.sl .arg TPort),B,DB,DI,DI,B,B,B,B,B,B,B,B,B,B,B,B,B,B,B,B,B,B,B,B,B,B,B,B,B,B,B,B,B,B,B,B,B,B,B,B,B,B,B,B,B,B,B,B,B,B,B,B,B,B,B,B,B], [Z,Z,Z,Z,Z,Z,Z,Z,Z,Z,Z,Z,Z,Z,Z,Z,Z,Z,Z,Z,Z,Z,Z,Z,Z,Z,Z,Z,Z,Z,Z,Z,Z,Z,Z,Z,Z,Z,Z,Z,Z,Z,Z,Z,Z,Z,Z,Z,Z,Z,Z,Z,Z,Z,Z,Z,Z,Z], .none⟩
def t109_9 {R : Type} (X : SD.D d109_9) (K : Ex → AS → Option R) := Pu.spec_PortsOk_T9 (fun y0 => K (.exit 2) (SD.enc d109_9 ((X.1.1, (X.1.2.1, (X.1.2.2.1, (y0, ())))), (), ()))) (fun y0 y1 => K .ret (SD.enc d109_9 ((X.1.1, (y0, (X.1.2.2.1, (y1, ())))), (), ()))) X.1.1 X.1.2.1 X.1.2.2.1
def l109_9 : LEnt := ⟨d109_9, fun X K => iterL (t109_9 X K) fuel X.1.2.2.2.1⟩
@[reducible] def d109_4 : SD := ⟨[.data false (.sl .arg TPort),B,DB,DI,B,B,B,B,B,B,B,B,B,B,B,B,B,B,B,B,B,B,B,B,B,B,B,B,B,B,B,B,B,B,B,B,B,B,B,B,B,B,B,B,B,B,B,B,B,B,B,B,B,B,B,B,B,B], [Z,Z,Z,Z,Z,Z,Z,Z,Z,Z,Z,Z,Z,Z,Z,Z,Z,Z,Z,Z,Z,Z,Z,Z,Z,Z,Z,Z,Z,Z,Z,Z,Z,Z,Z,Z,Z,Z,Z,Z,Z,Z,Z,Z,Z,Z,Z,Z,Z,Z,Z,Z,Z,Z,Z,Z,Z,Z], .none⟩
def t109_4 {R : Type} (X : SD.D d109_4) (K : Ex → AS → Option R) := Pu.spec_PortsOk_T4 (fun y0 => K (.exit 0) (SD.enc d109_4 ((X.1.1, (X.1.2.1, (y0, ()))), (), ()))) (fun y0 y1 => K .ret (SD.enc d109_4 ((X.1.1, (y0, (y1, ()))), (), ()))) X.1.1 X.1.2.1
def l109_4 : LEnt := ⟨d109_4, fun X K => iterL (t109_4 X K) fuel X.1.2.2.1⟩
def L109 : Lam := ((Lam.nil).add 9 l109_9).add 4 l109_4
theorem k109_9 : LOk E g109 n109 L109 (loopBody Tryz.f109 1) :=
  lok l109_9 (by kernel_rfl) fuel fun R X K => (loop_iter (σ := Int) (fun x => SD.enc d109_9 ((X.1.1, (X.1.2.1, (X.1.2.2.1, (x, ())))), (), ())) (t109_9 X K) (fun m x => by kernel_rfl) fuel X.1.2.2.2.1).symm
theorem k109_4 : LOk E g109 n109 L109 (loopBody Tryz.f109 0) :=
  lok l109_4 (by kernel_rfl) fuel fun R X K => (loop_iter (σ := Int) (fun x => SD.enc d109_4 ((X.1.1, (X.1.2.1, (x, ()))), (), ())) (t109_4 X K) (fun m x => by kernel_rfl) fuel X.1.2.2.1).symm
theorem o109 : FnOk Tryz.prog 109 e109 := fk n109 ((((base).add o106).add o116).add o174) Tryz.func109 (Λ := L109) (cF k109_4 (cF k109_9 nF))
def e58 : GEnt := entOf [.data false (.sl TMailbox)] [(false, (.sl (.own none) TPort)), (false, .bool)] fun a => Pu.spec_PortsOf a.1
def g58 : Gam := ((((Gam.nil).add 106 e106).add 107 e107).add 108 e108).add 109 e109
def n58 : An := { mask := fun | 5 => [0, 2, 3, 4, 5] | _ => [], mv := [41, 63] }
@[reducible] def d58_5 : SD := ⟨[.data false (.sl .arg TMailbox),B,.data false (.sl (.own (some 24576)) TPort),DB,.data false (.sl (.own (some 49152)) TPort),DI,B,B,B,B,B,B,B,B,B,B,B,B,B,B,B,B,B,B,B,B,B,B,B,B,B,B,B,B,B,B,B,B,B,B,B,B,B,B,B,B,B,B,B,B,B,B,B,B,B,B,B,B,B,B,B,B,B,B], [Z,Z,Z,Z,Z,Z,Z,Z,Z,Z,Z,Z,Z,Z,Z,Z,Z,Z,Z,Z,Z,Z,Z,Z,Z,Z,Z,Z,Z,Z,Z,Z,Z,Z,Z,Z,Z,Z,Z,Z,Z,Z,Z,Z,Z,Z,Z,Z,Z,Z,Z,Z,Z,Z,Z,Z,Z,Z,Z,Z,Z,Z,Z,Z], .none⟩
def t58_5 {R : Type} (X : SD.D d58_5) (K : Ex → AS → Option R) := Pu.spec_PortsOf_T5 (fun y0 y1 => K (.exit 0) (SD.enc d58_5 ((X.1.1, (X.1.2.1, (X.1.2.2.1, (y0, (y1, ()))))), (), ()))) (fun y0 y1 y2 y3 => K .ret (SD.enc d58_5 ((X.1.1, (y0, (y1, (y2, (y3, ()))))), (), ()))) X.1.1 X.1.2.1 X.1.2.2.1
def l58_5 : LEnt := ⟨d58_5, fun X K => iterL (t58_5 X K) fuel (X.1.2.2.2.1, X.1.2.2.2.2.1)⟩
def L58 : Lam := (Lam.nil).add 5 l58_5
theorem k58_5 : LOk E g58 n58 L58 (loopBody Tryz.f58 0) :=
  lok l58_5 (by kernel_rfl) fuel fun R X K => (loop_iter (σ := (List Pu.Port) × Int) (fun x => SD.enc d58_5 ((X.1.1, (X.1.2.1, (X.1.2.2.1, (x.1, (x.2, ()))))), (), ())) (t58_5 X K) (fun m x => by kernel_rfl) fuel (X.1.2.2.2.1, X.1.2.2.2.2.1)).symm
theorem o58 : FnOk Tryz.prog 58 e58 := fk n58 (((((base).add o106).add o107).add o108).add o109) Tryz.func58 (Λ := L58) (cF k58_5 nF)
def e110 : GEnt := entOf [.data true TBucket] [(false, .bool)] fun a => Pu.spec_BucketOk a.1
theorem o110 : FnOk Tryz.prog 110 e110 := fk { merge := fun | 1 => some 2 | _ => none } ((base).add o106) Tryz.func110 (Λ := Lam.nil) nF
def e59 : GEnt := entOf [.data false (.sl TVirtualFunction), .data false (.sl TPort)] [(false, .bool)] fun a => Pu.spec_FunctionsOk a.1 a.2.1
def g59 : Gam := (((Gam.nil).add 106 e106).add 109 e109).add 110 e110
def n59 : An := { mask := fun | 4 => [0, 1, 4, 5] | 10 => [0, 1, 4, 5, 6, 7] | _ => [], merge := fun | 7 => some 51 | 12 => some 74 | _ => none }
@[reducible] def d59_10 : SD := ⟨[.data false (.sl .arg TVirtualFunction),.data false (.sl .arg TPort),B,B,DB,DI,.ptr 6 0,DI,B,B,B,B,B,B,B,B,B,B,B,B,B,B,B,B,B,B,B,B,B,B,B,B,B,B,B,B,B,B,B,B,B,B,B,B,B,B,B,B,B,B,B,B,B,B,B,B,B,B,B,B,B,B,B,B,B,B,B,B,B,B,B,B,B,B,B], [Z,Z,Z,Z,Z,Z,some (.pair (.int .i64) (.pair (.int .i64) (.pair (.pair (.int .i64) (.pair (.int .i64) (.int .i64))) (.pair .bool (.pair (.int .i64) (.int .i64)))))),Z,Z,Z,Z,Z,Z,Z,Z,Z,Z,Z,Z,Z,Z,Z,Z,Z,Z,Z,Z,Z,Z,Z,Z,Z,Z,Z,Z,Z,Z,Z,Z,Z,Z,Z,Z,Z,Z,Z,Z,Z,Z,Z,Z,Z,Z,Z,Z,Z,Z,Z,Z,Z,Z,Z,Z,Z,Z,Z,Z,Z,Z,Z,Z,Z,Z,Z,Z], .none⟩
def t59_10 {R : Type} (X : SD.D d59_10) (K : Ex → AS → Option R) := Pu.spec_FunctionsOk_T10 (fun y0 => K (.exit 2) (SD.enc d59_10 ((X.1.1, (X.1.2.1, (X.1.2.2.1, (X.1.2.2.2.1, (y0, ()))))), (X.2.1.1, ()), ()))) (fun y0 y1 => K .ret (SD.enc d59_10 ((X.1.1, (X.1.2.1, (y0, (X.1.2.2.2.1, (y1, ()))))), (X.2.1.1, ()), ()))) X.1.1 X.1.2.1 X.1.2.2.1 X.1.2.2.2.1 X.2.1.1
def l59_10 : LEnt := ⟨d59_10, fun X K => iterL (t59_10 X K) fuel X.1.2.2.2.2.1⟩
@[reducible] def d59_4 : SD := ⟨[.data false (.sl .arg TVirtualFunction),.data false (.sl .arg TPort),B,B,DB,DI,B,B,B,B,B,B,B,B,B,B,B,B,B,B,B,B,B,B,B,B,B,B,B,B,B,B,B,B,B,B,B,B,B,B,B,B,B,B,B,B,B,B,B,B,B,B,B,B,B,B,B,B,B,B,B,B,B,B,B,B,B,B,B,B,B,B,B,B,B], [Z,Z,Z,Z,Z,Z,Z,Z,Z,Z,Z,Z,Z,Z,Z,Z,Z,Z,Z,Z,Z,Z,Z,Z,Z,Z,Z,Z,Z,Z,Z,Z,Z,Z,Z,Z,Z,Z,Z,Z,Z,Z,Z,Z,Z,Z,Z,Z,Z,Z,Z,Z,Z,Z,Z,Z,Z,Z,Z,Z,Z,Z,Z,Z,Z,Z,Z,Z,Z,Z,Z,Z,Z,Z,Z], .none⟩
def t59_4 {R : Type} (X : SD.D d59_4) (K : Ex → AS → Option R) := Pu.spec_FunctionsOk_T4 (fun y0 => K (.exit 0) (SD.enc d59_4 ((X.1.1, (X.1.2.1, (X.1.2.2.1, (y0, ())))), (), ()))) (fun y0 y1 => K .ret (SD.enc d59_4 ((X.1.1, (X.1.2.1, (y0, (y1, ())))), (), ()))) X.1.1 X.1.2.1 X.1.2.2.1
def l59_4 : LEnt := ⟨d59_4, fun X K => iterL (t59_4 X K) fuel X.1.2.2.2.1⟩
def L59 : Lam := ((Lam.nil).add 10 l59_10).add 4 l59_4
theorem k59_10 : LOk E g59 n59 L59 (loopBody Tryz.f59 1) :=
  lok l59_10 (by kernel_rfl) fuel fun R X K => (loop_iter (σ := Int) (fun x => SD.enc d59_10 ((X.1.1, (X.1.2.1, (X.1.2.2.1, (X.1.2.2.2.1, (x, ()))))), (X.2.1.1, ()), ())) (t59_10 X K) (fun m x => by kernel_rfl) fuel X.1.2.2.2.2.1).symm
theorem k59_4 : LOk E g59 n59 L59 (loopBody Tryz.f59 0) :=
  lok l59_4 (by kernel_rfl) fuel fun R X K => (loop_iter (σ := Int) (fun x => SD.enc d59_4 ((X.1.1, (X.1.2.1, (X.1.2.2.1, (x, ())))), (), ())) (t59_4 X K) (fun m x => by kernel_rfl) fuel X.1.2.2.2.1).symm
theorem o59 : FnOk Tryz.prog 59 e59 := fk n59 ((((base).add o106).add o109).add o110) Tryz.func59 (Λ := L59) (cF k59_4 (cF k59_10 nF))
def e111 : GEnt := entOf [.data true (.sl .str)] [(false, .bool)] fun a => Pu.spec_FlashOk a.1
theorem o111 : FnOk Tryz.prog 111 e111 := fk { merge := fun | 1 => some 2 | _ => none } (base) Tryz.func111 (Λ := Lam.nil) nF
def e224 : GEnt := entOf [.data false .str, .data false (.int .i64), .data false (.int .i64)] [(false, .bool)] fun a => Pu.spec_l02Within a.1 a.2.1 a.2.2.1
theorem o224 : FnOk Tryz.prog 224 e224 := fk { merge := fun | 1 => some 6 | _ => none } (base) Tryz.func224 (Λ := Lam.nil) nF
def e225 : GEnt := entOf [.data false .str, .data false (.int .i64)] [(false, (.int .i64))] fun a => Pu.spec_Get16 a.1 a.2.1
theorem o225 : FnOk Tryz.prog 225 e225 := fk {} ((base).add o224) Tryz.func225 (Λ := Lam.nil) nF
def e175 : GEnt := entOf [.data false .str, .data false (.int .i64)] [(false, (.int .i64))] fun a => Pu.spec_Get32 a.1 a.2.1
theorem o175 : FnOk Tryz.prog 175 e175 := fk {} (((base).add o224).add o225) Tryz.func175 (Λ := Lam.nil) nF
def e226 : GEnt := entOf [.data false (.int .i64)] [(false, .str)] fun a => Pu.spec_Word32 a.1
theorem o226 : FnOk Tryz.prog 226 e226 := fk {} ((base).add o106) Tryz.func226 (Λ := Lam.nil) nF
def e227 : GEnt := entOf [.data false .str] [(false, (.int .i64))] fun a => Pu.spec_Crc32 a.1
def g227 : Gam := Gam.nil
def n227 : An := { mask := fun | 3 => [0, 3, 4] | 7 => [0, 3, 4, 5] | _ => [] }
@[reducible] def d227_7 : SD := ⟨[.data false .str,B,B,DI,DI,DI,B,B,B,B,B,B,B,B,B,B,B,B,B,B,B,B,B,B,B,B,B,B,B,B,B,B], [Z,Z,Z,Z,Z,Z,Z,Z,Z,Z,Z,Z,Z,Z,Z,Z,Z,Z,Z,Z,Z,Z,Z,Z,Z,Z,Z,Z,Z,Z,Z,Z], .none⟩
def t227_7 {R : Type} (X : SD.D d227_7) (K : Ex → AS → Option R) := Pu.spec_Crc32_T7 (fun y0 y1 => K (.exit 2) (SD.enc d227_7 ((X.1.1, (y0, (X.1.2.2.1, (y1, ())))), (), ()))) X.1.1 X.1.2.2.1
def l227_7 : LEnt := ⟨d227_7, fun X K => iterL (t227_7 X K) fuel (X.1.2.1, X.1.2.2.2.1)⟩
@[reducible] def d227_3 : SD := ⟨[.data false .str,B,B,DI,DI,B,B,B,B,B,B,B,B,B,B,B,B,B,B,B,B,B,B,B,B,B,B,B,B,B,B,B], [Z,Z,Z,Z,Z,Z,Z,Z,Z,Z,Z,Z,Z,Z,Z,Z,Z,Z,Z,Z,Z,Z,Z,Z,Z,Z,Z,Z,Z,Z,Z,Z], .none⟩
def t227_3 {R : Type} (X : SD.D d227_3) (K : Ex → AS → Option R) := Pu.spec_Crc32_T3 (fun y0 y1 => K (.exit 0) (SD.enc d227_3 ((X.1.1, (y0, (y1, ()))), (), ()))) X.1.1
def l227_3 : LEnt := ⟨d227_3, fun X K => iterL (t227_3 X K) fuel (X.1.2.1, X.1.2.2.1)⟩
def L227 : Lam := ((Lam.nil).add 7 l227_7).add 3 l227_3
theorem k227_7 : LOk E g227 n227 L227 (loopBody Tryz.f227 1) :=
  lok l227_7 (by kernel_rfl) fuel fun R X K => (loop_iter (σ := Int × Int) (fun x => SD.enc d227_7 ((X.1.1, (x.1, (X.1.2.2.1, (x.2, ())))), (), ())) (t227_7 X K) (fun m x => by kernel_rfl) fuel (X.1.2.1, X.1.2.2.2.1)).symm
theorem k227_3 : LOk E g227 n227 L227 (loopBody Tryz.f227 0) :=
  lok l227_3 (by kernel_rfl) fuel fun R X K => (loop_iter (σ := Int × Int) (fun x => SD.enc d227_3 ((X.1.1, (x.1, (x.2, ()))), (), ())) (t227_3 X K) (fun m x => by kernel_rfl) fuel (X.1.2.1, X.1.2.2.1)).symm
theorem o227 : FnOk Tryz.prog 227 e227 := fk n227 (base) Tryz.func227 (Λ := L227) (cF k227_3 (cF k227_7 nF))
def e176 : GEnt := entOf [.data false (.int .i64), .data false .str] [(false, .str), (false, .bool)] fun a => Pu.spec_MakeImage a.1 a.2.1
theorem o176 : FnOk Tryz.prog 176 e176 := fk { merge := fun | 1 => some 15 | _ => none } ((((base).add o106).add o226).add o227) Tryz.func176 (Λ := Lam.nil) nF
def e112 : GEnt := entOf [.data false .str] [(false, (.int .i64))] fun a => Pu.spec_ImageVersion a.1
theorem o112 : FnOk Tryz.prog 112 e112 := fk { merge := fun | 2 => some 17 | 5 => some 37 | _ => none } ((((base).add o106).add o175).add o176) Tryz.func112 (Λ := Lam.nil) nF
def e60 : GEnt := entOf [.data true (.sl .str)] [(false, (.int .i64))] fun a => Pu.spec_BootBank a.1
theorem o60 : FnOk Tryz.prog 60 e60 := fk { merge := fun | 5 => some 23 | _ => none } (((base).add o111).add o112) Tryz.func60 (Λ := Lam.nil) nF
def e61 : GEnt := entOf [.data true TClock] [(false, .bool)] fun a => Pu.spec_ClockOk a.1
theorem o61 : FnOk Tryz.prog 61 e61 := fk { merge := fun | 1 => some 2 | _ => none } ((base).add o106) Tryz.func61 (Λ := Lam.nil) nF
def e113 : GEnt := entOf [.data true (.sl .str)] [(false, .bool)] fun a => Pu.spec_MemoryOk a.1
def g113 : Gam := Gam.nil
def n113 : An := { mask := fun | 2 => [1, 2, 3] | _ => [] }
@[reducible] def d113_2 : SD := ⟨[B,.ptr 1 0,DB,DI,B,B,B,B,B,B,B,B,B,B,B,B,B,B,B,B,B,B], [Z,some (.sl .arg .str),Z,Z,Z,Z,Z,Z,Z,Z,Z,Z,Z,Z,Z,Z,Z,Z,Z,Z,Z,Z], .none⟩
def t113_2 {R : Type} (X : SD.D d113_2) (K : Ex → AS → Option R) := Pu.spec_MemoryOk_T2 (fun y0 => K (.exit 0) (SD.enc d113_2 ((X.1.1, (y0, ())), (X.2.1.1, ()), ()))) (fun y0 y1 => K .ret (SD.enc d113_2 ((y0, (y1, ())), (X.2.1.1, ()), ()))) X.1.1 X.2.1.1
def l113_2 : LEnt := ⟨d113_2, fun X K => iterL (t113_2 X K) fuel X.1.2.1⟩
def L113 : Lam := (Lam.nil).add 2 l113_2
theorem k113_2 : LOk E g113 n113 L113 (loopBody Tryz.f113 0) :=
  lok l113_2 (by kernel_rfl) fuel fun R X K => (loop_iter (σ := Int) (fun x => SD.enc d113_2 ((X.1.1, (x, ())), (X.2.1.1, ()), ())) (t113_2 X K) (fun m x => by kernel_rfl) fuel X.1.2.1).symm
theorem o113 : FnOk Tryz.prog 113 e113 := fk n113 (base) Tryz.func113 (Λ := L113) (cF k113_2 nF)
def e114 : GEnt := entOf [.data false (.sl TMapping)] [(false, .bool)] fun a => Pu.spec_MappingsOk a.1
def g114 : Gam := (Gam.nil).add 106 e106
def n114 : An := { mask := fun | 4 => [0, 2, 3] | 10 => [0, 2, 3, 4, 5] | _ => [], merge := fun | 7 => some 34 | 12 => some 57 | _ => none }
@[reducible] def d114_10 : SD := ⟨[.data false (.sl .arg TMapping),B,DB,DI,.ptr 4 0,DI,B,B,B,B,B,B,B,B,B,B,B,B,B,B,B,B,B,B,B,B,B,B,B,B,B,B,B,B,B,B,B,B,B,B,B,B,B,B,B,B,B,B,B,B,B,B,B,B,B,B,B,B], [Z,Z,Z,Z,some (.pair (.int .i64) (.pair (.int .i64) (.pair (.int .i64) .bool))),Z,Z,Z,Z,Z,Z,Z,Z,Z,Z,Z,Z,Z,Z,Z,Z,Z,Z,Z,Z,Z,Z,Z,Z,Z,Z,Z,Z,Z,Z,Z,Z,Z,Z,Z,Z,Z,Z,Z,Z,Z,Z,Z,Z,Z,Z,Z,Z,Z,Z,Z,Z,Z], .none⟩
def t114_10 {R : Type} (X : SD.D d114_10) (K : Ex → AS → Option R) := Pu.spec_MappingsOk_T10 (fun y0 => K (.exit 2) (SD.enc d114_10 ((X.1.1, (X.1.2.1, (X.1.2.2.1, (y0, ())))), (X.2.1.1, ()), ()))) (fun y0 y1 => K .ret (SD.enc d114_10 ((X.1.1, (y0, (X.1.2.2.1, (y1, ())))), (X.2.1.1, ()), ()))) X.1.1 X.1.2.1 X.1.2.2.1 X.2.1.1
def l114_10 : LEnt := ⟨d114_10, fun X K => iterL (t114_10 X K) fuel X.1.2.2.2.1⟩
@[reducible] def d114_4 : SD := ⟨[.data false (.sl .arg TMapping),B,DB,DI,B,B,B,B,B,B,B,B,B,B,B,B,B,B,B,B,B,B,B,B,B,B,B,B,B,B,B,B,B,B,B,B,B,B,B,B,B,B,B,B,B,B,B,B,B,B,B,B,B,B,B,B,B,B], [Z,Z,Z,Z,Z,Z,Z,Z,Z,Z,Z,Z,Z,Z,Z,Z,Z,Z,Z,Z,Z,Z,Z,Z,Z,Z,Z,Z,Z,Z,Z,Z,Z,Z,Z,Z,Z,Z,Z,Z,Z,Z,Z,Z,Z,Z,Z,Z,Z,Z,Z,Z,Z,Z,Z,Z,Z,Z], .none⟩
def t114_4 {R : Type} (X : SD.D d114_4) (K : Ex → AS → Option R) := Pu.spec_MappingsOk_T4 (fun y0 => K (.exit 0) (SD.enc d114_4 ((X.1.1, (X.1.2.1, (y0, ()))), (), ()))) (fun y0 y1 => K .ret (SD.enc d114_4 ((X.1.1, (y0, (y1, ()))), (), ()))) X.1.1 X.1.2.1
def l114_4 : LEnt := ⟨d114_4, fun X K => iterL (t114_4 X K) fuel X.1.2.2.1⟩
def L114 : Lam := ((Lam.nil).add 10 l114_10).add 4 l114_4
theorem k114_10 : LOk E g114 n114 L114 (loopBody Tryz.f114 1) :=
  lok l114_10 (by kernel_rfl) fuel fun R X K => (loop_iter (σ := Int) (fun x => SD.enc d114_10 ((X.1.1, (X.1.2.1, (X.1.2.2.1, (x, ())))), (X.2.1.1, ()), ())) (t114_10 X K) (fun m x => by kernel_rfl) fuel X.1.2.2.2.1).symm
theorem k114_4 : LOk E g114 n114 L114 (loopBody Tryz.f114 0) :=
  lok l114_4 (by kernel_rfl) fuel fun R X K => (loop_iter (σ := Int) (fun x => SD.enc d114_4 ((X.1.1, (X.1.2.1, (x, ()))), (), ())) (t114_4 X K) (fun m x => by kernel_rfl) fuel X.1.2.2.1).symm
theorem o114 : FnOk Tryz.prog 114 e114 := fk n114 ((base).add o106) Tryz.func114 (Λ := L114) (cF k114_4 (cF k114_10 nF))
def e119 : GEnt := entOf [.data true TPool] [(false, .bool)] fun a => Pu.spec_PoolOk a.1
def g119 : Gam := (Gam.nil).add 106 e106
def n119 : An := { mask := fun | 5 => [1, 2, 3, 4] | _ => [], merge := fun | 1 => some 20 | 7 => some 50 | _ => none }
@[reducible] def d119_5 : SD := ⟨[B,.ptr 1 0,DB,.data false (.sl (.own (some 36864)) .bool),DI,B,B,B,B,B,B,B,B,B,B,B,B,B,B,B,B,B,B,B,B,B,B,B,B,B,B,B,B,B,B,B,B,B,B,B,B,B,B,B,B,B,B,B,B,B,B,B,B,B,B,B,B,B], [Z,some (.pair (.int .i64) (.pair (.int .i64) (.pair (.int .i64) (.sl .arg (.int .i64))))),Z,Z,Z,Z,Z,Z,Z,Z,Z,Z,Z,Z,Z,Z,Z,Z,Z,Z,Z,Z,Z,Z,Z,Z,Z,Z,Z,Z,Z,Z,Z,Z,Z,Z,Z,Z,Z,Z,Z,Z,Z,Z,Z,Z,Z,Z,Z,Z,Z,Z,Z,Z,Z,Z,Z,Z], .none⟩
def t119_5 {R : Type} (X : SD.D d119_5) (K : Ex → AS → Option R) := Pu.spec_PoolOk_T5 (fun y0 y1 => K (.exit 0) (SD.enc d119_5 ((X.1.1, (y0, (y1, ()))), (X.2.1.1, ()), ()))) (fun y0 y1 y2 => K .ret (SD.enc d119_5 ((y0, (y1, (y2, ()))), (X.2.1.1, ()), ()))) X.1.1 X.2.1.1
def l119_5 : LEnt := ⟨d119_5, fun X K => iterL (t119_5 X K) fuel (X.1.2.1, X.1.2.2.1)⟩
def L119 : Lam := (Lam.nil).add 5 l119_5
theorem k119_5 : LOk E g119 n119 L119 (loopBody Tryz.f119 0) :=
  lok l119_5 (by kernel_rfl) fuel fun R X K => (loop_iter (σ := (List Bool) × Int) (fun x => SD.enc d119_5 ((X.1.1, (x.1, (x.2, ()))), (X.2.1.1, ()), ())) (t119_5 X K) (fun m x => by kernel_rfl) fuel (X.1.2.1, X.1.2.2.1)).symm
theorem o119 : FnOk Tryz.prog 119 e119 := fk n119 ((base).add o106) Tryz.func119 (Λ := L119) (cF k119_5 nF)
def e228 : GEnt := entOf [.data false (.int .i64)] [(false, .bool)] fun a => Pu.spec_l20Size a.1
theorem o228 : FnOk Tryz.prog 228 e228 := fk { merge := fun | 1 => some 2 | _ => none } (base) Tryz.func228 (Λ := Lam.nil) nF
def e229 : GEnt := entOf [.data true TClock] [(false, (.int .i64))] fun a => Pu.spec_RingUsed a.1
theorem o229 : FnOk Tryz.prog 229 e229 := fk {} ((base).add o228) Tryz.func229 (Λ := Lam.nil) nF
def e177 : GEnt := entOf [.data true TClock] [(false, .bool)] fun a => Pu.spec_RingOk a.1
theorem o177 : FnOk Tryz.prog 177 e177 := fk { merge := fun | 1 => some 2 | _ => none } ((((base).add o106).add o228).add o229) Tryz.func177 (Λ := Lam.nil) nF
def e230 : GEnt := entOf [.data true TPool] [(true, (.pair (.int .i64) (.pair (.int .i64) (.pair (.int .i64) (.sl (.own none) (.int .i64))))))] fun a => Pu.spec_l21Copy a.1
theorem o230 : FnOk Tryz.prog 230 e230 := fk { sb := fun | 2 => some 2 | _ => none } (base) Tryz.func230 (Λ := Lam.nil) nF
def e178 : GEnt := entOf [.data true TPool, .data false (.sl (.int .i64))] [(true, (.pair (.int .i64) (.pair (.int .i64) (.pair (.int .i64) (.sl (.own none) (.int .i64)))))), (false, .bool)] fun a => Pu.spec_GiveBuffers a.1 a.2.1
theorem o178 : FnOk Tryz.prog 178 e178 := fk { merge := fun | 3 => some 21 | _ => none, mv := [10, 24] } (((base).add o119).add o230) Tryz.func178 (Λ := Lam.nil) nF
def e115 : GEnt := entOf [.data true TTxQueue] [(false, .bool)] fun a => Pu.spec_TxOk a.1
def g115 : Gam := ((((Gam.nil).add 106 e106).add 119 e119).add 177 e177).add 178 e178
def n115 : An := { mask := fun | 6 => [1, 2, 3, 4, 5] | _ => [], merge := fun | 1 => some 24 | 9 => some 50 | 14 => some 2 | _ => none, mv := [55] }
@[reducible] def d115_6 : SD := ⟨[B,.ptr 1 0,DB,DI,.data false (.sl (.own (some 49152)) (.int .i64)),DI,B,B,B,B,B,B,B,B,B,B,B,B,B,B,B,B,B,B,B,B,B,B,B,B,B,B,B,B,B,B,B,B,B,B,B,B,B,B,B,B,B,B,B,B,B,B,B,B,B,B,B,B,B,B,B,B,B,B,B,B,B,B,B,B,B,B,B,B], [Z,some (.pair (.pair (.int .i64) (.pair (.int .i64) (.pair (.int .i64) (.int .i64)))) (.pair (.pair (.int .i64) (.pair (.int .i64) (.pair (.int .i64) (.sl .arg (.int .i64))))) (.pair (.sl .arg TSent) (.int .i64)))),Z,Z,Z,Z,Z,Z,Z,Z,Z,Z,Z,Z,Z,Z,Z,Z,Z,Z,Z,Z,Z,Z,Z,Z,Z,Z,Z,Z,Z,Z,Z,Z,Z,Z,Z,Z,Z,Z,Z,Z,Z,Z,Z,Z,Z,Z,Z,Z,Z,Z,Z,Z,Z,Z,Z,Z,Z,Z,Z,Z,Z,Z,Z,Z,Z,Z,Z,Z,Z,Z,Z,Z], .none⟩
def t115_6 {R : Type} (X : SD.D d115_6) (K : Ex → AS → Option R) := Pu.spec_TxOk_T6 (fun y0 y1 y2 => K (.exit 0) (SD.enc d115_6 ((X.1.1, (y0, (y1, (y2, ())))), (X.2.1.1, ()), ()))) (fun y0 y1 y2 y3 => K .ret (SD.enc d115_6 ((y0, (y1, (y2, (y3, ())))), (X.2.1.1, ()), ()))) X.1.1 X.2.1.1
def l115_6 : LEnt := ⟨d115_6, fun X K => iterL (t115_6 X K) fuel (X.1.2.1, X.1.2.2.1, X.1.2.2.2.1)⟩
def L115 : Lam := (Lam.nil).add 6 l115_6
theorem k115_6 : LOk E g115 n115 L115 (loopBody Tryz.f115 0) :=
  lok l115_6 (by kernel_rfl) fuel fun R X K => (loop_iter (σ := Int × (List Int) × Int) (fun x => SD.enc d115_6 ((X.1.1, (x.1, (x.2.1, (x.2.2, ())))), (X.2.1.1, ()), ())) (t115_6 X K) (fun m x => by kernel_rfl) fuel (X.1.2.1, X.1.2.2.1, X.1.2.2.2.1)).symm
theorem o115 : FnOk Tryz.prog 115 e115 := fk n115 (((((base).add o106).add o119).add o177).add o178) Tryz.func115 (Λ := L115) (cF k115_6 nF)
def e231 : GEnt := entOf [.data true TRule] [(false, .bool)] fun a => Pu.spec_RuleOk a.1
theorem o231 : FnOk Tryz.prog 231 e231 := fk { merge := fun | 1 => some 33 | 3 => some 54 | 5 => some 2 | _ => none } ((base).add o106) Tryz.func231 (Λ := Lam.nil) nF
def e179 : GEnt := entOf [.data false (.sl TRule)] [(false, .bool)] fun a => Pu.spec_RulesOk a.1
def g179 : Gam := (Gam.nil).add 231 e231
def n179 : An := { mask := fun | 2 => [0, 2, 3] | _ => [] }
@[reducible] def d179_2 : SD := ⟨[.data false (.sl .arg TRule),B,DB,DI,B,B,B,B,B,B,B,B,B,B,B,B,B,B,B], [Z,Z,Z,Z,Z,Z,Z,Z,Z,Z,Z,Z,Z,Z,Z,Z,Z,Z,Z], .none⟩
def t179_2 {R : Type} (X : SD.D d179_2) (K : Ex → AS → Option R) := Pu.spec_RulesOk_T2 (fun y0 => K (.exit 0) (SD.enc d179_2 ((X.1.1, (X.1.2.1, (y0, ()))), (), ()))) (fun y0 y1 => K .ret (SD.enc d179_2 ((X.1.1, (y0, (y1, ()))), (), ()))) X.1.1 X.1.2.1
def l179_2 : LEnt := ⟨d179_2, fun X K => iterL (t179_2 X K) fuel X.1.2.2.1⟩
def L179 : Lam := (Lam.nil).add 2 l179_2
theorem k179_2 : LOk E g179 n179 L179 (loopBody Tryz.f179 0) :=
  lok l179_2 (by kernel_rfl) fuel fun R X K => (loop_iter (σ := Int) (fun x => SD.enc d179_2 ((X.1.1, (X.1.2.1, (x, ()))), (), ())) (t179_2 X K) (fun m x => by kernel_rfl) fuel X.1.2.2.1).symm
theorem o179 : FnOk Tryz.prog 179 e179 := fk n179 ((base).add o231) Tryz.func179 (Λ := L179) (cF k179_2 nF)
def e259 : GEnt := entOf [.data true TFlow] [(false, (.int .i64))] fun a => Pu.spec_HomeSlot a.1
def g259 : Gam := Gam.nil
def n259 : An := { mask := fun | 4 => [3, 4, 5] | _ => [] }
@[reducible] def d259_4 : SD := ⟨[B,B,B,DI,.data false (.sl (.own (some 49152)) (.int .i64)),DI,B,B,B,B,B,B,B,B,B,B,B,B,B,B,B,B,B,B,B,B,B,B,B,B,B,B], [Z,Z,Z,Z,Z,Z,Z,Z,Z,Z,Z,Z,Z,Z,Z,Z,Z,Z,Z,Z,Z,Z,Z,Z,Z,Z,Z,Z,Z,Z,Z,Z], .none⟩
def t259_4 {R : Type} (X : SD.D d259_4) (K : Ex → AS → Option R) := Pu.spec_HomeSlot_T4 (fun y0 y1 => K (.exit 0) (SD.enc d259_4 ((y0, (X.1.2.1, (y1, ()))), (), ()))) X.1.2.1
def l259_4 : LEnt := ⟨d259_4, fun X K => iterL (t259_4 X K) fuel (X.1.1, X.1.2.2.1)⟩
def L259 : Lam := (Lam.nil).add 4 l259_4
theorem k259_4 : LOk E g259 n259 L259 (loopBody Tryz.f259 0) :=
  lok l259_4 (by kernel_rfl) fuel fun R X K => (loop_iter (σ := Int × Int) (fun x => SD.enc d259_4 ((x.1, (X.1.2.1, (x.2, ()))), (), ())) (t259_4 X K) (fun m x => by kernel_rfl) fuel (X.1.1, X.1.2.2.1)).symm
theorem o259 : FnOk Tryz.prog 259 e259 := fk n259 (base) Tryz.func259 (Λ := L259) (cF k259_4 nF)
def e232 : GEnt := entOf [.data true (.sl TSlot), .data true TFlow] [(false, (.int .i64))] fun a => Pu.spec_l13Find a.1 a.2.1
def g232 : Gam := (Gam.nil).add 259 e259
def n232 : An := { mask := fun | 2 => [2, 3, 4, 5] | _ => [], merge := fun | 7 => some 39 | _ => none }
@[reducible] def d232_2 : SD := ⟨[B,B,.ptr 2 0,.ptr 3 0,DI,DI,B,B,B,B,B,B,B,B,B,B,B,B,B,B,B,B,B,B,B,B,B,B,B,B,B,B,B,B,B,B,B,B,B,B,B], [Z,Z,some (.sl .arg TSlot),some (.pair (.int .i64) (.pair (.int .i64) (.pair (.int .i64) (.pair (.int .i64) (.int .i64))))),Z,Z,Z,Z,Z,Z,Z,Z,Z,Z,Z,Z,Z,Z,Z,Z,Z,Z,Z,Z,Z,Z,Z,Z,Z,Z,Z,Z,Z,Z,Z,Z,Z,Z,Z,Z,Z], .none⟩
def t232_2 {R : Type} (X : SD.D d232_2) (K : Ex → AS → Option R) := Pu.spec_l13Find_T2 (fun y0 => K (.exit 0) (SD.enc d232_2 ((X.1.1, (y0, ())), (X.2.1.1, (X.2.1.2.1, ())), ()))) (fun y0 y1 => K .ret (SD.enc d232_2 ((y0, (y1, ())), (X.2.1.1, (X.2.1.2.1, ())), ()))) X.1.1 X.2.1.1 X.2.1.2.1
def l232_2 : LEnt := ⟨d232_2, fun X K => iterL (t232_2 X K) fuel X.1.2.1⟩
def L232 : Lam := (Lam.nil).add 2 l232_2
theorem k232_2 : LOk E g232 n232 L232 (loopBody Tryz.f232 0) :=
  lok l232_2 (by kernel_rfl) fuel fun R X K => (loop_iter (σ := Int) (fun x => SD.enc d232_2 ((X.1.1, (x, ())), (X.2.1.1, (X.2.1.2.1, ())), ())) (t232_2 X K) (fun m x => by kernel_rfl) fuel X.1.2.1).symm
theorem o232 : FnOk Tryz.prog 232 e232 := fk n232 ((base).add o259) Tryz.func232 (Λ := L232) (cF k232_2 nF)
def e180 : GEnt := entOf [.data true (.sl TSlot)] [(false, .bool)] fun a => Pu.spec_TableOk a.1
def g180 : Gam := ((Gam.nil).add 106 e106).add 232 e232
def n180 : An := { mask := fun | 4 => [1, 2, 3] | _ => [], merge := fun | 7 => some 30 | 10 => some 42 | _ => none }
@[reducible] def d180_4 : SD := ⟨[B,.ptr 1 0,DB,DI,B,B,B,B,B,B,B,B,B,B,B,B,B,B,B,B,B,B,B,B,B,B,B,B,B,B,B,B,B,B,B,B,B,B,B,B,B,B,B,B,B,B,B,B,B], [Z,some (.sl .arg TSlot),Z,Z,Z,Z,Z,Z,Z,Z,Z,Z,Z,Z,Z,Z,Z,Z,Z,Z,Z,Z,Z,Z,Z,Z,Z,Z,Z,Z,Z,Z,Z,Z,Z,Z,Z,Z,Z,Z,Z,Z,Z,Z,Z,Z,Z,Z,Z], .none⟩
def t180_4 {R : Type} (X : SD.D d180_4) (K : Ex → AS → Option R) := Pu.spec_TableOk_T4 (fun y0 => K (.exit 0) (SD.enc d180_4 ((X.1.1, (y0, ())), (X.2.1.1, ()), ()))) (fun y0 y1 => K .ret (SD.enc d180_4 ((y0, (y1, ())), (X.2.1.1, ()), ()))) X.1.1 X.2.1.1
def l180_4 : LEnt := ⟨d180_4, fun X K => iterL (t180_4 X K) fuel X.1.2.1⟩
def L180 : Lam := (Lam.nil).add 4 l180_4
theorem k180_4 : LOk E g180 n180 L180 (loopBody Tryz.f180 0) :=
  lok l180_4 (by kernel_rfl) fuel fun R X K => (loop_iter (σ := Int) (fun x => SD.enc d180_4 ((X.1.1, (x, ())), (X.2.1.1, ()), ())) (t180_4 X K) (fun m x => by kernel_rfl) fuel X.1.2.1).symm
theorem o180 : FnOk Tryz.prog 180 e180 := fk n180 (((base).add o106).add o232) Tryz.func180 (Λ := L180) (cF k180_4 nF)
def e233 : GEnt := entOf [.data false (.int .i64)] [(false, .bool)] fun a => Pu.spec_l12Size a.1
theorem o233 : FnOk Tryz.prog 233 e233 := fk { merge := fun | 1 => some 2 | _ => none } (base) Tryz.func233 (Λ := Lam.nil) nF
def e181 : GEnt := entOf [.data true TSpread, .data false (.int .i64)] [(false, .bool)] fun a => Pu.spec_SpreadOk a.1 a.2.1
def g181 : Gam := ((Gam.nil).add 106 e106).add 233 e233
def n181 : An := { mask := fun | 4 => [1, 2, 4, 5] | _ => [], merge := fun | 1 => some 21 | _ => none }
@[reducible] def d181_4 : SD := ⟨[B,DI,.ptr 2 0,B,DB,DI,B,B,B,B,B,B,B,B,B,B,B,B,B,B,B,B,B,B,B,B,B,B,B,B,B,B,B,B,B,B,B,B], [Z,Z,some (.pair .str (.sl .arg (.int .i64))),Z,Z,Z,Z,Z,Z,Z,Z,Z,Z,Z,Z,Z,Z,Z,Z,Z,Z,Z,Z,Z,Z,Z,Z,Z,Z,Z,Z,Z,Z,Z,Z,Z,Z,Z], .none⟩
def t181_4 {R : Type} (X : SD.D d181_4) (K : Ex → AS → Option R) := Pu.spec_SpreadOk_T4 (fun y0 => K (.exit 0) (SD.enc d181_4 ((X.1.1, (X.1.2.1, (y0, ()))), (X.2.1.1, ()), ()))) (fun y0 y1 => K .ret (SD.enc d181_4 ((X.1.1, (y0, (y1, ()))), (X.2.1.1, ()), ()))) X.1.1 X.1.2.1 X.2.1.1
def l181_4 : LEnt := ⟨d181_4, fun X K => iterL (t181_4 X K) fuel X.1.2.2.1⟩
def L181 : Lam := (Lam.nil).add 4 l181_4
theorem k181_4 : LOk E g181 n181 L181 (loopBody Tryz.f181 0) :=
  lok l181_4 (by kernel_rfl) fuel fun R X K => (loop_iter (σ := Int) (fun x => SD.enc d181_4 ((X.1.1, (X.1.2.1, (x, ()))), (X.2.1.1, ()), ())) (t181_4 X K) (fun m x => by kernel_rfl) fuel X.1.2.2.1).symm
theorem o181 : FnOk Tryz.prog 181 e181 := fk n181 (((base).add o106).add o233) Tryz.func181 (Λ := L181) (cF k181_4 nF)
def e117 : GEnt := entOf [.data true TSteering, .data false (.int .i64)] [(false, .bool)] fun a => Pu.spec_SteeringOk a.1 a.2.1
def g117 : Gam := (((Gam.nil).add 179 e179).add 180 e180).add 181 e181
def n117 : An := { mask := fun | 4 => [1, 2, 4, 5] | 9 => [1, 2, 4, 6] | _ => [], merge := fun | 1 => some 23 | _ => none }
@[reducible] def d117_4 : SD := ⟨[B,DI,.ptr 2 0,B,DB,DI,B,B,B,B,B,B,B,B,B,B,B,B,B,B,B,B,B,B,B,B,B,B,B,B,B,B,B,B,B,B,B,B,B,B,B,B,B,B,B,B,B,B,B,B,B,B,B,B,B,B], [Z,Z,some (.pair (.sl .arg TRule) (.pair (.sl .arg TSlot) (.pair .str (.sl .arg (.int .i64))))),Z,Z,Z,Z,Z,Z,Z,Z,Z,Z,Z,Z,Z,Z,Z,Z,Z,Z,Z,Z,Z,Z,Z,Z,Z,Z,Z,Z,Z,Z,Z,Z,Z,Z,Z,Z,Z,Z,Z,Z,Z,Z,Z,Z,Z,Z,Z,Z,Z,Z,Z,Z,Z], .none⟩
def t117_4 {R : Type} (X : SD.D d117_4) (K : Ex → AS → Option R) := Pu.spec_SteeringOk_T4 (fun y0 => K (.exit 0) (SD.enc d117_4 ((X.1.1, (X.1.2.1, (y0, ()))), (X.2.1.1, ()), ()))) (fun y0 y1 => K .ret (SD.enc d117_4 ((X.1.1, (y0, (y1, ()))), (X.2.1.1, ()), ()))) X.1.1 X.1.2.1 X.2.1.1
def l117_4 : LEnt := ⟨d117_4, fun X K => iterL (t117_4 X K) fuel X.1.2.2.1⟩
@[reducible] def d117_9 : SD := ⟨[B,DI,.ptr 2 0,B,DB,B,DI,B,B,B,B,B,B,B,B,B,B,B,B,B,B,B,B,B,B,B,B,B,B,B,B,B,B,B,B,B,B,B,B,B,B,B,B,B,B,B,B,B,B,B,B,B,B,B,B,B], [Z,Z,some (.pair (.sl .arg TRule) (.pair (.sl .arg TSlot) (.pair .str (.sl .arg (.int .i64))))),Z,Z,Z,Z,Z,Z,Z,Z,Z,Z,Z,Z,Z,Z,Z,Z,Z,Z,Z,Z,Z,Z,Z,Z,Z,Z,Z,Z,Z,Z,Z,Z,Z,Z,Z,Z,Z,Z,Z,Z,Z,Z,Z,Z,Z,Z,Z,Z,Z,Z,Z,Z,Z], .none⟩
def t117_9 {R : Type} (X : SD.D d117_9) (K : Ex → AS → Option R) := Pu.spec_SteeringOk_T9 (fun y0 => K (.exit 2) (SD.enc d117_9 ((X.1.1, (X.1.2.1, (y0, ()))), (X.2.1.1, ()), ()))) (fun y0 y1 => K .ret (SD.enc d117_9 ((X.1.1, (y0, (y1, ()))), (X.2.1.1, ()), ()))) X.1.1 X.1.2.1 X.2.1.1
def l117_9 : LEnt := ⟨d117_9, fun X K => iterL (t117_9 X K) fuel X.1.2.2.1⟩
def L117 : Lam := ((Lam.nil).add 4 l117_4).add 9 l117_9
theorem k117_4 : LOk E g117 n117 L117 (loopBody Tryz.f117 0) :=
  lok l117_4 (by kernel_rfl) fuel fun R X K => (loop_iter (σ := Int) (fun x => SD.enc d117_4 ((X.1.1, (X.1.2.1, (x, ()))), (X.2.1.1, ()), ())) (t117_4 X K) (fun m x => by kernel_rfl) fuel X.1.2.2.1).symm
theorem k117_9 : LOk E g117 n117 L117 (loopBody Tryz.f117 1) :=
  lok l117_9 (by kernel_rfl) fuel fun R X K => (loop_iter (σ := Int) (fun x => SD.enc d117_9 ((X.1.1, (X.1.2.1, (x, ()))), (X.2.1.1, ()), ())) (t117_9 X K) (fun m x => by kernel_rfl) fuel X.1.2.2.1).symm
theorem o117 : FnOk Tryz.prog 117 e117 := fk n117 ((((base).add o179).add o180).add o181) Tryz.func117 (Λ := L117) (cF k117_4 (cF k117_9 nF))
def e182 : GEnt := entOf [.data true TBucket] [(false, .bool)] fun a => Pu.spec_QueueOk a.1
theorem o182 : FnOk Tryz.prog 182 e182 := fk { merge := fun | 1 => some 2 | _ => none } (((base).add o106).add o228) Tryz.func182 (Λ := Lam.nil) nF
def e234 : GEnt := entOf [.data true TSegment] [(false, .bool)] fun a => Pu.spec_SegmentOk a.1
theorem o234 : FnOk Tryz.prog 234 e234 := fk { merge := fun | 1 => some 18 | 4 => some 2 | 5 => some 2 | _ => none } ((base).add o106) Tryz.func234 (Λ := Lam.nil) nF
def e183 : GEnt := entOf [.data true TPacket] [(false, .bool)] fun a => Pu.spec_SuperOk a.1
theorem o183 : FnOk Tryz.prog 183 e183 := fk { merge := fun | 1 => some 55 | 3 => some 3 | 4 => some 2 | _ => none } (((base).add o106).add o234) Tryz.func183 (Λ := Lam.nil) nF
def e118 : GEnt := entOf [.data true TRxQueue] [(false, .bool)] fun a => Pu.spec_RxOk a.1
theorem o118 : FnOk Tryz.prog 118 e118 := fk { merge := fun | 1 => some 42 | 5 => some 2 | _ => none } (((((base).add o106).add o177).add o182).add o183) Tryz.func118 (Λ := Lam.nil) nF
def e184 : GEnt := entOf [.data true TVector] [(false, .bool)] fun a => Pu.spec_l28Due a.1
theorem o184 : FnOk Tryz.prog 184 e184 := fk { merge := fun | 1 => some 2 | _ => none } (base) Tryz.func184 (Λ := Lam.nil) nF
def e120 : GEnt := entOf [.data true TVector] [(false, .bool)] fun a => Pu.spec_VectorOk a.1
theorem o120 : FnOk Tryz.prog 120 e120 := fk { merge := fun | 1 => some 24 | 3 => some 2 | _ => none } (((base).add o106).add o184) Tryz.func120 (Λ := Lam.nil) nF
def e62 : GEnt := entOf [.data true THost] [(false, .bool)] fun a => Pu.spec_HostOk a.1
def g62 : Gam := (((((((((Gam.nil).add 106 e106).add 113 e113).add 114 e114).add 115 e115).add 116 e116).add 117 e117).add 118 e118).add 119 e119).add 120 e120
def n62 : An := { mask := fun | 5 => [1, 2, 3, 4] | 11 => [2, 5, 6] | _ => [], merge := fun | 2 => some 64 | 7 => some 94 | _ => none }
@[reducible] def d62_5 : SD := ⟨[B,.ptr 1 0,DB,DI,DI,B,B,B,B,B,B,B,B,B,B,B,B,B,B,B,B,B,B,B,B,B,B,B,B,B,B,B,B,B,B,B,B,B,B,B,B,B,B,B,B,B,B,B,B,B,B,B,B,B,B,B,B,B,B,B,B,B,B,B,B,B,B,B,B,B,B,B,B,B,B,B,B,B,B,B,B,B,B,B,B,B,B,B,B,B,B,B,B,B,B,B,B,B,B,B,B,B,B,B,B,B,B,B,B,B,B,B,B,B,B,B,B,B,B,B,B,B,B], [Z,some (.pair (.sl .arg .str) (.pair (.sl .arg TMapping) (.pair (.pair (.pair (.int .i64) (.pair (.int .i64) (.pair (.int .i64) (.int .i64)))) (.pair (.pair (.int .i64) (.pair (.int .i64) (.pair (.int .i64) (.sl .arg (.int .i64))))) (.pair (.sl .arg TSent) (.int .i64)))) (.pair (.sl .arg TRxQueue) (.pair (.sl .arg TPool) (.pair (.sl .arg TVector) (.pair (.sl .arg .bool) (.pair (.pair (.int .i64) (.pair .bool (.sl .arg (.int .i64)))) (.pair (.pair (.sl .arg TRule) (.pair (.sl .arg TSlot) (.pair .str (.sl .arg (.int .i64))))) (.pair (.sl .arg TStream) (.pair .bool (.pair (.sl .arg .str) (.pair (.sl .arg (.int .i64)) (.pair (.sl .arg (.int .i64)) (.pair (.int .i64) (.pair (.int .i64) (.pair (.int .i64) (.pair (.int .i64) (.int .i64))))))))))))))))))),Z,Z,Z,Z,Z,Z,Z,Z,Z,Z,Z,Z,Z,Z,Z,Z,Z,Z,Z,Z,Z,Z,Z,Z,Z,Z,Z,Z,Z,Z,Z,Z,Z,Z,Z,Z,Z,Z,Z,Z,Z,Z,Z,Z,Z,Z,Z,Z,Z,Z,Z,Z,Z,Z,Z,Z,Z,Z,Z,Z,Z,Z,Z,Z,Z,Z,Z,Z,Z,Z,Z,Z,Z,Z,Z,Z,Z,Z,Z,Z,Z,Z,Z,Z,Z,Z,Z,Z,Z,Z,Z,Z,Z,Z,Z,Z,Z,Z,Z,Z,Z,Z,Z,Z,Z,Z,Z,Z,Z,Z,Z,Z,Z,Z,Z,Z,Z,Z,Z,Z,Z], .none⟩
def t62_5 {R : Type} (X : SD.D d62_5) (K : Ex → AS → Option R) := Pu.spec_HostOk_T5 (fun y0 => K (.exit 0) (SD.enc d62_5 ((X.1.1, (X.1.2.1, (y0, ()))), (X.2.1.1, ()), ()))) (fun y0 y1 => K .ret (SD.enc d62_5 ((y0, (X.1.2.1, (y1, ()))), (X.2.1.1, ()), ()))) X.1.1 X.1.2.1 X.2.1.1
def l62_5 : LEnt := ⟨d62_5, fun X K => iterL (t62_5 X K) fuel X.1.2.2.1⟩
@[reducible] def d62_11 : SD := ⟨[B,B,DB,B,B,.data false (.sl (.own (some 61440)) (.int .i64)),DI,B,B,B,B,B,B,B,B,B,B,B,B,B,B,B,B,B,B,B,B,B,B,B,B,B,B,B,B,B,B,B,B,B,B,B,B,B,B,B,B,B,B,B,B,B,B,B,B,B,B,B,B,B,B,B,B,B,B,B,B,B,B,B,B,B,B,B,B,B,B,B,B,B,B,B,B,B,B,B,B,B,B,B,B,B,B,B,B,B,B,B,B,B,B,B,B,B,B,B,B,B,B,B,B,B,B,B,B,B,B,B,B,B,B,B,B], [Z,Z,Z,Z,Z,Z,Z,Z,Z,Z,Z,Z,Z,Z,Z,Z,Z,Z,Z,Z,Z,Z,Z,Z,Z,Z,Z,Z,Z,Z,Z,Z,Z,Z,Z,Z,Z,Z,Z,Z,Z,Z,Z,Z,Z,Z,Z,Z,Z,Z,Z,Z,Z,Z,Z,Z,Z,Z,Z,Z,Z,Z,Z,Z,Z,Z,Z,Z,Z,Z,Z,Z,Z,Z,Z,Z,Z,Z,Z,Z,Z,Z,Z,Z,Z,Z,Z,Z,Z,Z,Z,Z,Z,Z,Z,Z,Z,Z,Z,Z,Z,Z,Z,Z,Z,Z,Z,Z,Z,Z,Z,Z,Z,Z,Z,Z,Z,Z,Z,Z,Z,Z,Z], .none⟩
def t62_11 {R : Type} (X : SD.D d62_11) (K : Ex → AS → Option R) := Pu.spec_HostOk_T11 (fun y0 => K (.exit 2) (SD.enc d62_11 ((X.1.1, (X.1.2.1, (y0, ()))), (), ()))) (fun y0 y1 => K .ret (SD.enc d62_11 ((y0, (X.1.2.1, (y1, ()))), (), ()))) X.1.1 X.1.2.1
def l62_11 : LEnt := ⟨d62_11, fun X K => iterL (t62_11 X K) fuel X.1.2.2.1⟩
def L62 : Lam := ((Lam.nil).add 5 l62_5).add 11 l62_11
theorem k62_5 : LOk E g62 n62 L62 (loopBody Tryz.f62 0) :=
  lok l62_5 (by kernel_rfl) fuel fun R X K => (loop_iter (σ := Int) (fun x => SD.enc d62_5 ((X.1.1, (X.1.2.1, (x, ()))), (X.2.1.1, ()), ())) (t62_5 X K) (fun m x => by kernel_rfl) fuel X.1.2.2.1).symm
theorem k62_11 : LOk E g62 n62 L62 (loopBody Tryz.f62 1) :=
  lok l62_11 (by kernel_rfl) fuel fun R X K => (loop_iter (σ := Int) (fun x => SD.enc d62_11 ((X.1.1, (X.1.2.1, (x, ()))), (), ())) (t62_11 X K) (fun m x => by kernel_rfl) fuel X.1.2.2.1).symm
theorem o62 : FnOk Tryz.prog 62 e62 := fk n62 ((((((((((base).add o106).add o113).add o114).add o115).add o116).add o117).add o118).add o119).add o120) Tryz.func62 (Λ := L62) (cF k62_5 (cF k62_11 nF))
def e121 : GEnt := entOf [.data false (.sl (.int .i64)), .data false (.sl (.int .i64))] [(false, .bool)] fun a => Pu.spec_l39Ints a.1 a.2.1
def g121 : Gam := Gam.nil
def n121 : An := { mask := fun | 4 => [0, 1, 4, 5] | _ => [] }
@[reducible] def d121_4 : SD := ⟨[.data false (.sl .arg (.int .i64)),.data false (.sl .arg (.int .i64)),B,B,DB,DI,B,B,B,B,B,B,B,B,B,B,B,B,B,B,B,B,B,B,B,B], [Z,Z,Z,Z,Z,Z,Z,Z,Z,Z,Z,Z,Z,Z,Z,Z,Z,Z,Z,Z,Z,Z,Z,Z,Z,Z], .none⟩
def t121_4 {R : Type} (X : SD.D d121_4) (K : Ex → AS → Option R) := Pu.spec_l39Ints_T4 (fun y0 => K (.exit 0) (SD.enc d121_4 ((X.1.1, (X.1.2.1, (X.1.2.2.1, (y0, ())))), (), ()))) (fun y0 y1 => K .ret (SD.enc d121_4 ((X.1.1, (X.1.2.1, (y0, (y1, ())))), (), ()))) X.1.1 X.1.2.1 X.1.2.2.1
def l121_4 : LEnt := ⟨d121_4, fun X K => iterL (t121_4 X K) fuel X.1.2.2.2.1⟩
def L121 : Lam := (Lam.nil).add 4 l121_4
theorem k121_4 : LOk E g121 n121 L121 (loopBody Tryz.f121 0) :=
  lok l121_4 (by kernel_rfl) fuel fun R X K => (loop_iter (σ := Int) (fun x => SD.enc d121_4 ((X.1.1, (X.1.2.1, (X.1.2.2.1, (x, ())))), (), ())) (t121_4 X K) (fun m x => by kernel_rfl) fuel X.1.2.2.2.1).symm
theorem o121 : FnOk Tryz.prog 121 e121 := fk n121 (base) Tryz.func121 (Λ := L121) (cF k121_4 nF)
def e63 : GEnt := entOf [.data true TFilter, .data true TFilter] [(false, .bool)] fun a => Pu.spec_l42SameFilter a.1 a.2.1
theorem o63 : FnOk Tryz.prog 63 e63 := fk { merge := fun | 1 => some 4 | _ => none } ((base).add o121) Tryz.func63 (Λ := Lam.nil) nF
def e19 : GEnt := entOf [.data true TCard] [(false, .bool)] fun a => Pu.spec_CardOk a.1
def g19 : Gam := ((((((Gam.nil).add 58 e58).add 59 e59).add 60 e60).add 61 e61).add 62 e62).add 63 e63
def n19 : An := { mask := fun | 6 => [1, 2, 5, 6] | _ => [], merge := fun | 3 => some 50 | 8 => some 99 | _ => none }
@[reducible] def d19_6 : SD := ⟨[B,.ptr 1 0,DB,B,B,DI,DI,B,B,B,B,B,B,B,B,B,B,B,B,B,B,B,B,B,B,B,B,B,B,B,B,B,B,B,B,B,B,B,B,B,B,B,B,B,B,B,B,B,B,B,B,B,B,B,B,B,B,B,B,B,B,B,B,B,B,B,B,B,B,B,B,B,B,B,B,B,B,B,B,B,B,B,B,B,B,B,B,B,B,B,B,B,B,B,B,B,B,B,B,B], [Z,some (.pair (.sl .arg THost) (.pair (.sl .arg TVirtualFunction) (.pair (.sl .arg TMailbox) (.pair (.sl .arg .str) (.pair (.pair (.int .i64) (.pair (.int .i64) (.pair (.int .i64) (.int .i64)))) (.pair (.sl .arg (.int .i64)) (.sl .arg .str))))))),Z,Z,Z,Z,Z,Z,Z,Z,Z,Z,Z,Z,Z,Z,Z,Z,Z,Z,Z,Z,Z,Z,Z,Z,Z,Z,Z,Z,Z,Z,Z,Z,Z,Z,Z,Z,Z,Z,Z,Z,Z,Z,Z,Z,Z,Z,Z,Z,Z,Z,Z,Z,Z,Z,Z,Z,Z,Z,Z,Z,Z,Z,Z,Z,Z,Z,Z,Z,Z,Z,Z,Z,Z,Z,Z,Z,Z,Z,Z,Z,Z,Z,Z,Z,Z,Z,Z,Z,Z,Z,Z,Z,Z,Z,Z,Z,Z,Z], .none⟩
def t19_6 {R : Type} (X : SD.D d19_6) (K : Ex → AS → Option R) := Pu.spec_CardOk_T6 (fun y0 => K (.exit 0) (SD.enc d19_6 ((X.1.1, (X.1.2.1, (y0, ()))), (X.2.1.1, ()), ()))) (fun y0 y1 => K .ret (SD.enc d19_6 ((y0, (X.1.2.1, (y1, ()))), (X.2.1.1, ()), ()))) X.1.1 X.1.2.1 X.2.1.1
def l19_6 : LEnt := ⟨d19_6, fun X K => iterL (t19_6 X K) fuel X.1.2.2.1⟩
def L19 : Lam := (Lam.nil).add 6 l19_6
theorem k19_6 : LOk E g19 n19 L19 (loopBody Tryz.f19 0) :=
  lok l19_6 (by kernel_rfl) fuel fun R X K => (loop_iter (σ := Int) (fun x => SD.enc d19_6 ((X.1.1, (X.1.2.1, (x, ()))), (X.2.1.1, ()), ())) (t19_6 X K) (fun m x => by kernel_rfl) fuel X.1.2.2.1).symm
theorem o19 : FnOk Tryz.prog 19 e19 := fk n19 (((((((base).add o58).add o59).add o60).add o61).add o62).add o63) Tryz.func19 (Λ := L19) (cF k19_6 nF)
def e64 : GEnt := entOf [.data true TFilter] [(true, (.pair (.int .i64) (.pair .bool (.sl (.own none) (.int .i64)))))] fun a => Pu.spec_l24Copy a.1
theorem o64 : FnOk Tryz.prog 64 e64 := fk { sb := fun | 2 => some 2 | _ => none } (base) Tryz.func64 (Λ := Lam.nil) nF
def e122 : GEnt := entOf [.data true (.sl TSlot)] [(true, (.sl (.own none) TSlot))] fun a => Pu.spec_l13Copy a.1
theorem o122 : FnOk Tryz.prog 122 e122 := fk {} (base) Tryz.func122 (Λ := Lam.nil) nF
def e65 : GEnt := entOf [.data true TSteering] [(true, (.pair (.sl (.own none) TRule) (.pair (.sl (.own none) TSlot) (.pair .str (.sl (.own none) (.int .i64))))))] fun a => Pu.spec_l15Copy a.1
theorem o65 : FnOk Tryz.prog 65 e65 := fk { sb := fun | 2 => some 2 | _ => none } ((base).add o122) Tryz.func65 (Λ := Lam.nil) nF
def e20 : GEnt := entOf [.data true THost] [(true, (.pair (.pair (.int .i64) (.pair .bool (.sl (.own none) (.int .i64)))) (.pair (.pair (.sl (.own none) TRule) (.pair (.sl (.own none) TSlot) (.pair .str (.sl (.own none) (.int .i64))))) (.pair (.int .i64) (.pair (.sl (.own none) TStream) (.sl (.own none) .str))))))] fun a => Pu.spec_SoftOf a.1
theorem o20 : FnOk Tryz.prog 20 e20 := fk { sb := fun | 2 => some 2 | _ => none } ((((base).add o62).add o64).add o65) Tryz.func20 (Λ := Lam.nil) nF
def e21 : GEnt := entOf [.data true TMailbox] [(true, (.pair (.pair (.int .i64) (.pair .bool (.sl (.own none) (.int .i64)))) (.pair (.int .i64) (.pair (.int .i64) (.int .i64)))))] fun a => Pu.spec_l35Copy a.1
theorem o21 : FnOk Tryz.prog 21 e21 := fk { mv := [7] } ((base).add o64) Tryz.func21 (Λ := Lam.nil) nF
def e5 : GEnt := entOf [.data true TCard] [(true, (.pair (.sl (.own none) TSoft) (.pair (.sl (.own none) (.sl .str)) (.pair (.sl (.own none) TVirtualFunction) (.pair (.sl (.own none) TMailbox) (.sl (.own none) .str))))))] fun a => Pu.spec_IdealOf a.1
def g5 : Gam := (((Gam.nil).add 19 e19).add 20 e20).add 21 e21
def n5 : An := { mask := fun | 5 => [1, 2, 3, 4] | _ => [], mv := [26, 37, 43, 53], mb := fun | 26 => some 3 | 43 => some 3 | _ => none, sb := fun | 3 => some 3 | 35 => some 3 | 52 => some 3 | _ => none }
@[reducible] def d5_5 : SD := ⟨[B,.ptr 1 0,.ptr 2 0,.ptr 3 0,DI,B,B,B,B,B,B,B,B,B,B,B,B,B,B,B,B,B,B,B,B,B,B,B,B,B,B,B,B,B,B,B,B,B,B,B,B,B,B,B,B,B,B,B,B,B,B,B,B,B], [Z,some (.pair (.sl .arg THost) (.pair (.sl .arg TVirtualFunction) (.pair (.sl .arg TMailbox) (.pair (.sl .arg .str) (.pair (.pair (.int .i64) (.pair (.int .i64) (.pair (.int .i64) (.int .i64)))) (.pair (.sl .arg (.int .i64)) (.sl .arg .str))))))),some (.pair (.sl (.own (some 24577)) TSoft) (.pair (.sl (.own (some 24580)) (.sl .str)) (.pair (.sl (.own (some 24583)) TVirtualFunction) (.pair (.sl (.own (some 24586)) TMailbox) (.sl (.own (some 24589)) .str))))),some (.pair (.sl (.own (some 36865)) TSoft) (.pair (.sl (.own (some 36868)) (.sl .str)) (.pair (.sl (.own (some 36871)) TVirtualFunction) (.pair (.sl (.own (some 36874)) TMailbox) (.sl (.own (some 36877)) .str))))),Z,Z,Z,Z,Z,Z,Z,Z,Z,Z,Z,Z,Z,Z,Z,Z,Z,Z,Z,Z,Z,Z,Z,Z,Z,Z,Z,Z,Z,Z,Z,Z,Z,Z,Z,Z,Z,Z,Z,Z,Z,Z,Z,Z,Z,Z,Z,Z,Z,Z], .none⟩
def t5_5 {R : Type} (X : SD.D d5_5) (K : Ex → AS → Option R) := Pu.spec_IdealOf_T5 (fun y0 y1 => K (.exit 0) (SD.enc d5_5 ((y0, ()), (X.2.1.1, (X.2.1.2.1, (y1, ()))), ()))) X.2.1.1 X.2.1.2.1
def l5_5 : LEnt := ⟨d5_5, fun X K => iterL (t5_5 X K) fuel (X.1.1, X.2.1.2.2.1)⟩
def L5 : Lam := (Lam.nil).add 5 l5_5
theorem k5_5 : LOk E g5 n5 L5 (loopBody Tryz.f5 0) :=
  lok l5_5 (by kernel_rfl) fuel fun R X K => (loop_iter (σ := Int × Pu.Ideal) (fun x => SD.enc d5_5 ((x.1, ()), (X.2.1.1, (X.2.1.2.1, (x.2, ()))), ())) (t5_5 X K) (fun m x => by kernel_rfl) fuel (X.1.1, X.2.1.2.2.1)).symm
theorem o5 : FnOk Tryz.prog 5 e5 := fk n5 ((((base).add o19).add o20).add o21) Tryz.func5 (Λ := L5) (cF k5_5 nF)
def e27 : GEnt := entOf [.data false (.sl (.int .i64))] [(false, (.sl (.own none) (.int .i64)))] fun a => Pu.laws_toIntS a.1
def g27 : Gam := Gam.nil
def n27 : An := { mask := fun | 3 => [0, 3, 4] | _ => [], mv := [21] }
@[reducible] def d27_3 : SD := ⟨[.data false (.sl .arg (.int .i64)),B,B,.data false (.sl (.own (some 36864)) (.int .i64)),DI,B,B,B,B,B,B,B,B,B,B,B,B,B,B,B,B,B], [Z,Z,Z,Z,Z,Z,Z,Z,Z,Z,Z,Z,Z,Z,Z,Z,Z,Z,Z,Z,Z,Z], .none⟩
def t27_3 {R : Type} (X : SD.D d27_3) (K : Ex → AS → Option R) := Pu.laws_toIntS_T3 (fun y0 y1 => K (.exit 0) (SD.enc d27_3 ((X.1.1, (y0, (y1, ()))), (), ()))) X.1.1
def l27_3 : LEnt := ⟨d27_3, fun X K => iterL (t27_3 X K) fuel (X.1.2.1, X.1.2.2.1)⟩
def L27 : Lam := (Lam.nil).add 3 l27_3
theorem k27_3 : LOk E g27 n27 L27 (loopBody Tryz.f27 0) :=
  lok l27_3 (by kernel_rfl) fuel fun R X K => (loop_iter (σ := (List Int) × Int) (fun x => SD.enc d27_3 ((X.1.1, (x.1, (x.2, ()))), (), ())) (t27_3 X K) (fun m x => by kernel_rfl) fuel (X.1.2.1, X.1.2.2.1)).symm
theorem o27 : FnOk Tryz.prog 27 e27 := fk n27 (base) Tryz.func27 (Λ := L27) (cF k27_3 nF)
def e28 : GEnt := entOf [.data false (.sl .str)] [(false, (.sl (.own none) .str))] fun a => Pu.laws_toStringS a.1
def g28 : Gam := Gam.nil
def n28 : An := { mask := fun | 3 => [0, 3, 4] | _ => [], mv := [21] }
@[reducible] def d28_3 : SD := ⟨[.data false (.sl .arg .str),B,B,.data false (.sl (.own (some 36864)) .str),DI,B,B,B,B,B,B,B,B,B,B,B,B,B,B,B,B,B], [Z,Z,Z,Z,Z,Z,Z,Z,Z,Z,Z,Z,Z,Z,Z,Z,Z,Z,Z,Z,Z,Z], .none⟩
def t28_3 {R : Type} (X : SD.D d28_3) (K : Ex → AS → Option R) := Pu.laws_toStringS_T3 (fun y0 y1 => K (.exit 0) (SD.enc d28_3 ((X.1.1, (y0, (y1, ()))), (), ()))) X.1.1
def l28_3 : LEnt := ⟨d28_3, fun X K => iterL (t28_3 X K) fuel (X.1.2.1, X.1.2.2.1)⟩
def L28 : Lam := (Lam.nil).add 3 l28_3
theorem k28_3 : LOk E g28 n28 L28 (loopBody Tryz.f28 0) :=
  lok l28_3 (by kernel_rfl) fuel fun R X K => (loop_iter (σ := (List Pu.Bytes) × Int) (fun x => SD.enc d28_3 ((X.1.1, (x.1, (x.2, ()))), (), ())) (t28_3 X K) (fun m x => by kernel_rfl) fuel (X.1.2.1, X.1.2.2.1)).symm
theorem o28 : FnOk Tryz.prog 28 e28 := fk n28 (base) Tryz.func28 (Λ := L28) (cF k28_3 nF)
def e123 : GEnt := entOf [.data true (.sl .str)] [(true, (.sl (.own none) .str))] fun a => Pu.laws_toMemory a.1
theorem o123 : FnOk Tryz.prog 123 e123 := fk { mv := [8] } ((base).add o28) Tryz.func123 (Λ := Lam.nil) nF
def e185 : GEnt := entOf [.data true TMapping] [(true, (.pair (.int .i64) (.pair (.int .i64) (.pair (.int .i64) .bool))))] fun a => Pu.laws_toMapping a.1
theorem o185 : FnOk Tryz.prog 185 e185 := fk {} (base) Tryz.func185 (Λ := Lam.nil) nF
def e124 : GEnt := entOf [.data false (.sl TMapping)] [(false, (.sl (.own none) TMapping))] fun a => Pu.laws_toMappingS a.1
def g124 : Gam := (Gam.nil).add 185 e185
def n124 : An := { mask := fun | 3 => [0, 3, 4] | _ => [], mv := [22] }
@[reducible] def d124_3 : SD := ⟨[.data false (.sl .arg TMapping),B,B,.data false (.sl (.own (some 36864)) TMapping),DI,B,B,B,B,B,B,B,B,B,B,B,B,B,B,B,B,B,B], [Z,Z,Z,Z,Z,Z,Z,Z,Z,Z,Z,Z,Z,Z,Z,Z,Z,Z,Z,Z,Z,Z,Z], .none⟩
def t124_3 {R : Type} (X : SD.D d124_3) (K : Ex → AS → Option R) := Pu.laws_toMappingS_T3 (fun y0 y1 => K (.exit 0) (SD.enc d124_3 ((X.1.1, (y0, (y1, ()))), (), ()))) X.1.1
def l124_3 : LEnt := ⟨d124_3, fun X K => iterL (t124_3 X K) fuel (X.1.2.1, X.1.2.2.1)⟩
def L124 : Lam := (Lam.nil).add 3 l124_3
theorem k124_3 : LOk E g124 n124 L124 (loopBody Tryz.f124 0) :=
  lok l124_3 (by kernel_rfl) fuel fun R X K => (loop_iter (σ := (List Pu.Mapping) × Int) (fun x => SD.enc d124_3 ((X.1.1, (x.1, (x.2, ()))), (), ())) (t124_3 X K) (fun m x => by kernel_rfl) fuel (X.1.2.1, X.1.2.2.1)).symm
theorem o124 : FnOk Tryz.prog 124 e124 := fk n124 ((base).add o185) Tryz.func124 (Λ := L124) (cF k124_3 nF)
def e186 : GEnt := entOf [.data true TClock] [(true, (.pair (.int .i64) (.pair (.int .i64) (.pair (.int .i64) (.int .i64)))))] fun a => Pu.laws_toRing a.1
theorem o186 : FnOk Tryz.prog 186 e186 := fk {} (base) Tryz.func186 (Λ := Lam.nil) nF
def e187 : GEnt := entOf [.data true TPool] [(true, (.pair (.int .i64) (.pair (.int .i64) (.pair (.int .i64) (.sl (.own none) (.int .i64))))))] fun a => Pu.laws_toPool a.1
theorem o187 : FnOk Tryz.prog 187 e187 := fk { mv := [17] } ((base).add o27) Tryz.func187 (Λ := Lam.nil) nF
def e235 : GEnt := entOf [.data true TSent] [(true, (.pair (.int .i64) (.pair (.int .i64) (.sl (.own none) (.int .i64)))))] fun a => Pu.laws_toSent a.1
theorem o235 : FnOk Tryz.prog 235 e235 := fk { mv := [14] } ((base).add o27) Tryz.func235 (Λ := Lam.nil) nF
def e188 : GEnt := entOf [.data false (.sl TSent)] [(false, (.sl (.own none) TSent))] fun a => Pu.laws_toSentS a.1
def g188 : Gam := (Gam.nil).add 235 e235
def n188 : An := { mask := fun | 3 => [0, 3, 4] | _ => [], mv := [22] }
@[reducible] def d188_3 : SD := ⟨[.data false (.sl .arg TSent),B,B,.data false (.sl (.own (some 36864)) TSent),DI,B,B,B,B,B,B,B,B,B,B,B,B,B,B,B,B,B,B], [Z,Z,Z,Z,Z,Z,Z,Z,Z,Z,Z,Z,Z,Z,Z,Z,Z,Z,Z,Z,Z,Z,Z], .none⟩
def t188_3 {R : Type} (X : SD.D d188_3) (K : Ex → AS → Option R) := Pu.laws_toSentS_T3 (fun y0 y1 => K (.exit 0) (SD.enc d188_3 ((X.1.1, (y0, (y1, ()))), (), ()))) X.1.1
def l188_3 : LEnt := ⟨d188_3, fun X K => iterL (t188_3 X K) fuel (X.1.2.1, X.1.2.2.1)⟩
def L188 : Lam := (Lam.nil).add 3 l188_3
theorem k188_3 : LOk E g188 n188 L188 (loopBody Tryz.f188 0) :=
  lok l188_3 (by kernel_rfl) fuel fun R X K => (loop_iter (σ := (List Pu.Sent) × Int) (fun x => SD.enc d188_3 ((X.1.1, (x.1, (x.2, ()))), (), ())) (t188_3 X K) (fun m x => by kernel_rfl) fuel (X.1.2.1, X.1.2.2.1)).symm
theorem o188 : FnOk Tryz.prog 188 e188 := fk n188 ((base).add o235) Tryz.func188 (Λ := L188) (cF k188_3 nF)
def e125 : GEnt := entOf [.data true TTxQueue] [(true, (.pair (.pair (.int .i64) (.pair (.int .i64) (.pair (.int .i64) (.int .i64)))) (.pair (.pair (.int .i64) (.pair (.int .i64) (.pair (.int .i64) (.sl (.own none) (.int .i64))))) (.pair (.sl (.own none) TSent) (.int .i64)))))] fun a => Pu.laws_toTxQueue a.1
theorem o125 : FnOk Tryz.prog 125 e125 := fk { mv := [19] } ((((base).add o186).add o187).add o188) Tryz.func125 (Λ := Lam.nil) nF
def e236 : GEnt := entOf [.data true TBucket] [(true, (.pair (.int .i64) (.pair (.int .i64) (.int .i64))))] fun a => Pu.laws_toCompletionQueue a.1
theorem o236 : FnOk Tryz.prog 236 e236 := fk {} (base) Tryz.func236 (Λ := Lam.nil) nF
def e267 : GEnt := entOf [.data true TSegment] [(true, (.pair (.int .i64) (.pair (.int .i64) (.pair (.int .i64) (.pair (.int .i64) (.pair (.int .i64) (.pair (.int .i64) (.pair (.int .i64) .str))))))))] fun a => Pu.laws_toSegment a.1
theorem o267 : FnOk Tryz.prog 267 e267 := fk {} (base) Tryz.func267 (Λ := Lam.nil) nF
def e260 : GEnt := entOf [.data true TPacket] [(true, (.pair (.int .i64) (.pair (.int .i64) (.pair (.int .i64) (.pair (.int .i64) (.pair (.int .i64) (.pair (.int .i64) (.pair (.int .i64) (.pair (.int .i64) (.pair (.int .i64) (.pair (.int .i64) (.pair (.int .i64) (.pair (.int .i64) (.pair (.int .i64) (.pair (.int .i64) (.pair (.int .i64) .str))))))))))))))))] fun a => Pu.laws_toPacket a.1
theorem o260 : FnOk Tryz.prog 260 e260 := fk {} ((base).add o267) Tryz.func260 (Λ := Lam.nil) nF
def e237 : GEnt := entOf [.data true TSuper] [(true, (.pair (.pair (.int .i64) (.pair (.int .i64) (.pair (.int .i64) (.pair (.int .i64) (.pair (.int .i64) (.pair (.int .i64) (.pair (.int .i64) (.pair (.int .i64) (.pair (.int .i64) (.pair (.int .i64) (.pair (.int .i64) (.pair (.int .i64) (.pair (.int .i64) (.pair (.int .i64) (.pair (.int .i64) .str))))))))))))))) (.pair (.int .i64) (.int .i64))))] fun a => Pu.laws_toSuper a.1
theorem o237 : FnOk Tryz.prog 237 e237 := fk {} ((base).add o260) Tryz.func237 (Λ := Lam.nil) nF
def e189 : GEnt := entOf [.data true TRxQueue] [(true, (.pair (.pair (.int .i64) (.pair (.int .i64) (.pair (.int .i64) (.int .i64)))) (.pair (.pair (.int .i64) (.pair (.int .i64) (.int .i64))) (.pair (.pair (.int .i64) (.pair (.int .i64) (.int .i64))) (.pair (.pair (.pair (.int .i64) (.pair (.int .i64) (.pair (.int .i64) (.pair (.int .i64) (.pair (.int .i64) (.pair (.int .i64) (.pair (.int .i64) (.pair (.int .i64) (.pair (.int .i64) (.pair (.int .i64) (.pair (.int .i64) (.pair (.int .i64) (.pair (.int .i64) (.pair (.int .i64) (.pair (.int .i64) .str))))))))))))))) (.pair (.int .i64) (.int .i64))) (.pair .bool (.int .i64)))))))] fun a => Pu.laws_toRxQueue a.1
theorem o189 : FnOk Tryz.prog 189 e189 := fk {} ((((base).add o186).add o236).add o237) Tryz.func189 (Λ := Lam.nil) nF
def e126 : GEnt := entOf [.data false (.sl TRxQueue)] [(false, (.sl (.own none) TRxQueue))] fun a => Pu.laws_toRxQueueS a.1
def g126 : Gam := (Gam.nil).add 189 e189
def n126 : An := { mask := fun | 3 => [0, 3, 4] | _ => [], mv := [22] }
@[reducible] def d126_3 : SD := ⟨[.data false (.sl .arg TRxQueue),B,B,.data false (.sl (.own (some 36864)) TRxQueue),DI,B,B,B,B,B,B,B,B,B,B,B,B,B,B,B,B,B,B], [Z,Z,Z,Z,Z,Z,Z,Z,Z,Z,Z,Z,Z,Z,Z,Z,Z,Z,Z,Z,Z,Z,Z], .none⟩
def t126_3 {R : Type} (X : SD.D d126_3) (K : Ex → AS → Option R) := Pu.laws_toRxQueueS_T3 (fun y0 y1 => K (.exit 0) (SD.enc d126_3 ((X.1.1, (y0, (y1, ()))), (), ()))) X.1.1
def l126_3 : LEnt := ⟨d126_3, fun X K => iterL (t126_3 X K) fuel (X.1.2.1, X.1.2.2.1)⟩
def L126 : Lam := (Lam.nil).add 3 l126_3
theorem k126_3 : LOk E g126 n126 L126 (loopBody Tryz.f126 0) :=
  lok l126_3 (by kernel_rfl) fuel fun R X K => (loop_iter (σ := (List Pu.RxQueue) × Int) (fun x => SD.enc d126_3 ((X.1.1, (x.1, (x.2, ()))), (), ())) (t126_3 X K) (fun m x => by kernel_rfl) fuel (X.1.2.1, X.1.2.2.1)).symm
theorem o126 : FnOk Tryz.prog 126 e126 := fk n126 ((base).add o189) Tryz.func126 (Λ := L126) (cF k126_3 nF)
def e127 : GEnt := entOf [.data false (.sl TPool)] [(false, (.sl (.own none) TPool))] fun a => Pu.laws_toPoolS a.1
def g127 : Gam := (Gam.nil).add 187 e187
def n127 : An := { mask := fun | 3 => [0, 3, 4] | _ => [], mv := [22] }
@[reducible] def d127_3 : SD := ⟨[.data false (.sl .arg TPool),B,B,.data false (.sl (.own (some 36864)) TPool),DI,B,B,B,B,B,B,B,B,B,B,B,B,B,B,B,B,B,B], [Z,Z,Z,Z,Z,Z,Z,Z,Z,Z,Z,Z,Z,Z,Z,Z,Z,Z,Z,Z,Z,Z,Z], .none⟩
def t127_3 {R : Type} (X : SD.D d127_3) (K : Ex → AS → Option R) := Pu.laws_toPoolS_T3 (fun y0 y1 => K (.exit 0) (SD.enc d127_3 ((X.1.1, (y0, (y1, ()))), (), ()))) X.1.1
def l127_3 : LEnt := ⟨d127_3, fun X K => iterL (t127_3 X K) fuel (X.1.2.1, X.1.2.2.1)⟩
def L127 : Lam := (Lam.nil).add 3 l127_3
theorem k127_3 : LOk E g127 n127 L127 (loopBody Tryz.f127 0) :=
  lok l127_3 (by kernel_rfl) fuel fun R X K => (loop_iter (σ := (List Pu.Pool) × Int) (fun x => SD.enc d127_3 ((X.1.1, (x.1, (x.2, ()))), (), ())) (t127_3 X K) (fun m x => by kernel_rfl) fuel (X.1.2.1, X.1.2.2.1)).symm
theorem o127 : FnOk Tryz.prog 127 e127 := fk n127 ((base).add o187) Tryz.func127 (Λ := L127) (cF k127_3 nF)
def e190 : GEnt := entOf [.data true TVector] [(true, (.pair (.int .i64) (.pair (.int .i64) (.pair (.int .i64) (.pair (.int .i64) (.pair .bool .bool))))))] fun a => Pu.laws_toVector a.1
theorem o190 : FnOk Tryz.prog 190 e190 := fk {} (base) Tryz.func190 (Λ := Lam.nil) nF
def e128 : GEnt := entOf [.data false (.sl TVector)] [(false, (.sl (.own none) TVector))] fun a => Pu.laws_toVectorS a.1
def g128 : Gam := (Gam.nil).add 190 e190
def n128 : An := { mask := fun | 3 => [0, 3, 4] | _ => [], mv := [22] }
@[reducible] def d128_3 : SD := ⟨[.data false (.sl .arg TVector),B,B,.data false (.sl (.own (some 36864)) TVector),DI,B,B,B,B,B,B,B,B,B,B,B,B,B,B,B,B,B,B], [Z,Z,Z,Z,Z,Z,Z,Z,Z,Z,Z,Z,Z,Z,Z,Z,Z,Z,Z,Z,Z,Z,Z], .none⟩
def t128_3 {R : Type} (X : SD.D d128_3) (K : Ex → AS → Option R) := Pu.laws_toVectorS_T3 (fun y0 y1 => K (.exit 0) (SD.enc d128_3 ((X.1.1, (y0, (y1, ()))), (), ()))) X.1.1
def l128_3 : LEnt := ⟨d128_3, fun X K => iterL (t128_3 X K) fuel (X.1.2.1, X.1.2.2.1)⟩
def L128 : Lam := (Lam.nil).add 3 l128_3
theorem k128_3 : LOk E g128 n128 L128 (loopBody Tryz.f128 0) :=
  lok l128_3 (by kernel_rfl) fuel fun R X K => (loop_iter (σ := (List Pu.Vector) × Int) (fun x => SD.enc d128_3 ((X.1.1, (x.1, (x.2, ()))), (), ())) (t128_3 X K) (fun m x => by kernel_rfl) fuel (X.1.2.1, X.1.2.2.1)).symm
theorem o128 : FnOk Tryz.prog 128 e128 := fk n128 ((base).add o190) Tryz.func128 (Λ := L128) (cF k128_3 nF)
def e129 : GEnt := entOf [.data false (.sl .bool)] [(false, (.sl (.own none) .bool))] fun a => Pu.laws_toBoolS a.1
def g129 : Gam := Gam.nil
def n129 : An := { mask := fun | 3 => [0, 3, 4] | _ => [], mv := [21] }
@[reducible] def d129_3 : SD := ⟨[.data false (.sl .arg .bool),B,B,.data false (.sl (.own (some 36864)) .bool),DI,B,B,B,B,B,B,B,B,B,B,B,B,B,B,B,B,B], [Z,Z,Z,Z,Z,Z,Z,Z,Z,Z,Z,Z,Z,Z,Z,Z,Z,Z,Z,Z,Z,Z], .none⟩
def t129_3 {R : Type} (X : SD.D d129_3) (K : Ex → AS → Option R) := Pu.laws_toBoolS_T3 (fun y0 y1 => K (.exit 0) (SD.enc d129_3 ((X.1.1, (y0, (y1, ()))), (), ()))) X.1.1
def l129_3 : LEnt := ⟨d129_3, fun X K => iterL (t129_3 X K) fuel (X.1.2.1, X.1.2.2.1)⟩
def L129 : Lam := (Lam.nil).add 3 l129_3
theorem k129_3 : LOk E g129 n129 L129 (loopBody Tryz.f129 0) :=
  lok l129_3 (by kernel_rfl) fuel fun R X K => (loop_iter (σ := (List Bool) × Int) (fun x => SD.enc d129_3 ((X.1.1, (x.1, (x.2, ()))), (), ())) (t129_3 X K) (fun m x => by kernel_rfl) fuel (X.1.2.1, X.1.2.2.1)).symm
theorem o129 : FnOk Tryz.prog 129 e129 := fk n129 (base) Tryz.func129 (Λ := L129) (cF k129_3 nF)
def e130 : GEnt := entOf [.data true TFilter] [(true, (.pair (.int .i64) (.pair .bool (.sl (.own none) (.int .i64)))))] fun a => Pu.laws_toFilter a.1
theorem o130 : FnOk Tryz.prog 130 e130 := fk { mv := [14] } ((base).add o27) Tryz.func130 (Λ := Lam.nil) nF
def e238 : GEnt := entOf [.data true TRule] [(true, (.pair (.int .i64) (.pair (.int .i64) (.pair (.int .i64) (.pair (.int .i64) (.pair (.int .i64) (.pair (.int .i64) (.pair (.int .i64) (.pair (.int .i64) (.int .i64))))))))))] fun a => Pu.laws_toRule a.1
theorem o238 : FnOk Tryz.prog 238 e238 := fk {} (base) Tryz.func238 (Λ := Lam.nil) nF
def e191 : GEnt := entOf [.data false (.sl TRule)] [(false, (.sl (.own none) TRule))] fun a => Pu.laws_toRuleS a.1
def g191 : Gam := (Gam.nil).add 238 e238
def n191 : An := { mask := fun | 3 => [0, 3, 4] | _ => [], mv := [22] }
@[reducible] def d191_3 : SD := ⟨[.data false (.sl .arg TRule),B,B,.data false (.sl (.own (some 36864)) TRule),DI,B,B,B,B,B,B,B,B,B,B,B,B,B,B,B,B,B,B], [Z,Z,Z,Z,Z,Z,Z,Z,Z,Z,Z,Z,Z,Z,Z,Z,Z,Z,Z,Z,Z,Z,Z], .none⟩
def t191_3 {R : Type} (X : SD.D d191_3) (K : Ex → AS → Option R) := Pu.laws_toRuleS_T3 (fun y0 y1 => K (.exit 0) (SD.enc d191_3 ((X.1.1, (y0, (y1, ()))), (), ()))) X.1.1
def l191_3 : LEnt := ⟨d191_3, fun X K => iterL (t191_3 X K) fuel (X.1.2.1, X.1.2.2.1)⟩
def L191 : Lam := (Lam.nil).add 3 l191_3
theorem k191_3 : LOk E g191 n191 L191 (loopBody Tryz.f191 0) :=
  lok l191_3 (by kernel_rfl) fuel fun R X K => (loop_iter (σ := (List Pu.Rule) × Int) (fun x => SD.enc d191_3 ((X.1.1, (x.1, (x.2, ()))), (), ())) (t191_3 X K) (fun m x => by kernel_rfl) fuel (X.1.2.1, X.1.2.2.1)).symm
theorem o191 : FnOk Tryz.prog 191 e191 := fk n191 ((base).add o238) Tryz.func191 (Λ := L191) (cF k191_3 nF)
def e240 : GEnt := entOf [.data true TFlow] [(true, (.pair (.int .i64) (.pair (.int .i64) (.pair (.int .i64) (.pair (.int .i64) (.int .i64))))))] fun a => Pu.laws_toFlow a.1
theorem o240 : FnOk Tryz.prog 240 e240 := fk {} (base) Tryz.func240 (Λ := Lam.nil) nF
def e261 : GEnt := entOf [.data true TSlot] [(true, (.pair (.int .i64) (.pair (.pair (.int .i64) (.pair (.int .i64) (.pair (.int .i64) (.pair (.int .i64) (.int .i64))))) (.int .i64))))] fun a => Pu.laws_toSlot a.1
theorem o261 : FnOk Tryz.prog 261 e261 := fk {} ((base).add o240) Tryz.func261 (Λ := Lam.nil) nF
def e239 : GEnt := entOf [.data false (.sl TSlot)] [(false, (.sl (.own none) TSlot))] fun a => Pu.laws_toSlotS a.1
def g239 : Gam := (Gam.nil).add 261 e261
def n239 : An := { mask := fun | 3 => [0, 3, 4] | _ => [], mv := [22] }
@[reducible] def d239_3 : SD := ⟨[.data false (.sl .arg TSlot),B,B,.data false (.sl (.own (some 36864)) TSlot),DI,B,B,B,B,B,B,B,B,B,B,B,B,B,B,B,B,B,B], [Z,Z,Z,Z,Z,Z,Z,Z,Z,Z,Z,Z,Z,Z,Z,Z,Z,Z,Z,Z,Z,Z,Z], .none⟩
def t239_3 {R : Type} (X : SD.D d239_3) (K : Ex → AS → Option R) := Pu.laws_toSlotS_T3 (fun y0 y1 => K (.exit 0) (SD.enc d239_3 ((X.1.1, (y0, (y1, ()))), (), ()))) X.1.1
def l239_3 : LEnt := ⟨d239_3, fun X K => iterL (t239_3 X K) fuel (X.1.2.1, X.1.2.2.1)⟩
def L239 : Lam := (Lam.nil).add 3 l239_3
theorem k239_3 : LOk E g239 n239 L239 (loopBody Tryz.f239 0) :=
  lok l239_3 (by kernel_rfl) fuel fun R X K => (loop_iter (σ := (List Pu.Slot) × Int) (fun x => SD.enc d239_3 ((X.1.1, (x.1, (x.2, ()))), (), ())) (t239_3 X K) (fun m x => by kernel_rfl) fuel (X.1.2.1, X.1.2.2.1)).symm
theorem o239 : FnOk Tryz.prog 239 e239 := fk n239 ((base).add o261) Tryz.func239 (Λ := L239) (cF k239_3 nF)
def e192 : GEnt := entOf [.data true (.sl TSlot)] [(true, (.sl (.own none) TSlot))] fun a => Pu.laws_toFlowTable a.1
theorem o192 : FnOk Tryz.prog 192 e192 := fk { mv := [8] } ((base).add o239) Tryz.func192 (Λ := Lam.nil) nF
def e193 : GEnt := entOf [.data true TSpread] [(true, (.pair .str (.sl (.own none) (.int .i64))))] fun a => Pu.laws_toSpread a.1
theorem o193 : FnOk Tryz.prog 193 e193 := fk { mv := [11] } ((base).add o27) Tryz.func193 (Λ := Lam.nil) nF
def e131 : GEnt := entOf [.data true TSteering] [(true, (.pair (.sl (.own none) TRule) (.pair (.sl (.own none) TSlot) (.pair .str (.sl (.own none) (.int .i64))))))] fun a => Pu.laws_toSteering a.1
theorem o131 : FnOk Tryz.prog 131 e131 := fk { mv := [16] } ((((base).add o191).add o192).add o193) Tryz.func131 (Λ := Lam.nil) nF
def e194 : GEnt := entOf [.data true TStream] [(true, (.pair (.pair (.int .i64) (.pair (.int .i64) (.pair (.int .i64) (.pair (.int .i64) (.int .i64))))) (.pair (.int .i64) (.pair .str .bool))))] fun a => Pu.laws_toStream a.1
theorem o194 : FnOk Tryz.prog 194 e194 := fk {} ((base).add o240) Tryz.func194 (Λ := Lam.nil) nF
def e132 : GEnt := entOf [.data false (.sl TStream)] [(false, (.sl (.own none) TStream))] fun a => Pu.laws_toStreamS a.1
def g132 : Gam := (Gam.nil).add 194 e194
def n132 : An := { mask := fun | 3 => [0, 3, 4] | _ => [], mv := [22] }
@[reducible] def d132_3 : SD := ⟨[.data false (.sl .arg TStream),B,B,.data false (.sl (.own (some 36864)) TStream),DI,B,B,B,B,B,B,B,B,B,B,B,B,B,B,B,B,B,B], [Z,Z,Z,Z,Z,Z,Z,Z,Z,Z,Z,Z,Z,Z,Z,Z,Z,Z,Z,Z,Z,Z,Z], .none⟩
def t132_3 {R : Type} (X : SD.D d132_3) (K : Ex → AS → Option R) := Pu.laws_toStreamS_T3 (fun y0 y1 => K (.exit 0) (SD.enc d132_3 ((X.1.1, (y0, (y1, ()))), (), ()))) X.1.1
def l132_3 : LEnt := ⟨d132_3, fun X K => iterL (t132_3 X K) fuel (X.1.2.1, X.1.2.2.1)⟩
def L132 : Lam := (Lam.nil).add 3 l132_3
theorem k132_3 : LOk E g132 n132 L132 (loopBody Tryz.f132 0) :=
  lok l132_3 (by kernel_rfl) fuel fun R X K => (loop_iter (σ := (List Pu.Stream) × Int) (fun x => SD.enc d132_3 ((X.1.1, (x.1, (x.2, ()))), (), ())) (t132_3 X K) (fun m x => by kernel_rfl) fuel (X.1.2.1, X.1.2.2.1)).symm
theorem o132 : FnOk Tryz.prog 132 e132 := fk n132 ((base).add o194) Tryz.func132 (Λ := L132) (cF k132_3 nF)
def e133 : GEnt := entOf [.data true TFlow] [(true, (.pair (.int .i64) (.pair (.int .i64) (.pair (.int .i64) (.pair (.int .i64) (.int .i64))))))] fun a => Pu.laws_toCounters a.1
theorem o133 : FnOk Tryz.prog 133 e133 := fk {} (base) Tryz.func133 (Λ := Lam.nil) nF
def e66 : GEnt := entOf [.data true THost] [(true, (.pair (.sl (.own none) .str) (.pair (.sl (.own none) TMapping) (.pair (.pair (.pair (.int .i64) (.pair (.int .i64) (.pair (.int .i64) (.int .i64)))) (.pair (.pair (.int .i64) (.pair (.int .i64) (.pair (.int .i64) (.sl (.own none) (.int .i64))))) (.pair (.sl (.own none) TSent) (.int .i64)))) (.pair (.sl (.own none) TRxQueue) (.pair (.sl (.own none) TPool) (.pair (.sl (.own none) TVector) (.pair (.sl (.own none) .bool) (.pair (.pair (.int .i64) (.pair .bool (.sl (.own none) (.int .i64)))) (.pair (.pair (.sl (.own none) TRule) (.pair (.sl (.own none) TSlot) (.pair .str (.sl (.own none) (.int .i64))))) (.pair (.sl (.own none) TStream) (.pair .bool (.pair (.sl (.own none) .str) (.pair (.sl (.own none) (.int .i64)) (.pair (.sl (.own none) (.int .i64)) (.pair (.int .i64) (.pair (.int .i64) (.pair (.int .i64) (.pair (.int .i64) (.int .i64))))))))))))))))))))] fun a => Pu.laws_toHost a.1
theorem o66 : FnOk Tryz.prog 66 e66 := fk { mv := [63] } ((((((((((((((base).add o27).add o28).add o123).add o124).add o125).add o126).add o127).add o128).add o129).add o130).add o131).add o132).add o133) Tryz.func66 (Λ := Lam.nil) nF
def e22 : GEnt := entOf [.data false (.sl THost)] [(false, (.sl (.own none) THost))] fun a => Pu.laws_toHostS a.1
def g22 : Gam := (Gam.nil).add 66 e66
def n22 : An := { mask := fun | 3 => [0, 3, 4] | _ => [], mv := [22] }
@[reducible] def d22_3 : SD := ⟨[.data false (.sl .arg THost),B,B,.data false (.sl (.own (some 36864)) THost),DI,B,B,B,B,B,B,B,B,B,B,B,B,B,B,B,B,B,B], [Z,Z,Z,Z,Z,Z,Z,Z,Z,Z,Z,Z,Z,Z,Z,Z,Z,Z,Z,Z,Z,Z,Z], .none⟩
def t22_3 {R : Type} (X : SD.D d22_3) (K : Ex → AS → Option R) := Pu.laws_toHostS_T3 (fun y0 y1 => K (.exit 0) (SD.enc d22_3 ((X.1.1, (y0, (y1, ()))), (), ()))) X.1.1
def l22_3 : LEnt := ⟨d22_3, fun X K => iterL (t22_3 X K) fuel (X.1.2.1, X.1.2.2.1)⟩
def L22 : Lam := (Lam.nil).add 3 l22_3
theorem k22_3 : LOk E g22 n22 L22 (loopBody Tryz.f22 0) :=
  lok l22_3 (by kernel_rfl) fuel fun R X K => (loop_iter (σ := (List Pu.Host) × Int) (fun x => SD.enc d22_3 ((X.1.1, (x.1, (x.2, ()))), (), ())) (t22_3 X K) (fun m x => by kernel_rfl) fuel (X.1.2.1, X.1.2.2.1)).symm
theorem o22 : FnOk Tryz.prog 22 e22 := fk n22 ((base).add o66) Tryz.func22 (Λ := L22) (cF k22_3 nF)
def e134 : GEnt := entOf [.data true TBucket] [(true, (.pair (.int .i64) (.pair (.int .i64) (.int .i64))))] fun a => Pu.laws_toBucket a.1
theorem o134 : FnOk Tryz.prog 134 e134 := fk {} (base) Tryz.func134 (Λ := Lam.nil) nF
def e67 : GEnt := entOf [.data true TVirtualFunction] [(true, (.pair (.int .i64) (.pair (.int .i64) (.pair (.pair (.int .i64) (.pair (.int .i64) (.int .i64))) (.pair .bool (.pair (.int .i64) (.int .i64)))))))] fun a => Pu.laws_toVirtualFunction a.1
theorem o67 : FnOk Tryz.prog 67 e67 := fk {} ((base).add o134) Tryz.func67 (Λ := Lam.nil) nF
def e23 : GEnt := entOf [.data false (.sl TVirtualFunction)] [(false, (.sl (.own none) TVirtualFunction))] fun a => Pu.laws_toVirtualFunctionS a.1
def g23 : Gam := (Gam.nil).add 67 e67
def n23 : An := { mask := fun | 3 => [0, 3, 4] | _ => [], mv := [22] }
@[reducible] def d23_3 : SD := ⟨[.data false (.sl .arg TVirtualFunction),B,B,.data false (.sl (.own (some 36864)) TVirtualFunction),DI,B,B,B,B,B,B,B,B,B,B,B,B,B,B,B,B,B,B], [Z,Z,Z,Z,Z,Z,Z,Z,Z,Z,Z,Z,Z,Z,Z,Z,Z,Z,Z,Z,Z,Z,Z], .none⟩
def t23_3 {R : Type} (X : SD.D d23_3) (K : Ex → AS → Option R) := Pu.laws_toVirtualFunctionS_T3 (fun y0 y1 => K (.exit 0) (SD.enc d23_3 ((X.1.1, (y0, (y1, ()))), (), ()))) X.1.1
def l23_3 : LEnt := ⟨d23_3, fun X K => iterL (t23_3 X K) fuel (X.1.2.1, X.1.2.2.1)⟩
def L23 : Lam := (Lam.nil).add 3 l23_3
theorem k23_3 : LOk E g23 n23 L23 (loopBody Tryz.f23 0) :=
  lok l23_3 (by kernel_rfl) fuel fun R X K => (loop_iter (σ := (List Pu.VirtualFunction) × Int) (fun x => SD.enc d23_3 ((X.1.1, (x.1, (x.2, ()))), (), ())) (t23_3 X K) (fun m x => by kernel_rfl) fuel (X.1.2.1, X.1.2.2.1)).symm
theorem o23 : FnOk Tryz.prog 23 e23 := fk n23 ((base).add o67) Tryz.func23 (Λ := L23) (cF k23_3 nF)
def e68 : GEnt := entOf [.data true TMailbox] [(true, (.pair (.pair (.int .i64) (.pair .bool (.sl (.own none) (.int .i64)))) (.pair (.int .i64) (.pair (.int .i64) (.int .i64)))))] fun a => Pu.laws_toMailbox a.1
theorem o68 : FnOk Tryz.prog 68 e68 := fk { mv := [17] } ((base).add o130) Tryz.func68 (Λ := Lam.nil) nF
def e24 : GEnt := entOf [.data false (.sl TMailbox)] [(false, (.sl (.own none) TMailbox))] fun a => Pu.laws_toMailboxS a.1
def g24 : Gam := (Gam.nil).add 68 e68
def n24 : An := { mask := fun | 3 => [0, 3, 4] | _ => [], mv := [22] }
@[reducible] def d24_3 : SD := ⟨[.data false (.sl .arg TMailbox),B,B,.data false (.sl (.own (some 36864)) TMailbox),DI,B,B,B,B,B,B,B,B,B,B,B,B,B,B,B,B,B,B], [Z,Z,Z,Z,Z,Z,Z,Z,Z,Z,Z,Z,Z,Z,Z,Z,Z,Z,Z,Z,Z,Z,Z], .none⟩
def t24_3 {R : Type} (X : SD.D d24_3) (K : Ex → AS → Option R) := Pu.laws_toMailboxS_T3 (fun y0 y1 => K (.exit 0) (SD.enc d24_3 ((X.1.1, (y0, (y1, ()))), (), ()))) X.1.1
def l24_3 : LEnt := ⟨d24_3, fun X K => iterL (t24_3 X K) fuel (X.1.2.1, X.1.2.2.1)⟩
def L24 : Lam := (Lam.nil).add 3 l24_3
theorem k24_3 : LOk E g24 n24 L24 (loopBody Tryz.f24 0) :=
  lok l24_3 (by kernel_rfl) fuel fun R X K => (loop_iter (σ := (List Pu.Mailbox) × Int) (fun x => SD.enc d24_3 ((X.1.1, (x.1, (x.2, ()))), (), ())) (t24_3 X K) (fun m x => by kernel_rfl) fuel (X.1.2.1, X.1.2.2.1)).symm
theorem o24 : FnOk Tryz.prog 24 e24 := fk n24 ((base).add o68) Tryz.func24 (Λ := L24) (cF k24_3 nF)
def e25 : GEnt := entOf [.data true (.sl .str)] [(true, (.sl (.own none) .str))] fun a => Pu.laws_toFlash a.1
theorem o25 : FnOk Tryz.prog 25 e25 := fk { mv := [8] } ((base).add o28) Tryz.func25 (Λ := Lam.nil) nF
def e26 : GEnt := entOf [.data true TClock] [(true, (.pair (.int .i64) (.pair (.int .i64) (.pair (.int .i64) (.int .i64)))))] fun a => Pu.laws_toClock a.1
theorem o26 : FnOk Tryz.prog 26 e26 := fk {} (base) Tryz.func26 (Λ := Lam.nil) nF
def e6 : GEnt := entOf [.data true TCard] [(true, (.pair (.sl (.own none) THost) (.pair (.sl (.own none) TVirtualFunction) (.pair (.sl (.own none) TMailbox) (.pair (.sl (.own none) .str) (.pair (.pair (.int .i64) (.pair (.int .i64) (.pair (.int .i64) (.int .i64)))) (.pair (.sl (.own none) (.int .i64)) (.sl (.own none) .str))))))))] fun a => Pu.laws_toCard a.1
theorem o6 : FnOk Tryz.prog 6 e6 := fk { mv := [32] } ((((((((base).add o22).add o23).add o24).add o25).add o26).add o27).add o28) Tryz.func6 (Λ := Lam.nil) nF
def e135 : GEnt := entOf [.data false (.int .i64), .data false (.int .i64), .data false (.int .i64)] [(false, .bool)] fun a => Pu.impl_between a.1 a.2.1 a.2.2.1
theorem o135 : FnOk Tryz.prog 135 e135 := fk { merge := fun | 1 => some 6 | _ => none } (base) Tryz.func135 (Λ := Lam.nil) nF
def e143 : GEnt := entOf [.data true TFilter] [(false, .bool)] fun a => Pu.impl_FilterOk a.1
def g143 : Gam := (Gam.nil).add 135 e135
def n143 : An := { mask := fun | 2 => [1, 2, 6, 7, 8] | _ => [], merge := fun | 4 => some 29 | 7 => some 2 | _ => none }
@[reducible] def d143_2 : SD := ⟨[B,.ptr 1 0,DB,B,B,B,.data false (.sl .arg (.int .i64)),DI,DI,B,B,B,B,B,B,B,B,B,B,B,B,B,B,B,B,B,B,B,B,B,B,B,B,B,B,B,B,B,B,B], [Z,some (.pair (.int .i64) (.pair .bool (.sl .arg (.int .i64)))),Z,Z,Z,Z,Z,Z,Z,Z,Z,Z,Z,Z,Z,Z,Z,Z,Z,Z,Z,Z,Z,Z,Z,Z,Z,Z,Z,Z,Z,Z,Z,Z,Z,Z,Z,Z,Z,Z], .none⟩
def t143_2 {R : Type} (X : SD.D d143_2) (K : Ex → AS → Option R) := Pu.impl_FilterOk_T2 (fun y0 => K (.exit 0) (SD.enc d143_2 ((X.1.1, (X.1.2.1, (X.1.2.2.1, (y0, ())))), (X.2.1.1, ()), ()))) (fun y0 y1 => K .ret (SD.enc d143_2 ((y0, (X.1.2.1, (X.1.2.2.1, (y1, ())))), (X.2.1.1, ()), ()))) X.1.1 X.1.2.1 X.1.2.2.1 X.2.1.1
def l143_2 : LEnt := ⟨d143_2, fun X K => iterL (t143_2 X K) fuel X.1.2.2.2.1⟩
def L143 : Lam := (Lam.nil).add 2 l143_2
theorem k143_2 : LOk E g143 n143 L143 (loopBody Tryz.f143 0) :=
  lok l143_2 (by kernel_rfl) fuel fun R X K => (loop_iter (σ := Int) (fun x => SD.enc d143_2 ((X.1.1, (X.1.2.1, (X.1.2.2.1, (x, ())))), (X.2.1.1, ()), ())) (t143_2 X K) (fun m x => by kernel_rfl) fuel X.1.2.2.2.1).symm
theorem o143 : FnOk Tryz.prog 143 e143 := fk n143 ((base).add o135) Tryz.func143 (Λ := L143) (cF k143_2 nF)
def e136 : GEnt := entOf [.data true TMailbox] [(false, .bool)] fun a => Pu.impl_MailboxOk a.1
theorem o136 : FnOk Tryz.prog 136 e136 := fk { merge := fun | 1 => some 2 | _ => none } (((base).add o135).add o143) Tryz.func136 (Λ := Lam.nil) nF
def e137 : GEnt := entOf [.data false (.sl (.int .i64)), .data false (.int .i64)] [(false, .bool)] fun a => Pu.impl_hasInt a.1 a.2.1
def g137 : Gam := Gam.nil
def n137 : An := { mask := fun | 2 => [1, 4, 7, 8, 9] | _ => [] }
@[reducible] def d137_2 : SD := ⟨[B,DI,B,B,DB,B,B,.data false (.sl .arg (.int .i64)),DI,DI,B,B,B,B,B,B,B], [Z,Z,Z,Z,Z,Z,Z,Z,Z,Z,Z,Z,Z,Z,Z,Z,Z], .none⟩
def t137_2 {R : Type} (X : SD.D d137_2) (K : Ex → AS → Option R) := Pu.impl_hasInt_T2 (fun y0 => K (.exit 0) (SD.enc d137_2 ((X.1.1, (X.1.2.1, (X.1.2.2.1, (X.1.2.2.2.1, (y0, ()))))), (), ()))) (fun y0 y1 => K .ret (SD.enc d137_2 ((X.1.1, (y0, (X.1.2.2.1, (X.1.2.2.2.1, (y1, ()))))), (), ()))) X.1.1 X.1.2.1 X.1.2.2.1 X.1.2.2.2.1
def l137_2 : LEnt := ⟨d137_2, fun X K => iterL (t137_2 X K) fuel X.1.2.2.2.2.1⟩
def L137 : Lam := (Lam.nil).add 2 l137_2
theorem k137_2 : LOk E g137 n137 L137 (loopBody Tryz.f137 0) :=
  lok l137_2 (by kernel_rfl) fuel fun R X K => (loop_iter (σ := Int) (fun x => SD.enc d137_2 ((X.1.1, (X.1.2.1, (X.1.2.2.1, (X.1.2.2.2.1, (x, ()))))), (), ())) (t137_2 X K) (fun m x => by kernel_rfl) fuel X.1.2.2.2.2.1).symm
theorem o137 : FnOk Tryz.prog 137 e137 := fk n137 (base) Tryz.func137 (Λ := L137) (cF k137_2 nF)
def e138 : GEnt := entOf [.data false (.sl (.int .i64)), .data false (.int .i64)] [(false, (.sl (.own none) (.int .i64)))] fun a => Pu.impl_addOrdered a.1 a.2.1
def g138 : Gam := Gam.nil
def n138 : An := { mask := fun | 4 => [1, 5, 6, 10, 11, 12] | _ => [], merge := fun | 6 => some 22 | _ => none, mv := [23, 27, 34, 38] }
@[reducible] def d138_4 : SD := ⟨[B,DI,B,B,B,.data false (.sl (.own (some 61440)) (.int .i64)),DB,B,B,B,.data false (.sl .arg (.int .i64)),DI,DI,B,B,B,B,B,B,B,B,B,B,B,B,B,B,B,B,B,B,B,B,B,B,B,B,B,B], [Z,Z,Z,Z,Z,Z,Z,Z,Z,Z,Z,Z,Z,Z,Z,Z,Z,Z,Z,Z,Z,Z,Z,Z,Z,Z,Z,Z,Z,Z,Z,Z,Z,Z,Z,Z,Z,Z,Z], .none⟩
def t138_4 {R : Type} (X : SD.D d138_4) (K : Ex → AS → Option R) := Pu.impl_addOrdered_T4 (fun y0 y1 y2 => K (.exit 0) (SD.enc d138_4 ((X.1.1, (y0, (y1, (X.1.2.2.2.1, (X.1.2.2.2.2.1, (y2, ())))))), (), ()))) X.1.1 X.1.2.2.2.1 X.1.2.2.2.2.1
def l138_4 : LEnt := ⟨d138_4, fun X K => iterL (t138_4 X K) fuel (X.1.2.1, X.1.2.2.1, X.1.2.2.2.2.2.1)⟩
def L138 : Lam := (Lam.nil).add 4 l138_4
theorem k138_4 : LOk E g138 n138 L138 (loopBody Tryz.f138 0) :=
  lok l138_4 (by kernel_rfl) fuel fun R X K => (loop_iter (σ := (List Int) × Bool × Int) (fun x => SD.enc d138_4 ((X.1.1, (x.1, (x.2.1, (X.1.2.2.2.1, (X.1.2.2.2.2.1, (x.2.2, ())))))), (), ())) (t138_4 X K) (fun m x => by kernel_rfl) fuel (X.1.2.1, X.1.2.2.1, X.1.2.2.2.2.2.1)).symm
theorem o138 : FnOk Tryz.prog 138 e138 := fk n138 (base) Tryz.func138 (Λ := L138) (cF k138_4 nF)
def e195 : GEnt := entOf [.data true TPort] [(true, (.pair (.int .i64) (.pair .bool (.sl .arg (.int .i64)))))] fun a => Pu.impl_filterOf a.1
theorem o195 : FnOk Tryz.prog 195 e195 := fk {} (base) Tryz.func195 (Λ := Lam.nil) nF
def e196 : GEnt := entOf [.data false (.sl TPort), .data false (.int .i64)] [(false, (.int .i64))] fun a => Pu.impl_portWith a.1 a.2.1
def g196 : Gam := Gam.nil
def n196 : An := { mask := fun | 2 => [1, 4, 7, 8, 9] | _ => [], merge := fun | 4 => some 21 | _ => none }
@[reducible] def d196_2 : SD := ⟨[B,DI,B,B,DI,B,B,.data false (.sl .arg TPort),DI,DI,B,B,B,B,B,B,B,B,B,B,B,B,B,B], [Z,Z,Z,Z,Z,Z,Z,Z,Z,Z,Z,Z,Z,Z,Z,Z,Z,Z,Z,Z,Z,Z,Z,Z], .none⟩
def t196_2 {R : Type} (X : SD.D d196_2) (K : Ex → AS → Option R) := Pu.impl_portWith_T2 (fun y0 => K (.exit 0) (SD.enc d196_2 ((X.1.1, (X.1.2.1, (X.1.2.2.1, (X.1.2.2.2.1, (y0, ()))))), (), ()))) (fun y0 y1 => K .ret (SD.enc d196_2 ((X.1.1, (y0, (X.1.2.2.1, (X.1.2.2.2.1, (y1, ()))))), (), ()))) X.1.1 X.1.2.1 X.1.2.2.1 X.1.2.2.2.1
def l196_2 : LEnt := ⟨d196_2, fun X K => iterL (t196_2 X K) fuel X.1.2.2.2.2.1⟩
def L196 : Lam := (Lam.nil).add 2 l196_2
theorem k196_2 : LOk E g196 n196 L196 (loopBody Tryz.f196 0) :=
  lok l196_2 (by kernel_rfl) fuel fun R X K => (loop_iter (σ := Int) (fun x => SD.enc d196_2 ((X.1.1, (X.1.2.1, (X.1.2.2.1, (X.1.2.2.2.1, (x, ()))))), (), ())) (t196_2 X K) (fun m x => by kernel_rfl) fuel X.1.2.2.2.2.1).symm
theorem o196 : FnOk Tryz.prog 196 e196 := fk n196 (base) Tryz.func196 (Λ := L196) (cF k196_2 nF)
def e139 : GEnt := entOf [.data false (.sl TPort)] [(false, .bool)] fun a => Pu.impl_PortsOk a.1
def g139 : Gam := (((((Gam.nil).add 135 e135).add 137 e137).add 143 e143).add 195 e195).add 196 e196
def n139 : An := { mask := fun | 4 => [0, 2, 9, 10, 11] | _ => [], merge := fun | 6 => some 27 | 8 => some 37 | _ => none }
@[reducible] def d139_4 : SD := ⟨[.data false (.sl .arg TPort),B,DB,B,B,B,B,B,B,.data false (.sl .arg TPort),DI,DI,B,B,B,B,B,B,B,B,B,B,B,B,B,B,B,B,B,B,B,B,B,B,B,B,B,B,B], [Z,Z,Z,Z,Z,Z,Z,Z,Z,Z,Z,Z,Z,Z,Z,Z,Z,Z,Z,Z,Z,Z,Z,Z,Z,Z,Z,Z,Z,Z,Z,Z,Z,Z,Z,Z,Z,Z,Z], .none⟩
def t139_4 {R : Type} (X : SD.D d139_4) (K : Ex → AS → Option R) := Pu.impl_PortsOk_T4 (fun y0 => K (.exit 0) (SD.enc d139_4 ((X.1.1, (X.1.2.1, (X.1.2.2.1, (X.1.2.2.2.1, (y0, ()))))), (), ()))) (fun y0 y1 => K .ret (SD.enc d139_4 ((X.1.1, (y0, (X.1.2.2.1, (X.1.2.2.2.1, (y1, ()))))), (), ()))) X.1.1 X.1.2.1 X.1.2.2.1 X.1.2.2.2.1
def l139_4 : LEnt := ⟨d139_4, fun X K => iterL (t139_4 X K) fuel X.1.2.2.2.2.1⟩
def L139 : Lam := (Lam.nil).add 4 l139_4
theorem k139_4 : LOk E g139 n139 L139 (loopBody Tryz.f139 0) :=
  lok l139_4 (by kernel_rfl) fuel fun R X K => (loop_iter (σ := Int) (fun x => SD.enc d139_4 ((X.1.1, (X.1.2.1, (X.1.2.2.1, (X.1.2.2.2.1, (x, ()))))), (), ())) (t139_4 X K) (fun m x => by kernel_rfl) fuel X.1.2.2.2.2.1).symm
theorem o139 : FnOk Tryz.prog 139 e139 := fk n139 ((((((base).add o135).add o137).add o143).add o195).add o196) Tryz.func139 (Λ := L139) (cF k139_4 nF)
def e69 : GEnt := entOf [.data false (.sl TMailbox)] [(false, (.sl (.own none) TPort)), (false, .bool)] fun a => Pu.impl_PortsOf a.1
def g69 : Gam := (((((Gam.nil).add 135 e135).add 136 e136).add 137 e137).add 138 e138).add 139 e139
def n69 : An := { mask := fun | 6 => [2, 3, 4, 5, 18, 19, 20] | 12 => [2, 3, 4, 5, 7, 8, 18, 19, 20, 32, 33, 34] | _ => [], mv := [53, 57, 63, 69] }
@[reducible] def d69_12 : SD := ⟨[B,B,.data false (.sl (.own (some 24576)) TPort),DB,.data false (.sl (.own (some 49152)) TPort),.data false (.sl (.own (some 61440)) (.int .i64)),B,.ptr 7 0,.data false (.sl (.own (some 98304)) (.int .i64)),B,B,B,B,B,B,B,B,B,.data false (.sl .arg TMailbox),DI,DI,B,B,B,B,B,B,B,B,B,B,B,.data false (.sl (.own (some 393216)) (.int .i64)),DI,DI,B,B,B,B,B,B,B,B,B,B,B,B,B,B,B,B,B,B,B,B,B,B,B,B,B,B,B,B,B,B,B,B,B,B,B], [Z,Z,Z,Z,Z,Z,Z,some (.pair (.pair (.int .i64) (.pair .bool (.sl .arg (.int .i64)))) (.pair (.int .i64) (.pair (.int .i64) (.int .i64)))),Z,Z,Z,Z,Z,Z,Z,Z,Z,Z,Z,Z,Z,Z,Z,Z,Z,Z,Z,Z,Z,Z,Z,Z,Z,Z,Z,Z,Z,Z,Z,Z,Z,Z,Z,Z,Z,Z,Z,Z,Z,Z,Z,Z,Z,Z,Z,Z,Z,Z,Z,Z,Z,Z,Z,Z,Z,Z,Z,Z,Z,Z], .none⟩
def t69_12 {R : Type} (X : SD.D d69_12) (K : Ex → AS → Option R) := Pu.impl_PortsOf_T12 (fun y0 y1 y2 => K (.exit 2) (SD.enc d69_12 ((X.1.1, (X.1.2.1, (X.1.2.2.1, (y0, (y1, (X.1.2.2.2.2.2.1, (X.1.2.2.2.2.2.2.1, (X.1.2.2.2.2.2.2.2.1, (X.1.2.2.2.2.2.2.2.2.1, (X.1.2.2.2.2.2.2.2.2.2.1, (y2, ()))))))))))), (X.2.1.1, ()), ()))) X.1.1 X.1.2.1 X.1.2.2.1 X.1.2.2.2.2.2.1 X.1.2.2.2.2.2.2.1 X.1.2.2.2.2.2.2.2.1 X.1.2.2.2.2.2.2.2.2.1 X.1.2.2.2.2.2.2.2.2.2.1 X.2.1.1
def l69_12 : LEnt := ⟨d69_12, fun X K => iterL (t69_12 X K) fuel (X.1.2.2.2.1, X.1.2.2.2.2.1, X.1.2.2.2.2.2.2.2.2.2.2.1)⟩
@[reducible] def d69_6 : SD := ⟨[B,B,.data false (.sl (.own (some 24576)) TPort),DB,.data false (.sl (.own (some 49152)) TPort),.data false (.sl (.own (some 61440)) (.int .i64)),B,B,B,B,B,B,B,B,B,B,B,B,.data false (.sl .arg TMailbox),DI,DI,B,B,B,B,B,B,B,B,B,B,B,B,B,B,B,B,B,B,B,B,B,B,B,B,B,B,B,B,B,B,B,B,B,B,B,B,B,B,B,B,B,B,B,B,B,B,B,B,B], [Z,Z,Z,Z,Z,Z,Z,Z,Z,Z,Z,Z,Z,Z,Z,Z,Z,Z,Z,Z,Z,Z,Z,Z,Z,Z,Z,Z,Z,Z,Z,Z,Z,Z,Z,Z,Z,Z,Z,Z,Z,Z,Z,Z,Z,Z,Z,Z,Z,Z,Z,Z,Z,Z,Z,Z,Z,Z,Z,Z,Z,Z,Z,Z,Z,Z,Z,Z,Z,Z], .none⟩
def t69_6 {R : Type} (X : SD.D d69_6) (K : Ex → AS → Option R) := Pu.impl_PortsOf_T6 (fun y0 y1 y2 => K (.exit 0) (SD.enc d69_6 ((X.1.1, (X.1.2.1, (y0, (y1, (X.1.2.2.2.2.1, (X.1.2.2.2.2.2.1, (y2, ()))))))), (), ()))) (fun y0 y1 y2 y3 y4 => K .ret (SD.enc d69_6 ((y0, (y1, (y2, (y3, (X.1.2.2.2.2.1, (X.1.2.2.2.2.2.1, (y4, ()))))))), (), ()))) X.1.1 X.1.2.1 X.1.2.2.2.2.1 X.1.2.2.2.2.2.1
def l69_6 : LEnt := ⟨d69_6, fun X K => iterL (t69_6 X K) fuel (X.1.2.2.1, X.1.2.2.2.1, X.1.2.2.2.2.2.2.1)⟩
def L69 : Lam := ((Lam.nil).add 12 l69_12).add 6 l69_6
theorem k69_12 : LOk E g69 n69 L69 (loopBody Tryz.f69 1) :=
  lok l69_12 (by kernel_rfl) fuel fun R X K => (loop_iter (σ := (List Int) × (List Int) × Int) (fun x => SD.enc d69_12 ((X.1.1, (X.1.2.1, (X.1.2.2.1, (x.1, (x.2.1, (X.1.2.2.2.2.2.1, (X.1.2.2.2.2.2.2.1, (X.1.2.2.2.2.2.2.2.1, (X.1.2.2.2.2.2.2.2.2.1, (X.1.2.2.2.2.2.2.2.2.2.1, (x.2.2, ()))))))))))), (X.2.1.1, ()), ())) (t69_12 X K) (fun m x => by kernel_rfl) fuel (X.1.2.2.2.1, X.1.2.2.2.2.1, X.1.2.2.2.2.2.2.2.2.2.2.1)).symm
theorem k69_6 : LOk E g69 n69 L69 (loopBody Tryz.f69 0) :=
  lok l69_6 (by kernel_rfl) fuel fun R X K => (loop_iter (σ := (List Pu.Port) × (List Int) × Int) (fun x => SD.enc d69_6 ((X.1.1, (X.1.2.1, (x.1, (x.2.1, (X.1.2.2.2.2.1, (X.1.2.2.2.2.2.1, (x.2.2, ()))))))), (), ())) (t69_6 X K) (fun m x => by kernel_rfl) fuel (X.1.2.2.1, X.1.2.2.2.1, X.1.2.2.2.2.2.2.1)).symm
theorem o69 : FnOk Tryz.prog 69 e69 := fk n69 ((((((base).add o135).add o136).add o137).add o138).add o139) Tryz.func69 (Λ := L69) (cF k69_6 (cF k69_12 nF))
def e140 : GEnt := entOf [.data true (.sl .str)] [(false, .bool)] fun a => Pu.impl_MemoryOk a.1
def g140 : Gam := Gam.nil
def n140 : An := { mask := fun | 2 => [1, 2, 6, 7, 8] | _ => [] }
@[reducible] def d140_2 : SD := ⟨[B,.ptr 1 0,DB,B,B,B,.data false (.sl .arg .str),DI,DI,B,B,B,B,B,B,B,B,B,B,B], [Z,some (.sl .arg .str),Z,Z,Z,Z,Z,Z,Z,Z,Z,Z,Z,Z,Z,Z,Z,Z,Z,Z], .none⟩
def t140_2 {R : Type} (X : SD.D d140_2) (K : Ex → AS → Option R) := Pu.impl_MemoryOk_T2 (fun y0 => K (.exit 0) (SD.enc d140_2 ((X.1.1, (X.1.2.1, (X.1.2.2.1, (y0, ())))), (X.2.1.1, ()), ()))) (fun y0 y1 => K .ret (SD.enc d140_2 ((y0, (X.1.2.1, (X.1.2.2.1, (y1, ())))), (X.2.1.1, ()), ()))) X.1.1 X.1.2.1 X.1.2.2.1 X.2.1.1
def l140_2 : LEnt := ⟨d140_2, fun X K => iterL (t140_2 X K) fuel X.1.2.2.2.1⟩
def L140 : Lam := (Lam.nil).add 2 l140_2
theorem k140_2 : LOk E g140 n140 L140 (loopBody Tryz.f140 0) :=
  lok l140_2 (by kernel_rfl) fuel fun R X K => (loop_iter (σ := Int) (fun x => SD.enc d140_2 ((X.1.1, (X.1.2.1, (X.1.2.2.1, (x, ())))), (X.2.1.1, ()), ())) (t140_2 X K) (fun m x => by kernel_rfl) fuel X.1.2.2.2.1).symm
theorem o140 : FnOk Tryz.prog 140 e140 := fk n140 (base) Tryz.func140 (Λ := L140) (cF k140_2 nF)
def e197 : GEnt := entOf [.data false (.sl TMapping), .data false (.int .i64), .data false (.int .i64)] [(false, (.int .i64))] fun a => Pu.impl_pageMapping a.1 a.2.1 a.2.2.1
def g197 : Gam := Gam.nil
def n197 : An := { mask := fun | 2 => [1, 2, 6, 9, 10, 11] | _ => [], merge := fun | 4 => some 25 | _ => none }
@[reducible] def d197_2 : SD := ⟨[B,DI,DI,B,B,B,DI,B,B,.data false (.sl .arg TMapping),DI,DI,B,B,B,B,B,B,B,B,B,B,B,B,B,B,B,B], [Z,Z,Z,Z,Z,Z,Z,Z,Z,Z,Z,Z,Z,Z,Z,Z,Z,Z,Z,Z,Z,Z,Z,Z,Z,Z,Z,Z], .none⟩
def t197_2 {R : Type} (X : SD.D d197_2) (K : Ex → AS → Option R) := Pu.impl_pageMapping_T2 (fun y0 => K (.exit 0) (SD.enc d197_2 ((X.1.1, (X.1.2.1, (X.1.2.2.1, (X.1.2.2.2.1, (X.1.2.2.2.2.1, (y0, ())))))), (), ()))) (fun y0 y1 => K .ret (SD.enc d197_2 ((X.1.1, (X.1.2.1, (y0, (X.1.2.2.2.1, (X.1.2.2.2.2.1, (y1, ())))))), (), ()))) X.1.1 X.1.2.1 X.1.2.2.1 X.1.2.2.2.1 X.1.2.2.2.2.1
def l197_2 : LEnt := ⟨d197_2, fun X K => iterL (t197_2 X K) fuel X.1.2.2.2.2.2.1⟩
def L197 : Lam := (Lam.nil).add 2 l197_2
theorem k197_2 : LOk E g197 n197 L197 (loopBody Tryz.f197 0) :=
  lok l197_2 (by kernel_rfl) fuel fun R X K => (loop_iter (σ := Int) (fun x => SD.enc d197_2 ((X.1.1, (X.1.2.1, (X.1.2.2.1, (X.1.2.2.2.1, (X.1.2.2.2.2.1, (x, ())))))), (), ())) (t197_2 X K) (fun m x => by kernel_rfl) fuel X.1.2.2.2.2.2.1).symm
theorem o197 : FnOk Tryz.prog 197 e197 := fk n197 (base) Tryz.func197 (Λ := L197) (cF k197_2 nF)
def e141 : GEnt := entOf [.data false (.sl TMapping)] [(false, .bool)] fun a => Pu.impl_MappingsOk a.1
def g141 : Gam := ((Gam.nil).add 135 e135).add 197 e197
def n141 : An := { mask := fun | 2 => [0, 2, 5, 6, 7] | _ => [], merge := fun | 4 => some 37 | _ => none }
@[reducible] def d141_2 : SD := ⟨[.data false (.sl .arg TMapping),B,DB,B,B,.data false (.sl .arg TMapping),DI,DI,B,B,B,B,B,B,B,B,B,B,B,B,B,B,B,B,B,B,B,B,B,B,B,B,B,B,B,B,B,B,B,B,B,B], [Z,Z,Z,Z,Z,Z,Z,Z,Z,Z,Z,Z,Z,Z,Z,Z,Z,Z,Z,Z,Z,Z,Z,Z,Z,Z,Z,Z,Z,Z,Z,Z,Z,Z,Z,Z,Z,Z,Z,Z,Z,Z], .none⟩
def t141_2 {R : Type} (X : SD.D d141_2) (K : Ex → AS → Option R) := Pu.impl_MappingsOk_T2 (fun y0 => K (.exit 0) (SD.enc d141_2 ((X.1.1, (X.1.2.1, (X.1.2.2.1, (X.1.2.2.2.1, (y0, ()))))), (), ()))) (fun y0 y1 => K .ret (SD.enc d141_2 ((X.1.1, (y0, (X.1.2.2.1, (X.1.2.2.2.1, (y1, ()))))), (), ()))) X.1.1 X.1.2.1 X.1.2.2.1 X.1.2.2.2.1
def l141_2 : LEnt := ⟨d141_2, fun X K => iterL (t141_2 X K) fuel X.1.2.2.2.2.1⟩
def L141 : Lam := (Lam.nil).add 2 l141_2
theorem k141_2 : LOk E g141 n141 L141 (loopBody Tryz.f141 0) :=
  lok l141_2 (by kernel_rfl) fuel fun R X K => (loop_iter (σ := Int) (fun x => SD.enc d141_2 ((X.1.1, (X.1.2.1, (X.1.2.2.1, (X.1.2.2.2.1, (x, ()))))), (), ())) (t141_2 X K) (fun m x => by kernel_rfl) fuel X.1.2.2.2.2.1).symm
theorem o141 : FnOk Tryz.prog 141 e141 := fk n141 (((base).add o135).add o197) Tryz.func141 (Λ := L141) (cF k141_2 nF)
def e145 : GEnt := entOf [.data true TPool] [(false, .bool)] fun a => Pu.impl_PoolOk a.1
def g145 : Gam := (Gam.nil).add 135 e135
def n145 : An := { mask := fun | 5 => [1, 2, 3, 26, 27, 28] | _ => [], merge := fun | 1 => some 21 | 7 => some 43 | _ => none }
@[reducible] def d145_5 : SD := ⟨[B,.ptr 1 0,DB,.data false (.sl (.own (some 36864)) .bool),B,B,B,B,B,B,B,B,B,B,B,B,B,B,B,B,B,B,B,B,B,B,.data false (.sl .arg (.int .i64)),DI,DI,B,B,B,B,B,B,B,B,B,B,B,B,B,B,B,B,B,B,B], [Z,some (.pair (.int .i64) (.pair (.int .i64) (.pair (.int .i64) (.sl .arg (.int .i64))))),Z,Z,Z,Z,Z,Z,Z,Z,Z,Z,Z,Z,Z,Z,Z,Z,Z,Z,Z,Z,Z,Z,Z,Z,Z,Z,Z,Z,Z,Z,Z,Z,Z,Z,Z,Z,Z,Z,Z,Z,Z,Z,Z,Z,Z,Z], .none⟩
def t145_5 {R : Type} (X : SD.D d145_5) (K : Ex → AS → Option R) := Pu.impl_PoolOk_T5 (fun y0 y1 => K (.exit 0) (SD.enc d145_5 ((X.1.1, (y0, (X.1.2.2.1, (X.1.2.2.2.1, (y1, ()))))), (X.2.1.1, ()), ()))) (fun y0 y1 y2 => K .ret (SD.enc d145_5 ((y0, (y1, (X.1.2.2.1, (X.1.2.2.2.1, (y2, ()))))), (X.2.1.1, ()), ()))) X.1.1 X.1.2.2.1 X.1.2.2.2.1 X.2.1.1
def l145_5 : LEnt := ⟨d145_5, fun X K => iterL (t145_5 X K) fuel (X.1.2.1, X.1.2.2.2.2.1)⟩
def L145 : Lam := (Lam.nil).add 5 l145_5
theorem k145_5 : LOk E g145 n145 L145 (loopBody Tryz.f145 0) :=
  lok l145_5 (by kernel_rfl) fuel fun R X K => (loop_iter (σ := (List Bool) × Int) (fun x => SD.enc d145_5 ((X.1.1, (x.1, (X.1.2.2.1, (X.1.2.2.2.1, (x.2, ()))))), (X.2.1.1, ()), ())) (t145_5 X K) (fun m x => by kernel_rfl) fuel (X.1.2.1, X.1.2.2.2.2.1)).symm
theorem o145 : FnOk Tryz.prog 145 e145 := fk n145 ((base).add o135) Tryz.func145 (Λ := L145) (cF k145_5 nF)
def e241 : GEnt := entOf [.data false (.int .i64)] [(false, .bool)] fun a => Pu.impl_ringSize a.1
theorem o241 : FnOk Tryz.prog 241 e241 := fk { merge := fun | 1 => some 2 | _ => none } (base) Tryz.func241 (Λ := Lam.nil) nF
def e262 : GEnt := entOf [.data false (.int .i64), .data false (.int .i64)] [(false, (.int .i64))] fun a => Pu.impl_modulo a.1 a.2.1
theorem o262 : FnOk Tryz.prog 262 e262 := fk {} (base) Tryz.func262 (Λ := Lam.nil) nF
def e242 : GEnt := entOf [.data true TClock] [(false, (.int .i64))] fun a => Pu.impl_RingUsed a.1
theorem o242 : FnOk Tryz.prog 242 e242 := fk {} (((base).add o241).add o262) Tryz.func242 (Λ := Lam.nil) nF
def e198 : GEnt := entOf [.data true TClock] [(false, .bool)] fun a => Pu.impl_RingOk a.1
theorem o198 : FnOk Tryz.prog 198 e198 := fk { merge := fun | 1 => some 2 | _ => none } ((((base).add o135).add o241).add o242) Tryz.func198 (Λ := Lam.nil) nF
def e208 : GEnt := entOf [.data false (.sl (.int .i64))] [(false, (.sl (.own none) (.int .i64)))] fun a => Pu.impl_copyInts a.1
theorem o208 : FnOk Tryz.prog 208 e208 := fk {} (base) Tryz.func208 (Λ := Lam.nil) nF
def e243 : GEnt := entOf [.data true TPool] [(true, (.pair (.int .i64) (.pair (.int .i64) (.pair (.int .i64) (.sl (.own none) (.int .i64))))))] fun a => Pu.impl_copyPool a.1
theorem o243 : FnOk Tryz.prog 243 e243 := fk { mv := [7] } ((base).add o208) Tryz.func243 (Λ := Lam.nil) nF
def e199 : GEnt := entOf [.data true TPool, .data false (.sl (.int .i64))] [(true, (.pair (.int .i64) (.pair (.int .i64) (.pair (.int .i64) (.sl (.own none) (.int .i64)))))), (false, .bool)] fun a => Pu.impl_GiveBuffers a.1 a.2.1
theorem o199 : FnOk Tryz.prog 199 e199 := fk { merge := fun | 3 => some 21 | _ => none, mv := [10, 24] } (((base).add o145).add o243) Tryz.func199 (Λ := Lam.nil) nF
def e142 : GEnt := entOf [.data true TTxQueue] [(false, .bool)] fun a => Pu.impl_TxOk a.1
def g142 : Gam := ((((Gam.nil).add 135 e135).add 145 e145).add 198 e198).add 199 e199
def n142 : An := { mask := fun | 6 => [1, 2, 3, 4, 30, 31, 32] | _ => [], merge := fun | 1 => some 24 | 8 => some 50 | _ => none, mv := [55] }
@[reducible] def d142_6 : SD := ⟨[B,.ptr 1 0,DB,DI,.data false (.sl (.own (some 49152)) (.int .i64)),B,B,B,B,B,B,B,B,B,B,B,B,B,B,B,B,B,B,B,B,B,B,B,B,B,.data false (.sl .arg TSent),DI,DI,B,B,B,B,B,B,B,B,B,B,B,B,B,B,B,B,B,B,B,B,B,B,B,B,B,B,B,B,B,B,B,B,B,B,B], [Z,some (.pair (.pair (.int .i64) (.pair (.int .i64) (.pair (.int .i64) (.int .i64)))) (.pair (.pair (.int .i64) (.pair (.int .i64) (.pair (.int .i64) (.sl .arg (.int .i64))))) (.pair (.sl .arg TSent) (.int .i64)))),Z,Z,Z,Z,Z,Z,Z,Z,Z,Z,Z,Z,Z,Z,Z,Z,Z,Z,Z,Z,Z,Z,Z,Z,Z,Z,Z,Z,Z,Z,Z,Z,Z,Z,Z,Z,Z,Z,Z,Z,Z,Z,Z,Z,Z,Z,Z,Z,Z,Z,Z,Z,Z,Z,Z,Z,Z,Z,Z,Z,Z,Z,Z,Z,Z,Z], .none⟩
def t142_6 {R : Type} (X : SD.D d142_6) (K : Ex → AS → Option R) := Pu.impl_TxOk_T6 (fun y0 y1 y2 => K (.exit 0) (SD.enc d142_6 ((X.1.1, (y0, (y1, (X.1.2.2.2.1, (X.1.2.2.2.2.1, (y2, ())))))), (X.2.1.1, ()), ()))) (fun y0 y1 y2 y3 => K .ret (SD.enc d142_6 ((y0, (y1, (y2, (X.1.2.2.2.1, (X.1.2.2.2.2.1, (y3, ())))))), (X.2.1.1, ()), ()))) X.1.1 X.1.2.2.2.1 X.1.2.2.2.2.1 X.2.1.1
def l142_6 : LEnt := ⟨d142_6, fun X K => iterL (t142_6 X K) fuel (X.1.2.1, X.1.2.2.1, X.1.2.2.2.2.2.1)⟩
def L142 : Lam := (Lam.nil).add 6 l142_6
theorem k142_6 : LOk E g142 n142 L142 (loopBody Tryz.f142 0) :=
  lok l142_6 (by kernel_rfl) fuel fun R X K => (loop_iter (σ := Int × (List Int) × Int) (fun x => SD.enc d142_6 ((X.1.1, (x.1, (x.2.1, (X.1.2.2.2.1, (X.1.2.2.2.2.1, (x.2.2, ())))))), (X.2.1.1, ()), ())) (t142_6 X K) (fun m x => by kernel_rfl) fuel (X.1.2.1, X.1.2.2.1, X.1.2.2.2.2.2.1)).symm
theorem o142 : FnOk Tryz.prog 142 e142 := fk n142 (((((base).add o135).add o145).add o198).add o199) Tryz.func142 (Λ := L142) (cF k142_6 nF)
def e200 : GEnt := entOf [.data true TBucket] [(false, .bool)] fun a => Pu.impl_QueueOk a.1
theorem o200 : FnOk Tryz.prog 200 e200 := fk { merge := fun | 1 => some 2 | _ => none } (((base).add o135).add o241) Tryz.func200 (Λ := Lam.nil) nF
def e244 : GEnt := entOf [.data true TSegment] [(false, .bool)] fun a => Pu.impl_SegmentOk a.1
theorem o244 : FnOk Tryz.prog 244 e244 := fk { merge := fun | 1 => some 18 | 5 => some 2 | 7 => some 2 | _ => none } ((base).add o135) Tryz.func244 (Λ := Lam.nil) nF
def e245 : GEnt := entOf [.data false (.int .i64)] [(false, .bool)] fun a => Pu.impl_streaming a.1
theorem o245 : FnOk Tryz.prog 245 e245 := fk { merge := fun | 1 => some 2 | _ => none } (base) Tryz.func245 (Λ := Lam.nil) nF
def e201 : GEnt := entOf [.data true TPacket] [(false, .bool)] fun a => Pu.impl_SuperOk a.1
theorem o201 : FnOk Tryz.prog 201 e201 := fk { merge := fun | 1 => some 2 | _ => none } ((((base).add o135).add o244).add o245) Tryz.func201 (Λ := Lam.nil) nF
def e144 : GEnt := entOf [.data true TRxQueue] [(false, .bool)] fun a => Pu.impl_RxOk a.1
theorem o144 : FnOk Tryz.prog 144 e144 := fk { merge := fun | 1 => some 42 | 5 => some 2 | _ => none } (((((base).add o135).add o198).add o200).add o201) Tryz.func144 (Λ := Lam.nil) nF
def e202 : GEnt := entOf [.data true TVector] [(false, .bool)] fun a => Pu.impl_due a.1
theorem o202 : FnOk Tryz.prog 202 e202 := fk { merge := fun | 1 => some 2 | _ => none } (base) Tryz.func202 (Λ := Lam.nil) nF
def e146 : GEnt := entOf [.data true TVector] [(false, .bool)] fun a => Pu.impl_VectorOk a.1
theorem o146 : FnOk Tryz.prog 146 e146 := fk { merge := fun | 1 => some 24 | 3 => some 2 | _ => none } (((base).add o135).add o202) Tryz.func146 (Λ := Lam.nil) nF
def e246 : GEnt := entOf [.data true TRule] [(false, .bool)] fun a => Pu.impl_RuleOk a.1
theorem o246 : FnOk Tryz.prog 246 e246 := fk { merge := fun | 1 => some 33 | 3 => some 54 | 5 => some 2 | _ => none } ((base).add o135) Tryz.func246 (Λ := Lam.nil) nF
def e203 : GEnt := entOf [.data false (.sl TRule)] [(false, .bool)] fun a => Pu.impl_RulesOk a.1
def g203 : Gam := (Gam.nil).add 246 e246
def n203 : An := { mask := fun | 2 => [0, 2, 5, 6, 7] | _ => [] }
@[reducible] def d203_2 : SD := ⟨[.data false (.sl .arg TRule),B,DB,B,B,.data false (.sl .arg TRule),DI,DI,B,B,B,B,B,B,B,B,B,B], [Z,Z,Z,Z,Z,Z,Z,Z,Z,Z,Z,Z,Z,Z,Z,Z,Z,Z], .none⟩
def t203_2 {R : Type} (X : SD.D d203_2) (K : Ex → AS → Option R) := Pu.impl_RulesOk_T2 (fun y0 => K (.exit 0) (SD.enc d203_2 ((X.1.1, (X.1.2.1, (X.1.2.2.1, (X.1.2.2.2.1, (y0, ()))))), (), ()))) (fun y0 y1 => K .ret (SD.enc d203_2 ((X.1.1, (y0, (X.1.2.2.1, (X.1.2.2.2.1, (y1, ()))))), (), ()))) X.1.1 X.1.2.1 X.1.2.2.1 X.1.2.2.2.1
def l203_2 : LEnt := ⟨d203_2, fun X K => iterL (t203_2 X K) fuel X.1.2.2.2.2.1⟩
def L203 : Lam := (Lam.nil).add 2 l203_2
theorem k203_2 : LOk E g203 n203 L203 (loopBody Tryz.f203 0) :=
  lok l203_2 (by kernel_rfl) fuel fun R X K => (loop_iter (σ := Int) (fun x => SD.enc d203_2 ((X.1.1, (X.1.2.1, (X.1.2.2.1, (X.1.2.2.2.1, (x, ()))))), (), ())) (t203_2 X K) (fun m x => by kernel_rfl) fuel X.1.2.2.2.2.1).symm
theorem o203 : FnOk Tryz.prog 203 e203 := fk n203 ((base).add o246) Tryz.func203 (Λ := L203) (cF k203_2 nF)
def e247 : GEnt := entOf [.data true (.sl TSlot), .data true TFlow] [(false, (.int .i64))] fun a => Pu.impl_slotOf a.1 a.2.1
def g247 : Gam := Gam.nil
def n247 : An := { mask := fun | 2 => [3, 4, 8, 9, 10] | _ => [], merge := fun | 4 => some 23 | _ => none }
@[reducible] def d247_2 : SD := ⟨[B,B,B,.ptr 3 0,DI,B,B,B,.data false (.sl .arg TSlot),DI,DI,B,B,B,B,B,B,B,B,B,B,B,B,B,B,B], [Z,Z,Z,some (.pair (.int .i64) (.pair (.int .i64) (.pair (.int .i64) (.pair (.int .i64) (.int .i64))))),Z,Z,Z,Z,Z,Z,Z,Z,Z,Z,Z,Z,Z,Z,Z,Z,Z,Z,Z,Z,Z,Z], .none⟩
def t247_2 {R : Type} (X : SD.D d247_2) (K : Ex → AS → Option R) := Pu.impl_slotOf_T2 (fun y0 => K (.exit 0) (SD.enc d247_2 ((X.1.1, (X.1.2.1, (X.1.2.2.1, (y0, ())))), (X.2.1.1, ()), ()))) (fun y0 y1 => K .ret (SD.enc d247_2 ((y0, (X.1.2.1, (X.1.2.2.1, (y1, ())))), (X.2.1.1, ()), ()))) X.1.1 X.1.2.1 X.1.2.2.1 X.2.1.1
def l247_2 : LEnt := ⟨d247_2, fun X K => iterL (t247_2 X K) fuel X.1.2.2.2.1⟩
def L247 : Lam := (Lam.nil).add 2 l247_2
theorem k247_2 : LOk E g247 n247 L247 (loopBody Tryz.f247 0) :=
  lok l247_2 (by kernel_rfl) fuel fun R X K => (loop_iter (σ := Int) (fun x => SD.enc d247_2 ((X.1.1, (X.1.2.1, (X.1.2.2.1, (x, ())))), (X.2.1.1, ()), ())) (t247_2 X K) (fun m x => by kernel_rfl) fuel X.1.2.2.2.1).symm
theorem o247 : FnOk Tryz.prog 247 e247 := fk n247 (base) Tryz.func247 (Λ := L247) (cF k247_2 nF)
def e263 : GEnt := entOf [.data true TFlow] [(false, (.int .i64))] fun a => Pu.impl_HomeSlot a.1
def g263 : Gam := (Gam.nil).add 262 e262
def n263 : An := { mask := fun | 3 => [3, 16, 17, 18] | _ => [] }
@[reducible] def d263_3 : SD := ⟨[B,B,B,DI,B,B,B,B,B,B,B,B,B,B,B,B,.data false (.sl (.own (some 196608)) (.int .i64)),DI,DI,B,B,B,B,B,B,B,B,B,B], [Z,Z,Z,Z,Z,Z,Z,Z,Z,Z,Z,Z,Z,Z,Z,Z,Z,Z,Z,Z,Z,Z,Z,Z,Z,Z,Z,Z,Z], .none⟩
def t263_3 {R : Type} (X : SD.D d263_3) (K : Ex → AS → Option R) := Pu.impl_HomeSlot_T3 (fun y0 y1 => K (.exit 0) (SD.enc d263_3 ((y0, (X.1.2.1, (X.1.2.2.1, (y1, ())))), (), ()))) X.1.2.1 X.1.2.2.1
def l263_3 : LEnt := ⟨d263_3, fun X K => iterL (t263_3 X K) fuel (X.1.1, X.1.2.2.2.1)⟩
def L263 : Lam := (Lam.nil).add 3 l263_3
theorem k263_3 : LOk E g263 n263 L263 (loopBody Tryz.f263 0) :=
  lok l263_3 (by kernel_rfl) fuel fun R X K => (loop_iter (σ := Int × Int) (fun x => SD.enc d263_3 ((x.1, (X.1.2.1, (X.1.2.2.1, (x.2, ())))), (), ())) (t263_3 X K) (fun m x => by kernel_rfl) fuel (X.1.1, X.1.2.2.2.1)).symm
theorem o263 : FnOk Tryz.prog 263 e263 := fk n263 ((base).add o262) Tryz.func263 (Λ := L263) (cF k263_3 nF)
def e248 : GEnt := entOf [.data true TFlow] [(false, (.sl (.own none) (.int .i64)))] fun a => Pu.impl_wayOf a.1
def g248 : Gam := (Gam.nil).add 263 e263
def n248 : An := { mask := fun | 3 => [1, 3, 4] | _ => [], mv := [10, 18] }
@[reducible] def d248_3 : SD := ⟨[B,.ptr 1 0,B,.data false (.sl (.own (some 36864)) (.int .i64)),DI,B,B,B,B,B,B,B,B,B,B,B,B,B,B], [Z,some (.pair (.int .i64) (.pair (.int .i64) (.pair (.int .i64) (.pair (.int .i64) (.int .i64))))),Z,Z,Z,Z,Z,Z,Z,Z,Z,Z,Z,Z,Z,Z,Z,Z,Z], .none⟩
def t248_3 {R : Type} (X : SD.D d248_3) (K : Ex → AS → Option R) := Pu.impl_wayOf_T3 (fun y0 y1 => K (.exit 0) (SD.enc d248_3 ((y0, (y1, ())), (X.2.1.1, ()), ()))) X.2.1.1
def l248_3 : LEnt := ⟨d248_3, fun X K => iterL (t248_3 X K) fuel (X.1.1, X.1.2.1)⟩
def L248 : Lam := (Lam.nil).add 3 l248_3
theorem k248_3 : LOk E g248 n248 L248 (loopBody Tryz.f248 0) :=
  lok l248_3 (by kernel_rfl) fuel fun R X K => (loop_iter (σ := (List Int) × Int) (fun x => SD.enc d248_3 ((x.1, (x.2, ())), (X.2.1.1, ()), ())) (t248_3 X K) (fun m x => by kernel_rfl) fuel (X.1.1, X.1.2.1)).symm
theorem o248 : FnOk Tryz.prog 248 e248 := fk n248 ((base).add o263) Tryz.func248 (Λ := L248) (cF k248_3 nF)
def e204 : GEnt := entOf [.data true (.sl TSlot)] [(false, .bool)] fun a => Pu.impl_TableOk a.1
def g204 : Gam := (((Gam.nil).add 135 e135).add 247 e247).add 248 e248
def n204 : An := { mask := fun | 4 => [1, 2, 12, 13, 14] | 14 => [1, 2, 3, 12, 13, 14, 49, 50, 51] | _ => [], merge := fun | 6 => some 28 | 9 => some 40 | _ => none }
@[reducible] def d204_14 : SD := ⟨[B,.ptr 1 0,DB,DI,B,B,B,B,B,B,B,B,.data false (.sl .arg TSlot),DI,DI,B,B,B,B,B,B,B,B,B,B,B,B,B,B,B,B,B,B,B,B,B,B,B,B,B,B,B,B,B,B,B,B,B,B,.data false (.sl (.own (some 602112)) (.int .i64)),DI,DI,B,B,B,B,B,B,B,B,B,B,B,B,B,B,B], [Z,some (.sl .arg TSlot),Z,Z,Z,Z,Z,Z,Z,Z,Z,Z,Z,Z,Z,Z,Z,Z,Z,Z,Z,Z,Z,Z,Z,Z,Z,Z,Z,Z,Z,Z,Z,Z,Z,Z,Z,Z,Z,Z,Z,Z,Z,Z,Z,Z,Z,Z,Z,Z,Z,Z,Z,Z,Z,Z,Z,Z,Z,Z,Z,Z,Z,Z,Z,Z,Z], .none⟩
def t204_14 {R : Type} (X : SD.D d204_14) (K : Ex → AS → Option R) := Pu.impl_TableOk_T14 (fun y0 => K (.exit 2) (SD.enc d204_14 ((X.1.1, (X.1.2.1, (X.1.2.2.1, (X.1.2.2.2.1, (X.1.2.2.2.2.1, (X.1.2.2.2.2.2.1, (X.1.2.2.2.2.2.2.1, (y0, ())))))))), (X.2.1.1, ()), ()))) (fun y0 y1 => K .ret (SD.enc d204_14 ((y0, (X.1.2.1, (X.1.2.2.1, (X.1.2.2.2.1, (X.1.2.2.2.2.1, (X.1.2.2.2.2.2.1, (X.1.2.2.2.2.2.2.1, (y1, ())))))))), (X.2.1.1, ()), ()))) X.1.1 X.1.2.1 X.1.2.2.1 X.1.2.2.2.1 X.1.2.2.2.2.1 X.1.2.2.2.2.2.1 X.1.2.2.2.2.2.2.1 X.2.1.1
def l204_14 : LEnt := ⟨d204_14, fun X K => iterL (t204_14 X K) fuel X.1.2.2.2.2.2.2.2.1⟩
@[reducible] def d204_4 : SD := ⟨[B,.ptr 1 0,DB,B,B,B,B,B,B,B,B,B,.data false (.sl .arg TSlot),DI,DI,B,B,B,B,B,B,B,B,B,B,B,B,B,B,B,B,B,B,B,B,B,B,B,B,B,B,B,B,B,B,B,B,B,B,B,B,B,B,B,B,B,B,B,B,B,B,B,B,B,B,B,B], [Z,some (.sl .arg TSlot),Z,Z,Z,Z,Z,Z,Z,Z,Z,Z,Z,Z,Z,Z,Z,Z,Z,Z,Z,Z,Z,Z,Z,Z,Z,Z,Z,Z,Z,Z,Z,Z,Z,Z,Z,Z,Z,Z,Z,Z,Z,Z,Z,Z,Z,Z,Z,Z,Z,Z,Z,Z,Z,Z,Z,Z,Z,Z,Z,Z,Z,Z,Z,Z,Z], .none⟩
def t204_4 {R : Type} (X : SD.D d204_4) (K : Ex → AS → Option R) := Pu.impl_TableOk_T4 (fun y0 => K (.exit 0) (SD.enc d204_4 ((X.1.1, (X.1.2.1, (X.1.2.2.1, (y0, ())))), (X.2.1.1, ()), ()))) (fun y0 y1 => K .ret (SD.enc d204_4 ((y0, (X.1.2.1, (X.1.2.2.1, (y1, ())))), (X.2.1.1, ()), ()))) X.1.1 X.1.2.1 X.1.2.2.1 X.2.1.1
def l204_4 : LEnt := ⟨d204_4, fun X K => iterL (t204_4 X K) fuel X.1.2.2.2.1⟩
def L204 : Lam := ((Lam.nil).add 14 l204_14).add 4 l204_4
theorem k204_14 : LOk E g204 n204 L204 (loopBody Tryz.f204 1) :=
  lok l204_14 (by kernel_rfl) fuel fun R X K => (loop_iter (σ := Int) (fun x => SD.enc d204_14 ((X.1.1, (X.1.2.1, (X.1.2.2.1, (X.1.2.2.2.1, (X.1.2.2.2.2.1, (X.1.2.2.2.2.2.1, (X.1.2.2.2.2.2.2.1, (x, ())))))))), (X.2.1.1, ()), ())) (t204_14 X K) (fun m x => by kernel_rfl) fuel X.1.2.2.2.2.2.2.2.1).symm
theorem k204_4 : LOk E g204 n204 L204 (loopBody Tryz.f204 0) :=
  lok l204_4 (by kernel_rfl) fuel fun R X K => (loop_iter (σ := Int) (fun x => SD.enc d204_4 ((X.1.1, (X.1.2.1, (X.1.2.2.1, (x, ())))), (X.2.1.1, ()), ())) (t204_4 X K) (fun m x => by kernel_rfl) fuel X.1.2.2.2.1).symm
theorem o204 : FnOk Tryz.prog 204 e204 := fk n204 ((((base).add o135).add o247).add o248) Tryz.func204 (Λ := L204) (cF k204_4 (cF k204_14 nF))
def e249 : GEnt := entOf [.data false (.int .i64)] [(false, .bool)] fun a => Pu.impl_tableSize a.1
theorem o249 : FnOk Tryz.prog 249 e249 := fk { merge := fun | 1 => some 2 | _ => none } (base) Tryz.func249 (Λ := Lam.nil) nF
def e205 : GEnt := entOf [.data true TSpread, .data false (.int .i64)] [(false, .bool)] fun a => Pu.impl_SpreadOk a.1 a.2.1
def g205 : Gam := ((Gam.nil).add 135 e135).add 249 e249
def n205 : An := { mask := fun | 4 => [1, 4, 24, 25, 26] | _ => [], merge := fun | 1 => some 22 | _ => none }
@[reducible] def d205_4 : SD := ⟨[B,DI,B,B,DB,B,B,B,B,B,B,B,B,B,B,B,B,B,B,B,B,B,B,B,.data false (.sl .arg (.int .i64)),DI,DI,B,B,B,B,B,B,B,B,B], [Z,Z,Z,Z,Z,Z,Z,Z,Z,Z,Z,Z,Z,Z,Z,Z,Z,Z,Z,Z,Z,Z,Z,Z,Z,Z,Z,Z,Z,Z,Z,Z,Z,Z,Z,Z], .none⟩
def t205_4 {R : Type} (X : SD.D d205_4) (K : Ex → AS → Option R) := Pu.impl_SpreadOk_T4 (fun y0 => K (.exit 0) (SD.enc d205_4 ((X.1.1, (X.1.2.1, (X.1.2.2.1, (X.1.2.2.2.1, (y0, ()))))), (), ()))) (fun y0 y1 => K .ret (SD.enc d205_4 ((X.1.1, (y0, (X.1.2.2.1, (X.1.2.2.2.1, (y1, ()))))), (), ()))) X.1.1 X.1.2.1 X.1.2.2.1 X.1.2.2.2.1
def l205_4 : LEnt := ⟨d205_4, fun X K => iterL (t205_4 X K) fuel X.1.2.2.2.2.1⟩
def L205 : Lam := (Lam.nil).add 4 l205_4
theorem k205_4 : LOk E g205 n205 L205 (loopBody Tryz.f205 0) :=
  lok l205_4 (by kernel_rfl) fuel fun R X K => (loop_iter (σ := Int) (fun x => SD.enc d205_4 ((X.1.1, (X.1.2.1, (X.1.2.2.1, (X.1.2.2.2.1, (x, ()))))), (), ())) (t205_4 X K) (fun m x => by kernel_rfl) fuel X.1.2.2.2.2.1).symm
theorem o205 : FnOk Tryz.prog 205 e205 := fk n205 (((base).add o135).add o249) Tryz.func205 (Λ := L205) (cF k205_4 nF)
def e147 : GEnt := entOf [.data true TSteering, .data false (.int .i64)] [(false, .bool)] fun a => Pu.impl_SteeringOk a.1 a.2.1
def g147 : Gam := (((Gam.nil).add 203 e203).add 204 e204).add 205 e205
def n147 : An := { mask := fun | 4 => [1, 2, 4, 27, 28, 29] | 10 => [1, 4, 45, 46, 47] | _ => [], merge := fun | 1 => some 25 | 6 => some 41 | 12 => some 59 | _ => none }
@[reducible] def d147_4 : SD := ⟨[B,DI,.ptr 2 0,B,DB,B,B,B,B,B,B,B,B,B,B,B,B,B,B,B,B,B,B,B,B,B,B,.data false (.sl .arg TRule),DI,DI,B,B,B,B,B,B,B,B,B,B,B,B,B,B,B,B,B,B,B,B,B,B,B,B,B,B,B,B,B,B,B], [Z,Z,some (.pair (.sl .arg TRule) (.pair (.sl .arg TSlot) (.pair .str (.sl .arg (.int .i64))))),Z,Z,Z,Z,Z,Z,Z,Z,Z,Z,Z,Z,Z,Z,Z,Z,Z,Z,Z,Z,Z,Z,Z,Z,Z,Z,Z,Z,Z,Z,Z,Z,Z,Z,Z,Z,Z,Z,Z,Z,Z,Z,Z,Z,Z,Z,Z,Z,Z,Z,Z,Z,Z,Z,Z,Z,Z,Z], .none⟩
def t147_4 {R : Type} (X : SD.D d147_4) (K : Ex → AS → Option R) := Pu.impl_SteeringOk_T4 (fun y0 => K (.exit 0) (SD.enc d147_4 ((X.1.1, (X.1.2.1, (X.1.2.2.1, (X.1.2.2.2.1, (y0, ()))))), (X.2.1.1, ()), ()))) (fun y0 y1 => K .ret (SD.enc d147_4 ((X.1.1, (y0, (X.1.2.2.1, (X.1.2.2.2.1, (y1, ()))))), (X.2.1.1, ()), ()))) X.1.1 X.1.2.1 X.1.2.2.1 X.1.2.2.2.1 X.2.1.1
def l147_4 : LEnt := ⟨d147_4, fun X K => iterL (t147_4 X K) fuel X.1.2.2.2.2.1⟩
@[reducible] def d147_10 : SD := ⟨[B,DI,B,B,DB,B,B,B,B,B,B,B,B,B,B,B,B,B,B,B,B,B,B,B,B,B,B,B,B,B,B,B,B,B,B,B,B,B,B,B,B,B,B,B,B,.data false (.sl .arg TSlot),DI,DI,B,B,B,B,B,B,B,B,B,B,B,B,B], [Z,Z,Z,Z,Z,Z,Z,Z,Z,Z,Z,Z,Z,Z,Z,Z,Z,Z,Z,Z,Z,Z,Z,Z,Z,Z,Z,Z,Z,Z,Z,Z,Z,Z,Z,Z,Z,Z,Z,Z,Z,Z,Z,Z,Z,Z,Z,Z,Z,Z,Z,Z,Z,Z,Z,Z,Z,Z,Z,Z,Z], .none⟩
def t147_10 {R : Type} (X : SD.D d147_10) (K : Ex → AS → Option R) := Pu.impl_SteeringOk_T10 (fun y0 => K (.exit 2) (SD.enc d147_10 ((X.1.1, (X.1.2.1, (X.1.2.2.1, (X.1.2.2.2.1, (y0, ()))))), (), ()))) (fun y0 y1 => K .ret (SD.enc d147_10 ((X.1.1, (y0, (X.1.2.2.1, (X.1.2.2.2.1, (y1, ()))))), (), ()))) X.1.1 X.1.2.1 X.1.2.2.1 X.1.2.2.2.1
def l147_10 : LEnt := ⟨d147_10, fun X K => iterL (t147_10 X K) fuel X.1.2.2.2.2.1⟩
def L147 : Lam := ((Lam.nil).add 4 l147_4).add 10 l147_10
theorem k147_4 : LOk E g147 n147 L147 (loopBody Tryz.f147 0) :=
  lok l147_4 (by kernel_rfl) fuel fun R X K => (loop_iter (σ := Int) (fun x => SD.enc d147_4 ((X.1.1, (X.1.2.1, (X.1.2.2.1, (X.1.2.2.2.1, (x, ()))))), (X.2.1.1, ()), ())) (t147_4 X K) (fun m x => by kernel_rfl) fuel X.1.2.2.2.2.1).symm
theorem k147_10 : LOk E g147 n147 L147 (loopBody Tryz.f147 1) :=
  lok l147_10 (by kernel_rfl) fuel fun R X K => (loop_iter (σ := Int) (fun x => SD.enc d147_10 ((X.1.1, (X.1.2.1, (X.1.2.2.1, (X.1.2.2.2.1, (x, ()))))), (), ())) (t147_10 X K) (fun m x => by kernel_rfl) fuel X.1.2.2.2.2.1).symm
theorem o147 : FnOk Tryz.prog 147 e147 := fk n147 ((((base).add o203).add o204).add o205) Tryz.func147 (Λ := L147) (cF k147_4 (cF k147_10 nF))
def e70 : GEnt := entOf [.data true THost] [(false, .bool)] fun a => Pu.impl_HostOk a.1
def g70 : Gam := (((((((((Gam.nil).add 135 e135).add 140 e140).add 141 e141).add 142 e142).add 143 e143).add 144 e144).add 145 e145).add 146 e146).add 147 e147
def n70 : An := { mask := fun | 5 => [1, 2, 3, 61, 62] | 12 => [1, 2, 3, 103, 104, 105] | _ => [], merge := fun | 2 => some 58 | 7 => some 89 | _ => none }
@[reducible] def d70_5 : SD := ⟨[B,.ptr 1 0,DB,DI,B,B,B,B,B,B,B,B,B,B,B,B,B,B,B,B,B,B,B,B,B,B,B,B,B,B,B,B,B,B,B,B,B,B,B,B,B,B,B,B,B,B,B,B,B,B,B,B,B,B,B,B,B,B,B,B,B,DI,DI,B,B,B,B,B,B,B,B,B,B,B,B,B,B,B,B,B,B,B,B,B,B,B,B,B,B,B,B,B,B,B,B,B,B,B,B,B,B,B,B,B,B,B,B,B,B,B,B,B,B,B,B,B,B], [Z,some (.pair (.sl .arg .str) (.pair (.sl .arg TMapping) (.pair (.pair (.pair (.int .i64) (.pair (.int .i64) (.pair (.int .i64) (.int .i64)))) (.pair (.pair (.int .i64) (.pair (.int .i64) (.pair (.int .i64) (.sl .arg (.int .i64))))) (.pair (.sl .arg TSent) (.int .i64)))) (.pair (.sl .arg TRxQueue) (.pair (.sl .arg TPool) (.pair (.sl .arg TVector) (.pair (.sl .arg .bool) (.pair (.pair (.int .i64) (.pair .bool (.sl .arg (.int .i64)))) (.pair (.pair (.sl .arg TRule) (.pair (.sl .arg TSlot) (.pair .str (.sl .arg (.int .i64))))) (.pair (.sl .arg TStream) (.pair .bool (.pair (.sl .arg .str) (.pair (.sl .arg (.int .i64)) (.pair (.sl .arg (.int .i64)) (.pair (.int .i64) (.pair (.int .i64) (.pair (.int .i64) (.pair (.int .i64) (.int .i64))))))))))))))))))),Z,Z,Z,Z,Z,Z,Z,Z,Z,Z,Z,Z,Z,Z,Z,Z,Z,Z,Z,Z,Z,Z,Z,Z,Z,Z,Z,Z,Z,Z,Z,Z,Z,Z,Z,Z,Z,Z,Z,Z,Z,Z,Z,Z,Z,Z,Z,Z,Z,Z,Z,Z,Z,Z,Z,Z,Z,Z,Z,Z,Z,Z,Z,Z,Z,Z,Z,Z,Z,Z,Z,Z,Z,Z,Z,Z,Z,Z,Z,Z,Z,Z,Z,Z,Z,Z,Z,Z,Z,Z,Z,Z,Z,Z,Z,Z,Z,Z,Z,Z,Z,Z,Z,Z,Z,Z,Z,Z,Z,Z,Z,Z,Z,Z,Z], .none⟩
def t70_5 {R : Type} (X : SD.D d70_5) (K : Ex → AS → Option R) := Pu.impl_HostOk_T5 (fun y0 => K (.exit 0) (SD.enc d70_5 ((X.1.1, (X.1.2.1, (X.1.2.2.1, (y0, ())))), (X.2.1.1, ()), ()))) (fun y0 y1 => K .ret (SD.enc d70_5 ((y0, (X.1.2.1, (X.1.2.2.1, (y1, ())))), (X.2.1.1, ()), ()))) X.1.1 X.1.2.1 X.1.2.2.1 X.2.1.1
def l70_5 : LEnt := ⟨d70_5, fun X K => iterL (t70_5 X K) fuel X.1.2.2.2.1⟩
@[reducible] def d70_12 : SD := ⟨[B,.ptr 1 0,DB,DI,B,B,B,B,B,B,B,B,B,B,B,B,B,B,B,B,B,B,B,B,B,B,B,B,B,B,B,B,B,B,B,B,B,B,B,B,B,B,B,B,B,B,B,B,B,B,B,B,B,B,B,B,B,B,B,B,B,B,B,B,B,B,B,B,B,B,B,B,B,B,B,B,B,B,B,B,B,B,B,B,B,B,B,B,B,B,B,B,B,B,B,B,B,B,B,B,B,B,B,.data false (.sl (.own (some 1265664)) (.int .i64)),DI,DI,B,B,B,B,B,B,B,B,B,B,B], [Z,some (.pair (.sl .arg .str) (.pair (.sl .arg TMapping) (.pair (.pair (.pair (.int .i64) (.pair (.int .i64) (.pair (.int .i64) (.int .i64)))) (.pair (.pair (.int .i64) (.pair (.int .i64) (.pair (.int .i64) (.sl .arg (.int .i64))))) (.pair (.sl .arg TSent) (.int .i64)))) (.pair (.sl .arg TRxQueue) (.pair (.sl .arg TPool) (.pair (.sl .arg TVector) (.pair (.sl .arg .bool) (.pair (.pair (.int .i64) (.pair .bool (.sl .arg (.int .i64)))) (.pair (.pair (.sl .arg TRule) (.pair (.sl .arg TSlot) (.pair .str (.sl .arg (.int .i64))))) (.pair (.sl .arg TStream) (.pair .bool (.pair (.sl .arg .str) (.pair (.sl .arg (.int .i64)) (.pair (.sl .arg (.int .i64)) (.pair (.int .i64) (.pair (.int .i64) (.pair (.int .i64) (.pair (.int .i64) (.int .i64))))))))))))))))))),Z,Z,Z,Z,Z,Z,Z,Z,Z,Z,Z,Z,Z,Z,Z,Z,Z,Z,Z,Z,Z,Z,Z,Z,Z,Z,Z,Z,Z,Z,Z,Z,Z,Z,Z,Z,Z,Z,Z,Z,Z,Z,Z,Z,Z,Z,Z,Z,Z,Z,Z,Z,Z,Z,Z,Z,Z,Z,Z,Z,Z,Z,Z,Z,Z,Z,Z,Z,Z,Z,Z,Z,Z,Z,Z,Z,Z,Z,Z,Z,Z,Z,Z,Z,Z,Z,Z,Z,Z,Z,Z,Z,Z,Z,Z,Z,Z,Z,Z,Z,Z,Z,Z,Z,Z,Z,Z,Z,Z,Z,Z,Z,Z,Z,Z], .none⟩
def t70_12 {R : Type} (X : SD.D d70_12) (K : Ex → AS → Option R) := Pu.impl_HostOk_T12 (fun y0 => K (.exit 2) (SD.enc d70_12 ((X.1.1, (X.1.2.1, (X.1.2.2.1, (X.1.2.2.2.1, (y0, ()))))), (X.2.1.1, ()), ()))) (fun y0 y1 => K .ret (SD.enc d70_12 ((y0, (X.1.2.1, (X.1.2.2.1, (X.1.2.2.2.1, (y1, ()))))), (X.2.1.1, ()), ()))) X.1.1 X.1.2.1 X.1.2.2.1 X.1.2.2.2.1 X.2.1.1
def l70_12 : LEnt := ⟨d70_12, fun X K => iterL (t70_12 X K) fuel X.1.2.2.2.2.1⟩
def L70 : Lam := ((Lam.nil).add 5 l70_5).add 12 l70_12
theorem k70_5 : LOk E g70 n70 L70 (loopBody Tryz.f70 0) :=
  lok l70_5 (by kernel_rfl) fuel fun R X K => (loop_iter (σ := Int) (fun x => SD.enc d70_5 ((X.1.1, (X.1.2.1, (X.1.2.2.1, (x, ())))), (X.2.1.1, ()), ())) (t70_5 X K) (fun m x => by kernel_rfl) fuel X.1.2.2.2.1).symm
theorem k70_12 : LOk E g70 n70 L70 (loopBody Tryz.f70 1) :=
  lok l70_12 (by kernel_rfl) fuel fun R X K => (loop_iter (σ := Int) (fun x => SD.enc d70_12 ((X.1.1, (X.1.2.1, (X.1.2.2.1, (X.1.2.2.2.1, (x, ()))))), (X.2.1.1, ()), ())) (t70_12 X K) (fun m x => by kernel_rfl) fuel X.1.2.2.2.2.1).symm
theorem o70 : FnOk Tryz.prog 70 e70 := fk n70 ((((((((((base).add o135).add o140).add o141).add o142).add o143).add o144).add o145).add o146).add o147) Tryz.func70 (Λ := L70) (cF k70_5 (cF k70_12 nF))
def e148 : GEnt := entOf [.data false (.sl (.int .i64)), .data false (.sl (.int .i64))] [(false, .bool)] fun a => Pu.slices_Equal_int a.1 a.2.1
def g148 : Gam := Gam.nil
def n148 : An := { mask := fun | 4 => [0, 1, 4, 12, 13] | _ => [] }
@[reducible] def d148_4 : SD := ⟨[.data false (.sl .arg (.int .i64)),.data false (.sl .arg (.int .i64)),B,B,DB,B,B,B,B,B,B,B,DI,DI,B,B,B,B,B,B,B,B,B,B,B,B], [Z,Z,Z,Z,Z,Z,Z,Z,Z,Z,Z,Z,Z,Z,Z,Z,Z,Z,Z,Z,Z,Z,Z,Z,Z,Z], .none⟩
def t148_4 {R : Type} (X : SD.D d148_4) (K : Ex → AS → Option R) := Pu.slices_Equal_int_T4 (fun y0 => K (.exit 0) (SD.enc d148_4 ((X.1.1, (X.1.2.1, (X.1.2.2.1, (X.1.2.2.2.1, (y0, ()))))), (), ()))) (fun y0 y1 => K .ret (SD.enc d148_4 ((X.1.1, (X.1.2.1, (y0, (X.1.2.2.2.1, (y1, ()))))), (), ()))) X.1.1 X.1.2.1 X.1.2.2.1 X.1.2.2.2.1
def l148_4 : LEnt := ⟨d148_4, fun X K => iterL (t148_4 X K) fuel X.1.2.2.2.2.1⟩
def L148 : Lam := (Lam.nil).add 4 l148_4
theorem k148_4 : LOk E g148 n148 L148 (loopBody Tryz.f148 0) :=
  lok l148_4 (by kernel_rfl) fuel fun R X K => (loop_iter (σ := Int) (fun x => SD.enc d148_4 ((X.1.1, (X.1.2.1, (X.1.2.2.1, (X.1.2.2.2.1, (x, ()))))), (), ())) (t148_4 X K) (fun m x => by kernel_rfl) fuel X.1.2.2.2.2.1).symm
theorem o148 : FnOk Tryz.prog 148 e148 := fk n148 (base) Tryz.func148 (Λ := L148) (cF k148_4 nF)
def e71 : GEnt := entOf [.data true TFilter, .data true TFilter] [(false, .bool)] fun a => Pu.impl_sameFilter a.1 a.2.1
theorem o71 : FnOk Tryz.prog 71 e71 := fk { merge := fun | 1 => some 4 | _ => none } ((base).add o148) Tryz.func71 (Λ := Lam.nil) nF
def e149 : GEnt := entOf [.data true TBucket] [(false, .bool)] fun a => Pu.impl_BucketOk a.1
theorem o149 : FnOk Tryz.prog 149 e149 := fk { merge := fun | 1 => some 2 | _ => none } ((base).add o135) Tryz.func149 (Λ := Lam.nil) nF
def e72 : GEnt := entOf [.data false (.sl TVirtualFunction), .data false (.sl TPort)] [(false, .bool)] fun a => Pu.impl_FunctionsOk a.1 a.2.1
def g72 : Gam := (((Gam.nil).add 135 e135).add 139 e139).add 149 e149
def n72 : An := { mask := fun | 4 => [0, 1, 4, 12, 13, 14] | 9 => [0, 1, 4, 6, 12, 13, 14, 52, 53, 54] | _ => [], merge := fun | 6 => some 49 | 11 => some 69 | _ => none }
@[reducible] def d72_9 : SD := ⟨[.data false (.sl .arg TVirtualFunction),.data false (.sl .arg TPort),B,B,DB,B,.ptr 6 0,B,B,B,B,B,.data false (.sl .arg TVirtualFunction),DI,DI,B,B,B,B,B,B,B,B,B,B,B,B,B,B,B,B,B,B,B,B,B,B,B,B,B,B,B,B,B,B,B,B,B,B,B,B,B,.data false (.sl .arg TVirtualFunction),DI,DI,B,B,B,B,B,B,B,B,B,B,B,B,B,B,B,B,B], [Z,Z,Z,Z,Z,Z,some (.pair (.int .i64) (.pair (.int .i64) (.pair (.pair (.int .i64) (.pair (.int .i64) (.int .i64))) (.pair .bool (.pair (.int .i64) (.int .i64)))))),Z,Z,Z,Z,Z,Z,Z,Z,Z,Z,Z,Z,Z,Z,Z,Z,Z,Z,Z,Z,Z,Z,Z,Z,Z,Z,Z,Z,Z,Z,Z,Z,Z,Z,Z,Z,Z,Z,Z,Z,Z,Z,Z,Z,Z,Z,Z,Z,Z,Z,Z,Z,Z,Z,Z,Z,Z,Z,Z,Z,Z,Z,Z,Z,Z], .none⟩
def t72_9 {R : Type} (X : SD.D d72_9) (K : Ex → AS → Option R) := Pu.impl_FunctionsOk_T9 (fun y0 => K (.exit 2) (SD.enc d72_9 ((X.1.1, (X.1.2.1, (X.1.2.2.1, (X.1.2.2.2.1, (X.1.2.2.2.2.1, (X.1.2.2.2.2.2.1, (X.1.2.2.2.2.2.2.1, (X.1.2.2.2.2.2.2.2.1, (y0, ()))))))))), (X.2.1.1, ()), ()))) (fun y0 y1 => K .ret (SD.enc d72_9 ((X.1.1, (X.1.2.1, (y0, (X.1.2.2.2.1, (X.1.2.2.2.2.1, (X.1.2.2.2.2.2.1, (X.1.2.2.2.2.2.2.1, (X.1.2.2.2.2.2.2.2.1, (y1, ()))))))))), (X.2.1.1, ()), ()))) X.1.1 X.1.2.1 X.1.2.2.1 X.1.2.2.2.1 X.1.2.2.2.2.1 X.1.2.2.2.2.2.1 X.1.2.2.2.2.2.2.1 X.1.2.2.2.2.2.2.2.1 X.2.1.1
def l72_9 : LEnt := ⟨d72_9, fun X K => iterL (t72_9 X K) fuel X.1.2.2.2.2.2.2.2.2.1⟩
@[reducible] def d72_4 : SD := ⟨[.data false (.sl .arg TVirtualFunction),.data false (.sl .arg TPort),B,B,DB,B,B,B,B,B,B,B,.data false (.sl .arg TVirtualFunction),DI,DI,B,B,B,B,B,B,B,B,B,B,B,B,B,B,B,B,B,B,B,B,B,B,B,B,B,B,B,B,B,B,B,B,B,B,B,B,B,B,B,B,B,B,B,B,B,B,B,B,B,B,B,B,B,B,B,B,B], [Z,Z,Z,Z,Z,Z,Z,Z,Z,Z,Z,Z,Z,Z,Z,Z,Z,Z,Z,Z,Z,Z,Z,Z,Z,Z,Z,Z,Z,Z,Z,Z,Z,Z,Z,Z,Z,Z,Z,Z,Z,Z,Z,Z,Z,Z,Z,Z,Z,Z,Z,Z,Z,Z,Z,Z,Z,Z,Z,Z,Z,Z,Z,Z,Z,Z,Z,Z,Z,Z,Z,Z], .none⟩
def t72_4 {R : Type} (X : SD.D d72_4) (K : Ex → AS → Option R) := Pu.impl_FunctionsOk_T4 (fun y0 => K (.exit 0) (SD.enc d72_4 ((X.1.1, (X.1.2.1, (X.1.2.2.1, (X.1.2.2.2.1, (X.1.2.2.2.2.1, (y0, ())))))), (), ()))) (fun y0 y1 => K .ret (SD.enc d72_4 ((X.1.1, (X.1.2.1, (y0, (X.1.2.2.2.1, (X.1.2.2.2.2.1, (y1, ())))))), (), ()))) X.1.1 X.1.2.1 X.1.2.2.1 X.1.2.2.2.1 X.1.2.2.2.2.1
def l72_4 : LEnt := ⟨d72_4, fun X K => iterL (t72_4 X K) fuel X.1.2.2.2.2.2.1⟩
def L72 : Lam := ((Lam.nil).add 9 l72_9).add 4 l72_4
theorem k72_9 : LOk E g72 n72 L72 (loopBody Tryz.f72 1) :=
  lok l72_9 (by kernel_rfl) fuel fun R X K => (loop_iter (σ := Int) (fun x => SD.enc d72_9 ((X.1.1, (X.1.2.1, (X.1.2.2.1, (X.1.2.2.2.1, (X.1.2.2.2.2.1, (X.1.2.2.2.2.2.1, (X.1.2.2.2.2.2.2.1, (X.1.2.2.2.2.2.2.2.1, (x, ()))))))))), (X.2.1.1, ()), ())) (t72_9 X K) (fun m x => by kernel_rfl) fuel X.1.2.2.2.2.2.2.2.2.1).symm
theorem k72_4 : LOk E g72 n72 L72 (loopBody Tryz.f72 0) :=
  lok l72_4 (by kernel_rfl) fuel fun R X K => (loop_iter (σ := Int) (fun x => SD.enc d72_4 ((X.1.1, (X.1.2.1, (X.1.2.2.1, (X.1.2.2.2.1, (X.1.2.2.2.2.1, (x, ())))))), (), ())) (t72_4 X K) (fun m x => by kernel_rfl) fuel X.1.2.2.2.2.2.1).symm
theorem o72 : FnOk Tryz.prog 72 e72 := fk n72 ((((base).add o135).add o139).add o149) Tryz.func72 (Λ := L72) (cF k72_4 (cF k72_9 nF))
def e73 : GEnt := entOf [.data false (.sl TVirtualFunction)] [(false, .bool)] fun a => Pu.impl_ownPlaces a.1
def g73 : Gam := Gam.nil
def n73 : An := { mask := fun | 2 => [2, 5, 6, 7] | _ => [], merge := fun | 4 => some 22 | _ => none }
@[reducible] def d73_2 : SD := ⟨[B,B,DB,B,B,.data false (.sl .arg TVirtualFunction),DI,DI,B,B,B,B,B,B,B,B,B,B,B,B,B,B,B,B], [Z,Z,Z,Z,Z,Z,Z,Z,Z,Z,Z,Z,Z,Z,Z,Z,Z,Z,Z,Z,Z,Z,Z,Z], .none⟩
def t73_2 {R : Type} (X : SD.D d73_2) (K : Ex → AS → Option R) := Pu.impl_ownPlaces_T2 (fun y0 => K (.exit 0) (SD.enc d73_2 ((X.1.1, (X.1.2.1, (X.1.2.2.1, (y0, ())))), (), ()))) (fun y0 y1 => K .ret (SD.enc d73_2 ((y0, (X.1.2.1, (X.1.2.2.1, (y1, ())))), (), ()))) X.1.1 X.1.2.1 X.1.2.2.1
def l73_2 : LEnt := ⟨d73_2, fun X K => iterL (t73_2 X K) fuel X.1.2.2.2.1⟩
def L73 : Lam := (Lam.nil).add 2 l73_2
theorem k73_2 : LOk E g73 n73 L73 (loopBody Tryz.f73 0) :=
  lok l73_2 (by kernel_rfl) fuel fun R X K => (loop_iter (σ := Int) (fun x => SD.enc d73_2 ((X.1.1, (X.1.2.1, (X.1.2.2.1, (x, ())))), (), ())) (t73_2 X K) (fun m x => by kernel_rfl) fuel X.1.2.2.2.1).symm
theorem o73 : FnOk Tryz.prog 73 e73 := fk n73 (base) Tryz.func73 (Λ := L73) (cF k73_2 nF)
def e150 : GEnt := entOf [.data true (.sl .str)] [(false, .bool)] fun a => Pu.impl_FlashOk a.1
theorem o150 : FnOk Tryz.prog 150 e150 := fk { merge := fun | 1 => some 2 | _ => none } (base) Tryz.func150 (Λ := Lam.nil) nF
def e206 : GEnt := entOf [.data false .str, .data false (.int .i64)] [(false, (.int .i64))] fun a => Pu.impl_Get32 a.1 a.2.1
theorem o206 : FnOk Tryz.prog 206 e206 := fk { merge := fun | 1 => some 13 | _ => none } (base) Tryz.func206 (Λ := Lam.nil) nF
def e250 : GEnt := entOf [.data false (.int .i64)] [(false, .str)] fun a => Pu.impl_Word32 a.1
theorem o250 : FnOk Tryz.prog 250 e250 := fk {} ((base).add o135) Tryz.func250 (Λ := Lam.nil) nF
def e251 : GEnt := entOf [.data false .str] [(false, (.int .i64))] fun a => Pu.impl_Crc32 a.1
def g251 : Gam := Gam.nil
def n251 : An := { mask := fun | 3 => [0, 3, 4] | 7 => [0, 3, 4, 5] | _ => [] }
@[reducible] def d251_7 : SD := ⟨[.data false .str,B,B,.data false (.int .u32),DI,DI,B,B,B,B,B,B,B,B,B,B,B,B,B,B,B,B,B,B,B,B,B,B,B,B,B,B,B,B], [Z,Z,Z,Z,Z,Z,Z,Z,Z,Z,Z,Z,Z,Z,Z,Z,Z,Z,Z,Z,Z,Z,Z,Z,Z,Z,Z,Z,Z,Z,Z,Z,Z,Z], .none⟩
def t251_7 {R : Type} (X : SD.D d251_7) (K : Ex → AS → Option R) := Pu.impl_Crc32_T7 (fun y0 y1 => K (.exit 2) (SD.enc d251_7 ((X.1.1, (y0, (X.1.2.2.1, (y1, ())))), (), ()))) X.1.1 X.1.2.2.1
def l251_7 : LEnt := ⟨d251_7, fun X K => iterL (t251_7 X K) fuel (X.1.2.1, X.1.2.2.2.1)⟩
@[reducible] def d251_3 : SD := ⟨[.data false .str,B,B,.data false (.int .u32),DI,B,B,B,B,B,B,B,B,B,B,B,B,B,B,B,B,B,B,B,B,B,B,B,B,B,B,B,B,B], [Z,Z,Z,Z,Z,Z,Z,Z,Z,Z,Z,Z,Z,Z,Z,Z,Z,Z,Z,Z,Z,Z,Z,Z,Z,Z,Z,Z,Z,Z,Z,Z,Z,Z], .none⟩
def t251_3 {R : Type} (X : SD.D d251_3) (K : Ex → AS → Option R) := Pu.impl_Crc32_T3 (fun y0 y1 => K (.exit 0) (SD.enc d251_3 ((X.1.1, (y0, (y1, ()))), (), ()))) X.1.1
def l251_3 : LEnt := ⟨d251_3, fun X K => iterL (t251_3 X K) fuel (X.1.2.1, X.1.2.2.1)⟩
def L251 : Lam := ((Lam.nil).add 7 l251_7).add 3 l251_3
theorem k251_7 : LOk E g251 n251 L251 (loopBody Tryz.f251 1) :=
  lok l251_7 (by kernel_rfl) fuel fun R X K => (loop_iter (σ := Int × Int) (fun x => SD.enc d251_7 ((X.1.1, (x.1, (X.1.2.2.1, (x.2, ())))), (), ())) (t251_7 X K) (fun m x => by kernel_rfl) fuel (X.1.2.1, X.1.2.2.2.1)).symm
theorem k251_3 : LOk E g251 n251 L251 (loopBody Tryz.f251 0) :=
  lok l251_3 (by kernel_rfl) fuel fun R X K => (loop_iter (σ := Int × Int) (fun x => SD.enc d251_3 ((X.1.1, (x.1, (x.2, ()))), (), ())) (t251_3 X K) (fun m x => by kernel_rfl) fuel (X.1.2.1, X.1.2.2.1)).symm
theorem o251 : FnOk Tryz.prog 251 e251 := fk n251 (base) Tryz.func251 (Λ := L251) (cF k251_3 (cF k251_7 nF))
def e207 : GEnt := entOf [.data false (.int .i64), .data false .str] [(false, .str), (false, .bool)] fun a => Pu.impl_MakeImage a.1 a.2.1
theorem o207 : FnOk Tryz.prog 207 e207 := fk { merge := fun | 1 => some 15 | _ => none } ((((base).add o135).add o250).add o251) Tryz.func207 (Λ := Lam.nil) nF
def e151 : GEnt := entOf [.data false .str] [(false, (.int .i64))] fun a => Pu.impl_ImageVersion a.1
theorem o151 : FnOk Tryz.prog 151 e151 := fk { merge := fun | 2 => some 19 | 5 => some 38 | _ => none } (((base).add o206).add o207) Tryz.func151 (Λ := Lam.nil) nF
def e74 : GEnt := entOf [.data true (.sl .str)] [(false, (.int .i64))] fun a => Pu.impl_BootBank a.1
theorem o74 : FnOk Tryz.prog 74 e74 := fk { merge := fun | 4 => some 18 | _ => none } (((base).add o150).add o151) Tryz.func74 (Λ := Lam.nil) nF
def e75 : GEnt := entOf [.data true TClock] [(false, .bool)] fun a => Pu.impl_ClockOk a.1
theorem o75 : FnOk Tryz.prog 75 e75 := fk { merge := fun | 1 => some 2 | _ => none } ((base).add o135) Tryz.func75 (Λ := Lam.nil) nF
def e29 : GEnt := entOf [.data true TCard] [(false, .bool)] fun a => Pu.impl_CardOk a.1
def g29 : Gam := (((((((Gam.nil).add 69 e69).add 70 e70).add 71 e71).add 72 e72).add 73 e73).add 74 e74).add 75 e75
def n29 : An := { mask := fun | 5 => [1, 2, 3, 34, 35, 36] | _ => [], merge := fun | 2 => some 32 | 7 => some 55 | 10 => some 2 | _ => none }
@[reducible] def d29_5 : SD := ⟨[B,.ptr 1 0,DB,.data false (.sl .loc TPort),B,B,B,B,B,B,B,B,B,B,B,B,B,B,B,B,B,B,B,B,B,B,B,B,B,B,B,B,B,B,.data false (.sl .arg THost),DI,DI,B,B,B,B,B,B,B,B,B,B,B,B,B,B,B,B,B,B,B,B,B,B,B,B,B,B,B,B,B,B,B,B,B,B,B,B,B,B,B,B], [Z,some (.pair (.sl .arg THost) (.pair (.sl .arg TVirtualFunction) (.pair (.sl .arg TMailbox) (.pair (.sl .arg .str) (.pair (.pair (.int .i64) (.pair (.int .i64) (.pair (.int .i64) (.int .i64)))) (.pair (.sl .arg (.int .i64)) (.sl .arg .str))))))),Z,Z,Z,Z,Z,Z,Z,Z,Z,Z,Z,Z,Z,Z,Z,Z,Z,Z,Z,Z,Z,Z,Z,Z,Z,Z,Z,Z,Z,Z,Z,Z,Z,Z,Z,Z,Z,Z,Z,Z,Z,Z,Z,Z,Z,Z,Z,Z,Z,Z,Z,Z,Z,Z,Z,Z,Z,Z,Z,Z,Z,Z,Z,Z,Z,Z,Z,Z,Z,Z,Z,Z,Z,Z,Z], .none⟩
def t29_5 {R : Type} (X : SD.D d29_5) (K : Ex → AS → Option R) := Pu.impl_CardOk_T5 (fun y0 => K (.exit 0) (SD.enc d29_5 ((X.1.1, (X.1.2.1, (X.1.2.2.1, (X.1.2.2.2.1, (y0, ()))))), (X.2.1.1, ()), ()))) (fun y0 y1 => K .ret (SD.enc d29_5 ((y0, (X.1.2.1, (X.1.2.2.1, (X.1.2.2.2.1, (y1, ()))))), (X.2.1.1, ()), ()))) X.1.1 X.1.2.1 X.1.2.2.1 X.1.2.2.2.1 X.2.1.1
def l29_5 : LEnt := ⟨d29_5, fun X K => iterL (t29_5 X K) fuel X.1.2.2.2.2.1⟩
def L29 : Lam := (Lam.nil).add 5 l29_5
theorem k29_5 : LOk E g29 n29 L29 (loopBody Tryz.f29 0) :=
  lok l29_5 (by kernel_rfl) fuel fun R X K => (loop_iter (σ := Int) (fun x => SD.enc d29_5 ((X.1.1, (X.1.2.1, (X.1.2.2.1, (X.1.2.2.2.1, (x, ()))))), (X.2.1.1, ()), ())) (t29_5 X K) (fun m x => by kernel_rfl) fuel X.1.2.2.2.2.1).symm
theorem o29 : FnOk Tryz.prog 29 e29 := fk n29 ((((((((base).add o69).add o70).add o71).add o72).add o73).add o74).add o75) Tryz.func29 (Λ := L29) (cF k29_5 nF)
def e30 : GEnt := entOf [.data false (.sl TVirtualFunction)] [(false, (.sl (.own none) TVirtualFunction))] fun a => Pu.impl_copyFunctions a.1
theorem o30 : FnOk Tryz.prog 30 e30 := fk {} (base) Tryz.func30 (Λ := Lam.nil) nF
def e152 : GEnt := entOf [.data true TFilter] [(true, (.pair (.int .i64) (.pair .bool (.sl (.own none) (.int .i64)))))] fun a => Pu.impl_copyFilter a.1
theorem o152 : FnOk Tryz.prog 152 e152 := fk { mv := [7] } ((base).add o208) Tryz.func152 (Λ := Lam.nil) nF
def e76 : GEnt := entOf [.data true TMailbox] [(true, (.pair (.pair (.int .i64) (.pair .bool (.sl (.own none) (.int .i64)))) (.pair (.int .i64) (.pair (.int .i64) (.int .i64)))))] fun a => Pu.impl_copyMailbox a.1
theorem o76 : FnOk Tryz.prog 76 e76 := fk { mv := [7] } ((base).add o152) Tryz.func76 (Λ := Lam.nil) nF
def e31 : GEnt := entOf [.data false (.sl TMailbox)] [(false, (.sl (.own none) TMailbox))] fun a => Pu.impl_copyBoxes a.1
def g31 : Gam := (Gam.nil).add 76 e76
def n31 : An := { mask := fun | 3 => [3, 7, 8, 9] | _ => [], mv := [13, 19] }
@[reducible] def d31_3 : SD := ⟨[B,B,B,.data false (.sl (.own (some 36864)) TMailbox),B,B,B,.data false (.sl .arg TMailbox),DI,DI,B,B,B,B,B,B,B,B,B,B], [Z,Z,Z,Z,Z,Z,Z,Z,Z,Z,Z,Z,Z,Z,Z,Z,Z,Z,Z,Z], .none⟩
def t31_3 {R : Type} (X : SD.D d31_3) (K : Ex → AS → Option R) := Pu.impl_copyBoxes_T3 (fun y0 y1 => K (.exit 0) (SD.enc d31_3 ((y0, (X.1.2.1, (X.1.2.2.1, (y1, ())))), (), ()))) X.1.2.1 X.1.2.2.1
def l31_3 : LEnt := ⟨d31_3, fun X K => iterL (t31_3 X K) fuel (X.1.1, X.1.2.2.2.1)⟩
def L31 : Lam := (Lam.nil).add 3 l31_3
theorem k31_3 : LOk E g31 n31 L31 (loopBody Tryz.f31 0) :=
  lok l31_3 (by kernel_rfl) fuel fun R X K => (loop_iter (σ := (List Pu.Mailbox) × Int) (fun x => SD.enc d31_3 ((x.1, (X.1.2.1, (X.1.2.2.1, (x.2, ())))), (), ())) (t31_3 X K) (fun m x => by kernel_rfl) fuel (X.1.1, X.1.2.2.2.1)).symm
theorem o31 : FnOk Tryz.prog 31 e31 := fk n31 ((base).add o76) Tryz.func31 (Λ := L31) (cF k31_3 nF)
def e32 : GEnt := entOf [.data false (.sl .str)] [(false, (.sl (.own none) .str))] fun a => Pu.impl_copyStrings a.1
theorem o32 : FnOk Tryz.prog 32 e32 := fk {} (base) Tryz.func32 (Λ := Lam.nil) nF
def e209 : GEnt := entOf [.data true (.sl TSlot)] [(true, (.sl (.own none) TSlot))] fun a => Pu.impl_copyTable a.1
theorem o209 : FnOk Tryz.prog 209 e209 := fk {} (base) Tryz.func209 (Λ := Lam.nil) nF
def e210 : GEnt := entOf [.data true TSpread] [(true, (.pair .str (.sl (.own none) (.int .i64))))] fun a => Pu.impl_copySpread a.1
theorem o210 : FnOk Tryz.prog 210 e210 := fk { sb := fun | 2 => some 2 | _ => none } ((base).add o208) Tryz.func210 (Λ := Lam.nil) nF
def e153 : GEnt := entOf [.data true TSteering] [(true, (.pair (.sl (.own none) TRule) (.pair (.sl (.own none) TSlot) (.pair .str (.sl (.own none) (.int .i64))))))] fun a => Pu.impl_copySteering a.1
theorem o153 : FnOk Tryz.prog 153 e153 := fk { sb := fun | 2 => some 2 | _ => none } (((base).add o209).add o210) Tryz.func153 (Λ := Lam.nil) nF
def e154 : GEnt := entOf [.data false (.sl TStream)] [(false, (.sl (.own none) TStream))] fun a => Pu.impl_copyStreams a.1
theorem o154 : FnOk Tryz.prog 154 e154 := fk {} (base) Tryz.func154 (Λ := Lam.nil) nF
def e77 : GEnt := entOf [.data true TSoft] [(true, (.pair (.pair (.int .i64) (.pair .bool (.sl (.own none) (.int .i64)))) (.pair (.pair (.sl (.own none) TRule) (.pair (.sl (.own none) TSlot) (.pair .str (.sl (.own none) (.int .i64))))) (.pair (.int .i64) (.pair (.sl (.own none) TStream) (.sl (.own none) .str))))))] fun a => Pu.impl_copySoft a.1
theorem o77 : FnOk Tryz.prog 77 e77 := fk { sb := fun | 2 => some 2 | _ => none } (((((base).add o32).add o152).add o153).add o154) Tryz.func77 (Λ := Lam.nil) nF
def e33 : GEnt := entOf [.data true THost] [(true, (.pair (.pair (.int .i64) (.pair .bool (.sl (.own none) (.int .i64)))) (.pair (.pair (.sl (.own none) TRule) (.pair (.sl (.own none) TSlot) (.pair .str (.sl (.own none) (.int .i64))))) (.pair (.int .i64) (.pair (.sl (.own none) TStream) (.sl (.own none) .str))))))] fun a => Pu.impl_SoftOf a.1
theorem o33 : FnOk Tryz.prog 33 e33 := fk {} (((base).add o70).add o77) Tryz.func33 (Λ := Lam.nil) nF
def e7 : GEnt := entOf [.data true TCard] [(true, (.pair (.sl (.own none) TSoft) (.pair (.sl (.own none) (.sl .str)) (.pair (.sl (.own none) TVirtualFunction) (.pair (.sl (.own none) TMailbox) (.sl (.own none) .str))))))] fun a => Pu.impl_IdealOf a.1
def g7 : Gam := (((((Gam.nil).add 29 e29).add 30 e30).add 31 e31).add 32 e32).add 33 e33
def n7 : An := { mask := fun | 5 => [2, 3, 21, 22, 23] | _ => [], mv := [28, 35, 41], mb := fun | 28 => some 3 | _ => none, sb := fun | 3 => some 3 | 33 => some 3 | _ => none }
@[reducible] def d7_5 : SD := ⟨[B,B,.ptr 2 0,.ptr 3 0,B,B,B,B,B,B,B,B,B,B,B,B,B,B,B,B,B,.data false (.sl .arg THost),DI,DI,B,B,B,B,B,B,B,B,B,B,B,B,B,B,B,B,B,B], [Z,Z,some (.pair (.sl (.own (some 24577)) TSoft) (.pair (.sl (.own (some 24580)) (.sl .str)) (.pair (.sl (.own (some 24583)) TVirtualFunction) (.pair (.sl (.own (some 24586)) TMailbox) (.sl (.own (some 24589)) .str))))),some (.pair (.sl (.own (some 36865)) TSoft) (.pair (.sl (.own (some 36868)) (.sl .str)) (.pair (.sl (.own (some 36871)) TVirtualFunction) (.pair (.sl (.own (some 36874)) TMailbox) (.sl (.own (some 36877)) .str))))),Z,Z,Z,Z,Z,Z,Z,Z,Z,Z,Z,Z,Z,Z,Z,Z,Z,Z,Z,Z,Z,Z,Z,Z,Z,Z,Z,Z,Z,Z,Z,Z,Z,Z,Z,Z,Z,Z], .none⟩
def t7_5 {R : Type} (X : SD.D d7_5) (K : Ex → AS → Option R) := Pu.impl_IdealOf_T5 (fun y0 y1 => K (.exit 0) (SD.enc d7_5 ((X.1.1, (X.1.2.1, (y0, ()))), (X.2.1.1, (y1, ())), ()))) X.1.1 X.1.2.1 X.2.1.1
def l7_5 : LEnt := ⟨d7_5, fun X K => iterL (t7_5 X K) fuel (X.1.2.2.1, X.2.1.2.1)⟩
def L7 : Lam := (Lam.nil).add 5 l7_5
theorem k7_5 : LOk E g7 n7 L7 (loopBody Tryz.f7 0) :=
  lok l7_5 (by kernel_rfl) fuel fun R X K => (loop_iter (σ := Int × Pu.Ideal) (fun x => SD.enc d7_5 ((X.1.1, (X.1.2.1, (x.1, ()))), (X.2.1.1, (x.2, ())), ())) (t7_5 X K) (fun m x => by kernel_rfl) fuel (X.1.2.2.1, X.2.1.2.1)).symm
theorem o7 : FnOk Tryz.prog 7 e7 := fk n7 ((((((base).add o29).add o30).add o31).add o32).add o33) Tryz.func7 (Λ := L7) (cF k7_5 nF)
def e38 : GEnt := entOf [.data false (.sl .str), .data false (.sl .str)] [(false, .bool)] fun a => Pu.laws_eqStringS a.1 a.2.1
def g38 : Gam := Gam.nil
def n38 : An := { mask := fun | 4 => [0, 1, 4, 5] | _ => [] }
@[reducible] def d38_4 : SD := ⟨[.data false (.sl .arg .str),.data false (.sl .arg .str),B,B,DB,DI,B,B,B,B,B,B,B,B,B,B,B,B,B,B,B,B,B,B,B,B], [Z,Z,Z,Z,Z,Z,Z,Z,Z,Z,Z,Z,Z,Z,Z,Z,Z,Z,Z,Z,Z,Z,Z,Z,Z,Z], .none⟩
def t38_4 {R : Type} (X : SD.D d38_4) (K : Ex → AS → Option R) := Pu.laws_eqStringS_T4 (fun y0 => K (.exit 0) (SD.enc d38_4 ((X.1.1, (X.1.2.1, (X.1.2.2.1, (y0, ())))), (), ()))) (fun y0 y1 => K .ret (SD.enc d38_4 ((X.1.1, (X.1.2.1, (y0, (y1, ())))), (), ()))) X.1.1 X.1.2.1 X.1.2.2.1
def l38_4 : LEnt := ⟨d38_4, fun X K => iterL (t38_4 X K) fuel X.1.2.2.2.1⟩
def L38 : Lam := (Lam.nil).add 4 l38_4
theorem k38_4 : LOk E g38 n38 L38 (loopBody Tryz.f38 0) :=
  lok l38_4 (by kernel_rfl) fuel fun R X K => (loop_iter (σ := Int) (fun x => SD.enc d38_4 ((X.1.1, (X.1.2.1, (X.1.2.2.1, (x, ())))), (), ())) (t38_4 X K) (fun m x => by kernel_rfl) fuel X.1.2.2.2.1).symm
theorem o38 : FnOk Tryz.prog 38 e38 := fk n38 (base) Tryz.func38 (Λ := L38) (cF k38_4 nF)
def e42 : GEnt := entOf [.data false (.sl (.int .i64)), .data false (.sl (.int .i64))] [(false, .bool)] fun a => Pu.laws_eqIntS a.1 a.2.1
def g42 : Gam := Gam.nil
def n42 : An := { mask := fun | 4 => [0, 1, 4, 5] | _ => [] }
@[reducible] def d42_4 : SD := ⟨[.data false (.sl .arg (.int .i64)),.data false (.sl .arg (.int .i64)),B,B,DB,DI,B,B,B,B,B,B,B,B,B,B,B,B,B,B,B,B,B,B,B,B], [Z,Z,Z,Z,Z,Z,Z,Z,Z,Z,Z,Z,Z,Z,Z,Z,Z,Z,Z,Z,Z,Z,Z,Z,Z,Z], .none⟩
def t42_4 {R : Type} (X : SD.D d42_4) (K : Ex → AS → Option R) := Pu.laws_eqIntS_T4 (fun y0 => K (.exit 0) (SD.enc d42_4 ((X.1.1, (X.1.2.1, (X.1.2.2.1, (y0, ())))), (), ()))) (fun y0 y1 => K .ret (SD.enc d42_4 ((X.1.1, (X.1.2.1, (y0, (y1, ())))), (), ()))) X.1.1 X.1.2.1 X.1.2.2.1
def l42_4 : LEnt := ⟨d42_4, fun X K => iterL (t42_4 X K) fuel X.1.2.2.2.1⟩
def L42 : Lam := (Lam.nil).add 4 l42_4
theorem k42_4 : LOk E g42 n42 L42 (loopBody Tryz.f42 0) :=
  lok l42_4 (by kernel_rfl) fuel fun R X K => (loop_iter (σ := Int) (fun x => SD.enc d42_4 ((X.1.1, (X.1.2.1, (X.1.2.2.1, (x, ())))), (), ())) (t42_4 X K) (fun m x => by kernel_rfl) fuel X.1.2.2.2.1).symm
theorem o42 : FnOk Tryz.prog 42 e42 := fk n42 (base) Tryz.func42 (Λ := L42) (cF k42_4 nF)
def e155 : GEnt := entOf [.data true TFilter, .data true TFilter] [(false, .bool)] fun a => Pu.laws_eqFilter a.1 a.2.1
theorem o155 : FnOk Tryz.prog 155 e155 := fk {} ((base).add o42) Tryz.func155 (Λ := Lam.nil) nF
def e252 : GEnt := entOf [.data true TRule, .data true TRule] [(false, .bool)] fun a => Pu.laws_eqRule a.1 a.2.1
theorem o252 : FnOk Tryz.prog 252 e252 := fk {} (base) Tryz.func252 (Λ := Lam.nil) nF
def e211 : GEnt := entOf [.data false (.sl TRule), .data false (.sl TRule)] [(false, .bool)] fun a => Pu.laws_eqRuleS a.1 a.2.1
def g211 : Gam := (Gam.nil).add 252 e252
def n211 : An := { mask := fun | 4 => [0, 1, 4, 5] | _ => [] }
@[reducible] def d211_4 : SD := ⟨[.data false (.sl .arg TRule),.data false (.sl .arg TRule),B,B,DB,DI,B,B,B,B,B,B,B,B,B,B,B,B,B,B,B,B,B,B,B,B,B], [Z,Z,Z,Z,Z,Z,Z,Z,Z,Z,Z,Z,Z,Z,Z,Z,Z,Z,Z,Z,Z,Z,Z,Z,Z,Z,Z], .none⟩
def t211_4 {R : Type} (X : SD.D d211_4) (K : Ex → AS → Option R) := Pu.laws_eqRuleS_T4 (fun y0 => K (.exit 0) (SD.enc d211_4 ((X.1.1, (X.1.2.1, (X.1.2.2.1, (y0, ())))), (), ()))) (fun y0 y1 => K .ret (SD.enc d211_4 ((X.1.1, (X.1.2.1, (y0, (y1, ())))), (), ()))) X.1.1 X.1.2.1 X.1.2.2.1
def l211_4 : LEnt := ⟨d211_4, fun X K => iterL (t211_4 X K) fuel X.1.2.2.2.1⟩
def L211 : Lam := (Lam.nil).add 4 l211_4
theorem k211_4 : LOk E g211 n211 L211 (loopBody Tryz.f211 0) :=
  lok l211_4 (by kernel_rfl) fuel fun R X K => (loop_iter (σ := Int) (fun x => SD.enc d211_4 ((X.1.1, (X.1.2.1, (X.1.2.2.1, (x, ())))), (), ())) (t211_4 X K) (fun m x => by kernel_rfl) fuel X.1.2.2.2.1).symm
theorem o211 : FnOk Tryz.prog 211 e211 := fk n211 ((base).add o252) Tryz.func211 (Λ := L211) (cF k211_4 nF)
def e254 : GEnt := entOf [.data true TFlow, .data true TFlow] [(false, .bool)] fun a => Pu.laws_eqFlow a.1 a.2.1
theorem o254 : FnOk Tryz.prog 254 e254 := fk {} (base) Tryz.func254 (Λ := Lam.nil) nF
def e264 : GEnt := entOf [.data true TSlot, .data true TSlot] [(false, .bool)] fun a => Pu.laws_eqSlot a.1 a.2.1
theorem o264 : FnOk Tryz.prog 264 e264 := fk {} ((base).add o254) Tryz.func264 (Λ := Lam.nil) nF
def e253 : GEnt := entOf [.data false (.sl TSlot), .data false (.sl TSlot)] [(false, .bool)] fun a => Pu.laws_eqSlotS a.1 a.2.1
def g253 : Gam := (Gam.nil).add 264 e264
def n253 : An := { mask := fun | 4 => [0, 1, 4, 5] | _ => [] }
@[reducible] def d253_4 : SD := ⟨[.data false (.sl .arg TSlot),.data false (.sl .arg TSlot),B,B,DB,DI,B,B,B,B,B,B,B,B,B,B,B,B,B,B,B,B,B,B,B,B,B], [Z,Z,Z,Z,Z,Z,Z,Z,Z,Z,Z,Z,Z,Z,Z,Z,Z,Z,Z,Z,Z,Z,Z,Z,Z,Z,Z], .none⟩
def t253_4 {R : Type} (X : SD.D d253_4) (K : Ex → AS → Option R) := Pu.laws_eqSlotS_T4 (fun y0 => K (.exit 0) (SD.enc d253_4 ((X.1.1, (X.1.2.1, (X.1.2.2.1, (y0, ())))), (), ()))) (fun y0 y1 => K .ret (SD.enc d253_4 ((X.1.1, (X.1.2.1, (y0, (y1, ())))), (), ()))) X.1.1 X.1.2.1 X.1.2.2.1
def l253_4 : LEnt := ⟨d253_4, fun X K => iterL (t253_4 X K) fuel X.1.2.2.2.1⟩
def L253 : Lam := (Lam.nil).add 4 l253_4
theorem k253_4 : LOk E g253 n253 L253 (loopBody Tryz.f253 0) :=
  lok l253_4 (by kernel_rfl) fuel fun R X K => (loop_iter (σ := Int) (fun x => SD.enc d253_4 ((X.1.1, (X.1.2.1, (X.1.2.2.1, (x, ())))), (), ())) (t253_4 X K) (fun m x => by kernel_rfl) fuel X.1.2.2.2.1).symm
theorem o253 : FnOk Tryz.prog 253 e253 := fk n253 ((base).add o264) Tryz.func253 (Λ := L253) (cF k253_4 nF)
def e212 : GEnt := entOf [.data true (.sl TSlot), .data true (.sl TSlot)] [(false, .bool)] fun a => Pu.laws_eqFlowTable a.1 a.2.1
theorem o212 : FnOk Tryz.prog 212 e212 := fk {} ((base).add o253) Tryz.func212 (Λ := Lam.nil) nF
def e213 : GEnt := entOf [.data true TSpread, .data true TSpread] [(false, .bool)] fun a => Pu.laws_eqSpread a.1 a.2.1
theorem o213 : FnOk Tryz.prog 213 e213 := fk {} ((base).add o42) Tryz.func213 (Λ := Lam.nil) nF
def e156 : GEnt := entOf [.data true TSteering, .data true TSteering] [(false, .bool)] fun a => Pu.laws_eqSteering a.1 a.2.1
theorem o156 : FnOk Tryz.prog 156 e156 := fk {} ((((base).add o211).add o212).add o213) Tryz.func156 (Λ := Lam.nil) nF
def e214 : GEnt := entOf [.data true TStream, .data true TStream] [(false, .bool)] fun a => Pu.laws_eqStream a.1 a.2.1
theorem o214 : FnOk Tryz.prog 214 e214 := fk {} ((base).add o254) Tryz.func214 (Λ := Lam.nil) nF
def e157 : GEnt := entOf [.data false (.sl TStream), .data false (.sl TStream)] [(false, .bool)] fun a => Pu.laws_eqStreamS a.1 a.2.1
def g157 : Gam := (Gam.nil).add 214 e214
def n157 : An := { mask := fun | 4 => [0, 1, 4, 5] | _ => [] }
@[reducible] def d157_4 : SD := ⟨[.data false (.sl .arg TStream),.data false (.sl .arg TStream),B,B,DB,DI,B,B,B,B,B,B,B,B,B,B,B,B,B,B,B,B,B,B,B,B,B], [Z,Z,Z,Z,Z,Z,Z,Z,Z,Z,Z,Z,Z,Z,Z,Z,Z,Z,Z,Z,Z,Z,Z,Z,Z,Z,Z], .none⟩
def t157_4 {R : Type} (X : SD.D d157_4) (K : Ex → AS → Option R) := Pu.laws_eqStreamS_T4 (fun y0 => K (.exit 0) (SD.enc d157_4 ((X.1.1, (X.1.2.1, (X.1.2.2.1, (y0, ())))), (), ()))) (fun y0 y1 => K .ret (SD.enc d157_4 ((X.1.1, (X.1.2.1, (y0, (y1, ())))), (), ()))) X.1.1 X.1.2.1 X.1.2.2.1
def l157_4 : LEnt := ⟨d157_4, fun X K => iterL (t157_4 X K) fuel X.1.2.2.2.1⟩
def L157 : Lam := (Lam.nil).add 4 l157_4
theorem k157_4 : LOk E g157 n157 L157 (loopBody Tryz.f157 0) :=
  lok l157_4 (by kernel_rfl) fuel fun R X K => (loop_iter (σ := Int) (fun x => SD.enc d157_4 ((X.1.1, (X.1.2.1, (X.1.2.2.1, (x, ())))), (), ())) (t157_4 X K) (fun m x => by kernel_rfl) fuel X.1.2.2.2.1).symm
theorem o157 : FnOk Tryz.prog 157 e157 := fk n157 ((base).add o214) Tryz.func157 (Λ := L157) (cF k157_4 nF)
def e78 : GEnt := entOf [.data true TSoft, .data true TSoft] [(false, .bool)] fun a => Pu.laws_eqSoft a.1 a.2.1
theorem o78 : FnOk Tryz.prog 78 e78 := fk {} (((((base).add o38).add o155).add o156).add o157) Tryz.func78 (Λ := Lam.nil) nF
def e34 : GEnt := entOf [.data false (.sl TSoft), .data false (.sl TSoft)] [(false, .bool)] fun a => Pu.laws_eqSoftS a.1 a.2.1
def g34 : Gam := (Gam.nil).add 78 e78
def n34 : An := { mask := fun | 4 => [0, 1, 4, 5] | _ => [] }
@[reducible] def d34_4 : SD := ⟨[.data false (.sl .arg TSoft),.data false (.sl .arg TSoft),B,B,DB,DI,B,B,B,B,B,B,B,B,B,B,B,B,B,B,B,B,B,B,B,B,B], [Z,Z,Z,Z,Z,Z,Z,Z,Z,Z,Z,Z,Z,Z,Z,Z,Z,Z,Z,Z,Z,Z,Z,Z,Z,Z,Z], .none⟩
def t34_4 {R : Type} (X : SD.D d34_4) (K : Ex → AS → Option R) := Pu.laws_eqSoftS_T4 (fun y0 => K (.exit 0) (SD.enc d34_4 ((X.1.1, (X.1.2.1, (X.1.2.2.1, (y0, ())))), (), ()))) (fun y0 y1 => K .ret (SD.enc d34_4 ((X.1.1, (X.1.2.1, (y0, (y1, ())))), (), ()))) X.1.1 X.1.2.1 X.1.2.2.1
def l34_4 : LEnt := ⟨d34_4, fun X K => iterL (t34_4 X K) fuel X.1.2.2.2.1⟩
def L34 : Lam := (Lam.nil).add 4 l34_4
theorem k34_4 : LOk E g34 n34 L34 (loopBody Tryz.f34 0) :=
  lok l34_4 (by kernel_rfl) fuel fun R X K => (loop_iter (σ := Int) (fun x => SD.enc d34_4 ((X.1.1, (X.1.2.1, (X.1.2.2.1, (x, ())))), (), ())) (t34_4 X K) (fun m x => by kernel_rfl) fuel X.1.2.2.2.1).symm
theorem o34 : FnOk Tryz.prog 34 e34 := fk n34 ((base).add o78) Tryz.func34 (Λ := L34) (cF k34_4 nF)
def e35 : GEnt := entOf [.data false (.sl (.sl .str)), .data false (.sl (.sl .str))] [(false, .bool)] fun a => Pu.laws_eqStringSS a.1 a.2.1
def g35 : Gam := (Gam.nil).add 38 e38
def n35 : An := { mask := fun | 4 => [0, 1, 4, 5] | _ => [] }
@[reducible] def d35_4 : SD := ⟨[.data false (.sl .arg (.sl .str)),.data false (.sl .arg (.sl .str)),B,B,DB,DI,B,B,B,B,B,B,B,B,B,B,B,B,B,B,B,B,B,B,B,B,B], [Z,Z,Z,Z,Z,Z,Z,Z,Z,Z,Z,Z,Z,Z,Z,Z,Z,Z,Z,Z,Z,Z,Z,Z,Z,Z,Z], .none⟩
def t35_4 {R : Type} (X : SD.D d35_4) (K : Ex → AS → Option R) := Pu.laws_eqStringSS_T4 (fun y0 => K (.exit 0) (SD.enc d35_4 ((X.1.1, (X.1.2.1, (X.1.2.2.1, (y0, ())))), (), ()))) (fun y0 y1 => K .ret (SD.enc d35_4 ((X.1.1, (X.1.2.1, (y0, (y1, ())))), (), ()))) X.1.1 X.1.2.1 X.1.2.2.1
def l35_4 : LEnt := ⟨d35_4, fun X K => iterL (t35_4 X K) fuel X.1.2.2.2.1⟩
def L35 : Lam := (Lam.nil).add 4 l35_4
theorem k35_4 : LOk E g35 n35 L35 (loopBody Tryz.f35 0) :=
  lok l35_4 (by kernel_rfl) fuel fun R X K => (loop_iter (σ := Int) (fun x => SD.enc d35_4 ((X.1.1, (X.1.2.1, (X.1.2.2.1, (x, ())))), (), ())) (t35_4 X K) (fun m x => by kernel_rfl) fuel X.1.2.2.2.1).symm
theorem o35 : FnOk Tryz.prog 35 e35 := fk n35 ((base).add o38) Tryz.func35 (Λ := L35) (cF k35_4 nF)
def e158 : GEnt := entOf [.data true TBucket, .data true TBucket] [(false, .bool)] fun a => Pu.laws_eqBucket a.1 a.2.1
theorem o158 : FnOk Tryz.prog 158 e158 := fk {} (base) Tryz.func158 (Λ := Lam.nil) nF
def e79 : GEnt := entOf [.data true TVirtualFunction, .data true TVirtualFunction] [(false, .bool)] fun a => Pu.laws_eqVirtualFunction a.1 a.2.1
theorem o79 : FnOk Tryz.prog 79 e79 := fk {} ((base).add o158) Tryz.func79 (Λ := Lam.nil) nF
def e36 : GEnt := entOf [.data false (.sl TVirtualFunction), .data false (.sl TVirtualFunction)] [(false, .bool)] fun a => Pu.laws_eqVirtualFunctionS a.1 a.2.1
def g36 : Gam := (Gam.nil).add 79 e79
def n36 : An := { mask := fun | 4 => [0, 1, 4, 5] | _ => [] }
@[reducible] def d36_4 : SD := ⟨[.data false (.sl .arg TVirtualFunction),.data false (.sl .arg TVirtualFunction),B,B,DB,DI,B,B,B,B,B,B,B,B,B,B,B,B,B,B,B,B,B,B,B,B,B], [Z,Z,Z,Z,Z,Z,Z,Z,Z,Z,Z,Z,Z,Z,Z,Z,Z,Z,Z,Z,Z,Z,Z,Z,Z,Z,Z], .none⟩
def t36_4 {R : Type} (X : SD.D d36_4) (K : Ex → AS → Option R) := Pu.laws_eqVirtualFunctionS_T4 (fun y0 => K (.exit 0) (SD.enc d36_4 ((X.1.1, (X.1.2.1, (X.1.2.2.1, (y0, ())))), (), ()))) (fun y0 y1 => K .ret (SD.enc d36_4 ((X.1.1, (X.1.2.1, (y0, (y1, ())))), (), ()))) X.1.1 X.1.2.1 X.1.2.2.1
def l36_4 : LEnt := ⟨d36_4, fun X K => iterL (t36_4 X K) fuel X.1.2.2.2.1⟩
def L36 : Lam := (Lam.nil).add 4 l36_4
theorem k36_4 : LOk E g36 n36 L36 (loopBody Tryz.f36 0) :=
  lok l36_4 (by kernel_rfl) fuel fun R X K => (loop_iter (σ := Int) (fun x => SD.enc d36_4 ((X.1.1, (X.1.2.1, (X.1.2.2.1, (x, ())))), (), ())) (t36_4 X K) (fun m x => by kernel_rfl) fuel X.1.2.2.2.1).symm
theorem o36 : FnOk Tryz.prog 36 e36 := fk n36 ((base).add o79) Tryz.func36 (Λ := L36) (cF k36_4 nF)
def e80 : GEnt := entOf [.data true TMailbox, .data true TMailbox] [(false, .bool)] fun a => Pu.laws_eqMailbox a.1 a.2.1
theorem o80 : FnOk Tryz.prog 80 e80 := fk {} ((base).add o155) Tryz.func80 (Λ := Lam.nil) nF
def e37 : GEnt := entOf [.data false (.sl TMailbox), .data false (.sl TMailbox)] [(false, .bool)] fun a => Pu.laws_eqMailboxS a.1 a.2.1
def g37 : Gam := (Gam.nil).add 80 e80
def n37 : An := { mask := fun | 4 => [0, 1, 4, 5] | _ => [] }
@[reducible] def d37_4 : SD := ⟨[.data false (.sl .arg TMailbox),.data false (.sl .arg TMailbox),B,B,DB,DI,B,B,B,B,B,B,B,B,B,B,B,B,B,B,B,B,B,B,B,B,B], [Z,Z,Z,Z,Z,Z,Z,Z,Z,Z,Z,Z,Z,Z,Z,Z,Z,Z,Z,Z,Z,Z,Z,Z,Z,Z,Z], .none⟩
def t37_4 {R : Type} (X : SD.D d37_4) (K : Ex → AS → Option R) := Pu.laws_eqMailboxS_T4 (fun y0 => K (.exit 0) (SD.enc d37_4 ((X.1.1, (X.1.2.1, (X.1.2.2.1, (y0, ())))), (), ()))) (fun y0 y1 => K .ret (SD.enc d37_4 ((X.1.1, (X.1.2.1, (y0, (y1, ())))), (), ()))) X.1.1 X.1.2.1 X.1.2.2.1
def l37_4 : LEnt := ⟨d37_4, fun X K => iterL (t37_4 X K) fuel X.1.2.2.2.1⟩
def L37 : Lam := (Lam.nil).add 4 l37_4
theorem k37_4 : LOk E g37 n37 L37 (loopBody Tryz.f37 0) :=
  lok l37_4 (by kernel_rfl) fuel fun R X K => (loop_iter (σ := Int) (fun x => SD.enc d37_4 ((X.1.1, (X.1.2.1, (X.1.2.2.1, (x, ())))), (), ())) (t37_4 X K) (fun m x => by kernel_rfl) fuel X.1.2.2.2.1).symm
theorem o37 : FnOk Tryz.prog 37 e37 := fk n37 ((base).add o80) Tryz.func37 (Λ := L37) (cF k37_4 nF)
def e8 : GEnt := entOf [.data true TIdeal, .data true TIdeal] [(false, .bool)] fun a => Pu.laws_eqIdeal a.1 a.2.1
theorem o8 : FnOk Tryz.prog 8 e8 := fk {} ((((((base).add o34).add o35).add o36).add o37).add o38) Tryz.func8 (Λ := Lam.nil) nF
def e159 : GEnt := entOf [.data true (.sl .str), .data true (.sl .str)] [(false, .bool)] fun a => Pu.laws_eqMemory a.1 a.2.1
theorem o159 : FnOk Tryz.prog 159 e159 := fk {} ((base).add o38) Tryz.func159 (Λ := Lam.nil) nF
def e215 : GEnt := entOf [.data true TMapping, .data true TMapping] [(false, .bool)] fun a => Pu.laws_eqMapping a.1 a.2.1
theorem o215 : FnOk Tryz.prog 215 e215 := fk {} (base) Tryz.func215 (Λ := Lam.nil) nF
def e160 : GEnt := entOf [.data false (.sl TMapping), .data false (.sl TMapping)] [(false, .bool)] fun a => Pu.laws_eqMappingS a.1 a.2.1
def g160 : Gam := (Gam.nil).add 215 e215
def n160 : An := { mask := fun | 4 => [0, 1, 4, 5] | _ => [] }
@[reducible] def d160_4 : SD := ⟨[.data false (.sl .arg TMapping),.data false (.sl .arg TMapping),B,B,DB,DI,B,B,B,B,B,B,B,B,B,B,B,B,B,B,B,B,B,B,B,B,B], [Z,Z,Z,Z,Z,Z,Z,Z,Z,Z,Z,Z,Z,Z,Z,Z,Z,Z,Z,Z,Z,Z,Z,Z,Z,Z,Z], .none⟩
def t160_4 {R : Type} (X : SD.D d160_4) (K : Ex → AS → Option R) := Pu.laws_eqMappingS_T4 (fun y0 => K (.exit 0) (SD.enc d160_4 ((X.1.1, (X.1.2.1, (X.1.2.2.1, (y0, ())))), (), ()))) (fun y0 y1 => K .ret (SD.enc d160_4 ((X.1.1, (X.1.2.1, (y0, (y1, ())))), (), ()))) X.1.1 X.1.2.1 X.1.2.2.1
def l160_4 : LEnt := ⟨d160_4, fun X K => iterL (t160_4 X K) fuel X.1.2.2.2.1⟩
def L160 : Lam := (Lam.nil).add 4 l160_4
theorem k160_4 : LOk E g160 n160 L160 (loopBody Tryz.f160 0) :=
  lok l160_4 (by kernel_rfl) fuel fun R X K => (loop_iter (σ := Int) (fun x => SD.enc d160_4 ((X.1.1, (X.1.2.1, (X.1.2.2.1, (x, ())))), (), ())) (t160_4 X K) (fun m x => by kernel_rfl) fuel X.1.2.2.2.1).symm
theorem o160 : FnOk Tryz.prog 160 e160 := fk n160 ((base).add o215) Tryz.func160 (Λ := L160) (cF k160_4 nF)
def e216 : GEnt := entOf [.data true TClock, .data true TClock] [(false, .bool)] fun a => Pu.laws_eqRing a.1 a.2.1
theorem o216 : FnOk Tryz.prog 216 e216 := fk {} (base) Tryz.func216 (Λ := Lam.nil) nF
def e217 : GEnt := entOf [.data true TPool, .data true TPool] [(false, .bool)] fun a => Pu.laws_eqPool a.1 a.2.1
theorem o217 : FnOk Tryz.prog 217 e217 := fk {} ((base).add o42) Tryz.func217 (Λ := Lam.nil) nF
def e255 : GEnt := entOf [.data true TSent, .data true TSent] [(false, .bool)] fun a => Pu.laws_eqSent a.1 a.2.1
theorem o255 : FnOk Tryz.prog 255 e255 := fk {} ((base).add o42) Tryz.func255 (Λ := Lam.nil) nF
def e218 : GEnt := entOf [.data false (.sl TSent), .data false (.sl TSent)] [(false, .bool)] fun a => Pu.laws_eqSentS a.1 a.2.1
def g218 : Gam := (Gam.nil).add 255 e255
def n218 : An := { mask := fun | 4 => [0, 1, 4, 5] | _ => [] }
@[reducible] def d218_4 : SD := ⟨[.data false (.sl .arg TSent),.data false (.sl .arg TSent),B,B,DB,DI,B,B,B,B,B,B,B,B,B,B,B,B,B,B,B,B,B,B,B,B,B], [Z,Z,Z,Z,Z,Z,Z,Z,Z,Z,Z,Z,Z,Z,Z,Z,Z,Z,Z,Z,Z,Z,Z,Z,Z,Z,Z], .none⟩
def t218_4 {R : Type} (X : SD.D d218_4) (K : Ex → AS → Option R) := Pu.laws_eqSentS_T4 (fun y0 => K (.exit 0) (SD.enc d218_4 ((X.1.1, (X.1.2.1, (X.1.2.2.1, (y0, ())))), (), ()))) (fun y0 y1 => K .ret (SD.enc d218_4 ((X.1.1, (X.1.2.1, (y0, (y1, ())))), (), ()))) X.1.1 X.1.2.1 X.1.2.2.1
def l218_4 : LEnt := ⟨d218_4, fun X K => iterL (t218_4 X K) fuel X.1.2.2.2.1⟩
def L218 : Lam := (Lam.nil).add 4 l218_4
theorem k218_4 : LOk E g218 n218 L218 (loopBody Tryz.f218 0) :=
  lok l218_4 (by kernel_rfl) fuel fun R X K => (loop_iter (σ := Int) (fun x => SD.enc d218_4 ((X.1.1, (X.1.2.1, (X.1.2.2.1, (x, ())))), (), ())) (t218_4 X K) (fun m x => by kernel_rfl) fuel X.1.2.2.2.1).symm
theorem o218 : FnOk Tryz.prog 218 e218 := fk n218 ((base).add o255) Tryz.func218 (Λ := L218) (cF k218_4 nF)
def e161 : GEnt := entOf [.data true TTxQueue, .data true TTxQueue] [(false, .bool)] fun a => Pu.laws_eqTxQueue a.1 a.2.1
theorem o161 : FnOk Tryz.prog 161 e161 := fk {} ((((base).add o216).add o217).add o218) Tryz.func161 (Λ := Lam.nil) nF
def e256 : GEnt := entOf [.data true TBucket, .data true TBucket] [(false, .bool)] fun a => Pu.laws_eqCompletionQueue a.1 a.2.1
theorem o256 : FnOk Tryz.prog 256 e256 := fk {} (base) Tryz.func256 (Λ := Lam.nil) nF
def e268 : GEnt := entOf [.data true TSegment, .data true TSegment] [(false, .bool)] fun a => Pu.laws_eqSegment a.1 a.2.1
theorem o268 : FnOk Tryz.prog 268 e268 := fk {} (base) Tryz.func268 (Λ := Lam.nil) nF
def e265 : GEnt := entOf [.data true TPacket, .data true TPacket] [(false, .bool)] fun a => Pu.laws_eqPacket a.1 a.2.1
theorem o265 : FnOk Tryz.prog 265 e265 := fk {} ((base).add o268) Tryz.func265 (Λ := Lam.nil) nF
def e257 : GEnt := entOf [.data true TSuper, .data true TSuper] [(false, .bool)] fun a => Pu.laws_eqSuper a.1 a.2.1
theorem o257 : FnOk Tryz.prog 257 e257 := fk {} ((base).add o265) Tryz.func257 (Λ := Lam.nil) nF
def e219 : GEnt := entOf [.data true TRxQueue, .data true TRxQueue] [(false, .bool)] fun a => Pu.laws_eqRxQueue a.1 a.2.1
theorem o219 : FnOk Tryz.prog 219 e219 := fk {} ((((base).add o216).add o256).add o257) Tryz.func219 (Λ := Lam.nil) nF
def e162 : GEnt := entOf [.data false (.sl TRxQueue), .data false (.sl TRxQueue)] [(false, .bool)] fun a => Pu.laws_eqRxQueueS a.1 a.2.1
def g162 : Gam := (Gam.nil).add 219 e219
def n162 : An := { mask := fun | 4 => [0, 1, 4, 5] | _ => [] }
@[reducible] def d162_4 : SD := ⟨[.data false (.sl .arg TRxQueue),.data false (.sl .arg TRxQueue),B,B,DB,DI,B,B,B,B,B,B,B,B,B,B,B,B,B,B,B,B,B,B,B,B,B], [Z,Z,Z,Z,Z,Z,Z,Z,Z,Z,Z,Z,Z,Z,Z,Z,Z,Z,Z,Z,Z,Z,Z,Z,Z,Z,Z], .none⟩
def t162_4 {R : Type} (X : SD.D d162_4) (K : Ex → AS → Option R) := Pu.laws_eqRxQueueS_T4 (fun y0 => K (.exit 0) (SD.enc d162_4 ((X.1.1, (X.1.2.1, (X.1.2.2.1, (y0, ())))), (), ()))) (fun y0 y1 => K .ret (SD.enc d162_4 ((X.1.1, (X.1.2.1, (y0, (y1, ())))), (), ()))) X.1.1 X.1.2.1 X.1.2.2.1
def l162_4 : LEnt := ⟨d162_4, fun X K => iterL (t162_4 X K) fuel X.1.2.2.2.1⟩
def L162 : Lam := (Lam.nil).add 4 l162_4
theorem k162_4 : LOk E g162 n162 L162 (loopBody Tryz.f162 0) :=
  lok l162_4 (by kernel_rfl) fuel fun R X K => (loop_iter (σ := Int) (fun x => SD.enc d162_4 ((X.1.1, (X.1.2.1, (X.1.2.2.1, (x, ())))), (), ())) (t162_4 X K) (fun m x => by kernel_rfl) fuel X.1.2.2.2.1).symm
theorem o162 : FnOk Tryz.prog 162 e162 := fk n162 ((base).add o219) Tryz.func162 (Λ := L162) (cF k162_4 nF)
def e163 : GEnt := entOf [.data false (.sl TPool), .data false (.sl TPool)] [(false, .bool)] fun a => Pu.laws_eqPoolS a.1 a.2.1
def g163 : Gam := (Gam.nil).add 217 e217
def n163 : An := { mask := fun | 4 => [0, 1, 4, 5] | _ => [] }
@[reducible] def d163_4 : SD := ⟨[.data false (.sl .arg TPool),.data false (.sl .arg TPool),B,B,DB,DI,B,B,B,B,B,B,B,B,B,B,B,B,B,B,B,B,B,B,B,B,B], [Z,Z,Z,Z,Z,Z,Z,Z,Z,Z,Z,Z,Z,Z,Z,Z,Z,Z,Z,Z,Z,Z,Z,Z,Z,Z,Z], .none⟩
def t163_4 {R : Type} (X : SD.D d163_4) (K : Ex → AS → Option R) := Pu.laws_eqPoolS_T4 (fun y0 => K (.exit 0) (SD.enc d163_4 ((X.1.1, (X.1.2.1, (X.1.2.2.1, (y0, ())))), (), ()))) (fun y0 y1 => K .ret (SD.enc d163_4 ((X.1.1, (X.1.2.1, (y0, (y1, ())))), (), ()))) X.1.1 X.1.2.1 X.1.2.2.1
def l163_4 : LEnt := ⟨d163_4, fun X K => iterL (t163_4 X K) fuel X.1.2.2.2.1⟩
def L163 : Lam := (Lam.nil).add 4 l163_4
theorem k163_4 : LOk E g163 n163 L163 (loopBody Tryz.f163 0) :=
  lok l163_4 (by kernel_rfl) fuel fun R X K => (loop_iter (σ := Int) (fun x => SD.enc d163_4 ((X.1.1, (X.1.2.1, (X.1.2.2.1, (x, ())))), (), ())) (t163_4 X K) (fun m x => by kernel_rfl) fuel X.1.2.2.2.1).symm
theorem o163 : FnOk Tryz.prog 163 e163 := fk n163 ((base).add o217) Tryz.func163 (Λ := L163) (cF k163_4 nF)
def e220 : GEnt := entOf [.data true TVector, .data true TVector] [(false, .bool)] fun a => Pu.laws_eqVector a.1 a.2.1
theorem o220 : FnOk Tryz.prog 220 e220 := fk {} (base) Tryz.func220 (Λ := Lam.nil) nF
def e164 : GEnt := entOf [.data false (.sl TVector), .data false (.sl TVector)] [(false, .bool)] fun a => Pu.laws_eqVectorS a.1 a.2.1
def g164 : Gam := (Gam.nil).add 220 e220
def n164 : An := { mask := fun | 4 => [0, 1, 4, 5] | _ => [] }
@[reducible] def d164_4 : SD := ⟨[.data false (.sl .arg TVector),.data false (.sl .arg TVector),B,B,DB,DI,B,B,B,B,B,B,B,B,B,B,B,B,B,B,B,B,B,B,B,B,B], [Z,Z,Z,Z,Z,Z,Z,Z,Z,Z,Z,Z,Z,Z,Z,Z,Z,Z,Z,Z,Z,Z,Z,Z,Z,Z,Z], .none⟩
def t164_4 {R : Type} (X : SD.D d164_4) (K : Ex → AS → Option R) := Pu.laws_eqVectorS_T4 (fun y0 => K (.exit 0) (SD.enc d164_4 ((X.1.1, (X.1.2.1, (X.1.2.2.1, (y0, ())))), (), ()))) (fun y0 y1 => K .ret (SD.enc d164_4 ((X.1.1, (X.1.2.1, (y0, (y1, ())))), (), ()))) X.1.1 X.1.2.1 X.1.2.2.1
def l164_4 : LEnt := ⟨d164_4, fun X K => iterL (t164_4 X K) fuel X.1.2.2.2.1⟩
def L164 : Lam := (Lam.nil).add 4 l164_4
theorem k164_4 : LOk E g164 n164 L164 (loopBody Tryz.f164 0) :=
  lok l164_4 (by kernel_rfl) fuel fun R X K => (loop_iter (σ := Int) (fun x => SD.enc d164_4 ((X.1.1, (X.1.2.1, (X.1.2.2.1, (x, ())))), (), ())) (t164_4 X K) (fun m x => by kernel_rfl) fuel X.1.2.2.2.1).symm
theorem o164 : FnOk Tryz.prog 164 e164 := fk n164 ((base).add o220) Tryz.func164 (Λ := L164) (cF k164_4 nF)
def e165 : GEnt := entOf [.data false (.sl .bool), .data false (.sl .bool)] [(false, .bool)] fun a => Pu.laws_eqBoolS a.1 a.2.1
def g165 : Gam := Gam.nil
def n165 : An := { mask := fun | 4 => [0, 1, 4, 5] | _ => [] }
@[reducible] def d165_4 : SD := ⟨[.data false (.sl .arg .bool),.data false (.sl .arg .bool),B,B,DB,DI,B,B,B,B,B,B,B,B,B,B,B,B,B,B,B,B,B,B,B,B], [Z,Z,Z,Z,Z,Z,Z,Z,Z,Z,Z,Z,Z,Z,Z,Z,Z,Z,Z,Z,Z,Z,Z,Z,Z,Z], .none⟩
def t165_4 {R : Type} (X : SD.D d165_4) (K : Ex → AS → Option R) := Pu.laws_eqBoolS_T4 (fun y0 => K (.exit 0) (SD.enc d165_4 ((X.1.1, (X.1.2.1, (X.1.2.2.1, (y0, ())))), (), ()))) (fun y0 y1 => K .ret (SD.enc d165_4 ((X.1.1, (X.1.2.1, (y0, (y1, ())))), (), ()))) X.1.1 X.1.2.1 X.1.2.2.1
def l165_4 : LEnt := ⟨d165_4, fun X K => iterL (t165_4 X K) fuel X.1.2.2.2.1⟩
def L165 : Lam := (Lam.nil).add 4 l165_4
theorem k165_4 : LOk E g165 n165 L165 (loopBody Tryz.f165 0) :=
  lok l165_4 (by kernel_rfl) fuel fun R X K => (loop_iter (σ := Int) (fun x => SD.enc d165_4 ((X.1.1, (X.1.2.1, (X.1.2.2.1, (x, ())))), (), ())) (t165_4 X K) (fun m x => by kernel_rfl) fuel X.1.2.2.2.1).symm
theorem o165 : FnOk Tryz.prog 165 e165 := fk n165 (base) Tryz.func165 (Λ := L165) (cF k165_4 nF)
def e166 : GEnt := entOf [.data true TFlow, .data true TFlow] [(false, .bool)] fun a => Pu.laws_eqCounters a.1 a.2.1
theorem o166 : FnOk Tryz.prog 166 e166 := fk {} (base) Tryz.func166 (Λ := Lam.nil) nF
def e81 : GEnt := entOf [.data true THost, .data true THost] [(false, .bool)] fun a => Pu.laws_eqHost a.1 a.2.1
theorem o81 : FnOk Tryz.prog 81 e81 := fk {} ((((((((((((((base).add o38).add o42).add o155).add o156).add o157).add o159).add o160).add o161).add o162).add o163).add o164).add o165).add o166) Tryz.func81 (Λ := Lam.nil) nF
def e39 : GEnt := entOf [.data false (.sl THost), .data false (.sl THost)] [(false, .bool)] fun a => Pu.laws_eqHostS a.1 a.2.1
def g39 : Gam := (Gam.nil).add 81 e81
def n39 : An := { mask := fun | 4 => [0, 1, 4, 5] | _ => [] }
@[reducible] def d39_4 : SD := ⟨[.data false (.sl .arg THost),.data false (.sl .arg THost),B,B,DB,DI,B,B,B,B,B,B,B,B,B,B,B,B,B,B,B,B,B,B,B,B,B], [Z,Z,Z,Z,Z,Z,Z,Z,Z,Z,Z,Z,Z,Z,Z,Z,Z,Z,Z,Z,Z,Z,Z,Z,Z,Z,Z], .none⟩
def t39_4 {R : Type} (X : SD.D d39_4) (K : Ex → AS → Option R) := Pu.laws_eqHostS_T4 (fun y0 => K (.exit 0) (SD.enc d39_4 ((X.1.1, (X.1.2.1, (X.1.2.2.1, (y0, ())))), (), ()))) (fun y0 y1 => K .ret (SD.enc d39_4 ((X.1.1, (X.1.2.1, (y0, (y1, ())))), (), ()))) X.1.1 X.1.2.1 X.1.2.2.1
def l39_4 : LEnt := ⟨d39_4, fun X K => iterL (t39_4 X K) fuel X.1.2.2.2.1⟩
def L39 : Lam := (Lam.nil).add 4 l39_4
theorem k39_4 : LOk E g39 n39 L39 (loopBody Tryz.f39 0) :=
  lok l39_4 (by kernel_rfl) fuel fun R X K => (loop_iter (σ := Int) (fun x => SD.enc d39_4 ((X.1.1, (X.1.2.1, (X.1.2.2.1, (x, ())))), (), ())) (t39_4 X K) (fun m x => by kernel_rfl) fuel X.1.2.2.2.1).symm
theorem o39 : FnOk Tryz.prog 39 e39 := fk n39 ((base).add o81) Tryz.func39 (Λ := L39) (cF k39_4 nF)
def e40 : GEnt := entOf [.data true (.sl .str), .data true (.sl .str)] [(false, .bool)] fun a => Pu.laws_eqFlash a.1 a.2.1
theorem o40 : FnOk Tryz.prog 40 e40 := fk {} ((base).add o38) Tryz.func40 (Λ := Lam.nil) nF
def e41 : GEnt := entOf [.data true TClock, .data true TClock] [(false, .bool)] fun a => Pu.laws_eqClock a.1 a.2.1
theorem o41 : FnOk Tryz.prog 41 e41 := fk {} (base) Tryz.func41 (Λ := Lam.nil) nF
def e9 : GEnt := entOf [.data true TCard, .data true TCard] [(false, .bool)] fun a => Pu.laws_eqCard a.1 a.2.1
theorem o9 : FnOk Tryz.prog 9 e9 := fk {} ((((((((base).add o36).add o37).add o38).add o39).add o40).add o41).add o42) Tryz.func9 (Λ := Lam.nil) nF
def e47 : GEnt := entIo (.sl (.int .i64)) false [.data false (.int .i64)] [(false, (.int .i64))] fun x a => Pu.laws_markIntS x a.1
def g47 : Gam := Gam.nil
def n47 : An := { mask := fun | 2 => [0, 1, 5] | _ => [] }
@[reducible] def d47_2 : SD := ⟨[.data false (.sl (.lio 0 12288036864) (.int .i64)),DI,B,B,B,DI,B,B,B,B,B,B,B,B,B,B,B,B,B], [Z,Z,Z,Z,Z,Z,Z,Z,Z,Z,Z,Z,Z,Z,Z,Z,Z,Z,Z], .some (.sl (.own (some 12288036864)) (.int .i64))⟩
def t47_2 {R : Type} (X : SD.D d47_2) (K : Ex → AS → Option R) := Pu.laws_markIntS_T2 (fun y0 y1 y2 y3 => K (.exit 0) (SD.enc d47_2 ((y0, (y1, (y2, ()))), (), y3))) 
def l47_2 : LEnt := ⟨d47_2, fun X K => iterL (t47_2 X K) fuel (X.1.1, X.1.2.1, X.1.2.2.1, X.2.2)⟩
def L47 : Lam := (Lam.nil).add 2 l47_2
theorem k47_2 : LOk E g47 n47 L47 (loopBody Tryz.f47 0) :=
  lok l47_2 (by kernel_rfl) fuel fun R X K => (loop_iter (σ := (List Int) × Int × Int × List Int) (fun x => SD.enc d47_2 ((x.1, (x.2.1, (x.2.2.1, ()))), (), x.2.2.2)) (t47_2 X K) (fun m x => by kernel_rfl) fuel (X.1.1, X.1.2.1, X.1.2.2.1, X.2.2)).symm
theorem o47 : FnOk Tryz.prog 47 e47 := FnOk.ofIo (fnIo (Γ := g47) (an := n47) (Λ := L47) (base) Tryz.func47 (by kernel_rfl) (hF (by kernel_rfl) (cF k47_2 nF))) (fun x a => by kernel_rfl)
def e90 : GEnt := entOf [.data false (.int .i64)] [(false, .str)] fun a => Pu.laws_markText a.1
def g90 : Gam := Gam.nil
def n90 : An := { mask := fun | 4 => [0, 3] | _ => [] }
@[reducible] def d90_4 : SD := ⟨[DI,B,B,.data false .str,B,B,B,B,B,B,B,B,B,B,B,B,B,B,B,B], [Z,Z,Z,Z,Z,Z,Z,Z,Z,Z,Z,Z,Z,Z,Z,Z,Z,Z,Z,Z], .none⟩
def t90_4 {R : Type} (X : SD.D d90_4) (K : Ex → AS → Option R) := Pu.laws_markText_T4 (fun y0 y1 => K (.exit 0) (SD.enc d90_4 ((y0, (y1, ())), (), ()))) 
def l90_4 : LEnt := ⟨d90_4, fun X K => iterL (t90_4 X K) fuel (X.1.1, X.1.2.1)⟩
def L90 : Lam := (Lam.nil).add 4 l90_4
theorem k90_4 : LOk E g90 n90 L90 (loopBody Tryz.f90 0) :=
  lok l90_4 (by kernel_rfl) fuel fun R X K => (loop_iter (σ := Int × Pu.Bytes) (fun x => SD.enc d90_4 ((x.1, (x.2, ())), (), ())) (t90_4 X K) (fun m x => by kernel_rfl) fuel (X.1.1, X.1.2.1)).symm
theorem o90 : FnOk Tryz.prog 90 e90 := fk n90 (base) Tryz.func90 (Λ := L90) (cF k90_4 nF)
def e48 : GEnt := entIo (.sl .str) false [.data false (.int .i64)] [(false, (.int .i64))] fun x a => Pu.laws_markStringS x a.1
def g48 : Gam := (Gam.nil).add 90 e90
def n48 : An := { mask := fun | 2 => [0, 1, 5] | _ => [] }
@[reducible] def d48_2 : SD := ⟨[.data false (.sl (.lio 0 12288036864) .str),DI,B,B,B,DI,B,B,B,B,B,B,B,B,B,B,B,B,B,B], [Z,Z,Z,Z,Z,Z,Z,Z,Z,Z,Z,Z,Z,Z,Z,Z,Z,Z,Z,Z], .some (.sl (.own (some 12288036864)) .str)⟩
def t48_2 {R : Type} (X : SD.D d48_2) (K : Ex → AS → Option R) := Pu.laws_markStringS_T2 (fun y0 y1 y2 y3 => K (.exit 0) (SD.enc d48_2 ((y0, (y1, (y2, ()))), (), y3))) 
def l48_2 : LEnt := ⟨d48_2, fun X K => iterL (t48_2 X K) fuel (X.1.1, X.1.2.1, X.1.2.2.1, X.2.2)⟩
def L48 : Lam := (Lam.nil).add 2 l48_2
theorem k48_2 : LOk E g48 n48 L48 (loopBody Tryz.f48 0) :=
  lok l48_2 (by kernel_rfl) fuel fun R X K => (loop_iter (σ := (List Pu.Bytes) × Int × Int × List Pu.Bytes) (fun x => SD.enc d48_2 ((x.1, (x.2.1, (x.2.2.1, ()))), (), x.2.2.2)) (t48_2 X K) (fun m x => by kernel_rfl) fuel (X.1.1, X.1.2.1, X.1.2.2.1, X.2.2)).symm
theorem o48 : FnOk Tryz.prog 48 e48 := FnOk.ofIo (fnIo (Γ := g48) (an := n48) (Λ := L48) ((base).add o90) Tryz.func48 (by kernel_rfl) (hF (by kernel_rfl) (cF k48_2 nF))) (fun x a => by kernel_rfl)
def e82 : GEnt := entIo (.sl TMapping) false [.data false (.int .i64)] [(false, (.int .i64))] fun x a => Pu.laws_markMappingS x a.1
def g82 : Gam := Gam.nil
def n82 : An := { mask := fun | 2 => [0, 1, 5] | _ => [] }
@[reducible] def d82_2 : SD := ⟨[.data false (.sl (.lio 0 12288036864) TMapping),DI,B,B,B,DI,B,B,B,B,B,B,B,B,B,B,B,B,B,B,B,B,B,B,B,B,B,B,B,B,B,B,B,B,B,B,B,B,B,B,B,B,B], [Z,Z,Z,Z,Z,Z,Z,Z,Z,Z,Z,Z,Z,Z,Z,Z,Z,Z,Z,Z,Z,Z,Z,Z,Z,Z,Z,Z,Z,Z,Z,Z,Z,Z,Z,Z,Z,Z,Z,Z,Z,Z,Z], .some (.sl (.own (some 12288036864)) TMapping)⟩
def t82_2 {R : Type} (X : SD.D d82_2) (K : Ex → AS → Option R) := Pu.laws_markMappingS_T2 (fun y0 y1 y2 y3 => K (.exit 0) (SD.enc d82_2 ((y0, (y1, (y2, ()))), (), y3))) 
def l82_2 : LEnt := ⟨d82_2, fun X K => iterL (t82_2 X K) fuel (X.1.1, X.1.2.1, X.1.2.2.1, X.2.2)⟩
def L82 : Lam := (Lam.nil).add 2 l82_2
theorem k82_2 : LOk E g82 n82 L82 (loopBody Tryz.f82 0) :=
  lok l82_2 (by kernel_rfl) fuel fun R X K => (loop_iter (σ := (List Pu.Mapping) × Int × Int × List Pu.Mapping) (fun x => SD.enc d82_2 ((x.1, (x.2.1, (x.2.2.1, ()))), (), x.2.2.2)) (t82_2 X K) (fun m x => by kernel_rfl) fuel (X.1.1, X.1.2.1, X.1.2.2.1, X.2.2)).symm
theorem o82 : FnOk Tryz.prog 82 e82 := FnOk.ofIo (fnIo (Γ := g82) (an := n82) (Λ := L82) (base) Tryz.func82 (by kernel_rfl) (hF (by kernel_rfl) (cF k82_2 nF))) (fun x a => by kernel_rfl)
def e83 : GEnt := entIo (.sl TSent) false [.data false (.int .i64)] [(false, (.int .i64))] fun x a => Pu.laws_markSentS x a.1
def g83 : Gam := (Gam.nil).add 47 e47
def n83 : An := { mask := fun | 2 => [0, 1, 5] | _ => [], nest := [30] }
@[reducible] def d83_2 : SD := ⟨[.data false (.sl (.lio 0 12288036864) TSent),DI,B,B,B,DI,B,B,B,B,B,B,B,B,B,B,B,B,B,B,B,B,B,B,B,B,B,B,B,B,B,B,B,B], [Z,Z,Z,Z,Z,Z,Z,Z,Z,Z,Z,Z,Z,Z,Z,Z,Z,Z,Z,Z,Z,Z,Z,Z,Z,Z,Z,Z,Z,Z,Z,Z,Z,Z], .some (.sl (.own (some 12288036864)) TSent)⟩
def t83_2 {R : Type} (X : SD.D d83_2) (K : Ex → AS → Option R) := Pu.laws_markSentS_T2 (fun y0 y1 y2 y3 => K (.exit 0) (SD.enc d83_2 ((y0, (y1, (y2, ()))), (), y3))) 
def l83_2 : LEnt := ⟨d83_2, fun X K => iterL (t83_2 X K) fuel (X.1.1, X.1.2.1, X.1.2.2.1, X.2.2)⟩
def L83 : Lam := (Lam.nil).add 2 l83_2
theorem k83_2 : LOk E g83 n83 L83 (loopBody Tryz.f83 0) :=
  lok l83_2 (by kernel_rfl) fuel fun R X K => (loop_iter (σ := (List Pu.Sent) × Int × Int × List Pu.Sent) (fun x => SD.enc d83_2 ((x.1, (x.2.1, (x.2.2.1, ()))), (), x.2.2.2)) (t83_2 X K) (fun m x => by kernel_rfl) fuel (X.1.1, X.1.2.1, X.1.2.2.1, X.2.2)).symm
theorem o83 : FnOk Tryz.prog 83 e83 := FnOk.ofIo (fnIo (Γ := g83) (an := n83) (Λ := L83) ((base).add o47) Tryz.func83 (by kernel_rfl) (hF (by kernel_rfl) (cF k83_2 nF))) (fun x a => by kernel_rfl)
def e84 : GEnt := entIo (.sl TRxQueue) false [.data false (.int .i64)] [(false, (.int .i64))] fun x a => Pu.laws_markRxQueueS x a.1
def g84 : Gam := (Gam.nil).add 90 e90
def n84 : An := { mask := fun | 2 => [0, 1, 5] | _ => [] }
@[reducible] def d84_2 : SD := ⟨[.data false (.sl (.lio 0 12288036864) TRxQueue),DI,B,B,B,DI,B,B,B,B,B,B,B,B,B,B,B,B,B,B,B,B,B,B,B,B,B,B,B,B,B,B,B,B,B,B,B,B,B,B,B,B,B,B,B,B,B,B,B,B,B,B,B,B,B,B,B,B,B,B,B,B,B,B,B,B,B,B,B,B,B,B,B,B,B,B,B,B,B,B,B,B,B,B,B,B,B,B,B,B,B,B,B,B,B,B,B,B,B,B,B,B,B,B,B,B,B,B,B,B,B,B,B,B,B,B,B,B,B,B,B,B,B,B,B,B,B,B,B,B,B,B,B,B,B,B,B,B,B,B,B,B,B,B,B,B,B,B,B,B,B,B,B,B,B,B,B,B,B,B,B,B,B,B,B,B,B,B,B,B,B,B,B,B,B,B,B,B,B,B,B,B,B,B,B,B,B,B,B,B,B,B,B,B,B,B,B,B,B,B,B,B,B,B,B,B,B,B,B,B,B,B,B,B,B,B,B,B,B,B,B,B,B,B,B,B,B,B,B,B,B,B,B,B,B,B,B,B,B,B,B,B,B,B,B,B,B,B,B,B,B,B,B,B,B,B,B,B,B,B,B,B,B,B,B,B,B,B,B,B,B,B,B,B,B,B,B,B], [Z,Z,Z,Z,Z,Z,Z,Z,Z,Z,Z,Z,Z,Z,Z,Z,Z,Z,Z,Z,Z,Z,Z,Z,Z,Z,Z,Z,Z,Z,Z,Z,Z,Z,Z,Z,Z,Z,Z,Z,Z,Z,Z,Z,Z,Z,Z,Z,Z,Z,Z,Z,Z,Z,Z,Z,Z,Z,Z,Z,Z,Z,Z,Z,Z,Z,Z,Z,Z,Z,Z,Z,Z,Z,Z,Z,Z,Z,Z,Z,Z,Z,Z,Z,Z,Z,Z,Z,Z,Z,Z,Z,Z,Z,Z,Z,Z,Z,Z,Z,Z,Z,Z,Z,Z,Z,Z,Z,Z,Z,Z,Z,Z,Z,Z,Z,Z,Z,Z,Z,Z,Z,Z,Z,Z,Z,Z,Z,Z,Z,Z,Z,Z,Z,Z,Z,Z,Z,Z,Z,Z,Z,Z,Z,Z,Z,Z,Z,Z,Z,Z,Z,Z,Z,Z,Z,Z,Z,Z,Z,Z,Z,Z,Z,Z,Z,Z,Z,Z,Z,Z,Z,Z,Z,Z,Z,Z,Z,Z,Z,Z,Z,Z,Z,Z,Z,Z,Z,Z,Z,Z,Z,Z,Z,Z,Z,Z,Z,Z,Z,Z,Z,Z,Z,Z,Z,Z,Z,Z,Z,Z,Z,Z,Z,Z,Z,Z,Z,Z,Z,Z,Z,Z,Z,Z,Z,Z,Z,Z,Z,Z,Z,Z,Z,Z,Z,Z,Z,Z,Z,Z,Z,Z,Z,Z,Z,Z,Z,Z,Z,Z,Z,Z,Z,Z,Z,Z,Z,Z,Z,Z,Z,Z,Z,Z,Z,Z,Z,Z,Z,Z,Z,Z,Z,Z,Z,Z,Z], .some (.sl (.own (some 12288036864)) TRxQueue)⟩
def t84_2 {R : Type} (X : SD.D d84_2) (K : Ex → AS → Option R) := Pu.laws_markRxQueueS_T2 (fun y0 y1 y2 y3 => K (.exit 0) (SD.enc d84_2 ((y0, (y1, (y2, ()))), (), y3))) 
def l84_2 : LEnt := ⟨d84_2, fun X K => iterL (t84_2 X K) fuel (X.1.1, X.1.2.1, X.1.2.2.1, X.2.2)⟩
def L84 : Lam := (Lam.nil).add 2 l84_2
theorem k84_2 : LOk E g84 n84 L84 (loopBody Tryz.f84 0) :=
  lok l84_2 (by kernel_rfl) fuel fun R X K => (loop_iter (σ := (List Pu.RxQueue) × Int × Int × List Pu.RxQueue) (fun x => SD.enc d84_2 ((x.1, (x.2.1, (x.2.2.1, ()))), (), x.2.2.2)) (t84_2 X K) (fun m x => by kernel_rfl) fuel (X.1.1, X.1.2.1, X.1.2.2.1, X.2.2)).symm
theorem o84 : FnOk Tryz.prog 84 e84 := FnOk.ofIo (fnIo (Γ := g84) (an := n84) (Λ := L84) ((base).add o90) Tryz.func84 (by kernel_rfl) (hF (by kernel_rfl) (cF k84_2 nF))) (fun x a => by kernel_rfl)
def e85 : GEnt := entIo (.sl TPool) false [.data false (.int .i64)] [(false, (.int .i64))] fun x a => Pu.laws_markPoolS x a.1
def g85 : Gam := (Gam.nil).add 47 e47
def n85 : An := { mask := fun | 2 => [0, 1, 5] | _ => [], nest := [37] }
@[reducible] def d85_2 : SD := ⟨[.data false (.sl (.lio 0 12288036864) TPool),DI,B,B,B,DI,B,B,B,B,B,B,B,B,B,B,B,B,B,B,B,B,B,B,B,B,B,B,B,B,B,B,B,B,B,B,B,B,B,B,B], [Z,Z,Z,Z,Z,Z,Z,Z,Z,Z,Z,Z,Z,Z,Z,Z,Z,Z,Z,Z,Z,Z,Z,Z,Z,Z,Z,Z,Z,Z,Z,Z,Z,Z,Z,Z,Z,Z,Z,Z,Z], .some (.sl (.own (some 12288036864)) TPool)⟩
def t85_2 {R : Type} (X : SD.D d85_2) (K : Ex → AS → Option R) := Pu.laws_markPoolS_T2 (fun y0 y1 y2 y3 => K (.exit 0) (SD.enc d85_2 ((y0, (y1, (y2, ()))), (), y3))) 
def l85_2 : LEnt := ⟨d85_2, fun X K => iterL (t85_2 X K) fuel (X.1.1, X.1.2.1, X.1.2.2.1, X.2.2)⟩
def L85 : Lam := (Lam.nil).add 2 l85_2
theorem k85_2 : LOk E g85 n85 L85 (loopBody Tryz.f85 0) :=
  lok l85_2 (by kernel_rfl) fuel fun R X K => (loop_iter (σ := (List Pu.Pool) × Int × Int × List Pu.Pool) (fun x => SD.enc d85_2 ((x.1, (x.2.1, (x.2.2.1, ()))), (), x.2.2.2)) (t85_2 X K) (fun m x => by kernel_rfl) fuel (X.1.1, X.1.2.1, X.1.2.2.1, X.2.2)).symm
theorem o85 : FnOk Tryz.prog 85 e85 := FnOk.ofIo (fnIo (Γ := g85) (an := n85) (Λ := L85) ((base).add o47) Tryz.func85 (by kernel_rfl) (hF (by kernel_rfl) (cF k85_2 nF))) (fun x a => by kernel_rfl)
def e86 : GEnt := entIo (.sl TVector) false [.data false (.int .i64)] [(false, (.int .i64))] fun x a => Pu.laws_markVectorS x a.1
def g86 : Gam := Gam.nil
def n86 : An := { mask := fun | 2 => [0, 1, 5] | _ => [] }
@[reducible] def d86_2 : SD := ⟨[.data false (.sl (.lio 0 12288036864) TVector),DI,B,B,B,DI,B,B,B,B,B,B,B,B,B,B,B,B,B,B,B,B,B,B,B,B,B,B,B,B,B,B,B,B,B,B,B,B,B,B,B,B,B,B,B,B,B,B,B,B,B,B,B,B,B,B,B,B,B], [Z,Z,Z,Z,Z,Z,Z,Z,Z,Z,Z,Z,Z,Z,Z,Z,Z,Z,Z,Z,Z,Z,Z,Z,Z,Z,Z,Z,Z,Z,Z,Z,Z,Z,Z,Z,Z,Z,Z,Z,Z,Z,Z,Z,Z,Z,Z,Z,Z,Z,Z,Z,Z,Z,Z,Z,Z,Z,Z], .some (.sl (.own (some 12288036864)) TVector)⟩
def t86_2 {R : Type} (X : SD.D d86_2) (K : Ex → AS → Option R) := Pu.laws_markVectorS_T2 (fun y0 y1 y2 y3 => K (.exit 0) (SD.enc d86_2 ((y0, (y1, (y2, ()))), (), y3))) 
def l86_2 : LEnt := ⟨d86_2, fun X K => iterL (t86_2 X K) fuel (X.1.1, X.1.2.1, X.1.2.2.1, X.2.2)⟩
def L86 : Lam := (Lam.nil).add 2 l86_2
theorem k86_2 : LOk E g86 n86 L86 (loopBody Tryz.f86 0) :=
  lok l86_2 (by kernel_rfl) fuel fun R X K => (loop_iter (σ := (List Pu.Vector) × Int × Int × List Pu.Vector) (fun x => SD.enc d86_2 ((x.1, (x.2.1, (x.2.2.1, ()))), (), x.2.2.2)) (t86_2 X K) (fun m x => by kernel_rfl) fuel (X.1.1, X.1.2.1, X.1.2.2.1, X.2.2)).symm
theorem o86 : FnOk Tryz.prog 86 e86 := FnOk.ofIo (fnIo (Γ := g86) (an := n86) (Λ := L86) (base) Tryz.func86 (by kernel_rfl) (hF (by kernel_rfl) (cF k86_2 nF))) (fun x a => by kernel_rfl)
def e87 : GEnt := entIo (.sl .bool) false [.data false (.int .i64)] [(false, (.int .i64))] fun x a => Pu.laws_markBoolS x a.1
def g87 : Gam := Gam.nil
def n87 : An := { mask := fun | 2 => [0, 1, 5] | _ => [] }
@[reducible] def d87_2 : SD := ⟨[.data false (.sl (.lio 0 12288036864) .bool),DI,B,B,B,DI,B,B,B,B,B,B,B,B,B,B,B,B,B,B,B], [Z,Z,Z,Z,Z,Z,Z,Z,Z,Z,Z,Z,Z,Z,Z,Z,Z,Z,Z,Z,Z], .some (.sl (.own (some 12288036864)) .bool)⟩
def t87_2 {R : Type} (X : SD.D d87_2) (K : Ex → AS → Option R) := Pu.laws_markBoolS_T2 (fun y0 y1 y2 y3 => K (.exit 0) (SD.enc d87_2 ((y0, (y1, (y2, ()))), (), y3))) 
def l87_2 : LEnt := ⟨d87_2, fun X K => iterL (t87_2 X K) fuel (X.1.1, X.1.2.1, X.1.2.2.1, X.2.2)⟩
def L87 : Lam := (Lam.nil).add 2 l87_2
theorem k87_2 : LOk E g87 n87 L87 (loopBody Tryz.f87 0) :=
  lok l87_2 (by kernel_rfl) fuel fun R X K => (loop_iter (σ := (List Bool) × Int × Int × List Bool) (fun x => SD.enc d87_2 ((x.1, (x.2.1, (x.2.2.1, ()))), (), x.2.2.2)) (t87_2 X K) (fun m x => by kernel_rfl) fuel (X.1.1, X.1.2.1, X.1.2.2.1, X.2.2)).symm
theorem o87 : FnOk Tryz.prog 87 e87 := FnOk.ofIo (fnIo (Γ := g87) (an := n87) (Λ := L87) (base) Tryz.func87 (by kernel_rfl) (hF (by kernel_rfl) (cF k87_2 nF))) (fun x a => by kernel_rfl)
def e88 : GEnt := entIo (.sl TRule) false [.data false (.int .i64)] [(false, (.int .i64))] fun x a => Pu.laws_markRuleS x a.1
def g88 : Gam := Gam.nil
def n88 : An := { mask := fun | 2 => [0, 1, 5] | _ => [] }
@[reducible] def d88_2 : SD := ⟨[.data false (.sl (.lio 0 12288036864) TRule),DI,B,B,B,DI,B,B,B,B,B,B,B,B,B,B,B,B,B,B,B,B,B,B,B,B,B,B,B,B,B,B,B,B,B,B,B,B,B,B,B,B,B,B,B,B,B,B,B,B,B,B,B,B,B,B,B,B,B,B,B,B,B,B,B,B,B,B,B,B,B,B,B,B,B,B], [Z,Z,Z,Z,Z,Z,Z,Z,Z,Z,Z,Z,Z,Z,Z,Z,Z,Z,Z,Z,Z,Z,Z,Z,Z,Z,Z,Z,Z,Z,Z,Z,Z,Z,Z,Z,Z,Z,Z,Z,Z,Z,Z,Z,Z,Z,Z,Z,Z,Z,Z,Z,Z,Z,Z,Z,Z,Z,Z,Z,Z,Z,Z,Z,Z,Z,Z,Z,Z,Z,Z,Z,Z,Z,Z,Z], .some (.sl (.own (some 12288036864)) TRule)⟩
def t88_2 {R : Type} (X : SD.D d88_2) (K : Ex → AS → Option R) := Pu.laws_markRuleS_T2 (fun y0 y1 y2 y3 => K (.exit 0) (SD.enc d88_2 ((y0, (y1, (y2, ()))), (), y3))) 
def l88_2 : LEnt := ⟨d88_2, fun X K => iterL (t88_2 X K) fuel (X.1.1, X.1.2.1, X.1.2.2.1, X.2.2)⟩
def L88 : Lam := (Lam.nil).add 2 l88_2
theorem k88_2 : LOk E g88 n88 L88 (loopBody Tryz.f88 0) :=
  lok l88_2 (by kernel_rfl) fuel fun R X K => (loop_iter (σ := (List Pu.Rule) × Int × Int × List Pu.Rule) (fun x => SD.enc d88_2 ((x.1, (x.2.1, (x.2.2.1, ()))), (), x.2.2.2)) (t88_2 X K) (fun m x => by kernel_rfl) fuel (X.1.1, X.1.2.1, X.1.2.2.1, X.2.2)).symm
theorem o88 : FnOk Tryz.prog 88 e88 := FnOk.ofIo (fnIo (Γ := g88) (an := n88) (Λ := L88) (base) Tryz.func88 (by kernel_rfl) (hF (by kernel_rfl) (cF k88_2 nF))) (fun x a => by kernel_rfl)
def e89 : GEnt := entIo (.sl TSlot) false [.data false (.int .i64)] [(false, (.int .i64))] fun x a => Pu.laws_markSlotS x a.1
def g89 : Gam := Gam.nil
def n89 : An := { mask := fun | 2 => [0, 1, 5] | _ => [] }
@[reducible] def d89_2 : SD := ⟨[.data false (.sl (.lio 0 12288036864) TSlot),DI,B,B,B,DI,B,B,B,B,B,B,B,B,B,B,B,B,B,B,B,B,B,B,B,B,B,B,B,B,B,B,B,B,B,B,B,B,B,B,B,B,B,B,B,B,B,B,B,B,B,B,B,B,B,B,B,B,B,B,B,B,B,B,B,B,B], [Z,Z,Z,Z,Z,Z,Z,Z,Z,Z,Z,Z,Z,Z,Z,Z,Z,Z,Z,Z,Z,Z,Z,Z,Z,Z,Z,Z,Z,Z,Z,Z,Z,Z,Z,Z,Z,Z,Z,Z,Z,Z,Z,Z,Z,Z,Z,Z,Z,Z,Z,Z,Z,Z,Z,Z,Z,Z,Z,Z,Z,Z,Z,Z,Z,Z,Z], .some (.sl (.own (some 12288036864)) TSlot)⟩
def t89_2 {R : Type} (X : SD.D d89_2) (K : Ex → AS → Option R) := Pu.laws_markSlotS_T2 (fun y0 y1 y2 y3 => K (.exit 0) (SD.enc d89_2 ((y0, (y1, (y2, ()))), (), y3))) 
def l89_2 : LEnt := ⟨d89_2, fun X K => iterL (t89_2 X K) fuel (X.1.1, X.1.2.1, X.1.2.2.1, X.2.2)⟩
def L89 : Lam := (Lam.nil).add 2 l89_2
theorem k89_2 : LOk E g89 n89 L89 (loopBody Tryz.f89 0) :=
  lok l89_2 (by kernel_rfl) fuel fun R X K => (loop_iter (σ := (List Pu.Slot) × Int × Int × List Pu.Slot) (fun x => SD.enc d89_2 ((x.1, (x.2.1, (x.2.2.1, ()))), (), x.2.2.2)) (t89_2 X K) (fun m x => by kernel_rfl) fuel (X.1.1, X.1.2.1, X.1.2.2.1, X.2.2)).symm
theorem o89 : FnOk Tryz.prog 89 e89 := FnOk.ofIo (fnIo (Γ := g89) (an := n89) (Λ := L89) (base) Tryz.func89 (by kernel_rfl) (hF (by kernel_rfl) (cF k89_2 nF))) (fun x a => by kernel_rfl)
def e91 : GEnt := entIo (.sl TStream) false [.data false (.int .i64)] [(false, (.int .i64))] fun x a => Pu.laws_markStreamS x a.1
def g91 : Gam := (Gam.nil).add 90 e90
def n91 : An := { mask := fun | 2 => [0, 1, 5] | _ => [] }
@[reducible] def d91_2 : SD := ⟨[.data false (.sl (.lio 0 12288036864) TStream),DI,B,B,B,DI,B,B,B,B,B,B,B,B,B,B,B,B,B,B,B,B,B,B,B,B,B,B,B,B,B,B,B,B,B,B,B,B,B,B,B,B,B,B,B,B,B,B,B,B,B,B,B,B,B,B,B,B,B,B,B,B,B,B,B,B,B,B,B,B,B,B,B,B,B,B,B], [Z,Z,Z,Z,Z,Z,Z,Z,Z,Z,Z,Z,Z,Z,Z,Z,Z,Z,Z,Z,Z,Z,Z,Z,Z,Z,Z,Z,Z,Z,Z,Z,Z,Z,Z,Z,Z,Z,Z,Z,Z,Z,Z,Z,Z,Z,Z,Z,Z,Z,Z,Z,Z,Z,Z,Z,Z,Z,Z,Z,Z,Z,Z,Z,Z,Z,Z,Z,Z,Z,Z,Z,Z,Z,Z,Z,Z], .some (.sl (.own (some 12288036864)) TStream)⟩
def t91_2 {R : Type} (X : SD.D d91_2) (K : Ex → AS → Option R) := Pu.laws_markStreamS_T2 (fun y0 y1 y2 y3 => K (.exit 0) (SD.enc d91_2 ((y0, (y1, (y2, ()))), (), y3))) 
def l91_2 : LEnt := ⟨d91_2, fun X K => iterL (t91_2 X K) fuel (X.1.1, X.1.2.1, X.1.2.2.1, X.2.2)⟩
def L91 : Lam := (Lam.nil).add 2 l91_2
theorem k91_2 : LOk E g91 n91 L91 (loopBody Tryz.f91 0) :=
  lok l91_2 (by kernel_rfl) fuel fun R X K => (loop_iter (σ := (List Pu.Stream) × Int × Int × List Pu.Stream) (fun x => SD.enc d91_2 ((x.1, (x.2.1, (x.2.2.1, ()))), (), x.2.2.2)) (t91_2 X K) (fun m x => by kernel_rfl) fuel (X.1.1, X.1.2.1, X.1.2.2.1, X.2.2)).symm
theorem o91 : FnOk Tryz.prog 91 e91 := FnOk.ofIo (fnIo (Γ := g91) (an := n91) (Λ := L91) ((base).add o90) Tryz.func91 (by kernel_rfl) (hF (by kernel_rfl) (cF k91_2 nF))) (fun x a => by kernel_rfl)
def e43 : GEnt := entIo (.sl THost) false [.data false (.int .i64)] [(false, (.int .i64))] fun x a => Pu.laws_markHostS x a.1
def g43 : Gam := ((((((((((((Gam.nil).add 47 e47).add 48 e48).add 82 e82).add 83 e83).add 84 e84).add 85 e85).add 86 e86).add 87 e87).add 88 e88).add 89 e89).add 90 e90).add 91 e91
def n43 : An := { mask := fun | 2 => [0, 1, 5] | _ => [], nest := [17, 24, 96, 104, 119, 126, 133, 140, 166, 174, 183, 202, 209, 225, 232, 239] }
@[reducible] def d43_2 : SD := ⟨[.data false (.sl (.lio 0 12288036864) THost),DI,B,B,B,DI,B,B,B,B,B,B,B,B,B,B,B,B,B,B,B,B,B,B,B,B,B,B,B,B,B,B,B,B,B,B,B,B,B,B,B,B,B,B,B,B,B,B,B,B,B,B,B,B,B,B,B,B,B,B,B,B,B,B,B,B,B,B,B,B,B,B,B,B,B,B,B,B,B,B,B,B,B,B,B,B,B,B,B,B,B,B,B,B,B,B,B,B,B,B,B,B,B,B,B,B,B,B,B,B,B,B,B,B,B,B,B,B,B,B,B,B,B,B,B,B,B,B,B,B,B,B,B,B,B,B,B,B,B,B,B,B,B,B,B,B,B,B,B,B,B,B,B,B,B,B,B,B,B,B,B,B,B,B,B,B,B,B,B,B,B,B,B,B,B,B,B,B,B,B,B,B,B,B,B,B,B,B,B,B,B,B,B,B,B,B,B,B,B,B,B,B,B,B,B,B,B,B,B,B,B,B,B,B,B,B,B,B,B,B,B,B,B,B,B,B,B,B,B,B,B,B,B,B,B,B,B,B,B,B,B,B,B,B,B,B,B,B,B,B,B,B,B,B,B,B,B,B,B,B,B,B,B,B,B,B,B,B,B,B,B,B,B,B,B,B,B,B,B,B,B,B,B], [Z,Z,Z,Z,Z,Z,Z,Z,Z,Z,Z,Z,Z,Z,Z,Z,Z,Z,Z,Z,Z,Z,Z,Z,Z,Z,Z,Z,Z,Z,Z,Z,Z,Z,Z,Z,Z,Z,Z,Z,Z,Z,Z,Z,Z,Z,Z,Z,Z,Z,Z,Z,Z,Z,Z,Z,Z,Z,Z,Z,Z,Z,Z,Z,Z,Z,Z,Z,Z,Z,Z,Z,Z,Z,Z,Z,Z,Z,Z,Z,Z,Z,Z,Z,Z,Z,Z,Z,Z,Z,Z,Z,Z,Z,Z,Z,Z,Z,Z,Z,Z,Z,Z,Z,Z,Z,Z,Z,Z,Z,Z,Z,Z,Z,Z,Z,Z,Z,Z,Z,Z,Z,Z,Z,Z,Z,Z,Z,Z,Z,Z,Z,Z,Z,Z,Z,Z,Z,Z,Z,Z,Z,Z,Z,Z,Z,Z,Z,Z,Z,Z,Z,Z,Z,Z,Z,Z,Z,Z,Z,Z,Z,Z,Z,Z,Z,Z,Z,Z,Z,Z,Z,Z,Z,Z,Z,Z,Z,Z,Z,Z,Z,Z,Z,Z,Z,Z,Z,Z,Z,Z,Z,Z,Z,Z,Z,Z,Z,Z,Z,Z,Z,Z,Z,Z,Z,Z,Z,Z,Z,Z,Z,Z,Z,Z,Z,Z,Z,Z,Z,Z,Z,Z,Z,Z,Z,Z,Z,Z,Z,Z,Z,Z,Z,Z,Z,Z,Z,Z,Z,Z,Z,Z,Z,Z,Z,Z,Z,Z,Z,Z,Z,Z,Z,Z,Z,Z,Z,Z,Z,Z,Z,Z,Z,Z,Z,Z,Z,Z,Z,Z,Z,Z,Z,Z,Z,Z,Z,Z,Z,Z,Z,Z], .some (.sl (.own (some 12288036864)) THost)⟩
def t43_2 {R : Type} (X : SD.D d43_2) (K : Ex → AS → Option R) := Pu.laws_markHostS_T2 (fun y0 y1 y2 y3 => K (.exit 0) (SD.enc d43_2 ((y0, (y1, (y2, ()))), (), y3))) 
def l43_2 : LEnt := ⟨d43_2, fun X K => iterL (t43_2 X K) fuel (X.1.1, X.1.2.1, X.1.2.2.1, X.2.2)⟩
def L43 : Lam := (Lam.nil).add 2 l43_2
theorem k43_2 : LOk E g43 n43 L43 (loopBody Tryz.f43 0) :=
  lok l43_2 (by kernel_rfl) fuel fun R X K => (loop_iter (σ := (List Pu.Host) × Int × Int × List Pu.Host) (fun x => SD.enc d43_2 ((x.1, (x.2.1, (x.2.2.1, ()))), (), x.2.2.2)) (t43_2 X K) (fun m x => by kernel_rfl) fuel (X.1.1, X.1.2.1, X.1.2.2.1, X.2.2)).symm
theorem o43 : FnOk Tryz.prog 43 e43 := FnOk.ofIo (fnIo (Γ := g43) (an := n43) (Λ := L43) (((((((((((((base).add o47).add o48).add o82).add o83).add o84).add o85).add o86).add o87).add o88).add o89).add o90).add o91) Tryz.func43 (by kernel_rfl) (hF (by kernel_rfl) (cF k43_2 nF))) (fun x a => by kernel_rfl)
def e44 : GEnt := entIo (.sl TVirtualFunction) false [.data false (.int .i64)] [(false, (.int .i64))] fun x a => Pu.laws_markVirtualFunctionS x a.1
def g44 : Gam := Gam.nil
def n44 : An := { mask := fun | 2 => [0, 1, 5] | _ => [] }
@[reducible] def d44_2 : SD := ⟨[.data false (.sl (.lio 0 12288036864) TVirtualFunction),DI,B,B,B,DI,B,B,B,B,B,B,B,B,B,B,B,B,B,B,B,B,B,B,B,B,B,B,B,B,B,B,B,B,B,B,B,B,B,B,B,B,B,B,B,B,B,B,B,B,B,B,B,B,B,B,B,B,B,B,B,B,B,B,B,B,B,B,B,B,B,B,B,B], [Z,Z,Z,Z,Z,Z,Z,Z,Z,Z,Z,Z,Z,Z,Z,Z,Z,Z,Z,Z,Z,Z,Z,Z,Z,Z,Z,Z,Z,Z,Z,Z,Z,Z,Z,Z,Z,Z,Z,Z,Z,Z,Z,Z,Z,Z,Z,Z,Z,Z,Z,Z,Z,Z,Z,Z,Z,Z,Z,Z,Z,Z,Z,Z,Z,Z,Z,Z,Z,Z,Z,Z,Z,Z], .some (.sl (.own (some 12288036864)) TVirtualFunction)⟩
def t44_2 {R : Type} (X : SD.D d44_2) (K : Ex → AS → Option R) := Pu.laws_markVirtualFunctionS_T2 (fun y0 y1 y2 y3 => K (.exit 0) (SD.enc d44_2 ((y0, (y1, (y2, ()))), (), y3))) 
def l44_2 : LEnt := ⟨d44_2, fun X K => iterL (t44_2 X K) fuel (X.1.1, X.1.2.1, X.1.2.2.1, X.2.2)⟩
def L44 : Lam := (Lam.nil).add 2 l44_2
theorem k44_2 : LOk E g44 n44 L44 (loopBody Tryz.f44 0) :=
  lok l44_2 (by kernel_rfl) fuel fun R X K => (loop_iter (σ := (List Pu.VirtualFunction) × Int × Int × List Pu.VirtualFunction) (fun x => SD.enc d44_2 ((x.1, (x.2.1, (x.2.2.1, ()))), (), x.2.2.2)) (t44_2 X K) (fun m x => by kernel_rfl) fuel (X.1.1, X.1.2.1, X.1.2.2.1, X.2.2)).symm
theorem o44 : FnOk Tryz.prog 44 e44 := FnOk.ofIo (fnIo (Γ := g44) (an := n44) (Λ := L44) (base) Tryz.func44 (by kernel_rfl) (hF (by kernel_rfl) (cF k44_2 nF))) (fun x a => by kernel_rfl)
def e45 : GEnt := entIo (.sl TMailbox) false [.data false (.int .i64)] [(false, (.int .i64))] fun x a => Pu.laws_markMailboxS x a.1
def g45 : Gam := (Gam.nil).add 47 e47
def n45 : An := { mask := fun | 2 => [0, 1, 5] | _ => [], nest := [35] }
@[reducible] def d45_2 : SD := ⟨[.data false (.sl (.lio 0 12288036864) TMailbox),DI,B,B,B,DI,B,B,B,B,B,B,B,B,B,B,B,B,B,B,B,B,B,B,B,B,B,B,B,B,B,B,B,B,B,B,B,B,B,B,B,B,B,B,B,B,B,B,B,B,B,B,B,B,B,B,B,B,B,B], [Z,Z,Z,Z,Z,Z,Z,Z,Z,Z,Z,Z,Z,Z,Z,Z,Z,Z,Z,Z,Z,Z,Z,Z,Z,Z,Z,Z,Z,Z,Z,Z,Z,Z,Z,Z,Z,Z,Z,Z,Z,Z,Z,Z,Z,Z,Z,Z,Z,Z,Z,Z,Z,Z,Z,Z,Z,Z,Z,Z], .some (.sl (.own (some 12288036864)) TMailbox)⟩
def t45_2 {R : Type} (X : SD.D d45_2) (K : Ex → AS → Option R) := Pu.laws_markMailboxS_T2 (fun y0 y1 y2 y3 => K (.exit 0) (SD.enc d45_2 ((y0, (y1, (y2, ()))), (), y3))) 
def l45_2 : LEnt := ⟨d45_2, fun X K => iterL (t45_2 X K) fuel (X.1.1, X.1.2.1, X.1.2.2.1, X.2.2)⟩
def L45 : Lam := (Lam.nil).add 2 l45_2
theorem k45_2 : LOk E g45 n45 L45 (loopBody Tryz.f45 0) :=
  lok l45_2 (by kernel_rfl) fuel fun R X K => (loop_iter (σ := (List Pu.Mailbox) × Int × Int × List Pu.Mailbox) (fun x => SD.enc d45_2 ((x.1, (x.2.1, (x.2.2.1, ()))), (), x.2.2.2)) (t45_2 X K) (fun m x => by kernel_rfl) fuel (X.1.1, X.1.2.1, X.1.2.2.1, X.2.2)).symm
theorem o45 : FnOk Tryz.prog 45 e45 := FnOk.ofIo (fnIo (Γ := g45) (an := n45) (Λ := L45) ((base).add o47) Tryz.func45 (by kernel_rfl) (hF (by kernel_rfl) (cF k45_2 nF))) (fun x a => by kernel_rfl)
def e46 : GEnt := entIo (.sl .str) true [.data false (.int .i64)] [(false, (.int .i64))] fun x a => Pu.laws_markFlash x a.1
theorem o46 : FnOk Tryz.prog 46 e46 := FnOk.ofIo (fnIo (an := {}) (Λ := Lam.nil) ((base).add o48) Tryz.func46 (by kernel_rfl) (hF (by kernel_rfl) nF)) (fun x a => by kernel_rfl)
def e10 : GEnt := entIo TCard true [.data false (.int .i64)] [(false, (.int .i64))] fun x a => Pu.laws_markCard x a.1
theorem o10 : FnOk Tryz.prog 10 e10 := FnOk.ofIo (fnIo (an := {}) (Λ := Lam.nil) (((((((base).add o43).add o44).add o45).add o46).add o47).add o48) Tryz.func10 (by kernel_rfl) (hF (by kernel_rfl) nF)) (fun x a => by kernel_rfl)
def e49 : GEnt := entIo (.sl TSoft) false [.data false (.int .i64)] [(false, (.int .i64))] fun x a => Pu.laws_markSoftS x a.1
def g49 : Gam := ((((((Gam.nil).add 47 e47).add 48 e48).add 88 e88).add 89 e89).add 90 e90).add 91 e91
def n49 : An := { mask := fun | 2 => [0, 1, 5] | _ => [], nest := [35, 43, 52, 71, 85, 92] }
@[reducible] def d49_2 : SD := ⟨[.data false (.sl (.lio 0 12288036864) TSoft),DI,B,B,B,DI,B,B,B,B,B,B,B,B,B,B,B,B,B,B,B,B,B,B,B,B,B,B,B,B,B,B,B,B,B,B,B,B,B,B,B,B,B,B,B,B,B,B,B,B,B,B,B,B,B,B,B,B,B,B,B,B,B,B,B,B,B,B,B,B,B,B,B,B,B,B,B,B,B,B,B,B,B,B,B,B,B,B,B,B,B,B,B,B,B,B], [Z,Z,Z,Z,Z,Z,Z,Z,Z,Z,Z,Z,Z,Z,Z,Z,Z,Z,Z,Z,Z,Z,Z,Z,Z,Z,Z,Z,Z,Z,Z,Z,Z,Z,Z,Z,Z,Z,Z,Z,Z,Z,Z,Z,Z,Z,Z,Z,Z,Z,Z,Z,Z,Z,Z,Z,Z,Z,Z,Z,Z,Z,Z,Z,Z,Z,Z,Z,Z,Z,Z,Z,Z,Z,Z,Z,Z,Z,Z,Z,Z,Z,Z,Z,Z,Z,Z,Z,Z,Z,Z,Z,Z,Z,Z,Z], .some (.sl (.own (some 12288036864)) TSoft)⟩
def t49_2 {R : Type} (X : SD.D d49_2) (K : Ex → AS → Option R) := Pu.laws_markSoftS_T2 (fun y0 y1 y2 y3 => K (.exit 0) (SD.enc d49_2 ((y0, (y1, (y2, ()))), (), y3))) 
def l49_2 : LEnt := ⟨d49_2, fun X K => iterL (t49_2 X K) fuel (X.1.1, X.1.2.1, X.1.2.2.1, X.2.2)⟩
def L49 : Lam := (Lam.nil).add 2 l49_2
theorem k49_2 : LOk E g49 n49 L49 (loopBody Tryz.f49 0) :=
  lok l49_2 (by kernel_rfl) fuel fun R X K => (loop_iter (σ := (List Pu.Soft) × Int × Int × List Pu.Soft) (fun x => SD.enc d49_2 ((x.1, (x.2.1, (x.2.2.1, ()))), (), x.2.2.2)) (t49_2 X K) (fun m x => by kernel_rfl) fuel (X.1.1, X.1.2.1, X.1.2.2.1, X.2.2)).symm
theorem o49 : FnOk Tryz.prog 49 e49 := FnOk.ofIo (fnIo (Γ := g49) (an := n49) (Λ := L49) (((((((base).add o47).add o48).add o88).add o89).add o90).add o91) Tryz.func49 (by kernel_rfl) (hF (by kernel_rfl) (cF k49_2 nF))) (fun x a => by kernel_rfl)
def e50 : GEnt := entIo (.sl (.sl .str)) false [.data false (.int .i64)] [(false, (.int .i64))] fun x a => Pu.laws_markStringSS x a.1
def g50 : Gam := (Gam.nil).add 48 e48
def n50 : An := { mask := fun | 2 => [0, 1, 5] | _ => [], nest := [15] }
@[reducible] def d50_2 : SD := ⟨[.data false (.sl (.lio 0 12288036864) (.sl .str)),DI,B,B,B,DI,B,B,B,B,B,B,B,B,B,B,B,B,B], [Z,Z,Z,Z,Z,Z,Z,Z,Z,Z,Z,Z,Z,Z,Z,Z,Z,Z,Z], .some (.sl (.own (some 12288036864)) (.sl .str))⟩
def t50_2 {R : Type} (X : SD.D d50_2) (K : Ex → AS → Option R) := Pu.laws_markStringSS_T2 (fun y0 y1 y2 y3 => K (.exit 0) (SD.enc d50_2 ((y0, (y1, (y2, ()))), (), y3))) 
def l50_2 : LEnt := ⟨d50_2, fun X K => iterL (t50_2 X K) fuel (X.1.1, X.1.2.1, X.1.2.2.1, X.2.2)⟩
def L50 : Lam := (Lam.nil).add 2 l50_2
theorem k50_2 : LOk E g50 n50 L50 (loopBody Tryz.f50 0) :=
  lok l50_2 (by kernel_rfl) fuel fun R X K => (loop_iter (σ := (List (List Pu.Bytes)) × Int × Int × List (List Pu.Bytes)) (fun x => SD.enc d50_2 ((x.1, (x.2.1, (x.2.2.1, ()))), (), x.2.2.2)) (t50_2 X K) (fun m x => by kernel_rfl) fuel (X.1.1, X.1.2.1, X.1.2.2.1, X.2.2)).symm
theorem o50 : FnOk Tryz.prog 50 e50 := FnOk.ofIo (fnIo (Γ := g50) (an := n50) (Λ := L50) ((base).add o48) Tryz.func50 (by kernel_rfl) (hF (by kernel_rfl) (cF k50_2 nF))) (fun x a => by kernel_rfl)
def e11 : GEnt := entIo TIdeal true [.data false (.int .i64)] [(false, (.int .i64))] fun x a => Pu.laws_markIdeal x a.1
theorem o11 : FnOk Tryz.prog 11 e11 := FnOk.ofIo (fnIo (an := {}) (Λ := Lam.nil) ((((((base).add o44).add o45).add o48).add o49).add o50) Tryz.func11 (by kernel_rfl) (hF (by kernel_rfl) nF)) (fun x a => by kernel_rfl)
def e55 : GEnt := entOf [.data false (.sl .str), .data false (.int .i64)] [(false, (.int .i64))] fun a => Pu.laws_heldStringS a.1 a.2.1
def g55 : Gam := (Gam.nil).add 90 e90
def n55 : An := { mask := fun | 2 => [0, 1, 4, 5] | _ => [] }
@[reducible] def d55_2 : SD := ⟨[.data false (.sl .arg .str),DI,B,B,DI,DI,B,B,B,B,B,B,B,B,B,B,B,B,B,B,B,B], [Z,Z,Z,Z,Z,Z,Z,Z,Z,Z,Z,Z,Z,Z,Z,Z,Z,Z,Z,Z,Z,Z], .none⟩
def t55_2 {R : Type} (X : SD.D d55_2) (K : Ex → AS → Option R) := Pu.laws_heldStringS_T2 (fun y0 y1 => K (.exit 0) (SD.enc d55_2 ((X.1.1, (y0, (X.1.2.2.1, (y1, ())))), (), ()))) (fun y0 y1 y2 => K .ret (SD.enc d55_2 ((X.1.1, (y0, (y1, (y2, ())))), (), ()))) X.1.1 X.1.2.2.1
def l55_2 : LEnt := ⟨d55_2, fun X K => iterL (t55_2 X K) fuel (X.1.2.1, X.1.2.2.2.1)⟩
def L55 : Lam := (Lam.nil).add 2 l55_2
theorem k55_2 : LOk E g55 n55 L55 (loopBody Tryz.f55 0) :=
  lok l55_2 (by kernel_rfl) fuel fun R X K => (loop_iter (σ := Int × Int) (fun x => SD.enc d55_2 ((X.1.1, (x.1, (X.1.2.2.1, (x.2, ())))), (), ())) (t55_2 X K) (fun m x => by kernel_rfl) fuel (X.1.2.1, X.1.2.2.2.1)).symm
theorem o55 : FnOk Tryz.prog 55 e55 := fk n55 ((base).add o90) Tryz.func55 (Λ := L55) (cF k55_2 nF)
def e92 : GEnt := entOf [.data false (.sl (.int .i64)), .data false (.int .i64)] [(false, (.int .i64))] fun a => Pu.laws_heldIntS a.1 a.2.1
def g92 : Gam := Gam.nil
def n92 : An := { mask := fun | 2 => [0, 1, 4, 5] | _ => [] }
@[reducible] def d92_2 : SD := ⟨[.data false (.sl .arg (.int .i64)),DI,B,B,DI,DI,B,B,B,B,B,B,B,B,B,B,B,B,B,B,B], [Z,Z,Z,Z,Z,Z,Z,Z,Z,Z,Z,Z,Z,Z,Z,Z,Z,Z,Z,Z,Z], .none⟩
def t92_2 {R : Type} (X : SD.D d92_2) (K : Ex → AS → Option R) := Pu.laws_heldIntS_T2 (fun y0 y1 => K (.exit 0) (SD.enc d92_2 ((X.1.1, (y0, (X.1.2.2.1, (y1, ())))), (), ()))) (fun y0 y1 y2 => K .ret (SD.enc d92_2 ((X.1.1, (y0, (y1, (y2, ())))), (), ()))) X.1.1 X.1.2.2.1
def l92_2 : LEnt := ⟨d92_2, fun X K => iterL (t92_2 X K) fuel (X.1.2.1, X.1.2.2.2.1)⟩
def L92 : Lam := (Lam.nil).add 2 l92_2
theorem k92_2 : LOk E g92 n92 L92 (loopBody Tryz.f92 0) :=
  lok l92_2 (by kernel_rfl) fuel fun R X K => (loop_iter (σ := Int × Int) (fun x => SD.enc d92_2 ((X.1.1, (x.1, (X.1.2.2.1, (x.2, ())))), (), ())) (t92_2 X K) (fun m x => by kernel_rfl) fuel (X.1.2.1, X.1.2.2.2.1)).symm
theorem o92 : FnOk Tryz.prog 92 e92 := fk n92 (base) Tryz.func92 (Λ := L92) (cF k92_2 nF)
def e93 : GEnt := entOf [.data false (.sl TRule), .data false (.int .i64)] [(false, (.int .i64))] fun a => Pu.laws_heldRuleS a.1 a.2.1
def g93 : Gam := Gam.nil
def n93 : An := { mask := fun | 2 => [0, 1, 4, 5] | _ => [] }
@[reducible] def d93_2 : SD := ⟨[.data false (.sl .arg TRule),DI,B,B,DI,DI,B,B,B,B,B,B,B,B,B,B,B,B,B,B,B,B,B,B,B,B,B,B,B,B,B,B,B,B,B,B,B,B,B,B,B,B,B,B,B,B,B,B,B,B,B,B,B,B,B,B,B,B,B,B,B,B,B,B,B,B,B,B,B,B,B,B,B,B,B,B,B,B,B,B,B,B,B,B,B,B,B,B,B,B,B,B,B,B], [Z,Z,Z,Z,Z,Z,Z,Z,Z,Z,Z,Z,Z,Z,Z,Z,Z,Z,Z,Z,Z,Z,Z,Z,Z,Z,Z,Z,Z,Z,Z,Z,Z,Z,Z,Z,Z,Z,Z,Z,Z,Z,Z,Z,Z,Z,Z,Z,Z,Z,Z,Z,Z,Z,Z,Z,Z,Z,Z,Z,Z,Z,Z,Z,Z,Z,Z,Z,Z,Z,Z,Z,Z,Z,Z,Z,Z,Z,Z,Z,Z,Z,Z,Z,Z,Z,Z,Z,Z,Z,Z,Z,Z,Z], .none⟩
def t93_2 {R : Type} (X : SD.D d93_2) (K : Ex → AS → Option R) := Pu.laws_heldRuleS_T2 (fun y0 y1 => K (.exit 0) (SD.enc d93_2 ((X.1.1, (y0, (X.1.2.2.1, (y1, ())))), (), ()))) (fun y0 y1 y2 => K .ret (SD.enc d93_2 ((X.1.1, (y0, (y1, (y2, ())))), (), ()))) X.1.1 X.1.2.2.1
def l93_2 : LEnt := ⟨d93_2, fun X K => iterL (t93_2 X K) fuel (X.1.2.1, X.1.2.2.2.1)⟩
def L93 : Lam := (Lam.nil).add 2 l93_2
theorem k93_2 : LOk E g93 n93 L93 (loopBody Tryz.f93 0) :=
  lok l93_2 (by kernel_rfl) fuel fun R X K => (loop_iter (σ := Int × Int) (fun x => SD.enc d93_2 ((X.1.1, (x.1, (X.1.2.2.1, (x.2, ())))), (), ())) (t93_2 X K) (fun m x => by kernel_rfl) fuel (X.1.2.1, X.1.2.2.2.1)).symm
theorem o93 : FnOk Tryz.prog 93 e93 := fk n93 (base) Tryz.func93 (Λ := L93) (cF k93_2 nF)
def e94 : GEnt := entOf [.data false (.sl TSlot), .data false (.int .i64)] [(false, (.int .i64))] fun a => Pu.laws_heldSlotS a.1 a.2.1
def g94 : Gam := Gam.nil
def n94 : An := { mask := fun | 2 => [0, 1, 4, 5] | _ => [] }
@[reducible] def d94_2 : SD := ⟨[.data false (.sl .arg TSlot),DI,B,B,DI,DI,B,B,B,B,B,B,B,B,B,B,B,B,B,B,B,B,B,B,B,B,B,B,B,B,B,B,B,B,B,B,B,B,B,B,B,B,B,B,B,B,B,B,B,B,B,B,B,B,B,B,B,B,B,B,B,B,B,B,B,B,B,B,B,B,B,B,B,B,B,B,B,B,B,B,B], [Z,Z,Z,Z,Z,Z,Z,Z,Z,Z,Z,Z,Z,Z,Z,Z,Z,Z,Z,Z,Z,Z,Z,Z,Z,Z,Z,Z,Z,Z,Z,Z,Z,Z,Z,Z,Z,Z,Z,Z,Z,Z,Z,Z,Z,Z,Z,Z,Z,Z,Z,Z,Z,Z,Z,Z,Z,Z,Z,Z,Z,Z,Z,Z,Z,Z,Z,Z,Z,Z,Z,Z,Z,Z,Z,Z,Z,Z,Z,Z,Z], .none⟩
def t94_2 {R : Type} (X : SD.D d94_2) (K : Ex → AS → Option R) := Pu.laws_heldSlotS_T2 (fun y0 y1 => K (.exit 0) (SD.enc d94_2 ((X.1.1, (y0, (X.1.2.2.1, (y1, ())))), (), ()))) (fun y0 y1 y2 => K .ret (SD.enc d94_2 ((X.1.1, (y0, (y1, (y2, ())))), (), ()))) X.1.1 X.1.2.2.1
def l94_2 : LEnt := ⟨d94_2, fun X K => iterL (t94_2 X K) fuel (X.1.2.1, X.1.2.2.2.1)⟩
def L94 : Lam := (Lam.nil).add 2 l94_2
theorem k94_2 : LOk E g94 n94 L94 (loopBody Tryz.f94 0) :=
  lok l94_2 (by kernel_rfl) fuel fun R X K => (loop_iter (σ := Int × Int) (fun x => SD.enc d94_2 ((X.1.1, (x.1, (X.1.2.2.1, (x.2, ())))), (), ())) (t94_2 X K) (fun m x => by kernel_rfl) fuel (X.1.2.1, X.1.2.2.2.1)).symm
theorem o94 : FnOk Tryz.prog 94 e94 := fk n94 (base) Tryz.func94 (Λ := L94) (cF k94_2 nF)
def e95 : GEnt := entOf [.data false (.sl TStream), .data false (.int .i64)] [(false, (.int .i64))] fun a => Pu.laws_heldStreamS a.1 a.2.1
def g95 : Gam := (Gam.nil).add 90 e90
def n95 : An := { mask := fun | 2 => [0, 1, 4, 5] | _ => [] }
@[reducible] def d95_2 : SD := ⟨[.data false (.sl .arg TStream),DI,B,B,DI,DI,B,B,B,B,B,B,B,B,B,B,B,B,B,B,B,B,B,B,B,B,B,B,B,B,B,B,B,B,B,B,B,B,B,B,B,B,B,B,B,B,B,B,B,B,B,B,B,B,B,B,B,B,B,B,B,B,B,B,B,B,B,B,B,B,B,B,B,B,B,B,B,B,B,B,B,B,B,B,B,B,B,B,B,B,B,B,B], [Z,Z,Z,Z,Z,Z,Z,Z,Z,Z,Z,Z,Z,Z,Z,Z,Z,Z,Z,Z,Z,Z,Z,Z,Z,Z,Z,Z,Z,Z,Z,Z,Z,Z,Z,Z,Z,Z,Z,Z,Z,Z,Z,Z,Z,Z,Z,Z,Z,Z,Z,Z,Z,Z,Z,Z,Z,Z,Z,Z,Z,Z,Z,Z,Z,Z,Z,Z,Z,Z,Z,Z,Z,Z,Z,Z,Z,Z,Z,Z,Z,Z,Z,Z,Z,Z,Z,Z,Z,Z,Z,Z,Z], .none⟩
def t95_2 {R : Type} (X : SD.D d95_2) (K : Ex → AS → Option R) := Pu.laws_heldStreamS_T2 (fun y0 y1 => K (.exit 0) (SD.enc d95_2 ((X.1.1, (y0, (X.1.2.2.1, (y1, ())))), (), ()))) (fun y0 y1 y2 => K .ret (SD.enc d95_2 ((X.1.1, (y0, (y1, (y2, ())))), (), ()))) X.1.1 X.1.2.2.1
def l95_2 : LEnt := ⟨d95_2, fun X K => iterL (t95_2 X K) fuel (X.1.2.1, X.1.2.2.2.1)⟩
def L95 : Lam := (Lam.nil).add 2 l95_2
theorem k95_2 : LOk E g95 n95 L95 (loopBody Tryz.f95 0) :=
  lok l95_2 (by kernel_rfl) fuel fun R X K => (loop_iter (σ := Int × Int) (fun x => SD.enc d95_2 ((X.1.1, (x.1, (X.1.2.2.1, (x.2, ())))), (), ())) (t95_2 X K) (fun m x => by kernel_rfl) fuel (X.1.2.1, X.1.2.2.2.1)).symm
theorem o95 : FnOk Tryz.prog 95 e95 := fk n95 ((base).add o90) Tryz.func95 (Λ := L95) (cF k95_2 nF)
def e51 : GEnt := entOf [.data false (.sl TSoft), .data false (.int .i64)] [(false, (.int .i64))] fun a => Pu.laws_heldSoftS a.1 a.2.1
def g51 : Gam := ((((((Gam.nil).add 55 e55).add 90 e90).add 92 e92).add 93 e93).add 94 e94).add 95 e95
def n51 : An := { mask := fun | 2 => [0, 1, 4, 5] | _ => [] }
@[reducible] def d51_2 : SD := ⟨[.data false (.sl .arg TSoft),DI,B,B,DI,DI,B,B,B,B,B,B,B,B,B,B,B,B,B,B,B,B,B,B,B,B,B,B,B,B,B,B,B,B,B,B,B,B,B,B,B,B,B,B,B,B,B,B,B,B,B,B,B,B,B,B,B,B,B,B,B,B,B,B,B,B,B,B,B,B,B,B,B,B,B,B,B,B,B,B,B,B,B,B,B,B,B,B,B,B,B,B,B,B,B,B,B,B,B,B,B,B,B,B,B,B,B,B,B,B,B,B,B,B,B,B], [Z,Z,Z,Z,Z,Z,Z,Z,Z,Z,Z,Z,Z,Z,Z,Z,Z,Z,Z,Z,Z,Z,Z,Z,Z,Z,Z,Z,Z,Z,Z,Z,Z,Z,Z,Z,Z,Z,Z,Z,Z,Z,Z,Z,Z,Z,Z,Z,Z,Z,Z,Z,Z,Z,Z,Z,Z,Z,Z,Z,Z,Z,Z,Z,Z,Z,Z,Z,Z,Z,Z,Z,Z,Z,Z,Z,Z,Z,Z,Z,Z,Z,Z,Z,Z,Z,Z,Z,Z,Z,Z,Z,Z,Z,Z,Z,Z,Z,Z,Z,Z,Z,Z,Z,Z,Z,Z,Z,Z,Z,Z,Z,Z,Z,Z,Z], .none⟩
def t51_2 {R : Type} (X : SD.D d51_2) (K : Ex → AS → Option R) := Pu.laws_heldSoftS_T2 (fun y0 y1 => K (.exit 0) (SD.enc d51_2 ((X.1.1, (y0, (X.1.2.2.1, (y1, ())))), (), ()))) (fun y0 y1 y2 => K .ret (SD.enc d51_2 ((X.1.1, (y0, (y1, (y2, ())))), (), ()))) X.1.1 X.1.2.2.1
def l51_2 : LEnt := ⟨d51_2, fun X K => iterL (t51_2 X K) fuel (X.1.2.1, X.1.2.2.2.1)⟩
def L51 : Lam := (Lam.nil).add 2 l51_2
theorem k51_2 : LOk E g51 n51 L51 (loopBody Tryz.f51 0) :=
  lok l51_2 (by kernel_rfl) fuel fun R X K => (loop_iter (σ := Int × Int) (fun x => SD.enc d51_2 ((X.1.1, (x.1, (X.1.2.2.1, (x.2, ())))), (), ())) (t51_2 X K) (fun m x => by kernel_rfl) fuel (X.1.2.1, X.1.2.2.2.1)).symm
theorem o51 : FnOk Tryz.prog 51 e51 := fk n51 (((((((base).add o55).add o90).add o92).add o93).add o94).add o95) Tryz.func51 (Λ := L51) (cF k51_2 nF)
def e52 : GEnt := entOf [.data false (.sl (.sl .str)), .data false (.int .i64)] [(false, (.int .i64))] fun a => Pu.laws_heldStringSS a.1 a.2.1
def g52 : Gam := (Gam.nil).add 55 e55
def n52 : An := { mask := fun | 2 => [0, 1, 4, 5] | _ => [] }
@[reducible] def d52_2 : SD := ⟨[.data false (.sl .arg (.sl .str)),DI,B,B,DI,DI,B,B,B,B,B,B,B,B,B,B,B,B,B,B,B], [Z,Z,Z,Z,Z,Z,Z,Z,Z,Z,Z,Z,Z,Z,Z,Z,Z,Z,Z,Z,Z], .none⟩
def t52_2 {R : Type} (X : SD.D d52_2) (K : Ex → AS → Option R) := Pu.laws_heldStringSS_T2 (fun y0 y1 => K (.exit 0) (SD.enc d52_2 ((X.1.1, (y0, (X.1.2.2.1, (y1, ())))), (), ()))) (fun y0 y1 y2 => K .ret (SD.enc d52_2 ((X.1.1, (y0, (y1, (y2, ())))), (), ()))) X.1.1 X.1.2.2.1
def l52_2 : LEnt := ⟨d52_2, fun X K => iterL (t52_2 X K) fuel (X.1.2.1, X.1.2.2.2.1)⟩
def L52 : Lam := (Lam.nil).add 2 l52_2
theorem k52_2 : LOk E g52 n52 L52 (loopBody Tryz.f52 0) :=
  lok l52_2 (by kernel_rfl) fuel fun R X K => (loop_iter (σ := Int × Int) (fun x => SD.enc d52_2 ((X.1.1, (x.1, (X.1.2.2.1, (x.2, ())))), (), ())) (t52_2 X K) (fun m x => by kernel_rfl) fuel (X.1.2.1, X.1.2.2.2.1)).symm
theorem o52 : FnOk Tryz.prog 52 e52 := fk n52 ((base).add o55) Tryz.func52 (Λ := L52) (cF k52_2 nF)
def e53 : GEnt := entOf [.data false (.sl TVirtualFunction), .data false (.int .i64)] [(false, (.int .i64))] fun a => Pu.laws_heldVirtualFunctionS a.1 a.2.1
def g53 : Gam := Gam.nil
def n53 : An := { mask := fun | 2 => [0, 1, 4, 5] | _ => [] }
@[reducible] def d53_2 : SD := ⟨[.data false (.sl .arg TVirtualFunction),DI,B,B,DI,DI,B,B,B,B,B,B,B,B,B,B,B,B,B,B,B,B,B,B,B,B,B,B,B,B,B,B,B,B,B,B,B,B,B,B,B,B,B,B,B,B,B,B,B,B,B,B,B,B,B,B,B,B,B,B,B,B,B,B,B,B,B,B,B,B,B,B,B,B,B,B,B,B,B,B,B,B,B,B,B,B,B,B,B,B], [Z,Z,Z,Z,Z,Z,Z,Z,Z,Z,Z,Z,Z,Z,Z,Z,Z,Z,Z,Z,Z,Z,Z,Z,Z,Z,Z,Z,Z,Z,Z,Z,Z,Z,Z,Z,Z,Z,Z,Z,Z,Z,Z,Z,Z,Z,Z,Z,Z,Z,Z,Z,Z,Z,Z,Z,Z,Z,Z,Z,Z,Z,Z,Z,Z,Z,Z,Z,Z,Z,Z,Z,Z,Z,Z,Z,Z,Z,Z,Z,Z,Z,Z,Z,Z,Z,Z,Z,Z,Z], .none⟩
def t53_2 {R : Type} (X : SD.D d53_2) (K : Ex → AS → Option R) := Pu.laws_heldVirtualFunctionS_T2 (fun y0 y1 => K (.exit 0) (SD.enc d53_2 ((X.1.1, (y0, (X.1.2.2.1, (y1, ())))), (), ()))) (fun y0 y1 y2 => K .ret (SD.enc d53_2 ((X.1.1, (y0, (y1, (y2, ())))), (), ()))) X.1.1 X.1.2.2.1
def l53_2 : LEnt := ⟨d53_2, fun X K => iterL (t53_2 X K) fuel (X.1.2.1, X.1.2.2.2.1)⟩
def L53 : Lam := (Lam.nil).add 2 l53_2
theorem k53_2 : LOk E g53 n53 L53 (loopBody Tryz.f53 0) :=
  lok l53_2 (by kernel_rfl) fuel fun R X K => (loop_iter (σ := Int × Int) (fun x => SD.enc d53_2 ((X.1.1, (x.1, (X.1.2.2.1, (x.2, ())))), (), ())) (t53_2 X K) (fun m x => by kernel_rfl) fuel (X.1.2.1, X.1.2.2.2.1)).symm
theorem o53 : FnOk Tryz.prog 53 e53 := fk n53 (base) Tryz.func53 (Λ := L53) (cF k53_2 nF)
def e54 : GEnt := entOf [.data false (.sl TMailbox), .data false (.int .i64)] [(false, (.int .i64))] fun a => Pu.laws_heldMailboxS a.1 a.2.1
def g54 : Gam := (Gam.nil).add 92 e92
def n54 : An := { mask := fun | 2 => [0, 1, 4, 5] | _ => [] }
@[reducible] def d54_2 : SD := ⟨[.data false (.sl .arg TMailbox),DI,B,B,DI,DI,B,B,B,B,B,B,B,B,B,B,B,B,B,B,B,B,B,B,B,B,B,B,B,B,B,B,B,B,B,B,B,B,B,B,B,B,B,B,B,B,B,B,B,B,B,B,B,B,B,B,B,B,B,B,B,B,B,B,B,B,B,B,B,B,B,B], [Z,Z,Z,Z,Z,Z,Z,Z,Z,Z,Z,Z,Z,Z,Z,Z,Z,Z,Z,Z,Z,Z,Z,Z,Z,Z,Z,Z,Z,Z,Z,Z,Z,Z,Z,Z,Z,Z,Z,Z,Z,Z,Z,Z,Z,Z,Z,Z,Z,Z,Z,Z,Z,Z,Z,Z,Z,Z,Z,Z,Z,Z,Z,Z,Z,Z,Z,Z,Z,Z,Z,Z], .none⟩
def t54_2 {R : Type} (X : SD.D d54_2) (K : Ex → AS → Option R) := Pu.laws_heldMailboxS_T2 (fun y0 y1 => K (.exit 0) (SD.enc d54_2 ((X.1.1, (y0, (X.1.2.2.1, (y1, ())))), (), ()))) (fun y0 y1 y2 => K .ret (SD.enc d54_2 ((X.1.1, (y0, (y1, (y2, ())))), (), ()))) X.1.1 X.1.2.2.1
def l54_2 : LEnt := ⟨d54_2, fun X K => iterL (t54_2 X K) fuel (X.1.2.1, X.1.2.2.2.1)⟩
def L54 : Lam := (Lam.nil).add 2 l54_2
theorem k54_2 : LOk E g54 n54 L54 (loopBody Tryz.f54 0) :=
  lok l54_2 (by kernel_rfl) fuel fun R X K => (loop_iter (σ := Int × Int) (fun x => SD.enc d54_2 ((X.1.1, (x.1, (X.1.2.2.1, (x.2, ())))), (), ())) (t54_2 X K) (fun m x => by kernel_rfl) fuel (X.1.2.1, X.1.2.2.2.1)).symm
theorem o54 : FnOk Tryz.prog 54 e54 := fk n54 ((base).add o92) Tryz.func54 (Λ := L54) (cF k54_2 nF)
def e12 : GEnt := entOf [.data true TIdeal, .data false (.int .i64)] [(false, (.int .i64))] fun a => Pu.laws_heldIdeal a.1 a.2.1
theorem o12 : FnOk Tryz.prog 12 e12 := fk {} ((((((base).add o51).add o52).add o53).add o54).add o55) Tryz.func12 (Λ := Lam.nil) nF
@[reducible] def s_laws_FnExactIdealOf : List PS := [.data true TCard]
def e_laws_FnExactIdealOf : GEnt := entOf s_laws_FnExactIdealOf [(false, .bool)] fun a => Pu.laws_FnExactIdealOf a.1
theorem o_laws_FnExactIdealOf : FnOk Tryz.prog 3 e_laws_FnExactIdealOf := fk { merge := fun | 14 => some 42 | _ => none } ((((((((((base).add o4).add o5).add o6).add o7).add o8).add o9).add o10).add o11).add o12) Tryz.func3 (Λ := Lam.nil) nF

end

end Go.Proofs.YtclgaiiidllehaeGreat.Fn
