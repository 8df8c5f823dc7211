import Derived.Test.YtclgaiiidllehabGreatDnSig
import Derived.Test.YtclgaiiidllehabGreatPure
import Derived.Test.YtclgaiiidllehabGreatRows
/- Each function of the program is its pure function (made by gen.py). -/
namespace Go.Proofs.YtclgaiiidllehabGreat.Fn
open Go.Dn
open Go.Pu (TMapping TRing TPool TSent TTxQueue TCompletionQueue TPacket TSuper TRxQueue TVector TFilter TRule TFlow TCompletion TCounters TSlot TSpread TSteering TStream THost TSegment)
set_option maxRecDepth 100000
noncomputable section
abbrev B : PD := .bot
abbrev DI : PD := .data false (.int .i64)
abbrev DB : PD := .data false .bool
abbrev Z : Option FT := none
theorem nF {p : Code → Prop} : ∀ x ∈ ([] : List Code), p x := fun _ h => nomatch h
theorem cF {p : Code → Prop} {a : Code} {l : List Code} (h : p a) (t : ∀ x ∈ l, p x) : ∀ x ∈ a :: l, p x := List.forall_mem_cons.2 ⟨h, t⟩
theorem hF {p : Code → Prop} {l m : List Code} (e : l = m) (h : ∀ x ∈ m, p x) : ∀ x ∈ l, p x := e ▸ h
theorem fk {P : Program} {E : Env} {Γ : Gam} {s : List PS} {rs : List (Bool × FT)} {F : Args s → Option (resD rs)} {f : Nat} {fn : Func} (an : An) (hS : Sound P E Γ) (hf : P.funcs[f]? = some fn) {Λ : Lam} {l : List Code} (h : ∀ c ∈ l, LOk E Γ an Λ c) (hn : (fn.name == "runtime.NumGoroutine") = false := by kernel_rfl) (hl : loopsOf (fn.body.getD .skip) = l := by kernel_rfl) (hF : ∀ a, evalFn E Γ an Λ fn rs (argsOf s a) = F a := by intro a; kernel_rfl) : FnOk P f (entOf s rs F) := FnOk.of (fnOk hS hf hn (Fn.hF hl h)) hF
def E : Env := { ty := [(3, ⟨false, (.int .i64), []⟩),
  (4, ⟨false, .bool, []⟩),
  (5, ⟨false, (.int .u8), []⟩),
  (9, ⟨false, .str, []⟩),
  (22, ⟨false, (.sl .str), [(9, 0)]⟩),
  (24, ⟨true, (.sl .str), [(0, 1)]⟩),
  (25, ⟨false, (.sl TMapping), [(166, 0)]⟩),
  (27, ⟨true, TRing, [(0, 1), (1, 1), (2, 1), (3, 1)]⟩),
  (28, ⟨false, (.sl (.int .i64)), [(3, 0)]⟩),
  (30, ⟨true, TPool, [(0, 1), (1, 1), (2, 1), (3, 1)]⟩),
  (31, ⟨false, (.sl TSent), [(192, 0)]⟩),
  (33, ⟨true, TTxQueue, [(0, 4), (4, 4), (8, 1), (9, 1)]⟩),
  (34, ⟨false, (.sl TRxQueue), [(139, 0)]⟩),
  (35, ⟨false, (.sl TPool), [(30, 0)]⟩),
  (36, ⟨false, (.sl TVector), [(172, 0)]⟩),
  (37, ⟨false, (.sl .bool), [(4, 0)]⟩),
  (39, ⟨true, TFilter, [(0, 1), (1, 1), (2, 1)]⟩),
  (40, ⟨false, (.sl TRule), [(217, 0)]⟩),
  (41, ⟨false, (.sl TSlot), [(241, 0)]⟩),
  (43, ⟨true, (.sl TSlot), [(0, 1)]⟩),
  (45, ⟨true, TSpread, [(0, 1), (1, 1)]⟩),
  (47, ⟨true, TSteering, [(0, 1), (1, 1), (2, 2)]⟩),
  (48, ⟨false, (.sl TStream), [(147, 0)]⟩),
  (50, ⟨true, TFlow, [(0, 1), (1, 1), (2, 1), (3, 1), (4, 1)]⟩),
  (52, ⟨true, THost, [(0, 1), (1, 1), (2, 10), (12, 1), (13, 1), (14, 1), (15, 1), (16, 3), (19, 4), (23, 1), (24, 1), (25, 1), (26, 1), (27, 1), (28, 5)]⟩),
  (55, ⟨true, (.sl .str), [(0, 1)]⟩),
  (56, ⟨false, (.sl TMapping), [(164, 0)]⟩),
  (57, ⟨true, TRing, [(0, 1), (1, 1), (2, 1), (3, 1)]⟩),
  (58, ⟨true, TPool, [(0, 1), (1, 1), (2, 1), (3, 1)]⟩),
  (59, ⟨false, (.sl TSent), [(196, 0)]⟩),
  (61, ⟨true, TTxQueue, [(0, 4), (4, 4), (8, 1), (9, 1)]⟩),
  (62, ⟨false, (.sl TRxQueue), [(101, 0)]⟩),
  (63, ⟨false, (.sl TPool), [(58, 0)]⟩),
  (64, ⟨false, (.sl TVector), [(158, 0)]⟩),
  (65, ⟨true, TFilter, [(0, 1), (1, 1), (2, 1)]⟩),
  (66, ⟨false, (.sl TRule), [(203, 0)]⟩),
  (67, ⟨false, (.sl TSlot), [(205, 0)]⟩),
  (69, ⟨true, (.sl TSlot), [(0, 1)]⟩),
  (70, ⟨true, TSpread, [(0, 1), (1, 1)]⟩),
  (72, ⟨true, TSteering, [(0, 1), (1, 1), (2, 2)]⟩),
  (73, ⟨false, (.sl TStream), [(178, 0)]⟩),
  (74, ⟨true, TFlow, [(0, 1), (1, 1), (2, 1), (3, 1), (4, 1)]⟩),
  (76, ⟨true, THost, [(0, 1), (1, 1), (2, 10), (12, 1), (13, 1), (14, 1), (15, 1), (16, 3), (19, 4), (23, 1), (24, 1), (25, 1), (26, 1), (27, 1), (28, 5)]⟩),
  (93, ⟨true, TCompletionQueue, [(0, 1), (1, 1), (2, 1)]⟩),
  (95, ⟨true, TSegment, [(0, 1), (1, 1), (2, 1), (3, 1), (4, 1), (5, 1), (6, 1), (7, 1)]⟩),
  (97, ⟨true, TPacket, [(0, 1), (1, 1), (2, 1), (3, 1), (4, 1), (5, 1), (6, 1), (7, 1), (8, 8)]⟩),
  (99, ⟨true, TSuper, [(0, 16), (16, 1), (17, 1)]⟩),
  (101, ⟨true, TRxQueue, [(0, 4), (4, 3), (7, 3), (10, 18), (28, 1), (29, 1)]⟩),
  (132, ⟨true, TCompletionQueue, [(0, 1), (1, 1), (2, 1)]⟩),
  (133, ⟨true, TSegment, [(0, 1), (1, 1), (2, 1), (3, 1), (4, 1), (5, 1), (6, 1), (7, 1)]⟩),
  (135, ⟨true, TPacket, [(0, 1), (1, 1), (2, 1), (3, 1), (4, 1), (5, 1), (6, 1), (7, 1), (8, 8)]⟩),
  (137, ⟨true, TSuper, [(0, 16), (16, 1), (17, 1)]⟩),
  (139, ⟨true, TRxQueue, [(0, 4), (4, 3), (7, 3), (10, 18), (28, 1), (29, 1)]⟩),
  (145, ⟨true, TFlow, [(0, 1), (1, 1), (2, 1), (3, 1), (4, 1)]⟩),
  (147, ⟨true, TStream, [(0, 5), (5, 1), (6, 1), (7, 1)]⟩),
  (158, ⟨true, TVector, [(0, 1), (1, 1), (2, 1), (3, 1), (4, 1), (5, 1)]⟩),
  (160, ⟨true, TFlow, [(0, 1), (1, 1), (2, 1), (3, 1), (4, 1)]⟩),
  (164, ⟨true, TMapping, [(0, 1), (1, 1), (2, 1), (3, 1)]⟩),
  (166, ⟨true, TMapping, [(0, 1), (1, 1), (2, 1), (3, 1)]⟩),
  (172, ⟨true, TVector, [(0, 1), (1, 1), (2, 1), (3, 1), (4, 1), (5, 1)]⟩),
  (176, ⟨true, TFlow, [(0, 1), (1, 1), (2, 1), (3, 1), (4, 1)]⟩),
  (178, ⟨true, TStream, [(0, 5), (5, 1), (6, 1), (7, 1)]⟩),
  (192, ⟨true, TSent, [(0, 1), (1, 1), (2, 1)]⟩),
  (196, ⟨true, TSent, [(0, 1), (1, 1), (2, 1)]⟩),
  (203, ⟨true, TRule, [(0, 1), (1, 1), (2, 1), (3, 1), (4, 1), (5, 1), (6, 1), (7, 1), (8, 1)]⟩),
  (205, ⟨true, TSlot, [(0, 1), (1, 5), (6, 1)]⟩),
  (217, ⟨true, TRule, [(0, 1), (1, 1), (2, 1), (3, 1), (4, 1), (5, 1), (6, 1), (7, 1), (8, 1)]⟩),
  (241, ⟨true, TSlot, [(0, 1), (1, 5), (6, 1)]⟩),
  (243, ⟨false, (.sl (.pair (.int .i64) (.int .i64))), [(247, 0)]⟩),
  (247, ⟨true, (.pair (.int .i64) (.int .i64)), [(0, 1), (1, 1)]⟩),
  (258, ⟨false, (.sl (.int .u8)), [(5, 0)]⟩)], eqs := [(99, [.int, .int, .int, .int, .int, .int, .int, .int, .int, .int, .int, .int, .int, .int, .int, .str, .int, .int]), (176, [.int, .int, .int, .int, .int])], fts := [] }
theorem base : Sound Tryz.prog E Gam.nil := Sound.nil (lookE_ok (by kernel_rfl)) (lookQ_ok (by kernel_rfl)) (lookF_ok (by kernel_rfl)) (by kernel_rfl)
def e19 : GEnt := entOf [.data false (.sl .str), .data false (.int .i64)] [(false, (.int .i64))] fun a => Pu.laws_szStringS a.1 a.2.1
def g19 : Gam := Gam.nil
def n19 : An := { mask := fun | 5 => [0, 1, 4, 5] | _ => [] }
@[reducible] def d19_5 : SD := ⟨[.data false (.sl .arg .str),DI,B,B,DI,DI,B,B,B,B,B,B,B,B,B,B,B,B,B,B,B,B,B,B,B,B,B,B], [Z,Z,Z,Z,Z,Z,Z,Z,Z,Z,Z,Z,Z,Z,Z,Z,Z,Z,Z,Z,Z,Z,Z,Z,Z,Z,Z,Z], .none⟩
def t19_5 {R : Type} (X : SD.D d19_5) (K : Ex → AS → Option R) := Pu.laws_szStringS_T5 (fun y0 y1 => K (.exit 0) (SD.enc d19_5 ((X.1.1, (y0, (X.1.2.2.1, (y1, ())))), (), ()))) (fun y0 y1 y2 => K .ret (SD.enc d19_5 ((X.1.1, (y0, (y1, (y2, ())))), (), ()))) X.1.1 X.1.2.2.1
def l19_5 : LEnt := ⟨d19_5, fun X K => iterL (t19_5 X K) fuel (X.1.2.1, X.1.2.2.2.1)⟩
def L19 : Lam := (Lam.nil).add 5 l19_5
theorem k19_5 : LOk E g19 n19 L19 (loopBody Tryz.f19 0) :=
  lok l19_5 (by kernel_rfl) fuel fun R X K => (loop_iter (σ := Int × Int) (fun x => SD.enc d19_5 ((X.1.1, (x.1, (X.1.2.2.1, (x.2, ())))), (), ())) (t19_5 X K) (fun m x => by kernel_rfl) fuel (X.1.2.1, X.1.2.2.2.1)).symm
theorem o19 : FnOk Tryz.prog 19 e19 := fk n19 (base) Tryz.func19 (Λ := L19) (cF k19_5 nF)
def e9 : GEnt := entOf [.data true (.sl .str), .data false (.int .i64)] [(false, (.int .i64))] fun a => Pu.laws_szMemory a.1 a.2.1
theorem o9 : FnOk Tryz.prog 9 e9 := fk {} ((base).add o19) Tryz.func9 (Λ := Lam.nil) nF
def e10 : GEnt := entOf [.data false (.sl TMapping), .data false (.int .i64)] [(false, (.int .i64))] fun a => Pu.laws_szMappingS a.1 a.2.1
theorem o10 : FnOk Tryz.prog 10 e10 := fk {} (base) Tryz.func10 (Λ := Lam.nil) nF
def e20 : GEnt := entOf [.data false (.sl (.int .i64)), .data false (.int .i64)] [(false, (.int .i64))] fun a => Pu.laws_szIntS a.1 a.2.1
theorem o20 : FnOk Tryz.prog 20 e20 := fk {} (base) Tryz.func20 (Λ := Lam.nil) nF
def e51 : GEnt := entOf [.data true TPool, .data false (.int .i64)] [(false, (.int .i64))] fun a => Pu.laws_szPool a.1 a.2.1
theorem o51 : FnOk Tryz.prog 51 e51 := fk {} ((base).add o20) Tryz.func51 (Λ := Lam.nil) nF
def e98 : GEnt := entOf [.data true TSent, .data false (.int .i64)] [(false, (.int .i64))] fun a => Pu.laws_szSent a.1 a.2.1
theorem o98 : FnOk Tryz.prog 98 e98 := fk {} ((base).add o20) Tryz.func98 (Λ := Lam.nil) nF
def e52 : GEnt := entOf [.data false (.sl TSent), .data false (.int .i64)] [(false, (.int .i64))] fun a => Pu.laws_szSentS a.1 a.2.1
def g52 : Gam := (Gam.nil).add 98 e98
def n52 : An := { mask := fun | 5 => [0, 1, 4, 5] | _ => [] }
@[reducible] def d52_5 : SD := ⟨[.data false (.sl .arg TSent),DI,B,B,DI,DI,B,B,B,B,B,B,B,B,B,B,B,B,B,B,B,B,B,B,B,B,B], [Z,Z,Z,Z,Z,Z,Z,Z,Z,Z,Z,Z,Z,Z,Z,Z,Z,Z,Z,Z,Z,Z,Z,Z,Z,Z,Z], .none⟩
def t52_5 {R : Type} (X : SD.D d52_5) (K : Ex → AS → Option R) := Pu.laws_szSentS_T5 (fun y0 y1 => K (.exit 0) (SD.enc d52_5 ((X.1.1, (y0, (X.1.2.2.1, (y1, ())))), (), ()))) (fun y0 y1 y2 => K .ret (SD.enc d52_5 ((X.1.1, (y0, (y1, (y2, ())))), (), ()))) X.1.1 X.1.2.2.1
def l52_5 : LEnt := ⟨d52_5, fun X K => iterL (t52_5 X K) fuel (X.1.2.1, X.1.2.2.2.1)⟩
def L52 : Lam := (Lam.nil).add 5 l52_5
theorem k52_5 : LOk E g52 n52 L52 (loopBody Tryz.f52 0) :=
  lok l52_5 (by kernel_rfl) fuel fun R X K => (loop_iter (σ := Int × Int) (fun x => SD.enc d52_5 ((X.1.1, (x.1, (X.1.2.2.1, (x.2, ())))), (), ())) (t52_5 X K) (fun m x => by kernel_rfl) fuel (X.1.2.1, X.1.2.2.2.1)).symm
theorem o52 : FnOk Tryz.prog 52 e52 := fk n52 ((base).add o98) Tryz.func52 (Λ := L52) (cF k52_5 nF)
def e11 : GEnt := entOf [.data true TTxQueue, .data false (.int .i64)] [(false, (.int .i64))] fun a => Pu.laws_szTxQueue a.1 a.2.1
theorem o11 : FnOk Tryz.prog 11 e11 := fk {} (((base).add o51).add o52) Tryz.func11 (Λ := Lam.nil) nF
def e166 : GEnt := entOf [.data true TSegment, .data false (.int .i64)] [(false, (.int .i64))] fun a => Pu.laws_szSegment a.1 a.2.1
theorem o166 : FnOk Tryz.prog 166 e166 := fk {} (base) Tryz.func166 (Λ := Lam.nil) nF
def e137 : GEnt := entOf [.data true TPacket, .data false (.int .i64)] [(false, (.int .i64))] fun a => Pu.laws_szPacket a.1 a.2.1
theorem o137 : FnOk Tryz.prog 137 e137 := fk {} ((base).add o166) Tryz.func137 (Λ := Lam.nil) nF
def e99 : GEnt := entOf [.data true TSuper, .data false (.int .i64)] [(false, (.int .i64))] fun a => Pu.laws_szSuper a.1 a.2.1
theorem o99 : FnOk Tryz.prog 99 e99 := fk {} ((base).add o137) Tryz.func99 (Λ := Lam.nil) nF
def e53 : GEnt := entOf [.data true TRxQueue, .data false (.int .i64)] [(false, (.int .i64))] fun a => Pu.laws_szRxQueue a.1 a.2.1
theorem o53 : FnOk Tryz.prog 53 e53 := fk {} ((base).add o99) Tryz.func53 (Λ := Lam.nil) nF
def e12 : GEnt := entOf [.data false (.sl TRxQueue), .data false (.int .i64)] [(false, (.int .i64))] fun a => Pu.laws_szRxQueueS a.1 a.2.1
def g12 : Gam := (Gam.nil).add 53 e53
def n12 : An := { mask := fun | 5 => [0, 1, 4, 5] | _ => [] }
@[reducible] def d12_5 : SD := ⟨[.data false (.sl .arg TRxQueue),DI,B,B,DI,DI,B,B,B,B,B,B,B,B,B,B,B,B,B,B,B,B,B,B,B,B,B], [Z,Z,Z,Z,Z,Z,Z,Z,Z,Z,Z,Z,Z,Z,Z,Z,Z,Z,Z,Z,Z,Z,Z,Z,Z,Z,Z], .none⟩
def t12_5 {R : Type} (X : SD.D d12_5) (K : Ex → AS → Option R) := Pu.laws_szRxQueueS_T5 (fun y0 y1 => K (.exit 0) (SD.enc d12_5 ((X.1.1, (y0, (X.1.2.2.1, (y1, ())))), (), ()))) (fun y0 y1 y2 => K .ret (SD.enc d12_5 ((X.1.1, (y0, (y1, (y2, ())))), (), ()))) X.1.1 X.1.2.2.1
def l12_5 : LEnt := ⟨d12_5, fun X K => iterL (t12_5 X K) fuel (X.1.2.1, X.1.2.2.2.1)⟩
def L12 : Lam := (Lam.nil).add 5 l12_5
theorem k12_5 : LOk E g12 n12 L12 (loopBody Tryz.f12 0) :=
  lok l12_5 (by kernel_rfl) fuel fun R X K => (loop_iter (σ := Int × Int) (fun x => SD.enc d12_5 ((X.1.1, (x.1, (X.1.2.2.1, (x.2, ())))), (), ())) (t12_5 X K) (fun m x => by kernel_rfl) fuel (X.1.2.1, X.1.2.2.2.1)).symm
theorem o12 : FnOk Tryz.prog 12 e12 := fk n12 ((base).add o53) Tryz.func12 (Λ := L12) (cF k12_5 nF)
def e13 : GEnt := entOf [.data false (.sl TPool), .data false (.int .i64)] [(false, (.int .i64))] fun a => Pu.laws_szPoolS a.1 a.2.1
def g13 : Gam := (Gam.nil).add 51 e51
def n13 : An := { mask := fun | 5 => [0, 1, 4, 5] | _ => [] }
@[reducible] def d13_5 : SD := ⟨[.data false (.sl .arg TPool),DI,B,B,DI,DI,B,B,B,B,B,B,B,B,B,B,B,B,B,B,B,B,B,B,B,B,B], [Z,Z,Z,Z,Z,Z,Z,Z,Z,Z,Z,Z,Z,Z,Z,Z,Z,Z,Z,Z,Z,Z,Z,Z,Z,Z,Z], .none⟩
def t13_5 {R : Type} (X : SD.D d13_5) (K : Ex → AS → Option R) := Pu.laws_szPoolS_T5 (fun y0 y1 => K (.exit 0) (SD.enc d13_5 ((X.1.1, (y0, (X.1.2.2.1, (y1, ())))), (), ()))) (fun y0 y1 y2 => K .ret (SD.enc d13_5 ((X.1.1, (y0, (y1, (y2, ())))), (), ()))) X.1.1 X.1.2.2.1
def l13_5 : LEnt := ⟨d13_5, fun X K => iterL (t13_5 X K) fuel (X.1.2.1, X.1.2.2.2.1)⟩
def L13 : Lam := (Lam.nil).add 5 l13_5
theorem k13_5 : LOk E g13 n13 L13 (loopBody Tryz.f13 0) :=
  lok l13_5 (by kernel_rfl) fuel fun R X K => (loop_iter (σ := Int × Int) (fun x => SD.enc d13_5 ((X.1.1, (x.1, (X.1.2.2.1, (x.2, ())))), (), ())) (t13_5 X K) (fun m x => by kernel_rfl) fuel (X.1.2.1, X.1.2.2.2.1)).symm
theorem o13 : FnOk Tryz.prog 13 e13 := fk n13 ((base).add o51) Tryz.func13 (Λ := L13) (cF k13_5 nF)
def e14 : GEnt := entOf [.data false (.sl TVector), .data false (.int .i64)] [(false, (.int .i64))] fun a => Pu.laws_szVectorS a.1 a.2.1
theorem o14 : FnOk Tryz.prog 14 e14 := fk {} (base) Tryz.func14 (Λ := Lam.nil) nF
def e15 : GEnt := entOf [.data false (.sl .bool), .data false (.int .i64)] [(false, (.int .i64))] fun a => Pu.laws_szBoolS a.1 a.2.1
theorem o15 : FnOk Tryz.prog 15 e15 := fk {} (base) Tryz.func15 (Λ := Lam.nil) nF
def e16 : GEnt := entOf [.data true TFilter, .data false (.int .i64)] [(false, (.int .i64))] fun a => Pu.laws_szFilter a.1 a.2.1
theorem o16 : FnOk Tryz.prog 16 e16 := fk {} ((base).add o20) Tryz.func16 (Λ := Lam.nil) nF
def e54 : GEnt := entOf [.data false (.sl TRule), .data false (.int .i64)] [(false, (.int .i64))] fun a => Pu.laws_szRuleS a.1 a.2.1
theorem o54 : FnOk Tryz.prog 54 e54 := fk {} (base) Tryz.func54 (Λ := Lam.nil) nF
def e100 : GEnt := entOf [.data false (.sl TSlot), .data false (.int .i64)] [(false, (.int .i64))] fun a => Pu.laws_szSlotS a.1 a.2.1
theorem o100 : FnOk Tryz.prog 100 e100 := fk {} (base) Tryz.func100 (Λ := Lam.nil) nF
def e55 : GEnt := entOf [.data true (.sl TSlot), .data false (.int .i64)] [(false, (.int .i64))] fun a => Pu.laws_szFlowTable a.1 a.2.1
theorem o55 : FnOk Tryz.prog 55 e55 := fk {} ((base).add o100) Tryz.func55 (Λ := Lam.nil) nF
def e56 : GEnt := entOf [.data true TSpread, .data false (.int .i64)] [(false, (.int .i64))] fun a => Pu.laws_szSpread a.1 a.2.1
theorem o56 : FnOk Tryz.prog 56 e56 := fk {} ((base).add o20) Tryz.func56 (Λ := Lam.nil) nF
def e17 : GEnt := entOf [.data true TSteering, .data false (.int .i64)] [(false, (.int .i64))] fun a => Pu.laws_szSteering a.1 a.2.1
theorem o17 : FnOk Tryz.prog 17 e17 := fk {} ((((base).add o54).add o55).add o56) Tryz.func17 (Λ := Lam.nil) nF
def e57 : GEnt := entOf [.data true TStream, .data false (.int .i64)] [(false, (.int .i64))] fun a => Pu.laws_szStream a.1 a.2.1
theorem o57 : FnOk Tryz.prog 57 e57 := fk {} (base) Tryz.func57 (Λ := Lam.nil) nF
def e18 : GEnt := entOf [.data false (.sl TStream), .data false (.int .i64)] [(false, (.int .i64))] fun a => Pu.laws_szStreamS a.1 a.2.1
def g18 : Gam := (Gam.nil).add 57 e57
def n18 : An := { mask := fun | 5 => [0, 1, 4, 5] | _ => [] }
@[reducible] def d18_5 : SD := ⟨[.data false (.sl .arg TStream),DI,B,B,DI,DI,B,B,B,B,B,B,B,B,B,B,B,B,B,B,B,B,B,B,B,B,B], [Z,Z,Z,Z,Z,Z,Z,Z,Z,Z,Z,Z,Z,Z,Z,Z,Z,Z,Z,Z,Z,Z,Z,Z,Z,Z,Z], .none⟩
def t18_5 {R : Type} (X : SD.D d18_5) (K : Ex → AS → Option R) := Pu.laws_szStreamS_T5 (fun y0 y1 => K (.exit 0) (SD.enc d18_5 ((X.1.1, (y0, (X.1.2.2.1, (y1, ())))), (), ()))) (fun y0 y1 y2 => K .ret (SD.enc d18_5 ((X.1.1, (y0, (y1, (y2, ())))), (), ()))) X.1.1 X.1.2.2.1
def l18_5 : LEnt := ⟨d18_5, fun X K => iterL (t18_5 X K) fuel (X.1.2.1, X.1.2.2.2.1)⟩
def L18 : Lam := (Lam.nil).add 5 l18_5
theorem k18_5 : LOk E g18 n18 L18 (loopBody Tryz.f18 0) :=
  lok l18_5 (by kernel_rfl) fuel fun R X K => (loop_iter (σ := Int × Int) (fun x => SD.enc d18_5 ((X.1.1, (x.1, (X.1.2.2.1, (x.2, ())))), (), ())) (t18_5 X K) (fun m x => by kernel_rfl) fuel (X.1.2.1, X.1.2.2.2.1)).symm
theorem o18 : FnOk Tryz.prog 18 e18 := fk n18 ((base).add o57) Tryz.func18 (Λ := L18) (cF k18_5 nF)
def e4 : GEnt := entOf [.data true THost, .data false (.int .i64)] [(false, (.int .i64))] fun a => Pu.laws_szHost a.1 a.2.1
theorem o4 : FnOk Tryz.prog 4 e4 := fk {} (((((((((((((base).add o9).add o10).add o11).add o12).add o13).add o14).add o15).add o16).add o17).add o18).add o19).add o20) Tryz.func4 (Λ := Lam.nil) nF
def e58 : GEnt := entOf [.data true (.sl .str)] [(false, .bool)] fun a => Pu.spec_MemoryOk a.1
def g58 : Gam := Gam.nil
def n58 : An := { mask := fun | 2 => [1, 2, 3] | _ => [] }
@[reducible] def d58_2 : SD := ⟨[B,.ptr 1 0,DB,DI,B,B,B,B,B,B,B,B,B,B,B,B,B,B,B,B,B,B], [Z,some (.sl .arg .str),Z,Z,Z,Z,Z,Z,Z,Z,Z,Z,Z,Z,Z,Z,Z,Z,Z,Z,Z,Z], .none⟩
def t58_2 {R : Type} (X : SD.D d58_2) (K : Ex → AS → Option R) := Pu.spec_MemoryOk_T2 (fun y0 => K (.exit 0) (SD.enc d58_2 ((X.1.1, (y0, ())), (X.2.1.1, ()), ()))) (fun y0 y1 => K .ret (SD.enc d58_2 ((y0, (y1, ())), (X.2.1.1, ()), ()))) X.1.1 X.2.1.1
def l58_2 : LEnt := ⟨d58_2, fun X K => iterL (t58_2 X K) fuel X.1.2.1⟩
def L58 : Lam := (Lam.nil).add 2 l58_2
theorem k58_2 : LOk E g58 n58 L58 (loopBody Tryz.f58 0) :=
  lok l58_2 (by kernel_rfl) fuel fun R X K => (loop_iter (σ := Int) (fun x => SD.enc d58_2 ((X.1.1, (x, ())), (X.2.1.1, ()), ())) (t58_2 X K) (fun m x => by kernel_rfl) fuel X.1.2.1).symm
theorem o58 : FnOk Tryz.prog 58 e58 := fk n58 (base) Tryz.func58 (Λ := L58) (cF k58_2 nF)
def e62 : GEnt := entOf [.data false (.int .i64), .data false (.int .i64), .data false (.int .i64)] [(false, .bool)] fun a => Pu.spec_l01In a.1 a.2.1 a.2.2.1
theorem o62 : FnOk Tryz.prog 62 e62 := fk { merge := fun | 1 => some 6 | _ => none } (base) Tryz.func62 (Λ := Lam.nil) nF
def e59 : GEnt := entOf [.data false (.sl TMapping)] [(false, .bool)] fun a => Pu.spec_MappingsOk a.1
def g59 : Gam := (Gam.nil).add 62 e62
def n59 : An := { mask := fun | 4 => [0, 2, 3] | 10 => [0, 2, 3, 4, 5] | _ => [], merge := fun | 7 => some 34 | 12 => some 57 | _ => none }
@[reducible] def d59_10 : SD := ⟨[.data false (.sl .arg TMapping),B,DB,DI,.ptr 4 0,DI,B,B,B,B,B,B,B,B,B,B,B,B,B,B,B,B,B,B,B,B,B,B,B,B,B,B,B,B,B,B,B,B,B,B,B,B,B,B,B,B,B,B,B,B,B,B,B,B,B,B,B,B], [Z,Z,Z,Z,some (.pair (.int .i64) (.pair (.int .i64) (.pair (.int .i64) .bool))),Z,Z,Z,Z,Z,Z,Z,Z,Z,Z,Z,Z,Z,Z,Z,Z,Z,Z,Z,Z,Z,Z,Z,Z,Z,Z,Z,Z,Z,Z,Z,Z,Z,Z,Z,Z,Z,Z,Z,Z,Z,Z,Z,Z,Z,Z,Z,Z,Z,Z,Z,Z,Z], .none⟩
def t59_10 {R : Type} (X : SD.D d59_10) (K : Ex → AS → Option R) := Pu.spec_MappingsOk_T10 (fun y0 => K (.exit 2) (SD.enc d59_10 ((X.1.1, (X.1.2.1, (X.1.2.2.1, (y0, ())))), (X.2.1.1, ()), ()))) (fun y0 y1 => K .ret (SD.enc d59_10 ((X.1.1, (y0, (X.1.2.2.1, (y1, ())))), (X.2.1.1, ()), ()))) X.1.1 X.1.2.1 X.1.2.2.1 X.2.1.1
def l59_10 : LEnt := ⟨d59_10, fun X K => iterL (t59_10 X K) fuel X.1.2.2.2.1⟩
@[reducible] def d59_4 : SD := ⟨[.data false (.sl .arg TMapping),B,DB,DI,B,B,B,B,B,B,B,B,B,B,B,B,B,B,B,B,B,B,B,B,B,B,B,B,B,B,B,B,B,B,B,B,B,B,B,B,B,B,B,B,B,B,B,B,B,B,B,B,B,B,B,B,B,B], [Z,Z,Z,Z,Z,Z,Z,Z,Z,Z,Z,Z,Z,Z,Z,Z,Z,Z,Z,Z,Z,Z,Z,Z,Z,Z,Z,Z,Z,Z,Z,Z,Z,Z,Z,Z,Z,Z,Z,Z,Z,Z,Z,Z,Z,Z,Z,Z,Z,Z,Z,Z,Z,Z,Z,Z,Z,Z], .none⟩
def t59_4 {R : Type} (X : SD.D d59_4) (K : Ex → AS → Option R) := Pu.spec_MappingsOk_T4 (fun y0 => K (.exit 0) (SD.enc d59_4 ((X.1.1, (X.1.2.1, (y0, ()))), (), ()))) (fun y0 y1 => K .ret (SD.enc d59_4 ((X.1.1, (y0, (y1, ()))), (), ()))) X.1.1 X.1.2.1
def l59_4 : LEnt := ⟨d59_4, fun X K => iterL (t59_4 X K) fuel X.1.2.2.1⟩
def L59 : Lam := ((Lam.nil).add 10 l59_10).add 4 l59_4
theorem k59_10 : LOk E g59 n59 L59 (loopBody Tryz.f59 1) :=
  lok l59_10 (by kernel_rfl) fuel fun R X K => (loop_iter (σ := Int) (fun x => SD.enc d59_10 ((X.1.1, (X.1.2.1, (X.1.2.2.1, (x, ())))), (X.2.1.1, ()), ())) (t59_10 X K) (fun m x => by kernel_rfl) fuel X.1.2.2.2.1).symm
theorem k59_4 : LOk E g59 n59 L59 (loopBody Tryz.f59 0) :=
  lok l59_4 (by kernel_rfl) fuel fun R X K => (loop_iter (σ := Int) (fun x => SD.enc d59_4 ((X.1.1, (X.1.2.1, (x, ()))), (), ())) (t59_4 X K) (fun m x => by kernel_rfl) fuel X.1.2.2.1).symm
theorem o59 : FnOk Tryz.prog 59 e59 := fk n59 ((base).add o62) Tryz.func59 (Λ := L59) (cF k59_4 (cF k59_10 nF))
def e65 : GEnt := entOf [.data true TPool] [(false, .bool)] fun a => Pu.spec_PoolOk a.1
def g65 : Gam := (Gam.nil).add 62 e62
def n65 : An := { mask := fun | 5 => [1, 2, 3, 4] | _ => [], merge := fun | 1 => some 20 | 7 => some 50 | _ => none }
@[reducible] def d65_5 : SD := ⟨[B,.ptr 1 0,DB,.data false (.sl (.own (some 36864)) .bool),DI,B,B,B,B,B,B,B,B,B,B,B,B,B,B,B,B,B,B,B,B,B,B,B,B,B,B,B,B,B,B,B,B,B,B,B,B,B,B,B,B,B,B,B,B,B,B,B,B,B,B,B,B,B], [Z,some (.pair (.int .i64) (.pair (.int .i64) (.pair (.int .i64) (.sl .arg (.int .i64))))),Z,Z,Z,Z,Z,Z,Z,Z,Z,Z,Z,Z,Z,Z,Z,Z,Z,Z,Z,Z,Z,Z,Z,Z,Z,Z,Z,Z,Z,Z,Z,Z,Z,Z,Z,Z,Z,Z,Z,Z,Z,Z,Z,Z,Z,Z,Z,Z,Z,Z,Z,Z,Z,Z,Z,Z], .none⟩
def t65_5 {R : Type} (X : SD.D d65_5) (K : Ex → AS → Option R) := Pu.spec_PoolOk_T5 (fun y0 y1 => K (.exit 0) (SD.enc d65_5 ((X.1.1, (y0, (y1, ()))), (X.2.1.1, ()), ()))) (fun y0 y1 y2 => K .ret (SD.enc d65_5 ((y0, (y1, (y2, ()))), (X.2.1.1, ()), ()))) X.1.1 X.2.1.1
def l65_5 : LEnt := ⟨d65_5, fun X K => iterL (t65_5 X K) fuel (X.1.2.1, X.1.2.2.1)⟩
def L65 : Lam := (Lam.nil).add 5 l65_5
theorem k65_5 : LOk E g65 n65 L65 (loopBody Tryz.f65 0) :=
  lok l65_5 (by kernel_rfl) fuel fun R X K => (loop_iter (σ := (List Bool) × Int) (fun x => SD.enc d65_5 ((X.1.1, (x.1, (x.2, ()))), (X.2.1.1, ()), ())) (t65_5 X K) (fun m x => by kernel_rfl) fuel (X.1.2.1, X.1.2.2.1)).symm
theorem o65 : FnOk Tryz.prog 65 e65 := fk n65 ((base).add o62) Tryz.func65 (Λ := L65) (cF k65_5 nF)
def e138 : GEnt := entOf [.data false (.int .i64)] [(false, .bool)] fun a => Pu.spec_l20Size a.1
theorem o138 : FnOk Tryz.prog 138 e138 := fk { merge := fun | 1 => some 2 | _ => none } (base) Tryz.func138 (Λ := Lam.nil) nF
def e139 : GEnt := entOf [.data true TRing] [(false, (.int .i64))] fun a => Pu.spec_RingUsed a.1
theorem o139 : FnOk Tryz.prog 139 e139 := fk {} ((base).add o138) Tryz.func139 (Λ := Lam.nil) nF
def e101 : GEnt := entOf [.data true TRing] [(false, .bool)] fun a => Pu.spec_RingOk a.1
theorem o101 : FnOk Tryz.prog 101 e101 := fk { merge := fun | 1 => some 2 | _ => none } ((((base).add o62).add o138).add o139) Tryz.func101 (Λ := Lam.nil) nF
def e140 : GEnt := entOf [.data true TPool] [(true, (.pair (.int .i64) (.pair (.int .i64) (.pair (.int .i64) (.sl (.own none) (.int .i64))))))] fun a => Pu.spec_l21Copy a.1
theorem o140 : FnOk Tryz.prog 140 e140 := fk { sb := fun | 2 => some 2 | _ => none } (base) Tryz.func140 (Λ := Lam.nil) nF
def e102 : GEnt := entOf [.data true TPool, .data false (.sl (.int .i64))] [(true, (.pair (.int .i64) (.pair (.int .i64) (.pair (.int .i64) (.sl (.own none) (.int .i64)))))), (false, .bool)] fun a => Pu.spec_GiveBuffers a.1 a.2.1
theorem o102 : FnOk Tryz.prog 102 e102 := fk { merge := fun | 3 => some 21 | _ => none, mv := [10, 24] } (((base).add o65).add o140) Tryz.func102 (Λ := Lam.nil) nF
def e60 : GEnt := entOf [.data true TTxQueue] [(false, .bool)] fun a => Pu.spec_TxOk a.1
def g60 : Gam := ((((Gam.nil).add 62 e62).add 65 e65).add 101 e101).add 102 e102
def n60 : An := { mask := fun | 6 => [1, 2, 3, 4, 5] | _ => [], merge := fun | 1 => some 24 | 9 => some 50 | 14 => some 2 | _ => none, mv := [55] }
@[reducible] def d60_6 : SD := ⟨[B,.ptr 1 0,DB,DI,.data false (.sl (.own (some 49152)) (.int .i64)),DI,B,B,B,B,B,B,B,B,B,B,B,B,B,B,B,B,B,B,B,B,B,B,B,B,B,B,B,B,B,B,B,B,B,B,B,B,B,B,B,B,B,B,B,B,B,B,B,B,B,B,B,B,B,B,B,B,B,B,B,B,B,B,B,B,B,B,B,B], [Z,some (.pair (.pair (.int .i64) (.pair (.int .i64) (.pair (.int .i64) (.int .i64)))) (.pair (.pair (.int .i64) (.pair (.int .i64) (.pair (.int .i64) (.sl .arg (.int .i64))))) (.pair (.sl .arg TSent) (.int .i64)))),Z,Z,Z,Z,Z,Z,Z,Z,Z,Z,Z,Z,Z,Z,Z,Z,Z,Z,Z,Z,Z,Z,Z,Z,Z,Z,Z,Z,Z,Z,Z,Z,Z,Z,Z,Z,Z,Z,Z,Z,Z,Z,Z,Z,Z,Z,Z,Z,Z,Z,Z,Z,Z,Z,Z,Z,Z,Z,Z,Z,Z,Z,Z,Z,Z,Z,Z,Z,Z,Z,Z,Z], .none⟩
def t60_6 {R : Type} (X : SD.D d60_6) (K : Ex → AS → Option R) := Pu.spec_TxOk_T6 (fun y0 y1 y2 => K (.exit 0) (SD.enc d60_6 ((X.1.1, (y0, (y1, (y2, ())))), (X.2.1.1, ()), ()))) (fun y0 y1 y2 y3 => K .ret (SD.enc d60_6 ((y0, (y1, (y2, (y3, ())))), (X.2.1.1, ()), ()))) X.1.1 X.2.1.1
def l60_6 : LEnt := ⟨d60_6, fun X K => iterL (t60_6 X K) fuel (X.1.2.1, X.1.2.2.1, X.1.2.2.2.1)⟩
def L60 : Lam := (Lam.nil).add 6 l60_6
theorem k60_6 : LOk E g60 n60 L60 (loopBody Tryz.f60 0) :=
  lok l60_6 (by kernel_rfl) fuel fun R X K => (loop_iter (σ := Int × (List Int) × Int) (fun x => SD.enc d60_6 ((X.1.1, (x.1, (x.2.1, (x.2.2, ())))), (X.2.1.1, ()), ())) (t60_6 X K) (fun m x => by kernel_rfl) fuel (X.1.2.1, X.1.2.2.1, X.1.2.2.2.1)).symm
theorem o60 : FnOk Tryz.prog 60 e60 := fk n60 (((((base).add o62).add o65).add o101).add o102) Tryz.func60 (Λ := L60) (cF k60_6 nF)
def e61 : GEnt := entOf [.data true TFilter] [(false, .bool)] fun a => Pu.spec_FilterOk a.1
def g61 : Gam := (Gam.nil).add 62 e62
def n61 : An := { mask := fun | 2 => [1, 2, 3] | _ => [], merge := fun | 4 => some 35 | 6 => some 2 | _ => none }
@[reducible] def d61_2 : SD := ⟨[B,.ptr 1 0,DB,DI,B,B,B,B,B,B,B,B,B,B,B,B,B,B,B,B,B,B,B,B,B,B,B,B,B,B,B,B,B,B,B,B,B,B,B,B,B,B,B,B,B], [Z,some (.pair (.int .i64) (.pair .bool (.sl .arg (.int .i64)))),Z,Z,Z,Z,Z,Z,Z,Z,Z,Z,Z,Z,Z,Z,Z,Z,Z,Z,Z,Z,Z,Z,Z,Z,Z,Z,Z,Z,Z,Z,Z,Z,Z,Z,Z,Z,Z,Z,Z,Z,Z,Z,Z], .none⟩
def t61_2 {R : Type} (X : SD.D d61_2) (K : Ex → AS → Option R) := Pu.spec_FilterOk_T2 (fun y0 => K (.exit 0) (SD.enc d61_2 ((X.1.1, (y0, ())), (X.2.1.1, ()), ()))) (fun y0 y1 => K .ret (SD.enc d61_2 ((y0, (y1, ())), (X.2.1.1, ()), ()))) X.1.1 X.2.1.1
def l61_2 : LEnt := ⟨d61_2, fun X K => iterL (t61_2 X K) fuel X.1.2.1⟩
def L61 : Lam := (Lam.nil).add 2 l61_2
theorem k61_2 : LOk E g61 n61 L61 (loopBody Tryz.f61 0) :=
  lok l61_2 (by kernel_rfl) fuel fun R X K => (loop_iter (σ := Int) (fun x => SD.enc d61_2 ((X.1.1, (x, ())), (X.2.1.1, ()), ())) (t61_2 X K) (fun m x => by kernel_rfl) fuel X.1.2.1).symm
theorem o61 : FnOk Tryz.prog 61 e61 := fk n61 ((base).add o62) Tryz.func61 (Λ := L61) (cF k61_2 nF)
def e141 : GEnt := entOf [.data true TRule] [(false, .bool)] fun a => Pu.spec_RuleOk a.1
theorem o141 : FnOk Tryz.prog 141 e141 := fk { merge := fun | 1 => some 33 | 3 => some 54 | 5 => some 2 | _ => none } ((base).add o62) Tryz.func141 (Λ := Lam.nil) nF
def e103 : GEnt := entOf [.data false (.sl TRule)] [(false, .bool)] fun a => Pu.spec_RulesOk a.1
def g103 : Gam := (Gam.nil).add 141 e141
def n103 : An := { mask := fun | 2 => [0, 2, 3] | _ => [] }
@[reducible] def d103_2 : SD := ⟨[.data false (.sl .arg TRule),B,DB,DI,B,B,B,B,B,B,B,B,B,B,B,B,B,B,B], [Z,Z,Z,Z,Z,Z,Z,Z,Z,Z,Z,Z,Z,Z,Z,Z,Z,Z,Z], .none⟩
def t103_2 {R : Type} (X : SD.D d103_2) (K : Ex → AS → Option R) := Pu.spec_RulesOk_T2 (fun y0 => K (.exit 0) (SD.enc d103_2 ((X.1.1, (X.1.2.1, (y0, ()))), (), ()))) (fun y0 y1 => K .ret (SD.enc d103_2 ((X.1.1, (y0, (y1, ()))), (), ()))) X.1.1 X.1.2.1
def l103_2 : LEnt := ⟨d103_2, fun X K => iterL (t103_2 X K) fuel X.1.2.2.1⟩
def L103 : Lam := (Lam.nil).add 2 l103_2
theorem k103_2 : LOk E g103 n103 L103 (loopBody Tryz.f103 0) :=
  lok l103_2 (by kernel_rfl) fuel fun R X K => (loop_iter (σ := Int) (fun x => SD.enc d103_2 ((X.1.1, (X.1.2.1, (x, ()))), (), ())) (t103_2 X K) (fun m x => by kernel_rfl) fuel X.1.2.2.1).symm
theorem o103 : FnOk Tryz.prog 103 e103 := fk n103 ((base).add o141) Tryz.func103 (Λ := L103) (cF k103_2 nF)
def e167 : GEnt := entOf [.data true TFlow] [(false, (.int .i64))] fun a => Pu.spec_HomeSlot a.1
def g167 : Gam := Gam.nil
def n167 : An := { mask := fun | 4 => [3, 4, 5] | _ => [] }
@[reducible] def d167_4 : SD := ⟨[B,B,B,DI,.data false (.sl (.own (some 49152)) (.int .i64)),DI,B,B,B,B,B,B,B,B,B,B,B,B,B,B,B,B,B,B,B,B,B,B,B,B,B,B], [Z,Z,Z,Z,Z,Z,Z,Z,Z,Z,Z,Z,Z,Z,Z,Z,Z,Z,Z,Z,Z,Z,Z,Z,Z,Z,Z,Z,Z,Z,Z,Z], .none⟩
def t167_4 {R : Type} (X : SD.D d167_4) (K : Ex → AS → Option R) := Pu.spec_HomeSlot_T4 (fun y0 y1 => K (.exit 0) (SD.enc d167_4 ((y0, (X.1.2.1, (y1, ()))), (), ()))) X.1.2.1
def l167_4 : LEnt := ⟨d167_4, fun X K => iterL (t167_4 X K) fuel (X.1.1, X.1.2.2.1)⟩
def L167 : Lam := (Lam.nil).add 4 l167_4
theorem k167_4 : LOk E g167 n167 L167 (loopBody Tryz.f167 0) :=
  lok l167_4 (by kernel_rfl) fuel fun R X K => (loop_iter (σ := Int × Int) (fun x => SD.enc d167_4 ((x.1, (X.1.2.1, (x.2, ()))), (), ())) (t167_4 X K) (fun m x => by kernel_rfl) fuel (X.1.1, X.1.2.2.1)).symm
theorem o167 : FnOk Tryz.prog 167 e167 := fk n167 (base) Tryz.func167 (Λ := L167) (cF k167_4 nF)
def e142 : GEnt := entOf [.data true (.sl TSlot), .data true TFlow] [(false, (.int .i64))] fun a => Pu.spec_l13Find a.1 a.2.1
def g142 : Gam := (Gam.nil).add 167 e167
def n142 : An := { mask := fun | 2 => [2, 3, 4, 5] | _ => [], merge := fun | 7 => some 39 | _ => none }
@[reducible] def d142_2 : SD := ⟨[B,B,.ptr 2 0,.ptr 3 0,DI,DI,B,B,B,B,B,B,B,B,B,B,B,B,B,B,B,B,B,B,B,B,B,B,B,B,B,B,B,B,B,B,B,B,B,B,B], [Z,Z,some (.sl .arg TSlot),some (.pair (.int .i64) (.pair (.int .i64) (.pair (.int .i64) (.pair (.int .i64) (.int .i64))))),Z,Z,Z,Z,Z,Z,Z,Z,Z,Z,Z,Z,Z,Z,Z,Z,Z,Z,Z,Z,Z,Z,Z,Z,Z,Z,Z,Z,Z,Z,Z,Z,Z,Z,Z,Z,Z], .none⟩
def t142_2 {R : Type} (X : SD.D d142_2) (K : Ex → AS → Option R) := Pu.spec_l13Find_T2 (fun y0 => K (.exit 0) (SD.enc d142_2 ((X.1.1, (y0, ())), (X.2.1.1, (X.2.1.2.1, ())), ()))) (fun y0 y1 => K .ret (SD.enc d142_2 ((y0, (y1, ())), (X.2.1.1, (X.2.1.2.1, ())), ()))) X.1.1 X.2.1.1 X.2.1.2.1
def l142_2 : LEnt := ⟨d142_2, fun X K => iterL (t142_2 X K) fuel X.1.2.1⟩
def L142 : Lam := (Lam.nil).add 2 l142_2
theorem k142_2 : LOk E g142 n142 L142 (loopBody Tryz.f142 0) :=
  lok l142_2 (by kernel_rfl) fuel fun R X K => (loop_iter (σ := Int) (fun x => SD.enc d142_2 ((X.1.1, (x, ())), (X.2.1.1, (X.2.1.2.1, ())), ())) (t142_2 X K) (fun m x => by kernel_rfl) fuel X.1.2.1).symm
theorem o142 : FnOk Tryz.prog 142 e142 := fk n142 ((base).add o167) Tryz.func142 (Λ := L142) (cF k142_2 nF)
def e104 : GEnt := entOf [.data true (.sl TSlot)] [(false, .bool)] fun a => Pu.spec_TableOk a.1
def g104 : Gam := ((Gam.nil).add 62 e62).add 142 e142
def n104 : An := { mask := fun | 4 => [1, 2, 3] | _ => [], merge := fun | 7 => some 30 | 10 => some 42 | _ => none }
@[reducible] def d104_4 : SD := ⟨[B,.ptr 1 0,DB,DI,B,B,B,B,B,B,B,B,B,B,B,B,B,B,B,B,B,B,B,B,B,B,B,B,B,B,B,B,B,B,B,B,B,B,B,B,B,B,B,B,B,B,B,B,B], [Z,some (.sl .arg TSlot),Z,Z,Z,Z,Z,Z,Z,Z,Z,Z,Z,Z,Z,Z,Z,Z,Z,Z,Z,Z,Z,Z,Z,Z,Z,Z,Z,Z,Z,Z,Z,Z,Z,Z,Z,Z,Z,Z,Z,Z,Z,Z,Z,Z,Z,Z,Z], .none⟩
def t104_4 {R : Type} (X : SD.D d104_4) (K : Ex → AS → Option R) := Pu.spec_TableOk_T4 (fun y0 => K (.exit 0) (SD.enc d104_4 ((X.1.1, (y0, ())), (X.2.1.1, ()), ()))) (fun y0 y1 => K .ret (SD.enc d104_4 ((y0, (y1, ())), (X.2.1.1, ()), ()))) X.1.1 X.2.1.1
def l104_4 : LEnt := ⟨d104_4, fun X K => iterL (t104_4 X K) fuel X.1.2.1⟩
def L104 : Lam := (Lam.nil).add 4 l104_4
theorem k104_4 : LOk E g104 n104 L104 (loopBody Tryz.f104 0) :=
  lok l104_4 (by kernel_rfl) fuel fun R X K => (loop_iter (σ := Int) (fun x => SD.enc d104_4 ((X.1.1, (x, ())), (X.2.1.1, ()), ())) (t104_4 X K) (fun m x => by kernel_rfl) fuel X.1.2.1).symm
theorem o104 : FnOk Tryz.prog 104 e104 := fk n104 (((base).add o62).add o142) Tryz.func104 (Λ := L104) (cF k104_4 nF)
def e143 : GEnt := entOf [.data false (.int .i64)] [(false, .bool)] fun a => Pu.spec_l12Size a.1
theorem o143 : FnOk Tryz.prog 143 e143 := fk { merge := fun | 1 => some 2 | _ => none } (base) Tryz.func143 (Λ := Lam.nil) nF
def e105 : GEnt := entOf [.data true TSpread, .data false (.int .i64)] [(false, .bool)] fun a => Pu.spec_SpreadOk a.1 a.2.1
def g105 : Gam := ((Gam.nil).add 62 e62).add 143 e143
def n105 : An := { mask := fun | 4 => [1, 2, 4, 5] | _ => [], merge := fun | 1 => some 21 | _ => none }
@[reducible] def d105_4 : SD := ⟨[B,DI,.ptr 2 0,B,DB,DI,B,B,B,B,B,B,B,B,B,B,B,B,B,B,B,B,B,B,B,B,B,B,B,B,B,B,B,B,B,B,B,B], [Z,Z,some (.pair .str (.sl .arg (.int .i64))),Z,Z,Z,Z,Z,Z,Z,Z,Z,Z,Z,Z,Z,Z,Z,Z,Z,Z,Z,Z,Z,Z,Z,Z,Z,Z,Z,Z,Z,Z,Z,Z,Z,Z,Z], .none⟩
def t105_4 {R : Type} (X : SD.D d105_4) (K : Ex → AS → Option R) := Pu.spec_SpreadOk_T4 (fun y0 => K (.exit 0) (SD.enc d105_4 ((X.1.1, (X.1.2.1, (y0, ()))), (X.2.1.1, ()), ()))) (fun y0 y1 => K .ret (SD.enc d105_4 ((X.1.1, (y0, (y1, ()))), (X.2.1.1, ()), ()))) X.1.1 X.1.2.1 X.2.1.1
def l105_4 : LEnt := ⟨d105_4, fun X K => iterL (t105_4 X K) fuel X.1.2.2.1⟩
def L105 : Lam := (Lam.nil).add 4 l105_4
theorem k105_4 : LOk E g105 n105 L105 (loopBody Tryz.f105 0) :=
  lok l105_4 (by kernel_rfl) fuel fun R X K => (loop_iter (σ := Int) (fun x => SD.enc d105_4 ((X.1.1, (X.1.2.1, (x, ()))), (X.2.1.1, ()), ())) (t105_4 X K) (fun m x => by kernel_rfl) fuel X.1.2.2.1).symm
theorem o105 : FnOk Tryz.prog 105 e105 := fk n105 (((base).add o62).add o143) Tryz.func105 (Λ := L105) (cF k105_4 nF)
def e63 : GEnt := entOf [.data true TSteering, .data false (.int .i64)] [(false, .bool)] fun a => Pu.spec_SteeringOk a.1 a.2.1
def g63 : Gam := (((Gam.nil).add 103 e103).add 104 e104).add 105 e105
def n63 : An := { mask := fun | 4 => [1, 2, 4, 5] | 9 => [1, 2, 4, 6] | _ => [], merge := fun | 1 => some 23 | _ => none }
@[reducible] def d63_4 : SD := ⟨[B,DI,.ptr 2 0,B,DB,DI,B,B,B,B,B,B,B,B,B,B,B,B,B,B,B,B,B,B,B,B,B,B,B,B,B,B,B,B,B,B,B,B,B,B,B,B,B,B,B,B,B,B,B,B,B,B,B,B,B,B], [Z,Z,some (.pair (.sl .arg TRule) (.pair (.sl .arg TSlot) (.pair .str (.sl .arg (.int .i64))))),Z,Z,Z,Z,Z,Z,Z,Z,Z,Z,Z,Z,Z,Z,Z,Z,Z,Z,Z,Z,Z,Z,Z,Z,Z,Z,Z,Z,Z,Z,Z,Z,Z,Z,Z,Z,Z,Z,Z,Z,Z,Z,Z,Z,Z,Z,Z,Z,Z,Z,Z,Z,Z], .none⟩
def t63_4 {R : Type} (X : SD.D d63_4) (K : Ex → AS → Option R) := Pu.spec_SteeringOk_T4 (fun y0 => K (.exit 0) (SD.enc d63_4 ((X.1.1, (X.1.2.1, (y0, ()))), (X.2.1.1, ()), ()))) (fun y0 y1 => K .ret (SD.enc d63_4 ((X.1.1, (y0, (y1, ()))), (X.2.1.1, ()), ()))) X.1.1 X.1.2.1 X.2.1.1
def l63_4 : LEnt := ⟨d63_4, fun X K => iterL (t63_4 X K) fuel X.1.2.2.1⟩
@[reducible] def d63_9 : SD := ⟨[B,DI,.ptr 2 0,B,DB,B,DI,B,B,B,B,B,B,B,B,B,B,B,B,B,B,B,B,B,B,B,B,B,B,B,B,B,B,B,B,B,B,B,B,B,B,B,B,B,B,B,B,B,B,B,B,B,B,B,B,B], [Z,Z,some (.pair (.sl .arg TRule) (.pair (.sl .arg TSlot) (.pair .str (.sl .arg (.int .i64))))),Z,Z,Z,Z,Z,Z,Z,Z,Z,Z,Z,Z,Z,Z,Z,Z,Z,Z,Z,Z,Z,Z,Z,Z,Z,Z,Z,Z,Z,Z,Z,Z,Z,Z,Z,Z,Z,Z,Z,Z,Z,Z,Z,Z,Z,Z,Z,Z,Z,Z,Z,Z,Z], .none⟩
def t63_9 {R : Type} (X : SD.D d63_9) (K : Ex → AS → Option R) := Pu.spec_SteeringOk_T9 (fun y0 => K (.exit 2) (SD.enc d63_9 ((X.1.1, (X.1.2.1, (y0, ()))), (X.2.1.1, ()), ()))) (fun y0 y1 => K .ret (SD.enc d63_9 ((X.1.1, (y0, (y1, ()))), (X.2.1.1, ()), ()))) X.1.1 X.1.2.1 X.2.1.1
def l63_9 : LEnt := ⟨d63_9, fun X K => iterL (t63_9 X K) fuel X.1.2.2.1⟩
def L63 : Lam := ((Lam.nil).add 4 l63_4).add 9 l63_9
theorem k63_4 : LOk E g63 n63 L63 (loopBody Tryz.f63 0) :=
  lok l63_4 (by kernel_rfl) fuel fun R X K => (loop_iter (σ := Int) (fun x => SD.enc d63_4 ((X.1.1, (X.1.2.1, (x, ()))), (X.2.1.1, ()), ())) (t63_4 X K) (fun m x => by kernel_rfl) fuel X.1.2.2.1).symm
theorem k63_9 : LOk E g63 n63 L63 (loopBody Tryz.f63 1) :=
  lok l63_9 (by kernel_rfl) fuel fun R X K => (loop_iter (σ := Int) (fun x => SD.enc d63_9 ((X.1.1, (X.1.2.1, (x, ()))), (X.2.1.1, ()), ())) (t63_9 X K) (fun m x => by kernel_rfl) fuel X.1.2.2.1).symm
theorem o63 : FnOk Tryz.prog 63 e63 := fk n63 ((((base).add o103).add o104).add o105) Tryz.func63 (Λ := L63) (cF k63_4 (cF k63_9 nF))
def e106 : GEnt := entOf [.data true TCompletionQueue] [(false, .bool)] fun a => Pu.spec_QueueOk a.1
theorem o106 : FnOk Tryz.prog 106 e106 := fk { merge := fun | 1 => some 2 | _ => none } (((base).add o62).add o138) Tryz.func106 (Λ := Lam.nil) nF
def e144 : GEnt := entOf [.data true TSegment] [(false, .bool)] fun a => Pu.spec_SegmentOk a.1
theorem o144 : FnOk Tryz.prog 144 e144 := fk { merge := fun | 1 => some 18 | 4 => some 2 | 5 => some 2 | _ => none } ((base).add o62) Tryz.func144 (Λ := Lam.nil) nF
def e107 : GEnt := entOf [.data true TPacket] [(false, .bool)] fun a => Pu.spec_SuperOk a.1
theorem o107 : FnOk Tryz.prog 107 e107 := fk { merge := fun | 1 => some 55 | 3 => some 3 | 4 => some 2 | _ => none } (((base).add o62).add o144) Tryz.func107 (Λ := Lam.nil) nF
def e64 : GEnt := entOf [.data true TRxQueue] [(false, .bool)] fun a => Pu.spec_RxOk a.1
theorem o64 : FnOk Tryz.prog 64 e64 := fk { merge := fun | 1 => some 42 | 5 => some 2 | _ => none } (((((base).add o62).add o101).add o106).add o107) Tryz.func64 (Λ := Lam.nil) nF
def e108 : GEnt := entOf [.data true TVector] [(false, .bool)] fun a => Pu.spec_l28Due a.1
theorem o108 : FnOk Tryz.prog 108 e108 := fk { merge := fun | 1 => some 2 | _ => none } (base) Tryz.func108 (Λ := Lam.nil) nF
def e66 : GEnt := entOf [.data true TVector] [(false, .bool)] fun a => Pu.spec_VectorOk a.1
theorem o66 : FnOk Tryz.prog 66 e66 := fk { merge := fun | 1 => some 24 | 3 => some 2 | _ => none } (((base).add o62).add o108) Tryz.func66 (Λ := Lam.nil) nF
def e21 : GEnt := entOf [.data true THost] [(false, .bool)] fun a => Pu.spec_HostOk a.1
def g21 : Gam := (((((((((Gam.nil).add 58 e58).add 59 e59).add 60 e60).add 61 e61).add 62 e62).add 63 e63).add 64 e64).add 65 e65).add 66 e66
def n21 : An := { mask := fun | 5 => [1, 2, 3, 4] | 11 => [2, 5, 6] | _ => [], merge := fun | 2 => some 64 | 7 => some 94 | _ => none }
@[reducible] def d21_5 : SD := ⟨[B,.ptr 1 0,DB,DI,DI,B,B,B,B,B,B,B,B,B,B,B,B,B,B,B,B,B,B,B,B,B,B,B,B,B,B,B,B,B,B,B,B,B,B,B,B,B,B,B,B,B,B,B,B,B,B,B,B,B,B,B,B,B,B,B,B,B,B,B,B,B,B,B,B,B,B,B,B,B,B,B,B,B,B,B,B,B,B,B,B,B,B,B,B,B,B,B,B,B,B,B,B,B,B,B,B,B,B,B,B,B,B,B,B,B,B,B,B,B,B,B,B,B,B,B,B,B,B], [Z,some (.pair (.sl .arg .str) (.pair (.sl .arg TMapping) (.pair (.pair (.pair (.int .i64) (.pair (.int .i64) (.pair (.int .i64) (.int .i64)))) (.pair (.pair (.int .i64) (.pair (.int .i64) (.pair (.int .i64) (.sl .arg (.int .i64))))) (.pair (.sl .arg TSent) (.int .i64)))) (.pair (.sl .arg TRxQueue) (.pair (.sl .arg TPool) (.pair (.sl .arg TVector) (.pair (.sl .arg .bool) (.pair (.pair (.int .i64) (.pair .bool (.sl .arg (.int .i64)))) (.pair (.pair (.sl .arg TRule) (.pair (.sl .arg TSlot) (.pair .str (.sl .arg (.int .i64))))) (.pair (.sl .arg TStream) (.pair .bool (.pair (.sl .arg .str) (.pair (.sl .arg (.int .i64)) (.pair (.sl .arg (.int .i64)) (.pair (.int .i64) (.pair (.int .i64) (.pair (.int .i64) (.pair (.int .i64) (.int .i64))))))))))))))))))),Z,Z,Z,Z,Z,Z,Z,Z,Z,Z,Z,Z,Z,Z,Z,Z,Z,Z,Z,Z,Z,Z,Z,Z,Z,Z,Z,Z,Z,Z,Z,Z,Z,Z,Z,Z,Z,Z,Z,Z,Z,Z,Z,Z,Z,Z,Z,Z,Z,Z,Z,Z,Z,Z,Z,Z,Z,Z,Z,Z,Z,Z,Z,Z,Z,Z,Z,Z,Z,Z,Z,Z,Z,Z,Z,Z,Z,Z,Z,Z,Z,Z,Z,Z,Z,Z,Z,Z,Z,Z,Z,Z,Z,Z,Z,Z,Z,Z,Z,Z,Z,Z,Z,Z,Z,Z,Z,Z,Z,Z,Z,Z,Z,Z,Z,Z,Z,Z,Z,Z,Z], .none⟩
def t21_5 {R : Type} (X : SD.D d21_5) (K : Ex → AS → Option R) := Pu.spec_HostOk_T5 (fun y0 => K (.exit 0) (SD.enc d21_5 ((X.1.1, (X.1.2.1, (y0, ()))), (X.2.1.1, ()), ()))) (fun y0 y1 => K .ret (SD.enc d21_5 ((y0, (X.1.2.1, (y1, ()))), (X.2.1.1, ()), ()))) X.1.1 X.1.2.1 X.2.1.1
def l21_5 : LEnt := ⟨d21_5, fun X K => iterL (t21_5 X K) fuel X.1.2.2.1⟩
@[reducible] def d21_11 : SD := ⟨[B,B,DB,B,B,.data false (.sl (.own (some 61440)) (.int .i64)),DI,B,B,B,B,B,B,B,B,B,B,B,B,B,B,B,B,B,B,B,B,B,B,B,B,B,B,B,B,B,B,B,B,B,B,B,B,B,B,B,B,B,B,B,B,B,B,B,B,B,B,B,B,B,B,B,B,B,B,B,B,B,B,B,B,B,B,B,B,B,B,B,B,B,B,B,B,B,B,B,B,B,B,B,B,B,B,B,B,B,B,B,B,B,B,B,B,B,B,B,B,B,B,B,B,B,B,B,B,B,B,B,B,B,B,B,B], [Z,Z,Z,Z,Z,Z,Z,Z,Z,Z,Z,Z,Z,Z,Z,Z,Z,Z,Z,Z,Z,Z,Z,Z,Z,Z,Z,Z,Z,Z,Z,Z,Z,Z,Z,Z,Z,Z,Z,Z,Z,Z,Z,Z,Z,Z,Z,Z,Z,Z,Z,Z,Z,Z,Z,Z,Z,Z,Z,Z,Z,Z,Z,Z,Z,Z,Z,Z,Z,Z,Z,Z,Z,Z,Z,Z,Z,Z,Z,Z,Z,Z,Z,Z,Z,Z,Z,Z,Z,Z,Z,Z,Z,Z,Z,Z,Z,Z,Z,Z,Z,Z,Z,Z,Z,Z,Z,Z,Z,Z,Z,Z,Z,Z,Z,Z,Z,Z,Z,Z,Z,Z,Z], .none⟩
def t21_11 {R : Type} (X : SD.D d21_11) (K : Ex → AS → Option R) := Pu.spec_HostOk_T11 (fun y0 => K (.exit 2) (SD.enc d21_11 ((X.1.1, (X.1.2.1, (y0, ()))), (), ()))) (fun y0 y1 => K .ret (SD.enc d21_11 ((y0, (X.1.2.1, (y1, ()))), (), ()))) X.1.1 X.1.2.1
def l21_11 : LEnt := ⟨d21_11, fun X K => iterL (t21_11 X K) fuel X.1.2.2.1⟩
def L21 : Lam := ((Lam.nil).add 5 l21_5).add 11 l21_11
theorem k21_5 : LOk E g21 n21 L21 (loopBody Tryz.f21 0) :=
  lok l21_5 (by kernel_rfl) fuel fun R X K => (loop_iter (σ := Int) (fun x => SD.enc d21_5 ((X.1.1, (X.1.2.1, (x, ()))), (X.2.1.1, ()), ())) (t21_5 X K) (fun m x => by kernel_rfl) fuel X.1.2.2.1).symm
theorem k21_11 : LOk E g21 n21 L21 (loopBody Tryz.f21 1) :=
  lok l21_11 (by kernel_rfl) fuel fun R X K => (loop_iter (σ := Int) (fun x => SD.enc d21_11 ((X.1.1, (X.1.2.1, (x, ()))), (), ())) (t21_11 X K) (fun m x => by kernel_rfl) fuel X.1.2.2.1).symm
theorem o21 : FnOk Tryz.prog 21 e21 := fk n21 ((((((((((base).add o58).add o59).add o60).add o61).add o62).add o63).add o64).add o65).add o66) Tryz.func21 (Λ := L21) (cF k21_5 (cF k21_11 nF))
def e168 : GEnt := entOf [.data false (.sl TMapping), .data false (.int .i64), .data false (.int .i64), .data false .bool] [(false, (.int .i64))] fun a => Pu.spec_l17Page a.1 a.2.1 a.2.2.1 a.2.2.2.1
def g168 : Gam := Gam.nil
def n168 : An := { mask := fun | 2 => [0, 1, 2, 3, 8, 9] | _ => [], merge := fun | 4 => some 42 | _ => none }
@[reducible] def d168_2 : SD := ⟨[.data false (.sl .arg TMapping),DI,DI,DB,B,B,B,B,DI,DI,B,B,B,B,B,B,B,B,B,B,B,B,B,B,B,B,B,B,B,B,B,B,B,B,B,B,B,B,B,B,B,B,B,B,B,B,B,B], [Z,Z,Z,Z,Z,Z,Z,Z,Z,Z,Z,Z,Z,Z,Z,Z,Z,Z,Z,Z,Z,Z,Z,Z,Z,Z,Z,Z,Z,Z,Z,Z,Z,Z,Z,Z,Z,Z,Z,Z,Z,Z,Z,Z,Z,Z,Z,Z], .none⟩
def t168_2 {R : Type} (X : SD.D d168_2) (K : Ex → AS → Option R) := Pu.spec_l17Page_T2 (fun y0 => K (.exit 0) (SD.enc d168_2 ((X.1.1, (X.1.2.1, (X.1.2.2.1, (X.1.2.2.2.1, (X.1.2.2.2.2.1, (y0, ())))))), (), ()))) (fun y0 y1 => K .ret (SD.enc d168_2 ((X.1.1, (X.1.2.1, (X.1.2.2.1, (X.1.2.2.2.1, (y0, (y1, ())))))), (), ()))) X.1.1 X.1.2.1 X.1.2.2.1 X.1.2.2.2.1 X.1.2.2.2.2.1
def l168_2 : LEnt := ⟨d168_2, fun X K => iterL (t168_2 X K) fuel X.1.2.2.2.2.2.1⟩
def L168 : Lam := (Lam.nil).add 2 l168_2
theorem k168_2 : LOk E g168 n168 L168 (loopBody Tryz.f168 0) :=
  lok l168_2 (by kernel_rfl) fuel fun R X K => (loop_iter (σ := Int) (fun x => SD.enc d168_2 ((X.1.1, (X.1.2.1, (X.1.2.2.1, (X.1.2.2.2.1, (X.1.2.2.2.2.1, (x, ())))))), (), ())) (t168_2 X K) (fun m x => by kernel_rfl) fuel X.1.2.2.2.2.2.1).symm
theorem o168 : FnOk Tryz.prog 168 e168 := fk n168 (base) Tryz.func168 (Λ := L168) (cF k168_2 nF)
def e169 : GEnt := entOf [.data true (.sl .str), .data false (.int .i64), .data false (.int .i64)] [(false, .bool)] fun a => Pu.spec_l16Within a.1 a.2.1 a.2.2.1
theorem o169 : FnOk Tryz.prog 169 e169 := fk { merge := fun | 2 => some 6 | _ => none } ((base).add o58) Tryz.func169 (Λ := Lam.nil) nF
def e145 : GEnt := entOf [.data false (.sl TMapping), .data true (.sl .str), .data false (.int .i64), .data false (.int .i64), .data false (.int .i64), .data false .bool] [(false, (.sl (.own none) (.int .i64))), (false, (.sl (.own none) (.int .i64))), (false, .bool)] fun a => Pu.spec_l17Parts a.1 a.2.1 a.2.2.1 a.2.2.2.1 a.2.2.2.2.1 a.2.2.2.2.2.1
def g145 : Gam := (((((Gam.nil).add 58 e58).add 59 e59).add 62 e62).add 168 e168).add 169 e169
def n145 : An := { mask := fun | 5 => [0, 2, 3, 4, 5, 7, 12, 13, 14, 15, 16] | _ => [], merge := fun | 3 => some 34 | 10 => some 57 | _ => none, mv := [35, 36, 64, 71, 81, 82] }
@[reducible] def d145_5 : SD := ⟨[.data false (.sl .arg TMapping),B,DI,DI,DI,DB,B,.ptr 7 0,B,B,B,B,.data false (.sl (.own (some 147456)) (.int .i64)),.data false (.sl (.own (some 159744)) (.int .i64)),DB,.data false (.sl (.own (some 184320)) (.int .i64)),.data false (.sl (.own (some 196608)) (.int .i64)),B,B,B,B,B,B,B,B,B,B,B,B,B,B,B,B,B,B,B,B,B,B,B,B,B,B,B,B,B,B,B,B,B,B,B,B,B,B,B,B,B,B,B,B,B,B,B,B,B,B,B,B,B,B,B,B,B,B,B,B,B,B,B,B,B,B], [Z,Z,Z,Z,Z,Z,Z,some (.sl .arg .str),Z,Z,Z,Z,Z,Z,Z,Z,Z,Z,Z,Z,Z,Z,Z,Z,Z,Z,Z,Z,Z,Z,Z,Z,Z,Z,Z,Z,Z,Z,Z,Z,Z,Z,Z,Z,Z,Z,Z,Z,Z,Z,Z,Z,Z,Z,Z,Z,Z,Z,Z,Z,Z,Z,Z,Z,Z,Z,Z,Z,Z,Z,Z,Z,Z,Z,Z,Z,Z,Z,Z,Z,Z,Z,Z], .none⟩
def t145_5 {R : Type} (X : SD.D d145_5) (K : Ex → AS → Option R) := Pu.spec_l17Parts_T5 (fun y0 y1 y2 y3 => K (.exit 0) (SD.enc d145_5 ((X.1.1, (X.1.2.1, (y0, (y1, (X.1.2.2.2.2.1, (X.1.2.2.2.2.2.1, (X.1.2.2.2.2.2.2.1, (X.1.2.2.2.2.2.2.2.1, (y2, (y3, ())))))))))), (X.2.1.1, ()), ()))) (fun y0 y1 y2 y3 y4 y5 y6 => K .ret (SD.enc d145_5 ((X.1.1, (X.1.2.1, (y0, (y1, (X.1.2.2.2.2.1, (y2, (y3, (y4, (y5, (y6, ())))))))))), (X.2.1.1, ()), ()))) X.1.1 X.1.2.1 X.1.2.2.2.2.1 X.1.2.2.2.2.2.1 X.1.2.2.2.2.2.2.1 X.1.2.2.2.2.2.2.2.1 X.2.1.1
def l145_5 : LEnt := ⟨d145_5, fun X K => iterL (t145_5 X K) fuel (X.1.2.2.1, X.1.2.2.2.1, X.1.2.2.2.2.2.2.2.2.1, X.1.2.2.2.2.2.2.2.2.2.1)⟩
def L145 : Lam := (Lam.nil).add 5 l145_5
theorem k145_5 : LOk E g145 n145 L145 (loopBody Tryz.f145 0) :=
  lok l145_5 (by kernel_rfl) fuel fun R X K => (loop_iter (σ := Int × Int × (List Int) × List Int) (fun x => SD.enc d145_5 ((X.1.1, (X.1.2.1, (x.1, (x.2.1, (X.1.2.2.2.2.1, (X.1.2.2.2.2.2.1, (X.1.2.2.2.2.2.2.1, (X.1.2.2.2.2.2.2.2.1, (x.2.2.1, (x.2.2.2, ())))))))))), (X.2.1.1, ()), ())) (t145_5 X K) (fun m x => by kernel_rfl) fuel (X.1.2.2.1, X.1.2.2.2.1, X.1.2.2.2.2.2.2.2.2.1, X.1.2.2.2.2.2.2.2.2.2.1)).symm
theorem o145 : FnOk Tryz.prog 145 e145 := fk n145 ((((((base).add o58).add o59).add o62).add o168).add o169) Tryz.func145 (Λ := L145) (cF k145_5 nF)
def e146 : GEnt := entOf [.data true (.sl .str), .data false (.int .i64), .data false (.int .i64)] [(false, .str), (false, .bool)] fun a => Pu.spec_ReadMemory a.1 a.2.1 a.2.2.1
def g146 : Gam := (Gam.nil).add 169 e169
def n146 : An := { mask := fun | 4 => [1, 2, 3, 8] | _ => [] }
@[reducible] def d146_4 : SD := ⟨[B,DI,DI,.ptr 3 0,B,B,B,B,.data false .str,B,B,B,B,B,B,B,B,B,B,B,B,B,B,B,B,B,B,B,B,B,B,B,B,B,B,B,B,B,B,B,B,B,B,B], [Z,Z,Z,some (.sl .arg .str),Z,Z,Z,Z,Z,Z,Z,Z,Z,Z,Z,Z,Z,Z,Z,Z,Z,Z,Z,Z,Z,Z,Z,Z,Z,Z,Z,Z,Z,Z,Z,Z,Z,Z,Z,Z,Z,Z,Z,Z], .none⟩
def t146_4 {R : Type} (X : SD.D d146_4) (K : Ex → AS → Option R) := Pu.spec_ReadMemory_T4 (fun y0 y1 y2 => K (.exit 0) (SD.enc d146_4 ((y0, (y1, (y2, ()))), (X.2.1.1, ()), ()))) X.2.1.1
def l146_4 : LEnt := ⟨d146_4, fun X K => iterL (t146_4 X K) fuel (X.1.1, X.1.2.1, X.1.2.2.1)⟩
def L146 : Lam := (Lam.nil).add 4 l146_4
theorem k146_4 : LOk E g146 n146 L146 (loopBody Tryz.f146 0) :=
  lok l146_4 (by kernel_rfl) fuel fun R X K => (loop_iter (σ := Int × Int × Pu.Bytes) (fun x => SD.enc d146_4 ((x.1, (x.2.1, (x.2.2, ()))), (X.2.1.1, ()), ())) (t146_4 X K) (fun m x => by kernel_rfl) fuel (X.1.1, X.1.2.1, X.1.2.2.1)).symm
theorem o146 : FnOk Tryz.prog 146 e146 := fk n146 ((base).add o169) Tryz.func146 (Λ := L146) (cF k146_4 nF)
def e109 : GEnt := entOf [.data false (.sl TMapping), .data true (.sl .str), .data false (.int .i64), .data false (.int .i64), .data false (.int .i64)] [(false, .str), (false, .bool)] fun a => Pu.spec_DmaRead a.1 a.2.1 a.2.2.1 a.2.2.2.1 a.2.2.2.2.1
def g109 : Gam := ((Gam.nil).add 145 e145).add 146 e146
def n109 : An := { mask := fun | 6 => [6, 12, 13, 15, 16] | _ => [] }
@[reducible] def d109_6 : SD := ⟨[B,B,B,B,B,B,.ptr 6 0,B,B,B,B,B,.data false (.sl .loc (.int .i64)),.data false (.sl .loc (.int .i64)),B,.data false .str,DI,B,B,B,B,B,B,B,B,B,B,B,B,B,B,B,B,B,B,B,B,B,B,B,B,B,B,B,B,B,B,B,B,B,B,B,B,B], [Z,Z,Z,Z,Z,Z,some (.sl .arg .str),Z,Z,Z,Z,Z,Z,Z,Z,Z,Z,Z,Z,Z,Z,Z,Z,Z,Z,Z,Z,Z,Z,Z,Z,Z,Z,Z,Z,Z,Z,Z,Z,Z,Z,Z,Z,Z,Z,Z,Z,Z,Z,Z,Z,Z,Z,Z], .none⟩
def t109_6 {R : Type} (X : SD.D d109_6) (K : Ex → AS → Option R) := Pu.spec_DmaRead_T6 (fun y0 y1 => K (.exit 0) (SD.enc d109_6 ((X.1.1, (X.1.2.1, (y0, (y1, ())))), (X.2.1.1, ()), ()))) X.1.1 X.1.2.1 X.2.1.1
def l109_6 : LEnt := ⟨d109_6, fun X K => iterL (t109_6 X K) fuel (X.1.2.2.1, X.1.2.2.2.1)⟩
def L109 : Lam := (Lam.nil).add 6 l109_6
theorem k109_6 : LOk E g109 n109 L109 (loopBody Tryz.f109 0) :=
  lok l109_6 (by kernel_rfl) fuel fun R X K => (loop_iter (σ := Pu.Bytes × Int) (fun x => SD.enc d109_6 ((X.1.1, (X.1.2.1, (x.1, (x.2, ())))), (X.2.1.1, ()), ())) (t109_6 X K) (fun m x => by kernel_rfl) fuel (X.1.2.2.1, X.1.2.2.2.1)).symm
theorem o109 : FnOk Tryz.prog 109 e109 := fk n109 (((base).add o145).add o146) Tryz.func109 (Λ := L109) (cF k109_6 nF)
def e170 : GEnt := entOf [.data false .str, .data false (.int .i64), .data false (.int .i64)] [(false, .bool)] fun a => Pu.spec_l02Within a.1 a.2.1 a.2.2.1
theorem o170 : FnOk Tryz.prog 170 e170 := fk { merge := fun | 1 => some 6 | _ => none } (base) Tryz.func170 (Λ := Lam.nil) nF
def e148 : GEnt := entOf [.data false .str, .data false (.int .i64)] [(false, (.int .i64))] fun a => Pu.spec_Get16 a.1 a.2.1
theorem o148 : FnOk Tryz.prog 148 e148 := fk {} ((base).add o170) Tryz.func148 (Λ := Lam.nil) nF
def e147 : GEnt := entOf [.data false .str, .data false (.int .i64)] [(false, (.int .i64))] fun a => Pu.spec_Get32 a.1 a.2.1
theorem o147 : FnOk Tryz.prog 147 e147 := fk {} (((base).add o148).add o170) Tryz.func147 (Λ := Lam.nil) nF
def e110 : GEnt := entOf [.data false .str] [(true, (.pair (.int .i64) (.pair (.int .i64) (.pair (.int .i64) (.pair (.int .i64) (.int .i64)))))), (false, (.int .i64)), (false, .bool)] fun a => Pu.spec_DecodeCompletion a.1
theorem o110 : FnOk Tryz.prog 110 e110 := fk { merge := fun | 1 => some 12 | _ => none } (((base).add o147).add o148) Tryz.func110 (Λ := Lam.nil) nF
def e111 : GEnt := entOf [.data true TCompletionQueue] [(false, (.int .i64))] fun a => Pu.spec_l25Phase a.1
theorem o111 : FnOk Tryz.prog 111 e111 := fk {} (base) Tryz.func111 (Λ := Lam.nil) nF
def e67 : GEnt := entOf [.data false (.sl TMapping), .data true (.sl .str), .data false (.int .i64), .data true TCompletionQueue] [(true, (.pair (.int .i64) (.pair (.int .i64) (.pair (.int .i64) (.pair (.int .i64) (.int .i64)))))), (true, (.pair (.int .i64) (.pair (.int .i64) (.int .i64)))), (false, .bool)] fun a => Pu.spec_NextCompletion a.1 a.2.1 a.2.2.1 a.2.2.2.1
theorem o67 : FnOk Tryz.prog 67 e67 := fk { merge := fun | 5 => some 54 | _ => none, sb := fun | 8 => some 8 | 9 => some 9 | _ => none } (((((base).add o106).add o109).add o110).add o111) Tryz.func67 (Λ := Lam.nil) nF
def e22 : GEnt := entOf [.data false (.sl TMapping), .data true (.sl .str), .data false (.int .i64), .data true TRxQueue] [(false, .bool)] fun a => Pu.spec_HasCompletion a.1 a.2.1 a.2.2.1 a.2.2.2.1
theorem o22 : FnOk Tryz.prog 22 e22 := fk { merge := fun | 2 => some 8 | _ => none } (((base).add o64).add o67) Tryz.func22 (Λ := Lam.nil) nF
def e5 : GEnt := entOf [.data true THost] [(false, .bool)] fun a => Pu.spec_IsQuiet a.1
def g5 : Gam := ((Gam.nil).add 21 e21).add 22 e22
def n5 : An := { mask := fun | 4 => [1, 2, 3] | _ => [], merge := fun | 1 => some 13 | 6 => some 38 | _ => none }
@[reducible] def d5_4 : SD := ⟨[B,.ptr 1 0,DB,DI,B,B,B,B,B,B,B,B,B,B,B,B,B,B,B,B,B,B,B,B,B,B,B,B,B,B,B,B,B,B,B,B,B,B,B], [Z,some (.pair (.sl .arg .str) (.pair (.sl .arg TMapping) (.pair (.pair (.pair (.int .i64) (.pair (.int .i64) (.pair (.int .i64) (.int .i64)))) (.pair (.pair (.int .i64) (.pair (.int .i64) (.pair (.int .i64) (.sl .arg (.int .i64))))) (.pair (.sl .arg TSent) (.int .i64)))) (.pair (.sl .arg TRxQueue) (.pair (.sl .arg TPool) (.pair (.sl .arg TVector) (.pair (.sl .arg .bool) (.pair (.pair (.int .i64) (.pair .bool (.sl .arg (.int .i64)))) (.pair (.pair (.sl .arg TRule) (.pair (.sl .arg TSlot) (.pair .str (.sl .arg (.int .i64))))) (.pair (.sl .arg TStream) (.pair .bool (.pair (.sl .arg .str) (.pair (.sl .arg (.int .i64)) (.pair (.sl .arg (.int .i64)) (.pair (.int .i64) (.pair (.int .i64) (.pair (.int .i64) (.pair (.int .i64) (.int .i64))))))))))))))))))),Z,Z,Z,Z,Z,Z,Z,Z,Z,Z,Z,Z,Z,Z,Z,Z,Z,Z,Z,Z,Z,Z,Z,Z,Z,Z,Z,Z,Z,Z,Z,Z,Z,Z,Z,Z,Z], .none⟩
def t5_4 {R : Type} (X : SD.D d5_4) (K : Ex → AS → Option R) := Pu.spec_IsQuiet_T4 (fun y0 => K (.exit 0) (SD.enc d5_4 ((X.1.1, (y0, ())), (X.2.1.1, ()), ()))) (fun y0 y1 => K .ret (SD.enc d5_4 ((y0, (y1, ())), (X.2.1.1, ()), ()))) X.1.1 X.2.1.1
def l5_4 : LEnt := ⟨d5_4, fun X K => iterL (t5_4 X K) fuel X.1.2.1⟩
def L5 : Lam := (Lam.nil).add 4 l5_4
theorem k5_4 : LOk E g5 n5 L5 (loopBody Tryz.f5 0) :=
  lok l5_4 (by kernel_rfl) fuel fun R X K => (loop_iter (σ := Int) (fun x => SD.enc d5_4 ((X.1.1, (x, ())), (X.2.1.1, ()), ())) (t5_4 X K) (fun m x => by kernel_rfl) fuel X.1.2.1).symm
theorem o5 : FnOk Tryz.prog 5 e5 := fk n5 (((base).add o21).add o22) Tryz.func5 (Λ := L5) (cF k5_4 nF)
def e33 : GEnt := entOf [.data false (.sl .str)] [(false, (.sl (.own none) .str))] fun a => Pu.laws_toStringS a.1
def g33 : Gam := Gam.nil
def n33 : An := { mask := fun | 3 => [0, 3, 4] | _ => [], mv := [21] }
@[reducible] def d33_3 : SD := ⟨[.data false (.sl .arg .str),B,B,.data false (.sl (.own (some 36864)) .str),DI,B,B,B,B,B,B,B,B,B,B,B,B,B,B,B,B,B], [Z,Z,Z,Z,Z,Z,Z,Z,Z,Z,Z,Z,Z,Z,Z,Z,Z,Z,Z,Z,Z,Z], .none⟩
def t33_3 {R : Type} (X : SD.D d33_3) (K : Ex → AS → Option R) := Pu.laws_toStringS_T3 (fun y0 y1 => K (.exit 0) (SD.enc d33_3 ((X.1.1, (y0, (y1, ()))), (), ()))) X.1.1
def l33_3 : LEnt := ⟨d33_3, fun X K => iterL (t33_3 X K) fuel (X.1.2.1, X.1.2.2.1)⟩
def L33 : Lam := (Lam.nil).add 3 l33_3
theorem k33_3 : LOk E g33 n33 L33 (loopBody Tryz.f33 0) :=
  lok l33_3 (by kernel_rfl) fuel fun R X K => (loop_iter (σ := (List Pu.Bytes) × Int) (fun x => SD.enc d33_3 ((X.1.1, (x.1, (x.2, ()))), (), ())) (t33_3 X K) (fun m x => by kernel_rfl) fuel (X.1.2.1, X.1.2.2.1)).symm
theorem o33 : FnOk Tryz.prog 33 e33 := fk n33 (base) Tryz.func33 (Λ := L33) (cF k33_3 nF)
def e23 : GEnt := entOf [.data true (.sl .str)] [(true, (.sl (.own none) .str))] fun a => Pu.laws_toMemory a.1
theorem o23 : FnOk Tryz.prog 23 e23 := fk { mv := [8] } ((base).add o33) Tryz.func23 (Λ := Lam.nil) nF
def e68 : GEnt := entOf [.data true TMapping] [(true, (.pair (.int .i64) (.pair (.int .i64) (.pair (.int .i64) .bool))))] fun a => Pu.laws_toMapping a.1
theorem o68 : FnOk Tryz.prog 68 e68 := fk {} (base) Tryz.func68 (Λ := Lam.nil) nF
def e24 : GEnt := entOf [.data false (.sl TMapping)] [(false, (.sl (.own none) TMapping))] fun a => Pu.laws_toMappingS a.1
def g24 : Gam := (Gam.nil).add 68 e68
def n24 : An := { mask := fun | 3 => [0, 3, 4] | _ => [], mv := [22] }
@[reducible] def d24_3 : SD := ⟨[.data false (.sl .arg TMapping),B,B,.data false (.sl (.own (some 36864)) TMapping),DI,B,B,B,B,B,B,B,B,B,B,B,B,B,B,B,B,B,B], [Z,Z,Z,Z,Z,Z,Z,Z,Z,Z,Z,Z,Z,Z,Z,Z,Z,Z,Z,Z,Z,Z,Z], .none⟩
def t24_3 {R : Type} (X : SD.D d24_3) (K : Ex → AS → Option R) := Pu.laws_toMappingS_T3 (fun y0 y1 => K (.exit 0) (SD.enc d24_3 ((X.1.1, (y0, (y1, ()))), (), ()))) X.1.1
def l24_3 : LEnt := ⟨d24_3, fun X K => iterL (t24_3 X K) fuel (X.1.2.1, X.1.2.2.1)⟩
def L24 : Lam := (Lam.nil).add 3 l24_3
theorem k24_3 : LOk E g24 n24 L24 (loopBody Tryz.f24 0) :=
  lok l24_3 (by kernel_rfl) fuel fun R X K => (loop_iter (σ := (List Pu.Mapping) × Int) (fun x => SD.enc d24_3 ((X.1.1, (x.1, (x.2, ()))), (), ())) (t24_3 X K) (fun m x => by kernel_rfl) fuel (X.1.2.1, X.1.2.2.1)).symm
theorem o24 : FnOk Tryz.prog 24 e24 := fk n24 ((base).add o68) Tryz.func24 (Λ := L24) (cF k24_3 nF)
def e69 : GEnt := entOf [.data true TRing] [(true, (.pair (.int .i64) (.pair (.int .i64) (.pair (.int .i64) (.int .i64)))))] fun a => Pu.laws_toRing a.1
theorem o69 : FnOk Tryz.prog 69 e69 := fk {} (base) Tryz.func69 (Λ := Lam.nil) nF
def e34 : GEnt := entOf [.data false (.sl (.int .i64))] [(false, (.sl (.own none) (.int .i64)))] fun a => Pu.laws_toIntS a.1
def g34 : Gam := Gam.nil
def n34 : An := { mask := fun | 3 => [0, 3, 4] | _ => [], mv := [21] }
@[reducible] def d34_3 : SD := ⟨[.data false (.sl .arg (.int .i64)),B,B,.data false (.sl (.own (some 36864)) (.int .i64)),DI,B,B,B,B,B,B,B,B,B,B,B,B,B,B,B,B,B], [Z,Z,Z,Z,Z,Z,Z,Z,Z,Z,Z,Z,Z,Z,Z,Z,Z,Z,Z,Z,Z,Z], .none⟩
def t34_3 {R : Type} (X : SD.D d34_3) (K : Ex → AS → Option R) := Pu.laws_toIntS_T3 (fun y0 y1 => K (.exit 0) (SD.enc d34_3 ((X.1.1, (y0, (y1, ()))), (), ()))) X.1.1
def l34_3 : LEnt := ⟨d34_3, fun X K => iterL (t34_3 X K) fuel (X.1.2.1, X.1.2.2.1)⟩
def L34 : Lam := (Lam.nil).add 3 l34_3
theorem k34_3 : LOk E g34 n34 L34 (loopBody Tryz.f34 0) :=
  lok l34_3 (by kernel_rfl) fuel fun R X K => (loop_iter (σ := (List Int) × Int) (fun x => SD.enc d34_3 ((X.1.1, (x.1, (x.2, ()))), (), ())) (t34_3 X K) (fun m x => by kernel_rfl) fuel (X.1.2.1, X.1.2.2.1)).symm
theorem o34 : FnOk Tryz.prog 34 e34 := fk n34 (base) Tryz.func34 (Λ := L34) (cF k34_3 nF)
def e70 : GEnt := entOf [.data true TPool] [(true, (.pair (.int .i64) (.pair (.int .i64) (.pair (.int .i64) (.sl (.own none) (.int .i64))))))] fun a => Pu.laws_toPool a.1
theorem o70 : FnOk Tryz.prog 70 e70 := fk { mv := [17] } ((base).add o34) Tryz.func70 (Λ := Lam.nil) nF
def e112 : GEnt := entOf [.data true TSent] [(true, (.pair (.int .i64) (.pair (.int .i64) (.sl (.own none) (.int .i64)))))] fun a => Pu.laws_toSent a.1
theorem o112 : FnOk Tryz.prog 112 e112 := fk { mv := [14] } ((base).add o34) Tryz.func112 (Λ := Lam.nil) nF
def e71 : GEnt := entOf [.data false (.sl TSent)] [(false, (.sl (.own none) TSent))] fun a => Pu.laws_toSentS a.1
def g71 : Gam := (Gam.nil).add 112 e112
def n71 : An := { mask := fun | 3 => [0, 3, 4] | _ => [], mv := [22] }
@[reducible] def d71_3 : SD := ⟨[.data false (.sl .arg TSent),B,B,.data false (.sl (.own (some 36864)) TSent),DI,B,B,B,B,B,B,B,B,B,B,B,B,B,B,B,B,B,B], [Z,Z,Z,Z,Z,Z,Z,Z,Z,Z,Z,Z,Z,Z,Z,Z,Z,Z,Z,Z,Z,Z,Z], .none⟩
def t71_3 {R : Type} (X : SD.D d71_3) (K : Ex → AS → Option R) := Pu.laws_toSentS_T3 (fun y0 y1 => K (.exit 0) (SD.enc d71_3 ((X.1.1, (y0, (y1, ()))), (), ()))) X.1.1
def l71_3 : LEnt := ⟨d71_3, fun X K => iterL (t71_3 X K) fuel (X.1.2.1, X.1.2.2.1)⟩
def L71 : Lam := (Lam.nil).add 3 l71_3
theorem k71_3 : LOk E g71 n71 L71 (loopBody Tryz.f71 0) :=
  lok l71_3 (by kernel_rfl) fuel fun R X K => (loop_iter (σ := (List Pu.Sent) × Int) (fun x => SD.enc d71_3 ((X.1.1, (x.1, (x.2, ()))), (), ())) (t71_3 X K) (fun m x => by kernel_rfl) fuel (X.1.2.1, X.1.2.2.1)).symm
theorem o71 : FnOk Tryz.prog 71 e71 := fk n71 ((base).add o112) Tryz.func71 (Λ := L71) (cF k71_3 nF)
def e25 : GEnt := entOf [.data true TTxQueue] [(true, (.pair (.pair (.int .i64) (.pair (.int .i64) (.pair (.int .i64) (.int .i64)))) (.pair (.pair (.int .i64) (.pair (.int .i64) (.pair (.int .i64) (.sl (.own none) (.int .i64))))) (.pair (.sl (.own none) TSent) (.int .i64)))))] fun a => Pu.laws_toTxQueue a.1
theorem o25 : FnOk Tryz.prog 25 e25 := fk { mv := [19] } ((((base).add o69).add o70).add o71) Tryz.func25 (Λ := Lam.nil) nF
def e113 : GEnt := entOf [.data true TCompletionQueue] [(true, (.pair (.int .i64) (.pair (.int .i64) (.int .i64))))] fun a => Pu.laws_toCompletionQueue a.1
theorem o113 : FnOk Tryz.prog 113 e113 := fk {} (base) Tryz.func113 (Λ := Lam.nil) nF
def e171 : GEnt := entOf [.data true TSegment] [(true, (.pair (.int .i64) (.pair (.int .i64) (.pair (.int .i64) (.pair (.int .i64) (.pair (.int .i64) (.pair (.int .i64) (.pair (.int .i64) .str))))))))] fun a => Pu.laws_toSegment a.1
theorem o171 : FnOk Tryz.prog 171 e171 := fk {} (base) Tryz.func171 (Λ := Lam.nil) nF
def e149 : GEnt := entOf [.data true TPacket] [(true, (.pair (.int .i64) (.pair (.int .i64) (.pair (.int .i64) (.pair (.int .i64) (.pair (.int .i64) (.pair (.int .i64) (.pair (.int .i64) (.pair (.int .i64) (.pair (.int .i64) (.pair (.int .i64) (.pair (.int .i64) (.pair (.int .i64) (.pair (.int .i64) (.pair (.int .i64) (.pair (.int .i64) .str))))))))))))))))] fun a => Pu.laws_toPacket a.1
theorem o149 : FnOk Tryz.prog 149 e149 := fk {} ((base).add o171) Tryz.func149 (Λ := Lam.nil) nF
def e114 : GEnt := entOf [.data true TSuper] [(true, (.pair (.pair (.int .i64) (.pair (.int .i64) (.pair (.int .i64) (.pair (.int .i64) (.pair (.int .i64) (.pair (.int .i64) (.pair (.int .i64) (.pair (.int .i64) (.pair (.int .i64) (.pair (.int .i64) (.pair (.int .i64) (.pair (.int .i64) (.pair (.int .i64) (.pair (.int .i64) (.pair (.int .i64) .str))))))))))))))) (.pair (.int .i64) (.int .i64))))] fun a => Pu.laws_toSuper a.1
theorem o114 : FnOk Tryz.prog 114 e114 := fk {} ((base).add o149) Tryz.func114 (Λ := Lam.nil) nF
def e72 : GEnt := entOf [.data true TRxQueue] [(true, (.pair (.pair (.int .i64) (.pair (.int .i64) (.pair (.int .i64) (.int .i64)))) (.pair (.pair (.int .i64) (.pair (.int .i64) (.int .i64))) (.pair (.pair (.int .i64) (.pair (.int .i64) (.int .i64))) (.pair (.pair (.pair (.int .i64) (.pair (.int .i64) (.pair (.int .i64) (.pair (.int .i64) (.pair (.int .i64) (.pair (.int .i64) (.pair (.int .i64) (.pair (.int .i64) (.pair (.int .i64) (.pair (.int .i64) (.pair (.int .i64) (.pair (.int .i64) (.pair (.int .i64) (.pair (.int .i64) (.pair (.int .i64) .str))))))))))))))) (.pair (.int .i64) (.int .i64))) (.pair .bool (.int .i64)))))))] fun a => Pu.laws_toRxQueue a.1
theorem o72 : FnOk Tryz.prog 72 e72 := fk {} ((((base).add o69).add o113).add o114) Tryz.func72 (Λ := Lam.nil) nF
def e26 : GEnt := entOf [.data false (.sl TRxQueue)] [(false, (.sl (.own none) TRxQueue))] fun a => Pu.laws_toRxQueueS a.1
def g26 : Gam := (Gam.nil).add 72 e72
def n26 : An := { mask := fun | 3 => [0, 3, 4] | _ => [], mv := [22] }
@[reducible] def d26_3 : SD := ⟨[.data false (.sl .arg TRxQueue),B,B,.data false (.sl (.own (some 36864)) TRxQueue),DI,B,B,B,B,B,B,B,B,B,B,B,B,B,B,B,B,B,B], [Z,Z,Z,Z,Z,Z,Z,Z,Z,Z,Z,Z,Z,Z,Z,Z,Z,Z,Z,Z,Z,Z,Z], .none⟩
def t26_3 {R : Type} (X : SD.D d26_3) (K : Ex → AS → Option R) := Pu.laws_toRxQueueS_T3 (fun y0 y1 => K (.exit 0) (SD.enc d26_3 ((X.1.1, (y0, (y1, ()))), (), ()))) X.1.1
def l26_3 : LEnt := ⟨d26_3, fun X K => iterL (t26_3 X K) fuel (X.1.2.1, X.1.2.2.1)⟩
def L26 : Lam := (Lam.nil).add 3 l26_3
theorem k26_3 : LOk E g26 n26 L26 (loopBody Tryz.f26 0) :=
  lok l26_3 (by kernel_rfl) fuel fun R X K => (loop_iter (σ := (List Pu.RxQueue) × Int) (fun x => SD.enc d26_3 ((X.1.1, (x.1, (x.2, ()))), (), ())) (t26_3 X K) (fun m x => by kernel_rfl) fuel (X.1.2.1, X.1.2.2.1)).symm
theorem o26 : FnOk Tryz.prog 26 e26 := fk n26 ((base).add o72) Tryz.func26 (Λ := L26) (cF k26_3 nF)
def e27 : GEnt := entOf [.data false (.sl TPool)] [(false, (.sl (.own none) TPool))] fun a => Pu.laws_toPoolS a.1
def g27 : Gam := (Gam.nil).add 70 e70
def n27 : An := { mask := fun | 3 => [0, 3, 4] | _ => [], mv := [22] }
@[reducible] def d27_3 : SD := ⟨[.data false (.sl .arg TPool),B,B,.data false (.sl (.own (some 36864)) TPool),DI,B,B,B,B,B,B,B,B,B,B,B,B,B,B,B,B,B,B], [Z,Z,Z,Z,Z,Z,Z,Z,Z,Z,Z,Z,Z,Z,Z,Z,Z,Z,Z,Z,Z,Z,Z], .none⟩
def t27_3 {R : Type} (X : SD.D d27_3) (K : Ex → AS → Option R) := Pu.laws_toPoolS_T3 (fun y0 y1 => K (.exit 0) (SD.enc d27_3 ((X.1.1, (y0, (y1, ()))), (), ()))) X.1.1
def l27_3 : LEnt := ⟨d27_3, fun X K => iterL (t27_3 X K) fuel (X.1.2.1, X.1.2.2.1)⟩
def L27 : Lam := (Lam.nil).add 3 l27_3
theorem k27_3 : LOk E g27 n27 L27 (loopBody Tryz.f27 0) :=
  lok l27_3 (by kernel_rfl) fuel fun R X K => (loop_iter (σ := (List Pu.Pool) × Int) (fun x => SD.enc d27_3 ((X.1.1, (x.1, (x.2, ()))), (), ())) (t27_3 X K) (fun m x => by kernel_rfl) fuel (X.1.2.1, X.1.2.2.1)).symm
theorem o27 : FnOk Tryz.prog 27 e27 := fk n27 ((base).add o70) Tryz.func27 (Λ := L27) (cF k27_3 nF)
def e73 : GEnt := entOf [.data true TVector] [(true, (.pair (.int .i64) (.pair (.int .i64) (.pair (.int .i64) (.pair (.int .i64) (.pair .bool .bool))))))] fun a => Pu.laws_toVector a.1
theorem o73 : FnOk Tryz.prog 73 e73 := fk {} (base) Tryz.func73 (Λ := Lam.nil) nF
def e28 : GEnt := entOf [.data false (.sl TVector)] [(false, (.sl (.own none) TVector))] fun a => Pu.laws_toVectorS a.1
def g28 : Gam := (Gam.nil).add 73 e73
def n28 : An := { mask := fun | 3 => [0, 3, 4] | _ => [], mv := [22] }
@[reducible] def d28_3 : SD := ⟨[.data false (.sl .arg TVector),B,B,.data false (.sl (.own (some 36864)) TVector),DI,B,B,B,B,B,B,B,B,B,B,B,B,B,B,B,B,B,B], [Z,Z,Z,Z,Z,Z,Z,Z,Z,Z,Z,Z,Z,Z,Z,Z,Z,Z,Z,Z,Z,Z,Z], .none⟩
def t28_3 {R : Type} (X : SD.D d28_3) (K : Ex → AS → Option R) := Pu.laws_toVectorS_T3 (fun y0 y1 => K (.exit 0) (SD.enc d28_3 ((X.1.1, (y0, (y1, ()))), (), ()))) X.1.1
def l28_3 : LEnt := ⟨d28_3, fun X K => iterL (t28_3 X K) fuel (X.1.2.1, X.1.2.2.1)⟩
def L28 : Lam := (Lam.nil).add 3 l28_3
theorem k28_3 : LOk E g28 n28 L28 (loopBody Tryz.f28 0) :=
  lok l28_3 (by kernel_rfl) fuel fun R X K => (loop_iter (σ := (List Pu.Vector) × Int) (fun x => SD.enc d28_3 ((X.1.1, (x.1, (x.2, ()))), (), ())) (t28_3 X K) (fun m x => by kernel_rfl) fuel (X.1.2.1, X.1.2.2.1)).symm
theorem o28 : FnOk Tryz.prog 28 e28 := fk n28 ((base).add o73) Tryz.func28 (Λ := L28) (cF k28_3 nF)
def e29 : GEnt := entOf [.data false (.sl .bool)] [(false, (.sl (.own none) .bool))] fun a => Pu.laws_toBoolS a.1
def g29 : Gam := Gam.nil
def n29 : An := { mask := fun | 3 => [0, 3, 4] | _ => [], mv := [21] }
@[reducible] def d29_3 : SD := ⟨[.data false (.sl .arg .bool),B,B,.data false (.sl (.own (some 36864)) .bool),DI,B,B,B,B,B,B,B,B,B,B,B,B,B,B,B,B,B], [Z,Z,Z,Z,Z,Z,Z,Z,Z,Z,Z,Z,Z,Z,Z,Z,Z,Z,Z,Z,Z,Z], .none⟩
def t29_3 {R : Type} (X : SD.D d29_3) (K : Ex → AS → Option R) := Pu.laws_toBoolS_T3 (fun y0 y1 => K (.exit 0) (SD.enc d29_3 ((X.1.1, (y0, (y1, ()))), (), ()))) X.1.1
def l29_3 : LEnt := ⟨d29_3, fun X K => iterL (t29_3 X K) fuel (X.1.2.1, X.1.2.2.1)⟩
def L29 : Lam := (Lam.nil).add 3 l29_3
theorem k29_3 : LOk E g29 n29 L29 (loopBody Tryz.f29 0) :=
  lok l29_3 (by kernel_rfl) fuel fun R X K => (loop_iter (σ := (List Bool) × Int) (fun x => SD.enc d29_3 ((X.1.1, (x.1, (x.2, ()))), (), ())) (t29_3 X K) (fun m x => by kernel_rfl) fuel (X.1.2.1, X.1.2.2.1)).symm
theorem o29 : FnOk Tryz.prog 29 e29 := fk n29 (base) Tryz.func29 (Λ := L29) (cF k29_3 nF)
def e30 : GEnt := entOf [.data true TFilter] [(true, (.pair (.int .i64) (.pair .bool (.sl (.own none) (.int .i64)))))] fun a => Pu.laws_toFilter a.1
theorem o30 : FnOk Tryz.prog 30 e30 := fk { mv := [14] } ((base).add o34) Tryz.func30 (Λ := Lam.nil) nF
def e115 : GEnt := entOf [.data true TRule] [(true, (.pair (.int .i64) (.pair (.int .i64) (.pair (.int .i64) (.pair (.int .i64) (.pair (.int .i64) (.pair (.int .i64) (.pair (.int .i64) (.pair (.int .i64) (.int .i64))))))))))] fun a => Pu.laws_toRule a.1
theorem o115 : FnOk Tryz.prog 115 e115 := fk {} (base) Tryz.func115 (Λ := Lam.nil) nF
def e74 : GEnt := entOf [.data false (.sl TRule)] [(false, (.sl (.own none) TRule))] fun a => Pu.laws_toRuleS a.1
def g74 : Gam := (Gam.nil).add 115 e115
def n74 : An := { mask := fun | 3 => [0, 3, 4] | _ => [], mv := [22] }
@[reducible] def d74_3 : SD := ⟨[.data false (.sl .arg TRule),B,B,.data false (.sl (.own (some 36864)) TRule),DI,B,B,B,B,B,B,B,B,B,B,B,B,B,B,B,B,B,B], [Z,Z,Z,Z,Z,Z,Z,Z,Z,Z,Z,Z,Z,Z,Z,Z,Z,Z,Z,Z,Z,Z,Z], .none⟩
def t74_3 {R : Type} (X : SD.D d74_3) (K : Ex → AS → Option R) := Pu.laws_toRuleS_T3 (fun y0 y1 => K (.exit 0) (SD.enc d74_3 ((X.1.1, (y0, (y1, ()))), (), ()))) X.1.1
def l74_3 : LEnt := ⟨d74_3, fun X K => iterL (t74_3 X K) fuel (X.1.2.1, X.1.2.2.1)⟩
def L74 : Lam := (Lam.nil).add 3 l74_3
theorem k74_3 : LOk E g74 n74 L74 (loopBody Tryz.f74 0) :=
  lok l74_3 (by kernel_rfl) fuel fun R X K => (loop_iter (σ := (List Pu.Rule) × Int) (fun x => SD.enc d74_3 ((X.1.1, (x.1, (x.2, ()))), (), ())) (t74_3 X K) (fun m x => by kernel_rfl) fuel (X.1.2.1, X.1.2.2.1)).symm
theorem o74 : FnOk Tryz.prog 74 e74 := fk n74 ((base).add o115) Tryz.func74 (Λ := L74) (cF k74_3 nF)
def e117 : GEnt := entOf [.data true TFlow] [(true, (.pair (.int .i64) (.pair (.int .i64) (.pair (.int .i64) (.pair (.int .i64) (.int .i64))))))] fun a => Pu.laws_toFlow a.1
theorem o117 : FnOk Tryz.prog 117 e117 := fk {} (base) Tryz.func117 (Λ := Lam.nil) nF
def e150 : GEnt := entOf [.data true TSlot] [(true, (.pair (.int .i64) (.pair (.pair (.int .i64) (.pair (.int .i64) (.pair (.int .i64) (.pair (.int .i64) (.int .i64))))) (.int .i64))))] fun a => Pu.laws_toSlot a.1
theorem o150 : FnOk Tryz.prog 150 e150 := fk {} ((base).add o117) Tryz.func150 (Λ := Lam.nil) nF
def e116 : GEnt := entOf [.data false (.sl TSlot)] [(false, (.sl (.own none) TSlot))] fun a => Pu.laws_toSlotS a.1
def g116 : Gam := (Gam.nil).add 150 e150
def n116 : An := { mask := fun | 3 => [0, 3, 4] | _ => [], mv := [22] }
@[reducible] def d116_3 : SD := ⟨[.data false (.sl .arg TSlot),B,B,.data false (.sl (.own (some 36864)) TSlot),DI,B,B,B,B,B,B,B,B,B,B,B,B,B,B,B,B,B,B], [Z,Z,Z,Z,Z,Z,Z,Z,Z,Z,Z,Z,Z,Z,Z,Z,Z,Z,Z,Z,Z,Z,Z], .none⟩
def t116_3 {R : Type} (X : SD.D d116_3) (K : Ex → AS → Option R) := Pu.laws_toSlotS_T3 (fun y0 y1 => K (.exit 0) (SD.enc d116_3 ((X.1.1, (y0, (y1, ()))), (), ()))) X.1.1
def l116_3 : LEnt := ⟨d116_3, fun X K => iterL (t116_3 X K) fuel (X.1.2.1, X.1.2.2.1)⟩
def L116 : Lam := (Lam.nil).add 3 l116_3
theorem k116_3 : LOk E g116 n116 L116 (loopBody Tryz.f116 0) :=
  lok l116_3 (by kernel_rfl) fuel fun R X K => (loop_iter (σ := (List Pu.Slot) × Int) (fun x => SD.enc d116_3 ((X.1.1, (x.1, (x.2, ()))), (), ())) (t116_3 X K) (fun m x => by kernel_rfl) fuel (X.1.2.1, X.1.2.2.1)).symm
theorem o116 : FnOk Tryz.prog 116 e116 := fk n116 ((base).add o150) Tryz.func116 (Λ := L116) (cF k116_3 nF)
def e75 : GEnt := entOf [.data true (.sl TSlot)] [(true, (.sl (.own none) TSlot))] fun a => Pu.laws_toFlowTable a.1
theorem o75 : FnOk Tryz.prog 75 e75 := fk { mv := [8] } ((base).add o116) Tryz.func75 (Λ := Lam.nil) nF
def e76 : GEnt := entOf [.data true TSpread] [(true, (.pair .str (.sl (.own none) (.int .i64))))] fun a => Pu.laws_toSpread a.1
theorem o76 : FnOk Tryz.prog 76 e76 := fk { mv := [11] } ((base).add o34) Tryz.func76 (Λ := Lam.nil) nF
def e31 : GEnt := entOf [.data true TSteering] [(true, (.pair (.sl (.own none) TRule) (.pair (.sl (.own none) TSlot) (.pair .str (.sl (.own none) (.int .i64))))))] fun a => Pu.laws_toSteering a.1
theorem o31 : FnOk Tryz.prog 31 e31 := fk { mv := [16] } ((((base).add o74).add o75).add o76) Tryz.func31 (Λ := Lam.nil) nF
def e77 : GEnt := entOf [.data true TStream] [(true, (.pair (.pair (.int .i64) (.pair (.int .i64) (.pair (.int .i64) (.pair (.int .i64) (.int .i64))))) (.pair (.int .i64) (.pair .str .bool))))] fun a => Pu.laws_toStream a.1
theorem o77 : FnOk Tryz.prog 77 e77 := fk {} ((base).add o117) Tryz.func77 (Λ := Lam.nil) nF
def e32 : GEnt := entOf [.data false (.sl TStream)] [(false, (.sl (.own none) TStream))] fun a => Pu.laws_toStreamS a.1
def g32 : Gam := (Gam.nil).add 77 e77
def n32 : An := { mask := fun | 3 => [0, 3, 4] | _ => [], mv := [22] }
@[reducible] def d32_3 : SD := ⟨[.data false (.sl .arg TStream),B,B,.data false (.sl (.own (some 36864)) TStream),DI,B,B,B,B,B,B,B,B,B,B,B,B,B,B,B,B,B,B], [Z,Z,Z,Z,Z,Z,Z,Z,Z,Z,Z,Z,Z,Z,Z,Z,Z,Z,Z,Z,Z,Z,Z], .none⟩
def t32_3 {R : Type} (X : SD.D d32_3) (K : Ex → AS → Option R) := Pu.laws_toStreamS_T3 (fun y0 y1 => K (.exit 0) (SD.enc d32_3 ((X.1.1, (y0, (y1, ()))), (), ()))) X.1.1
def l32_3 : LEnt := ⟨d32_3, fun X K => iterL (t32_3 X K) fuel (X.1.2.1, X.1.2.2.1)⟩
def L32 : Lam := (Lam.nil).add 3 l32_3
theorem k32_3 : LOk E g32 n32 L32 (loopBody Tryz.f32 0) :=
  lok l32_3 (by kernel_rfl) fuel fun R X K => (loop_iter (σ := (List Pu.Stream) × Int) (fun x => SD.enc d32_3 ((X.1.1, (x.1, (x.2, ()))), (), ())) (t32_3 X K) (fun m x => by kernel_rfl) fuel (X.1.2.1, X.1.2.2.1)).symm
theorem o32 : FnOk Tryz.prog 32 e32 := fk n32 ((base).add o77) Tryz.func32 (Λ := L32) (cF k32_3 nF)
def e35 : GEnt := entOf [.data true TFlow] [(true, (.pair (.int .i64) (.pair (.int .i64) (.pair (.int .i64) (.pair (.int .i64) (.int .i64))))))] fun a => Pu.laws_toCounters a.1
theorem o35 : FnOk Tryz.prog 35 e35 := fk {} (base) Tryz.func35 (Λ := Lam.nil) nF
def e6 : GEnt := entOf [.data true THost] [(true, (.pair (.sl (.own none) .str) (.pair (.sl (.own none) TMapping) (.pair (.pair (.pair (.int .i64) (.pair (.int .i64) (.pair (.int .i64) (.int .i64)))) (.pair (.pair (.int .i64) (.pair (.int .i64) (.pair (.int .i64) (.sl (.own none) (.int .i64))))) (.pair (.sl (.own none) TSent) (.int .i64)))) (.pair (.sl (.own none) TRxQueue) (.pair (.sl (.own none) TPool) (.pair (.sl (.own none) TVector) (.pair (.sl (.own none) .bool) (.pair (.pair (.int .i64) (.pair .bool (.sl (.own none) (.int .i64)))) (.pair (.pair (.sl (.own none) TRule) (.pair (.sl (.own none) TSlot) (.pair .str (.sl (.own none) (.int .i64))))) (.pair (.sl (.own none) TStream) (.pair .bool (.pair (.sl (.own none) .str) (.pair (.sl (.own none) (.int .i64)) (.pair (.sl (.own none) (.int .i64)) (.pair (.int .i64) (.pair (.int .i64) (.pair (.int .i64) (.pair (.int .i64) (.int .i64))))))))))))))))))))] fun a => Pu.laws_toHost a.1
theorem o6 : FnOk Tryz.prog 6 e6 := fk { mv := [63] } ((((((((((((((base).add o23).add o24).add o25).add o26).add o27).add o28).add o29).add o30).add o31).add o32).add o33).add o34).add o35) Tryz.func6 (Λ := Lam.nil) nF
def e78 : GEnt := entOf [.data true (.sl .str)] [(false, .bool)] fun a => Pu.impl_MemoryOk a.1
def g78 : Gam := Gam.nil
def n78 : An := { mask := fun | 2 => [1, 2, 6, 7, 8] | _ => [] }
@[reducible] def d78_2 : SD := ⟨[B,.ptr 1 0,DB,B,B,B,.data false (.sl .arg .str),DI,DI,B,B,B,B,B,B,B,B,B,B,B], [Z,some (.sl .arg .str),Z,Z,Z,Z,Z,Z,Z,Z,Z,Z,Z,Z,Z,Z,Z,Z,Z,Z], .none⟩
def t78_2 {R : Type} (X : SD.D d78_2) (K : Ex → AS → Option R) := Pu.impl_MemoryOk_T2 (fun y0 => K (.exit 0) (SD.enc d78_2 ((X.1.1, (X.1.2.1, (X.1.2.2.1, (y0, ())))), (X.2.1.1, ()), ()))) (fun y0 y1 => K .ret (SD.enc d78_2 ((y0, (X.1.2.1, (X.1.2.2.1, (y1, ())))), (X.2.1.1, ()), ()))) X.1.1 X.1.2.1 X.1.2.2.1 X.2.1.1
def l78_2 : LEnt := ⟨d78_2, fun X K => iterL (t78_2 X K) fuel X.1.2.2.2.1⟩
def L78 : Lam := (Lam.nil).add 2 l78_2
theorem k78_2 : LOk E g78 n78 L78 (loopBody Tryz.f78 0) :=
  lok l78_2 (by kernel_rfl) fuel fun R X K => (loop_iter (σ := Int) (fun x => SD.enc d78_2 ((X.1.1, (X.1.2.1, (X.1.2.2.1, (x, ())))), (X.2.1.1, ()), ())) (t78_2 X K) (fun m x => by kernel_rfl) fuel X.1.2.2.2.1).symm
theorem o78 : FnOk Tryz.prog 78 e78 := fk n78 (base) Tryz.func78 (Λ := L78) (cF k78_2 nF)
def e82 : GEnt := entOf [.data false (.int .i64), .data false (.int .i64), .data false (.int .i64)] [(false, .bool)] fun a => Pu.impl_between a.1 a.2.1 a.2.2.1
theorem o82 : FnOk Tryz.prog 82 e82 := fk { merge := fun | 1 => some 6 | _ => none } (base) Tryz.func82 (Λ := Lam.nil) nF
def e118 : GEnt := entOf [.data false (.sl TMapping), .data false (.int .i64), .data false (.int .i64)] [(false, (.int .i64))] fun a => Pu.impl_pageMapping a.1 a.2.1 a.2.2.1
def g118 : Gam := Gam.nil
def n118 : An := { mask := fun | 2 => [1, 2, 6, 9, 10, 11] | _ => [], merge := fun | 4 => some 25 | _ => none }
@[reducible] def d118_2 : SD := ⟨[B,DI,DI,B,B,B,DI,B,B,.data false (.sl .arg TMapping),DI,DI,B,B,B,B,B,B,B,B,B,B,B,B,B,B,B,B], [Z,Z,Z,Z,Z,Z,Z,Z,Z,Z,Z,Z,Z,Z,Z,Z,Z,Z,Z,Z,Z,Z,Z,Z,Z,Z,Z,Z], .none⟩
def t118_2 {R : Type} (X : SD.D d118_2) (K : Ex → AS → Option R) := Pu.impl_pageMapping_T2 (fun y0 => K (.exit 0) (SD.enc d118_2 ((X.1.1, (X.1.2.1, (X.1.2.2.1, (X.1.2.2.2.1, (X.1.2.2.2.2.1, (y0, ())))))), (), ()))) (fun y0 y1 => K .ret (SD.enc d118_2 ((X.1.1, (X.1.2.1, (y0, (X.1.2.2.2.1, (X.1.2.2.2.2.1, (y1, ())))))), (), ()))) X.1.1 X.1.2.1 X.1.2.2.1 X.1.2.2.2.1 X.1.2.2.2.2.1
def l118_2 : LEnt := ⟨d118_2, fun X K => iterL (t118_2 X K) fuel X.1.2.2.2.2.2.1⟩
def L118 : Lam := (Lam.nil).add 2 l118_2
theorem k118_2 : LOk E g118 n118 L118 (loopBody Tryz.f118 0) :=
  lok l118_2 (by kernel_rfl) fuel fun R X K => (loop_iter (σ := Int) (fun x => SD.enc d118_2 ((X.1.1, (X.1.2.1, (X.1.2.2.1, (X.1.2.2.2.1, (X.1.2.2.2.2.1, (x, ())))))), (), ())) (t118_2 X K) (fun m x => by kernel_rfl) fuel X.1.2.2.2.2.2.1).symm
theorem o118 : FnOk Tryz.prog 118 e118 := fk n118 (base) Tryz.func118 (Λ := L118) (cF k118_2 nF)
def e79 : GEnt := entOf [.data false (.sl TMapping)] [(false, .bool)] fun a => Pu.impl_MappingsOk a.1
def g79 : Gam := ((Gam.nil).add 82 e82).add 118 e118
def n79 : An := { mask := fun | 2 => [0, 2, 5, 6, 7] | _ => [], merge := fun | 4 => some 37 | _ => none }
@[reducible] def d79_2 : SD := ⟨[.data false (.sl .arg TMapping),B,DB,B,B,.data false (.sl .arg TMapping),DI,DI,B,B,B,B,B,B,B,B,B,B,B,B,B,B,B,B,B,B,B,B,B,B,B,B,B,B,B,B,B,B,B,B,B,B], [Z,Z,Z,Z,Z,Z,Z,Z,Z,Z,Z,Z,Z,Z,Z,Z,Z,Z,Z,Z,Z,Z,Z,Z,Z,Z,Z,Z,Z,Z,Z,Z,Z,Z,Z,Z,Z,Z,Z,Z,Z,Z], .none⟩
def t79_2 {R : Type} (X : SD.D d79_2) (K : Ex → AS → Option R) := Pu.impl_MappingsOk_T2 (fun y0 => K (.exit 0) (SD.enc d79_2 ((X.1.1, (X.1.2.1, (X.1.2.2.1, (X.1.2.2.2.1, (y0, ()))))), (), ()))) (fun y0 y1 => K .ret (SD.enc d79_2 ((X.1.1, (y0, (X.1.2.2.1, (X.1.2.2.2.1, (y1, ()))))), (), ()))) X.1.1 X.1.2.1 X.1.2.2.1 X.1.2.2.2.1
def l79_2 : LEnt := ⟨d79_2, fun X K => iterL (t79_2 X K) fuel X.1.2.2.2.2.1⟩
def L79 : Lam := (Lam.nil).add 2 l79_2
theorem k79_2 : LOk E g79 n79 L79 (loopBody Tryz.f79 0) :=
  lok l79_2 (by kernel_rfl) fuel fun R X K => (loop_iter (σ := Int) (fun x => SD.enc d79_2 ((X.1.1, (X.1.2.1, (X.1.2.2.1, (X.1.2.2.2.1, (x, ()))))), (), ())) (t79_2 X K) (fun m x => by kernel_rfl) fuel X.1.2.2.2.2.1).symm
theorem o79 : FnOk Tryz.prog 79 e79 := fk n79 (((base).add o82).add o118) Tryz.func79 (Λ := L79) (cF k79_2 nF)
def e84 : GEnt := entOf [.data true TPool] [(false, .bool)] fun a => Pu.impl_PoolOk a.1
def g84 : Gam := (Gam.nil).add 82 e82
def n84 : An := { mask := fun | 5 => [1, 2, 3, 26, 27, 28] | _ => [], merge := fun | 1 => some 21 | 7 => some 43 | _ => none }
@[reducible] def d84_5 : SD := ⟨[B,.ptr 1 0,DB,.data false (.sl (.own (some 36864)) .bool),B,B,B,B,B,B,B,B,B,B,B,B,B,B,B,B,B,B,B,B,B,B,.data false (.sl .arg (.int .i64)),DI,DI,B,B,B,B,B,B,B,B,B,B,B,B,B,B,B,B,B,B,B], [Z,some (.pair (.int .i64) (.pair (.int .i64) (.pair (.int .i64) (.sl .arg (.int .i64))))),Z,Z,Z,Z,Z,Z,Z,Z,Z,Z,Z,Z,Z,Z,Z,Z,Z,Z,Z,Z,Z,Z,Z,Z,Z,Z,Z,Z,Z,Z,Z,Z,Z,Z,Z,Z,Z,Z,Z,Z,Z,Z,Z,Z,Z,Z], .none⟩
def t84_5 {R : Type} (X : SD.D d84_5) (K : Ex → AS → Option R) := Pu.impl_PoolOk_T5 (fun y0 y1 => K (.exit 0) (SD.enc d84_5 ((X.1.1, (y0, (X.1.2.2.1, (X.1.2.2.2.1, (y1, ()))))), (X.2.1.1, ()), ()))) (fun y0 y1 y2 => K .ret (SD.enc d84_5 ((y0, (y1, (X.1.2.2.1, (X.1.2.2.2.1, (y2, ()))))), (X.2.1.1, ()), ()))) X.1.1 X.1.2.2.1 X.1.2.2.2.1 X.2.1.1
def l84_5 : LEnt := ⟨d84_5, fun X K => iterL (t84_5 X K) fuel (X.1.2.1, X.1.2.2.2.2.1)⟩
def L84 : Lam := (Lam.nil).add 5 l84_5
theorem k84_5 : LOk E g84 n84 L84 (loopBody Tryz.f84 0) :=
  lok l84_5 (by kernel_rfl) fuel fun R X K => (loop_iter (σ := (List Bool) × Int) (fun x => SD.enc d84_5 ((X.1.1, (x.1, (X.1.2.2.1, (X.1.2.2.2.1, (x.2, ()))))), (X.2.1.1, ()), ())) (t84_5 X K) (fun m x => by kernel_rfl) fuel (X.1.2.1, X.1.2.2.2.2.1)).symm
theorem o84 : FnOk Tryz.prog 84 e84 := fk n84 ((base).add o82) Tryz.func84 (Λ := L84) (cF k84_5 nF)
def e151 : GEnt := entOf [.data false (.int .i64)] [(false, .bool)] fun a => Pu.impl_ringSize a.1
theorem o151 : FnOk Tryz.prog 151 e151 := fk { merge := fun | 1 => some 2 | _ => none } (base) Tryz.func151 (Λ := Lam.nil) nF
def e172 : GEnt := entOf [.data false (.int .i64), .data false (.int .i64)] [(false, (.int .i64))] fun a => Pu.impl_modulo a.1 a.2.1
theorem o172 : FnOk Tryz.prog 172 e172 := fk {} (base) Tryz.func172 (Λ := Lam.nil) nF
def e152 : GEnt := entOf [.data true TRing] [(false, (.int .i64))] fun a => Pu.impl_RingUsed a.1
theorem o152 : FnOk Tryz.prog 152 e152 := fk {} (((base).add o151).add o172) Tryz.func152 (Λ := Lam.nil) nF
def e119 : GEnt := entOf [.data true TRing] [(false, .bool)] fun a => Pu.impl_RingOk a.1
theorem o119 : FnOk Tryz.prog 119 e119 := fk { merge := fun | 1 => some 2 | _ => none } ((((base).add o82).add o151).add o152) Tryz.func119 (Λ := Lam.nil) nF
def e173 : GEnt := entOf [.data false (.sl (.int .i64))] [(false, (.sl (.own none) (.int .i64)))] fun a => Pu.impl_copyInts a.1
theorem o173 : FnOk Tryz.prog 173 e173 := fk {} (base) Tryz.func173 (Λ := Lam.nil) nF
def e153 : GEnt := entOf [.data true TPool] [(true, (.pair (.int .i64) (.pair (.int .i64) (.pair (.int .i64) (.sl (.own none) (.int .i64))))))] fun a => Pu.impl_copyPool a.1
theorem o153 : FnOk Tryz.prog 153 e153 := fk { mv := [7] } ((base).add o173) Tryz.func153 (Λ := Lam.nil) nF
def e120 : GEnt := entOf [.data true TPool, .data false (.sl (.int .i64))] [(true, (.pair (.int .i64) (.pair (.int .i64) (.pair (.int .i64) (.sl (.own none) (.int .i64)))))), (false, .bool)] fun a => Pu.impl_GiveBuffers a.1 a.2.1
theorem o120 : FnOk Tryz.prog 120 e120 := fk { merge := fun | 3 => some 21 | _ => none, mv := [10, 24] } (((base).add o84).add o153) Tryz.func120 (Λ := Lam.nil) nF
def e80 : GEnt := entOf [.data true TTxQueue] [(false, .bool)] fun a => Pu.impl_TxOk a.1
def g80 : Gam := ((((Gam.nil).add 82 e82).add 84 e84).add 119 e119).add 120 e120
def n80 : An := { mask := fun | 6 => [1, 2, 3, 4, 30, 31, 32] | _ => [], merge := fun | 1 => some 24 | 8 => some 50 | _ => none, mv := [55] }
@[reducible] def d80_6 : SD := ⟨[B,.ptr 1 0,DB,DI,.data false (.sl (.own (some 49152)) (.int .i64)),B,B,B,B,B,B,B,B,B,B,B,B,B,B,B,B,B,B,B,B,B,B,B,B,B,.data false (.sl .arg TSent),DI,DI,B,B,B,B,B,B,B,B,B,B,B,B,B,B,B,B,B,B,B,B,B,B,B,B,B,B,B,B,B,B,B,B,B,B,B], [Z,some (.pair (.pair (.int .i64) (.pair (.int .i64) (.pair (.int .i64) (.int .i64)))) (.pair (.pair (.int .i64) (.pair (.int .i64) (.pair (.int .i64) (.sl .arg (.int .i64))))) (.pair (.sl .arg TSent) (.int .i64)))),Z,Z,Z,Z,Z,Z,Z,Z,Z,Z,Z,Z,Z,Z,Z,Z,Z,Z,Z,Z,Z,Z,Z,Z,Z,Z,Z,Z,Z,Z,Z,Z,Z,Z,Z,Z,Z,Z,Z,Z,Z,Z,Z,Z,Z,Z,Z,Z,Z,Z,Z,Z,Z,Z,Z,Z,Z,Z,Z,Z,Z,Z,Z,Z,Z,Z], .none⟩
def t80_6 {R : Type} (X : SD.D d80_6) (K : Ex → AS → Option R) := Pu.impl_TxOk_T6 (fun y0 y1 y2 => K (.exit 0) (SD.enc d80_6 ((X.1.1, (y0, (y1, (X.1.2.2.2.1, (X.1.2.2.2.2.1, (y2, ())))))), (X.2.1.1, ()), ()))) (fun y0 y1 y2 y3 => K .ret (SD.enc d80_6 ((y0, (y1, (y2, (X.1.2.2.2.1, (X.1.2.2.2.2.1, (y3, ())))))), (X.2.1.1, ()), ()))) X.1.1 X.1.2.2.2.1 X.1.2.2.2.2.1 X.2.1.1
def l80_6 : LEnt := ⟨d80_6, fun X K => iterL (t80_6 X K) fuel (X.1.2.1, X.1.2.2.1, X.1.2.2.2.2.2.1)⟩
def L80 : Lam := (Lam.nil).add 6 l80_6
theorem k80_6 : LOk E g80 n80 L80 (loopBody Tryz.f80 0) :=
  lok l80_6 (by kernel_rfl) fuel fun R X K => (loop_iter (σ := Int × (List Int) × Int) (fun x => SD.enc d80_6 ((X.1.1, (x.1, (x.2.1, (X.1.2.2.2.1, (X.1.2.2.2.2.1, (x.2.2, ())))))), (X.2.1.1, ()), ())) (t80_6 X K) (fun m x => by kernel_rfl) fuel (X.1.2.1, X.1.2.2.1, X.1.2.2.2.2.2.1)).symm
theorem o80 : FnOk Tryz.prog 80 e80 := fk n80 (((((base).add o82).add o84).add o119).add o120) Tryz.func80 (Λ := L80) (cF k80_6 nF)
def e81 : GEnt := entOf [.data true TFilter] [(false, .bool)] fun a => Pu.impl_FilterOk a.1
def g81 : Gam := (Gam.nil).add 82 e82
def n81 : An := { mask := fun | 2 => [1, 2, 6, 7, 8] | _ => [], merge := fun | 4 => some 29 | 7 => some 2 | _ => none }
@[reducible] def d81_2 : SD := ⟨[B,.ptr 1 0,DB,B,B,B,.data false (.sl .arg (.int .i64)),DI,DI,B,B,B,B,B,B,B,B,B,B,B,B,B,B,B,B,B,B,B,B,B,B,B,B,B,B,B,B,B,B,B], [Z,some (.pair (.int .i64) (.pair .bool (.sl .arg (.int .i64)))),Z,Z,Z,Z,Z,Z,Z,Z,Z,Z,Z,Z,Z,Z,Z,Z,Z,Z,Z,Z,Z,Z,Z,Z,Z,Z,Z,Z,Z,Z,Z,Z,Z,Z,Z,Z,Z,Z], .none⟩
def t81_2 {R : Type} (X : SD.D d81_2) (K : Ex → AS → Option R) := Pu.impl_FilterOk_T2 (fun y0 => K (.exit 0) (SD.enc d81_2 ((X.1.1, (X.1.2.1, (X.1.2.2.1, (y0, ())))), (X.2.1.1, ()), ()))) (fun y0 y1 => K .ret (SD.enc d81_2 ((y0, (X.1.2.1, (X.1.2.2.1, (y1, ())))), (X.2.1.1, ()), ()))) X.1.1 X.1.2.1 X.1.2.2.1 X.2.1.1
def l81_2 : LEnt := ⟨d81_2, fun X K => iterL (t81_2 X K) fuel X.1.2.2.2.1⟩
def L81 : Lam := (Lam.nil).add 2 l81_2
theorem k81_2 : LOk E g81 n81 L81 (loopBody Tryz.f81 0) :=
  lok l81_2 (by kernel_rfl) fuel fun R X K => (loop_iter (σ := Int) (fun x => SD.enc d81_2 ((X.1.1, (X.1.2.1, (X.1.2.2.1, (x, ())))), (X.2.1.1, ()), ())) (t81_2 X K) (fun m x => by kernel_rfl) fuel X.1.2.2.2.1).symm
theorem o81 : FnOk Tryz.prog 81 e81 := fk n81 ((base).add o82) Tryz.func81 (Λ := L81) (cF k81_2 nF)
def e121 : GEnt := entOf [.data true TCompletionQueue] [(false, .bool)] fun a => Pu.impl_QueueOk a.1
theorem o121 : FnOk Tryz.prog 121 e121 := fk { merge := fun | 1 => some 2 | _ => none } (((base).add o82).add o151) Tryz.func121 (Λ := Lam.nil) nF
def e154 : GEnt := entOf [.data true TSegment] [(false, .bool)] fun a => Pu.impl_SegmentOk a.1
theorem o154 : FnOk Tryz.prog 154 e154 := fk { merge := fun | 1 => some 18 | 5 => some 2 | 7 => some 2 | _ => none } ((base).add o82) Tryz.func154 (Λ := Lam.nil) nF
def e155 : GEnt := entOf [.data false (.int .i64)] [(false, .bool)] fun a => Pu.impl_streaming a.1
theorem o155 : FnOk Tryz.prog 155 e155 := fk { merge := fun | 1 => some 2 | _ => none } (base) Tryz.func155 (Λ := Lam.nil) nF
def e122 : GEnt := entOf [.data true TPacket] [(false, .bool)] fun a => Pu.impl_SuperOk a.1
theorem o122 : FnOk Tryz.prog 122 e122 := fk { merge := fun | 1 => some 2 | _ => none } ((((base).add o82).add o154).add o155) Tryz.func122 (Λ := Lam.nil) nF
def e83 : GEnt := entOf [.data true TRxQueue] [(false, .bool)] fun a => Pu.impl_RxOk a.1
theorem o83 : FnOk Tryz.prog 83 e83 := fk { merge := fun | 1 => some 42 | 5 => some 2 | _ => none } (((((base).add o82).add o119).add o121).add o122) Tryz.func83 (Λ := Lam.nil) nF
def e123 : GEnt := entOf [.data true TVector] [(false, .bool)] fun a => Pu.impl_due a.1
theorem o123 : FnOk Tryz.prog 123 e123 := fk { merge := fun | 1 => some 2 | _ => none } (base) Tryz.func123 (Λ := Lam.nil) nF
def e85 : GEnt := entOf [.data true TVector] [(false, .bool)] fun a => Pu.impl_VectorOk a.1
theorem o85 : FnOk Tryz.prog 85 e85 := fk { merge := fun | 1 => some 24 | 3 => some 2 | _ => none } (((base).add o82).add o123) Tryz.func85 (Λ := Lam.nil) nF
def e156 : GEnt := entOf [.data true TRule] [(false, .bool)] fun a => Pu.impl_RuleOk a.1
theorem o156 : FnOk Tryz.prog 156 e156 := fk { merge := fun | 1 => some 33 | 3 => some 54 | 5 => some 2 | _ => none } ((base).add o82) Tryz.func156 (Λ := Lam.nil) nF
def e124 : GEnt := entOf [.data false (.sl TRule)] [(false, .bool)] fun a => Pu.impl_RulesOk a.1
def g124 : Gam := (Gam.nil).add 156 e156
def n124 : An := { mask := fun | 2 => [0, 2, 5, 6, 7] | _ => [] }
@[reducible] def d124_2 : SD := ⟨[.data false (.sl .arg TRule),B,DB,B,B,.data false (.sl .arg TRule),DI,DI,B,B,B,B,B,B,B,B,B,B], [Z,Z,Z,Z,Z,Z,Z,Z,Z,Z,Z,Z,Z,Z,Z,Z,Z,Z], .none⟩
def t124_2 {R : Type} (X : SD.D d124_2) (K : Ex → AS → Option R) := Pu.impl_RulesOk_T2 (fun y0 => K (.exit 0) (SD.enc d124_2 ((X.1.1, (X.1.2.1, (X.1.2.2.1, (X.1.2.2.2.1, (y0, ()))))), (), ()))) (fun y0 y1 => K .ret (SD.enc d124_2 ((X.1.1, (y0, (X.1.2.2.1, (X.1.2.2.2.1, (y1, ()))))), (), ()))) X.1.1 X.1.2.1 X.1.2.2.1 X.1.2.2.2.1
def l124_2 : LEnt := ⟨d124_2, fun X K => iterL (t124_2 X K) fuel X.1.2.2.2.2.1⟩
def L124 : Lam := (Lam.nil).add 2 l124_2
theorem k124_2 : LOk E g124 n124 L124 (loopBody Tryz.f124 0) :=
  lok l124_2 (by kernel_rfl) fuel fun R X K => (loop_iter (σ := Int) (fun x => SD.enc d124_2 ((X.1.1, (X.1.2.1, (X.1.2.2.1, (X.1.2.2.2.1, (x, ()))))), (), ())) (t124_2 X K) (fun m x => by kernel_rfl) fuel X.1.2.2.2.2.1).symm
theorem o124 : FnOk Tryz.prog 124 e124 := fk n124 ((base).add o156) Tryz.func124 (Λ := L124) (cF k124_2 nF)
def e157 : GEnt := entOf [.data true (.sl TSlot), .data true TFlow] [(false, (.int .i64))] fun a => Pu.impl_slotOf a.1 a.2.1
def g157 : Gam := Gam.nil
def n157 : An := { mask := fun | 2 => [3, 4, 8, 9, 10] | _ => [], merge := fun | 4 => some 23 | _ => none }
@[reducible] def d157_2 : SD := ⟨[B,B,B,.ptr 3 0,DI,B,B,B,.data false (.sl .arg TSlot),DI,DI,B,B,B,B,B,B,B,B,B,B,B,B,B,B,B], [Z,Z,Z,some (.pair (.int .i64) (.pair (.int .i64) (.pair (.int .i64) (.pair (.int .i64) (.int .i64))))),Z,Z,Z,Z,Z,Z,Z,Z,Z,Z,Z,Z,Z,Z,Z,Z,Z,Z,Z,Z,Z,Z], .none⟩
def t157_2 {R : Type} (X : SD.D d157_2) (K : Ex → AS → Option R) := Pu.impl_slotOf_T2 (fun y0 => K (.exit 0) (SD.enc d157_2 ((X.1.1, (X.1.2.1, (X.1.2.2.1, (y0, ())))), (X.2.1.1, ()), ()))) (fun y0 y1 => K .ret (SD.enc d157_2 ((y0, (X.1.2.1, (X.1.2.2.1, (y1, ())))), (X.2.1.1, ()), ()))) X.1.1 X.1.2.1 X.1.2.2.1 X.2.1.1
def l157_2 : LEnt := ⟨d157_2, fun X K => iterL (t157_2 X K) fuel X.1.2.2.2.1⟩
def L157 : Lam := (Lam.nil).add 2 l157_2
theorem k157_2 : LOk E g157 n157 L157 (loopBody Tryz.f157 0) :=
  lok l157_2 (by kernel_rfl) fuel fun R X K => (loop_iter (σ := Int) (fun x => SD.enc d157_2 ((X.1.1, (X.1.2.1, (X.1.2.2.1, (x, ())))), (X.2.1.1, ()), ())) (t157_2 X K) (fun m x => by kernel_rfl) fuel X.1.2.2.2.1).symm
theorem o157 : FnOk Tryz.prog 157 e157 := fk n157 (base) Tryz.func157 (Λ := L157) (cF k157_2 nF)
def e174 : GEnt := entOf [.data true TFlow] [(false, (.int .i64))] fun a => Pu.impl_HomeSlot a.1
def g174 : Gam := (Gam.nil).add 172 e172
def n174 : An := { mask := fun | 3 => [3, 16, 17, 18] | _ => [] }
@[reducible] def d174_3 : SD := ⟨[B,B,B,DI,B,B,B,B,B,B,B,B,B,B,B,B,.data false (.sl (.own (some 196608)) (.int .i64)),DI,DI,B,B,B,B,B,B,B,B,B,B], [Z,Z,Z,Z,Z,Z,Z,Z,Z,Z,Z,Z,Z,Z,Z,Z,Z,Z,Z,Z,Z,Z,Z,Z,Z,Z,Z,Z,Z], .none⟩
def t174_3 {R : Type} (X : SD.D d174_3) (K : Ex → AS → Option R) := Pu.impl_HomeSlot_T3 (fun y0 y1 => K (.exit 0) (SD.enc d174_3 ((y0, (X.1.2.1, (X.1.2.2.1, (y1, ())))), (), ()))) X.1.2.1 X.1.2.2.1
def l174_3 : LEnt := ⟨d174_3, fun X K => iterL (t174_3 X K) fuel (X.1.1, X.1.2.2.2.1)⟩
def L174 : Lam := (Lam.nil).add 3 l174_3
theorem k174_3 : LOk E g174 n174 L174 (loopBody Tryz.f174 0) :=
  lok l174_3 (by kernel_rfl) fuel fun R X K => (loop_iter (σ := Int × Int) (fun x => SD.enc d174_3 ((x.1, (X.1.2.1, (X.1.2.2.1, (x.2, ())))), (), ())) (t174_3 X K) (fun m x => by kernel_rfl) fuel (X.1.1, X.1.2.2.2.1)).symm
theorem o174 : FnOk Tryz.prog 174 e174 := fk n174 ((base).add o172) Tryz.func174 (Λ := L174) (cF k174_3 nF)
def e158 : GEnt := entOf [.data true TFlow] [(false, (.sl (.own none) (.int .i64)))] fun a => Pu.impl_wayOf a.1
def g158 : Gam := (Gam.nil).add 174 e174
def n158 : An := { mask := fun | 3 => [1, 3, 4] | _ => [], mv := [10, 18] }
@[reducible] def d158_3 : SD := ⟨[B,.ptr 1 0,B,.data false (.sl (.own (some 36864)) (.int .i64)),DI,B,B,B,B,B,B,B,B,B,B,B,B,B,B], [Z,some (.pair (.int .i64) (.pair (.int .i64) (.pair (.int .i64) (.pair (.int .i64) (.int .i64))))),Z,Z,Z,Z,Z,Z,Z,Z,Z,Z,Z,Z,Z,Z,Z,Z,Z], .none⟩
def t158_3 {R : Type} (X : SD.D d158_3) (K : Ex → AS → Option R) := Pu.impl_wayOf_T3 (fun y0 y1 => K (.exit 0) (SD.enc d158_3 ((y0, (y1, ())), (X.2.1.1, ()), ()))) X.2.1.1
def l158_3 : LEnt := ⟨d158_3, fun X K => iterL (t158_3 X K) fuel (X.1.1, X.1.2.1)⟩
def L158 : Lam := (Lam.nil).add 3 l158_3
theorem k158_3 : LOk E g158 n158 L158 (loopBody Tryz.f158 0) :=
  lok l158_3 (by kernel_rfl) fuel fun R X K => (loop_iter (σ := (List Int) × Int) (fun x => SD.enc d158_3 ((x.1, (x.2, ())), (X.2.1.1, ()), ())) (t158_3 X K) (fun m x => by kernel_rfl) fuel (X.1.1, X.1.2.1)).symm
theorem o158 : FnOk Tryz.prog 158 e158 := fk n158 ((base).add o174) Tryz.func158 (Λ := L158) (cF k158_3 nF)
def e125 : GEnt := entOf [.data true (.sl TSlot)] [(false, .bool)] fun a => Pu.impl_TableOk a.1
def g125 : Gam := (((Gam.nil).add 82 e82).add 157 e157).add 158 e158
def n125 : An := { mask := fun | 4 => [1, 2, 12, 13, 14] | 14 => [1, 2, 3, 12, 13, 14, 49, 50, 51] | _ => [], merge := fun | 6 => some 28 | 9 => some 40 | _ => none }
@[reducible] def d125_14 : SD := ⟨[B,.ptr 1 0,DB,DI,B,B,B,B,B,B,B,B,.data false (.sl .arg TSlot),DI,DI,B,B,B,B,B,B,B,B,B,B,B,B,B,B,B,B,B,B,B,B,B,B,B,B,B,B,B,B,B,B,B,B,B,B,.data false (.sl (.own (some 602112)) (.int .i64)),DI,DI,B,B,B,B,B,B,B,B,B,B,B,B,B,B,B], [Z,some (.sl .arg TSlot),Z,Z,Z,Z,Z,Z,Z,Z,Z,Z,Z,Z,Z,Z,Z,Z,Z,Z,Z,Z,Z,Z,Z,Z,Z,Z,Z,Z,Z,Z,Z,Z,Z,Z,Z,Z,Z,Z,Z,Z,Z,Z,Z,Z,Z,Z,Z,Z,Z,Z,Z,Z,Z,Z,Z,Z,Z,Z,Z,Z,Z,Z,Z,Z,Z], .none⟩
def t125_14 {R : Type} (X : SD.D d125_14) (K : Ex → AS → Option R) := Pu.impl_TableOk_T14 (fun y0 => K (.exit 2) (SD.enc d125_14 ((X.1.1, (X.1.2.1, (X.1.2.2.1, (X.1.2.2.2.1, (X.1.2.2.2.2.1, (X.1.2.2.2.2.2.1, (X.1.2.2.2.2.2.2.1, (y0, ())))))))), (X.2.1.1, ()), ()))) (fun y0 y1 => K .ret (SD.enc d125_14 ((y0, (X.1.2.1, (X.1.2.2.1, (X.1.2.2.2.1, (X.1.2.2.2.2.1, (X.1.2.2.2.2.2.1, (X.1.2.2.2.2.2.2.1, (y1, ())))))))), (X.2.1.1, ()), ()))) X.1.1 X.1.2.1 X.1.2.2.1 X.1.2.2.2.1 X.1.2.2.2.2.1 X.1.2.2.2.2.2.1 X.1.2.2.2.2.2.2.1 X.2.1.1
def l125_14 : LEnt := ⟨d125_14, fun X K => iterL (t125_14 X K) fuel X.1.2.2.2.2.2.2.2.1⟩
@[reducible] def d125_4 : SD := ⟨[B,.ptr 1 0,DB,B,B,B,B,B,B,B,B,B,.data false (.sl .arg TSlot),DI,DI,B,B,B,B,B,B,B,B,B,B,B,B,B,B,B,B,B,B,B,B,B,B,B,B,B,B,B,B,B,B,B,B,B,B,B,B,B,B,B,B,B,B,B,B,B,B,B,B,B,B,B,B], [Z,some (.sl .arg TSlot),Z,Z,Z,Z,Z,Z,Z,Z,Z,Z,Z,Z,Z,Z,Z,Z,Z,Z,Z,Z,Z,Z,Z,Z,Z,Z,Z,Z,Z,Z,Z,Z,Z,Z,Z,Z,Z,Z,Z,Z,Z,Z,Z,Z,Z,Z,Z,Z,Z,Z,Z,Z,Z,Z,Z,Z,Z,Z,Z,Z,Z,Z,Z,Z,Z], .none⟩
def t125_4 {R : Type} (X : SD.D d125_4) (K : Ex → AS → Option R) := Pu.impl_TableOk_T4 (fun y0 => K (.exit 0) (SD.enc d125_4 ((X.1.1, (X.1.2.1, (X.1.2.2.1, (y0, ())))), (X.2.1.1, ()), ()))) (fun y0 y1 => K .ret (SD.enc d125_4 ((y0, (X.1.2.1, (X.1.2.2.1, (y1, ())))), (X.2.1.1, ()), ()))) X.1.1 X.1.2.1 X.1.2.2.1 X.2.1.1
def l125_4 : LEnt := ⟨d125_4, fun X K => iterL (t125_4 X K) fuel X.1.2.2.2.1⟩
def L125 : Lam := ((Lam.nil).add 14 l125_14).add 4 l125_4
theorem k125_14 : LOk E g125 n125 L125 (loopBody Tryz.f125 1) :=
  lok l125_14 (by kernel_rfl) fuel fun R X K => (loop_iter (σ := Int) (fun x => SD.enc d125_14 ((X.1.1, (X.1.2.1, (X.1.2.2.1, (X.1.2.2.2.1, (X.1.2.2.2.2.1, (X.1.2.2.2.2.2.1, (X.1.2.2.2.2.2.2.1, (x, ())))))))), (X.2.1.1, ()), ())) (t125_14 X K) (fun m x => by kernel_rfl) fuel X.1.2.2.2.2.2.2.2.1).symm
theorem k125_4 : LOk E g125 n125 L125 (loopBody Tryz.f125 0) :=
  lok l125_4 (by kernel_rfl) fuel fun R X K => (loop_iter (σ := Int) (fun x => SD.enc d125_4 ((X.1.1, (X.1.2.1, (X.1.2.2.1, (x, ())))), (X.2.1.1, ()), ())) (t125_4 X K) (fun m x => by kernel_rfl) fuel X.1.2.2.2.1).symm
theorem o125 : FnOk Tryz.prog 125 e125 := fk n125 ((((base).add o82).add o157).add o158) Tryz.func125 (Λ := L125) (cF k125_4 (cF k125_14 nF))
def e159 : GEnt := entOf [.data false (.int .i64)] [(false, .bool)] fun a => Pu.impl_tableSize a.1
theorem o159 : FnOk Tryz.prog 159 e159 := fk { merge := fun | 1 => some 2 | _ => none } (base) Tryz.func159 (Λ := Lam.nil) nF
def e126 : GEnt := entOf [.data true TSpread, .data false (.int .i64)] [(false, .bool)] fun a => Pu.impl_SpreadOk a.1 a.2.1
def g126 : Gam := ((Gam.nil).add 82 e82).add 159 e159
def n126 : An := { mask := fun | 4 => [1, 4, 24, 25, 26] | _ => [], merge := fun | 1 => some 22 | _ => none }
@[reducible] def d126_4 : SD := ⟨[B,DI,B,B,DB,B,B,B,B,B,B,B,B,B,B,B,B,B,B,B,B,B,B,B,.data false (.sl .arg (.int .i64)),DI,DI,B,B,B,B,B,B,B,B,B], [Z,Z,Z,Z,Z,Z,Z,Z,Z,Z,Z,Z,Z,Z,Z,Z,Z,Z,Z,Z,Z,Z,Z,Z,Z,Z,Z,Z,Z,Z,Z,Z,Z,Z,Z,Z], .none⟩
def t126_4 {R : Type} (X : SD.D d126_4) (K : Ex → AS → Option R) := Pu.impl_SpreadOk_T4 (fun y0 => K (.exit 0) (SD.enc d126_4 ((X.1.1, (X.1.2.1, (X.1.2.2.1, (X.1.2.2.2.1, (y0, ()))))), (), ()))) (fun y0 y1 => K .ret (SD.enc d126_4 ((X.1.1, (y0, (X.1.2.2.1, (X.1.2.2.2.1, (y1, ()))))), (), ()))) X.1.1 X.1.2.1 X.1.2.2.1 X.1.2.2.2.1
def l126_4 : LEnt := ⟨d126_4, fun X K => iterL (t126_4 X K) fuel X.1.2.2.2.2.1⟩
def L126 : Lam := (Lam.nil).add 4 l126_4
theorem k126_4 : LOk E g126 n126 L126 (loopBody Tryz.f126 0) :=
  lok l126_4 (by kernel_rfl) fuel fun R X K => (loop_iter (σ := Int) (fun x => SD.enc d126_4 ((X.1.1, (X.1.2.1, (X.1.2.2.1, (X.1.2.2.2.1, (x, ()))))), (), ())) (t126_4 X K) (fun m x => by kernel_rfl) fuel X.1.2.2.2.2.1).symm
theorem o126 : FnOk Tryz.prog 126 e126 := fk n126 (((base).add o82).add o159) Tryz.func126 (Λ := L126) (cF k126_4 nF)
def e86 : GEnt := entOf [.data true TSteering, .data false (.int .i64)] [(false, .bool)] fun a => Pu.impl_SteeringOk a.1 a.2.1
def g86 : Gam := (((Gam.nil).add 124 e124).add 125 e125).add 126 e126
def n86 : An := { mask := fun | 4 => [1, 2, 4, 27, 28, 29] | 10 => [1, 4, 45, 46, 47] | _ => [], merge := fun | 1 => some 25 | 6 => some 41 | 12 => some 59 | _ => none }
@[reducible] def d86_4 : SD := ⟨[B,DI,.ptr 2 0,B,DB,B,B,B,B,B,B,B,B,B,B,B,B,B,B,B,B,B,B,B,B,B,B,.data false (.sl .arg TRule),DI,DI,B,B,B,B,B,B,B,B,B,B,B,B,B,B,B,B,B,B,B,B,B,B,B,B,B,B,B,B,B,B,B], [Z,Z,some (.pair (.sl .arg TRule) (.pair (.sl .arg TSlot) (.pair .str (.sl .arg (.int .i64))))),Z,Z,Z,Z,Z,Z,Z,Z,Z,Z,Z,Z,Z,Z,Z,Z,Z,Z,Z,Z,Z,Z,Z,Z,Z,Z,Z,Z,Z,Z,Z,Z,Z,Z,Z,Z,Z,Z,Z,Z,Z,Z,Z,Z,Z,Z,Z,Z,Z,Z,Z,Z,Z,Z,Z,Z,Z,Z], .none⟩
def t86_4 {R : Type} (X : SD.D d86_4) (K : Ex → AS → Option R) := Pu.impl_SteeringOk_T4 (fun y0 => K (.exit 0) (SD.enc d86_4 ((X.1.1, (X.1.2.1, (X.1.2.2.1, (X.1.2.2.2.1, (y0, ()))))), (X.2.1.1, ()), ()))) (fun y0 y1 => K .ret (SD.enc d86_4 ((X.1.1, (y0, (X.1.2.2.1, (X.1.2.2.2.1, (y1, ()))))), (X.2.1.1, ()), ()))) X.1.1 X.1.2.1 X.1.2.2.1 X.1.2.2.2.1 X.2.1.1
def l86_4 : LEnt := ⟨d86_4, fun X K => iterL (t86_4 X K) fuel X.1.2.2.2.2.1⟩
@[reducible] def d86_10 : SD := ⟨[B,DI,B,B,DB,B,B,B,B,B,B,B,B,B,B,B,B,B,B,B,B,B,B,B,B,B,B,B,B,B,B,B,B,B,B,B,B,B,B,B,B,B,B,B,B,.data false (.sl .arg TSlot),DI,DI,B,B,B,B,B,B,B,B,B,B,B,B,B], [Z,Z,Z,Z,Z,Z,Z,Z,Z,Z,Z,Z,Z,Z,Z,Z,Z,Z,Z,Z,Z,Z,Z,Z,Z,Z,Z,Z,Z,Z,Z,Z,Z,Z,Z,Z,Z,Z,Z,Z,Z,Z,Z,Z,Z,Z,Z,Z,Z,Z,Z,Z,Z,Z,Z,Z,Z,Z,Z,Z,Z], .none⟩
def t86_10 {R : Type} (X : SD.D d86_10) (K : Ex → AS → Option R) := Pu.impl_SteeringOk_T10 (fun y0 => K (.exit 2) (SD.enc d86_10 ((X.1.1, (X.1.2.1, (X.1.2.2.1, (X.1.2.2.2.1, (y0, ()))))), (), ()))) (fun y0 y1 => K .ret (SD.enc d86_10 ((X.1.1, (y0, (X.1.2.2.1, (X.1.2.2.2.1, (y1, ()))))), (), ()))) X.1.1 X.1.2.1 X.1.2.2.1 X.1.2.2.2.1
def l86_10 : LEnt := ⟨d86_10, fun X K => iterL (t86_10 X K) fuel X.1.2.2.2.2.1⟩
def L86 : Lam := ((Lam.nil).add 4 l86_4).add 10 l86_10
theorem k86_4 : LOk E g86 n86 L86 (loopBody Tryz.f86 0) :=
  lok l86_4 (by kernel_rfl) fuel fun R X K => (loop_iter (σ := Int) (fun x => SD.enc d86_4 ((X.1.1, (X.1.2.1, (X.1.2.2.1, (X.1.2.2.2.1, (x, ()))))), (X.2.1.1, ()), ())) (t86_4 X K) (fun m x => by kernel_rfl) fuel X.1.2.2.2.2.1).symm
theorem k86_10 : LOk E g86 n86 L86 (loopBody Tryz.f86 1) :=
  lok l86_10 (by kernel_rfl) fuel fun R X K => (loop_iter (σ := Int) (fun x => SD.enc d86_10 ((X.1.1, (X.1.2.1, (X.1.2.2.1, (X.1.2.2.2.1, (x, ()))))), (), ())) (t86_10 X K) (fun m x => by kernel_rfl) fuel X.1.2.2.2.2.1).symm
theorem o86 : FnOk Tryz.prog 86 e86 := fk n86 ((((base).add o124).add o125).add o126) Tryz.func86 (Λ := L86) (cF k86_4 (cF k86_10 nF))
def e36 : GEnt := entOf [.data true THost] [(false, .bool)] fun a => Pu.impl_HostOk a.1
def g36 : Gam := (((((((((Gam.nil).add 78 e78).add 79 e79).add 80 e80).add 81 e81).add 82 e82).add 83 e83).add 84 e84).add 85 e85).add 86 e86
def n36 : An := { mask := fun | 5 => [1, 2, 3, 61, 62] | 12 => [1, 2, 3, 103, 104, 105] | _ => [], merge := fun | 2 => some 58 | 7 => some 89 | _ => none }
@[reducible] def d36_5 : SD := ⟨[B,.ptr 1 0,DB,DI,B,B,B,B,B,B,B,B,B,B,B,B,B,B,B,B,B,B,B,B,B,B,B,B,B,B,B,B,B,B,B,B,B,B,B,B,B,B,B,B,B,B,B,B,B,B,B,B,B,B,B,B,B,B,B,B,B,DI,DI,B,B,B,B,B,B,B,B,B,B,B,B,B,B,B,B,B,B,B,B,B,B,B,B,B,B,B,B,B,B,B,B,B,B,B,B,B,B,B,B,B,B,B,B,B,B,B,B,B,B,B,B,B,B], [Z,some (.pair (.sl .arg .str) (.pair (.sl .arg TMapping) (.pair (.pair (.pair (.int .i64) (.pair (.int .i64) (.pair (.int .i64) (.int .i64)))) (.pair (.pair (.int .i64) (.pair (.int .i64) (.pair (.int .i64) (.sl .arg (.int .i64))))) (.pair (.sl .arg TSent) (.int .i64)))) (.pair (.sl .arg TRxQueue) (.pair (.sl .arg TPool) (.pair (.sl .arg TVector) (.pair (.sl .arg .bool) (.pair (.pair (.int .i64) (.pair .bool (.sl .arg (.int .i64)))) (.pair (.pair (.sl .arg TRule) (.pair (.sl .arg TSlot) (.pair .str (.sl .arg (.int .i64))))) (.pair (.sl .arg TStream) (.pair .bool (.pair (.sl .arg .str) (.pair (.sl .arg (.int .i64)) (.pair (.sl .arg (.int .i64)) (.pair (.int .i64) (.pair (.int .i64) (.pair (.int .i64) (.pair (.int .i64) (.int .i64))))))))))))))))))),Z,Z,Z,Z,Z,Z,Z,Z,Z,Z,Z,Z,Z,Z,Z,Z,Z,Z,Z,Z,Z,Z,Z,Z,Z,Z,Z,Z,Z,Z,Z,Z,Z,Z,Z,Z,Z,Z,Z,Z,Z,Z,Z,Z,Z,Z,Z,Z,Z,Z,Z,Z,Z,Z,Z,Z,Z,Z,Z,Z,Z,Z,Z,Z,Z,Z,Z,Z,Z,Z,Z,Z,Z,Z,Z,Z,Z,Z,Z,Z,Z,Z,Z,Z,Z,Z,Z,Z,Z,Z,Z,Z,Z,Z,Z,Z,Z,Z,Z,Z,Z,Z,Z,Z,Z,Z,Z,Z,Z,Z,Z,Z,Z,Z,Z], .none⟩
def t36_5 {R : Type} (X : SD.D d36_5) (K : Ex → AS → Option R) := Pu.impl_HostOk_T5 (fun y0 => K (.exit 0) (SD.enc d36_5 ((X.1.1, (X.1.2.1, (X.1.2.2.1, (y0, ())))), (X.2.1.1, ()), ()))) (fun y0 y1 => K .ret (SD.enc d36_5 ((y0, (X.1.2.1, (X.1.2.2.1, (y1, ())))), (X.2.1.1, ()), ()))) X.1.1 X.1.2.1 X.1.2.2.1 X.2.1.1
def l36_5 : LEnt := ⟨d36_5, fun X K => iterL (t36_5 X K) fuel X.1.2.2.2.1⟩
@[reducible] def d36_12 : SD := ⟨[B,.ptr 1 0,DB,DI,B,B,B,B,B,B,B,B,B,B,B,B,B,B,B,B,B,B,B,B,B,B,B,B,B,B,B,B,B,B,B,B,B,B,B,B,B,B,B,B,B,B,B,B,B,B,B,B,B,B,B,B,B,B,B,B,B,B,B,B,B,B,B,B,B,B,B,B,B,B,B,B,B,B,B,B,B,B,B,B,B,B,B,B,B,B,B,B,B,B,B,B,B,B,B,B,B,B,B,.data false (.sl (.own (some 1265664)) (.int .i64)),DI,DI,B,B,B,B,B,B,B,B,B,B,B], [Z,some (.pair (.sl .arg .str) (.pair (.sl .arg TMapping) (.pair (.pair (.pair (.int .i64) (.pair (.int .i64) (.pair (.int .i64) (.int .i64)))) (.pair (.pair (.int .i64) (.pair (.int .i64) (.pair (.int .i64) (.sl .arg (.int .i64))))) (.pair (.sl .arg TSent) (.int .i64)))) (.pair (.sl .arg TRxQueue) (.pair (.sl .arg TPool) (.pair (.sl .arg TVector) (.pair (.sl .arg .bool) (.pair (.pair (.int .i64) (.pair .bool (.sl .arg (.int .i64)))) (.pair (.pair (.sl .arg TRule) (.pair (.sl .arg TSlot) (.pair .str (.sl .arg (.int .i64))))) (.pair (.sl .arg TStream) (.pair .bool (.pair (.sl .arg .str) (.pair (.sl .arg (.int .i64)) (.pair (.sl .arg (.int .i64)) (.pair (.int .i64) (.pair (.int .i64) (.pair (.int .i64) (.pair (.int .i64) (.int .i64))))))))))))))))))),Z,Z,Z,Z,Z,Z,Z,Z,Z,Z,Z,Z,Z,Z,Z,Z,Z,Z,Z,Z,Z,Z,Z,Z,Z,Z,Z,Z,Z,Z,Z,Z,Z,Z,Z,Z,Z,Z,Z,Z,Z,Z,Z,Z,Z,Z,Z,Z,Z,Z,Z,Z,Z,Z,Z,Z,Z,Z,Z,Z,Z,Z,Z,Z,Z,Z,Z,Z,Z,Z,Z,Z,Z,Z,Z,Z,Z,Z,Z,Z,Z,Z,Z,Z,Z,Z,Z,Z,Z,Z,Z,Z,Z,Z,Z,Z,Z,Z,Z,Z,Z,Z,Z,Z,Z,Z,Z,Z,Z,Z,Z,Z,Z,Z,Z], .none⟩
def t36_12 {R : Type} (X : SD.D d36_12) (K : Ex → AS → Option R) := Pu.impl_HostOk_T12 (fun y0 => K (.exit 2) (SD.enc d36_12 ((X.1.1, (X.1.2.1, (X.1.2.2.1, (X.1.2.2.2.1, (y0, ()))))), (X.2.1.1, ()), ()))) (fun y0 y1 => K .ret (SD.enc d36_12 ((y0, (X.1.2.1, (X.1.2.2.1, (X.1.2.2.2.1, (y1, ()))))), (X.2.1.1, ()), ()))) X.1.1 X.1.2.1 X.1.2.2.1 X.1.2.2.2.1 X.2.1.1
def l36_12 : LEnt := ⟨d36_12, fun X K => iterL (t36_12 X K) fuel X.1.2.2.2.2.1⟩
def L36 : Lam := ((Lam.nil).add 5 l36_5).add 12 l36_12
theorem k36_5 : LOk E g36 n36 L36 (loopBody Tryz.f36 0) :=
  lok l36_5 (by kernel_rfl) fuel fun R X K => (loop_iter (σ := Int) (fun x => SD.enc d36_5 ((X.1.1, (X.1.2.1, (X.1.2.2.1, (x, ())))), (X.2.1.1, ()), ())) (t36_5 X K) (fun m x => by kernel_rfl) fuel X.1.2.2.2.1).symm
theorem k36_12 : LOk E g36 n36 L36 (loopBody Tryz.f36 1) :=
  lok l36_12 (by kernel_rfl) fuel fun R X K => (loop_iter (σ := Int) (fun x => SD.enc d36_12 ((X.1.1, (X.1.2.1, (X.1.2.2.1, (X.1.2.2.2.1, (x, ()))))), (X.2.1.1, ()), ())) (t36_12 X K) (fun m x => by kernel_rfl) fuel X.1.2.2.2.2.1).symm
theorem o36 : FnOk Tryz.prog 36 e36 := fk n36 ((((((((((base).add o78).add o79).add o80).add o81).add o82).add o83).add o84).add o85).add o86) Tryz.func36 (Λ := L36) (cF k36_5 (cF k36_12 nF))
def e175 : GEnt := entOf [.data false (.sl TMapping), .data false (.int .i64), .data false (.int .i64), .data false .bool] [(false, (.int .i64))] fun a => Pu.impl_place a.1 a.2.1 a.2.2.1 a.2.2.2.1
theorem o175 : FnOk Tryz.prog 175 e175 := fk { merge := fun | 4 => some 29 | _ => none } ((base).add o118) Tryz.func175 (Λ := Lam.nil) nF
def e176 : GEnt := entOf [.data true (.sl .str), .data false (.int .i64), .data false (.int .i64)] [(false, .bool)] fun a => Pu.impl_within a.1 a.2.1 a.2.2.1
theorem o176 : FnOk Tryz.prog 176 e176 := fk { merge := fun | 2 => some 6 | _ => none } ((base).add o78) Tryz.func176 (Λ := Lam.nil) nF
def e160 : GEnt := entOf [.data false (.sl TMapping), .data true (.sl .str), .data false (.int .i64), .data false (.int .i64), .data false (.int .i64), .data false .bool] [(false, (.sl (.own none) (.pair (.int .i64) (.int .i64)))), (false, .bool)] fun a => Pu.impl_runsOf a.1 a.2.1 a.2.2.1 a.2.2.2.1 a.2.2.2.2.1 a.2.2.2.2.2.1
def g160 : Gam := (((((Gam.nil).add 78 e78).add 79 e79).add 82 e82).add 175 e175).add 176 e176
def n160 : An := { mask := fun | 8 => [0, 2, 3, 4, 5, 7, 12, 13, 14] | _ => [], merge := fun | 1 => some 29 | 11 => some 55 | 16 => some 73 | _ => none, mv := [56, 74] }
@[reducible] def d160_8 : SD := ⟨[.data false (.sl .arg TMapping),B,DI,DI,DI,DB,B,.ptr 7 0,B,B,B,B,.data false (.sl (.own (some 147456)) (.pair (.int .i64) (.int .i64))),DB,.data false (.sl (.own (some 172032)) (.pair (.int .i64) (.int .i64))),B,B,B,B,B,B,B,B,B,B,B,B,B,B,B,B,B,B,B,B,B,B,B,B,B,B,B,B,B,B,B,B,B,B,B,B,B,B,B,B,B,B,B,B,B,B,B,B,B,B,B,B,B,B,B,B,B,B,B,B], [Z,Z,Z,Z,Z,Z,Z,some (.sl .arg .str),Z,Z,Z,Z,Z,Z,Z,Z,Z,Z,Z,Z,Z,Z,Z,Z,Z,Z,Z,Z,Z,Z,Z,Z,Z,Z,Z,Z,Z,Z,Z,Z,Z,Z,Z,Z,Z,Z,Z,Z,Z,Z,Z,Z,Z,Z,Z,Z,Z,Z,Z,Z,Z,Z,Z,Z,Z,Z,Z,Z,Z,Z,Z,Z,Z,Z,Z], .none⟩
def t160_8 {R : Type} (X : SD.D d160_8) (K : Ex → AS → Option R) := Pu.impl_runsOf_T8 (fun y0 y1 y2 => K (.exit 0) (SD.enc d160_8 ((X.1.1, (X.1.2.1, (y0, (y1, (X.1.2.2.2.2.1, (X.1.2.2.2.2.2.1, (X.1.2.2.2.2.2.2.1, (y2, ())))))))), (X.2.1.1, ()), ()))) (fun y0 y1 y2 y3 y4 => K .ret (SD.enc d160_8 ((X.1.1, (X.1.2.1, (y0, (y1, (X.1.2.2.2.2.1, (y2, (y3, (y4, ())))))))), (X.2.1.1, ()), ()))) X.1.1 X.1.2.1 X.1.2.2.2.2.1 X.1.2.2.2.2.2.1 X.1.2.2.2.2.2.2.1 X.2.1.1
def l160_8 : LEnt := ⟨d160_8, fun X K => iterL (t160_8 X K) fuel (X.1.2.2.1, X.1.2.2.2.1, X.1.2.2.2.2.2.2.2.1)⟩
def L160 : Lam := (Lam.nil).add 8 l160_8
theorem k160_8 : LOk E g160 n160 L160 (loopBody Tryz.f160 0) :=
  lok l160_8 (by kernel_rfl) fuel fun R X K => (loop_iter (σ := Int × Int × List (Int × Int)) (fun x => SD.enc d160_8 ((X.1.1, (X.1.2.1, (x.1, (x.2.1, (X.1.2.2.2.2.1, (X.1.2.2.2.2.2.1, (X.1.2.2.2.2.2.2.1, (x.2.2, ())))))))), (X.2.1.1, ()), ())) (t160_8 X K) (fun m x => by kernel_rfl) fuel (X.1.2.2.1, X.1.2.2.2.1, X.1.2.2.2.2.2.2.2.1)).symm
theorem o160 : FnOk Tryz.prog 160 e160 := fk n160 ((((((base).add o78).add o79).add o82).add o175).add o176) Tryz.func160 (Λ := L160) (cF k160_8 nF)
def e161 : GEnt := entOf [.data true (.sl .str), .data false (.int .i64), .data false (.int .i64)] [(false, .str), (false, .bool)] fun a => Pu.impl_ReadMemory a.1 a.2.1 a.2.2.1
def g161 : Gam := (Gam.nil).add 176 e176
def n161 : An := { mask := fun | 4 => [1, 2, 3, 8] | _ => [], mv := [41] }
@[reducible] def d161_4 : SD := ⟨[B,DI,DI,.ptr 3 0,B,B,B,B,.data false (.sl (.own (some 98304)) (.int .u8)),B,B,B,B,B,B,B,B,B,B,B,B,B,B,B,B,B,B,B,B,B,B,B,B,B,B,B,B,B,B,B,B,B,B,B,B,B,B,B,B,B], [Z,Z,Z,some (.sl .arg .str),Z,Z,Z,Z,Z,Z,Z,Z,Z,Z,Z,Z,Z,Z,Z,Z,Z,Z,Z,Z,Z,Z,Z,Z,Z,Z,Z,Z,Z,Z,Z,Z,Z,Z,Z,Z,Z,Z,Z,Z,Z,Z,Z,Z,Z,Z], .none⟩
def t161_4 {R : Type} (X : SD.D d161_4) (K : Ex → AS → Option R) := Pu.impl_ReadMemory_T4 (fun y0 y1 => K (.exit 0) (SD.enc d161_4 ((y0, (X.1.2.1, (y1, ()))), (X.2.1.1, ()), ()))) X.1.2.1 X.2.1.1
def l161_4 : LEnt := ⟨d161_4, fun X K => iterL (t161_4 X K) fuel (X.1.1, X.1.2.2.1)⟩
def L161 : Lam := (Lam.nil).add 4 l161_4
theorem k161_4 : LOk E g161 n161 L161 (loopBody Tryz.f161 0) :=
  lok l161_4 (by kernel_rfl) fuel fun R X K => (loop_iter (σ := Int × List Int) (fun x => SD.enc d161_4 ((x.1, (X.1.2.1, (x.2, ()))), (X.2.1.1, ()), ())) (t161_4 X K) (fun m x => by kernel_rfl) fuel (X.1.1, X.1.2.2.1)).symm
theorem o161 : FnOk Tryz.prog 161 e161 := fk n161 ((base).add o176) Tryz.func161 (Λ := L161) (cF k161_4 nF)
def e127 : GEnt := entOf [.data false (.sl TMapping), .data true (.sl .str), .data false (.int .i64), .data false (.int .i64), .data false (.int .i64)] [(false, .str), (false, .bool)] fun a => Pu.impl_DmaRead a.1 a.2.1 a.2.2.1 a.2.2.2.1 a.2.2.2.2.1
def g127 : Gam := ((Gam.nil).add 160 e160).add 161 e161
def n127 : An := { mask := fun | 6 => [6, 14, 30, 31, 32] | _ => [] }
@[reducible] def d127_6 : SD := ⟨[B,B,B,B,B,B,.ptr 6 0,B,B,B,B,B,B,B,.data false .str,B,B,B,B,B,B,B,B,B,B,B,B,B,B,B,.data false (.sl .loc (.pair (.int .i64) (.int .i64))),DI,DI,B,B,B,B,B,B,B,B,B,B,B,B,B,B,B,B,B], [Z,Z,Z,Z,Z,Z,some (.sl .arg .str),Z,Z,Z,Z,Z,Z,Z,Z,Z,Z,Z,Z,Z,Z,Z,Z,Z,Z,Z,Z,Z,Z,Z,Z,Z,Z,Z,Z,Z,Z,Z,Z,Z,Z,Z,Z,Z,Z,Z,Z,Z,Z,Z], .none⟩
def t127_6 {R : Type} (X : SD.D d127_6) (K : Ex → AS → Option R) := Pu.impl_DmaRead_T6 (fun y0 y1 => K (.exit 0) (SD.enc d127_6 ((y0, (X.1.2.1, (X.1.2.2.1, (y1, ())))), (X.2.1.1, ()), ()))) X.1.2.1 X.1.2.2.1 X.2.1.1
def l127_6 : LEnt := ⟨d127_6, fun X K => iterL (t127_6 X K) fuel (X.1.1, X.1.2.2.2.1)⟩
def L127 : Lam := (Lam.nil).add 6 l127_6
theorem k127_6 : LOk E g127 n127 L127 (loopBody Tryz.f127 0) :=
  lok l127_6 (by kernel_rfl) fuel fun R X K => (loop_iter (σ := Pu.Bytes × Int) (fun x => SD.enc d127_6 ((x.1, (X.1.2.1, (X.1.2.2.1, (x.2, ())))), (X.2.1.1, ()), ())) (t127_6 X K) (fun m x => by kernel_rfl) fuel (X.1.1, X.1.2.2.2.1)).symm
theorem o127 : FnOk Tryz.prog 127 e127 := fk n127 (((base).add o160).add o161) Tryz.func127 (Λ := L127) (cF k127_6 nF)
def e128 : GEnt := entOf [.data true TCompletionQueue] [(false, (.int .i64))] fun a => Pu.impl_slotOfCount a.1
theorem o128 : FnOk Tryz.prog 128 e128 := fk {} (base) Tryz.func128 (Λ := Lam.nil) nF
def e162 : GEnt := entOf [.data false .str, .data false (.int .i64)] [(false, (.int .i64))] fun a => Pu.impl_Get16 a.1 a.2.1
theorem o162 : FnOk Tryz.prog 162 e162 := fk { merge := fun | 1 => some 13 | _ => none } (base) Tryz.func162 (Λ := Lam.nil) nF
def e163 : GEnt := entOf [.data false .str, .data false (.int .i64)] [(false, (.int .i64))] fun a => Pu.impl_Get32 a.1 a.2.1
theorem o163 : FnOk Tryz.prog 163 e163 := fk { merge := fun | 1 => some 13 | _ => none } (base) Tryz.func163 (Λ := Lam.nil) nF
def e129 : GEnt := entOf [.data false .str] [(true, (.pair (.int .i64) (.pair (.int .i64) (.pair (.int .i64) (.pair (.int .i64) (.int .i64)))))), (false, (.int .i64)), (false, .bool)] fun a => Pu.impl_DecodeCompletion a.1
theorem o129 : FnOk Tryz.prog 129 e129 := fk {} (((base).add o162).add o163) Tryz.func129 (Λ := Lam.nil) nF
def e130 : GEnt := entOf [.data true TCompletionQueue] [(false, (.int .i64))] fun a => Pu.impl_phaseOf a.1
theorem o130 : FnOk Tryz.prog 130 e130 := fk {} (base) Tryz.func130 (Λ := Lam.nil) nF
def e87 : GEnt := entOf [.data false (.sl TMapping), .data true (.sl .str), .data false (.int .i64), .data true TCompletionQueue] [(true, (.pair (.int .i64) (.pair (.int .i64) (.pair (.int .i64) (.pair (.int .i64) (.int .i64)))))), (true, (.pair (.int .i64) (.pair (.int .i64) (.int .i64)))), (false, .bool)] fun a => Pu.impl_NextCompletion a.1 a.2.1 a.2.2.1 a.2.2.2.1
theorem o87 : FnOk Tryz.prog 87 e87 := fk { merge := fun | 7 => some 46 | _ => none, sb := fun | 8 => some 8 | 9 => some 9 | _ => none } ((((((base).add o121).add o127).add o128).add o129).add o130) Tryz.func87 (Λ := Lam.nil) nF
def e37 : GEnt := entOf [.data false (.sl TMapping), .data true (.sl .str), .data false (.int .i64), .data true TRxQueue] [(false, .bool)] fun a => Pu.impl_HasCompletion a.1 a.2.1 a.2.2.1 a.2.2.2.1
theorem o37 : FnOk Tryz.prog 37 e37 := fk {} (((base).add o83).add o87) Tryz.func37 (Λ := Lam.nil) nF
def e7 : GEnt := entOf [.data true THost] [(false, .bool)] fun a => Pu.impl_IsQuiet a.1
def g7 : Gam := ((Gam.nil).add 36 e36).add 37 e37
def n7 : An := { mask := fun | 4 => [1, 2, 16, 17, 18] | _ => [], merge := fun | 1 => some 14 | 6 => some 31 | _ => none }
@[reducible] def d7_4 : SD := ⟨[B,.ptr 1 0,DB,B,B,B,B,B,B,B,B,B,B,B,B,B,.data false (.sl .arg TRxQueue),DI,DI,B,B,B,B,B,B,B,B,B,B,B,B,B,B], [Z,some (.pair (.sl .arg .str) (.pair (.sl .arg TMapping) (.pair (.pair (.pair (.int .i64) (.pair (.int .i64) (.pair (.int .i64) (.int .i64)))) (.pair (.pair (.int .i64) (.pair (.int .i64) (.pair (.int .i64) (.sl .arg (.int .i64))))) (.pair (.sl .arg TSent) (.int .i64)))) (.pair (.sl .arg TRxQueue) (.pair (.sl .arg TPool) (.pair (.sl .arg TVector) (.pair (.sl .arg .bool) (.pair (.pair (.int .i64) (.pair .bool (.sl .arg (.int .i64)))) (.pair (.pair (.sl .arg TRule) (.pair (.sl .arg TSlot) (.pair .str (.sl .arg (.int .i64))))) (.pair (.sl .arg TStream) (.pair .bool (.pair (.sl .arg .str) (.pair (.sl .arg (.int .i64)) (.pair (.sl .arg (.int .i64)) (.pair (.int .i64) (.pair (.int .i64) (.pair (.int .i64) (.pair (.int .i64) (.int .i64))))))))))))))))))),Z,Z,Z,Z,Z,Z,Z,Z,Z,Z,Z,Z,Z,Z,Z,Z,Z,Z,Z,Z,Z,Z,Z,Z,Z,Z,Z,Z,Z,Z,Z], .none⟩
def t7_4 {R : Type} (X : SD.D d7_4) (K : Ex → AS → Option R) := Pu.impl_IsQuiet_T4 (fun y0 => K (.exit 0) (SD.enc d7_4 ((X.1.1, (X.1.2.1, (X.1.2.2.1, (y0, ())))), (X.2.1.1, ()), ()))) (fun y0 y1 => K .ret (SD.enc d7_4 ((y0, (X.1.2.1, (X.1.2.2.1, (y1, ())))), (X.2.1.1, ()), ()))) X.1.1 X.1.2.1 X.1.2.2.1 X.2.1.1
def l7_4 : LEnt := ⟨d7_4, fun X K => iterL (t7_4 X K) fuel X.1.2.2.2.1⟩
def L7 : Lam := (Lam.nil).add 4 l7_4
theorem k7_4 : LOk E g7 n7 L7 (loopBody Tryz.f7 0) :=
  lok l7_4 (by kernel_rfl) fuel fun R X K => (loop_iter (σ := Int) (fun x => SD.enc d7_4 ((X.1.1, (X.1.2.1, (X.1.2.2.1, (x, ())))), (X.2.1.1, ()), ())) (t7_4 X K) (fun m x => by kernel_rfl) fuel X.1.2.2.2.1).symm
theorem o7 : FnOk Tryz.prog 7 e7 := fk n7 (((base).add o36).add o37) Tryz.func7 (Λ := L7) (cF k7_4 nF)
def e48 : GEnt := entOf [.data false (.sl .str), .data false (.sl .str)] [(false, .bool)] fun a => Pu.laws_eqStringS a.1 a.2.1
def g48 : Gam := Gam.nil
def n48 : An := { mask := fun | 4 => [0, 1, 4, 5] | _ => [] }
@[reducible] def d48_4 : SD := ⟨[.data false (.sl .arg .str),.data false (.sl .arg .str),B,B,DB,DI,B,B,B,B,B,B,B,B,B,B,B,B,B,B,B,B,B,B,B,B], [Z,Z,Z,Z,Z,Z,Z,Z,Z,Z,Z,Z,Z,Z,Z,Z,Z,Z,Z,Z,Z,Z,Z,Z,Z,Z], .none⟩
def t48_4 {R : Type} (X : SD.D d48_4) (K : Ex → AS → Option R) := Pu.laws_eqStringS_T4 (fun y0 => K (.exit 0) (SD.enc d48_4 ((X.1.1, (X.1.2.1, (X.1.2.2.1, (y0, ())))), (), ()))) (fun y0 y1 => K .ret (SD.enc d48_4 ((X.1.1, (X.1.2.1, (y0, (y1, ())))), (), ()))) X.1.1 X.1.2.1 X.1.2.2.1
def l48_4 : LEnt := ⟨d48_4, fun X K => iterL (t48_4 X K) fuel X.1.2.2.2.1⟩
def L48 : Lam := (Lam.nil).add 4 l48_4
theorem k48_4 : LOk E g48 n48 L48 (loopBody Tryz.f48 0) :=
  lok l48_4 (by kernel_rfl) fuel fun R X K => (loop_iter (σ := Int) (fun x => SD.enc d48_4 ((X.1.1, (X.1.2.1, (X.1.2.2.1, (x, ())))), (), ())) (t48_4 X K) (fun m x => by kernel_rfl) fuel X.1.2.2.2.1).symm
theorem o48 : FnOk Tryz.prog 48 e48 := fk n48 (base) Tryz.func48 (Λ := L48) (cF k48_4 nF)
def e38 : GEnt := entOf [.data true (.sl .str), .data true (.sl .str)] [(false, .bool)] fun a => Pu.laws_eqMemory a.1 a.2.1
theorem o38 : FnOk Tryz.prog 38 e38 := fk {} ((base).add o48) Tryz.func38 (Λ := Lam.nil) nF
def e88 : GEnt := entOf [.data true TMapping, .data true TMapping] [(false, .bool)] fun a => Pu.laws_eqMapping a.1 a.2.1
theorem o88 : FnOk Tryz.prog 88 e88 := fk {} (base) Tryz.func88 (Λ := Lam.nil) nF
def e39 : GEnt := entOf [.data false (.sl TMapping), .data false (.sl TMapping)] [(false, .bool)] fun a => Pu.laws_eqMappingS a.1 a.2.1
def g39 : Gam := (Gam.nil).add 88 e88
def n39 : An := { mask := fun | 4 => [0, 1, 4, 5] | _ => [] }
@[reducible] def d39_4 : SD := ⟨[.data false (.sl .arg TMapping),.data false (.sl .arg TMapping),B,B,DB,DI,B,B,B,B,B,B,B,B,B,B,B,B,B,B,B,B,B,B,B,B,B], [Z,Z,Z,Z,Z,Z,Z,Z,Z,Z,Z,Z,Z,Z,Z,Z,Z,Z,Z,Z,Z,Z,Z,Z,Z,Z,Z], .none⟩
def t39_4 {R : Type} (X : SD.D d39_4) (K : Ex → AS → Option R) := Pu.laws_eqMappingS_T4 (fun y0 => K (.exit 0) (SD.enc d39_4 ((X.1.1, (X.1.2.1, (X.1.2.2.1, (y0, ())))), (), ()))) (fun y0 y1 => K .ret (SD.enc d39_4 ((X.1.1, (X.1.2.1, (y0, (y1, ())))), (), ()))) X.1.1 X.1.2.1 X.1.2.2.1
def l39_4 : LEnt := ⟨d39_4, fun X K => iterL (t39_4 X K) fuel X.1.2.2.2.1⟩
def L39 : Lam := (Lam.nil).add 4 l39_4
theorem k39_4 : LOk E g39 n39 L39 (loopBody Tryz.f39 0) :=
  lok l39_4 (by kernel_rfl) fuel fun R X K => (loop_iter (σ := Int) (fun x => SD.enc d39_4 ((X.1.1, (X.1.2.1, (X.1.2.2.1, (x, ())))), (), ())) (t39_4 X K) (fun m x => by kernel_rfl) fuel X.1.2.2.2.1).symm
theorem o39 : FnOk Tryz.prog 39 e39 := fk n39 ((base).add o88) Tryz.func39 (Λ := L39) (cF k39_4 nF)
def e89 : GEnt := entOf [.data true TRing, .data true TRing] [(false, .bool)] fun a => Pu.laws_eqRing a.1 a.2.1
theorem o89 : FnOk Tryz.prog 89 e89 := fk {} (base) Tryz.func89 (Λ := Lam.nil) nF
def e49 : GEnt := entOf [.data false (.sl (.int .i64)), .data false (.sl (.int .i64))] [(false, .bool)] fun a => Pu.laws_eqIntS a.1 a.2.1
def g49 : Gam := Gam.nil
def n49 : An := { mask := fun | 4 => [0, 1, 4, 5] | _ => [] }
@[reducible] def d49_4 : SD := ⟨[.data false (.sl .arg (.int .i64)),.data false (.sl .arg (.int .i64)),B,B,DB,DI,B,B,B,B,B,B,B,B,B,B,B,B,B,B,B,B,B,B,B,B], [Z,Z,Z,Z,Z,Z,Z,Z,Z,Z,Z,Z,Z,Z,Z,Z,Z,Z,Z,Z,Z,Z,Z,Z,Z,Z], .none⟩
def t49_4 {R : Type} (X : SD.D d49_4) (K : Ex → AS → Option R) := Pu.laws_eqIntS_T4 (fun y0 => K (.exit 0) (SD.enc d49_4 ((X.1.1, (X.1.2.1, (X.1.2.2.1, (y0, ())))), (), ()))) (fun y0 y1 => K .ret (SD.enc d49_4 ((X.1.1, (X.1.2.1, (y0, (y1, ())))), (), ()))) X.1.1 X.1.2.1 X.1.2.2.1
def l49_4 : LEnt := ⟨d49_4, fun X K => iterL (t49_4 X K) fuel X.1.2.2.2.1⟩
def L49 : Lam := (Lam.nil).add 4 l49_4
theorem k49_4 : LOk E g49 n49 L49 (loopBody Tryz.f49 0) :=
  lok l49_4 (by kernel_rfl) fuel fun R X K => (loop_iter (σ := Int) (fun x => SD.enc d49_4 ((X.1.1, (X.1.2.1, (X.1.2.2.1, (x, ())))), (), ())) (t49_4 X K) (fun m x => by kernel_rfl) fuel X.1.2.2.2.1).symm
theorem o49 : FnOk Tryz.prog 49 e49 := fk n49 (base) Tryz.func49 (Λ := L49) (cF k49_4 nF)
def e90 : GEnt := entOf [.data true TPool, .data true TPool] [(false, .bool)] fun a => Pu.laws_eqPool a.1 a.2.1
theorem o90 : FnOk Tryz.prog 90 e90 := fk {} ((base).add o49) Tryz.func90 (Λ := Lam.nil) nF
def e131 : GEnt := entOf [.data true TSent, .data true TSent] [(false, .bool)] fun a => Pu.laws_eqSent a.1 a.2.1
theorem o131 : FnOk Tryz.prog 131 e131 := fk {} ((base).add o49) Tryz.func131 (Λ := Lam.nil) nF
def e91 : GEnt := entOf [.data false (.sl TSent), .data false (.sl TSent)] [(false, .bool)] fun a => Pu.laws_eqSentS a.1 a.2.1
def g91 : Gam := (Gam.nil).add 131 e131
def n91 : An := { mask := fun | 4 => [0, 1, 4, 5] | _ => [] }
@[reducible] def d91_4 : SD := ⟨[.data false (.sl .arg TSent),.data false (.sl .arg TSent),B,B,DB,DI,B,B,B,B,B,B,B,B,B,B,B,B,B,B,B,B,B,B,B,B,B], [Z,Z,Z,Z,Z,Z,Z,Z,Z,Z,Z,Z,Z,Z,Z,Z,Z,Z,Z,Z,Z,Z,Z,Z,Z,Z,Z], .none⟩
def t91_4 {R : Type} (X : SD.D d91_4) (K : Ex → AS → Option R) := Pu.laws_eqSentS_T4 (fun y0 => K (.exit 0) (SD.enc d91_4 ((X.1.1, (X.1.2.1, (X.1.2.2.1, (y0, ())))), (), ()))) (fun y0 y1 => K .ret (SD.enc d91_4 ((X.1.1, (X.1.2.1, (y0, (y1, ())))), (), ()))) X.1.1 X.1.2.1 X.1.2.2.1
def l91_4 : LEnt := ⟨d91_4, fun X K => iterL (t91_4 X K) fuel X.1.2.2.2.1⟩
def L91 : Lam := (Lam.nil).add 4 l91_4
theorem k91_4 : LOk E g91 n91 L91 (loopBody Tryz.f91 0) :=
  lok l91_4 (by kernel_rfl) fuel fun R X K => (loop_iter (σ := Int) (fun x => SD.enc d91_4 ((X.1.1, (X.1.2.1, (X.1.2.2.1, (x, ())))), (), ())) (t91_4 X K) (fun m x => by kernel_rfl) fuel X.1.2.2.2.1).symm
theorem o91 : FnOk Tryz.prog 91 e91 := fk n91 ((base).add o131) Tryz.func91 (Λ := L91) (cF k91_4 nF)
def e40 : GEnt := entOf [.data true TTxQueue, .data true TTxQueue] [(false, .bool)] fun a => Pu.laws_eqTxQueue a.1 a.2.1
theorem o40 : FnOk Tryz.prog 40 e40 := fk {} ((((base).add o89).add o90).add o91) Tryz.func40 (Λ := Lam.nil) nF
def e132 : GEnt := entOf [.data true TCompletionQueue, .data true TCompletionQueue] [(false, .bool)] fun a => Pu.laws_eqCompletionQueue a.1 a.2.1
theorem o132 : FnOk Tryz.prog 132 e132 := fk {} (base) Tryz.func132 (Λ := Lam.nil) nF
def e177 : GEnt := entOf [.data true TSegment, .data true TSegment] [(false, .bool)] fun a => Pu.laws_eqSegment a.1 a.2.1
theorem o177 : FnOk Tryz.prog 177 e177 := fk {} (base) Tryz.func177 (Λ := Lam.nil) nF
def e164 : GEnt := entOf [.data true TPacket, .data true TPacket] [(false, .bool)] fun a => Pu.laws_eqPacket a.1 a.2.1
theorem o164 : FnOk Tryz.prog 164 e164 := fk {} ((base).add o177) Tryz.func164 (Λ := Lam.nil) nF
def e133 : GEnt := entOf [.data true TSuper, .data true TSuper] [(false, .bool)] fun a => Pu.laws_eqSuper a.1 a.2.1
theorem o133 : FnOk Tryz.prog 133 e133 := fk {} ((base).add o164) Tryz.func133 (Λ := Lam.nil) nF
def e92 : GEnt := entOf [.data true TRxQueue, .data true TRxQueue] [(false, .bool)] fun a => Pu.laws_eqRxQueue a.1 a.2.1
theorem o92 : FnOk Tryz.prog 92 e92 := fk {} ((((base).add o89).add o132).add o133) Tryz.func92 (Λ := Lam.nil) nF
def e41 : GEnt := entOf [.data false (.sl TRxQueue), .data false (.sl TRxQueue)] [(false, .bool)] fun a => Pu.laws_eqRxQueueS a.1 a.2.1
def g41 : Gam := (Gam.nil).add 92 e92
def n41 : An := { mask := fun | 4 => [0, 1, 4, 5] | _ => [] }
@[reducible] def d41_4 : SD := ⟨[.data false (.sl .arg TRxQueue),.data false (.sl .arg TRxQueue),B,B,DB,DI,B,B,B,B,B,B,B,B,B,B,B,B,B,B,B,B,B,B,B,B,B], [Z,Z,Z,Z,Z,Z,Z,Z,Z,Z,Z,Z,Z,Z,Z,Z,Z,Z,Z,Z,Z,Z,Z,Z,Z,Z,Z], .none⟩
def t41_4 {R : Type} (X : SD.D d41_4) (K : Ex → AS → Option R) := Pu.laws_eqRxQueueS_T4 (fun y0 => K (.exit 0) (SD.enc d41_4 ((X.1.1, (X.1.2.1, (X.1.2.2.1, (y0, ())))), (), ()))) (fun y0 y1 => K .ret (SD.enc d41_4 ((X.1.1, (X.1.2.1, (y0, (y1, ())))), (), ()))) X.1.1 X.1.2.1 X.1.2.2.1
def l41_4 : LEnt := ⟨d41_4, fun X K => iterL (t41_4 X K) fuel X.1.2.2.2.1⟩
def L41 : Lam := (Lam.nil).add 4 l41_4
theorem k41_4 : LOk E g41 n41 L41 (loopBody Tryz.f41 0) :=
  lok l41_4 (by kernel_rfl) fuel fun R X K => (loop_iter (σ := Int) (fun x => SD.enc d41_4 ((X.1.1, (X.1.2.1, (X.1.2.2.1, (x, ())))), (), ())) (t41_4 X K) (fun m x => by kernel_rfl) fuel X.1.2.2.2.1).symm
theorem o41 : FnOk Tryz.prog 41 e41 := fk n41 ((base).add o92) Tryz.func41 (Λ := L41) (cF k41_4 nF)
def e42 : GEnt := entOf [.data false (.sl TPool), .data false (.sl TPool)] [(false, .bool)] fun a => Pu.laws_eqPoolS a.1 a.2.1
def g42 : Gam := (Gam.nil).add 90 e90
def n42 : An := { mask := fun | 4 => [0, 1, 4, 5] | _ => [] }
@[reducible] def d42_4 : SD := ⟨[.data false (.sl .arg TPool),.data false (.sl .arg TPool),B,B,DB,DI,B,B,B,B,B,B,B,B,B,B,B,B,B,B,B,B,B,B,B,B,B], [Z,Z,Z,Z,Z,Z,Z,Z,Z,Z,Z,Z,Z,Z,Z,Z,Z,Z,Z,Z,Z,Z,Z,Z,Z,Z,Z], .none⟩
def t42_4 {R : Type} (X : SD.D d42_4) (K : Ex → AS → Option R) := Pu.laws_eqPoolS_T4 (fun y0 => K (.exit 0) (SD.enc d42_4 ((X.1.1, (X.1.2.1, (X.1.2.2.1, (y0, ())))), (), ()))) (fun y0 y1 => K .ret (SD.enc d42_4 ((X.1.1, (X.1.2.1, (y0, (y1, ())))), (), ()))) X.1.1 X.1.2.1 X.1.2.2.1
def l42_4 : LEnt := ⟨d42_4, fun X K => iterL (t42_4 X K) fuel X.1.2.2.2.1⟩
def L42 : Lam := (Lam.nil).add 4 l42_4
theorem k42_4 : LOk E g42 n42 L42 (loopBody Tryz.f42 0) :=
  lok l42_4 (by kernel_rfl) fuel fun R X K => (loop_iter (σ := Int) (fun x => SD.enc d42_4 ((X.1.1, (X.1.2.1, (X.1.2.2.1, (x, ())))), (), ())) (t42_4 X K) (fun m x => by kernel_rfl) fuel X.1.2.2.2.1).symm
theorem o42 : FnOk Tryz.prog 42 e42 := fk n42 ((base).add o90) Tryz.func42 (Λ := L42) (cF k42_4 nF)
def e93 : GEnt := entOf [.data true TVector, .data true TVector] [(false, .bool)] fun a => Pu.laws_eqVector a.1 a.2.1
theorem o93 : FnOk Tryz.prog 93 e93 := fk {} (base) Tryz.func93 (Λ := Lam.nil) nF
def e43 : GEnt := entOf [.data false (.sl TVector), .data false (.sl TVector)] [(false, .bool)] fun a => Pu.laws_eqVectorS a.1 a.2.1
def g43 : Gam := (Gam.nil).add 93 e93
def n43 : An := { mask := fun | 4 => [0, 1, 4, 5] | _ => [] }
@[reducible] def d43_4 : SD := ⟨[.data false (.sl .arg TVector),.data false (.sl .arg TVector),B,B,DB,DI,B,B,B,B,B,B,B,B,B,B,B,B,B,B,B,B,B,B,B,B,B], [Z,Z,Z,Z,Z,Z,Z,Z,Z,Z,Z,Z,Z,Z,Z,Z,Z,Z,Z,Z,Z,Z,Z,Z,Z,Z,Z], .none⟩
def t43_4 {R : Type} (X : SD.D d43_4) (K : Ex → AS → Option R) := Pu.laws_eqVectorS_T4 (fun y0 => K (.exit 0) (SD.enc d43_4 ((X.1.1, (X.1.2.1, (X.1.2.2.1, (y0, ())))), (), ()))) (fun y0 y1 => K .ret (SD.enc d43_4 ((X.1.1, (X.1.2.1, (y0, (y1, ())))), (), ()))) X.1.1 X.1.2.1 X.1.2.2.1
def l43_4 : LEnt := ⟨d43_4, fun X K => iterL (t43_4 X K) fuel X.1.2.2.2.1⟩
def L43 : Lam := (Lam.nil).add 4 l43_4
theorem k43_4 : LOk E g43 n43 L43 (loopBody Tryz.f43 0) :=
  lok l43_4 (by kernel_rfl) fuel fun R X K => (loop_iter (σ := Int) (fun x => SD.enc d43_4 ((X.1.1, (X.1.2.1, (X.1.2.2.1, (x, ())))), (), ())) (t43_4 X K) (fun m x => by kernel_rfl) fuel X.1.2.2.2.1).symm
theorem o43 : FnOk Tryz.prog 43 e43 := fk n43 ((base).add o93) Tryz.func43 (Λ := L43) (cF k43_4 nF)
def e44 : GEnt := entOf [.data false (.sl .bool), .data false (.sl .bool)] [(false, .bool)] fun a => Pu.laws_eqBoolS a.1 a.2.1
def g44 : Gam := Gam.nil
def n44 : An := { mask := fun | 4 => [0, 1, 4, 5] | _ => [] }
@[reducible] def d44_4 : SD := ⟨[.data false (.sl .arg .bool),.data false (.sl .arg .bool),B,B,DB,DI,B,B,B,B,B,B,B,B,B,B,B,B,B,B,B,B,B,B,B,B], [Z,Z,Z,Z,Z,Z,Z,Z,Z,Z,Z,Z,Z,Z,Z,Z,Z,Z,Z,Z,Z,Z,Z,Z,Z,Z], .none⟩
def t44_4 {R : Type} (X : SD.D d44_4) (K : Ex → AS → Option R) := Pu.laws_eqBoolS_T4 (fun y0 => K (.exit 0) (SD.enc d44_4 ((X.1.1, (X.1.2.1, (X.1.2.2.1, (y0, ())))), (), ()))) (fun y0 y1 => K .ret (SD.enc d44_4 ((X.1.1, (X.1.2.1, (y0, (y1, ())))), (), ()))) X.1.1 X.1.2.1 X.1.2.2.1
def l44_4 : LEnt := ⟨d44_4, fun X K => iterL (t44_4 X K) fuel X.1.2.2.2.1⟩
def L44 : Lam := (Lam.nil).add 4 l44_4
theorem k44_4 : LOk E g44 n44 L44 (loopBody Tryz.f44 0) :=
  lok l44_4 (by kernel_rfl) fuel fun R X K => (loop_iter (σ := Int) (fun x => SD.enc d44_4 ((X.1.1, (X.1.2.1, (X.1.2.2.1, (x, ())))), (), ())) (t44_4 X K) (fun m x => by kernel_rfl) fuel X.1.2.2.2.1).symm
theorem o44 : FnOk Tryz.prog 44 e44 := fk n44 (base) Tryz.func44 (Λ := L44) (cF k44_4 nF)
def e45 : GEnt := entOf [.data true TFilter, .data true TFilter] [(false, .bool)] fun a => Pu.laws_eqFilter a.1 a.2.1
theorem o45 : FnOk Tryz.prog 45 e45 := fk {} ((base).add o49) Tryz.func45 (Λ := Lam.nil) nF
def e134 : GEnt := entOf [.data true TRule, .data true TRule] [(false, .bool)] fun a => Pu.laws_eqRule a.1 a.2.1
theorem o134 : FnOk Tryz.prog 134 e134 := fk {} (base) Tryz.func134 (Λ := Lam.nil) nF
def e94 : GEnt := entOf [.data false (.sl TRule), .data false (.sl TRule)] [(false, .bool)] fun a => Pu.laws_eqRuleS a.1 a.2.1
def g94 : Gam := (Gam.nil).add 134 e134
def n94 : An := { mask := fun | 4 => [0, 1, 4, 5] | _ => [] }
@[reducible] def d94_4 : SD := ⟨[.data false (.sl .arg TRule),.data false (.sl .arg TRule),B,B,DB,DI,B,B,B,B,B,B,B,B,B,B,B,B,B,B,B,B,B,B,B,B,B], [Z,Z,Z,Z,Z,Z,Z,Z,Z,Z,Z,Z,Z,Z,Z,Z,Z,Z,Z,Z,Z,Z,Z,Z,Z,Z,Z], .none⟩
def t94_4 {R : Type} (X : SD.D d94_4) (K : Ex → AS → Option R) := Pu.laws_eqRuleS_T4 (fun y0 => K (.exit 0) (SD.enc d94_4 ((X.1.1, (X.1.2.1, (X.1.2.2.1, (y0, ())))), (), ()))) (fun y0 y1 => K .ret (SD.enc d94_4 ((X.1.1, (X.1.2.1, (y0, (y1, ())))), (), ()))) X.1.1 X.1.2.1 X.1.2.2.1
def l94_4 : LEnt := ⟨d94_4, fun X K => iterL (t94_4 X K) fuel X.1.2.2.2.1⟩
def L94 : Lam := (Lam.nil).add 4 l94_4
theorem k94_4 : LOk E g94 n94 L94 (loopBody Tryz.f94 0) :=
  lok l94_4 (by kernel_rfl) fuel fun R X K => (loop_iter (σ := Int) (fun x => SD.enc d94_4 ((X.1.1, (X.1.2.1, (X.1.2.2.1, (x, ())))), (), ())) (t94_4 X K) (fun m x => by kernel_rfl) fuel X.1.2.2.2.1).symm
theorem o94 : FnOk Tryz.prog 94 e94 := fk n94 ((base).add o134) Tryz.func94 (Λ := L94) (cF k94_4 nF)
def e136 : GEnt := entOf [.data true TFlow, .data true TFlow] [(false, .bool)] fun a => Pu.laws_eqFlow a.1 a.2.1
theorem o136 : FnOk Tryz.prog 136 e136 := fk {} (base) Tryz.func136 (Λ := Lam.nil) nF
def e165 : GEnt := entOf [.data true TSlot, .data true TSlot] [(false, .bool)] fun a => Pu.laws_eqSlot a.1 a.2.1
theorem o165 : FnOk Tryz.prog 165 e165 := fk {} ((base).add o136) Tryz.func165 (Λ := Lam.nil) nF
def e135 : GEnt := entOf [.data false (.sl TSlot), .data false (.sl TSlot)] [(false, .bool)] fun a => Pu.laws_eqSlotS a.1 a.2.1
def g135 : Gam := (Gam.nil).add 165 e165
def n135 : An := { mask := fun | 4 => [0, 1, 4, 5] | _ => [] }
@[reducible] def d135_4 : SD := ⟨[.data false (.sl .arg TSlot),.data false (.sl .arg TSlot),B,B,DB,DI,B,B,B,B,B,B,B,B,B,B,B,B,B,B,B,B,B,B,B,B,B], [Z,Z,Z,Z,Z,Z,Z,Z,Z,Z,Z,Z,Z,Z,Z,Z,Z,Z,Z,Z,Z,Z,Z,Z,Z,Z,Z], .none⟩
def t135_4 {R : Type} (X : SD.D d135_4) (K : Ex → AS → Option R) := Pu.laws_eqSlotS_T4 (fun y0 => K (.exit 0) (SD.enc d135_4 ((X.1.1, (X.1.2.1, (X.1.2.2.1, (y0, ())))), (), ()))) (fun y0 y1 => K .ret (SD.enc d135_4 ((X.1.1, (X.1.2.1, (y0, (y1, ())))), (), ()))) X.1.1 X.1.2.1 X.1.2.2.1
def l135_4 : LEnt := ⟨d135_4, fun X K => iterL (t135_4 X K) fuel X.1.2.2.2.1⟩
def L135 : Lam := (Lam.nil).add 4 l135_4
theorem k135_4 : LOk E g135 n135 L135 (loopBody Tryz.f135 0) :=
  lok l135_4 (by kernel_rfl) fuel fun R X K => (loop_iter (σ := Int) (fun x => SD.enc d135_4 ((X.1.1, (X.1.2.1, (X.1.2.2.1, (x, ())))), (), ())) (t135_4 X K) (fun m x => by kernel_rfl) fuel X.1.2.2.2.1).symm
theorem o135 : FnOk Tryz.prog 135 e135 := fk n135 ((base).add o165) Tryz.func135 (Λ := L135) (cF k135_4 nF)
def e95 : GEnt := entOf [.data true (.sl TSlot), .data true (.sl TSlot)] [(false, .bool)] fun a => Pu.laws_eqFlowTable a.1 a.2.1
theorem o95 : FnOk Tryz.prog 95 e95 := fk {} ((base).add o135) Tryz.func95 (Λ := Lam.nil) nF
def e96 : GEnt := entOf [.data true TSpread, .data true TSpread] [(false, .bool)] fun a => Pu.laws_eqSpread a.1 a.2.1
theorem o96 : FnOk Tryz.prog 96 e96 := fk {} ((base).add o49) Tryz.func96 (Λ := Lam.nil) nF
def e46 : GEnt := entOf [.data true TSteering, .data true TSteering] [(false, .bool)] fun a => Pu.laws_eqSteering a.1 a.2.1
theorem o46 : FnOk Tryz.prog 46 e46 := fk {} ((((base).add o94).add o95).add o96) Tryz.func46 (Λ := Lam.nil) nF
def e97 : GEnt := entOf [.data true TStream, .data true TStream] [(false, .bool)] fun a => Pu.laws_eqStream a.1 a.2.1
theorem o97 : FnOk Tryz.prog 97 e97 := fk {} ((base).add o136) Tryz.func97 (Λ := Lam.nil) nF
def e47 : GEnt := entOf [.data false (.sl TStream), .data false (.sl TStream)] [(false, .bool)] fun a => Pu.laws_eqStreamS a.1 a.2.1
def g47 : Gam := (Gam.nil).add 97 e97
def n47 : An := { mask := fun | 4 => [0, 1, 4, 5] | _ => [] }
@[reducible] def d47_4 : SD := ⟨[.data false (.sl .arg TStream),.data false (.sl .arg TStream),B,B,DB,DI,B,B,B,B,B,B,B,B,B,B,B,B,B,B,B,B,B,B,B,B,B], [Z,Z,Z,Z,Z,Z,Z,Z,Z,Z,Z,Z,Z,Z,Z,Z,Z,Z,Z,Z,Z,Z,Z,Z,Z,Z,Z], .none⟩
def t47_4 {R : Type} (X : SD.D d47_4) (K : Ex → AS → Option R) := Pu.laws_eqStreamS_T4 (fun y0 => K (.exit 0) (SD.enc d47_4 ((X.1.1, (X.1.2.1, (X.1.2.2.1, (y0, ())))), (), ()))) (fun y0 y1 => K .ret (SD.enc d47_4 ((X.1.1, (X.1.2.1, (y0, (y1, ())))), (), ()))) X.1.1 X.1.2.1 X.1.2.2.1
def l47_4 : LEnt := ⟨d47_4, fun X K => iterL (t47_4 X K) fuel X.1.2.2.2.1⟩
def L47 : Lam := (Lam.nil).add 4 l47_4
theorem k47_4 : LOk E g47 n47 L47 (loopBody Tryz.f47 0) :=
  lok l47_4 (by kernel_rfl) fuel fun R X K => (loop_iter (σ := Int) (fun x => SD.enc d47_4 ((X.1.1, (X.1.2.1, (X.1.2.2.1, (x, ())))), (), ())) (t47_4 X K) (fun m x => by kernel_rfl) fuel X.1.2.2.2.1).symm
theorem o47 : FnOk Tryz.prog 47 e47 := fk n47 ((base).add o97) Tryz.func47 (Λ := L47) (cF k47_4 nF)
def e50 : GEnt := entOf [.data true TFlow, .data true TFlow] [(false, .bool)] fun a => Pu.laws_eqCounters a.1 a.2.1
theorem o50 : FnOk Tryz.prog 50 e50 := fk {} (base) Tryz.func50 (Λ := Lam.nil) nF
def e8 : GEnt := entOf [.data true THost, .data true THost] [(false, .bool)] fun a => Pu.laws_eqHost a.1 a.2.1
theorem o8 : FnOk Tryz.prog 8 e8 := fk {} ((((((((((((((base).add o38).add o39).add o40).add o41).add o42).add o43).add o44).add o45).add o46).add o47).add o48).add o49).add o50) Tryz.func8 (Λ := Lam.nil) nF
@[reducible] def s_laws_FnExactIsQuiet : List PS := [.data true THost]
def e_laws_FnExactIsQuiet : GEnt := entOf s_laws_FnExactIsQuiet [(false, .bool)] fun a => Pu.laws_FnExactIsQuiet a.1
theorem o_laws_FnExactIsQuiet : FnOk Tryz.prog 3 e_laws_FnExactIsQuiet := fk {} ((((((base).add o4).add o5).add o6).add o7).add o8) Tryz.func3 (Λ := Lam.nil) nF

end

end Go.Proofs.YtclgaiiidllehabGreat.Fn
