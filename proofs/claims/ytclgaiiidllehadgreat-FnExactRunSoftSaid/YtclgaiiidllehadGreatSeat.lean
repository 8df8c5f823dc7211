import Derived.Test.YtclgaiiidllehadGreatDnSig
import Derived.Test.YtclgaiiidllehadGreatPure
import Derived.Test.YtclgaiiidllehadGreatRows
/- Each function of the program is its pure function (made by gen.py). -/
namespace Go.Proofs.YtclgaiiidllehadGreat.Fn
open Go.Dn
open Go.Pu (TFilter TRule TFlow TSlot TSpread TSteering TStream TSoft TPacket TAct TSegment TEth TIp)
set_option maxRecDepth 100000
noncomputable section
abbrev B : PD := .bot
abbrev DI : PD := .data false (.int .i64)
abbrev DB : PD := .data false .bool
abbrev Z : Option FT := none
theorem nF {p : Code → Prop} : ∀ x ∈ ([] : List Code), p x := fun _ h => nomatch h
theorem cF {p : Code → Prop} {a : Code} {l : List Code} (h : p a) (t : ∀ x ∈ l, p x) : ∀ x ∈ a :: l, p x := List.forall_mem_cons.2 ⟨h, t⟩
theorem hF {p : Code → Prop} {l m : List Code} (e : l = m) (h : ∀ x ∈ m, p x) : ∀ x ∈ l, p x := e ▸ h
theorem fk {P : Program} {E : Env} {Γ : Gam} {s : List PS} {rs : List (Bool × FT)} {F : Args s → Option (resD rs)} {f : Nat} {fn : Func} (an : An) (hS : Sound P E Γ) (hf : P.funcs[f]? = some fn) {Λ : Lam} {l : List Code} (h : ∀ c ∈ l, LOk E Γ an Λ c) (hn : (fn.name == "runtime.NumGoroutine") = false := by kernel_rfl) (hl : loopsOf (fn.body.getD .skip) = l := by kernel_rfl) (hF : ∀ a, evalFn E Γ an Λ fn rs (argsOf s a) = F a := by intro a; kernel_rfl) : FnOk P f (entOf s rs F) := FnOk.of (fnOk hS hf hn (Fn.hF hl h)) hF
def E : Env := { ty := [(3, ⟨false, (.int .i64), []⟩),
  (4, ⟨false, .bool, []⟩),
  (5, ⟨false, (.int .u8), []⟩),
  (9, ⟨false, .str, []⟩),
  (22, ⟨false, (.sl (.int .i64)), [(3, 0)]⟩),
  (24, ⟨true, TFilter, [(0, 1), (1, 1), (2, 1)]⟩),
  (25, ⟨false, (.sl TRule), [(159, 0)]⟩),
  (26, ⟨false, (.sl TSlot), [(191, 0)]⟩),
  (28, ⟨true, (.sl TSlot), [(0, 1)]⟩),
  (30, ⟨true, TSpread, [(0, 1), (1, 1)]⟩),
  (32, ⟨true, TSteering, [(0, 1), (1, 1), (2, 2)]⟩),
  (33, ⟨false, (.sl TStream), [(105, 0)]⟩),
  (34, ⟨false, (.sl .str), [(9, 0)]⟩),
  (36, ⟨true, TSoft, [(0, 3), (3, 4), (7, 1), (8, 1), (9, 1)]⟩),
  (37, ⟨false, (.sl TAct), [(73, 0)]⟩),
  (40, ⟨true, TFilter, [(0, 1), (1, 1), (2, 1)]⟩),
  (41, ⟨false, (.sl TRule), [(143, 0)]⟩),
  (42, ⟨false, (.sl TSlot), [(145, 0)]⟩),
  (44, ⟨true, (.sl TSlot), [(0, 1)]⟩),
  (45, ⟨true, TSpread, [(0, 1), (1, 1)]⟩),
  (47, ⟨true, TSteering, [(0, 1), (1, 1), (2, 2)]⟩),
  (48, ⟨false, (.sl TStream), [(123, 0)]⟩),
  (50, ⟨true, TSoft, [(0, 3), (3, 4), (7, 1), (8, 1), (9, 1)]⟩),
  (53, ⟨false, (.sl TAct), [(81, 0)]⟩),
  (69, ⟨true, TSegment, [(0, 1), (1, 1), (2, 1), (3, 1), (4, 1), (5, 1), (6, 1), (7, 1)]⟩),
  (71, ⟨true, TPacket, [(0, 1), (1, 1), (2, 1), (3, 1), (4, 1), (5, 1), (6, 1), (7, 1), (8, 8)]⟩),
  (73, ⟨true, TAct, [(0, 1), (1, 16), (17, 1), (18, 1), (19, 1), (20, 1)]⟩),
  (77, ⟨true, TSegment, [(0, 1), (1, 1), (2, 1), (3, 1), (4, 1), (5, 1), (6, 1), (7, 1)]⟩),
  (79, ⟨true, TPacket, [(0, 1), (1, 1), (2, 1), (3, 1), (4, 1), (5, 1), (6, 1), (7, 1), (8, 8)]⟩),
  (81, ⟨true, TAct, [(0, 1), (1, 16), (17, 1), (18, 1), (19, 1), (20, 1)]⟩),
  (103, ⟨true, TFlow, [(0, 1), (1, 1), (2, 1), (3, 1), (4, 1)]⟩),
  (105, ⟨true, TStream, [(0, 5), (5, 1), (6, 1), (7, 1)]⟩),
  (121, ⟨true, TFlow, [(0, 1), (1, 1), (2, 1), (3, 1), (4, 1)]⟩),
  (123, ⟨true, TStream, [(0, 5), (5, 1), (6, 1), (7, 1)]⟩),
  (135, ⟨false, (.sl (.int .u8)), [(5, 0)]⟩),
  (143, ⟨true, TRule, [(0, 1), (1, 1), (2, 1), (3, 1), (4, 1), (5, 1), (6, 1), (7, 1), (8, 1)]⟩),
  (145, ⟨true, TSlot, [(0, 1), (1, 5), (6, 1)]⟩),
  (156, ⟨false, (.sl TPacket), [(79, 0)]⟩),
  (159, ⟨true, TRule, [(0, 1), (1, 1), (2, 1), (3, 1), (4, 1), (5, 1), (6, 1), (7, 1), (8, 1)]⟩),
  (175, ⟨true, TEth, [(0, 1), (1, 1), (2, 1), (3, 1), (4, 1)]⟩),
  (179, ⟨true, TIp, [(0, 1), (1, 1), (2, 1), (3, 1), (4, 1), (5, 1), (6, 1)]⟩),
  (191, ⟨true, TSlot, [(0, 1), (1, 5), (6, 1)]⟩),
  (207, ⟨false, (.int .u32), []⟩)], eqs := [(79, [.int, .int, .int, .int, .int, .int, .int, .int, .int, .int, .int, .int, .int, .int, .int, .str]), (121, [.int, .int, .int, .int, .int])], fts := [] }
theorem base : Sound Tryz.prog E Gam.nil := Sound.nil (lookE_ok (by kernel_rfl)) (lookQ_ok (by kernel_rfl)) (lookF_ok (by kernel_rfl)) (by kernel_rfl)
def e52 : GEnt := entOf [.data false (.sl (.int .i64)), .data false (.int .i64)] [(false, (.int .i64))] fun a => Pu.laws_szIntS a.1 a.2.1
theorem o52 : FnOk Tryz.prog 52 e52 := fk {} (base) Tryz.func52 (Λ := Lam.nil) nF
def e18 : GEnt := entOf [.data true TFilter, .data false (.int .i64)] [(false, (.int .i64))] fun a => Pu.laws_szFilter a.1 a.2.1
theorem o18 : FnOk Tryz.prog 18 e18 := fk {} ((base).add o52) Tryz.func18 (Λ := Lam.nil) nF
def e53 : GEnt := entOf [.data false (.sl TRule), .data false (.int .i64)] [(false, (.int .i64))] fun a => Pu.laws_szRuleS a.1 a.2.1
theorem o53 : FnOk Tryz.prog 53 e53 := fk {} (base) Tryz.func53 (Λ := Lam.nil) nF
def e97 : GEnt := entOf [.data false (.sl TSlot), .data false (.int .i64)] [(false, (.int .i64))] fun a => Pu.laws_szSlotS a.1 a.2.1
theorem o97 : FnOk Tryz.prog 97 e97 := fk {} (base) Tryz.func97 (Λ := Lam.nil) nF
def e54 : GEnt := entOf [.data true (.sl TSlot), .data false (.int .i64)] [(false, (.int .i64))] fun a => Pu.laws_szFlowTable a.1 a.2.1
theorem o54 : FnOk Tryz.prog 54 e54 := fk {} ((base).add o97) Tryz.func54 (Λ := Lam.nil) nF
def e55 : GEnt := entOf [.data true TSpread, .data false (.int .i64)] [(false, (.int .i64))] fun a => Pu.laws_szSpread a.1 a.2.1
theorem o55 : FnOk Tryz.prog 55 e55 := fk {} ((base).add o52) Tryz.func55 (Λ := Lam.nil) nF
def e19 : GEnt := entOf [.data true TSteering, .data false (.int .i64)] [(false, (.int .i64))] fun a => Pu.laws_szSteering a.1 a.2.1
theorem o19 : FnOk Tryz.prog 19 e19 := fk {} ((((base).add o53).add o54).add o55) Tryz.func19 (Λ := Lam.nil) nF
def e56 : GEnt := entOf [.data true TStream, .data false (.int .i64)] [(false, (.int .i64))] fun a => Pu.laws_szStream a.1 a.2.1
theorem o56 : FnOk Tryz.prog 56 e56 := fk {} (base) Tryz.func56 (Λ := Lam.nil) nF
def e20 : GEnt := entOf [.data false (.sl TStream), .data false (.int .i64)] [(false, (.int .i64))] fun a => Pu.laws_szStreamS a.1 a.2.1
def g20 : Gam := (Gam.nil).add 56 e56
def n20 : An := { mask := fun | 5 => [0, 1, 4, 5] | _ => [] }
@[reducible] def d20_5 : SD := ⟨[.data false (.sl .arg TStream),DI,B,B,DI,DI,B,B,B,B,B,B,B,B,B,B,B,B,B,B,B,B,B,B,B,B,B], [Z,Z,Z,Z,Z,Z,Z,Z,Z,Z,Z,Z,Z,Z,Z,Z,Z,Z,Z,Z,Z,Z,Z,Z,Z,Z,Z], .none⟩
def t20_5 {R : Type} (X : SD.D d20_5) (K : Ex → AS → Option R) := Pu.laws_szStreamS_T5 (fun y0 y1 => K (.exit 0) (SD.enc d20_5 ((X.1.1, (y0, (X.1.2.2.1, (y1, ())))), (), ()))) (fun y0 y1 y2 => K .ret (SD.enc d20_5 ((X.1.1, (y0, (y1, (y2, ())))), (), ()))) X.1.1 X.1.2.2.1
def l20_5 : LEnt := ⟨d20_5, fun X K => iterL (t20_5 X K) fuel (X.1.2.1, X.1.2.2.2.1)⟩
def L20 : Lam := (Lam.nil).add 5 l20_5
theorem k20_5 : LOk E g20 n20 L20 (loopBody Tryz.f20 0) :=
  lok l20_5 (by kernel_rfl) fuel fun R X K => (loop_iter (σ := Int × Int) (fun x => SD.enc d20_5 ((X.1.1, (x.1, (X.1.2.2.1, (x.2, ())))), (), ())) (t20_5 X K) (fun m x => by kernel_rfl) fuel (X.1.2.1, X.1.2.2.2.1)).symm
theorem o20 : FnOk Tryz.prog 20 e20 := fk n20 ((base).add o56) Tryz.func20 (Λ := L20) (cF k20_5 nF)
def e21 : GEnt := entOf [.data false (.sl .str), .data false (.int .i64)] [(false, (.int .i64))] fun a => Pu.laws_szStringS a.1 a.2.1
def g21 : Gam := Gam.nil
def n21 : An := { mask := fun | 5 => [0, 1, 4, 5] | _ => [] }
@[reducible] def d21_5 : SD := ⟨[.data false (.sl .arg .str),DI,B,B,DI,DI,B,B,B,B,B,B,B,B,B,B,B,B,B,B,B,B,B,B,B,B,B,B], [Z,Z,Z,Z,Z,Z,Z,Z,Z,Z,Z,Z,Z,Z,Z,Z,Z,Z,Z,Z,Z,Z,Z,Z,Z,Z,Z,Z], .none⟩
def t21_5 {R : Type} (X : SD.D d21_5) (K : Ex → AS → Option R) := Pu.laws_szStringS_T5 (fun y0 y1 => K (.exit 0) (SD.enc d21_5 ((X.1.1, (y0, (X.1.2.2.1, (y1, ())))), (), ()))) (fun y0 y1 y2 => K .ret (SD.enc d21_5 ((X.1.1, (y0, (y1, (y2, ())))), (), ()))) X.1.1 X.1.2.2.1
def l21_5 : LEnt := ⟨d21_5, fun X K => iterL (t21_5 X K) fuel (X.1.2.1, X.1.2.2.2.1)⟩
def L21 : Lam := (Lam.nil).add 5 l21_5
theorem k21_5 : LOk E g21 n21 L21 (loopBody Tryz.f21 0) :=
  lok l21_5 (by kernel_rfl) fuel fun R X K => (loop_iter (σ := Int × Int) (fun x => SD.enc d21_5 ((X.1.1, (x.1, (X.1.2.2.1, (x.2, ())))), (), ())) (t21_5 X K) (fun m x => by kernel_rfl) fuel (X.1.2.1, X.1.2.2.2.1)).symm
theorem o21 : FnOk Tryz.prog 21 e21 := fk n21 (base) Tryz.func21 (Λ := L21) (cF k21_5 nF)
def e4 : GEnt := entOf [.data true TSoft, .data false (.int .i64)] [(false, (.int .i64))] fun a => Pu.laws_szSoft a.1 a.2.1
theorem o4 : FnOk Tryz.prog 4 e4 := fk {} (((((base).add o18).add o19).add o20).add o21) Tryz.func4 (Λ := Lam.nil) nF
def e98 : GEnt := entOf [.data true TSegment, .data false (.int .i64)] [(false, (.int .i64))] fun a => Pu.laws_szSegment a.1 a.2.1
theorem o98 : FnOk Tryz.prog 98 e98 := fk {} (base) Tryz.func98 (Λ := Lam.nil) nF
def e57 : GEnt := entOf [.data true TPacket, .data false (.int .i64)] [(false, (.int .i64))] fun a => Pu.laws_szPacket a.1 a.2.1
theorem o57 : FnOk Tryz.prog 57 e57 := fk {} ((base).add o98) Tryz.func57 (Λ := Lam.nil) nF
def e22 : GEnt := entOf [.data true TAct, .data false (.int .i64)] [(false, (.int .i64))] fun a => Pu.laws_szAct a.1 a.2.1
theorem o22 : FnOk Tryz.prog 22 e22 := fk {} ((base).add o57) Tryz.func22 (Λ := Lam.nil) nF
def e5 : GEnt := entOf [.data false (.sl TAct), .data false (.int .i64)] [(false, (.int .i64))] fun a => Pu.laws_szActS a.1 a.2.1
def g5 : Gam := (Gam.nil).add 22 e22
def n5 : An := { mask := fun | 5 => [0, 1, 4, 5] | _ => [] }
@[reducible] def d5_5 : SD := ⟨[.data false (.sl .arg TAct),DI,B,B,DI,DI,B,B,B,B,B,B,B,B,B,B,B,B,B,B,B,B,B,B,B,B,B], [Z,Z,Z,Z,Z,Z,Z,Z,Z,Z,Z,Z,Z,Z,Z,Z,Z,Z,Z,Z,Z,Z,Z,Z,Z,Z,Z], .none⟩
def t5_5 {R : Type} (X : SD.D d5_5) (K : Ex → AS → Option R) := Pu.laws_szActS_T5 (fun y0 y1 => K (.exit 0) (SD.enc d5_5 ((X.1.1, (y0, (X.1.2.2.1, (y1, ())))), (), ()))) (fun y0 y1 y2 => K .ret (SD.enc d5_5 ((X.1.1, (y0, (y1, (y2, ())))), (), ()))) X.1.1 X.1.2.2.1
def l5_5 : LEnt := ⟨d5_5, fun X K => iterL (t5_5 X K) fuel (X.1.2.1, X.1.2.2.2.1)⟩
def L5 : Lam := (Lam.nil).add 5 l5_5
theorem k5_5 : LOk E g5 n5 L5 (loopBody Tryz.f5 0) :=
  lok l5_5 (by kernel_rfl) fuel fun R X K => (loop_iter (σ := Int × Int) (fun x => SD.enc d5_5 ((X.1.1, (x.1, (X.1.2.2.1, (x.2, ())))), (), ())) (t5_5 X K) (fun m x => by kernel_rfl) fuel (X.1.2.1, X.1.2.2.2.1)).symm
theorem o5 : FnOk Tryz.prog 5 e5 := fk n5 ((base).add o22) Tryz.func5 (Λ := L5) (cF k5_5 nF)
def e58 : GEnt := entOf [.data true TFilter] [(true, (.pair (.int .i64) (.pair .bool (.sl (.own none) (.int .i64)))))] fun a => Pu.spec_l24Copy a.1
theorem o58 : FnOk Tryz.prog 58 e58 := fk { sb := fun | 2 => some 2 | _ => none } (base) Tryz.func58 (Λ := Lam.nil) nF
def e99 : GEnt := entOf [.data true (.sl TSlot)] [(true, (.sl (.own none) TSlot))] fun a => Pu.spec_l13Copy a.1
theorem o99 : FnOk Tryz.prog 99 e99 := fk {} (base) Tryz.func99 (Λ := Lam.nil) nF
def e59 : GEnt := entOf [.data true TSteering] [(true, (.pair (.sl (.own none) TRule) (.pair (.sl (.own none) TSlot) (.pair .str (.sl (.own none) (.int .i64))))))] fun a => Pu.spec_l15Copy a.1
theorem o59 : FnOk Tryz.prog 59 e59 := fk { sb := fun | 2 => some 2 | _ => none } ((base).add o99) Tryz.func59 (Λ := Lam.nil) nF
def e23 : GEnt := entOf [.data true TSoft] [(true, (.pair (.pair (.int .i64) (.pair .bool (.sl (.own none) (.int .i64)))) (.pair (.pair (.sl (.own none) TRule) (.pair (.sl (.own none) TSlot) (.pair .str (.sl (.own none) (.int .i64))))) (.pair (.int .i64) (.pair (.sl (.own none) TStream) (.sl (.own none) .str))))))] fun a => Pu.spec_l40Copy a.1
theorem o23 : FnOk Tryz.prog 23 e23 := fk { sb := fun | 2 => some 2 | _ => none } (((base).add o58).add o59) Tryz.func23 (Λ := Lam.nil) nF
def e62 : GEnt := entOf [.data false (.int .i64), .data false (.int .i64), .data false (.int .i64)] [(false, .bool)] fun a => Pu.spec_l01In a.1 a.2.1 a.2.2.1
theorem o62 : FnOk Tryz.prog 62 e62 := fk { merge := fun | 1 => some 6 | _ => none } (base) Tryz.func62 (Λ := Lam.nil) nF
def e60 : GEnt := entOf [.data true TFilter] [(false, .bool)] fun a => Pu.spec_FilterOk a.1
def g60 : Gam := (Gam.nil).add 62 e62
def n60 : An := { mask := fun | 2 => [1, 2, 3] | _ => [], merge := fun | 4 => some 35 | 6 => some 2 | _ => none }
@[reducible] def d60_2 : SD := ⟨[B,.ptr 1 0,DB,DI,B,B,B,B,B,B,B,B,B,B,B,B,B,B,B,B,B,B,B,B,B,B,B,B,B,B,B,B,B,B,B,B,B,B,B,B,B,B,B,B,B], [Z,some (.pair (.int .i64) (.pair .bool (.sl .arg (.int .i64)))),Z,Z,Z,Z,Z,Z,Z,Z,Z,Z,Z,Z,Z,Z,Z,Z,Z,Z,Z,Z,Z,Z,Z,Z,Z,Z,Z,Z,Z,Z,Z,Z,Z,Z,Z,Z,Z,Z,Z,Z,Z,Z,Z], .none⟩
def t60_2 {R : Type} (X : SD.D d60_2) (K : Ex → AS → Option R) := Pu.spec_FilterOk_T2 (fun y0 => K (.exit 0) (SD.enc d60_2 ((X.1.1, (y0, ())), (X.2.1.1, ()), ()))) (fun y0 y1 => K .ret (SD.enc d60_2 ((y0, (y1, ())), (X.2.1.1, ()), ()))) X.1.1 X.2.1.1
def l60_2 : LEnt := ⟨d60_2, fun X K => iterL (t60_2 X K) fuel X.1.2.1⟩
def L60 : Lam := (Lam.nil).add 2 l60_2
theorem k60_2 : LOk E g60 n60 L60 (loopBody Tryz.f60 0) :=
  lok l60_2 (by kernel_rfl) fuel fun R X K => (loop_iter (σ := Int) (fun x => SD.enc d60_2 ((X.1.1, (x, ())), (X.2.1.1, ()), ())) (t60_2 X K) (fun m x => by kernel_rfl) fuel X.1.2.1).symm
theorem o60 : FnOk Tryz.prog 60 e60 := fk n60 ((base).add o62) Tryz.func60 (Λ := L60) (cF k60_2 nF)
def e146 : GEnt := entOf [.data true TRule] [(false, .bool)] fun a => Pu.spec_RuleOk a.1
theorem o146 : FnOk Tryz.prog 146 e146 := fk { merge := fun | 1 => some 33 | 3 => some 54 | 5 => some 2 | _ => none } ((base).add o62) Tryz.func146 (Λ := Lam.nil) nF
def e100 : GEnt := entOf [.data false (.sl TRule)] [(false, .bool)] fun a => Pu.spec_RulesOk a.1
def g100 : Gam := (Gam.nil).add 146 e146
def n100 : An := { mask := fun | 2 => [0, 2, 3] | _ => [] }
@[reducible] def d100_2 : SD := ⟨[.data false (.sl .arg TRule),B,DB,DI,B,B,B,B,B,B,B,B,B,B,B,B,B,B,B], [Z,Z,Z,Z,Z,Z,Z,Z,Z,Z,Z,Z,Z,Z,Z,Z,Z,Z,Z], .none⟩
def t100_2 {R : Type} (X : SD.D d100_2) (K : Ex → AS → Option R) := Pu.spec_RulesOk_T2 (fun y0 => K (.exit 0) (SD.enc d100_2 ((X.1.1, (X.1.2.1, (y0, ()))), (), ()))) (fun y0 y1 => K .ret (SD.enc d100_2 ((X.1.1, (y0, (y1, ()))), (), ()))) X.1.1 X.1.2.1
def l100_2 : LEnt := ⟨d100_2, fun X K => iterL (t100_2 X K) fuel X.1.2.2.1⟩
def L100 : Lam := (Lam.nil).add 2 l100_2
theorem k100_2 : LOk E g100 n100 L100 (loopBody Tryz.f100 0) :=
  lok l100_2 (by kernel_rfl) fuel fun R X K => (loop_iter (σ := Int) (fun x => SD.enc d100_2 ((X.1.1, (X.1.2.1, (x, ()))), (), ())) (t100_2 X K) (fun m x => by kernel_rfl) fuel X.1.2.2.1).symm
theorem o100 : FnOk Tryz.prog 100 e100 := fk n100 ((base).add o146) Tryz.func100 (Λ := L100) (cF k100_2 nF)
def e172 : GEnt := entOf [.data true TFlow] [(false, (.int .i64))] fun a => Pu.spec_HomeSlot a.1
def g172 : Gam := Gam.nil
def n172 : An := { mask := fun | 4 => [3, 4, 5] | _ => [] }
@[reducible] def d172_4 : SD := ⟨[B,B,B,DI,.data false (.sl (.own (some 49152)) (.int .i64)),DI,B,B,B,B,B,B,B,B,B,B,B,B,B,B,B,B,B,B,B,B,B,B,B,B,B,B], [Z,Z,Z,Z,Z,Z,Z,Z,Z,Z,Z,Z,Z,Z,Z,Z,Z,Z,Z,Z,Z,Z,Z,Z,Z,Z,Z,Z,Z,Z,Z,Z], .none⟩
def t172_4 {R : Type} (X : SD.D d172_4) (K : Ex → AS → Option R) := Pu.spec_HomeSlot_T4 (fun y0 y1 => K (.exit 0) (SD.enc d172_4 ((y0, (X.1.2.1, (y1, ()))), (), ()))) X.1.2.1
def l172_4 : LEnt := ⟨d172_4, fun X K => iterL (t172_4 X K) fuel (X.1.1, X.1.2.2.1)⟩
def L172 : Lam := (Lam.nil).add 4 l172_4
theorem k172_4 : LOk E g172 n172 L172 (loopBody Tryz.f172 0) :=
  lok l172_4 (by kernel_rfl) fuel fun R X K => (loop_iter (σ := Int × Int) (fun x => SD.enc d172_4 ((x.1, (X.1.2.1, (x.2, ()))), (), ())) (t172_4 X K) (fun m x => by kernel_rfl) fuel (X.1.1, X.1.2.2.1)).symm
theorem o172 : FnOk Tryz.prog 172 e172 := fk n172 (base) Tryz.func172 (Λ := L172) (cF k172_4 nF)
def e147 : GEnt := entOf [.data true (.sl TSlot), .data true TFlow] [(false, (.int .i64))] fun a => Pu.spec_l13Find a.1 a.2.1
def g147 : Gam := (Gam.nil).add 172 e172
def n147 : An := { mask := fun | 2 => [2, 3, 4, 5] | _ => [], merge := fun | 7 => some 39 | _ => none }
@[reducible] def d147_2 : SD := ⟨[B,B,.ptr 2 0,.ptr 3 0,DI,DI,B,B,B,B,B,B,B,B,B,B,B,B,B,B,B,B,B,B,B,B,B,B,B,B,B,B,B,B,B,B,B,B,B,B,B], [Z,Z,some (.sl .arg TSlot),some (.pair (.int .i64) (.pair (.int .i64) (.pair (.int .i64) (.pair (.int .i64) (.int .i64))))),Z,Z,Z,Z,Z,Z,Z,Z,Z,Z,Z,Z,Z,Z,Z,Z,Z,Z,Z,Z,Z,Z,Z,Z,Z,Z,Z,Z,Z,Z,Z,Z,Z,Z,Z,Z,Z], .none⟩
def t147_2 {R : Type} (X : SD.D d147_2) (K : Ex → AS → Option R) := Pu.spec_l13Find_T2 (fun y0 => K (.exit 0) (SD.enc d147_2 ((X.1.1, (y0, ())), (X.2.1.1, (X.2.1.2.1, ())), ()))) (fun y0 y1 => K .ret (SD.enc d147_2 ((y0, (y1, ())), (X.2.1.1, (X.2.1.2.1, ())), ()))) X.1.1 X.2.1.1 X.2.1.2.1
def l147_2 : LEnt := ⟨d147_2, fun X K => iterL (t147_2 X K) fuel X.1.2.1⟩
def L147 : Lam := (Lam.nil).add 2 l147_2
theorem k147_2 : LOk E g147 n147 L147 (loopBody Tryz.f147 0) :=
  lok l147_2 (by kernel_rfl) fuel fun R X K => (loop_iter (σ := Int) (fun x => SD.enc d147_2 ((X.1.1, (x, ())), (X.2.1.1, (X.2.1.2.1, ())), ())) (t147_2 X K) (fun m x => by kernel_rfl) fuel X.1.2.1).symm
theorem o147 : FnOk Tryz.prog 147 e147 := fk n147 ((base).add o172) Tryz.func147 (Λ := L147) (cF k147_2 nF)
def e101 : GEnt := entOf [.data true (.sl TSlot)] [(false, .bool)] fun a => Pu.spec_TableOk a.1
def g101 : Gam := ((Gam.nil).add 62 e62).add 147 e147
def n101 : An := { mask := fun | 4 => [1, 2, 3] | _ => [], merge := fun | 7 => some 30 | 10 => some 42 | _ => none }
@[reducible] def d101_4 : SD := ⟨[B,.ptr 1 0,DB,DI,B,B,B,B,B,B,B,B,B,B,B,B,B,B,B,B,B,B,B,B,B,B,B,B,B,B,B,B,B,B,B,B,B,B,B,B,B,B,B,B,B,B,B,B,B], [Z,some (.sl .arg TSlot),Z,Z,Z,Z,Z,Z,Z,Z,Z,Z,Z,Z,Z,Z,Z,Z,Z,Z,Z,Z,Z,Z,Z,Z,Z,Z,Z,Z,Z,Z,Z,Z,Z,Z,Z,Z,Z,Z,Z,Z,Z,Z,Z,Z,Z,Z,Z], .none⟩
def t101_4 {R : Type} (X : SD.D d101_4) (K : Ex → AS → Option R) := Pu.spec_TableOk_T4 (fun y0 => K (.exit 0) (SD.enc d101_4 ((X.1.1, (y0, ())), (X.2.1.1, ()), ()))) (fun y0 y1 => K .ret (SD.enc d101_4 ((y0, (y1, ())), (X.2.1.1, ()), ()))) X.1.1 X.2.1.1
def l101_4 : LEnt := ⟨d101_4, fun X K => iterL (t101_4 X K) fuel X.1.2.1⟩
def L101 : Lam := (Lam.nil).add 4 l101_4
theorem k101_4 : LOk E g101 n101 L101 (loopBody Tryz.f101 0) :=
  lok l101_4 (by kernel_rfl) fuel fun R X K => (loop_iter (σ := Int) (fun x => SD.enc d101_4 ((X.1.1, (x, ())), (X.2.1.1, ()), ())) (t101_4 X K) (fun m x => by kernel_rfl) fuel X.1.2.1).symm
theorem o101 : FnOk Tryz.prog 101 e101 := fk n101 (((base).add o62).add o147) Tryz.func101 (Λ := L101) (cF k101_4 nF)
def e148 : GEnt := entOf [.data false (.int .i64)] [(false, .bool)] fun a => Pu.spec_l12Size a.1
theorem o148 : FnOk Tryz.prog 148 e148 := fk { merge := fun | 1 => some 2 | _ => none } (base) Tryz.func148 (Λ := Lam.nil) nF
def e102 : GEnt := entOf [.data true TSpread, .data false (.int .i64)] [(false, .bool)] fun a => Pu.spec_SpreadOk a.1 a.2.1
def g102 : Gam := ((Gam.nil).add 62 e62).add 148 e148
def n102 : An := { mask := fun | 4 => [1, 2, 4, 5] | _ => [], merge := fun | 1 => some 21 | _ => none }
@[reducible] def d102_4 : SD := ⟨[B,DI,.ptr 2 0,B,DB,DI,B,B,B,B,B,B,B,B,B,B,B,B,B,B,B,B,B,B,B,B,B,B,B,B,B,B,B,B,B,B,B,B], [Z,Z,some (.pair .str (.sl .arg (.int .i64))),Z,Z,Z,Z,Z,Z,Z,Z,Z,Z,Z,Z,Z,Z,Z,Z,Z,Z,Z,Z,Z,Z,Z,Z,Z,Z,Z,Z,Z,Z,Z,Z,Z,Z,Z], .none⟩
def t102_4 {R : Type} (X : SD.D d102_4) (K : Ex → AS → Option R) := Pu.spec_SpreadOk_T4 (fun y0 => K (.exit 0) (SD.enc d102_4 ((X.1.1, (X.1.2.1, (y0, ()))), (X.2.1.1, ()), ()))) (fun y0 y1 => K .ret (SD.enc d102_4 ((X.1.1, (y0, (y1, ()))), (X.2.1.1, ()), ()))) X.1.1 X.1.2.1 X.2.1.1
def l102_4 : LEnt := ⟨d102_4, fun X K => iterL (t102_4 X K) fuel X.1.2.2.1⟩
def L102 : Lam := (Lam.nil).add 4 l102_4
theorem k102_4 : LOk E g102 n102 L102 (loopBody Tryz.f102 0) :=
  lok l102_4 (by kernel_rfl) fuel fun R X K => (loop_iter (σ := Int) (fun x => SD.enc d102_4 ((X.1.1, (X.1.2.1, (x, ()))), (X.2.1.1, ()), ())) (t102_4 X K) (fun m x => by kernel_rfl) fuel X.1.2.2.1).symm
theorem o102 : FnOk Tryz.prog 102 e102 := fk n102 (((base).add o62).add o148) Tryz.func102 (Λ := L102) (cF k102_4 nF)
def e61 : GEnt := entOf [.data true TSteering, .data false (.int .i64)] [(false, .bool)] fun a => Pu.spec_SteeringOk a.1 a.2.1
def g61 : Gam := (((Gam.nil).add 100 e100).add 101 e101).add 102 e102
def n61 : An := { mask := fun | 4 => [1, 2, 4, 5] | 9 => [1, 2, 4, 6] | _ => [], merge := fun | 1 => some 23 | _ => none }
@[reducible] def d61_4 : SD := ⟨[B,DI,.ptr 2 0,B,DB,DI,B,B,B,B,B,B,B,B,B,B,B,B,B,B,B,B,B,B,B,B,B,B,B,B,B,B,B,B,B,B,B,B,B,B,B,B,B,B,B,B,B,B,B,B,B,B,B,B,B,B], [Z,Z,some (.pair (.sl .arg TRule) (.pair (.sl .arg TSlot) (.pair .str (.sl .arg (.int .i64))))),Z,Z,Z,Z,Z,Z,Z,Z,Z,Z,Z,Z,Z,Z,Z,Z,Z,Z,Z,Z,Z,Z,Z,Z,Z,Z,Z,Z,Z,Z,Z,Z,Z,Z,Z,Z,Z,Z,Z,Z,Z,Z,Z,Z,Z,Z,Z,Z,Z,Z,Z,Z,Z], .none⟩
def t61_4 {R : Type} (X : SD.D d61_4) (K : Ex → AS → Option R) := Pu.spec_SteeringOk_T4 (fun y0 => K (.exit 0) (SD.enc d61_4 ((X.1.1, (X.1.2.1, (y0, ()))), (X.2.1.1, ()), ()))) (fun y0 y1 => K .ret (SD.enc d61_4 ((X.1.1, (y0, (y1, ()))), (X.2.1.1, ()), ()))) X.1.1 X.1.2.1 X.2.1.1
def l61_4 : LEnt := ⟨d61_4, fun X K => iterL (t61_4 X K) fuel X.1.2.2.1⟩
@[reducible] def d61_9 : SD := ⟨[B,DI,.ptr 2 0,B,DB,B,DI,B,B,B,B,B,B,B,B,B,B,B,B,B,B,B,B,B,B,B,B,B,B,B,B,B,B,B,B,B,B,B,B,B,B,B,B,B,B,B,B,B,B,B,B,B,B,B,B,B], [Z,Z,some (.pair (.sl .arg TRule) (.pair (.sl .arg TSlot) (.pair .str (.sl .arg (.int .i64))))),Z,Z,Z,Z,Z,Z,Z,Z,Z,Z,Z,Z,Z,Z,Z,Z,Z,Z,Z,Z,Z,Z,Z,Z,Z,Z,Z,Z,Z,Z,Z,Z,Z,Z,Z,Z,Z,Z,Z,Z,Z,Z,Z,Z,Z,Z,Z,Z,Z,Z,Z,Z,Z], .none⟩
def t61_9 {R : Type} (X : SD.D d61_9) (K : Ex → AS → Option R) := Pu.spec_SteeringOk_T9 (fun y0 => K (.exit 2) (SD.enc d61_9 ((X.1.1, (X.1.2.1, (y0, ()))), (X.2.1.1, ()), ()))) (fun y0 y1 => K .ret (SD.enc d61_9 ((X.1.1, (y0, (y1, ()))), (X.2.1.1, ()), ()))) X.1.1 X.1.2.1 X.2.1.1
def l61_9 : LEnt := ⟨d61_9, fun X K => iterL (t61_9 X K) fuel X.1.2.2.1⟩
def L61 : Lam := ((Lam.nil).add 4 l61_4).add 9 l61_9
theorem k61_4 : LOk E g61 n61 L61 (loopBody Tryz.f61 0) :=
  lok l61_4 (by kernel_rfl) fuel fun R X K => (loop_iter (σ := Int) (fun x => SD.enc d61_4 ((X.1.1, (X.1.2.1, (x, ()))), (X.2.1.1, ()), ())) (t61_4 X K) (fun m x => by kernel_rfl) fuel X.1.2.2.1).symm
theorem k61_9 : LOk E g61 n61 L61 (loopBody Tryz.f61 1) :=
  lok l61_9 (by kernel_rfl) fuel fun R X K => (loop_iter (σ := Int) (fun x => SD.enc d61_9 ((X.1.1, (X.1.2.1, (x, ()))), (X.2.1.1, ()), ())) (t61_9 X K) (fun m x => by kernel_rfl) fuel X.1.2.2.1).symm
theorem o61 : FnOk Tryz.prog 61 e61 := fk n61 ((((base).add o100).add o101).add o102) Tryz.func61 (Λ := L61) (cF k61_4 (cF k61_9 nF))
def e24 : GEnt := entOf [.data true TSoft] [(false, .bool)] fun a => Pu.spec_SoftOk a.1
theorem o24 : FnOk Tryz.prog 24 e24 := fk { merge := fun | 1 => some 2 | _ => none } (((base).add o60).add o61) Tryz.func24 (Λ := Lam.nil) nF
def e25 : GEnt := entOf [.data true TAct] [(false, .bool)] fun a => Pu.spec_ActOk a.1
theorem o25 : FnOk Tryz.prog 25 e25 := fk { merge := fun | 1 => some 12 | 3 => some 31 | 5 => some 2 | _ => none } ((base).add o62) Tryz.func25 (Λ := Lam.nil) nF
def e173 : GEnt := entOf [.data false .str] [(false, (.int .i64))] fun a => Pu.spec_Crc32 a.1
def g173 : Gam := Gam.nil
def n173 : An := { mask := fun | 3 => [0, 3, 4] | 7 => [0, 3, 4, 5] | _ => [] }
@[reducible] def d173_7 : SD := ⟨[.data false .str,B,B,DI,DI,DI,B,B,B,B,B,B,B,B,B,B,B,B,B,B,B,B,B,B,B,B,B,B,B,B,B,B], [Z,Z,Z,Z,Z,Z,Z,Z,Z,Z,Z,Z,Z,Z,Z,Z,Z,Z,Z,Z,Z,Z,Z,Z,Z,Z,Z,Z,Z,Z,Z,Z], .none⟩
def t173_7 {R : Type} (X : SD.D d173_7) (K : Ex → AS → Option R) := Pu.spec_Crc32_T7 (fun y0 y1 => K (.exit 2) (SD.enc d173_7 ((X.1.1, (y0, (X.1.2.2.1, (y1, ())))), (), ()))) X.1.1 X.1.2.2.1
def l173_7 : LEnt := ⟨d173_7, fun X K => iterL (t173_7 X K) fuel (X.1.2.1, X.1.2.2.2.1)⟩
@[reducible] def d173_3 : SD := ⟨[.data false .str,B,B,DI,DI,B,B,B,B,B,B,B,B,B,B,B,B,B,B,B,B,B,B,B,B,B,B,B,B,B,B,B], [Z,Z,Z,Z,Z,Z,Z,Z,Z,Z,Z,Z,Z,Z,Z,Z,Z,Z,Z,Z,Z,Z,Z,Z,Z,Z,Z,Z,Z,Z,Z,Z], .none⟩
def t173_3 {R : Type} (X : SD.D d173_3) (K : Ex → AS → Option R) := Pu.spec_Crc32_T3 (fun y0 y1 => K (.exit 0) (SD.enc d173_3 ((X.1.1, (y0, (y1, ()))), (), ()))) X.1.1
def l173_3 : LEnt := ⟨d173_3, fun X K => iterL (t173_3 X K) fuel (X.1.2.1, X.1.2.2.1)⟩
def L173 : Lam := ((Lam.nil).add 7 l173_7).add 3 l173_3
theorem k173_7 : LOk E g173 n173 L173 (loopBody Tryz.f173 1) :=
  lok l173_7 (by kernel_rfl) fuel fun R X K => (loop_iter (σ := Int × Int) (fun x => SD.enc d173_7 ((X.1.1, (x.1, (X.1.2.2.1, (x.2, ())))), (), ())) (t173_7 X K) (fun m x => by kernel_rfl) fuel (X.1.2.1, X.1.2.2.2.1)).symm
theorem k173_3 : LOk E g173 n173 L173 (loopBody Tryz.f173 0) :=
  lok l173_3 (by kernel_rfl) fuel fun R X K => (loop_iter (σ := Int × Int) (fun x => SD.enc d173_3 ((X.1.1, (x.1, (x.2, ()))), (), ())) (t173_3 X K) (fun m x => by kernel_rfl) fuel (X.1.2.1, X.1.2.2.1)).symm
theorem o173 : FnOk Tryz.prog 173 e173 := fk n173 (base) Tryz.func173 (Λ := L173) (cF k173_3 (cF k173_7 nF))
def e149 : GEnt := entOf [.data false .str] [(false, .str)] fun a => Pu.spec_WithFcs a.1
theorem o149 : FnOk Tryz.prog 149 e149 := fk {} ((base).add o173) Tryz.func149 (Λ := Lam.nil) nF
def e103 : GEnt := entOf [.data false .str] [(false, .str), (false, .bool)] fun a => Pu.spec_CheckFcs a.1
theorem o103 : FnOk Tryz.prog 103 e103 := fk { merge := fun | 1 => some 16 | _ => none } ((base).add o149) Tryz.func103 (Λ := Lam.nil) nF
def e153 : GEnt := entOf [.data true TSegment] [(false, .bool)] fun a => Pu.spec_SegmentOk a.1
theorem o153 : FnOk Tryz.prog 153 e153 := fk { merge := fun | 1 => some 18 | 4 => some 2 | 5 => some 2 | _ => none } ((base).add o62) Tryz.func153 (Λ := Lam.nil) nF
def e107 : GEnt := entOf [.data true TPacket] [(false, .bool)] fun a => Pu.spec_SuperOk a.1
theorem o107 : FnOk Tryz.prog 107 e107 := fk { merge := fun | 1 => some 55 | 3 => some 3 | 4 => some 2 | _ => none } (((base).add o62).add o153) Tryz.func107 (Λ := Lam.nil) nF
def e192 : GEnt := entOf [.data false .str, .data false (.int .i64), .data false (.int .i64)] [(false, .bool)] fun a => Pu.spec_l02Within a.1 a.2.1 a.2.2.1
theorem o192 : FnOk Tryz.prog 192 e192 := fk { merge := fun | 1 => some 6 | _ => none } (base) Tryz.func192 (Λ := Lam.nil) nF
def e174 : GEnt := entOf [.data false .str, .data false (.int .i64)] [(false, (.int .i64))] fun a => Pu.spec_Get16 a.1 a.2.1
theorem o174 : FnOk Tryz.prog 174 e174 := fk {} ((base).add o192) Tryz.func174 (Λ := Lam.nil) nF
def e175 : GEnt := entOf [.data false .str, .data false (.int .i64)] [(false, (.int .i64))] fun a => Pu.spec_Get32 a.1 a.2.1
theorem o175 : FnOk Tryz.prog 175 e175 := fk {} (((base).add o174).add o192) Tryz.func175 (Λ := Lam.nil) nF
def e176 : GEnt := entOf [.data true TEth] [(false, .bool)] fun a => Pu.spec_EthOk a.1
theorem o176 : FnOk Tryz.prog 176 e176 := fk { merge := fun | 1 => some 2 | _ => none } ((base).add o62) Tryz.func176 (Λ := Lam.nil) nF
def e150 : GEnt := entOf [.data false .str] [(true, (.pair (.int .i64) (.pair (.int .i64) (.pair (.int .i64) (.pair (.int .i64) .str))))), (false, .bool)] fun a => Pu.spec_ParseEth a.1
theorem o150 : FnOk Tryz.prog 150 e150 := fk { sb := fun | 4 => some 4 | _ => none } ((((base).add o174).add o175).add o176) Tryz.func150 (Λ := Lam.nil) nF
def e113 : GEnt := entOf [.data false (.int .i64)] [(false, .str)] fun a => Pu.spec_Word16 a.1
theorem o113 : FnOk Tryz.prog 113 e113 := fk {} ((base).add o62) Tryz.func113 (Λ := Lam.nil) nF
def e194 : GEnt := entOf [.data false (.int .i64)] [(false, .str)] fun a => Pu.spec_Word32 a.1
theorem o194 : FnOk Tryz.prog 194 e194 := fk {} ((base).add o62) Tryz.func194 (Λ := Lam.nil) nF
def e225 : GEnt := entOf [.data false (.int .i64), .data false (.int .i64)] [(false, (.int .i64))] fun a => Pu.spec_AddSums a.1 a.2.1
theorem o225 : FnOk Tryz.prog 225 e225 := fk { merge := fun | 1 => some 12 | _ => none } ((base).add o62) Tryz.func225 (Λ := Lam.nil) nF
def e213 : GEnt := entOf [.data false .str] [(false, (.int .i64))] fun a => Pu.spec_SumWords a.1
def g213 : Gam := (Gam.nil).add 225 e225
def n213 : An := { mask := fun | 3 => [0, 3, 4] | _ => [] }
@[reducible] def d213_3 : SD := ⟨[.data false .str,B,B,DI,DI,B,B,B,B,B,B,B,B,B,B,B,B,B,B,B,B,B,B,B,B,B,B,B,B,B,B,B,B], [Z,Z,Z,Z,Z,Z,Z,Z,Z,Z,Z,Z,Z,Z,Z,Z,Z,Z,Z,Z,Z,Z,Z,Z,Z,Z,Z,Z,Z,Z,Z,Z,Z], .none⟩
def t213_3 {R : Type} (X : SD.D d213_3) (K : Ex → AS → Option R) := Pu.spec_SumWords_T3 (fun y0 y1 => K (.exit 0) (SD.enc d213_3 ((X.1.1, (y0, (y1, ()))), (), ()))) X.1.1
def l213_3 : LEnt := ⟨d213_3, fun X K => iterL (t213_3 X K) fuel (X.1.2.1, X.1.2.2.1)⟩
def L213 : Lam := (Lam.nil).add 3 l213_3
theorem k213_3 : LOk E g213 n213 L213 (loopBody Tryz.f213 0) :=
  lok l213_3 (by kernel_rfl) fuel fun R X K => (loop_iter (σ := Int × Int) (fun x => SD.enc d213_3 ((X.1.1, (x.1, (x.2, ()))), (), ())) (t213_3 X K) (fun m x => by kernel_rfl) fuel (X.1.2.1, X.1.2.2.1)).symm
theorem o213 : FnOk Tryz.prog 213 e213 := fk n213 ((base).add o225) Tryz.func213 (Λ := L213) (cF k213_3 nF)
def e196 : GEnt := entOf [.data false .str] [(false, (.int .i64))] fun a => Pu.spec_Checksum a.1
theorem o196 : FnOk Tryz.prog 196 e196 := fk {} ((base).add o213) Tryz.func196 (Λ := Lam.nil) nF
def e197 : GEnt := entOf [.data false .str, .data false (.int .i64), .data false .str] [(false, .str)] fun a => Pu.spec_PutBytes a.1 a.2.1 a.2.2.1
theorem o197 : FnOk Tryz.prog 197 e197 := fk {} ((base).add o192) Tryz.func197 (Λ := Lam.nil) nF
def e212 : GEnt := entOf [.data true TIp] [(false, .bool)] fun a => Pu.spec_IpOk a.1
theorem o212 : FnOk Tryz.prog 212 e212 := fk { merge := fun | 1 => some 2 | _ => none } ((base).add o62) Tryz.func212 (Λ := Lam.nil) nF
def e193 : GEnt := entOf [.data true TIp] [(false, .str), (false, .bool)] fun a => Pu.spec_IpHeader a.1
theorem o193 : FnOk Tryz.prog 193 e193 := fk {} ((((((base).add o113).add o194).add o196).add o197).add o212) Tryz.func193 (Λ := Lam.nil) nF
def e177 : GEnt := entOf [.data true TIp] [(false, .str), (false, .bool)] fun a => Pu.spec_BuildIp a.1
theorem o177 : FnOk Tryz.prog 177 e177 := fk {} ((base).add o193) Tryz.func177 (Λ := Lam.nil) nF
def e151 : GEnt := entOf [.data false .str] [(true, (.pair (.int .i64) (.pair (.int .i64) (.pair (.int .i64) (.pair (.int .i64) (.pair (.int .i64) (.pair (.int .i64) .str))))))), (false, .bool)] fun a => Pu.spec_ParseIp a.1
theorem o151 : FnOk Tryz.prog 151 e151 := fk { merge := fun | 2 => some 22 | 6 => some 56 | _ => none, sb := fun | 5 => some 5 | _ => none } ((((base).add o174).add o175).add o177) Tryz.func151 (Λ := Lam.nil) nF
def e195 : GEnt := entOf [.data false (.int .i64), .data false (.int .i64), .data false (.int .i64), .data false (.int .i64)] [(false, .str), (false, .bool)] fun a => Pu.spec_PseudoHeader a.1 a.2.1 a.2.2.1 a.2.2.2.1
theorem o195 : FnOk Tryz.prog 195 e195 := fk { merge := fun | 1 => some 27 | _ => none } ((((base).add o62).add o113).add o194) Tryz.func195 (Λ := Lam.nil) nF
def e178 : GEnt := entOf [.data false (.int .i64), .data false (.int .i64), .data true TSegment] [(false, .str), (false, .bool)] fun a => Pu.spec_BuildSegment a.1 a.2.1 a.2.2.1
theorem o178 : FnOk Tryz.prog 178 e178 := fk { merge := fun | 14 => some 82 | _ => none } (((((((base).add o113).add o153).add o194).add o195).add o196).add o197) Tryz.func178 (Λ := Lam.nil) nF
def e152 : GEnt := entOf [.data false (.int .i64), .data false (.int .i64), .data false (.int .i64), .data false .str] [(true, (.pair (.int .i64) (.pair (.int .i64) (.pair (.int .i64) (.pair (.int .i64) (.pair (.int .i64) (.pair (.int .i64) (.pair (.int .i64) .str)))))))), (false, .bool)] fun a => Pu.spec_ParseSegment a.1 a.2.1 a.2.2.1 a.2.2.2.1
theorem o152 : FnOk Tryz.prog 152 e152 := fk { merge := fun | 3 => some 20 | 9 => some 44 | 12 => some 68 | _ => none } ((((base).add o174).add o175).add o178) Tryz.func152 (Λ := Lam.nil) nF
def e104 : GEnt := entOf [.data false .str] [(true, (.pair (.int .i64) (.pair (.int .i64) (.pair (.int .i64) (.pair (.int .i64) (.pair (.int .i64) (.pair (.int .i64) (.pair (.int .i64) (.pair (.int .i64) (.pair (.int .i64) (.pair (.int .i64) (.pair (.int .i64) (.pair (.int .i64) (.pair (.int .i64) (.pair (.int .i64) (.pair (.int .i64) .str)))))))))))))))), (false, (.int .i64))] fun a => Pu.spec_ReadImage a.1
theorem o104 : FnOk Tryz.prog 104 e104 := fk { merge := fun | 2 => some 20 | _ => none } (((((base).add o107).add o150).add o151).add o152) Tryz.func104 (Λ := Lam.nil) nF
def e105 : GEnt := entOf [.data true TPacket] [(false, .bool)] fun a => Pu.spec_PacketOk a.1
theorem o105 : FnOk Tryz.prog 105 e105 := fk { merge := fun | 1 => some 2 | _ => none } ((base).add o107) Tryz.func105 (Λ := Lam.nil) nF
def e63 : GEnt := entOf [.data false .str] [(true, (.pair (.int .i64) (.pair (.int .i64) (.pair (.int .i64) (.pair (.int .i64) (.pair (.int .i64) (.pair (.int .i64) (.pair (.int .i64) (.pair (.int .i64) (.pair (.int .i64) (.pair (.int .i64) (.pair (.int .i64) (.pair (.int .i64) (.pair (.int .i64) (.pair (.int .i64) (.pair (.int .i64) .str)))))))))))))))), (false, (.int .i64))] fun a => Pu.spec_ReadFrame a.1
theorem o63 : FnOk Tryz.prog 63 e63 := fk {} ((((base).add o103).add o104).add o105) Tryz.func63 (Λ := Lam.nil) nF
def e106 : GEnt := entOf [.data false (.sl (.int .i64)), .data false (.int .i64)] [(false, .bool)] fun a => Pu.spec_l24Has a.1 a.2.1
def g106 : Gam := Gam.nil
def n106 : An := { mask := fun | 2 => [0, 1, 4, 5] | _ => [] }
@[reducible] def d106_2 : SD := ⟨[.data false (.sl .arg (.int .i64)),DI,B,B,DB,DI,B,B,B,B,B,B,B,B,B,B,B,B], [Z,Z,Z,Z,Z,Z,Z,Z,Z,Z,Z,Z,Z,Z,Z,Z,Z,Z], .none⟩
def t106_2 {R : Type} (X : SD.D d106_2) (K : Ex → AS → Option R) := Pu.spec_l24Has_T2 (fun y0 => K (.exit 0) (SD.enc d106_2 ((X.1.1, (X.1.2.1, (X.1.2.2.1, (y0, ())))), (), ()))) (fun y0 y1 => K .ret (SD.enc d106_2 ((X.1.1, (X.1.2.1, (y0, (y1, ())))), (), ()))) X.1.1 X.1.2.1 X.1.2.2.1
def l106_2 : LEnt := ⟨d106_2, fun X K => iterL (t106_2 X K) fuel X.1.2.2.2.1⟩
def L106 : Lam := (Lam.nil).add 2 l106_2
theorem k106_2 : LOk E g106 n106 L106 (loopBody Tryz.f106 0) :=
  lok l106_2 (by kernel_rfl) fuel fun R X K => (loop_iter (σ := Int) (fun x => SD.enc d106_2 ((X.1.1, (X.1.2.1, (X.1.2.2.1, (x, ())))), (), ())) (t106_2 X K) (fun m x => by kernel_rfl) fuel X.1.2.2.2.1).symm
theorem o106 : FnOk Tryz.prog 106 e106 := fk n106 (base) Tryz.func106 (Λ := L106) (cF k106_2 nF)
def e64 : GEnt := entOf [.data true TFilter, .data true TPacket] [(false, .bool)] fun a => Pu.spec_Accepts a.1 a.2.1
theorem o64 : FnOk Tryz.prog 64 e64 := fk { merge := fun | 1 => some 4 | _ => none } (((base).add o60).add o106) Tryz.func64 (Λ := Lam.nil) nF
def e179 : GEnt := entOf [.data true TRule, .data true TPacket] [(false, .bool)] fun a => Pu.spec_l14Matches a.1 a.2.1
theorem o179 : FnOk Tryz.prog 179 e179 := fk { merge := fun | 1 => some 4 | _ => none } ((base).add o62) Tryz.func179 (Λ := Lam.nil) nF
def e154 : GEnt := entOf [.data true TRule, .data true TPacket] [(false, .bool)] fun a => Pu.spec_RuleMatches a.1 a.2.1
theorem o154 : FnOk Tryz.prog 154 e154 := fk { merge := fun | 1 => some 4 | _ => none } ((((base).add o107).add o146).add o179) Tryz.func154 (Λ := Lam.nil) nF
def e108 : GEnt := entOf [.data false (.sl TRule), .data true TPacket] [(false, (.int .i64))] fun a => Pu.spec_FindRule a.1 a.2.1
def g108 : Gam := ((Gam.nil).add 100 e100).add 154 e154
def n108 : An := { mask := fun | 3 => [0, 3, 5, 6] | _ => [], merge := fun | 3 => some 14 | 5 => some 39 | _ => none }
@[reducible] def d108_3 : SD := ⟨[.data false (.sl .arg TRule),B,B,.ptr 3 0,B,DI,DI,B,B,B,B,B,B,B,B,B,B,B,B,B,B,B,B,B,B,B,B,B,B,B,B,B,B,B,B,B,B,B,B,B,B,B], [Z,Z,Z,some (.pair (.int .i64) (.pair (.int .i64) (.pair (.int .i64) (.pair (.int .i64) (.pair (.int .i64) (.pair (.int .i64) (.pair (.int .i64) (.pair (.int .i64) (.pair (.int .i64) (.pair (.int .i64) (.pair (.int .i64) (.pair (.int .i64) (.pair (.int .i64) (.pair (.int .i64) (.pair (.int .i64) .str))))))))))))))),Z,Z,Z,Z,Z,Z,Z,Z,Z,Z,Z,Z,Z,Z,Z,Z,Z,Z,Z,Z,Z,Z,Z,Z,Z,Z,Z,Z,Z,Z,Z,Z,Z,Z,Z,Z,Z,Z], .none⟩
def t108_3 {R : Type} (X : SD.D d108_3) (K : Ex → AS → Option R) := Pu.spec_FindRule_T3 (fun y0 y1 => K (.exit 0) (SD.enc d108_3 ((X.1.1, (y0, (y1, ()))), (X.2.1.1, ()), ()))) X.1.1 X.2.1.1
def l108_3 : LEnt := ⟨d108_3, fun X K => iterL (t108_3 X K) fuel (X.1.2.1, X.1.2.2.1)⟩
def L108 : Lam := (Lam.nil).add 3 l108_3
theorem k108_3 : LOk E g108 n108 L108 (loopBody Tryz.f108 0) :=
  lok l108_3 (by kernel_rfl) fuel fun R X K => (loop_iter (σ := Int × Int) (fun x => SD.enc d108_3 ((X.1.1, (x.1, (x.2, ()))), (X.2.1.1, ()), ())) (t108_3 X K) (fun m x => by kernel_rfl) fuel (X.1.2.1, X.1.2.2.1)).symm
theorem o108 : FnOk Tryz.prog 108 e108 := fk n108 (((base).add o100).add o154) Tryz.func108 (Λ := L108) (cF k108_3 nF)
def e109 : GEnt := entOf [.data true (.sl TSlot), .data true TFlow] [(false, (.int .i64))] fun a => Pu.spec_FindFlow a.1 a.2.1
theorem o109 : FnOk Tryz.prog 109 e109 := fk {} (((base).add o101).add o147) Tryz.func109 (Λ := Lam.nil) nF
def e110 : GEnt := entOf [.data true TPacket] [(true, (.pair (.int .i64) (.pair (.int .i64) (.pair (.int .i64) (.pair (.int .i64) (.int .i64))))))] fun a => Pu.spec_FlowOf a.1
theorem o110 : FnOk Tryz.prog 110 e110 := fk {} (base) Tryz.func110 (Λ := Lam.nil) nF
def e214 : GEnt := entOf [.data false .str, .data false (.int .i64)] [(false, (.int .i64))] fun a => Pu.spec_l11Bit a.1 a.2.1
theorem o214 : FnOk Tryz.prog 214 e214 := fk {} (base) Tryz.func214 (Λ := Lam.nil) nF
def e215 : GEnt := entOf [.data false .str, .data false (.int .i64)] [(false, (.int .i64))] fun a => Pu.spec_KeyWindow a.1 a.2.1
def g215 : Gam := ((Gam.nil).add 62 e62).add 214 e214
def n215 : An := { mask := fun | 5 => [0, 1, 5, 6] | _ => [], merge := fun | 1 => some 14 | _ => none }
@[reducible] def d215_5 : SD := ⟨[.data false .str,DI,B,B,B,DI,DI,B,B,B,B,B,B,B,B,B,B,B,B,B,B,B,B,B,B,B,B,B], [Z,Z,Z,Z,Z,Z,Z,Z,Z,Z,Z,Z,Z,Z,Z,Z,Z,Z,Z,Z,Z,Z,Z,Z,Z,Z,Z,Z], .none⟩
def t215_5 {R : Type} (X : SD.D d215_5) (K : Ex → AS → Option R) := Pu.spec_KeyWindow_T5 (fun y0 y1 => K (.exit 0) (SD.enc d215_5 ((X.1.1, (X.1.2.1, (y0, (y1, ())))), (), ()))) X.1.1 X.1.2.1
def l215_5 : LEnt := ⟨d215_5, fun X K => iterL (t215_5 X K) fuel (X.1.2.2.1, X.1.2.2.2.1)⟩
def L215 : Lam := (Lam.nil).add 5 l215_5
theorem k215_5 : LOk E g215 n215 L215 (loopBody Tryz.f215 0) :=
  lok l215_5 (by kernel_rfl) fuel fun R X K => (loop_iter (σ := Int × Int) (fun x => SD.enc d215_5 ((X.1.1, (X.1.2.1, (x.1, (x.2, ())))), (), ())) (t215_5 X K) (fun m x => by kernel_rfl) fuel (X.1.2.2.1, X.1.2.2.2.1)).symm
theorem o215 : FnOk Tryz.prog 215 e215 := fk n215 (((base).add o62).add o214) Tryz.func215 (Λ := L215) (cF k215_5 nF)
def e198 : GEnt := entOf [.data false .str, .data false .str] [(false, (.int .i64))] fun a => Pu.spec_HashBytes a.1 a.2.1
def g198 : Gam := ((Gam.nil).add 214 e214).add 215 e215
def n198 : An := { mask := fun | 5 => [0, 1, 5, 6] | _ => [], merge := fun | 1 => some 14 | _ => none }
@[reducible] def d198_5 : SD := ⟨[.data false .str,.data false .str,B,B,B,DI,DI,B,B,B,B,B,B,B,B,B,B,B,B,B,B,B,B,B,B,B,B,B,B,B,B,B], [Z,Z,Z,Z,Z,Z,Z,Z,Z,Z,Z,Z,Z,Z,Z,Z,Z,Z,Z,Z,Z,Z,Z,Z,Z,Z,Z,Z,Z,Z,Z,Z], .none⟩
def t198_5 {R : Type} (X : SD.D d198_5) (K : Ex → AS → Option R) := Pu.spec_HashBytes_T5 (fun y0 y1 => K (.exit 0) (SD.enc d198_5 ((X.1.1, (X.1.2.1, (y0, (y1, ())))), (), ()))) X.1.1 X.1.2.1
def l198_5 : LEnt := ⟨d198_5, fun X K => iterL (t198_5 X K) fuel (X.1.2.2.1, X.1.2.2.2.1)⟩
def L198 : Lam := (Lam.nil).add 5 l198_5
theorem k198_5 : LOk E g198 n198 L198 (loopBody Tryz.f198 0) :=
  lok l198_5 (by kernel_rfl) fuel fun R X K => (loop_iter (σ := Int × Int) (fun x => SD.enc d198_5 ((X.1.1, (X.1.2.1, (x.1, (x.2, ())))), (), ())) (t198_5 X K) (fun m x => by kernel_rfl) fuel (X.1.2.2.1, X.1.2.2.2.1)).symm
theorem o198 : FnOk Tryz.prog 198 e198 := fk n198 (((base).add o214).add o215) Tryz.func198 (Λ := L198) (cF k198_5 nF)
def e199 : GEnt := entOf [.data true TFlow] [(false, .str)] fun a => Pu.spec_HashInput a.1
theorem o199 : FnOk Tryz.prog 199 e199 := fk {} (((base).add o113).add o194) Tryz.func199 (Λ := Lam.nil) nF
def e180 : GEnt := entOf [.data false .str, .data true TFlow] [(false, (.int .i64))] fun a => Pu.spec_HashFlow a.1 a.2.1
theorem o180 : FnOk Tryz.prog 180 e180 := fk {} (((base).add o198).add o199) Tryz.func180 (Λ := Lam.nil) nF
def e155 : GEnt := entOf [.data true TSpread, .data true TFlow] [(false, (.int .i64))] fun a => Pu.spec_EntryOf a.1 a.2.1
theorem o155 : FnOk Tryz.prog 155 e155 := fk { merge := fun | 2 => some 17 | _ => none } ((base).add o180) Tryz.func155 (Λ := Lam.nil) nF
def e111 : GEnt := entOf [.data true TSpread, .data false (.int .i64), .data true TFlow] [(false, (.int .i64))] fun a => Pu.spec_SpreadQueue a.1 a.2.1 a.2.2.1
theorem o111 : FnOk Tryz.prog 111 e111 := fk { merge := fun | 2 => some 18 | _ => none } (((base).add o102).add o155) Tryz.func111 (Λ := Lam.nil) nF
def e65 : GEnt := entOf [.data true TSteering, .data false (.int .i64), .data true TPacket] [(false, (.int .i64))] fun a => Pu.spec_SteerPacket a.1 a.2.1 a.2.2.1
theorem o65 : FnOk Tryz.prog 65 e65 := fk { merge := fun | 1 => some 17 | _ => none } (((((((base).add o61).add o107).add o108).add o109).add o110).add o111) Tryz.func65 (Λ := Lam.nil) nF
def e112 : GEnt := entOf [.data false (.sl TStream), .data true TFlow] [(false, (.int .i64))] fun a => Pu.spec_StreamIndex a.1 a.2.1
def g112 : Gam := Gam.nil
def n112 : An := { mask := fun | 2 => [0, 3, 4, 5] | _ => [] }
@[reducible] def d112_2 : SD := ⟨[.data false (.sl .arg TStream),B,B,.ptr 3 0,DI,DI,B,B,B,B,B,B,B,B,B,B,B,B,B,B], [Z,Z,Z,some (.pair (.int .i64) (.pair (.int .i64) (.pair (.int .i64) (.pair (.int .i64) (.int .i64))))),Z,Z,Z,Z,Z,Z,Z,Z,Z,Z,Z,Z,Z,Z,Z,Z], .none⟩
def t112_2 {R : Type} (X : SD.D d112_2) (K : Ex → AS → Option R) := Pu.spec_StreamIndex_T2 (fun y0 => K (.exit 0) (SD.enc d112_2 ((X.1.1, (X.1.2.1, (y0, ()))), (X.2.1.1, ()), ()))) (fun y0 y1 => K .ret (SD.enc d112_2 ((X.1.1, (y0, (y1, ()))), (X.2.1.1, ()), ()))) X.1.1 X.1.2.1 X.2.1.1
def l112_2 : LEnt := ⟨d112_2, fun X K => iterL (t112_2 X K) fuel X.1.2.2.1⟩
def L112 : Lam := (Lam.nil).add 2 l112_2
theorem k112_2 : LOk E g112 n112 L112 (loopBody Tryz.f112 0) :=
  lok l112_2 (by kernel_rfl) fuel fun R X K => (loop_iter (σ := Int) (fun x => SD.enc d112_2 ((X.1.1, (X.1.2.1, (x, ()))), (X.2.1.1, ()), ())) (t112_2 X K) (fun m x => by kernel_rfl) fuel X.1.2.2.1).symm
theorem o112 : FnOk Tryz.prog 112 e112 := fk n112 (base) Tryz.func112 (Λ := L112) (cF k112_2 nF)
def e66 : GEnt := entOf [.data false (.sl TStream), .data true TPacket] [(false, (.sl (.own none) TStream))] fun a => Pu.spec_Deliver a.1 a.2.1
theorem o66 : FnOk Tryz.prog 66 e66 := fk { merge := fun | 17 => some 84 | _ => none, mv := [16, 31, 53, 60, 69, 85, 139] } (((((base).add o107).add o110).add o112).add o113) Tryz.func66 (Λ := Lam.nil) nF
def e26 : GEnt := entOf [.data true TSoft, .data false .str] [(true, (.pair (.pair (.int .i64) (.pair .bool (.sl (.own none) (.int .i64)))) (.pair (.pair (.sl (.own none) TRule) (.pair (.sl (.own none) TSlot) (.pair .str (.sl (.own none) (.int .i64))))) (.pair (.int .i64) (.pair (.sl (.own none) TStream) (.sl (.own none) .str))))))] fun a => Pu.spec_SoftReceive a.1 a.2.1
theorem o26 : FnOk Tryz.prog 26 e26 := fk { merge := fun | 3 => some 35 | _ => none, mv := [41] } (((((((base).add o23).add o24).add o63).add o64).add o65).add o66) Tryz.func26 (Λ := Lam.nil) nF
def e216 : GEnt := entOf [.data false (.int .i64)] [(false, .str)] fun a => Pu.spec_l04Address a.1
theorem o216 : FnOk Tryz.prog 216 e216 := fk {} (((base).add o113).add o194) Tryz.func216 (Λ := Lam.nil) nF
def e200 : GEnt := entOf [.data true TEth] [(false, .str), (false, .bool)] fun a => Pu.spec_BuildEth a.1
theorem o200 : FnOk Tryz.prog 200 e200 := fk {} ((((base).add o113).add o176).add o216) Tryz.func200 (Λ := Lam.nil) nF
def e217 : GEnt := entOf [.data false (.int .i64), .data false (.int .u8)] [(false, .str)] fun a => Pu.spec_l01Long a.1 a.2.1
def g217 : Gam := Gam.nil
def n217 : An := { mask := fun | 3 => [0, 1, 5, 6] | _ => [] }
@[reducible] def d217_3 : SD := ⟨[DI,.data false (.int .u8),B,B,B,.data false (.sl (.own (some 61440)) (.int .u8)),DI,B,B,B,B,B,B,B,B,B,B,B,B,B], [Z,Z,Z,Z,Z,Z,Z,Z,Z,Z,Z,Z,Z,Z,Z,Z,Z,Z,Z,Z], .none⟩
def t217_3 {R : Type} (X : SD.D d217_3) (K : Ex → AS → Option R) := Pu.spec_l01Long_T3 (fun y0 y1 => K (.exit 0) (SD.enc d217_3 ((X.1.1, (X.1.2.1, (y0, (y1, ())))), (), ()))) X.1.1 X.1.2.1
def l217_3 : LEnt := ⟨d217_3, fun X K => iterL (t217_3 X K) fuel (X.1.2.2.1, X.1.2.2.2.1)⟩
def L217 : Lam := (Lam.nil).add 3 l217_3
theorem k217_3 : LOk E g217 n217 L217 (loopBody Tryz.f217 0) :=
  lok l217_3 (by kernel_rfl) fuel fun R X K => (loop_iter (σ := (List Int) × Int) (fun x => SD.enc d217_3 ((X.1.1, (X.1.2.1, (x.1, (x.2, ())))), (), ())) (t217_3 X K) (fun m x => by kernel_rfl) fuel (X.1.2.2.1, X.1.2.2.2.1)).symm
theorem o217 : FnOk Tryz.prog 217 e217 := fk n217 (base) Tryz.func217 (Λ := L217) (cF k217_3 nF)
def e201 : GEnt := entOf [.data false .str] [(false, .str)] fun a => Pu.spec_PadBody a.1
theorem o201 : FnOk Tryz.prog 201 e201 := fk {} ((base).add o217) Tryz.func201 (Λ := Lam.nil) nF
def e181 : GEnt := entOf [.data true TPacket] [(false, .str), (false, .bool)] fun a => Pu.spec_BuildImage a.1
theorem o181 : FnOk Tryz.prog 181 e181 := fk {} ((((((base).add o107).add o177).add o178).add o200).add o201) Tryz.func181 (Λ := Lam.nil) nF
def e156 : GEnt := entOf [.data true TPacket] [(false, .str), (false, .bool)] fun a => Pu.spec_BuildFrame a.1
theorem o156 : FnOk Tryz.prog 156 e156 := fk {} ((((base).add o105).add o149).add o181) Tryz.func156 (Λ := Lam.nil) nF
def e114 : GEnt := entOf [.data false (.sl TPacket)] [(false, (.sl (.own none) .str))] fun a => Pu.spec_FrameAll a.1
def g114 : Gam := (Gam.nil).add 156 e156
def n114 : An := { mask := fun | 3 => [0, 3, 4] | _ => [], mv := [23, 27] }
@[reducible] def d114_3 : SD := ⟨[.data false (.sl .arg TPacket),B,B,.data false (.sl (.own (some 36864)) .str),DI,B,B,B,B,B,B,B,B,B,B,B,B,B,B,B,B,B,B,B,B,B,B,B], [Z,Z,Z,Z,Z,Z,Z,Z,Z,Z,Z,Z,Z,Z,Z,Z,Z,Z,Z,Z,Z,Z,Z,Z,Z,Z,Z,Z], .none⟩
def t114_3 {R : Type} (X : SD.D d114_3) (K : Ex → AS → Option R) := Pu.spec_FrameAll_T3 (fun y0 y1 => K (.exit 0) (SD.enc d114_3 ((X.1.1, (y0, (y1, ()))), (), ()))) X.1.1
def l114_3 : LEnt := ⟨d114_3, fun X K => iterL (t114_3 X K) fuel (X.1.2.1, X.1.2.2.1)⟩
def L114 : Lam := (Lam.nil).add 3 l114_3
theorem k114_3 : LOk E g114 n114 L114 (loopBody Tryz.f114 0) :=
  lok l114_3 (by kernel_rfl) fuel fun R X K => (loop_iter (σ := (List Pu.Bytes) × Int) (fun x => SD.enc d114_3 ((X.1.1, (x.1, (x.2, ()))), (), ())) (t114_3 X K) (fun m x => by kernel_rfl) fuel (X.1.2.1, X.1.2.2.1)).symm
theorem o114 : FnOk Tryz.prog 114 e114 := fk n114 ((base).add o156) Tryz.func114 (Λ := L114) (cF k114_3 nF)
def e115 : GEnt := entOf [.data true TPacket, .data false (.int .i64)] [(false, (.sl (.own none) TPacket))] fun a => Pu.spec_Split a.1 a.2.1
def g115 : Gam := ((Gam.nil).add 62 e62).add 107 e107
def n115 : An := { mask := fun | 8 => [1, 2, 5, 6, 7] | _ => [], merge := fun | 2 => some 17 | 5 => some 31 | _ => none, mv := [18, 32, 87, 91] }
@[reducible] def d115_8 : SD := ⟨[B,DI,.ptr 2 0,B,B,.data false (.sl (.own (some 61440)) TPacket),DI,DI,B,B,B,B,B,B,B,B,B,B,B,B,B,B,B,B,B,B,B,B,B,B,B,B,B,B,B,B,B,B,B,B,B,B,B,B,B,B,B,B,B,B,B,B,B,B,B,B,B,B,B,B,B,B,B,B,B,B,B,B,B,B,B,B,B,B,B,B,B,B,B,B,B,B,B,B,B,B,B,B,B,B,B,B], [Z,Z,some (.pair (.int .i64) (.pair (.int .i64) (.pair (.int .i64) (.pair (.int .i64) (.pair (.int .i64) (.pair (.int .i64) (.pair (.int .i64) (.pair (.int .i64) (.pair (.int .i64) (.pair (.int .i64) (.pair (.int .i64) (.pair (.int .i64) (.pair (.int .i64) (.pair (.int .i64) (.pair (.int .i64) .str))))))))))))))),Z,Z,Z,Z,Z,Z,Z,Z,Z,Z,Z,Z,Z,Z,Z,Z,Z,Z,Z,Z,Z,Z,Z,Z,Z,Z,Z,Z,Z,Z,Z,Z,Z,Z,Z,Z,Z,Z,Z,Z,Z,Z,Z,Z,Z,Z,Z,Z,Z,Z,Z,Z,Z,Z,Z,Z,Z,Z,Z,Z,Z,Z,Z,Z,Z,Z,Z,Z,Z,Z,Z,Z,Z,Z,Z,Z,Z,Z,Z,Z,Z,Z,Z,Z,Z,Z,Z,Z,Z], .none⟩
def t115_8 {R : Type} (X : SD.D d115_8) (K : Ex → AS → Option R) := Pu.spec_Split_T8 (fun y0 y1 => K (.exit 0) (SD.enc d115_8 ((X.1.1, (y0, (X.1.2.2.1, (y1, ())))), (X.2.1.1, ()), ()))) X.1.1 X.1.2.2.1 X.2.1.1
def l115_8 : LEnt := ⟨d115_8, fun X K => iterL (t115_8 X K) fuel (X.1.2.1, X.1.2.2.2.1)⟩
def L115 : Lam := (Lam.nil).add 8 l115_8
theorem k115_8 : LOk E g115 n115 L115 (loopBody Tryz.f115 0) :=
  lok l115_8 (by kernel_rfl) fuel fun R X K => (loop_iter (σ := (List Pu.Packet) × Int) (fun x => SD.enc d115_8 ((X.1.1, (x.1, (X.1.2.2.1, (x.2, ())))), (X.2.1.1, ()), ())) (t115_8 X K) (fun m x => by kernel_rfl) fuel (X.1.2.1, X.1.2.2.2.1)).symm
theorem o115 : FnOk Tryz.prog 115 e115 := fk n115 (((base).add o62).add o107) Tryz.func115 (Λ := L115) (cF k115_8 nF)
def e67 : GEnt := entOf [.data true TPacket, .data false (.int .i64)] [(false, (.sl (.own none) .str))] fun a => Pu.spec_SendFrames a.1 a.2.1
theorem o67 : FnOk Tryz.prog 67 e67 := fk {} (((base).add o114).add o115) Tryz.func67 (Λ := Lam.nil) nF
def e27 : GEnt := entOf [.data true TSoft, .data true TPacket, .data false (.int .i64)] [(true, (.pair (.pair (.int .i64) (.pair .bool (.sl (.own none) (.int .i64)))) (.pair (.pair (.sl (.own none) TRule) (.pair (.sl (.own none) TSlot) (.pair .str (.sl (.own none) (.int .i64))))) (.pair (.int .i64) (.pair (.sl (.own none) TStream) (.sl (.own none) .str))))))] fun a => Pu.spec_SoftSend a.1 a.2.1 a.2.2.1
theorem o27 : FnOk Tryz.prog 27 e27 := fk { mv := [13, 19], mb := fun | 13 => some 7 | _ => none, sb := fun | 18 => some 7 | _ => none } ((((base).add o23).add o24).add o67) Tryz.func27 (Λ := Lam.nil) nF
def e6 : GEnt := entOf [.data true TSoft, .data false (.sl TAct), .data false (.sl (.int .i64))] [(true, (.pair (.pair (.int .i64) (.pair .bool (.sl (.own none) (.int .i64)))) (.pair (.pair (.sl (.own none) TRule) (.pair (.sl (.own none) TSlot) (.pair .str (.sl (.own none) (.int .i64))))) (.pair (.int .i64) (.pair (.sl (.own none) TStream) (.sl (.own none) .str))))))] fun a => Pu.spec_RunSoft a.1 a.2.1 a.2.2.1
def g6 : Gam := (((((Gam.nil).add 23 e23).add 24 e24).add 25 e25).add 26 e26).add 27 e27
def n6 : An := { mask := fun | 5 => [1, 2, 6, 7, 8] | _ => [], merge := fun | 2 => some 25 | 10 => some 64 | _ => none, mv := [26, 77], sb := fun | 7 => some 7 | _ => none }
@[reducible] def d6_5 : SD := ⟨[B,.data false (.sl .arg TAct),.data false (.sl .arg (.int .i64)),B,B,B,.ptr 6 0,.ptr 7 0,DI,B,B,B,B,B,B,B,B,B,B,B,B,B,B,B,B,B,B,B,B,B,B,B,B,B,B,B,B,B,B,B,B,B,B,B,B,B,B,B,B,B,B,B,B,B,B,B,B,B,B,B,B,B,B,B,B,B,B,B,B,B,B,B,B,B,B,B,B,B], [Z,Z,Z,Z,Z,Z,some (.pair (.pair (.int .i64) (.pair .bool (.sl (.own (some 73735)) (.int .i64)))) (.pair (.pair (.sl (.own (some 73738)) TRule) (.pair (.sl (.own (some 73741)) TSlot) (.pair .str (.sl (.own (some 73747)) (.int .i64))))) (.pair (.int .i64) (.pair (.sl (.own (some 73753)) TStream) (.sl (.own (some 73756)) .str))))),some (.pair (.pair (.int .i64) (.pair .bool (.sl (.own (some 86023)) (.int .i64)))) (.pair (.pair (.sl (.own (some 86026)) TRule) (.pair (.sl (.own (some 86029)) TSlot) (.pair .str (.sl (.own (some 86035)) (.int .i64))))) (.pair (.int .i64) (.pair (.sl (.own (some 86041)) TStream) (.sl (.own (some 86044)) .str))))),Z,Z,Z,Z,Z,Z,Z,Z,Z,Z,Z,Z,Z,Z,Z,Z,Z,Z,Z,Z,Z,Z,Z,Z,Z,Z,Z,Z,Z,Z,Z,Z,Z,Z,Z,Z,Z,Z,Z,Z,Z,Z,Z,Z,Z,Z,Z,Z,Z,Z,Z,Z,Z,Z,Z,Z,Z,Z,Z,Z,Z,Z,Z,Z,Z,Z,Z,Z,Z,Z], .none⟩
def t6_5 {R : Type} (X : SD.D d6_5) (K : Ex → AS → Option R) := Pu.spec_RunSoft_T5 (fun y0 y1 => K (.exit 0) (SD.enc d6_5 ((X.1.1, (X.1.2.1, (y0, ()))), (X.2.1.1, (y1, ())), ()))) X.1.1 X.1.2.1 X.2.1.1
def l6_5 : LEnt := ⟨d6_5, fun X K => iterL (t6_5 X K) fuel (X.1.2.2.1, X.2.1.2.1)⟩
def L6 : Lam := (Lam.nil).add 5 l6_5
theorem k6_5 : LOk E g6 n6 L6 (loopBody Tryz.f6 0) :=
  lok l6_5 (by kernel_rfl) fuel fun R X K => (loop_iter (σ := Int × Pu.Soft) (fun x => SD.enc d6_5 ((X.1.1, (X.1.2.1, (x.1, ()))), (X.2.1.1, (x.2, ())), ())) (t6_5 X K) (fun m x => by kernel_rfl) fuel (X.1.2.2.1, X.2.1.2.1)).symm
theorem o6 : FnOk Tryz.prog 6 e6 := fk n6 ((((((base).add o23).add o24).add o25).add o26).add o27) Tryz.func6 (Λ := L6) (cF k6_5 nF)
def e9 : GEnt := entOf [.data false (.sl (.int .i64))] [(false, (.sl (.own none) (.int .i64)))] fun a => Pu.laws_toIntS a.1
def g9 : Gam := Gam.nil
def n9 : An := { mask := fun | 3 => [0, 3, 4] | _ => [], mv := [21] }
@[reducible] def d9_3 : SD := ⟨[.data false (.sl .arg (.int .i64)),B,B,.data false (.sl (.own (some 36864)) (.int .i64)),DI,B,B,B,B,B,B,B,B,B,B,B,B,B,B,B,B,B], [Z,Z,Z,Z,Z,Z,Z,Z,Z,Z,Z,Z,Z,Z,Z,Z,Z,Z,Z,Z,Z,Z], .none⟩
def t9_3 {R : Type} (X : SD.D d9_3) (K : Ex → AS → Option R) := Pu.laws_toIntS_T3 (fun y0 y1 => K (.exit 0) (SD.enc d9_3 ((X.1.1, (y0, (y1, ()))), (), ()))) X.1.1
def l9_3 : LEnt := ⟨d9_3, fun X K => iterL (t9_3 X K) fuel (X.1.2.1, X.1.2.2.1)⟩
def L9 : Lam := (Lam.nil).add 3 l9_3
theorem k9_3 : LOk E g9 n9 L9 (loopBody Tryz.f9 0) :=
  lok l9_3 (by kernel_rfl) fuel fun R X K => (loop_iter (σ := (List Int) × Int) (fun x => SD.enc d9_3 ((X.1.1, (x.1, (x.2, ()))), (), ())) (t9_3 X K) (fun m x => by kernel_rfl) fuel (X.1.2.1, X.1.2.2.1)).symm
theorem o9 : FnOk Tryz.prog 9 e9 := fk n9 (base) Tryz.func9 (Λ := L9) (cF k9_3 nF)
def e28 : GEnt := entOf [.data true TFilter] [(true, (.pair (.int .i64) (.pair .bool (.sl (.own none) (.int .i64)))))] fun a => Pu.laws_toFilter a.1
theorem o28 : FnOk Tryz.prog 28 e28 := fk { mv := [14] } ((base).add o9) Tryz.func28 (Λ := Lam.nil) nF
def e116 : GEnt := entOf [.data true TRule] [(true, (.pair (.int .i64) (.pair (.int .i64) (.pair (.int .i64) (.pair (.int .i64) (.pair (.int .i64) (.pair (.int .i64) (.pair (.int .i64) (.pair (.int .i64) (.int .i64))))))))))] fun a => Pu.laws_toRule a.1
theorem o116 : FnOk Tryz.prog 116 e116 := fk {} (base) Tryz.func116 (Λ := Lam.nil) nF
def e68 : GEnt := entOf [.data false (.sl TRule)] [(false, (.sl (.own none) TRule))] fun a => Pu.laws_toRuleS a.1
def g68 : Gam := (Gam.nil).add 116 e116
def n68 : An := { mask := fun | 3 => [0, 3, 4] | _ => [], mv := [22] }
@[reducible] def d68_3 : SD := ⟨[.data false (.sl .arg TRule),B,B,.data false (.sl (.own (some 36864)) TRule),DI,B,B,B,B,B,B,B,B,B,B,B,B,B,B,B,B,B,B], [Z,Z,Z,Z,Z,Z,Z,Z,Z,Z,Z,Z,Z,Z,Z,Z,Z,Z,Z,Z,Z,Z,Z], .none⟩
def t68_3 {R : Type} (X : SD.D d68_3) (K : Ex → AS → Option R) := Pu.laws_toRuleS_T3 (fun y0 y1 => K (.exit 0) (SD.enc d68_3 ((X.1.1, (y0, (y1, ()))), (), ()))) X.1.1
def l68_3 : LEnt := ⟨d68_3, fun X K => iterL (t68_3 X K) fuel (X.1.2.1, X.1.2.2.1)⟩
def L68 : Lam := (Lam.nil).add 3 l68_3
theorem k68_3 : LOk E g68 n68 L68 (loopBody Tryz.f68 0) :=
  lok l68_3 (by kernel_rfl) fuel fun R X K => (loop_iter (σ := (List Pu.Rule) × Int) (fun x => SD.enc d68_3 ((X.1.1, (x.1, (x.2, ()))), (), ())) (t68_3 X K) (fun m x => by kernel_rfl) fuel (X.1.2.1, X.1.2.2.1)).symm
theorem o68 : FnOk Tryz.prog 68 e68 := fk n68 ((base).add o116) Tryz.func68 (Λ := L68) (cF k68_3 nF)
def e118 : GEnt := entOf [.data true TFlow] [(true, (.pair (.int .i64) (.pair (.int .i64) (.pair (.int .i64) (.pair (.int .i64) (.int .i64))))))] fun a => Pu.laws_toFlow a.1
theorem o118 : FnOk Tryz.prog 118 e118 := fk {} (base) Tryz.func118 (Λ := Lam.nil) nF
def e157 : GEnt := entOf [.data true TSlot] [(true, (.pair (.int .i64) (.pair (.pair (.int .i64) (.pair (.int .i64) (.pair (.int .i64) (.pair (.int .i64) (.int .i64))))) (.int .i64))))] fun a => Pu.laws_toSlot a.1
theorem o157 : FnOk Tryz.prog 157 e157 := fk {} ((base).add o118) Tryz.func157 (Λ := Lam.nil) nF
def e117 : GEnt := entOf [.data false (.sl TSlot)] [(false, (.sl (.own none) TSlot))] fun a => Pu.laws_toSlotS a.1
def g117 : Gam := (Gam.nil).add 157 e157
def n117 : An := { mask := fun | 3 => [0, 3, 4] | _ => [], mv := [22] }
@[reducible] def d117_3 : SD := ⟨[.data false (.sl .arg TSlot),B,B,.data false (.sl (.own (some 36864)) TSlot),DI,B,B,B,B,B,B,B,B,B,B,B,B,B,B,B,B,B,B], [Z,Z,Z,Z,Z,Z,Z,Z,Z,Z,Z,Z,Z,Z,Z,Z,Z,Z,Z,Z,Z,Z,Z], .none⟩
def t117_3 {R : Type} (X : SD.D d117_3) (K : Ex → AS → Option R) := Pu.laws_toSlotS_T3 (fun y0 y1 => K (.exit 0) (SD.enc d117_3 ((X.1.1, (y0, (y1, ()))), (), ()))) X.1.1
def l117_3 : LEnt := ⟨d117_3, fun X K => iterL (t117_3 X K) fuel (X.1.2.1, X.1.2.2.1)⟩
def L117 : Lam := (Lam.nil).add 3 l117_3
theorem k117_3 : LOk E g117 n117 L117 (loopBody Tryz.f117 0) :=
  lok l117_3 (by kernel_rfl) fuel fun R X K => (loop_iter (σ := (List Pu.Slot) × Int) (fun x => SD.enc d117_3 ((X.1.1, (x.1, (x.2, ()))), (), ())) (t117_3 X K) (fun m x => by kernel_rfl) fuel (X.1.2.1, X.1.2.2.1)).symm
theorem o117 : FnOk Tryz.prog 117 e117 := fk n117 ((base).add o157) Tryz.func117 (Λ := L117) (cF k117_3 nF)
def e69 : GEnt := entOf [.data true (.sl TSlot)] [(true, (.sl (.own none) TSlot))] fun a => Pu.laws_toFlowTable a.1
theorem o69 : FnOk Tryz.prog 69 e69 := fk { mv := [8] } ((base).add o117) Tryz.func69 (Λ := Lam.nil) nF
def e70 : GEnt := entOf [.data true TSpread] [(true, (.pair .str (.sl (.own none) (.int .i64))))] fun a => Pu.laws_toSpread a.1
theorem o70 : FnOk Tryz.prog 70 e70 := fk { mv := [11] } ((base).add o9) Tryz.func70 (Λ := Lam.nil) nF
def e29 : GEnt := entOf [.data true TSteering] [(true, (.pair (.sl (.own none) TRule) (.pair (.sl (.own none) TSlot) (.pair .str (.sl (.own none) (.int .i64))))))] fun a => Pu.laws_toSteering a.1
theorem o29 : FnOk Tryz.prog 29 e29 := fk { mv := [16] } ((((base).add o68).add o69).add o70) Tryz.func29 (Λ := Lam.nil) nF
def e71 : GEnt := entOf [.data true TStream] [(true, (.pair (.pair (.int .i64) (.pair (.int .i64) (.pair (.int .i64) (.pair (.int .i64) (.int .i64))))) (.pair (.int .i64) (.pair .str .bool))))] fun a => Pu.laws_toStream a.1
theorem o71 : FnOk Tryz.prog 71 e71 := fk {} ((base).add o118) Tryz.func71 (Λ := Lam.nil) nF
def e30 : GEnt := entOf [.data false (.sl TStream)] [(false, (.sl (.own none) TStream))] fun a => Pu.laws_toStreamS a.1
def g30 : Gam := (Gam.nil).add 71 e71
def n30 : An := { mask := fun | 3 => [0, 3, 4] | _ => [], mv := [22] }
@[reducible] def d30_3 : SD := ⟨[.data false (.sl .arg TStream),B,B,.data false (.sl (.own (some 36864)) TStream),DI,B,B,B,B,B,B,B,B,B,B,B,B,B,B,B,B,B,B], [Z,Z,Z,Z,Z,Z,Z,Z,Z,Z,Z,Z,Z,Z,Z,Z,Z,Z,Z,Z,Z,Z,Z], .none⟩
def t30_3 {R : Type} (X : SD.D d30_3) (K : Ex → AS → Option R) := Pu.laws_toStreamS_T3 (fun y0 y1 => K (.exit 0) (SD.enc d30_3 ((X.1.1, (y0, (y1, ()))), (), ()))) X.1.1
def l30_3 : LEnt := ⟨d30_3, fun X K => iterL (t30_3 X K) fuel (X.1.2.1, X.1.2.2.1)⟩
def L30 : Lam := (Lam.nil).add 3 l30_3
theorem k30_3 : LOk E g30 n30 L30 (loopBody Tryz.f30 0) :=
  lok l30_3 (by kernel_rfl) fuel fun R X K => (loop_iter (σ := (List Pu.Stream) × Int) (fun x => SD.enc d30_3 ((X.1.1, (x.1, (x.2, ()))), (), ())) (t30_3 X K) (fun m x => by kernel_rfl) fuel (X.1.2.1, X.1.2.2.1)).symm
theorem o30 : FnOk Tryz.prog 30 e30 := fk n30 ((base).add o71) Tryz.func30 (Λ := L30) (cF k30_3 nF)
def e31 : GEnt := entOf [.data false (.sl .str)] [(false, (.sl (.own none) .str))] fun a => Pu.laws_toStringS a.1
def g31 : Gam := Gam.nil
def n31 : An := { mask := fun | 3 => [0, 3, 4] | _ => [], mv := [21] }
@[reducible] def d31_3 : SD := ⟨[.data false (.sl .arg .str),B,B,.data false (.sl (.own (some 36864)) .str),DI,B,B,B,B,B,B,B,B,B,B,B,B,B,B,B,B,B], [Z,Z,Z,Z,Z,Z,Z,Z,Z,Z,Z,Z,Z,Z,Z,Z,Z,Z,Z,Z,Z,Z], .none⟩
def t31_3 {R : Type} (X : SD.D d31_3) (K : Ex → AS → Option R) := Pu.laws_toStringS_T3 (fun y0 y1 => K (.exit 0) (SD.enc d31_3 ((X.1.1, (y0, (y1, ()))), (), ()))) X.1.1
def l31_3 : LEnt := ⟨d31_3, fun X K => iterL (t31_3 X K) fuel (X.1.2.1, X.1.2.2.1)⟩
def L31 : Lam := (Lam.nil).add 3 l31_3
theorem k31_3 : LOk E g31 n31 L31 (loopBody Tryz.f31 0) :=
  lok l31_3 (by kernel_rfl) fuel fun R X K => (loop_iter (σ := (List Pu.Bytes) × Int) (fun x => SD.enc d31_3 ((X.1.1, (x.1, (x.2, ()))), (), ())) (t31_3 X K) (fun m x => by kernel_rfl) fuel (X.1.2.1, X.1.2.2.1)).symm
theorem o31 : FnOk Tryz.prog 31 e31 := fk n31 (base) Tryz.func31 (Λ := L31) (cF k31_3 nF)
def e7 : GEnt := entOf [.data true TSoft] [(true, (.pair (.pair (.int .i64) (.pair .bool (.sl (.own none) (.int .i64)))) (.pair (.pair (.sl (.own none) TRule) (.pair (.sl (.own none) TSlot) (.pair .str (.sl (.own none) (.int .i64))))) (.pair (.int .i64) (.pair (.sl (.own none) TStream) (.sl (.own none) .str))))))] fun a => Pu.laws_toSoft a.1
theorem o7 : FnOk Tryz.prog 7 e7 := fk { mv := [23] } (((((base).add o28).add o29).add o30).add o31) Tryz.func7 (Λ := Lam.nil) nF
def e119 : GEnt := entOf [.data true TSegment] [(true, (.pair (.int .i64) (.pair (.int .i64) (.pair (.int .i64) (.pair (.int .i64) (.pair (.int .i64) (.pair (.int .i64) (.pair (.int .i64) .str))))))))] fun a => Pu.laws_toSegment a.1
theorem o119 : FnOk Tryz.prog 119 e119 := fk {} (base) Tryz.func119 (Λ := Lam.nil) nF
def e72 : GEnt := entOf [.data true TPacket] [(true, (.pair (.int .i64) (.pair (.int .i64) (.pair (.int .i64) (.pair (.int .i64) (.pair (.int .i64) (.pair (.int .i64) (.pair (.int .i64) (.pair (.int .i64) (.pair (.int .i64) (.pair (.int .i64) (.pair (.int .i64) (.pair (.int .i64) (.pair (.int .i64) (.pair (.int .i64) (.pair (.int .i64) .str))))))))))))))))] fun a => Pu.laws_toPacket a.1
theorem o72 : FnOk Tryz.prog 72 e72 := fk {} ((base).add o119) Tryz.func72 (Λ := Lam.nil) nF
def e32 : GEnt := entOf [.data true TAct] [(true, (.pair (.int .i64) (.pair (.pair (.int .i64) (.pair (.int .i64) (.pair (.int .i64) (.pair (.int .i64) (.pair (.int .i64) (.pair (.int .i64) (.pair (.int .i64) (.pair (.int .i64) (.pair (.int .i64) (.pair (.int .i64) (.pair (.int .i64) (.pair (.int .i64) (.pair (.int .i64) (.pair (.int .i64) (.pair (.int .i64) .str))))))))))))))) (.pair (.int .i64) (.pair (.int .i64) (.pair .str (.int .i64)))))))] fun a => Pu.laws_toAct a.1
theorem o32 : FnOk Tryz.prog 32 e32 := fk {} ((base).add o72) Tryz.func32 (Λ := Lam.nil) nF
def e8 : GEnt := entOf [.data false (.sl TAct)] [(false, (.sl (.own none) TAct))] fun a => Pu.laws_toActS a.1
def g8 : Gam := (Gam.nil).add 32 e32
def n8 : An := { mask := fun | 3 => [0, 3, 4] | _ => [], mv := [22] }
@[reducible] def d8_3 : SD := ⟨[.data false (.sl .arg TAct),B,B,.data false (.sl (.own (some 36864)) TAct),DI,B,B,B,B,B,B,B,B,B,B,B,B,B,B,B,B,B,B], [Z,Z,Z,Z,Z,Z,Z,Z,Z,Z,Z,Z,Z,Z,Z,Z,Z,Z,Z,Z,Z,Z,Z], .none⟩
def t8_3 {R : Type} (X : SD.D d8_3) (K : Ex → AS → Option R) := Pu.laws_toActS_T3 (fun y0 y1 => K (.exit 0) (SD.enc d8_3 ((X.1.1, (y0, (y1, ()))), (), ()))) X.1.1
def l8_3 : LEnt := ⟨d8_3, fun X K => iterL (t8_3 X K) fuel (X.1.2.1, X.1.2.2.1)⟩
def L8 : Lam := (Lam.nil).add 3 l8_3
theorem k8_3 : LOk E g8 n8 L8 (loopBody Tryz.f8 0) :=
  lok l8_3 (by kernel_rfl) fuel fun R X K => (loop_iter (σ := (List Pu.Act) × Int) (fun x => SD.enc d8_3 ((X.1.1, (x.1, (x.2, ()))), (), ())) (t8_3 X K) (fun m x => by kernel_rfl) fuel (X.1.2.1, X.1.2.2.1)).symm
theorem o8 : FnOk Tryz.prog 8 e8 := fk n8 ((base).add o32) Tryz.func8 (Λ := L8) (cF k8_3 nF)
def e120 : GEnt := entOf [.data false (.sl (.int .i64))] [(false, (.sl (.own none) (.int .i64)))] fun a => Pu.impl_copyInts a.1
theorem o120 : FnOk Tryz.prog 120 e120 := fk {} (base) Tryz.func120 (Λ := Lam.nil) nF
def e73 : GEnt := entOf [.data true TFilter] [(true, (.pair (.int .i64) (.pair .bool (.sl (.own none) (.int .i64)))))] fun a => Pu.impl_copyFilter a.1
theorem o73 : FnOk Tryz.prog 73 e73 := fk { mv := [7] } ((base).add o120) Tryz.func73 (Λ := Lam.nil) nF
def e121 : GEnt := entOf [.data true (.sl TSlot)] [(true, (.sl (.own none) TSlot))] fun a => Pu.impl_copyTable a.1
theorem o121 : FnOk Tryz.prog 121 e121 := fk {} (base) Tryz.func121 (Λ := Lam.nil) nF
def e122 : GEnt := entOf [.data true TSpread] [(true, (.pair .str (.sl (.own none) (.int .i64))))] fun a => Pu.impl_copySpread a.1
theorem o122 : FnOk Tryz.prog 122 e122 := fk { sb := fun | 2 => some 2 | _ => none } ((base).add o120) Tryz.func122 (Λ := Lam.nil) nF
def e74 : GEnt := entOf [.data true TSteering] [(true, (.pair (.sl (.own none) TRule) (.pair (.sl (.own none) TSlot) (.pair .str (.sl (.own none) (.int .i64))))))] fun a => Pu.impl_copySteering a.1
theorem o74 : FnOk Tryz.prog 74 e74 := fk { sb := fun | 2 => some 2 | _ => none } (((base).add o121).add o122) Tryz.func74 (Λ := Lam.nil) nF
def e75 : GEnt := entOf [.data false (.sl TStream)] [(false, (.sl (.own none) TStream))] fun a => Pu.impl_copyStreams a.1
theorem o75 : FnOk Tryz.prog 75 e75 := fk {} (base) Tryz.func75 (Λ := Lam.nil) nF
def e76 : GEnt := entOf [.data false (.sl .str)] [(false, (.sl (.own none) .str))] fun a => Pu.impl_copyStrings a.1
theorem o76 : FnOk Tryz.prog 76 e76 := fk {} (base) Tryz.func76 (Λ := Lam.nil) nF
def e33 : GEnt := entOf [.data true TSoft] [(true, (.pair (.pair (.int .i64) (.pair .bool (.sl (.own none) (.int .i64)))) (.pair (.pair (.sl (.own none) TRule) (.pair (.sl (.own none) TSlot) (.pair .str (.sl (.own none) (.int .i64))))) (.pair (.int .i64) (.pair (.sl (.own none) TStream) (.sl (.own none) .str))))))] fun a => Pu.impl_copySoft a.1
theorem o33 : FnOk Tryz.prog 33 e33 := fk { sb := fun | 2 => some 2 | _ => none } (((((base).add o73).add o74).add o75).add o76) Tryz.func33 (Λ := Lam.nil) nF
def e79 : GEnt := entOf [.data false (.int .i64), .data false (.int .i64), .data false (.int .i64)] [(false, .bool)] fun a => Pu.impl_between a.1 a.2.1 a.2.2.1
theorem o79 : FnOk Tryz.prog 79 e79 := fk { merge := fun | 1 => some 6 | _ => none } (base) Tryz.func79 (Λ := Lam.nil) nF
def e77 : GEnt := entOf [.data true TFilter] [(false, .bool)] fun a => Pu.impl_FilterOk a.1
def g77 : Gam := (Gam.nil).add 79 e79
def n77 : An := { mask := fun | 2 => [1, 2, 6, 7, 8] | _ => [], merge := fun | 4 => some 29 | 7 => some 2 | _ => none }
@[reducible] def d77_2 : SD := ⟨[B,.ptr 1 0,DB,B,B,B,.data false (.sl .arg (.int .i64)),DI,DI,B,B,B,B,B,B,B,B,B,B,B,B,B,B,B,B,B,B,B,B,B,B,B,B,B,B,B,B,B,B,B], [Z,some (.pair (.int .i64) (.pair .bool (.sl .arg (.int .i64)))),Z,Z,Z,Z,Z,Z,Z,Z,Z,Z,Z,Z,Z,Z,Z,Z,Z,Z,Z,Z,Z,Z,Z,Z,Z,Z,Z,Z,Z,Z,Z,Z,Z,Z,Z,Z,Z,Z], .none⟩
def t77_2 {R : Type} (X : SD.D d77_2) (K : Ex → AS → Option R) := Pu.impl_FilterOk_T2 (fun y0 => K (.exit 0) (SD.enc d77_2 ((X.1.1, (X.1.2.1, (X.1.2.2.1, (y0, ())))), (X.2.1.1, ()), ()))) (fun y0 y1 => K .ret (SD.enc d77_2 ((y0, (X.1.2.1, (X.1.2.2.1, (y1, ())))), (X.2.1.1, ()), ()))) X.1.1 X.1.2.1 X.1.2.2.1 X.2.1.1
def l77_2 : LEnt := ⟨d77_2, fun X K => iterL (t77_2 X K) fuel X.1.2.2.2.1⟩
def L77 : Lam := (Lam.nil).add 2 l77_2
theorem k77_2 : LOk E g77 n77 L77 (loopBody Tryz.f77 0) :=
  lok l77_2 (by kernel_rfl) fuel fun R X K => (loop_iter (σ := Int) (fun x => SD.enc d77_2 ((X.1.1, (X.1.2.1, (X.1.2.2.1, (x, ())))), (X.2.1.1, ()), ())) (t77_2 X K) (fun m x => by kernel_rfl) fuel X.1.2.2.2.1).symm
theorem o77 : FnOk Tryz.prog 77 e77 := fk n77 ((base).add o79) Tryz.func77 (Λ := L77) (cF k77_2 nF)
def e158 : GEnt := entOf [.data true TRule] [(false, .bool)] fun a => Pu.impl_RuleOk a.1
theorem o158 : FnOk Tryz.prog 158 e158 := fk { merge := fun | 1 => some 33 | 3 => some 54 | 5 => some 2 | _ => none } ((base).add o79) Tryz.func158 (Λ := Lam.nil) nF
def e123 : GEnt := entOf [.data false (.sl TRule)] [(false, .bool)] fun a => Pu.impl_RulesOk a.1
def g123 : Gam := (Gam.nil).add 158 e158
def n123 : An := { mask := fun | 2 => [0, 2, 5, 6, 7] | _ => [] }
@[reducible] def d123_2 : SD := ⟨[.data false (.sl .arg TRule),B,DB,B,B,.data false (.sl .arg TRule),DI,DI,B,B,B,B,B,B,B,B,B,B], [Z,Z,Z,Z,Z,Z,Z,Z,Z,Z,Z,Z,Z,Z,Z,Z,Z,Z], .none⟩
def t123_2 {R : Type} (X : SD.D d123_2) (K : Ex → AS → Option R) := Pu.impl_RulesOk_T2 (fun y0 => K (.exit 0) (SD.enc d123_2 ((X.1.1, (X.1.2.1, (X.1.2.2.1, (X.1.2.2.2.1, (y0, ()))))), (), ()))) (fun y0 y1 => K .ret (SD.enc d123_2 ((X.1.1, (y0, (X.1.2.2.1, (X.1.2.2.2.1, (y1, ()))))), (), ()))) X.1.1 X.1.2.1 X.1.2.2.1 X.1.2.2.2.1
def l123_2 : LEnt := ⟨d123_2, fun X K => iterL (t123_2 X K) fuel X.1.2.2.2.2.1⟩
def L123 : Lam := (Lam.nil).add 2 l123_2
theorem k123_2 : LOk E g123 n123 L123 (loopBody Tryz.f123 0) :=
  lok l123_2 (by kernel_rfl) fuel fun R X K => (loop_iter (σ := Int) (fun x => SD.enc d123_2 ((X.1.1, (X.1.2.1, (X.1.2.2.1, (X.1.2.2.2.1, (x, ()))))), (), ())) (t123_2 X K) (fun m x => by kernel_rfl) fuel X.1.2.2.2.2.1).symm
theorem o123 : FnOk Tryz.prog 123 e123 := fk n123 ((base).add o158) Tryz.func123 (Λ := L123) (cF k123_2 nF)
def e159 : GEnt := entOf [.data true (.sl TSlot), .data true TFlow] [(false, (.int .i64))] fun a => Pu.impl_slotOf a.1 a.2.1
def g159 : Gam := Gam.nil
def n159 : An := { mask := fun | 2 => [3, 4, 8, 9, 10] | _ => [], merge := fun | 4 => some 23 | _ => none }
@[reducible] def d159_2 : SD := ⟨[B,B,B,.ptr 3 0,DI,B,B,B,.data false (.sl .arg TSlot),DI,DI,B,B,B,B,B,B,B,B,B,B,B,B,B,B,B], [Z,Z,Z,some (.pair (.int .i64) (.pair (.int .i64) (.pair (.int .i64) (.pair (.int .i64) (.int .i64))))),Z,Z,Z,Z,Z,Z,Z,Z,Z,Z,Z,Z,Z,Z,Z,Z,Z,Z,Z,Z,Z,Z], .none⟩
def t159_2 {R : Type} (X : SD.D d159_2) (K : Ex → AS → Option R) := Pu.impl_slotOf_T2 (fun y0 => K (.exit 0) (SD.enc d159_2 ((X.1.1, (X.1.2.1, (X.1.2.2.1, (y0, ())))), (X.2.1.1, ()), ()))) (fun y0 y1 => K .ret (SD.enc d159_2 ((y0, (X.1.2.1, (X.1.2.2.1, (y1, ())))), (X.2.1.1, ()), ()))) X.1.1 X.1.2.1 X.1.2.2.1 X.2.1.1
def l159_2 : LEnt := ⟨d159_2, fun X K => iterL (t159_2 X K) fuel X.1.2.2.2.1⟩
def L159 : Lam := (Lam.nil).add 2 l159_2
theorem k159_2 : LOk E g159 n159 L159 (loopBody Tryz.f159 0) :=
  lok l159_2 (by kernel_rfl) fuel fun R X K => (loop_iter (σ := Int) (fun x => SD.enc d159_2 ((X.1.1, (X.1.2.1, (X.1.2.2.1, (x, ())))), (X.2.1.1, ()), ())) (t159_2 X K) (fun m x => by kernel_rfl) fuel X.1.2.2.2.1).symm
theorem o159 : FnOk Tryz.prog 159 e159 := fk n159 (base) Tryz.func159 (Λ := L159) (cF k159_2 nF)
def e137 : GEnt := entOf [.data false (.int .i64), .data false (.int .i64)] [(false, (.int .i64))] fun a => Pu.impl_modulo a.1 a.2.1
theorem o137 : FnOk Tryz.prog 137 e137 := fk {} (base) Tryz.func137 (Λ := Lam.nil) nF
def e182 : GEnt := entOf [.data true TFlow] [(false, (.int .i64))] fun a => Pu.impl_HomeSlot a.1
def g182 : Gam := (Gam.nil).add 137 e137
def n182 : An := { mask := fun | 3 => [3, 16, 17, 18] | _ => [] }
@[reducible] def d182_3 : SD := ⟨[B,B,B,DI,B,B,B,B,B,B,B,B,B,B,B,B,.data false (.sl (.own (some 196608)) (.int .i64)),DI,DI,B,B,B,B,B,B,B,B,B,B], [Z,Z,Z,Z,Z,Z,Z,Z,Z,Z,Z,Z,Z,Z,Z,Z,Z,Z,Z,Z,Z,Z,Z,Z,Z,Z,Z,Z,Z], .none⟩
def t182_3 {R : Type} (X : SD.D d182_3) (K : Ex → AS → Option R) := Pu.impl_HomeSlot_T3 (fun y0 y1 => K (.exit 0) (SD.enc d182_3 ((y0, (X.1.2.1, (X.1.2.2.1, (y1, ())))), (), ()))) X.1.2.1 X.1.2.2.1
def l182_3 : LEnt := ⟨d182_3, fun X K => iterL (t182_3 X K) fuel (X.1.1, X.1.2.2.2.1)⟩
def L182 : Lam := (Lam.nil).add 3 l182_3
theorem k182_3 : LOk E g182 n182 L182 (loopBody Tryz.f182 0) :=
  lok l182_3 (by kernel_rfl) fuel fun R X K => (loop_iter (σ := Int × Int) (fun x => SD.enc d182_3 ((x.1, (X.1.2.1, (X.1.2.2.1, (x.2, ())))), (), ())) (t182_3 X K) (fun m x => by kernel_rfl) fuel (X.1.1, X.1.2.2.2.1)).symm
theorem o182 : FnOk Tryz.prog 182 e182 := fk n182 ((base).add o137) Tryz.func182 (Λ := L182) (cF k182_3 nF)
def e160 : GEnt := entOf [.data true TFlow] [(false, (.sl (.own none) (.int .i64)))] fun a => Pu.impl_wayOf a.1
def g160 : Gam := (Gam.nil).add 182 e182
def n160 : An := { mask := fun | 3 => [1, 3, 4] | _ => [], mv := [10, 18] }
@[reducible] def d160_3 : SD := ⟨[B,.ptr 1 0,B,.data false (.sl (.own (some 36864)) (.int .i64)),DI,B,B,B,B,B,B,B,B,B,B,B,B,B,B], [Z,some (.pair (.int .i64) (.pair (.int .i64) (.pair (.int .i64) (.pair (.int .i64) (.int .i64))))),Z,Z,Z,Z,Z,Z,Z,Z,Z,Z,Z,Z,Z,Z,Z,Z,Z], .none⟩
def t160_3 {R : Type} (X : SD.D d160_3) (K : Ex → AS → Option R) := Pu.impl_wayOf_T3 (fun y0 y1 => K (.exit 0) (SD.enc d160_3 ((y0, (y1, ())), (X.2.1.1, ()), ()))) X.2.1.1
def l160_3 : LEnt := ⟨d160_3, fun X K => iterL (t160_3 X K) fuel (X.1.1, X.1.2.1)⟩
def L160 : Lam := (Lam.nil).add 3 l160_3
theorem k160_3 : LOk E g160 n160 L160 (loopBody Tryz.f160 0) :=
  lok l160_3 (by kernel_rfl) fuel fun R X K => (loop_iter (σ := (List Int) × Int) (fun x => SD.enc d160_3 ((x.1, (x.2, ())), (X.2.1.1, ()), ())) (t160_3 X K) (fun m x => by kernel_rfl) fuel (X.1.1, X.1.2.1)).symm
theorem o160 : FnOk Tryz.prog 160 e160 := fk n160 ((base).add o182) Tryz.func160 (Λ := L160) (cF k160_3 nF)
def e124 : GEnt := entOf [.data true (.sl TSlot)] [(false, .bool)] fun a => Pu.impl_TableOk a.1
def g124 : Gam := (((Gam.nil).add 79 e79).add 159 e159).add 160 e160
def n124 : An := { mask := fun | 4 => [1, 2, 12, 13, 14] | 14 => [1, 2, 3, 12, 13, 14, 49, 50, 51] | _ => [], merge := fun | 6 => some 28 | 9 => some 40 | _ => none }
@[reducible] def d124_14 : SD := ⟨[B,.ptr 1 0,DB,DI,B,B,B,B,B,B,B,B,.data false (.sl .arg TSlot),DI,DI,B,B,B,B,B,B,B,B,B,B,B,B,B,B,B,B,B,B,B,B,B,B,B,B,B,B,B,B,B,B,B,B,B,B,.data false (.sl (.own (some 602112)) (.int .i64)),DI,DI,B,B,B,B,B,B,B,B,B,B,B,B,B,B,B], [Z,some (.sl .arg TSlot),Z,Z,Z,Z,Z,Z,Z,Z,Z,Z,Z,Z,Z,Z,Z,Z,Z,Z,Z,Z,Z,Z,Z,Z,Z,Z,Z,Z,Z,Z,Z,Z,Z,Z,Z,Z,Z,Z,Z,Z,Z,Z,Z,Z,Z,Z,Z,Z,Z,Z,Z,Z,Z,Z,Z,Z,Z,Z,Z,Z,Z,Z,Z,Z,Z], .none⟩
def t124_14 {R : Type} (X : SD.D d124_14) (K : Ex → AS → Option R) := Pu.impl_TableOk_T14 (fun y0 => K (.exit 2) (SD.enc d124_14 ((X.1.1, (X.1.2.1, (X.1.2.2.1, (X.1.2.2.2.1, (X.1.2.2.2.2.1, (X.1.2.2.2.2.2.1, (X.1.2.2.2.2.2.2.1, (y0, ())))))))), (X.2.1.1, ()), ()))) (fun y0 y1 => K .ret (SD.enc d124_14 ((y0, (X.1.2.1, (X.1.2.2.1, (X.1.2.2.2.1, (X.1.2.2.2.2.1, (X.1.2.2.2.2.2.1, (X.1.2.2.2.2.2.2.1, (y1, ())))))))), (X.2.1.1, ()), ()))) X.1.1 X.1.2.1 X.1.2.2.1 X.1.2.2.2.1 X.1.2.2.2.2.1 X.1.2.2.2.2.2.1 X.1.2.2.2.2.2.2.1 X.2.1.1
def l124_14 : LEnt := ⟨d124_14, fun X K => iterL (t124_14 X K) fuel X.1.2.2.2.2.2.2.2.1⟩
@[reducible] def d124_4 : SD := ⟨[B,.ptr 1 0,DB,B,B,B,B,B,B,B,B,B,.data false (.sl .arg TSlot),DI,DI,B,B,B,B,B,B,B,B,B,B,B,B,B,B,B,B,B,B,B,B,B,B,B,B,B,B,B,B,B,B,B,B,B,B,B,B,B,B,B,B,B,B,B,B,B,B,B,B,B,B,B,B], [Z,some (.sl .arg TSlot),Z,Z,Z,Z,Z,Z,Z,Z,Z,Z,Z,Z,Z,Z,Z,Z,Z,Z,Z,Z,Z,Z,Z,Z,Z,Z,Z,Z,Z,Z,Z,Z,Z,Z,Z,Z,Z,Z,Z,Z,Z,Z,Z,Z,Z,Z,Z,Z,Z,Z,Z,Z,Z,Z,Z,Z,Z,Z,Z,Z,Z,Z,Z,Z,Z], .none⟩
def t124_4 {R : Type} (X : SD.D d124_4) (K : Ex → AS → Option R) := Pu.impl_TableOk_T4 (fun y0 => K (.exit 0) (SD.enc d124_4 ((X.1.1, (X.1.2.1, (X.1.2.2.1, (y0, ())))), (X.2.1.1, ()), ()))) (fun y0 y1 => K .ret (SD.enc d124_4 ((y0, (X.1.2.1, (X.1.2.2.1, (y1, ())))), (X.2.1.1, ()), ()))) X.1.1 X.1.2.1 X.1.2.2.1 X.2.1.1
def l124_4 : LEnt := ⟨d124_4, fun X K => iterL (t124_4 X K) fuel X.1.2.2.2.1⟩
def L124 : Lam := ((Lam.nil).add 14 l124_14).add 4 l124_4
theorem k124_14 : LOk E g124 n124 L124 (loopBody Tryz.f124 1) :=
  lok l124_14 (by kernel_rfl) fuel fun R X K => (loop_iter (σ := Int) (fun x => SD.enc d124_14 ((X.1.1, (X.1.2.1, (X.1.2.2.1, (X.1.2.2.2.1, (X.1.2.2.2.2.1, (X.1.2.2.2.2.2.1, (X.1.2.2.2.2.2.2.1, (x, ())))))))), (X.2.1.1, ()), ())) (t124_14 X K) (fun m x => by kernel_rfl) fuel X.1.2.2.2.2.2.2.2.1).symm
theorem k124_4 : LOk E g124 n124 L124 (loopBody Tryz.f124 0) :=
  lok l124_4 (by kernel_rfl) fuel fun R X K => (loop_iter (σ := Int) (fun x => SD.enc d124_4 ((X.1.1, (X.1.2.1, (X.1.2.2.1, (x, ())))), (X.2.1.1, ()), ())) (t124_4 X K) (fun m x => by kernel_rfl) fuel X.1.2.2.2.1).symm
theorem o124 : FnOk Tryz.prog 124 e124 := fk n124 ((((base).add o79).add o159).add o160) Tryz.func124 (Λ := L124) (cF k124_4 (cF k124_14 nF))
def e161 : GEnt := entOf [.data false (.int .i64)] [(false, .bool)] fun a => Pu.impl_tableSize a.1
theorem o161 : FnOk Tryz.prog 161 e161 := fk { merge := fun | 1 => some 2 | _ => none } (base) Tryz.func161 (Λ := Lam.nil) nF
def e125 : GEnt := entOf [.data true TSpread, .data false (.int .i64)] [(false, .bool)] fun a => Pu.impl_SpreadOk a.1 a.2.1
def g125 : Gam := ((Gam.nil).add 79 e79).add 161 e161
def n125 : An := { mask := fun | 4 => [1, 4, 24, 25, 26] | _ => [], merge := fun | 1 => some 22 | _ => none }
@[reducible] def d125_4 : SD := ⟨[B,DI,B,B,DB,B,B,B,B,B,B,B,B,B,B,B,B,B,B,B,B,B,B,B,.data false (.sl .arg (.int .i64)),DI,DI,B,B,B,B,B,B,B,B,B], [Z,Z,Z,Z,Z,Z,Z,Z,Z,Z,Z,Z,Z,Z,Z,Z,Z,Z,Z,Z,Z,Z,Z,Z,Z,Z,Z,Z,Z,Z,Z,Z,Z,Z,Z,Z], .none⟩
def t125_4 {R : Type} (X : SD.D d125_4) (K : Ex → AS → Option R) := Pu.impl_SpreadOk_T4 (fun y0 => K (.exit 0) (SD.enc d125_4 ((X.1.1, (X.1.2.1, (X.1.2.2.1, (X.1.2.2.2.1, (y0, ()))))), (), ()))) (fun y0 y1 => K .ret (SD.enc d125_4 ((X.1.1, (y0, (X.1.2.2.1, (X.1.2.2.2.1, (y1, ()))))), (), ()))) X.1.1 X.1.2.1 X.1.2.2.1 X.1.2.2.2.1
def l125_4 : LEnt := ⟨d125_4, fun X K => iterL (t125_4 X K) fuel X.1.2.2.2.2.1⟩
def L125 : Lam := (Lam.nil).add 4 l125_4
theorem k125_4 : LOk E g125 n125 L125 (loopBody Tryz.f125 0) :=
  lok l125_4 (by kernel_rfl) fuel fun R X K => (loop_iter (σ := Int) (fun x => SD.enc d125_4 ((X.1.1, (X.1.2.1, (X.1.2.2.1, (X.1.2.2.2.1, (x, ()))))), (), ())) (t125_4 X K) (fun m x => by kernel_rfl) fuel X.1.2.2.2.2.1).symm
theorem o125 : FnOk Tryz.prog 125 e125 := fk n125 (((base).add o79).add o161) Tryz.func125 (Λ := L125) (cF k125_4 nF)
def e78 : GEnt := entOf [.data true TSteering, .data false (.int .i64)] [(false, .bool)] fun a => Pu.impl_SteeringOk a.1 a.2.1
def g78 : Gam := (((Gam.nil).add 123 e123).add 124 e124).add 125 e125
def n78 : An := { mask := fun | 4 => [1, 2, 4, 27, 28, 29] | 10 => [1, 4, 45, 46, 47] | _ => [], merge := fun | 1 => some 25 | 6 => some 41 | 12 => some 59 | _ => none }
@[reducible] def d78_4 : SD := ⟨[B,DI,.ptr 2 0,B,DB,B,B,B,B,B,B,B,B,B,B,B,B,B,B,B,B,B,B,B,B,B,B,.data false (.sl .arg TRule),DI,DI,B,B,B,B,B,B,B,B,B,B,B,B,B,B,B,B,B,B,B,B,B,B,B,B,B,B,B,B,B,B,B], [Z,Z,some (.pair (.sl .arg TRule) (.pair (.sl .arg TSlot) (.pair .str (.sl .arg (.int .i64))))),Z,Z,Z,Z,Z,Z,Z,Z,Z,Z,Z,Z,Z,Z,Z,Z,Z,Z,Z,Z,Z,Z,Z,Z,Z,Z,Z,Z,Z,Z,Z,Z,Z,Z,Z,Z,Z,Z,Z,Z,Z,Z,Z,Z,Z,Z,Z,Z,Z,Z,Z,Z,Z,Z,Z,Z,Z,Z], .none⟩
def t78_4 {R : Type} (X : SD.D d78_4) (K : Ex → AS → Option R) := Pu.impl_SteeringOk_T4 (fun y0 => K (.exit 0) (SD.enc d78_4 ((X.1.1, (X.1.2.1, (X.1.2.2.1, (X.1.2.2.2.1, (y0, ()))))), (X.2.1.1, ()), ()))) (fun y0 y1 => K .ret (SD.enc d78_4 ((X.1.1, (y0, (X.1.2.2.1, (X.1.2.2.2.1, (y1, ()))))), (X.2.1.1, ()), ()))) X.1.1 X.1.2.1 X.1.2.2.1 X.1.2.2.2.1 X.2.1.1
def l78_4 : LEnt := ⟨d78_4, fun X K => iterL (t78_4 X K) fuel X.1.2.2.2.2.1⟩
@[reducible] def d78_10 : SD := ⟨[B,DI,B,B,DB,B,B,B,B,B,B,B,B,B,B,B,B,B,B,B,B,B,B,B,B,B,B,B,B,B,B,B,B,B,B,B,B,B,B,B,B,B,B,B,B,.data false (.sl .arg TSlot),DI,DI,B,B,B,B,B,B,B,B,B,B,B,B,B], [Z,Z,Z,Z,Z,Z,Z,Z,Z,Z,Z,Z,Z,Z,Z,Z,Z,Z,Z,Z,Z,Z,Z,Z,Z,Z,Z,Z,Z,Z,Z,Z,Z,Z,Z,Z,Z,Z,Z,Z,Z,Z,Z,Z,Z,Z,Z,Z,Z,Z,Z,Z,Z,Z,Z,Z,Z,Z,Z,Z,Z], .none⟩
def t78_10 {R : Type} (X : SD.D d78_10) (K : Ex → AS → Option R) := Pu.impl_SteeringOk_T10 (fun y0 => K (.exit 2) (SD.enc d78_10 ((X.1.1, (X.1.2.1, (X.1.2.2.1, (X.1.2.2.2.1, (y0, ()))))), (), ()))) (fun y0 y1 => K .ret (SD.enc d78_10 ((X.1.1, (y0, (X.1.2.2.1, (X.1.2.2.2.1, (y1, ()))))), (), ()))) X.1.1 X.1.2.1 X.1.2.2.1 X.1.2.2.2.1
def l78_10 : LEnt := ⟨d78_10, fun X K => iterL (t78_10 X K) fuel X.1.2.2.2.2.1⟩
def L78 : Lam := ((Lam.nil).add 4 l78_4).add 10 l78_10
theorem k78_4 : LOk E g78 n78 L78 (loopBody Tryz.f78 0) :=
  lok l78_4 (by kernel_rfl) fuel fun R X K => (loop_iter (σ := Int) (fun x => SD.enc d78_4 ((X.1.1, (X.1.2.1, (X.1.2.2.1, (X.1.2.2.2.1, (x, ()))))), (X.2.1.1, ()), ())) (t78_4 X K) (fun m x => by kernel_rfl) fuel X.1.2.2.2.2.1).symm
theorem k78_10 : LOk E g78 n78 L78 (loopBody Tryz.f78 1) :=
  lok l78_10 (by kernel_rfl) fuel fun R X K => (loop_iter (σ := Int) (fun x => SD.enc d78_10 ((X.1.1, (X.1.2.1, (X.1.2.2.1, (X.1.2.2.2.1, (x, ()))))), (), ())) (t78_10 X K) (fun m x => by kernel_rfl) fuel X.1.2.2.2.2.1).symm
theorem o78 : FnOk Tryz.prog 78 e78 := fk n78 ((((base).add o123).add o124).add o125) Tryz.func78 (Λ := L78) (cF k78_4 (cF k78_10 nF))
def e34 : GEnt := entOf [.data true TSoft] [(false, .bool)] fun a => Pu.impl_SoftOk a.1
theorem o34 : FnOk Tryz.prog 34 e34 := fk { merge := fun | 1 => some 2 | _ => none } (((base).add o77).add o78) Tryz.func34 (Λ := Lam.nil) nF
def e35 : GEnt := entOf [.data true TAct] [(false, .bool)] fun a => Pu.impl_ActOk a.1
theorem o35 : FnOk Tryz.prog 35 e35 := fk { merge := fun | 1 => some 12 | 3 => some 31 | 5 => some 2 | _ => none } ((base).add o79) Tryz.func35 (Λ := Lam.nil) nF
def e183 : GEnt := entOf [.data false .str] [(false, (.int .i64))] fun a => Pu.impl_Crc32 a.1
def g183 : Gam := Gam.nil
def n183 : An := { mask := fun | 3 => [0, 3, 4] | 7 => [0, 3, 4, 5] | _ => [] }
@[reducible] def d183_7 : SD := ⟨[.data false .str,B,B,.data false (.int .u32),DI,DI,B,B,B,B,B,B,B,B,B,B,B,B,B,B,B,B,B,B,B,B,B,B,B,B,B,B,B,B], [Z,Z,Z,Z,Z,Z,Z,Z,Z,Z,Z,Z,Z,Z,Z,Z,Z,Z,Z,Z,Z,Z,Z,Z,Z,Z,Z,Z,Z,Z,Z,Z,Z,Z], .none⟩
def t183_7 {R : Type} (X : SD.D d183_7) (K : Ex → AS → Option R) := Pu.impl_Crc32_T7 (fun y0 y1 => K (.exit 2) (SD.enc d183_7 ((X.1.1, (y0, (X.1.2.2.1, (y1, ())))), (), ()))) X.1.1 X.1.2.2.1
def l183_7 : LEnt := ⟨d183_7, fun X K => iterL (t183_7 X K) fuel (X.1.2.1, X.1.2.2.2.1)⟩
@[reducible] def d183_3 : SD := ⟨[.data false .str,B,B,.data false (.int .u32),DI,B,B,B,B,B,B,B,B,B,B,B,B,B,B,B,B,B,B,B,B,B,B,B,B,B,B,B,B,B], [Z,Z,Z,Z,Z,Z,Z,Z,Z,Z,Z,Z,Z,Z,Z,Z,Z,Z,Z,Z,Z,Z,Z,Z,Z,Z,Z,Z,Z,Z,Z,Z,Z,Z], .none⟩
def t183_3 {R : Type} (X : SD.D d183_3) (K : Ex → AS → Option R) := Pu.impl_Crc32_T3 (fun y0 y1 => K (.exit 0) (SD.enc d183_3 ((X.1.1, (y0, (y1, ()))), (), ()))) X.1.1
def l183_3 : LEnt := ⟨d183_3, fun X K => iterL (t183_3 X K) fuel (X.1.2.1, X.1.2.2.1)⟩
def L183 : Lam := ((Lam.nil).add 7 l183_7).add 3 l183_3
theorem k183_7 : LOk E g183 n183 L183 (loopBody Tryz.f183 1) :=
  lok l183_7 (by kernel_rfl) fuel fun R X K => (loop_iter (σ := Int × Int) (fun x => SD.enc d183_7 ((X.1.1, (x.1, (X.1.2.2.1, (x.2, ())))), (), ())) (t183_7 X K) (fun m x => by kernel_rfl) fuel (X.1.2.1, X.1.2.2.2.1)).symm
theorem k183_3 : LOk E g183 n183 L183 (loopBody Tryz.f183 0) :=
  lok l183_3 (by kernel_rfl) fuel fun R X K => (loop_iter (σ := Int × Int) (fun x => SD.enc d183_3 ((X.1.1, (x.1, (x.2, ()))), (), ())) (t183_3 X K) (fun m x => by kernel_rfl) fuel (X.1.2.1, X.1.2.2.1)).symm
theorem o183 : FnOk Tryz.prog 183 e183 := fk n183 (base) Tryz.func183 (Λ := L183) (cF k183_3 (cF k183_7 nF))
def e162 : GEnt := entOf [.data false .str] [(false, .str)] fun a => Pu.impl_WithFcs a.1
theorem o162 : FnOk Tryz.prog 162 e162 := fk {} ((base).add o183) Tryz.func162 (Λ := Lam.nil) nF
def e126 : GEnt := entOf [.data false .str] [(false, .str), (false, .bool)] fun a => Pu.impl_CheckFcs a.1
theorem o126 : FnOk Tryz.prog 126 e126 := fk { merge := fun | 2 => some 17 | _ => none } ((base).add o162) Tryz.func126 (Λ := Lam.nil) nF
def e166 : GEnt := entOf [.data true TSegment] [(false, .bool)] fun a => Pu.impl_SegmentOk a.1
theorem o166 : FnOk Tryz.prog 166 e166 := fk { merge := fun | 1 => some 18 | 5 => some 2 | 7 => some 2 | _ => none } ((base).add o79) Tryz.func166 (Λ := Lam.nil) nF
def e167 : GEnt := entOf [.data false (.int .i64)] [(false, .bool)] fun a => Pu.impl_streaming a.1
theorem o167 : FnOk Tryz.prog 167 e167 := fk { merge := fun | 1 => some 2 | _ => none } (base) Tryz.func167 (Λ := Lam.nil) nF
def e130 : GEnt := entOf [.data true TPacket] [(false, .bool)] fun a => Pu.impl_SuperOk a.1
theorem o130 : FnOk Tryz.prog 130 e130 := fk { merge := fun | 1 => some 2 | _ => none } ((((base).add o79).add o166).add o167) Tryz.func130 (Λ := Lam.nil) nF
def e184 : GEnt := entOf [.data false .str, .data false (.int .i64)] [(false, (.int .i64))] fun a => Pu.impl_Get16 a.1 a.2.1
theorem o184 : FnOk Tryz.prog 184 e184 := fk { merge := fun | 1 => some 13 | _ => none } (base) Tryz.func184 (Λ := Lam.nil) nF
def e185 : GEnt := entOf [.data false .str, .data false (.int .i64)] [(false, (.int .i64))] fun a => Pu.impl_Get32 a.1 a.2.1
theorem o185 : FnOk Tryz.prog 185 e185 := fk { merge := fun | 1 => some 13 | _ => none } (base) Tryz.func185 (Λ := Lam.nil) nF
def e186 : GEnt := entOf [.data true TEth] [(false, .bool)] fun a => Pu.impl_EthOk a.1
theorem o186 : FnOk Tryz.prog 186 e186 := fk { merge := fun | 1 => some 2 | _ => none } ((base).add o79) Tryz.func186 (Λ := Lam.nil) nF
def e163 : GEnt := entOf [.data false .str] [(true, (.pair (.int .i64) (.pair (.int .i64) (.pair (.int .i64) (.pair (.int .i64) .str))))), (false, .bool)] fun a => Pu.impl_ParseEth a.1
theorem o163 : FnOk Tryz.prog 163 e163 := fk { merge := fun | 4 => some 33 | _ => none, sb := fun | 4 => some 4 | _ => none } ((((base).add o184).add o185).add o186) Tryz.func163 (Λ := Lam.nil) nF
def e136 : GEnt := entOf [.data false (.int .i64)] [(false, .str)] fun a => Pu.impl_Word16 a.1
theorem o136 : FnOk Tryz.prog 136 e136 := fk {} ((base).add o79) Tryz.func136 (Λ := Lam.nil) nF
def e226 : GEnt := entOf [.data false (.int .i64), .data false (.int .i64)] [(false, (.int .i64))] fun a => Pu.impl_AddSums a.1 a.2.1
theorem o226 : FnOk Tryz.prog 226 e226 := fk { merge := fun | 1 => some 12 | _ => none } ((base).add o79) Tryz.func226 (Λ := Lam.nil) nF
def e220 : GEnt := entOf [.data false .str] [(false, (.int .i64))] fun a => Pu.impl_SumWords a.1
def g220 : Gam := (Gam.nil).add 226 e226
def n220 : An := { mask := fun | 3 => [0, 3, 4] | _ => [] }
@[reducible] def d220_3 : SD := ⟨[.data false .str,B,B,DI,DI,B,B,B,B,B,B,B,B,B,B,B,B,B,B,B,B,B,B,B,B,B,B,B,B,B,B,B,B], [Z,Z,Z,Z,Z,Z,Z,Z,Z,Z,Z,Z,Z,Z,Z,Z,Z,Z,Z,Z,Z,Z,Z,Z,Z,Z,Z,Z,Z,Z,Z,Z,Z], .none⟩
def t220_3 {R : Type} (X : SD.D d220_3) (K : Ex → AS → Option R) := Pu.impl_SumWords_T3 (fun y0 y1 => K (.exit 0) (SD.enc d220_3 ((X.1.1, (y0, (y1, ()))), (), ()))) X.1.1
def l220_3 : LEnt := ⟨d220_3, fun X K => iterL (t220_3 X K) fuel (X.1.2.1, X.1.2.2.1)⟩
def L220 : Lam := (Lam.nil).add 3 l220_3
theorem k220_3 : LOk E g220 n220 L220 (loopBody Tryz.f220 0) :=
  lok l220_3 (by kernel_rfl) fuel fun R X K => (loop_iter (σ := Int × Int) (fun x => SD.enc d220_3 ((X.1.1, (x.1, (x.2, ()))), (), ())) (t220_3 X K) (fun m x => by kernel_rfl) fuel (X.1.2.1, X.1.2.2.1)).symm
theorem o220 : FnOk Tryz.prog 220 e220 := fk n220 ((base).add o226) Tryz.func220 (Λ := L220) (cF k220_3 nF)
def e205 : GEnt := entOf [.data false .str] [(false, (.int .i64))] fun a => Pu.impl_Checksum a.1
theorem o205 : FnOk Tryz.prog 205 e205 := fk {} ((base).add o220) Tryz.func205 (Λ := Lam.nil) nF
def e206 : GEnt := entOf [.data false .str, .data false (.int .i64), .data false .str] [(false, .str)] fun a => Pu.impl_PutBytes a.1 a.2.1 a.2.2.1
theorem o206 : FnOk Tryz.prog 206 e206 := fk { merge := fun | 1 => some 17 | _ => none } (base) Tryz.func206 (Λ := Lam.nil) nF
def e218 : GEnt := entOf [.data true TIp] [(false, .bool)] fun a => Pu.impl_IpOk a.1
theorem o218 : FnOk Tryz.prog 218 e218 := fk { merge := fun | 1 => some 2 | _ => none } ((base).add o79) Tryz.func218 (Λ := Lam.nil) nF
def e219 : GEnt := entOf [.data false (.int .i64)] [(false, .str)] fun a => Pu.impl_Word32 a.1
theorem o219 : FnOk Tryz.prog 219 e219 := fk {} ((base).add o79) Tryz.func219 (Λ := Lam.nil) nF
def e202 : GEnt := entOf [.data true TIp] [(false, .str), (false, .bool)] fun a => Pu.impl_IpHeader a.1
theorem o202 : FnOk Tryz.prog 202 e202 := fk {} ((((((base).add o136).add o205).add o206).add o218).add o219) Tryz.func202 (Λ := Lam.nil) nF
def e187 : GEnt := entOf [.data true TIp] [(false, .str), (false, .bool)] fun a => Pu.impl_BuildIp a.1
theorem o187 : FnOk Tryz.prog 187 e187 := fk {} ((base).add o202) Tryz.func187 (Λ := Lam.nil) nF
def e164 : GEnt := entOf [.data false .str] [(true, (.pair (.int .i64) (.pair (.int .i64) (.pair (.int .i64) (.pair (.int .i64) (.pair (.int .i64) (.pair (.int .i64) .str))))))), (false, .bool)] fun a => Pu.impl_ParseIp a.1
theorem o164 : FnOk Tryz.prog 164 e164 := fk { merge := fun | 2 => some 22 | 6 => some 56 | _ => none, sb := fun | 5 => some 5 | _ => none } ((((base).add o184).add o185).add o187) Tryz.func164 (Λ := Lam.nil) nF
def e203 : GEnt := entOf [.data true TSegment] [(false, .str)] fun a => Pu.impl_bareSegment a.1
theorem o203 : FnOk Tryz.prog 203 e203 := fk {} (((base).add o136).add o219) Tryz.func203 (Λ := Lam.nil) nF
def e204 : GEnt := entOf [.data false (.int .i64), .data false (.int .i64), .data false (.int .i64), .data false (.int .i64)] [(false, .str), (false, .bool)] fun a => Pu.impl_PseudoHeader a.1 a.2.1 a.2.2.1 a.2.2.2.1
theorem o204 : FnOk Tryz.prog 204 e204 := fk { merge := fun | 1 => some 27 | _ => none } ((((base).add o79).add o136).add o219) Tryz.func204 (Λ := Lam.nil) nF
def e207 : GEnt := entOf [.data false (.int .i64)] [(false, (.int .i64))] fun a => Pu.impl_sumPlace a.1
theorem o207 : FnOk Tryz.prog 207 e207 := fk {} (base) Tryz.func207 (Λ := Lam.nil) nF
def e188 : GEnt := entOf [.data false (.int .i64), .data false (.int .i64), .data true TSegment] [(false, .str), (false, .bool)] fun a => Pu.impl_BuildSegment a.1 a.2.1 a.2.2.1
theorem o188 : FnOk Tryz.prog 188 e188 := fk { merge := fun | 8 => some 39 | _ => none } ((((((((base).add o136).add o166).add o203).add o204).add o205).add o206).add o207) Tryz.func188 (Λ := Lam.nil) nF
def e165 : GEnt := entOf [.data false (.int .i64), .data false (.int .i64), .data false (.int .i64), .data false .str] [(true, (.pair (.int .i64) (.pair (.int .i64) (.pair (.int .i64) (.pair (.int .i64) (.pair (.int .i64) (.pair (.int .i64) (.pair (.int .i64) .str)))))))), (false, .bool)] fun a => Pu.impl_ParseSegment a.1 a.2.1 a.2.2.1 a.2.2.2.1
theorem o165 : FnOk Tryz.prog 165 e165 := fk { merge := fun | 3 => some 20 | 9 => some 44 | 12 => some 68 | _ => none } ((((base).add o184).add o185).add o188) Tryz.func165 (Λ := Lam.nil) nF
def e127 : GEnt := entOf [.data false .str] [(true, (.pair (.int .i64) (.pair (.int .i64) (.pair (.int .i64) (.pair (.int .i64) (.pair (.int .i64) (.pair (.int .i64) (.pair (.int .i64) (.pair (.int .i64) (.pair (.int .i64) (.pair (.int .i64) (.pair (.int .i64) (.pair (.int .i64) (.pair (.int .i64) (.pair (.int .i64) (.pair (.int .i64) .str)))))))))))))))), (false, (.int .i64))] fun a => Pu.impl_ReadImage a.1
theorem o127 : FnOk Tryz.prog 127 e127 := fk { merge := fun | 2 => some 20 | _ => none } (((((base).add o130).add o163).add o164).add o165) Tryz.func127 (Λ := Lam.nil) nF
def e128 : GEnt := entOf [.data true TPacket] [(false, .bool)] fun a => Pu.impl_PacketOk a.1
theorem o128 : FnOk Tryz.prog 128 e128 := fk { merge := fun | 1 => some 2 | _ => none } ((base).add o130) Tryz.func128 (Λ := Lam.nil) nF
def e80 : GEnt := entOf [.data false .str] [(true, (.pair (.int .i64) (.pair (.int .i64) (.pair (.int .i64) (.pair (.int .i64) (.pair (.int .i64) (.pair (.int .i64) (.pair (.int .i64) (.pair (.int .i64) (.pair (.int .i64) (.pair (.int .i64) (.pair (.int .i64) (.pair (.int .i64) (.pair (.int .i64) (.pair (.int .i64) (.pair (.int .i64) .str)))))))))))))))), (false, (.int .i64))] fun a => Pu.impl_ReadFrame a.1
theorem o80 : FnOk Tryz.prog 80 e80 := fk {} ((((base).add o126).add o127).add o128) Tryz.func80 (Λ := Lam.nil) nF
def e129 : GEnt := entOf [.data false (.sl (.int .i64)), .data false (.int .i64)] [(false, .bool)] fun a => Pu.impl_hasInt a.1 a.2.1
def g129 : Gam := Gam.nil
def n129 : An := { mask := fun | 2 => [1, 4, 7, 8, 9] | _ => [] }
@[reducible] def d129_2 : SD := ⟨[B,DI,B,B,DB,B,B,.data false (.sl .arg (.int .i64)),DI,DI,B,B,B,B,B,B,B], [Z,Z,Z,Z,Z,Z,Z,Z,Z,Z,Z,Z,Z,Z,Z,Z,Z], .none⟩
def t129_2 {R : Type} (X : SD.D d129_2) (K : Ex → AS → Option R) := Pu.impl_hasInt_T2 (fun y0 => K (.exit 0) (SD.enc d129_2 ((X.1.1, (X.1.2.1, (X.1.2.2.1, (X.1.2.2.2.1, (y0, ()))))), (), ()))) (fun y0 y1 => K .ret (SD.enc d129_2 ((X.1.1, (y0, (X.1.2.2.1, (X.1.2.2.2.1, (y1, ()))))), (), ()))) X.1.1 X.1.2.1 X.1.2.2.1 X.1.2.2.2.1
def l129_2 : LEnt := ⟨d129_2, fun X K => iterL (t129_2 X K) fuel X.1.2.2.2.2.1⟩
def L129 : Lam := (Lam.nil).add 2 l129_2
theorem k129_2 : LOk E g129 n129 L129 (loopBody Tryz.f129 0) :=
  lok l129_2 (by kernel_rfl) fuel fun R X K => (loop_iter (σ := Int) (fun x => SD.enc d129_2 ((X.1.1, (X.1.2.1, (X.1.2.2.1, (X.1.2.2.2.1, (x, ()))))), (), ())) (t129_2 X K) (fun m x => by kernel_rfl) fuel X.1.2.2.2.2.1).symm
theorem o129 : FnOk Tryz.prog 129 e129 := fk n129 (base) Tryz.func129 (Λ := L129) (cF k129_2 nF)
def e81 : GEnt := entOf [.data true TFilter, .data true TPacket] [(false, .bool)] fun a => Pu.impl_Accepts a.1 a.2.1
theorem o81 : FnOk Tryz.prog 81 e81 := fk { merge := fun | 1 => some 4 | _ => none } (((base).add o77).add o129) Tryz.func81 (Λ := Lam.nil) nF
def e189 : GEnt := entOf [.data false (.int .i64), .data false (.int .i64), .data false (.int .i64)] [(false, .bool)] fun a => Pu.impl_samePrefix a.1 a.2.1 a.2.2.1
theorem o189 : FnOk Tryz.prog 189 e189 := fk {} (base) Tryz.func189 (Λ := Lam.nil) nF
def e168 : GEnt := entOf [.data true TRule, .data true TPacket] [(false, .bool)] fun a => Pu.impl_RuleMatches a.1 a.2.1
theorem o168 : FnOk Tryz.prog 168 e168 := fk { merge := fun | 1 => some 4 | _ => none } (((((base).add o79).add o130).add o158).add o189) Tryz.func168 (Λ := Lam.nil) nF
def e131 : GEnt := entOf [.data false (.sl TRule), .data true TPacket] [(false, (.int .i64))] fun a => Pu.impl_FindRule a.1 a.2.1
def g131 : Gam := ((Gam.nil).add 123 e123).add 168 e168
def n131 : An := { mask := fun | 5 => [0, 3, 5, 11, 12, 13] | _ => [], merge := fun | 7 => some 34 | _ => none }
@[reducible] def d131_5 : SD := ⟨[.data false (.sl .arg TRule),B,B,.ptr 3 0,B,DI,B,B,B,B,B,.data false (.sl .arg TRule),DI,DI,B,B,B,B,B,B,B,B,B,B,B,B,B,B,B,B,B,B,B,B,B,B,B,B], [Z,Z,Z,some (.pair (.int .i64) (.pair (.int .i64) (.pair (.int .i64) (.pair (.int .i64) (.pair (.int .i64) (.pair (.int .i64) (.pair (.int .i64) (.pair (.int .i64) (.pair (.int .i64) (.pair (.int .i64) (.pair (.int .i64) (.pair (.int .i64) (.pair (.int .i64) (.pair (.int .i64) (.pair (.int .i64) .str))))))))))))))),Z,Z,Z,Z,Z,Z,Z,Z,Z,Z,Z,Z,Z,Z,Z,Z,Z,Z,Z,Z,Z,Z,Z,Z,Z,Z,Z,Z,Z,Z,Z,Z,Z,Z], .none⟩
def t131_5 {R : Type} (X : SD.D d131_5) (K : Ex → AS → Option R) := Pu.impl_FindRule_T5 (fun y0 y1 => K (.exit 0) (SD.enc d131_5 ((X.1.1, (y0, (X.1.2.2.1, (X.1.2.2.2.1, (y1, ()))))), (X.2.1.1, ()), ()))) X.1.1 X.1.2.2.1 X.1.2.2.2.1 X.2.1.1
def l131_5 : LEnt := ⟨d131_5, fun X K => iterL (t131_5 X K) fuel (X.1.2.1, X.1.2.2.2.2.1)⟩
def L131 : Lam := (Lam.nil).add 5 l131_5
theorem k131_5 : LOk E g131 n131 L131 (loopBody Tryz.f131 0) :=
  lok l131_5 (by kernel_rfl) fuel fun R X K => (loop_iter (σ := Int × Int) (fun x => SD.enc d131_5 ((X.1.1, (x.1, (X.1.2.2.1, (X.1.2.2.2.1, (x.2, ()))))), (X.2.1.1, ()), ())) (t131_5 X K) (fun m x => by kernel_rfl) fuel (X.1.2.1, X.1.2.2.2.2.1)).symm
theorem o131 : FnOk Tryz.prog 131 e131 := fk n131 (((base).add o123).add o168) Tryz.func131 (Λ := L131) (cF k131_5 nF)
def e132 : GEnt := entOf [.data true (.sl TSlot), .data true TFlow] [(false, (.int .i64))] fun a => Pu.impl_FindFlow a.1 a.2.1
theorem o132 : FnOk Tryz.prog 132 e132 := fk {} (((base).add o124).add o159) Tryz.func132 (Λ := Lam.nil) nF
def e133 : GEnt := entOf [.data true TPacket] [(true, (.pair (.int .i64) (.pair (.int .i64) (.pair (.int .i64) (.pair (.int .i64) (.int .i64))))))] fun a => Pu.impl_FlowOf a.1
theorem o133 : FnOk Tryz.prog 133 e133 := fk {} (base) Tryz.func133 (Λ := Lam.nil) nF
def e221 : GEnt := entOf [.data false .str, .data false (.int .i64)] [(false, (.int .i64))] fun a => Pu.impl_keyBit a.1 a.2.1
theorem o221 : FnOk Tryz.prog 221 e221 := fk {} (base) Tryz.func221 (Λ := Lam.nil) nF
def e222 : GEnt := entOf [.data false .str, .data false (.int .i64)] [(false, (.int .i64))] fun a => Pu.impl_KeyWindow a.1 a.2.1
def g222 : Gam := ((Gam.nil).add 79 e79).add 221 e221
def n222 : An := { mask := fun | 5 => [0, 1, 5, 6] | _ => [], merge := fun | 1 => some 14 | _ => none }
@[reducible] def d222_5 : SD := ⟨[.data false .str,DI,B,B,B,DI,DI,B,B,B,B,B,B,B,B,B,B,B,B,B,B,B,B,B,B,B,B,B,B], [Z,Z,Z,Z,Z,Z,Z,Z,Z,Z,Z,Z,Z,Z,Z,Z,Z,Z,Z,Z,Z,Z,Z,Z,Z,Z,Z,Z,Z], .none⟩
def t222_5 {R : Type} (X : SD.D d222_5) (K : Ex → AS → Option R) := Pu.impl_KeyWindow_T5 (fun y0 y1 => K (.exit 0) (SD.enc d222_5 ((X.1.1, (X.1.2.1, (y0, (y1, ())))), (), ()))) X.1.1 X.1.2.1
def l222_5 : LEnt := ⟨d222_5, fun X K => iterL (t222_5 X K) fuel (X.1.2.2.1, X.1.2.2.2.1)⟩
def L222 : Lam := (Lam.nil).add 5 l222_5
theorem k222_5 : LOk E g222 n222 L222 (loopBody Tryz.f222 0) :=
  lok l222_5 (by kernel_rfl) fuel fun R X K => (loop_iter (σ := Int × Int) (fun x => SD.enc d222_5 ((X.1.1, (X.1.2.1, (x.1, (x.2, ())))), (), ())) (t222_5 X K) (fun m x => by kernel_rfl) fuel (X.1.2.2.1, X.1.2.2.2.1)).symm
theorem o222 : FnOk Tryz.prog 222 e222 := fk n222 (((base).add o79).add o221) Tryz.func222 (Λ := L222) (cF k222_5 nF)
def e208 : GEnt := entOf [.data false .str, .data false .str] [(false, (.int .i64))] fun a => Pu.impl_HashBytes a.1 a.2.1
def g208 : Gam := ((Gam.nil).add 221 e221).add 222 e222
def n208 : An := { mask := fun | 5 => [0, 1, 5, 6] | _ => [], merge := fun | 1 => some 14 | _ => none }
@[reducible] def d208_5 : SD := ⟨[.data false .str,.data false .str,B,B,B,DI,DI,B,B,B,B,B,B,B,B,B,B,B,B,B,B,B,B,B,B,B,B,B,B,B,B,B], [Z,Z,Z,Z,Z,Z,Z,Z,Z,Z,Z,Z,Z,Z,Z,Z,Z,Z,Z,Z,Z,Z,Z,Z,Z,Z,Z,Z,Z,Z,Z,Z], .none⟩
def t208_5 {R : Type} (X : SD.D d208_5) (K : Ex → AS → Option R) := Pu.impl_HashBytes_T5 (fun y0 y1 => K (.exit 0) (SD.enc d208_5 ((X.1.1, (X.1.2.1, (y0, (y1, ())))), (), ()))) X.1.1 X.1.2.1
def l208_5 : LEnt := ⟨d208_5, fun X K => iterL (t208_5 X K) fuel (X.1.2.2.1, X.1.2.2.2.1)⟩
def L208 : Lam := (Lam.nil).add 5 l208_5
theorem k208_5 : LOk E g208 n208 L208 (loopBody Tryz.f208 0) :=
  lok l208_5 (by kernel_rfl) fuel fun R X K => (loop_iter (σ := Int × Int) (fun x => SD.enc d208_5 ((X.1.1, (X.1.2.1, (x.1, (x.2, ())))), (), ())) (t208_5 X K) (fun m x => by kernel_rfl) fuel (X.1.2.2.1, X.1.2.2.2.1)).symm
theorem o208 : FnOk Tryz.prog 208 e208 := fk n208 (((base).add o221).add o222) Tryz.func208 (Λ := L208) (cF k208_5 nF)
def e209 : GEnt := entOf [.data true TFlow] [(false, .str)] fun a => Pu.impl_HashInput a.1
theorem o209 : FnOk Tryz.prog 209 e209 := fk {} (((base).add o136).add o219) Tryz.func209 (Λ := Lam.nil) nF
def e190 : GEnt := entOf [.data false .str, .data true TFlow] [(false, (.int .i64))] fun a => Pu.impl_HashFlow a.1 a.2.1
theorem o190 : FnOk Tryz.prog 190 e190 := fk {} (((base).add o208).add o209) Tryz.func190 (Λ := Lam.nil) nF
def e169 : GEnt := entOf [.data true TSpread, .data true TFlow] [(false, (.int .i64))] fun a => Pu.impl_EntryOf a.1 a.2.1
theorem o169 : FnOk Tryz.prog 169 e169 := fk { merge := fun | 2 => some 17 | _ => none } ((base).add o190) Tryz.func169 (Λ := Lam.nil) nF
def e134 : GEnt := entOf [.data true TSpread, .data false (.int .i64), .data true TFlow] [(false, (.int .i64))] fun a => Pu.impl_SpreadQueue a.1 a.2.1 a.2.2.1
theorem o134 : FnOk Tryz.prog 134 e134 := fk { merge := fun | 2 => some 18 | _ => none } (((base).add o125).add o169) Tryz.func134 (Λ := Lam.nil) nF
def e82 : GEnt := entOf [.data true TSteering, .data false (.int .i64), .data true TPacket] [(false, (.int .i64))] fun a => Pu.impl_SteerPacket a.1 a.2.1 a.2.2.1
theorem o82 : FnOk Tryz.prog 82 e82 := fk { merge := fun | 1 => some 17 | _ => none } (((((((base).add o78).add o130).add o131).add o132).add o133).add o134) Tryz.func82 (Λ := Lam.nil) nF
def e135 : GEnt := entOf [.data false (.sl TStream), .data true TFlow] [(false, (.int .i64))] fun a => Pu.impl_StreamIndex a.1 a.2.1
def g135 : Gam := Gam.nil
def n135 : An := { mask := fun | 2 => [3, 4, 7, 8, 9] | _ => [] }
@[reducible] def d135_2 : SD := ⟨[B,B,B,.ptr 3 0,DI,B,B,.data false (.sl .arg TStream),DI,DI,B,B,B,B,B,B,B,B,B,B], [Z,Z,Z,some (.pair (.int .i64) (.pair (.int .i64) (.pair (.int .i64) (.pair (.int .i64) (.int .i64))))),Z,Z,Z,Z,Z,Z,Z,Z,Z,Z,Z,Z,Z,Z,Z,Z], .none⟩
def t135_2 {R : Type} (X : SD.D d135_2) (K : Ex → AS → Option R) := Pu.impl_StreamIndex_T2 (fun y0 => K (.exit 0) (SD.enc d135_2 ((X.1.1, (X.1.2.1, (X.1.2.2.1, (y0, ())))), (X.2.1.1, ()), ()))) (fun y0 y1 => K .ret (SD.enc d135_2 ((y0, (X.1.2.1, (X.1.2.2.1, (y1, ())))), (X.2.1.1, ()), ()))) X.1.1 X.1.2.1 X.1.2.2.1 X.2.1.1
def l135_2 : LEnt := ⟨d135_2, fun X K => iterL (t135_2 X K) fuel X.1.2.2.2.1⟩
def L135 : Lam := (Lam.nil).add 2 l135_2
theorem k135_2 : LOk E g135 n135 L135 (loopBody Tryz.f135 0) :=
  lok l135_2 (by kernel_rfl) fuel fun R X K => (loop_iter (σ := Int) (fun x => SD.enc d135_2 ((X.1.1, (X.1.2.1, (X.1.2.2.1, (x, ())))), (X.2.1.1, ()), ())) (t135_2 X K) (fun m x => by kernel_rfl) fuel X.1.2.2.2.1).symm
theorem o135 : FnOk Tryz.prog 135 e135 := fk n135 (base) Tryz.func135 (Λ := L135) (cF k135_2 nF)
def e83 : GEnt := entOf [.data false (.sl TStream), .data true TPacket] [(false, (.sl (.own none) TStream))] fun a => Pu.impl_Deliver a.1 a.2.1
theorem o83 : FnOk Tryz.prog 83 e83 := fk { merge := fun | 17 => some 82 | _ => none, mv := [16, 31, 51, 58, 67, 83, 132], er := fun | 115 => some 5 | _ => none } (((((((base).add o75).add o130).add o133).add o135).add o136).add o137) Tryz.func83 (Λ := Lam.nil) nF
def e36 : GEnt := entOf [.data true TSoft, .data false .str] [(true, (.pair (.pair (.int .i64) (.pair .bool (.sl (.own none) (.int .i64)))) (.pair (.pair (.sl (.own none) TRule) (.pair (.sl (.own none) TSlot) (.pair .str (.sl (.own none) (.int .i64))))) (.pair (.int .i64) (.pair (.sl (.own none) TStream) (.sl (.own none) .str))))))] fun a => Pu.impl_SoftReceive a.1 a.2.1
theorem o36 : FnOk Tryz.prog 36 e36 := fk { merge := fun | 3 => some 35 | _ => none, mv := [41] } (((((((base).add o33).add o34).add o80).add o81).add o82).add o83) Tryz.func36 (Λ := Lam.nil) nF
def e223 : GEnt := entOf [.data false (.int .i64)] [(false, .str)] fun a => Pu.impl_macBytes a.1
theorem o223 : FnOk Tryz.prog 223 e223 := fk {} (((base).add o136).add o219) Tryz.func223 (Λ := Lam.nil) nF
def e210 : GEnt := entOf [.data true TEth] [(false, .str), (false, .bool)] fun a => Pu.impl_BuildEth a.1
theorem o210 : FnOk Tryz.prog 210 e210 := fk {} ((((base).add o136).add o186).add o223) Tryz.func210 (Λ := Lam.nil) nF
def e224 : GEnt := entOf [.data false (.int .u8), .data false (.int .i64)] [(false, .str)] fun a => Pu.impl_repeat a.1 a.2.1
def g224 : Gam := Gam.nil
def n224 : An := { mask := fun | 3 => [0, 5, 10, 11] | _ => [] }
@[reducible] def d224_3 : SD := ⟨[.data false (.int .u8),B,B,B,B,.data false (.sl (.own (some 61440)) (.int .u8)),B,B,B,B,DI,DI,B,B,B,B,B,B,B,B,B], [Z,Z,Z,Z,Z,Z,Z,Z,Z,Z,Z,Z,Z,Z,Z,Z,Z,Z,Z,Z,Z], .none⟩
def t224_3 {R : Type} (X : SD.D d224_3) (K : Ex → AS → Option R) := Pu.impl_repeat_T3 (fun y0 y1 => K (.exit 0) (SD.enc d224_3 ((X.1.1, (y0, (X.1.2.2.1, (y1, ())))), (), ()))) X.1.1 X.1.2.2.1
def l224_3 : LEnt := ⟨d224_3, fun X K => iterL (t224_3 X K) fuel (X.1.2.1, X.1.2.2.2.1)⟩
def L224 : Lam := (Lam.nil).add 3 l224_3
theorem k224_3 : LOk E g224 n224 L224 (loopBody Tryz.f224 0) :=
  lok l224_3 (by kernel_rfl) fuel fun R X K => (loop_iter (σ := (List Int) × Int) (fun x => SD.enc d224_3 ((X.1.1, (x.1, (X.1.2.2.1, (x.2, ())))), (), ())) (t224_3 X K) (fun m x => by kernel_rfl) fuel (X.1.2.1, X.1.2.2.2.1)).symm
theorem o224 : FnOk Tryz.prog 224 e224 := fk n224 (base) Tryz.func224 (Λ := L224) (cF k224_3 nF)
def e211 : GEnt := entOf [.data false .str] [(false, .str)] fun a => Pu.impl_PadBody a.1
theorem o211 : FnOk Tryz.prog 211 e211 := fk {} ((base).add o224) Tryz.func211 (Λ := Lam.nil) nF
def e191 : GEnt := entOf [.data true TPacket] [(false, .str), (false, .bool)] fun a => Pu.impl_BuildImage a.1
theorem o191 : FnOk Tryz.prog 191 e191 := fk {} ((((((base).add o130).add o187).add o188).add o210).add o211) Tryz.func191 (Λ := Lam.nil) nF
def e170 : GEnt := entOf [.data true TPacket] [(false, .str), (false, .bool)] fun a => Pu.impl_BuildFrame a.1
theorem o170 : FnOk Tryz.prog 170 e170 := fk {} ((((base).add o128).add o162).add o191) Tryz.func170 (Λ := Lam.nil) nF
def e138 : GEnt := entOf [.data false (.sl TPacket)] [(false, (.sl (.own none) .str))] fun a => Pu.impl_FrameAll a.1
def g138 : Gam := (Gam.nil).add 170 e170
def n138 : An := { mask := fun | 3 => [3, 9, 10, 11] | _ => [], mv := [21, 26] }
@[reducible] def d138_3 : SD := ⟨[B,B,B,.data false (.sl (.own (some 36864)) .str),B,B,B,B,B,.data false (.sl .arg TPacket),DI,DI,B,B,B,B,B,B,B,B,B,B,B,B,B,B,B], [Z,Z,Z,Z,Z,Z,Z,Z,Z,Z,Z,Z,Z,Z,Z,Z,Z,Z,Z,Z,Z,Z,Z,Z,Z,Z,Z], .none⟩
def t138_3 {R : Type} (X : SD.D d138_3) (K : Ex → AS → Option R) := Pu.impl_FrameAll_T3 (fun y0 y1 => K (.exit 0) (SD.enc d138_3 ((y0, (X.1.2.1, (X.1.2.2.1, (y1, ())))), (), ()))) X.1.2.1 X.1.2.2.1
def l138_3 : LEnt := ⟨d138_3, fun X K => iterL (t138_3 X K) fuel (X.1.1, X.1.2.2.2.1)⟩
def L138 : Lam := (Lam.nil).add 3 l138_3
theorem k138_3 : LOk E g138 n138 L138 (loopBody Tryz.f138 0) :=
  lok l138_3 (by kernel_rfl) fuel fun R X K => (loop_iter (σ := (List Pu.Bytes) × Int) (fun x => SD.enc d138_3 ((x.1, (X.1.2.1, (X.1.2.2.1, (x.2, ())))), (), ())) (t138_3 X K) (fun m x => by kernel_rfl) fuel (X.1.1, X.1.2.2.2.1)).symm
theorem o138 : FnOk Tryz.prog 138 e138 := fk n138 ((base).add o170) Tryz.func138 (Λ := L138) (cF k138_3 nF)
def e139 : GEnt := entOf [.data true TPacket, .data false (.int .i64)] [(false, (.sl (.own none) TPacket))] fun a => Pu.impl_Split a.1 a.2.1
def g139 : Gam := ((Gam.nil).add 79 e79).add 130 e130
def n139 : An := { mask := fun | 8 => [1, 2, 5, 6, 7] | _ => [], merge := fun | 1 => some 17 | 4 => some 30 | _ => none, mv := [83, 87] }
@[reducible] def d139_8 : SD := ⟨[B,DI,.ptr 2 0,B,B,.data false .str,.data false (.sl (.own (some 73728)) TPacket),DI,B,B,B,B,B,B,B,B,B,B,B,B,B,B,B,B,B,B,B,B,B,B,B,B,B,B,B,B,B,B,B,B,B,B,B,B,B,B,B,B,B,B,B,B,B,B,B,B,B,B,B,B,B,B,B,B,B,B,B,B,B,B,B,B,B,B,B,B,B,B,B,B,B,B,B,B,B,B,B,B], [Z,Z,some (.pair (.int .i64) (.pair (.int .i64) (.pair (.int .i64) (.pair (.int .i64) (.pair (.int .i64) (.pair (.int .i64) (.pair (.int .i64) (.pair (.int .i64) (.pair (.int .i64) (.pair (.int .i64) (.pair (.int .i64) (.pair (.int .i64) (.pair (.int .i64) (.pair (.int .i64) (.pair (.int .i64) .str))))))))))))))),Z,Z,Z,Z,Z,Z,Z,Z,Z,Z,Z,Z,Z,Z,Z,Z,Z,Z,Z,Z,Z,Z,Z,Z,Z,Z,Z,Z,Z,Z,Z,Z,Z,Z,Z,Z,Z,Z,Z,Z,Z,Z,Z,Z,Z,Z,Z,Z,Z,Z,Z,Z,Z,Z,Z,Z,Z,Z,Z,Z,Z,Z,Z,Z,Z,Z,Z,Z,Z,Z,Z,Z,Z,Z,Z,Z,Z,Z,Z,Z,Z,Z,Z,Z,Z], .none⟩
def t139_8 {R : Type} (X : SD.D d139_8) (K : Ex → AS → Option R) := Pu.impl_Split_T8 (fun y0 y1 => K (.exit 0) (SD.enc d139_8 ((X.1.1, (X.1.2.1, (y0, (y1, ())))), (X.2.1.1, ()), ()))) X.1.1 X.1.2.1 X.2.1.1
def l139_8 : LEnt := ⟨d139_8, fun X K => iterL (t139_8 X K) fuel (X.1.2.2.1, X.1.2.2.2.1)⟩
def L139 : Lam := (Lam.nil).add 8 l139_8
theorem k139_8 : LOk E g139 n139 L139 (loopBody Tryz.f139 0) :=
  lok l139_8 (by kernel_rfl) fuel fun R X K => (loop_iter (σ := (List Pu.Packet) × Int) (fun x => SD.enc d139_8 ((X.1.1, (X.1.2.1, (x.1, (x.2, ())))), (X.2.1.1, ()), ())) (t139_8 X K) (fun m x => by kernel_rfl) fuel (X.1.2.2.1, X.1.2.2.2.1)).symm
theorem o139 : FnOk Tryz.prog 139 e139 := fk n139 (((base).add o79).add o130) Tryz.func139 (Λ := L139) (cF k139_8 nF)
def e84 : GEnt := entOf [.data true TPacket, .data false (.int .i64)] [(false, (.sl (.own none) .str))] fun a => Pu.impl_SendFrames a.1 a.2.1
theorem o84 : FnOk Tryz.prog 84 e84 := fk {} (((base).add o138).add o139) Tryz.func84 (Λ := Lam.nil) nF
def e37 : GEnt := entOf [.data true TSoft, .data true TPacket, .data false (.int .i64)] [(true, (.pair (.pair (.int .i64) (.pair .bool (.sl (.own none) (.int .i64)))) (.pair (.pair (.sl (.own none) TRule) (.pair (.sl (.own none) TSlot) (.pair .str (.sl (.own none) (.int .i64))))) (.pair (.int .i64) (.pair (.sl (.own none) TStream) (.sl (.own none) .str))))))] fun a => Pu.impl_SoftSend a.1 a.2.1 a.2.2.1
theorem o37 : FnOk Tryz.prog 37 e37 := fk { mv := [13, 19], mb := fun | 13 => some 7 | _ => none, sb := fun | 18 => some 7 | _ => none } ((((base).add o33).add o34).add o84) Tryz.func37 (Λ := Lam.nil) nF
def e10 : GEnt := entOf [.data true TSoft, .data false (.sl TAct), .data false (.sl (.int .i64))] [(true, (.pair (.pair (.int .i64) (.pair .bool (.sl (.own none) (.int .i64)))) (.pair (.pair (.sl (.own none) TRule) (.pair (.sl (.own none) TSlot) (.pair .str (.sl (.own none) (.int .i64))))) (.pair (.int .i64) (.pair (.sl (.own none) TStream) (.sl (.own none) .str))))))] fun a => Pu.impl_RunSoft a.1 a.2.1 a.2.2.1
def g10 : Gam := (((((Gam.nil).add 33 e33).add 34 e34).add 35 e35).add 36 e36).add 37 e37
def n10 : An := { mask := fun | 5 => [2, 6, 7, 28, 29, 30] | _ => [], merge := fun | 2 => some 26 | 10 => some 47 | _ => none, mv := [27, 65] }
@[reducible] def d10_5 : SD := ⟨[B,B,.data false (.sl .arg (.int .i64)),B,B,B,.ptr 6 0,.ptr 7 0,B,B,B,B,B,B,B,B,B,B,B,B,B,B,B,B,B,B,B,B,.data false (.sl .arg TAct),DI,DI,B,B,B,B,B,B,B,B,B,B,B,B,B,B,B,B,B,B,B,B,B,B,B,B,B,B,B,B,B,B,B,B,B,B,B], [Z,Z,Z,Z,Z,Z,some (.pair (.pair (.int .i64) (.pair .bool (.sl (.own (some 73735)) (.int .i64)))) (.pair (.pair (.sl (.own (some 73738)) TRule) (.pair (.sl (.own (some 73741)) TSlot) (.pair .str (.sl (.own (some 73747)) (.int .i64))))) (.pair (.int .i64) (.pair (.sl (.own (some 73753)) TStream) (.sl (.own (some 73756)) .str))))),some (.pair (.pair (.int .i64) (.pair .bool (.sl (.own (some 86023)) (.int .i64)))) (.pair (.pair (.sl (.own (some 86026)) TRule) (.pair (.sl (.own (some 86029)) TSlot) (.pair .str (.sl (.own (some 86035)) (.int .i64))))) (.pair (.int .i64) (.pair (.sl (.own (some 86041)) TStream) (.sl (.own (some 86044)) .str))))),Z,Z,Z,Z,Z,Z,Z,Z,Z,Z,Z,Z,Z,Z,Z,Z,Z,Z,Z,Z,Z,Z,Z,Z,Z,Z,Z,Z,Z,Z,Z,Z,Z,Z,Z,Z,Z,Z,Z,Z,Z,Z,Z,Z,Z,Z,Z,Z,Z,Z,Z,Z,Z,Z,Z,Z,Z,Z], .none⟩
def t10_5 {R : Type} (X : SD.D d10_5) (K : Ex → AS → Option R) := Pu.impl_RunSoft_T5 (fun y0 y1 => K (.exit 0) (SD.enc d10_5 ((X.1.1, (X.1.2.1, (X.1.2.2.1, (y0, ())))), (X.2.1.1, (y1, ())), ()))) X.1.1 X.1.2.1 X.1.2.2.1 X.2.1.1
def l10_5 : LEnt := ⟨d10_5, fun X K => iterL (t10_5 X K) fuel (X.1.2.2.2.1, X.2.1.2.1)⟩
def L10 : Lam := (Lam.nil).add 5 l10_5
theorem k10_5 : LOk E g10 n10 L10 (loopBody Tryz.f10 0) :=
  lok l10_5 (by kernel_rfl) fuel fun R X K => (loop_iter (σ := Int × Pu.Soft) (fun x => SD.enc d10_5 ((X.1.1, (X.1.2.1, (X.1.2.2.1, (x.1, ())))), (X.2.1.1, (x.2, ())), ())) (t10_5 X K) (fun m x => by kernel_rfl) fuel (X.1.2.2.2.1, X.2.1.2.1)).symm
theorem o10 : FnOk Tryz.prog 10 e10 := fk n10 ((((((base).add o33).add o34).add o35).add o36).add o37) Tryz.func10 (Λ := L10) (cF k10_5 nF)
def e13 : GEnt := entOf [.data false (.sl (.int .i64)), .data false (.sl (.int .i64))] [(false, .bool)] fun a => Pu.laws_eqIntS a.1 a.2.1
def g13 : Gam := Gam.nil
def n13 : An := { mask := fun | 4 => [0, 1, 4, 5] | _ => [] }
@[reducible] def d13_4 : SD := ⟨[.data false (.sl .arg (.int .i64)),.data false (.sl .arg (.int .i64)),B,B,DB,DI,B,B,B,B,B,B,B,B,B,B,B,B,B,B,B,B,B,B,B,B], [Z,Z,Z,Z,Z,Z,Z,Z,Z,Z,Z,Z,Z,Z,Z,Z,Z,Z,Z,Z,Z,Z,Z,Z,Z,Z], .none⟩
def t13_4 {R : Type} (X : SD.D d13_4) (K : Ex → AS → Option R) := Pu.laws_eqIntS_T4 (fun y0 => K (.exit 0) (SD.enc d13_4 ((X.1.1, (X.1.2.1, (X.1.2.2.1, (y0, ())))), (), ()))) (fun y0 y1 => K .ret (SD.enc d13_4 ((X.1.1, (X.1.2.1, (y0, (y1, ())))), (), ()))) X.1.1 X.1.2.1 X.1.2.2.1
def l13_4 : LEnt := ⟨d13_4, fun X K => iterL (t13_4 X K) fuel X.1.2.2.2.1⟩
def L13 : Lam := (Lam.nil).add 4 l13_4
theorem k13_4 : LOk E g13 n13 L13 (loopBody Tryz.f13 0) :=
  lok l13_4 (by kernel_rfl) fuel fun R X K => (loop_iter (σ := Int) (fun x => SD.enc d13_4 ((X.1.1, (X.1.2.1, (X.1.2.2.1, (x, ())))), (), ())) (t13_4 X K) (fun m x => by kernel_rfl) fuel X.1.2.2.2.1).symm
theorem o13 : FnOk Tryz.prog 13 e13 := fk n13 (base) Tryz.func13 (Λ := L13) (cF k13_4 nF)
def e38 : GEnt := entOf [.data true TFilter, .data true TFilter] [(false, .bool)] fun a => Pu.laws_eqFilter a.1 a.2.1
theorem o38 : FnOk Tryz.prog 38 e38 := fk {} ((base).add o13) Tryz.func38 (Λ := Lam.nil) nF
def e140 : GEnt := entOf [.data true TRule, .data true TRule] [(false, .bool)] fun a => Pu.laws_eqRule a.1 a.2.1
theorem o140 : FnOk Tryz.prog 140 e140 := fk {} (base) Tryz.func140 (Λ := Lam.nil) nF
def e85 : GEnt := entOf [.data false (.sl TRule), .data false (.sl TRule)] [(false, .bool)] fun a => Pu.laws_eqRuleS a.1 a.2.1
def g85 : Gam := (Gam.nil).add 140 e140
def n85 : An := { mask := fun | 4 => [0, 1, 4, 5] | _ => [] }
@[reducible] def d85_4 : SD := ⟨[.data false (.sl .arg TRule),.data false (.sl .arg TRule),B,B,DB,DI,B,B,B,B,B,B,B,B,B,B,B,B,B,B,B,B,B,B,B,B,B], [Z,Z,Z,Z,Z,Z,Z,Z,Z,Z,Z,Z,Z,Z,Z,Z,Z,Z,Z,Z,Z,Z,Z,Z,Z,Z,Z], .none⟩
def t85_4 {R : Type} (X : SD.D d85_4) (K : Ex → AS → Option R) := Pu.laws_eqRuleS_T4 (fun y0 => K (.exit 0) (SD.enc d85_4 ((X.1.1, (X.1.2.1, (X.1.2.2.1, (y0, ())))), (), ()))) (fun y0 y1 => K .ret (SD.enc d85_4 ((X.1.1, (X.1.2.1, (y0, (y1, ())))), (), ()))) X.1.1 X.1.2.1 X.1.2.2.1
def l85_4 : LEnt := ⟨d85_4, fun X K => iterL (t85_4 X K) fuel X.1.2.2.2.1⟩
def L85 : Lam := (Lam.nil).add 4 l85_4
theorem k85_4 : LOk E g85 n85 L85 (loopBody Tryz.f85 0) :=
  lok l85_4 (by kernel_rfl) fuel fun R X K => (loop_iter (σ := Int) (fun x => SD.enc d85_4 ((X.1.1, (X.1.2.1, (X.1.2.2.1, (x, ())))), (), ())) (t85_4 X K) (fun m x => by kernel_rfl) fuel X.1.2.2.2.1).symm
theorem o85 : FnOk Tryz.prog 85 e85 := fk n85 ((base).add o140) Tryz.func85 (Λ := L85) (cF k85_4 nF)
def e142 : GEnt := entOf [.data true TFlow, .data true TFlow] [(false, .bool)] fun a => Pu.laws_eqFlow a.1 a.2.1
theorem o142 : FnOk Tryz.prog 142 e142 := fk {} (base) Tryz.func142 (Λ := Lam.nil) nF
def e171 : GEnt := entOf [.data true TSlot, .data true TSlot] [(false, .bool)] fun a => Pu.laws_eqSlot a.1 a.2.1
theorem o171 : FnOk Tryz.prog 171 e171 := fk {} ((base).add o142) Tryz.func171 (Λ := Lam.nil) nF
def e141 : GEnt := entOf [.data false (.sl TSlot), .data false (.sl TSlot)] [(false, .bool)] fun a => Pu.laws_eqSlotS a.1 a.2.1
def g141 : Gam := (Gam.nil).add 171 e171
def n141 : An := { mask := fun | 4 => [0, 1, 4, 5] | _ => [] }
@[reducible] def d141_4 : SD := ⟨[.data false (.sl .arg TSlot),.data false (.sl .arg TSlot),B,B,DB,DI,B,B,B,B,B,B,B,B,B,B,B,B,B,B,B,B,B,B,B,B,B], [Z,Z,Z,Z,Z,Z,Z,Z,Z,Z,Z,Z,Z,Z,Z,Z,Z,Z,Z,Z,Z,Z,Z,Z,Z,Z,Z], .none⟩
def t141_4 {R : Type} (X : SD.D d141_4) (K : Ex → AS → Option R) := Pu.laws_eqSlotS_T4 (fun y0 => K (.exit 0) (SD.enc d141_4 ((X.1.1, (X.1.2.1, (X.1.2.2.1, (y0, ())))), (), ()))) (fun y0 y1 => K .ret (SD.enc d141_4 ((X.1.1, (X.1.2.1, (y0, (y1, ())))), (), ()))) X.1.1 X.1.2.1 X.1.2.2.1
def l141_4 : LEnt := ⟨d141_4, fun X K => iterL (t141_4 X K) fuel X.1.2.2.2.1⟩
def L141 : Lam := (Lam.nil).add 4 l141_4
theorem k141_4 : LOk E g141 n141 L141 (loopBody Tryz.f141 0) :=
  lok l141_4 (by kernel_rfl) fuel fun R X K => (loop_iter (σ := Int) (fun x => SD.enc d141_4 ((X.1.1, (X.1.2.1, (X.1.2.2.1, (x, ())))), (), ())) (t141_4 X K) (fun m x => by kernel_rfl) fuel X.1.2.2.2.1).symm
theorem o141 : FnOk Tryz.prog 141 e141 := fk n141 ((base).add o171) Tryz.func141 (Λ := L141) (cF k141_4 nF)
def e86 : GEnt := entOf [.data true (.sl TSlot), .data true (.sl TSlot)] [(false, .bool)] fun a => Pu.laws_eqFlowTable a.1 a.2.1
theorem o86 : FnOk Tryz.prog 86 e86 := fk {} ((base).add o141) Tryz.func86 (Λ := Lam.nil) nF
def e87 : GEnt := entOf [.data true TSpread, .data true TSpread] [(false, .bool)] fun a => Pu.laws_eqSpread a.1 a.2.1
theorem o87 : FnOk Tryz.prog 87 e87 := fk {} ((base).add o13) Tryz.func87 (Λ := Lam.nil) nF
def e39 : GEnt := entOf [.data true TSteering, .data true TSteering] [(false, .bool)] fun a => Pu.laws_eqSteering a.1 a.2.1
theorem o39 : FnOk Tryz.prog 39 e39 := fk {} ((((base).add o85).add o86).add o87) Tryz.func39 (Λ := Lam.nil) nF
def e88 : GEnt := entOf [.data true TStream, .data true TStream] [(false, .bool)] fun a => Pu.laws_eqStream a.1 a.2.1
theorem o88 : FnOk Tryz.prog 88 e88 := fk {} ((base).add o142) Tryz.func88 (Λ := Lam.nil) nF
def e40 : GEnt := entOf [.data false (.sl TStream), .data false (.sl TStream)] [(false, .bool)] fun a => Pu.laws_eqStreamS a.1 a.2.1
def g40 : Gam := (Gam.nil).add 88 e88
def n40 : An := { mask := fun | 4 => [0, 1, 4, 5] | _ => [] }
@[reducible] def d40_4 : SD := ⟨[.data false (.sl .arg TStream),.data false (.sl .arg TStream),B,B,DB,DI,B,B,B,B,B,B,B,B,B,B,B,B,B,B,B,B,B,B,B,B,B], [Z,Z,Z,Z,Z,Z,Z,Z,Z,Z,Z,Z,Z,Z,Z,Z,Z,Z,Z,Z,Z,Z,Z,Z,Z,Z,Z], .none⟩
def t40_4 {R : Type} (X : SD.D d40_4) (K : Ex → AS → Option R) := Pu.laws_eqStreamS_T4 (fun y0 => K (.exit 0) (SD.enc d40_4 ((X.1.1, (X.1.2.1, (X.1.2.2.1, (y0, ())))), (), ()))) (fun y0 y1 => K .ret (SD.enc d40_4 ((X.1.1, (X.1.2.1, (y0, (y1, ())))), (), ()))) X.1.1 X.1.2.1 X.1.2.2.1
def l40_4 : LEnt := ⟨d40_4, fun X K => iterL (t40_4 X K) fuel X.1.2.2.2.1⟩
def L40 : Lam := (Lam.nil).add 4 l40_4
theorem k40_4 : LOk E g40 n40 L40 (loopBody Tryz.f40 0) :=
  lok l40_4 (by kernel_rfl) fuel fun R X K => (loop_iter (σ := Int) (fun x => SD.enc d40_4 ((X.1.1, (X.1.2.1, (X.1.2.2.1, (x, ())))), (), ())) (t40_4 X K) (fun m x => by kernel_rfl) fuel X.1.2.2.2.1).symm
theorem o40 : FnOk Tryz.prog 40 e40 := fk n40 ((base).add o88) Tryz.func40 (Λ := L40) (cF k40_4 nF)
def e41 : GEnt := entOf [.data false (.sl .str), .data false (.sl .str)] [(false, .bool)] fun a => Pu.laws_eqStringS a.1 a.2.1
def g41 : Gam := Gam.nil
def n41 : An := { mask := fun | 4 => [0, 1, 4, 5] | _ => [] }
@[reducible] def d41_4 : SD := ⟨[.data false (.sl .arg .str),.data false (.sl .arg .str),B,B,DB,DI,B,B,B,B,B,B,B,B,B,B,B,B,B,B,B,B,B,B,B,B], [Z,Z,Z,Z,Z,Z,Z,Z,Z,Z,Z,Z,Z,Z,Z,Z,Z,Z,Z,Z,Z,Z,Z,Z,Z,Z], .none⟩
def t41_4 {R : Type} (X : SD.D d41_4) (K : Ex → AS → Option R) := Pu.laws_eqStringS_T4 (fun y0 => K (.exit 0) (SD.enc d41_4 ((X.1.1, (X.1.2.1, (X.1.2.2.1, (y0, ())))), (), ()))) (fun y0 y1 => K .ret (SD.enc d41_4 ((X.1.1, (X.1.2.1, (y0, (y1, ())))), (), ()))) X.1.1 X.1.2.1 X.1.2.2.1
def l41_4 : LEnt := ⟨d41_4, fun X K => iterL (t41_4 X K) fuel X.1.2.2.2.1⟩
def L41 : Lam := (Lam.nil).add 4 l41_4
theorem k41_4 : LOk E g41 n41 L41 (loopBody Tryz.f41 0) :=
  lok l41_4 (by kernel_rfl) fuel fun R X K => (loop_iter (σ := Int) (fun x => SD.enc d41_4 ((X.1.1, (X.1.2.1, (X.1.2.2.1, (x, ())))), (), ())) (t41_4 X K) (fun m x => by kernel_rfl) fuel X.1.2.2.2.1).symm
theorem o41 : FnOk Tryz.prog 41 e41 := fk n41 (base) Tryz.func41 (Λ := L41) (cF k41_4 nF)
def e11 : GEnt := entOf [.data true TSoft, .data true TSoft] [(false, .bool)] fun a => Pu.laws_eqSoft a.1 a.2.1
theorem o11 : FnOk Tryz.prog 11 e11 := fk {} (((((base).add o38).add o39).add o40).add o41) Tryz.func11 (Λ := Lam.nil) nF
def e143 : GEnt := entOf [.data true TSegment, .data true TSegment] [(false, .bool)] fun a => Pu.laws_eqSegment a.1 a.2.1
theorem o143 : FnOk Tryz.prog 143 e143 := fk {} (base) Tryz.func143 (Λ := Lam.nil) nF
def e89 : GEnt := entOf [.data true TPacket, .data true TPacket] [(false, .bool)] fun a => Pu.laws_eqPacket a.1 a.2.1
theorem o89 : FnOk Tryz.prog 89 e89 := fk {} ((base).add o143) Tryz.func89 (Λ := Lam.nil) nF
def e42 : GEnt := entOf [.data true TAct, .data true TAct] [(false, .bool)] fun a => Pu.laws_eqAct a.1 a.2.1
theorem o42 : FnOk Tryz.prog 42 e42 := fk {} ((base).add o89) Tryz.func42 (Λ := Lam.nil) nF
def e12 : GEnt := entOf [.data false (.sl TAct), .data false (.sl TAct)] [(false, .bool)] fun a => Pu.laws_eqActS a.1 a.2.1
def g12 : Gam := (Gam.nil).add 42 e42
def n12 : An := { mask := fun | 4 => [0, 1, 4, 5] | _ => [] }
@[reducible] def d12_4 : SD := ⟨[.data false (.sl .arg TAct),.data false (.sl .arg TAct),B,B,DB,DI,B,B,B,B,B,B,B,B,B,B,B,B,B,B,B,B,B,B,B,B,B], [Z,Z,Z,Z,Z,Z,Z,Z,Z,Z,Z,Z,Z,Z,Z,Z,Z,Z,Z,Z,Z,Z,Z,Z,Z,Z,Z], .none⟩
def t12_4 {R : Type} (X : SD.D d12_4) (K : Ex → AS → Option R) := Pu.laws_eqActS_T4 (fun y0 => K (.exit 0) (SD.enc d12_4 ((X.1.1, (X.1.2.1, (X.1.2.2.1, (y0, ())))), (), ()))) (fun y0 y1 => K .ret (SD.enc d12_4 ((X.1.1, (X.1.2.1, (y0, (y1, ())))), (), ()))) X.1.1 X.1.2.1 X.1.2.2.1
def l12_4 : LEnt := ⟨d12_4, fun X K => iterL (t12_4 X K) fuel X.1.2.2.2.1⟩
def L12 : Lam := (Lam.nil).add 4 l12_4
theorem k12_4 : LOk E g12 n12 L12 (loopBody Tryz.f12 0) :=
  lok l12_4 (by kernel_rfl) fuel fun R X K => (loop_iter (σ := Int) (fun x => SD.enc d12_4 ((X.1.1, (X.1.2.1, (X.1.2.2.1, (x, ())))), (), ())) (t12_4 X K) (fun m x => by kernel_rfl) fuel X.1.2.2.2.1).symm
theorem o12 : FnOk Tryz.prog 12 e12 := fk n12 ((base).add o42) Tryz.func12 (Λ := L12) (cF k12_4 nF)
def e16 : GEnt := entIo (.sl (.int .i64)) false [.data false (.int .i64)] [(false, (.int .i64))] fun x a => Pu.laws_markIntS x a.1
def g16 : Gam := Gam.nil
def n16 : An := { mask := fun | 2 => [0, 1, 5] | _ => [] }
@[reducible] def d16_2 : SD := ⟨[.data false (.sl (.lio 0 12288036864) (.int .i64)),DI,B,B,B,DI,B,B,B,B,B,B,B,B,B,B,B,B,B], [Z,Z,Z,Z,Z,Z,Z,Z,Z,Z,Z,Z,Z,Z,Z,Z,Z,Z,Z], .some (.sl (.own (some 12288036864)) (.int .i64))⟩
def t16_2 {R : Type} (X : SD.D d16_2) (K : Ex → AS → Option R) := Pu.laws_markIntS_T2 (fun y0 y1 y2 y3 => K (.exit 0) (SD.enc d16_2 ((y0, (y1, (y2, ()))), (), y3))) 
def l16_2 : LEnt := ⟨d16_2, fun X K => iterL (t16_2 X K) fuel (X.1.1, X.1.2.1, X.1.2.2.1, X.2.2)⟩
def L16 : Lam := (Lam.nil).add 2 l16_2
theorem k16_2 : LOk E g16 n16 L16 (loopBody Tryz.f16 0) :=
  lok l16_2 (by kernel_rfl) fuel fun R X K => (loop_iter (σ := (List Int) × Int × Int × List Int) (fun x => SD.enc d16_2 ((x.1, (x.2.1, (x.2.2.1, ()))), (), x.2.2.2)) (t16_2 X K) (fun m x => by kernel_rfl) fuel (X.1.1, X.1.2.1, X.1.2.2.1, X.2.2)).symm
theorem o16 : FnOk Tryz.prog 16 e16 := FnOk.ofIo (fnIo (Γ := g16) (an := n16) (Λ := L16) (base) Tryz.func16 (by kernel_rfl) (hF (by kernel_rfl) (cF k16_2 nF))) (fun x a => by kernel_rfl)
def e43 : GEnt := entIo TFilter true [.data false (.int .i64)] [(false, (.int .i64))] fun x a => Pu.laws_markFilter x a.1
theorem o43 : FnOk Tryz.prog 43 e43 := FnOk.ofIo (fnIo (an := {}) (Λ := Lam.nil) ((base).add o16) Tryz.func43 (by kernel_rfl) (hF (by kernel_rfl) nF)) (fun x a => by kernel_rfl)
def e90 : GEnt := entIo (.sl TRule) false [.data false (.int .i64)] [(false, (.int .i64))] fun x a => Pu.laws_markRuleS x a.1
def g90 : Gam := Gam.nil
def n90 : An := { mask := fun | 2 => [0, 1, 5] | _ => [] }
@[reducible] def d90_2 : SD := ⟨[.data false (.sl (.lio 0 12288036864) TRule),DI,B,B,B,DI,B,B,B,B,B,B,B,B,B,B,B,B,B,B,B,B,B,B,B,B,B,B,B,B,B,B,B,B,B,B,B,B,B,B,B,B,B,B,B,B,B,B,B,B,B,B,B,B,B,B,B,B,B,B,B,B,B,B,B,B,B,B,B,B,B,B,B,B,B,B], [Z,Z,Z,Z,Z,Z,Z,Z,Z,Z,Z,Z,Z,Z,Z,Z,Z,Z,Z,Z,Z,Z,Z,Z,Z,Z,Z,Z,Z,Z,Z,Z,Z,Z,Z,Z,Z,Z,Z,Z,Z,Z,Z,Z,Z,Z,Z,Z,Z,Z,Z,Z,Z,Z,Z,Z,Z,Z,Z,Z,Z,Z,Z,Z,Z,Z,Z,Z,Z,Z,Z,Z,Z,Z,Z,Z], .some (.sl (.own (some 12288036864)) TRule)⟩
def t90_2 {R : Type} (X : SD.D d90_2) (K : Ex → AS → Option R) := Pu.laws_markRuleS_T2 (fun y0 y1 y2 y3 => K (.exit 0) (SD.enc d90_2 ((y0, (y1, (y2, ()))), (), y3))) 
def l90_2 : LEnt := ⟨d90_2, fun X K => iterL (t90_2 X K) fuel (X.1.1, X.1.2.1, X.1.2.2.1, X.2.2)⟩
def L90 : Lam := (Lam.nil).add 2 l90_2
theorem k90_2 : LOk E g90 n90 L90 (loopBody Tryz.f90 0) :=
  lok l90_2 (by kernel_rfl) fuel fun R X K => (loop_iter (σ := (List Pu.Rule) × Int × Int × List Pu.Rule) (fun x => SD.enc d90_2 ((x.1, (x.2.1, (x.2.2.1, ()))), (), x.2.2.2)) (t90_2 X K) (fun m x => by kernel_rfl) fuel (X.1.1, X.1.2.1, X.1.2.2.1, X.2.2)).symm
theorem o90 : FnOk Tryz.prog 90 e90 := FnOk.ofIo (fnIo (Γ := g90) (an := n90) (Λ := L90) (base) Tryz.func90 (by kernel_rfl) (hF (by kernel_rfl) (cF k90_2 nF))) (fun x a => by kernel_rfl)
def e144 : GEnt := entIo (.sl TSlot) false [.data false (.int .i64)] [(false, (.int .i64))] fun x a => Pu.laws_markSlotS x a.1
def g144 : Gam := Gam.nil
def n144 : An := { mask := fun | 2 => [0, 1, 5] | _ => [] }
@[reducible] def d144_2 : SD := ⟨[.data false (.sl (.lio 0 12288036864) TSlot),DI,B,B,B,DI,B,B,B,B,B,B,B,B,B,B,B,B,B,B,B,B,B,B,B,B,B,B,B,B,B,B,B,B,B,B,B,B,B,B,B,B,B,B,B,B,B,B,B,B,B,B,B,B,B,B,B,B,B,B,B,B,B,B,B,B,B], [Z,Z,Z,Z,Z,Z,Z,Z,Z,Z,Z,Z,Z,Z,Z,Z,Z,Z,Z,Z,Z,Z,Z,Z,Z,Z,Z,Z,Z,Z,Z,Z,Z,Z,Z,Z,Z,Z,Z,Z,Z,Z,Z,Z,Z,Z,Z,Z,Z,Z,Z,Z,Z,Z,Z,Z,Z,Z,Z,Z,Z,Z,Z,Z,Z,Z,Z], .some (.sl (.own (some 12288036864)) TSlot)⟩
def t144_2 {R : Type} (X : SD.D d144_2) (K : Ex → AS → Option R) := Pu.laws_markSlotS_T2 (fun y0 y1 y2 y3 => K (.exit 0) (SD.enc d144_2 ((y0, (y1, (y2, ()))), (), y3))) 
def l144_2 : LEnt := ⟨d144_2, fun X K => iterL (t144_2 X K) fuel (X.1.1, X.1.2.1, X.1.2.2.1, X.2.2)⟩
def L144 : Lam := (Lam.nil).add 2 l144_2
theorem k144_2 : LOk E g144 n144 L144 (loopBody Tryz.f144 0) :=
  lok l144_2 (by kernel_rfl) fuel fun R X K => (loop_iter (σ := (List Pu.Slot) × Int × Int × List Pu.Slot) (fun x => SD.enc d144_2 ((x.1, (x.2.1, (x.2.2.1, ()))), (), x.2.2.2)) (t144_2 X K) (fun m x => by kernel_rfl) fuel (X.1.1, X.1.2.1, X.1.2.2.1, X.2.2)).symm
theorem o144 : FnOk Tryz.prog 144 e144 := FnOk.ofIo (fnIo (Γ := g144) (an := n144) (Λ := L144) (base) Tryz.func144 (by kernel_rfl) (hF (by kernel_rfl) (cF k144_2 nF))) (fun x a => by kernel_rfl)
def e91 : GEnt := entIo (.sl TSlot) true [.data false (.int .i64)] [(false, (.int .i64))] fun x a => Pu.laws_markFlowTable x a.1
theorem o91 : FnOk Tryz.prog 91 e91 := FnOk.ofIo (fnIo (an := {}) (Λ := Lam.nil) ((base).add o144) Tryz.func91 (by kernel_rfl) (hF (by kernel_rfl) nF)) (fun x a => by kernel_rfl)
def e92 : GEnt := entIo TSpread true [.data false (.int .i64)] [(false, (.int .i64))] fun x a => Pu.laws_markSpread x a.1
theorem o92 : FnOk Tryz.prog 92 e92 := FnOk.ofIo (fnIo (an := {}) (Λ := Lam.nil) ((base).add o16) Tryz.func92 (by kernel_rfl) (hF (by kernel_rfl) nF)) (fun x a => by kernel_rfl)
def e44 : GEnt := entIo TSteering true [.data false (.int .i64)] [(false, (.int .i64))] fun x a => Pu.laws_markSteering x a.1
theorem o44 : FnOk Tryz.prog 44 e44 := FnOk.ofIo (fnIo (an := {}) (Λ := Lam.nil) ((((base).add o90).add o91).add o92) Tryz.func44 (by kernel_rfl) (hF (by kernel_rfl) nF)) (fun x a => by kernel_rfl)
def e47 : GEnt := entOf [.data false (.int .i64)] [(false, .str)] fun a => Pu.laws_markText a.1
def g47 : Gam := Gam.nil
def n47 : An := { mask := fun | 4 => [0, 3] | _ => [] }
@[reducible] def d47_4 : SD := ⟨[DI,B,B,.data false .str,B,B,B,B,B,B,B,B,B,B,B,B,B,B,B,B], [Z,Z,Z,Z,Z,Z,Z,Z,Z,Z,Z,Z,Z,Z,Z,Z,Z,Z,Z,Z], .none⟩
def t47_4 {R : Type} (X : SD.D d47_4) (K : Ex → AS → Option R) := Pu.laws_markText_T4 (fun y0 y1 => K (.exit 0) (SD.enc d47_4 ((y0, (y1, ())), (), ()))) 
def l47_4 : LEnt := ⟨d47_4, fun X K => iterL (t47_4 X K) fuel (X.1.1, X.1.2.1)⟩
def L47 : Lam := (Lam.nil).add 4 l47_4
theorem k47_4 : LOk E g47 n47 L47 (loopBody Tryz.f47 0) :=
  lok l47_4 (by kernel_rfl) fuel fun R X K => (loop_iter (σ := Int × Pu.Bytes) (fun x => SD.enc d47_4 ((x.1, (x.2, ())), (), ())) (t47_4 X K) (fun m x => by kernel_rfl) fuel (X.1.1, X.1.2.1)).symm
theorem o47 : FnOk Tryz.prog 47 e47 := fk n47 (base) Tryz.func47 (Λ := L47) (cF k47_4 nF)
def e45 : GEnt := entIo (.sl TStream) false [.data false (.int .i64)] [(false, (.int .i64))] fun x a => Pu.laws_markStreamS x a.1
def g45 : Gam := (Gam.nil).add 47 e47
def n45 : An := { mask := fun | 2 => [0, 1, 5] | _ => [] }
@[reducible] def d45_2 : SD := ⟨[.data false (.sl (.lio 0 12288036864) TStream),DI,B,B,B,DI,B,B,B,B,B,B,B,B,B,B,B,B,B,B,B,B,B,B,B,B,B,B,B,B,B,B,B,B,B,B,B,B,B,B,B,B,B,B,B,B,B,B,B,B,B,B,B,B,B,B,B,B,B,B,B,B,B,B,B,B,B,B,B,B,B,B,B,B,B,B,B], [Z,Z,Z,Z,Z,Z,Z,Z,Z,Z,Z,Z,Z,Z,Z,Z,Z,Z,Z,Z,Z,Z,Z,Z,Z,Z,Z,Z,Z,Z,Z,Z,Z,Z,Z,Z,Z,Z,Z,Z,Z,Z,Z,Z,Z,Z,Z,Z,Z,Z,Z,Z,Z,Z,Z,Z,Z,Z,Z,Z,Z,Z,Z,Z,Z,Z,Z,Z,Z,Z,Z,Z,Z,Z,Z,Z,Z], .some (.sl (.own (some 12288036864)) TStream)⟩
def t45_2 {R : Type} (X : SD.D d45_2) (K : Ex → AS → Option R) := Pu.laws_markStreamS_T2 (fun y0 y1 y2 y3 => K (.exit 0) (SD.enc d45_2 ((y0, (y1, (y2, ()))), (), y3))) 
def l45_2 : LEnt := ⟨d45_2, fun X K => iterL (t45_2 X K) fuel (X.1.1, X.1.2.1, X.1.2.2.1, X.2.2)⟩
def L45 : Lam := (Lam.nil).add 2 l45_2
theorem k45_2 : LOk E g45 n45 L45 (loopBody Tryz.f45 0) :=
  lok l45_2 (by kernel_rfl) fuel fun R X K => (loop_iter (σ := (List Pu.Stream) × Int × Int × List Pu.Stream) (fun x => SD.enc d45_2 ((x.1, (x.2.1, (x.2.2.1, ()))), (), x.2.2.2)) (t45_2 X K) (fun m x => by kernel_rfl) fuel (X.1.1, X.1.2.1, X.1.2.2.1, X.2.2)).symm
theorem o45 : FnOk Tryz.prog 45 e45 := FnOk.ofIo (fnIo (Γ := g45) (an := n45) (Λ := L45) ((base).add o47) Tryz.func45 (by kernel_rfl) (hF (by kernel_rfl) (cF k45_2 nF))) (fun x a => by kernel_rfl)
def e46 : GEnt := entIo (.sl .str) false [.data false (.int .i64)] [(false, (.int .i64))] fun x a => Pu.laws_markStringS x a.1
def g46 : Gam := (Gam.nil).add 47 e47
def n46 : An := { mask := fun | 2 => [0, 1, 5] | _ => [] }
@[reducible] def d46_2 : SD := ⟨[.data false (.sl (.lio 0 12288036864) .str),DI,B,B,B,DI,B,B,B,B,B,B,B,B,B,B,B,B,B,B], [Z,Z,Z,Z,Z,Z,Z,Z,Z,Z,Z,Z,Z,Z,Z,Z,Z,Z,Z,Z], .some (.sl (.own (some 12288036864)) .str)⟩
def t46_2 {R : Type} (X : SD.D d46_2) (K : Ex → AS → Option R) := Pu.laws_markStringS_T2 (fun y0 y1 y2 y3 => K (.exit 0) (SD.enc d46_2 ((y0, (y1, (y2, ()))), (), y3))) 
def l46_2 : LEnt := ⟨d46_2, fun X K => iterL (t46_2 X K) fuel (X.1.1, X.1.2.1, X.1.2.2.1, X.2.2)⟩
def L46 : Lam := (Lam.nil).add 2 l46_2
theorem k46_2 : LOk E g46 n46 L46 (loopBody Tryz.f46 0) :=
  lok l46_2 (by kernel_rfl) fuel fun R X K => (loop_iter (σ := (List Pu.Bytes) × Int × Int × List Pu.Bytes) (fun x => SD.enc d46_2 ((x.1, (x.2.1, (x.2.2.1, ()))), (), x.2.2.2)) (t46_2 X K) (fun m x => by kernel_rfl) fuel (X.1.1, X.1.2.1, X.1.2.2.1, X.2.2)).symm
theorem o46 : FnOk Tryz.prog 46 e46 := FnOk.ofIo (fnIo (Γ := g46) (an := n46) (Λ := L46) ((base).add o47) Tryz.func46 (by kernel_rfl) (hF (by kernel_rfl) (cF k46_2 nF))) (fun x a => by kernel_rfl)
def e14 : GEnt := entIo TSoft true [.data false (.int .i64)] [(false, (.int .i64))] fun x a => Pu.laws_markSoft x a.1
theorem o14 : FnOk Tryz.prog 14 e14 := FnOk.ofIo (fnIo (an := {}) (Λ := Lam.nil) (((((base).add o43).add o44).add o45).add o46) Tryz.func14 (by kernel_rfl) (hF (by kernel_rfl) nF)) (fun x a => by kernel_rfl)
def e15 : GEnt := entIo (.sl TAct) false [.data false (.int .i64)] [(false, (.int .i64))] fun x a => Pu.laws_markActS x a.1
def g15 : Gam := (Gam.nil).add 47 e47
def n15 : An := { mask := fun | 2 => [0, 1, 5] | _ => [] }
@[reducible] def d15_2 : SD := ⟨[.data false (.sl (.lio 0 12288036864) TAct),DI,B,B,B,DI,B,B,B,B,B,B,B,B,B,B,B,B,B,B,B,B,B,B,B,B,B,B,B,B,B,B,B,B,B,B,B,B,B,B,B,B,B,B,B,B,B,B,B,B,B,B,B,B,B,B,B,B,B,B,B,B,B,B,B,B,B,B,B,B,B,B,B,B,B,B,B,B,B,B,B,B,B,B,B,B,B,B,B,B,B,B,B,B,B,B,B,B,B,B,B,B,B,B,B,B,B,B,B,B,B,B,B,B,B,B,B,B,B,B,B,B,B,B,B,B,B,B,B,B,B,B,B,B,B,B,B,B,B,B,B,B,B,B,B,B,B,B,B,B,B,B,B,B,B,B,B,B,B,B,B,B,B,B,B,B,B,B,B,B,B,B,B,B,B,B,B,B,B,B,B,B,B,B,B,B], [Z,Z,Z,Z,Z,Z,Z,Z,Z,Z,Z,Z,Z,Z,Z,Z,Z,Z,Z,Z,Z,Z,Z,Z,Z,Z,Z,Z,Z,Z,Z,Z,Z,Z,Z,Z,Z,Z,Z,Z,Z,Z,Z,Z,Z,Z,Z,Z,Z,Z,Z,Z,Z,Z,Z,Z,Z,Z,Z,Z,Z,Z,Z,Z,Z,Z,Z,Z,Z,Z,Z,Z,Z,Z,Z,Z,Z,Z,Z,Z,Z,Z,Z,Z,Z,Z,Z,Z,Z,Z,Z,Z,Z,Z,Z,Z,Z,Z,Z,Z,Z,Z,Z,Z,Z,Z,Z,Z,Z,Z,Z,Z,Z,Z,Z,Z,Z,Z,Z,Z,Z,Z,Z,Z,Z,Z,Z,Z,Z,Z,Z,Z,Z,Z,Z,Z,Z,Z,Z,Z,Z,Z,Z,Z,Z,Z,Z,Z,Z,Z,Z,Z,Z,Z,Z,Z,Z,Z,Z,Z,Z,Z,Z,Z,Z,Z,Z,Z,Z,Z,Z,Z,Z,Z,Z,Z,Z,Z,Z,Z,Z,Z,Z,Z,Z,Z], .some (.sl (.own (some 12288036864)) TAct)⟩
def t15_2 {R : Type} (X : SD.D d15_2) (K : Ex → AS → Option R) := Pu.laws_markActS_T2 (fun y0 y1 y2 y3 => K (.exit 0) (SD.enc d15_2 ((y0, (y1, (y2, ()))), (), y3))) 
def l15_2 : LEnt := ⟨d15_2, fun X K => iterL (t15_2 X K) fuel (X.1.1, X.1.2.1, X.1.2.2.1, X.2.2)⟩
def L15 : Lam := (Lam.nil).add 2 l15_2
theorem k15_2 : LOk E g15 n15 L15 (loopBody Tryz.f15 0) :=
  lok l15_2 (by kernel_rfl) fuel fun R X K => (loop_iter (σ := (List Pu.Act) × Int × Int × List Pu.Act) (fun x => SD.enc d15_2 ((x.1, (x.2.1, (x.2.2.1, ()))), (), x.2.2.2)) (t15_2 X K) (fun m x => by kernel_rfl) fuel (X.1.1, X.1.2.1, X.1.2.2.1, X.2.2)).symm
theorem o15 : FnOk Tryz.prog 15 e15 := FnOk.ofIo (fnIo (Γ := g15) (an := n15) (Λ := L15) ((base).add o47) Tryz.func15 (by kernel_rfl) (hF (by kernel_rfl) (cF k15_2 nF))) (fun x a => by kernel_rfl)
def e93 : GEnt := entOf [.data false (.sl (.int .i64)), .data false (.int .i64)] [(false, (.int .i64))] fun a => Pu.laws_heldIntS a.1 a.2.1
def g93 : Gam := Gam.nil
def n93 : An := { mask := fun | 2 => [0, 1, 4, 5] | _ => [] }
@[reducible] def d93_2 : SD := ⟨[.data false (.sl .arg (.int .i64)),DI,B,B,DI,DI,B,B,B,B,B,B,B,B,B,B,B,B,B,B,B], [Z,Z,Z,Z,Z,Z,Z,Z,Z,Z,Z,Z,Z,Z,Z,Z,Z,Z,Z,Z,Z], .none⟩
def t93_2 {R : Type} (X : SD.D d93_2) (K : Ex → AS → Option R) := Pu.laws_heldIntS_T2 (fun y0 y1 => K (.exit 0) (SD.enc d93_2 ((X.1.1, (y0, (X.1.2.2.1, (y1, ())))), (), ()))) (fun y0 y1 y2 => K .ret (SD.enc d93_2 ((X.1.1, (y0, (y1, (y2, ())))), (), ()))) X.1.1 X.1.2.2.1
def l93_2 : LEnt := ⟨d93_2, fun X K => iterL (t93_2 X K) fuel (X.1.2.1, X.1.2.2.2.1)⟩
def L93 : Lam := (Lam.nil).add 2 l93_2
theorem k93_2 : LOk E g93 n93 L93 (loopBody Tryz.f93 0) :=
  lok l93_2 (by kernel_rfl) fuel fun R X K => (loop_iter (σ := Int × Int) (fun x => SD.enc d93_2 ((X.1.1, (x.1, (X.1.2.2.1, (x.2, ())))), (), ())) (t93_2 X K) (fun m x => by kernel_rfl) fuel (X.1.2.1, X.1.2.2.2.1)).symm
theorem o93 : FnOk Tryz.prog 93 e93 := fk n93 (base) Tryz.func93 (Λ := L93) (cF k93_2 nF)
def e48 : GEnt := entOf [.data true TFilter, .data false (.int .i64)] [(false, (.int .i64))] fun a => Pu.laws_heldFilter a.1 a.2.1
theorem o48 : FnOk Tryz.prog 48 e48 := fk {} ((base).add o93) Tryz.func48 (Λ := Lam.nil) nF
def e94 : GEnt := entOf [.data false (.sl TRule), .data false (.int .i64)] [(false, (.int .i64))] fun a => Pu.laws_heldRuleS a.1 a.2.1
def g94 : Gam := Gam.nil
def n94 : An := { mask := fun | 2 => [0, 1, 4, 5] | _ => [] }
@[reducible] def d94_2 : SD := ⟨[.data false (.sl .arg TRule),DI,B,B,DI,DI,B,B,B,B,B,B,B,B,B,B,B,B,B,B,B,B,B,B,B,B,B,B,B,B,B,B,B,B,B,B,B,B,B,B,B,B,B,B,B,B,B,B,B,B,B,B,B,B,B,B,B,B,B,B,B,B,B,B,B,B,B,B,B,B,B,B,B,B,B,B,B,B,B,B,B,B,B,B,B,B,B,B,B,B,B,B,B,B], [Z,Z,Z,Z,Z,Z,Z,Z,Z,Z,Z,Z,Z,Z,Z,Z,Z,Z,Z,Z,Z,Z,Z,Z,Z,Z,Z,Z,Z,Z,Z,Z,Z,Z,Z,Z,Z,Z,Z,Z,Z,Z,Z,Z,Z,Z,Z,Z,Z,Z,Z,Z,Z,Z,Z,Z,Z,Z,Z,Z,Z,Z,Z,Z,Z,Z,Z,Z,Z,Z,Z,Z,Z,Z,Z,Z,Z,Z,Z,Z,Z,Z,Z,Z,Z,Z,Z,Z,Z,Z,Z,Z,Z,Z], .none⟩
def t94_2 {R : Type} (X : SD.D d94_2) (K : Ex → AS → Option R) := Pu.laws_heldRuleS_T2 (fun y0 y1 => K (.exit 0) (SD.enc d94_2 ((X.1.1, (y0, (X.1.2.2.1, (y1, ())))), (), ()))) (fun y0 y1 y2 => K .ret (SD.enc d94_2 ((X.1.1, (y0, (y1, (y2, ())))), (), ()))) X.1.1 X.1.2.2.1
def l94_2 : LEnt := ⟨d94_2, fun X K => iterL (t94_2 X K) fuel (X.1.2.1, X.1.2.2.2.1)⟩
def L94 : Lam := (Lam.nil).add 2 l94_2
theorem k94_2 : LOk E g94 n94 L94 (loopBody Tryz.f94 0) :=
  lok l94_2 (by kernel_rfl) fuel fun R X K => (loop_iter (σ := Int × Int) (fun x => SD.enc d94_2 ((X.1.1, (x.1, (X.1.2.2.1, (x.2, ())))), (), ())) (t94_2 X K) (fun m x => by kernel_rfl) fuel (X.1.2.1, X.1.2.2.2.1)).symm
theorem o94 : FnOk Tryz.prog 94 e94 := fk n94 (base) Tryz.func94 (Λ := L94) (cF k94_2 nF)
def e145 : GEnt := entOf [.data false (.sl TSlot), .data false (.int .i64)] [(false, (.int .i64))] fun a => Pu.laws_heldSlotS a.1 a.2.1
def g145 : Gam := Gam.nil
def n145 : An := { mask := fun | 2 => [0, 1, 4, 5] | _ => [] }
@[reducible] def d145_2 : SD := ⟨[.data false (.sl .arg TSlot),DI,B,B,DI,DI,B,B,B,B,B,B,B,B,B,B,B,B,B,B,B,B,B,B,B,B,B,B,B,B,B,B,B,B,B,B,B,B,B,B,B,B,B,B,B,B,B,B,B,B,B,B,B,B,B,B,B,B,B,B,B,B,B,B,B,B,B,B,B,B,B,B,B,B,B,B,B,B,B,B,B], [Z,Z,Z,Z,Z,Z,Z,Z,Z,Z,Z,Z,Z,Z,Z,Z,Z,Z,Z,Z,Z,Z,Z,Z,Z,Z,Z,Z,Z,Z,Z,Z,Z,Z,Z,Z,Z,Z,Z,Z,Z,Z,Z,Z,Z,Z,Z,Z,Z,Z,Z,Z,Z,Z,Z,Z,Z,Z,Z,Z,Z,Z,Z,Z,Z,Z,Z,Z,Z,Z,Z,Z,Z,Z,Z,Z,Z,Z,Z,Z,Z], .none⟩
def t145_2 {R : Type} (X : SD.D d145_2) (K : Ex → AS → Option R) := Pu.laws_heldSlotS_T2 (fun y0 y1 => K (.exit 0) (SD.enc d145_2 ((X.1.1, (y0, (X.1.2.2.1, (y1, ())))), (), ()))) (fun y0 y1 y2 => K .ret (SD.enc d145_2 ((X.1.1, (y0, (y1, (y2, ())))), (), ()))) X.1.1 X.1.2.2.1
def l145_2 : LEnt := ⟨d145_2, fun X K => iterL (t145_2 X K) fuel (X.1.2.1, X.1.2.2.2.1)⟩
def L145 : Lam := (Lam.nil).add 2 l145_2
theorem k145_2 : LOk E g145 n145 L145 (loopBody Tryz.f145 0) :=
  lok l145_2 (by kernel_rfl) fuel fun R X K => (loop_iter (σ := Int × Int) (fun x => SD.enc d145_2 ((X.1.1, (x.1, (X.1.2.2.1, (x.2, ())))), (), ())) (t145_2 X K) (fun m x => by kernel_rfl) fuel (X.1.2.1, X.1.2.2.2.1)).symm
theorem o145 : FnOk Tryz.prog 145 e145 := fk n145 (base) Tryz.func145 (Λ := L145) (cF k145_2 nF)
def e95 : GEnt := entOf [.data true (.sl TSlot), .data false (.int .i64)] [(false, (.int .i64))] fun a => Pu.laws_heldFlowTable a.1 a.2.1
theorem o95 : FnOk Tryz.prog 95 e95 := fk {} ((base).add o145) Tryz.func95 (Λ := Lam.nil) nF
def e96 : GEnt := entOf [.data true TSpread, .data false (.int .i64)] [(false, (.int .i64))] fun a => Pu.laws_heldSpread a.1 a.2.1
theorem o96 : FnOk Tryz.prog 96 e96 := fk {} ((base).add o93) Tryz.func96 (Λ := Lam.nil) nF
def e49 : GEnt := entOf [.data true TSteering, .data false (.int .i64)] [(false, (.int .i64))] fun a => Pu.laws_heldSteering a.1 a.2.1
theorem o49 : FnOk Tryz.prog 49 e49 := fk {} ((((base).add o94).add o95).add o96) Tryz.func49 (Λ := Lam.nil) nF
def e50 : GEnt := entOf [.data false (.sl TStream), .data false (.int .i64)] [(false, (.int .i64))] fun a => Pu.laws_heldStreamS a.1 a.2.1
def g50 : Gam := (Gam.nil).add 47 e47
def n50 : An := { mask := fun | 2 => [0, 1, 4, 5] | _ => [] }
@[reducible] def d50_2 : SD := ⟨[.data false (.sl .arg TStream),DI,B,B,DI,DI,B,B,B,B,B,B,B,B,B,B,B,B,B,B,B,B,B,B,B,B,B,B,B,B,B,B,B,B,B,B,B,B,B,B,B,B,B,B,B,B,B,B,B,B,B,B,B,B,B,B,B,B,B,B,B,B,B,B,B,B,B,B,B,B,B,B,B,B,B,B,B,B,B,B,B,B,B,B,B,B,B,B,B,B,B,B,B], [Z,Z,Z,Z,Z,Z,Z,Z,Z,Z,Z,Z,Z,Z,Z,Z,Z,Z,Z,Z,Z,Z,Z,Z,Z,Z,Z,Z,Z,Z,Z,Z,Z,Z,Z,Z,Z,Z,Z,Z,Z,Z,Z,Z,Z,Z,Z,Z,Z,Z,Z,Z,Z,Z,Z,Z,Z,Z,Z,Z,Z,Z,Z,Z,Z,Z,Z,Z,Z,Z,Z,Z,Z,Z,Z,Z,Z,Z,Z,Z,Z,Z,Z,Z,Z,Z,Z,Z,Z,Z,Z,Z,Z], .none⟩
def t50_2 {R : Type} (X : SD.D d50_2) (K : Ex → AS → Option R) := Pu.laws_heldStreamS_T2 (fun y0 y1 => K (.exit 0) (SD.enc d50_2 ((X.1.1, (y0, (X.1.2.2.1, (y1, ())))), (), ()))) (fun y0 y1 y2 => K .ret (SD.enc d50_2 ((X.1.1, (y0, (y1, (y2, ())))), (), ()))) X.1.1 X.1.2.2.1
def l50_2 : LEnt := ⟨d50_2, fun X K => iterL (t50_2 X K) fuel (X.1.2.1, X.1.2.2.2.1)⟩
def L50 : Lam := (Lam.nil).add 2 l50_2
theorem k50_2 : LOk E g50 n50 L50 (loopBody Tryz.f50 0) :=
  lok l50_2 (by kernel_rfl) fuel fun R X K => (loop_iter (σ := Int × Int) (fun x => SD.enc d50_2 ((X.1.1, (x.1, (X.1.2.2.1, (x.2, ())))), (), ())) (t50_2 X K) (fun m x => by kernel_rfl) fuel (X.1.2.1, X.1.2.2.2.1)).symm
theorem o50 : FnOk Tryz.prog 50 e50 := fk n50 ((base).add o47) Tryz.func50 (Λ := L50) (cF k50_2 nF)
def e51 : GEnt := entOf [.data false (.sl .str), .data false (.int .i64)] [(false, (.int .i64))] fun a => Pu.laws_heldStringS a.1 a.2.1
def g51 : Gam := (Gam.nil).add 47 e47
def n51 : An := { mask := fun | 2 => [0, 1, 4, 5] | _ => [] }
@[reducible] def d51_2 : SD := ⟨[.data false (.sl .arg .str),DI,B,B,DI,DI,B,B,B,B,B,B,B,B,B,B,B,B,B,B,B,B], [Z,Z,Z,Z,Z,Z,Z,Z,Z,Z,Z,Z,Z,Z,Z,Z,Z,Z,Z,Z,Z,Z], .none⟩
def t51_2 {R : Type} (X : SD.D d51_2) (K : Ex → AS → Option R) := Pu.laws_heldStringS_T2 (fun y0 y1 => K (.exit 0) (SD.enc d51_2 ((X.1.1, (y0, (X.1.2.2.1, (y1, ())))), (), ()))) (fun y0 y1 y2 => K .ret (SD.enc d51_2 ((X.1.1, (y0, (y1, (y2, ())))), (), ()))) X.1.1 X.1.2.2.1
def l51_2 : LEnt := ⟨d51_2, fun X K => iterL (t51_2 X K) fuel (X.1.2.1, X.1.2.2.2.1)⟩
def L51 : Lam := (Lam.nil).add 2 l51_2
theorem k51_2 : LOk E g51 n51 L51 (loopBody Tryz.f51 0) :=
  lok l51_2 (by kernel_rfl) fuel fun R X K => (loop_iter (σ := Int × Int) (fun x => SD.enc d51_2 ((X.1.1, (x.1, (X.1.2.2.1, (x.2, ())))), (), ())) (t51_2 X K) (fun m x => by kernel_rfl) fuel (X.1.2.1, X.1.2.2.2.1)).symm
theorem o51 : FnOk Tryz.prog 51 e51 := fk n51 ((base).add o47) Tryz.func51 (Λ := L51) (cF k51_2 nF)
def e17 : GEnt := entOf [.data true TSoft, .data false (.int .i64)] [(false, (.int .i64))] fun a => Pu.laws_heldSoft a.1 a.2.1
theorem o17 : FnOk Tryz.prog 17 e17 := fk {} (((((base).add o48).add o49).add o50).add o51) Tryz.func17 (Λ := Lam.nil) nF
@[reducible] def s_laws_FnExactRunSoft : List PS := [.data true TSoft, .data false (.sl TAct), .data false (.sl (.int .i64))]
def e_laws_FnExactRunSoft : GEnt := entOf s_laws_FnExactRunSoft [(false, .bool)] fun a => Pu.laws_FnExactRunSoft a.1 a.2.1 a.2.2.1
theorem o_laws_FnExactRunSoft : FnOk Tryz.prog 3 e_laws_FnExactRunSoft := fk { merge := fun | 27 => some 82 | _ => none } (((((((((((((((base).add o4).add o5).add o6).add o7).add o8).add o9).add o10).add o11).add o12).add o13).add o14).add o15).add o16).add o17) Tryz.func3 (Λ := Lam.nil) nF

end

end Go.Proofs.YtclgaiiidllehadGreat.Fn
