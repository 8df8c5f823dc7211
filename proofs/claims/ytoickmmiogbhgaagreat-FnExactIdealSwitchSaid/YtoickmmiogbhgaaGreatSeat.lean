import Derived.Test.YtoickmmiogbhgaaGreatDnSig
import Derived.Test.YtoickmmiogbhgaaGreatPure
import Derived.Test.YtoickmmiogbhgaaGreatRows
/- Each function of the program is its pure function (made by gen.py). -/
namespace Go.Proofs.YtoickmmiogbhgaaGreat.Fn
open Go.Dn
open Go.Pu (TFilter TRule TFlow TSlot TSteering TStream TSoft TBucket TVirtualFunction TMailbox TIdeal TSegment TPacket TPort TSpread TIp TEth)
set_option maxRecDepth 100000
noncomputable section
abbrev B : PD := .bot
abbrev DI : PD := .data false (.int .i64)
abbrev DB : PD := .data false .bool
abbrev Z : Option FT := none
theorem nF {p : Code → Prop} : ∀ x ∈ ([] : List Code), p x := fun _ h => nomatch h
theorem cF {p : Code → Prop} {a : Code} {l : List Code} (h : p a) (t : ∀ x ∈ l, p x) : ∀ x ∈ a :: l, p x := List.forall_mem_cons.2 ⟨h, t⟩
theorem hF {p : Code → Prop} {l m : List Code} (e : l = m) (h : ∀ x ∈ m, p x) : ∀ x ∈ l, p x := e ▸ h
theorem fk {P : Program} {E : Env} {Γ : Gam} {s : List PS} {rs : List (Bool × FT)} {F : Args s → Option (resD rs)} {f : Nat} {fn : Func} (an : An) (hS : Sound P E Γ) (hf : P.funcs[f]? = some fn) {Λ : Lam} {l : List Code} (h : ∀ c ∈ l, LOk E Γ an Λ c) (hn : (fn.name == "runtime.NumGoroutine") = false := by kernel_rfl) (hl : loopsOf (fn.body.getD .skip) = l := by kernel_rfl) (hF : ∀ a, evalFn E Γ an Λ fn rs (argsOf s a) = F a := by intro a; kernel_rfl) : FnOk P f (entOf s rs F) := FnOk.of (fnOk hS hf hn (Fn.hF hl h)) hF
def E : Env := { ty := [(3, ⟨false, (.int .i64), []⟩),
  (4, ⟨false, .bool, []⟩),
  (5, ⟨false, (.int .u8), []⟩),
  (9, ⟨false, .str, []⟩),
  (22, ⟨false, (.sl TSoft), [(108, 0)]⟩),
  (23, ⟨false, (.sl (.sl .str)), [(26, 0)]⟩),
  (24, ⟨false, (.sl TVirtualFunction), [(127, 0)]⟩),
  (25, ⟨false, (.sl TMailbox), [(111, 0)]⟩),
  (26, ⟨false, (.sl .str), [(9, 0)]⟩),
  (28, ⟨true, TIdeal, [(0, 1), (1, 1), (2, 1), (3, 1), (4, 1)]⟩),
  (30, ⟨true, TSegment, [(0, 1), (1, 1), (2, 1), (3, 1), (4, 1), (5, 1), (6, 1), (7, 1)]⟩),
  (32, ⟨true, TPacket, [(0, 1), (1, 1), (2, 1), (3, 1), (4, 1), (5, 1), (6, 1), (7, 1), (8, 8)]⟩),
  (35, ⟨false, (.sl TSoft), [(87, 0)]⟩),
  (36, ⟨false, (.sl TVirtualFunction), [(122, 0)]⟩),
  (37, ⟨false, (.sl TMailbox), [(114, 0)]⟩),
  (39, ⟨true, TIdeal, [(0, 1), (1, 1), (2, 1), (3, 1), (4, 1)]⟩),
  (42, ⟨true, TSegment, [(0, 1), (1, 1), (2, 1), (3, 1), (4, 1), (5, 1), (6, 1), (7, 1)]⟩),
  (44, ⟨true, TPacket, [(0, 1), (1, 1), (2, 1), (3, 1), (4, 1), (5, 1), (6, 1), (7, 1), (8, 8)]⟩),
  (66, ⟨false, (.sl TPort), [(134, 0)]⟩),
  (70, ⟨false, (.sl (.int .i64)), [(3, 0)]⟩),
  (76, ⟨true, TFilter, [(0, 1), (1, 1), (2, 1)]⟩),
  (77, ⟨false, (.sl TRule), [(185, 0)]⟩),
  (78, ⟨false, (.sl TSlot), [(191, 0)]⟩),
  (80, ⟨true, (.sl TSlot), [(0, 1)]⟩),
  (82, ⟨true, TSpread, [(0, 1), (1, 1)]⟩),
  (84, ⟨true, TSteering, [(0, 1), (1, 1), (2, 2)]⟩),
  (85, ⟨false, (.sl TStream), [(195, 0)]⟩),
  (87, ⟨true, TSoft, [(0, 3), (3, 4), (7, 1), (8, 1), (9, 1)]⟩),
  (98, ⟨true, TFilter, [(0, 1), (1, 1), (2, 1)]⟩),
  (99, ⟨false, (.sl TRule), [(241, 0)]⟩),
  (100, ⟨false, (.sl TSlot), [(255, 0)]⟩),
  (102, ⟨true, (.sl TSlot), [(0, 1)]⟩),
  (103, ⟨true, TSpread, [(0, 1), (1, 1)]⟩),
  (105, ⟨true, TSteering, [(0, 1), (1, 1), (2, 2)]⟩),
  (106, ⟨false, (.sl TStream), [(207, 0)]⟩),
  (108, ⟨true, TSoft, [(0, 3), (3, 4), (7, 1), (8, 1), (9, 1)]⟩),
  (111, ⟨true, TMailbox, [(0, 3), (3, 1), (4, 1), (5, 1)]⟩),
  (114, ⟨true, TMailbox, [(0, 3), (3, 1), (4, 1), (5, 1)]⟩),
  (120, ⟨true, TBucket, [(0, 1), (1, 1), (2, 1)]⟩),
  (122, ⟨true, TVirtualFunction, [(0, 1), (1, 1), (2, 3), (5, 1), (6, 1), (7, 1)]⟩),
  (125, ⟨true, TBucket, [(0, 1), (1, 1), (2, 1)]⟩),
  (127, ⟨true, TVirtualFunction, [(0, 1), (1, 1), (2, 3), (5, 1), (6, 1), (7, 1)]⟩),
  (134, ⟨true, TPort, [(0, 1), (1, 1), (2, 1), (3, 1)]⟩),
  (175, ⟨true, TIp, [(0, 1), (1, 1), (2, 1), (3, 1), (4, 1), (5, 1), (6, 1)]⟩),
  (178, ⟨true, TEth, [(0, 1), (1, 1), (2, 1), (3, 1), (4, 1)]⟩),
  (181, ⟨false, (.sl (.int .u8)), [(5, 0)]⟩),
  (185, ⟨true, TRule, [(0, 1), (1, 1), (2, 1), (3, 1), (4, 1), (5, 1), (6, 1), (7, 1), (8, 1)]⟩),
  (188, ⟨true, TFlow, [(0, 1), (1, 1), (2, 1), (3, 1), (4, 1)]⟩),
  (191, ⟨true, TSlot, [(0, 1), (1, 5), (6, 1)]⟩),
  (195, ⟨true, TStream, [(0, 5), (5, 1), (6, 1), (7, 1)]⟩),
  (205, ⟨true, TFlow, [(0, 1), (1, 1), (2, 1), (3, 1), (4, 1)]⟩),
  (207, ⟨true, TStream, [(0, 5), (5, 1), (6, 1), (7, 1)]⟩),
  (224, ⟨false, (.int .u32), []⟩),
  (241, ⟨true, TRule, [(0, 1), (1, 1), (2, 1), (3, 1), (4, 1), (5, 1), (6, 1), (7, 1), (8, 1)]⟩),
  (255, ⟨true, TSlot, [(0, 1), (1, 5), (6, 1)]⟩)], eqs := [(188, [.int, .int, .int, .int, .int])], fts := [] }
theorem base : Sound Tryz.prog E Gam.nil := Sound.nil (lookE_ok (by kernel_rfl)) (lookQ_ok (by kernel_rfl)) (lookF_ok (by kernel_rfl)) (by kernel_rfl)
def e17 : GEnt := entOf [.data false (.sl .str), .data false (.int .i64)] [(false, (.int .i64))] fun a => Pu.laws_szStringS a.1 a.2.1
def g17 : Gam := Gam.nil
def n17 : An := { mask := fun | 5 => [0, 1, 4, 5] | _ => [] }
@[reducible] def d17_5 : SD := ⟨[.data false (.sl .arg .str),DI,B,B,DI,DI,B,B,B,B,B,B,B,B,B,B,B,B,B,B,B,B,B,B,B,B,B,B], [Z,Z,Z,Z,Z,Z,Z,Z,Z,Z,Z,Z,Z,Z,Z,Z,Z,Z,Z,Z,Z,Z,Z,Z,Z,Z,Z,Z], .none⟩
def t17_5 {R : Type} (X : SD.D d17_5) (K : Ex → AS → Option R) := Pu.laws_szStringS_T5 (fun y0 y1 => K (.exit 0) (SD.enc d17_5 ((X.1.1, (y0, (X.1.2.2.1, (y1, ())))), (), ()))) (fun y0 y1 y2 => K .ret (SD.enc d17_5 ((X.1.1, (y0, (y1, (y2, ())))), (), ()))) X.1.1 X.1.2.2.1
def l17_5 : LEnt := ⟨d17_5, fun X K => iterL (t17_5 X K) fuel (X.1.2.1, X.1.2.2.2.1)⟩
def L17 : Lam := (Lam.nil).add 5 l17_5
theorem k17_5 : LOk E g17 n17 L17 (loopBody Tryz.f17 0) :=
  lok l17_5 (by kernel_rfl) fuel fun R X K => (loop_iter (σ := Int × Int) (fun x => SD.enc d17_5 ((X.1.1, (x.1, (X.1.2.2.1, (x.2, ())))), (), ())) (t17_5 X K) (fun m x => by kernel_rfl) fuel (X.1.2.1, X.1.2.2.2.1)).symm
theorem o17 : FnOk Tryz.prog 17 e17 := fk n17 (base) Tryz.func17 (Λ := L17) (cF k17_5 nF)
def e157 : GEnt := entOf [.data false (.sl (.int .i64)), .data false (.int .i64)] [(false, (.int .i64))] fun a => Pu.laws_szIntS a.1 a.2.1
theorem o157 : FnOk Tryz.prog 157 e157 := fk {} (base) Tryz.func157 (Λ := Lam.nil) nF
def e103 : GEnt := entOf [.data true TFilter, .data false (.int .i64)] [(false, (.int .i64))] fun a => Pu.laws_szFilter a.1 a.2.1
theorem o103 : FnOk Tryz.prog 103 e103 := fk {} ((base).add o157) Tryz.func103 (Λ := Lam.nil) nF
def e158 : GEnt := entOf [.data false (.sl TRule), .data false (.int .i64)] [(false, (.int .i64))] fun a => Pu.laws_szRuleS a.1 a.2.1
theorem o158 : FnOk Tryz.prog 158 e158 := fk {} (base) Tryz.func158 (Λ := Lam.nil) nF
def e210 : GEnt := entOf [.data false (.sl TSlot), .data false (.int .i64)] [(false, (.int .i64))] fun a => Pu.laws_szSlotS a.1 a.2.1
theorem o210 : FnOk Tryz.prog 210 e210 := fk {} (base) Tryz.func210 (Λ := Lam.nil) nF
def e159 : GEnt := entOf [.data true (.sl TSlot), .data false (.int .i64)] [(false, (.int .i64))] fun a => Pu.laws_szFlowTable a.1 a.2.1
theorem o159 : FnOk Tryz.prog 159 e159 := fk {} ((base).add o210) Tryz.func159 (Λ := Lam.nil) nF
def e160 : GEnt := entOf [.data true TSpread, .data false (.int .i64)] [(false, (.int .i64))] fun a => Pu.laws_szSpread a.1 a.2.1
theorem o160 : FnOk Tryz.prog 160 e160 := fk {} ((base).add o157) Tryz.func160 (Λ := Lam.nil) nF
def e104 : GEnt := entOf [.data true TSteering, .data false (.int .i64)] [(false, (.int .i64))] fun a => Pu.laws_szSteering a.1 a.2.1
theorem o104 : FnOk Tryz.prog 104 e104 := fk {} ((((base).add o158).add o159).add o160) Tryz.func104 (Λ := Lam.nil) nF
def e161 : GEnt := entOf [.data true TStream, .data false (.int .i64)] [(false, (.int .i64))] fun a => Pu.laws_szStream a.1 a.2.1
theorem o161 : FnOk Tryz.prog 161 e161 := fk {} (base) Tryz.func161 (Λ := Lam.nil) nF
def e105 : GEnt := entOf [.data false (.sl TStream), .data false (.int .i64)] [(false, (.int .i64))] fun a => Pu.laws_szStreamS a.1 a.2.1
def g105 : Gam := (Gam.nil).add 161 e161
def n105 : An := { mask := fun | 5 => [0, 1, 4, 5] | _ => [] }
@[reducible] def d105_5 : SD := ⟨[.data false (.sl .arg TStream),DI,B,B,DI,DI,B,B,B,B,B,B,B,B,B,B,B,B,B,B,B,B,B,B,B,B,B], [Z,Z,Z,Z,Z,Z,Z,Z,Z,Z,Z,Z,Z,Z,Z,Z,Z,Z,Z,Z,Z,Z,Z,Z,Z,Z,Z], .none⟩
def t105_5 {R : Type} (X : SD.D d105_5) (K : Ex → AS → Option R) := Pu.laws_szStreamS_T5 (fun y0 y1 => K (.exit 0) (SD.enc d105_5 ((X.1.1, (y0, (X.1.2.2.1, (y1, ())))), (), ()))) (fun y0 y1 y2 => K .ret (SD.enc d105_5 ((X.1.1, (y0, (y1, (y2, ())))), (), ()))) X.1.1 X.1.2.2.1
def l105_5 : LEnt := ⟨d105_5, fun X K => iterL (t105_5 X K) fuel (X.1.2.1, X.1.2.2.2.1)⟩
def L105 : Lam := (Lam.nil).add 5 l105_5
theorem k105_5 : LOk E g105 n105 L105 (loopBody Tryz.f105 0) :=
  lok l105_5 (by kernel_rfl) fuel fun R X K => (loop_iter (σ := Int × Int) (fun x => SD.enc d105_5 ((X.1.1, (x.1, (X.1.2.2.1, (x.2, ())))), (), ())) (t105_5 X K) (fun m x => by kernel_rfl) fuel (X.1.2.1, X.1.2.2.2.1)).symm
theorem o105 : FnOk Tryz.prog 105 e105 := fk n105 ((base).add o161) Tryz.func105 (Λ := L105) (cF k105_5 nF)
def e53 : GEnt := entOf [.data true TSoft, .data false (.int .i64)] [(false, (.int .i64))] fun a => Pu.laws_szSoft a.1 a.2.1
theorem o53 : FnOk Tryz.prog 53 e53 := fk {} (((((base).add o17).add o103).add o104).add o105) Tryz.func53 (Λ := Lam.nil) nF
def e13 : GEnt := entOf [.data false (.sl TSoft), .data false (.int .i64)] [(false, (.int .i64))] fun a => Pu.laws_szSoftS a.1 a.2.1
def g13 : Gam := (Gam.nil).add 53 e53
def n13 : An := { mask := fun | 5 => [0, 1, 4, 5] | _ => [] }
@[reducible] def d13_5 : SD := ⟨[.data false (.sl .arg TSoft),DI,B,B,DI,DI,B,B,B,B,B,B,B,B,B,B,B,B,B,B,B,B,B,B,B,B,B], [Z,Z,Z,Z,Z,Z,Z,Z,Z,Z,Z,Z,Z,Z,Z,Z,Z,Z,Z,Z,Z,Z,Z,Z,Z,Z,Z], .none⟩
def t13_5 {R : Type} (X : SD.D d13_5) (K : Ex → AS → Option R) := Pu.laws_szSoftS_T5 (fun y0 y1 => K (.exit 0) (SD.enc d13_5 ((X.1.1, (y0, (X.1.2.2.1, (y1, ())))), (), ()))) (fun y0 y1 y2 => K .ret (SD.enc d13_5 ((X.1.1, (y0, (y1, (y2, ())))), (), ()))) X.1.1 X.1.2.2.1
def l13_5 : LEnt := ⟨d13_5, fun X K => iterL (t13_5 X K) fuel (X.1.2.1, X.1.2.2.2.1)⟩
def L13 : Lam := (Lam.nil).add 5 l13_5
theorem k13_5 : LOk E g13 n13 L13 (loopBody Tryz.f13 0) :=
  lok l13_5 (by kernel_rfl) fuel fun R X K => (loop_iter (σ := Int × Int) (fun x => SD.enc d13_5 ((X.1.1, (x.1, (X.1.2.2.1, (x.2, ())))), (), ())) (t13_5 X K) (fun m x => by kernel_rfl) fuel (X.1.2.1, X.1.2.2.2.1)).symm
theorem o13 : FnOk Tryz.prog 13 e13 := fk n13 ((base).add o53) Tryz.func13 (Λ := L13) (cF k13_5 nF)
def e14 : GEnt := entOf [.data false (.sl (.sl .str)), .data false (.int .i64)] [(false, (.int .i64))] fun a => Pu.laws_szStringSS a.1 a.2.1
def g14 : Gam := (Gam.nil).add 17 e17
def n14 : An := { mask := fun | 5 => [0, 1, 4, 5] | _ => [] }
@[reducible] def d14_5 : SD := ⟨[.data false (.sl .arg (.sl .str)),DI,B,B,DI,DI,B,B,B,B,B,B,B,B,B,B,B,B,B,B,B,B,B,B,B,B,B], [Z,Z,Z,Z,Z,Z,Z,Z,Z,Z,Z,Z,Z,Z,Z,Z,Z,Z,Z,Z,Z,Z,Z,Z,Z,Z,Z], .none⟩
def t14_5 {R : Type} (X : SD.D d14_5) (K : Ex → AS → Option R) := Pu.laws_szStringSS_T5 (fun y0 y1 => K (.exit 0) (SD.enc d14_5 ((X.1.1, (y0, (X.1.2.2.1, (y1, ())))), (), ()))) (fun y0 y1 y2 => K .ret (SD.enc d14_5 ((X.1.1, (y0, (y1, (y2, ())))), (), ()))) X.1.1 X.1.2.2.1
def l14_5 : LEnt := ⟨d14_5, fun X K => iterL (t14_5 X K) fuel (X.1.2.1, X.1.2.2.2.1)⟩
def L14 : Lam := (Lam.nil).add 5 l14_5
theorem k14_5 : LOk E g14 n14 L14 (loopBody Tryz.f14 0) :=
  lok l14_5 (by kernel_rfl) fuel fun R X K => (loop_iter (σ := Int × Int) (fun x => SD.enc d14_5 ((X.1.1, (x.1, (X.1.2.2.1, (x.2, ())))), (), ())) (t14_5 X K) (fun m x => by kernel_rfl) fuel (X.1.2.1, X.1.2.2.2.1)).symm
theorem o14 : FnOk Tryz.prog 14 e14 := fk n14 ((base).add o17) Tryz.func14 (Λ := L14) (cF k14_5 nF)
def e15 : GEnt := entOf [.data false (.sl TVirtualFunction), .data false (.int .i64)] [(false, (.int .i64))] fun a => Pu.laws_szVirtualFunctionS a.1 a.2.1
theorem o15 : FnOk Tryz.prog 15 e15 := fk {} (base) Tryz.func15 (Λ := Lam.nil) nF
def e54 : GEnt := entOf [.data true TMailbox, .data false (.int .i64)] [(false, (.int .i64))] fun a => Pu.laws_szMailbox a.1 a.2.1
theorem o54 : FnOk Tryz.prog 54 e54 := fk {} ((base).add o103) Tryz.func54 (Λ := Lam.nil) nF
def e16 : GEnt := entOf [.data false (.sl TMailbox), .data false (.int .i64)] [(false, (.int .i64))] fun a => Pu.laws_szMailboxS a.1 a.2.1
def g16 : Gam := (Gam.nil).add 54 e54
def n16 : An := { mask := fun | 5 => [0, 1, 4, 5] | _ => [] }
@[reducible] def d16_5 : SD := ⟨[.data false (.sl .arg TMailbox),DI,B,B,DI,DI,B,B,B,B,B,B,B,B,B,B,B,B,B,B,B,B,B,B,B,B,B], [Z,Z,Z,Z,Z,Z,Z,Z,Z,Z,Z,Z,Z,Z,Z,Z,Z,Z,Z,Z,Z,Z,Z,Z,Z,Z,Z], .none⟩
def t16_5 {R : Type} (X : SD.D d16_5) (K : Ex → AS → Option R) := Pu.laws_szMailboxS_T5 (fun y0 y1 => K (.exit 0) (SD.enc d16_5 ((X.1.1, (y0, (X.1.2.2.1, (y1, ())))), (), ()))) (fun y0 y1 y2 => K .ret (SD.enc d16_5 ((X.1.1, (y0, (y1, (y2, ())))), (), ()))) X.1.1 X.1.2.2.1
def l16_5 : LEnt := ⟨d16_5, fun X K => iterL (t16_5 X K) fuel (X.1.2.1, X.1.2.2.2.1)⟩
def L16 : Lam := (Lam.nil).add 5 l16_5
theorem k16_5 : LOk E g16 n16 L16 (loopBody Tryz.f16 0) :=
  lok l16_5 (by kernel_rfl) fuel fun R X K => (loop_iter (σ := Int × Int) (fun x => SD.enc d16_5 ((X.1.1, (x.1, (X.1.2.2.1, (x.2, ())))), (), ())) (t16_5 X K) (fun m x => by kernel_rfl) fuel (X.1.2.1, X.1.2.2.2.1)).symm
theorem o16 : FnOk Tryz.prog 16 e16 := fk n16 ((base).add o54) Tryz.func16 (Λ := L16) (cF k16_5 nF)
def e4 : GEnt := entOf [.data true TIdeal, .data false (.int .i64)] [(false, (.int .i64))] fun a => Pu.laws_szIdeal a.1 a.2.1
theorem o4 : FnOk Tryz.prog 4 e4 := fk {} ((((((base).add o13).add o14).add o15).add o16).add o17) Tryz.func4 (Λ := Lam.nil) nF
def e18 : GEnt := entOf [.data true TSegment, .data false (.int .i64)] [(false, (.int .i64))] fun a => Pu.laws_szSegment a.1 a.2.1
theorem o18 : FnOk Tryz.prog 18 e18 := fk {} (base) Tryz.func18 (Λ := Lam.nil) nF
def e5 : GEnt := entOf [.data true TPacket, .data false (.int .i64)] [(false, (.int .i64))] fun a => Pu.laws_szPacket a.1 a.2.1
theorem o5 : FnOk Tryz.prog 5 e5 := fk {} ((base).add o18) Tryz.func5 (Λ := Lam.nil) nF
def e106 : GEnt := entOf [.data true TFilter] [(true, (.pair (.int .i64) (.pair .bool (.sl (.own none) (.int .i64)))))] fun a => Pu.spec_l24Copy a.1
theorem o106 : FnOk Tryz.prog 106 e106 := fk { sb := fun | 2 => some 2 | _ => none } (base) Tryz.func106 (Λ := Lam.nil) nF
def e162 : GEnt := entOf [.data true (.sl TSlot)] [(true, (.sl (.own none) TSlot))] fun a => Pu.spec_l13Copy a.1
theorem o162 : FnOk Tryz.prog 162 e162 := fk {} (base) Tryz.func162 (Λ := Lam.nil) nF
def e107 : GEnt := entOf [.data true TSteering] [(true, (.pair (.sl (.own none) TRule) (.pair (.sl (.own none) TSlot) (.pair .str (.sl (.own none) (.int .i64))))))] fun a => Pu.spec_l15Copy a.1
theorem o107 : FnOk Tryz.prog 107 e107 := fk { sb := fun | 2 => some 2 | _ => none } ((base).add o162) Tryz.func107 (Λ := Lam.nil) nF
def e55 : GEnt := entOf [.data true TSoft] [(true, (.pair (.pair (.int .i64) (.pair .bool (.sl (.own none) (.int .i64)))) (.pair (.pair (.sl (.own none) TRule) (.pair (.sl (.own none) TSlot) (.pair .str (.sl (.own none) (.int .i64))))) (.pair (.int .i64) (.pair (.sl (.own none) TStream) (.sl (.own none) .str))))))] fun a => Pu.spec_l40Copy a.1
theorem o55 : FnOk Tryz.prog 55 e55 := fk { sb := fun | 2 => some 2 | _ => none } (((base).add o106).add o107) Tryz.func55 (Λ := Lam.nil) nF
def e56 : GEnt := entOf [.data true TMailbox] [(true, (.pair (.pair (.int .i64) (.pair .bool (.sl (.own none) (.int .i64)))) (.pair (.int .i64) (.pair (.int .i64) (.int .i64)))))] fun a => Pu.spec_l35Copy a.1
theorem o56 : FnOk Tryz.prog 56 e56 := fk { mv := [7] } ((base).add o106) Tryz.func56 (Λ := Lam.nil) nF
def e19 : GEnt := entOf [.data true TIdeal] [(true, (.pair (.sl (.own none) TSoft) (.pair (.sl (.own none) (.sl .str)) (.pair (.sl (.own none) TVirtualFunction) (.pair (.sl (.own none) TMailbox) (.sl (.own none) .str))))))] fun a => Pu.spec_l43Copy a.1
def g19 : Gam := ((Gam.nil).add 55 e55).add 56 e56
def n19 : An := { mask := fun | 3 => [1, 2, 3, 4] | 7 => [1, 2, 3, 5] | 11 => [1, 2, 3, 6] | _ => [], mv := [24, 42, 61, 71], mb := fun | 24 => some 3 | 42 => some 3 | 61 => some 3 | _ => none, sb := fun | 3 => some 3 | 33 => some 3 | 52 => some 3 | 70 => some 3 | _ => none }
@[reducible] def d19_3 : SD := ⟨[B,.ptr 1 0,.ptr 2 0,.ptr 3 0,DI,B,B,B,B,B,B,B,B,B,B,B,B,B,B,B,B,B,B,B,B,B,B,B,B,B,B,B,B,B,B,B,B,B,B,B,B,B,B,B,B,B,B,B,B,B,B,B,B,B,B,B,B,B,B,B,B,B,B,B,B,B,B,B,B,B,B,B], [Z,some (.pair (.sl .arg TSoft) (.pair (.sl .arg (.sl .str)) (.pair (.sl .arg TVirtualFunction) (.pair (.sl .arg TMailbox) (.sl .arg .str))))),some (.pair (.sl (.own (some 24577)) TSoft) (.pair (.sl (.own (some 24580)) (.sl .str)) (.pair (.sl (.own (some 24583)) TVirtualFunction) (.pair (.sl (.own (some 24586)) TMailbox) (.sl (.own (some 24589)) .str))))),some (.pair (.sl (.own (some 36865)) TSoft) (.pair (.sl (.own (some 36868)) (.sl .str)) (.pair (.sl (.own (some 36871)) TVirtualFunction) (.pair (.sl (.own (some 36874)) TMailbox) (.sl (.own (some 36877)) .str))))),Z,Z,Z,Z,Z,Z,Z,Z,Z,Z,Z,Z,Z,Z,Z,Z,Z,Z,Z,Z,Z,Z,Z,Z,Z,Z,Z,Z,Z,Z,Z,Z,Z,Z,Z,Z,Z,Z,Z,Z,Z,Z,Z,Z,Z,Z,Z,Z,Z,Z,Z,Z,Z,Z,Z,Z,Z,Z,Z,Z,Z,Z,Z,Z,Z,Z,Z,Z], .none⟩
def t19_3 {R : Type} (X : SD.D d19_3) (K : Ex → AS → Option R) := Pu.spec_l43Copy_T3 (fun y0 y1 => K (.exit 0) (SD.enc d19_3 ((y0, ()), (X.2.1.1, (X.2.1.2.1, (y1, ()))), ()))) X.2.1.1 X.2.1.2.1
def l19_3 : LEnt := ⟨d19_3, fun X K => iterL (t19_3 X K) fuel (X.1.1, X.2.1.2.2.1)⟩
@[reducible] def d19_7 : SD := ⟨[B,.ptr 1 0,.ptr 2 0,.ptr 3 0,B,DI,B,B,B,B,B,B,B,B,B,B,B,B,B,B,B,B,B,B,B,B,B,B,B,B,B,B,B,B,B,B,B,B,B,B,B,B,B,B,B,B,B,B,B,B,B,B,B,B,B,B,B,B,B,B,B,B,B,B,B,B,B,B,B,B,B,B], [Z,some (.pair (.sl .arg TSoft) (.pair (.sl .arg (.sl .str)) (.pair (.sl .arg TVirtualFunction) (.pair (.sl .arg TMailbox) (.sl .arg .str))))),some (.pair (.sl (.own (some 24577)) TSoft) (.pair (.sl (.own (some 24580)) (.sl .str)) (.pair (.sl (.own (some 24583)) TVirtualFunction) (.pair (.sl (.own (some 24586)) TMailbox) (.sl (.own (some 24589)) .str))))),some (.pair (.sl (.own (some 36865)) TSoft) (.pair (.sl (.own (some 36868)) (.sl .str)) (.pair (.sl (.own (some 36871)) TVirtualFunction) (.pair (.sl (.own (some 36874)) TMailbox) (.sl (.own (some 36877)) .str))))),Z,Z,Z,Z,Z,Z,Z,Z,Z,Z,Z,Z,Z,Z,Z,Z,Z,Z,Z,Z,Z,Z,Z,Z,Z,Z,Z,Z,Z,Z,Z,Z,Z,Z,Z,Z,Z,Z,Z,Z,Z,Z,Z,Z,Z,Z,Z,Z,Z,Z,Z,Z,Z,Z,Z,Z,Z,Z,Z,Z,Z,Z,Z,Z,Z,Z,Z,Z], .none⟩
def t19_7 {R : Type} (X : SD.D d19_7) (K : Ex → AS → Option R) := Pu.spec_l43Copy_T7 (fun y0 y1 => K (.exit 2) (SD.enc d19_7 ((y0, ()), (X.2.1.1, (X.2.1.2.1, (y1, ()))), ()))) X.2.1.1 X.2.1.2.1
def l19_7 : LEnt := ⟨d19_7, fun X K => iterL (t19_7 X K) fuel (X.1.1, X.2.1.2.2.1)⟩
@[reducible] def d19_11 : SD := ⟨[B,.ptr 1 0,.ptr 2 0,.ptr 3 0,B,B,DI,B,B,B,B,B,B,B,B,B,B,B,B,B,B,B,B,B,B,B,B,B,B,B,B,B,B,B,B,B,B,B,B,B,B,B,B,B,B,B,B,B,B,B,B,B,B,B,B,B,B,B,B,B,B,B,B,B,B,B,B,B,B,B,B,B], [Z,some (.pair (.sl .arg TSoft) (.pair (.sl .arg (.sl .str)) (.pair (.sl .arg TVirtualFunction) (.pair (.sl .arg TMailbox) (.sl .arg .str))))),some (.pair (.sl (.own (some 24577)) TSoft) (.pair (.sl (.own (some 24580)) (.sl .str)) (.pair (.sl (.own (some 24583)) TVirtualFunction) (.pair (.sl (.own (some 24586)) TMailbox) (.sl (.own (some 24589)) .str))))),some (.pair (.sl (.own (some 36865)) TSoft) (.pair (.sl (.own (some 36868)) (.sl .str)) (.pair (.sl (.own (some 36871)) TVirtualFunction) (.pair (.sl (.own (some 36874)) TMailbox) (.sl (.own (some 36877)) .str))))),Z,Z,Z,Z,Z,Z,Z,Z,Z,Z,Z,Z,Z,Z,Z,Z,Z,Z,Z,Z,Z,Z,Z,Z,Z,Z,Z,Z,Z,Z,Z,Z,Z,Z,Z,Z,Z,Z,Z,Z,Z,Z,Z,Z,Z,Z,Z,Z,Z,Z,Z,Z,Z,Z,Z,Z,Z,Z,Z,Z,Z,Z,Z,Z,Z,Z,Z,Z], .none⟩
def t19_11 {R : Type} (X : SD.D d19_11) (K : Ex → AS → Option R) := Pu.spec_l43Copy_T11 (fun y0 y1 => K (.exit 4) (SD.enc d19_11 ((y0, ()), (X.2.1.1, (X.2.1.2.1, (y1, ()))), ()))) X.2.1.1 X.2.1.2.1
def l19_11 : LEnt := ⟨d19_11, fun X K => iterL (t19_11 X K) fuel (X.1.1, X.2.1.2.2.1)⟩
def L19 : Lam := (((Lam.nil).add 3 l19_3).add 7 l19_7).add 11 l19_11
theorem k19_3 : LOk E g19 n19 L19 (loopBody Tryz.f19 0) :=
  lok l19_3 (by kernel_rfl) fuel fun R X K => (loop_iter (σ := Int × Pu.Ideal) (fun x => SD.enc d19_3 ((x.1, ()), (X.2.1.1, (X.2.1.2.1, (x.2, ()))), ())) (t19_3 X K) (fun m x => by kernel_rfl) fuel (X.1.1, X.2.1.2.2.1)).symm
theorem k19_7 : LOk E g19 n19 L19 (loopBody Tryz.f19 1) :=
  lok l19_7 (by kernel_rfl) fuel fun R X K => (loop_iter (σ := Int × Pu.Ideal) (fun x => SD.enc d19_7 ((x.1, ()), (X.2.1.1, (X.2.1.2.1, (x.2, ()))), ())) (t19_7 X K) (fun m x => by kernel_rfl) fuel (X.1.1, X.2.1.2.2.1)).symm
theorem k19_11 : LOk E g19 n19 L19 (loopBody Tryz.f19 2) :=
  lok l19_11 (by kernel_rfl) fuel fun R X K => (loop_iter (σ := Int × Pu.Ideal) (fun x => SD.enc d19_11 ((x.1, ()), (X.2.1.1, (X.2.1.2.1, (x.2, ()))), ())) (t19_11 X K) (fun m x => by kernel_rfl) fuel (X.1.1, X.2.1.2.2.1)).symm
theorem o19 : FnOk Tryz.prog 19 e19 := fk n19 (((base).add o55).add o56) Tryz.func19 (Λ := L19) (cF k19_3 (cF k19_7 (cF k19_11 nF)))
def e108 : GEnt := entOf [.data false (.int .i64), .data false (.int .i64), .data false (.int .i64)] [(false, .bool)] fun a => Pu.spec_l01In a.1 a.2.1 a.2.2.1
theorem o108 : FnOk Tryz.prog 108 e108 := fk { merge := fun | 1 => some 6 | _ => none } (base) Tryz.func108 (Λ := Lam.nil) nF
def e113 : GEnt := entOf [.data true TFilter] [(false, .bool)] fun a => Pu.spec_FilterOk a.1
def g113 : Gam := (Gam.nil).add 108 e108
def n113 : An := { mask := fun | 2 => [1, 2, 3] | _ => [], merge := fun | 4 => some 35 | 6 => some 2 | _ => none }
@[reducible] def d113_2 : SD := ⟨[B,.ptr 1 0,DB,DI,B,B,B,B,B,B,B,B,B,B,B,B,B,B,B,B,B,B,B,B,B,B,B,B,B,B,B,B,B,B,B,B,B,B,B,B,B,B,B,B,B], [Z,some (.pair (.int .i64) (.pair .bool (.sl .arg (.int .i64)))),Z,Z,Z,Z,Z,Z,Z,Z,Z,Z,Z,Z,Z,Z,Z,Z,Z,Z,Z,Z,Z,Z,Z,Z,Z,Z,Z,Z,Z,Z,Z,Z,Z,Z,Z,Z,Z,Z,Z,Z,Z,Z,Z], .none⟩
def t113_2 {R : Type} (X : SD.D d113_2) (K : Ex → AS → Option R) := Pu.spec_FilterOk_T2 (fun y0 => K (.exit 0) (SD.enc d113_2 ((X.1.1, (y0, ())), (X.2.1.1, ()), ()))) (fun y0 y1 => K .ret (SD.enc d113_2 ((y0, (y1, ())), (X.2.1.1, ()), ()))) X.1.1 X.2.1.1
def l113_2 : LEnt := ⟨d113_2, fun X K => iterL (t113_2 X K) fuel X.1.2.1⟩
def L113 : Lam := (Lam.nil).add 2 l113_2
theorem k113_2 : LOk E g113 n113 L113 (loopBody Tryz.f113 0) :=
  lok l113_2 (by kernel_rfl) fuel fun R X K => (loop_iter (σ := Int) (fun x => SD.enc d113_2 ((X.1.1, (x, ())), (X.2.1.1, ()), ())) (t113_2 X K) (fun m x => by kernel_rfl) fuel X.1.2.1).symm
theorem o113 : FnOk Tryz.prog 113 e113 := fk n113 ((base).add o108) Tryz.func113 (Λ := L113) (cF k113_2 nF)
def e109 : GEnt := entOf [.data true TMailbox] [(false, .bool)] fun a => Pu.spec_MailboxOk a.1
theorem o109 : FnOk Tryz.prog 109 e109 := fk { merge := fun | 1 => some 2 | _ => none } (((base).add o108).add o113) Tryz.func109 (Λ := Lam.nil) nF
def e117 : GEnt := entOf [.data false (.sl (.int .i64)), .data false (.int .i64)] [(false, .bool)] fun a => Pu.spec_l24Has a.1 a.2.1
def g117 : Gam := Gam.nil
def n117 : An := { mask := fun | 2 => [0, 1, 4, 5] | _ => [] }
@[reducible] def d117_2 : SD := ⟨[.data false (.sl .arg (.int .i64)),DI,B,B,DB,DI,B,B,B,B,B,B,B,B,B,B,B,B], [Z,Z,Z,Z,Z,Z,Z,Z,Z,Z,Z,Z,Z,Z,Z,Z,Z,Z], .none⟩
def t117_2 {R : Type} (X : SD.D d117_2) (K : Ex → AS → Option R) := Pu.spec_l24Has_T2 (fun y0 => K (.exit 0) (SD.enc d117_2 ((X.1.1, (X.1.2.1, (X.1.2.2.1, (y0, ())))), (), ()))) (fun y0 y1 => K .ret (SD.enc d117_2 ((X.1.1, (X.1.2.1, (y0, (y1, ())))), (), ()))) X.1.1 X.1.2.1 X.1.2.2.1
def l117_2 : LEnt := ⟨d117_2, fun X K => iterL (t117_2 X K) fuel X.1.2.2.2.1⟩
def L117 : Lam := (Lam.nil).add 2 l117_2
theorem k117_2 : LOk E g117 n117 L117 (loopBody Tryz.f117 0) :=
  lok l117_2 (by kernel_rfl) fuel fun R X K => (loop_iter (σ := Int) (fun x => SD.enc d117_2 ((X.1.1, (X.1.2.1, (X.1.2.2.1, (x, ())))), (), ())) (t117_2 X K) (fun m x => by kernel_rfl) fuel X.1.2.2.2.1).symm
theorem o117 : FnOk Tryz.prog 117 e117 := fk n117 (base) Tryz.func117 (Λ := L117) (cF k117_2 nF)
def e110 : GEnt := entOf [.data false (.sl (.int .i64)), .data false (.sl (.int .i64))] [(false, (.sl (.own none) (.int .i64)))] fun a => Pu.spec_l42Union a.1 a.2.1
def g110 : Gam := (Gam.nil).add 117 e117
def n110 : An := { mask := fun | 3 => [1, 5, 6] | 7 => [1, 5, 6, 7] | _ => [], merge := fun | 7 => some 37 | _ => none, mv := [55] }
@[reducible] def d110_7 : SD := ⟨[B,.data false (.sl .arg (.int .i64)),B,B,B,.data false (.sl (.own (some 61440)) (.int .i64)),DI,DI,B,B,B,B,B,B,B,B,B,B,B,B,B,B,B,B,B,B,B,B,B,B,B,B,B,B,B,B,B,B,B,B,B,B,B,B,B,B,B,B,B,B,B,B,B,B,B,B], [Z,Z,Z,Z,Z,Z,Z,Z,Z,Z,Z,Z,Z,Z,Z,Z,Z,Z,Z,Z,Z,Z,Z,Z,Z,Z,Z,Z,Z,Z,Z,Z,Z,Z,Z,Z,Z,Z,Z,Z,Z,Z,Z,Z,Z,Z,Z,Z,Z,Z,Z,Z,Z,Z,Z,Z], .none⟩
def t110_7 {R : Type} (X : SD.D d110_7) (K : Ex → AS → Option R) := Pu.spec_l42Union_T7 (fun y0 => K (.exit 2) (SD.enc d110_7 ((X.1.1, (X.1.2.1, (X.1.2.2.1, (y0, ())))), (), ()))) X.1.1 X.1.2.1 X.1.2.2.1
def l110_7 : LEnt := ⟨d110_7, fun X K => iterL (t110_7 X K) fuel X.1.2.2.2.1⟩
@[reducible] def d110_3 : SD := ⟨[B,.data false (.sl .arg (.int .i64)),B,B,B,.data false (.sl (.own (some 61440)) (.int .i64)),DI,B,B,B,B,B,B,B,B,B,B,B,B,B,B,B,B,B,B,B,B,B,B,B,B,B,B,B,B,B,B,B,B,B,B,B,B,B,B,B,B,B,B,B,B,B,B,B,B,B], [Z,Z,Z,Z,Z,Z,Z,Z,Z,Z,Z,Z,Z,Z,Z,Z,Z,Z,Z,Z,Z,Z,Z,Z,Z,Z,Z,Z,Z,Z,Z,Z,Z,Z,Z,Z,Z,Z,Z,Z,Z,Z,Z,Z,Z,Z,Z,Z,Z,Z,Z,Z,Z,Z,Z,Z], .none⟩
def t110_3 {R : Type} (X : SD.D d110_3) (K : Ex → AS → Option R) := Pu.spec_l42Union_T3 (fun y0 y1 => K (.exit 0) (SD.enc d110_3 ((X.1.1, (y0, (y1, ()))), (), ()))) X.1.1
def l110_3 : LEnt := ⟨d110_3, fun X K => iterL (t110_3 X K) fuel (X.1.2.1, X.1.2.2.1)⟩
def L110 : Lam := ((Lam.nil).add 7 l110_7).add 3 l110_3
theorem k110_7 : LOk E g110 n110 L110 (loopBody Tryz.f110 1) :=
  lok l110_7 (by kernel_rfl) fuel fun R X K => (loop_iter (σ := Int) (fun x => SD.enc d110_7 ((X.1.1, (X.1.2.1, (X.1.2.2.1, (x, ())))), (), ())) (t110_7 X K) (fun m x => by kernel_rfl) fuel X.1.2.2.2.1).symm
theorem k110_3 : LOk E g110 n110 L110 (loopBody Tryz.f110 0) :=
  lok l110_3 (by kernel_rfl) fuel fun R X K => (loop_iter (σ := (List Int) × Int) (fun x => SD.enc d110_3 ((X.1.1, (x.1, (x.2, ()))), (), ())) (t110_3 X K) (fun m x => by kernel_rfl) fuel (X.1.2.1, X.1.2.2.1)).symm
theorem o110 : FnOk Tryz.prog 110 e110 := fk n110 ((base).add o117) Tryz.func110 (Λ := L110) (cF k110_3 (cF k110_7 nF))
def e111 : GEnt := entOf [.data false (.sl TPort)] [(false, .bool)] fun a => Pu.spec_PortsOk a.1
def g111 : Gam := (((Gam.nil).add 108 e108).add 113 e113).add 117 e117
def n111 : An := { mask := fun | 4 => [0, 2, 3] | 9 => [0, 2, 3, 4] | _ => [] }
@[reducible] def d111_9 : SD := ⟨[.data false (.sl .arg TPort),B,DB,DI,DI,B,B,B,B,B,B,B,B,B,B,B,B,B,B,B,B,B,B,B,B,B,B,B,B,B,B,B,B,B,B,B,B,B,B,B,B,B,B,B,B,B,B,B,B,B,B,B,B,B,B,B,B,B], [Z,Z,Z,Z,Z,Z,Z,Z,Z,Z,Z,Z,Z,Z,Z,Z,Z,Z,Z,Z,Z,Z,Z,Z,Z,Z,Z,Z,Z,Z,Z,Z,Z,Z,Z,Z,Z,Z,Z,Z,Z,Z,Z,Z,Z,Z,Z,Z,Z,Z,Z,Z,Z,Z,Z,Z,Z,Z], .none⟩
def t111_9 {R : Type} (X : SD.D d111_9) (K : Ex → AS → Option R) := Pu.spec_PortsOk_T9 (fun y0 => K (.exit 2) (SD.enc d111_9 ((X.1.1, (X.1.2.1, (X.1.2.2.1, (y0, ())))), (), ()))) (fun y0 y1 => K .ret (SD.enc d111_9 ((X.1.1, (y0, (X.1.2.2.1, (y1, ())))), (), ()))) X.1.1 X.1.2.1 X.1.2.2.1
def l111_9 : LEnt := ⟨d111_9, fun X K => iterL (t111_9 X K) fuel X.1.2.2.2.1⟩
@[reducible] def d111_4 : SD := ⟨[.data false (.sl .arg TPort),B,DB,DI,B,B,B,B,B,B,B,B,B,B,B,B,B,B,B,B,B,B,B,B,B,B,B,B,B,B,B,B,B,B,B,B,B,B,B,B,B,B,B,B,B,B,B,B,B,B,B,B,B,B,B,B,B,B], [Z,Z,Z,Z,Z,Z,Z,Z,Z,Z,Z,Z,Z,Z,Z,Z,Z,Z,Z,Z,Z,Z,Z,Z,Z,Z,Z,Z,Z,Z,Z,Z,Z,Z,Z,Z,Z,Z,Z,Z,Z,Z,Z,Z,Z,Z,Z,Z,Z,Z,Z,Z,Z,Z,Z,Z,Z,Z], .none⟩
def t111_4 {R : Type} (X : SD.D d111_4) (K : Ex → AS → Option R) := Pu.spec_PortsOk_T4 (fun y0 => K (.exit 0) (SD.enc d111_4 ((X.1.1, (X.1.2.1, (y0, ()))), (), ()))) (fun y0 y1 => K .ret (SD.enc d111_4 ((X.1.1, (y0, (y1, ()))), (), ()))) X.1.1 X.1.2.1
def l111_4 : LEnt := ⟨d111_4, fun X K => iterL (t111_4 X K) fuel X.1.2.2.1⟩
def L111 : Lam := ((Lam.nil).add 9 l111_9).add 4 l111_4
theorem k111_9 : LOk E g111 n111 L111 (loopBody Tryz.f111 1) :=
  lok l111_9 (by kernel_rfl) fuel fun R X K => (loop_iter (σ := Int) (fun x => SD.enc d111_9 ((X.1.1, (X.1.2.1, (X.1.2.2.1, (x, ())))), (), ())) (t111_9 X K) (fun m x => by kernel_rfl) fuel X.1.2.2.2.1).symm
theorem k111_4 : LOk E g111 n111 L111 (loopBody Tryz.f111 0) :=
  lok l111_4 (by kernel_rfl) fuel fun R X K => (loop_iter (σ := Int) (fun x => SD.enc d111_4 ((X.1.1, (X.1.2.1, (x, ()))), (), ())) (t111_4 X K) (fun m x => by kernel_rfl) fuel X.1.2.2.1).symm
theorem o111 : FnOk Tryz.prog 111 e111 := fk n111 ((((base).add o108).add o113).add o117) Tryz.func111 (Λ := L111) (cF k111_4 (cF k111_9 nF))
def e57 : GEnt := entOf [.data false (.sl TMailbox)] [(false, (.sl (.own none) TPort)), (false, .bool)] fun a => Pu.spec_PortsOf a.1
def g57 : Gam := ((((Gam.nil).add 108 e108).add 109 e109).add 110 e110).add 111 e111
def n57 : An := { mask := fun | 5 => [0, 2, 3, 4, 5] | _ => [], mv := [41, 63] }
@[reducible] def d57_5 : SD := ⟨[.data false (.sl .arg TMailbox),B,.data false (.sl (.own (some 24576)) TPort),DB,.data false (.sl (.own (some 49152)) TPort),DI,B,B,B,B,B,B,B,B,B,B,B,B,B,B,B,B,B,B,B,B,B,B,B,B,B,B,B,B,B,B,B,B,B,B,B,B,B,B,B,B,B,B,B,B,B,B,B,B,B,B,B,B,B,B,B,B,B,B], [Z,Z,Z,Z,Z,Z,Z,Z,Z,Z,Z,Z,Z,Z,Z,Z,Z,Z,Z,Z,Z,Z,Z,Z,Z,Z,Z,Z,Z,Z,Z,Z,Z,Z,Z,Z,Z,Z,Z,Z,Z,Z,Z,Z,Z,Z,Z,Z,Z,Z,Z,Z,Z,Z,Z,Z,Z,Z,Z,Z,Z,Z,Z,Z], .none⟩
def t57_5 {R : Type} (X : SD.D d57_5) (K : Ex → AS → Option R) := Pu.spec_PortsOf_T5 (fun y0 y1 => K (.exit 0) (SD.enc d57_5 ((X.1.1, (X.1.2.1, (X.1.2.2.1, (y0, (y1, ()))))), (), ()))) (fun y0 y1 y2 y3 => K .ret (SD.enc d57_5 ((X.1.1, (y0, (y1, (y2, (y3, ()))))), (), ()))) X.1.1 X.1.2.1 X.1.2.2.1
def l57_5 : LEnt := ⟨d57_5, fun X K => iterL (t57_5 X K) fuel (X.1.2.2.2.1, X.1.2.2.2.2.1)⟩
def L57 : Lam := (Lam.nil).add 5 l57_5
theorem k57_5 : LOk E g57 n57 L57 (loopBody Tryz.f57 0) :=
  lok l57_5 (by kernel_rfl) fuel fun R X K => (loop_iter (σ := (List Pu.Port) × Int) (fun x => SD.enc d57_5 ((X.1.1, (X.1.2.1, (X.1.2.2.1, (x.1, (x.2, ()))))), (), ())) (t57_5 X K) (fun m x => by kernel_rfl) fuel (X.1.2.2.2.1, X.1.2.2.2.2.1)).symm
theorem o57 : FnOk Tryz.prog 57 e57 := fk n57 (((((base).add o108).add o109).add o110).add o111) Tryz.func57 (Λ := L57) (cF k57_5 nF)
def e112 : GEnt := entOf [.data true TBucket] [(false, .bool)] fun a => Pu.spec_BucketOk a.1
theorem o112 : FnOk Tryz.prog 112 e112 := fk { merge := fun | 1 => some 2 | _ => none } ((base).add o108) Tryz.func112 (Λ := Lam.nil) nF
def e58 : GEnt := entOf [.data false (.sl TVirtualFunction), .data false (.sl TPort)] [(false, .bool)] fun a => Pu.spec_FunctionsOk a.1 a.2.1
def g58 : Gam := (((Gam.nil).add 108 e108).add 111 e111).add 112 e112
def n58 : An := { mask := fun | 4 => [0, 1, 4, 5] | 10 => [0, 1, 4, 5, 6, 7] | _ => [], merge := fun | 7 => some 51 | 12 => some 74 | _ => none }
@[reducible] def d58_10 : SD := ⟨[.data false (.sl .arg TVirtualFunction),.data false (.sl .arg TPort),B,B,DB,DI,.ptr 6 0,DI,B,B,B,B,B,B,B,B,B,B,B,B,B,B,B,B,B,B,B,B,B,B,B,B,B,B,B,B,B,B,B,B,B,B,B,B,B,B,B,B,B,B,B,B,B,B,B,B,B,B,B,B,B,B,B,B,B,B,B,B,B,B,B,B,B,B,B], [Z,Z,Z,Z,Z,Z,some (.pair (.int .i64) (.pair (.int .i64) (.pair (.pair (.int .i64) (.pair (.int .i64) (.int .i64))) (.pair .bool (.pair (.int .i64) (.int .i64)))))),Z,Z,Z,Z,Z,Z,Z,Z,Z,Z,Z,Z,Z,Z,Z,Z,Z,Z,Z,Z,Z,Z,Z,Z,Z,Z,Z,Z,Z,Z,Z,Z,Z,Z,Z,Z,Z,Z,Z,Z,Z,Z,Z,Z,Z,Z,Z,Z,Z,Z,Z,Z,Z,Z,Z,Z,Z,Z,Z,Z,Z,Z,Z,Z,Z,Z,Z,Z], .none⟩
def t58_10 {R : Type} (X : SD.D d58_10) (K : Ex → AS → Option R) := Pu.spec_FunctionsOk_T10 (fun y0 => K (.exit 2) (SD.enc d58_10 ((X.1.1, (X.1.2.1, (X.1.2.2.1, (X.1.2.2.2.1, (y0, ()))))), (X.2.1.1, ()), ()))) (fun y0 y1 => K .ret (SD.enc d58_10 ((X.1.1, (X.1.2.1, (y0, (X.1.2.2.2.1, (y1, ()))))), (X.2.1.1, ()), ()))) X.1.1 X.1.2.1 X.1.2.2.1 X.1.2.2.2.1 X.2.1.1
def l58_10 : LEnt := ⟨d58_10, fun X K => iterL (t58_10 X K) fuel X.1.2.2.2.2.1⟩
@[reducible] def d58_4 : SD := ⟨[.data false (.sl .arg TVirtualFunction),.data false (.sl .arg TPort),B,B,DB,DI,B,B,B,B,B,B,B,B,B,B,B,B,B,B,B,B,B,B,B,B,B,B,B,B,B,B,B,B,B,B,B,B,B,B,B,B,B,B,B,B,B,B,B,B,B,B,B,B,B,B,B,B,B,B,B,B,B,B,B,B,B,B,B,B,B,B,B,B,B], [Z,Z,Z,Z,Z,Z,Z,Z,Z,Z,Z,Z,Z,Z,Z,Z,Z,Z,Z,Z,Z,Z,Z,Z,Z,Z,Z,Z,Z,Z,Z,Z,Z,Z,Z,Z,Z,Z,Z,Z,Z,Z,Z,Z,Z,Z,Z,Z,Z,Z,Z,Z,Z,Z,Z,Z,Z,Z,Z,Z,Z,Z,Z,Z,Z,Z,Z,Z,Z,Z,Z,Z,Z,Z,Z], .none⟩
def t58_4 {R : Type} (X : SD.D d58_4) (K : Ex → AS → Option R) := Pu.spec_FunctionsOk_T4 (fun y0 => K (.exit 0) (SD.enc d58_4 ((X.1.1, (X.1.2.1, (X.1.2.2.1, (y0, ())))), (), ()))) (fun y0 y1 => K .ret (SD.enc d58_4 ((X.1.1, (X.1.2.1, (y0, (y1, ())))), (), ()))) X.1.1 X.1.2.1 X.1.2.2.1
def l58_4 : LEnt := ⟨d58_4, fun X K => iterL (t58_4 X K) fuel X.1.2.2.2.1⟩
def L58 : Lam := ((Lam.nil).add 10 l58_10).add 4 l58_4
theorem k58_10 : LOk E g58 n58 L58 (loopBody Tryz.f58 1) :=
  lok l58_10 (by kernel_rfl) fuel fun R X K => (loop_iter (σ := Int) (fun x => SD.enc d58_10 ((X.1.1, (X.1.2.1, (X.1.2.2.1, (X.1.2.2.2.1, (x, ()))))), (X.2.1.1, ()), ())) (t58_10 X K) (fun m x => by kernel_rfl) fuel X.1.2.2.2.2.1).symm
theorem k58_4 : LOk E g58 n58 L58 (loopBody Tryz.f58 0) :=
  lok l58_4 (by kernel_rfl) fuel fun R X K => (loop_iter (σ := Int) (fun x => SD.enc d58_4 ((X.1.1, (X.1.2.1, (X.1.2.2.1, (x, ())))), (), ())) (t58_4 X K) (fun m x => by kernel_rfl) fuel X.1.2.2.2.1).symm
theorem o58 : FnOk Tryz.prog 58 e58 := fk n58 ((((base).add o108).add o111).add o112) Tryz.func58 (Λ := L58) (cF k58_4 (cF k58_10 nF))
def e211 : GEnt := entOf [.data true TRule] [(false, .bool)] fun a => Pu.spec_RuleOk a.1
theorem o211 : FnOk Tryz.prog 211 e211 := fk { merge := fun | 1 => some 33 | 3 => some 54 | 5 => some 2 | _ => none } ((base).add o108) Tryz.func211 (Λ := Lam.nil) nF
def e163 : GEnt := entOf [.data false (.sl TRule)] [(false, .bool)] fun a => Pu.spec_RulesOk a.1
def g163 : Gam := (Gam.nil).add 211 e211
def n163 : An := { mask := fun | 2 => [0, 2, 3] | _ => [] }
@[reducible] def d163_2 : SD := ⟨[.data false (.sl .arg TRule),B,DB,DI,B,B,B,B,B,B,B,B,B,B,B,B,B,B,B], [Z,Z,Z,Z,Z,Z,Z,Z,Z,Z,Z,Z,Z,Z,Z,Z,Z,Z,Z], .none⟩
def t163_2 {R : Type} (X : SD.D d163_2) (K : Ex → AS → Option R) := Pu.spec_RulesOk_T2 (fun y0 => K (.exit 0) (SD.enc d163_2 ((X.1.1, (X.1.2.1, (y0, ()))), (), ()))) (fun y0 y1 => K .ret (SD.enc d163_2 ((X.1.1, (y0, (y1, ()))), (), ()))) X.1.1 X.1.2.1
def l163_2 : LEnt := ⟨d163_2, fun X K => iterL (t163_2 X K) fuel X.1.2.2.1⟩
def L163 : Lam := (Lam.nil).add 2 l163_2
theorem k163_2 : LOk E g163 n163 L163 (loopBody Tryz.f163 0) :=
  lok l163_2 (by kernel_rfl) fuel fun R X K => (loop_iter (σ := Int) (fun x => SD.enc d163_2 ((X.1.1, (X.1.2.1, (x, ()))), (), ())) (t163_2 X K) (fun m x => by kernel_rfl) fuel X.1.2.2.1).symm
theorem o163 : FnOk Tryz.prog 163 e163 := fk n163 ((base).add o211) Tryz.func163 (Λ := L163) (cF k163_2 nF)
def e243 : GEnt := entOf [.data true TFlow] [(false, (.int .i64))] fun a => Pu.spec_HomeSlot a.1
def g243 : Gam := Gam.nil
def n243 : An := { mask := fun | 4 => [3, 4, 5] | _ => [] }
@[reducible] def d243_4 : SD := ⟨[B,B,B,DI,.data false (.sl (.own (some 49152)) (.int .i64)),DI,B,B,B,B,B,B,B,B,B,B,B,B,B,B,B,B,B,B,B,B,B,B,B,B,B,B], [Z,Z,Z,Z,Z,Z,Z,Z,Z,Z,Z,Z,Z,Z,Z,Z,Z,Z,Z,Z,Z,Z,Z,Z,Z,Z,Z,Z,Z,Z,Z,Z], .none⟩
def t243_4 {R : Type} (X : SD.D d243_4) (K : Ex → AS → Option R) := Pu.spec_HomeSlot_T4 (fun y0 y1 => K (.exit 0) (SD.enc d243_4 ((y0, (X.1.2.1, (y1, ()))), (), ()))) X.1.2.1
def l243_4 : LEnt := ⟨d243_4, fun X K => iterL (t243_4 X K) fuel (X.1.1, X.1.2.2.1)⟩
def L243 : Lam := (Lam.nil).add 4 l243_4
theorem k243_4 : LOk E g243 n243 L243 (loopBody Tryz.f243 0) :=
  lok l243_4 (by kernel_rfl) fuel fun R X K => (loop_iter (σ := Int × Int) (fun x => SD.enc d243_4 ((x.1, (X.1.2.1, (x.2, ()))), (), ())) (t243_4 X K) (fun m x => by kernel_rfl) fuel (X.1.1, X.1.2.2.1)).symm
theorem o243 : FnOk Tryz.prog 243 e243 := fk n243 (base) Tryz.func243 (Λ := L243) (cF k243_4 nF)
def e212 : GEnt := entOf [.data true (.sl TSlot), .data true TFlow] [(false, (.int .i64))] fun a => Pu.spec_l13Find a.1 a.2.1
def g212 : Gam := (Gam.nil).add 243 e243
def n212 : An := { mask := fun | 2 => [2, 3, 4, 5] | _ => [], merge := fun | 7 => some 39 | _ => none }
@[reducible] def d212_2 : SD := ⟨[B,B,.ptr 2 0,.ptr 3 0,DI,DI,B,B,B,B,B,B,B,B,B,B,B,B,B,B,B,B,B,B,B,B,B,B,B,B,B,B,B,B,B,B,B,B,B,B,B], [Z,Z,some (.sl .arg TSlot),some (.pair (.int .i64) (.pair (.int .i64) (.pair (.int .i64) (.pair (.int .i64) (.int .i64))))),Z,Z,Z,Z,Z,Z,Z,Z,Z,Z,Z,Z,Z,Z,Z,Z,Z,Z,Z,Z,Z,Z,Z,Z,Z,Z,Z,Z,Z,Z,Z,Z,Z,Z,Z,Z,Z], .none⟩
def t212_2 {R : Type} (X : SD.D d212_2) (K : Ex → AS → Option R) := Pu.spec_l13Find_T2 (fun y0 => K (.exit 0) (SD.enc d212_2 ((X.1.1, (y0, ())), (X.2.1.1, (X.2.1.2.1, ())), ()))) (fun y0 y1 => K .ret (SD.enc d212_2 ((y0, (y1, ())), (X.2.1.1, (X.2.1.2.1, ())), ()))) X.1.1 X.2.1.1 X.2.1.2.1
def l212_2 : LEnt := ⟨d212_2, fun X K => iterL (t212_2 X K) fuel X.1.2.1⟩
def L212 : Lam := (Lam.nil).add 2 l212_2
theorem k212_2 : LOk E g212 n212 L212 (loopBody Tryz.f212 0) :=
  lok l212_2 (by kernel_rfl) fuel fun R X K => (loop_iter (σ := Int) (fun x => SD.enc d212_2 ((X.1.1, (x, ())), (X.2.1.1, (X.2.1.2.1, ())), ())) (t212_2 X K) (fun m x => by kernel_rfl) fuel X.1.2.1).symm
theorem o212 : FnOk Tryz.prog 212 e212 := fk n212 ((base).add o243) Tryz.func212 (Λ := L212) (cF k212_2 nF)
def e164 : GEnt := entOf [.data true (.sl TSlot)] [(false, .bool)] fun a => Pu.spec_TableOk a.1
def g164 : Gam := ((Gam.nil).add 108 e108).add 212 e212
def n164 : An := { mask := fun | 4 => [1, 2, 3] | _ => [], merge := fun | 7 => some 30 | 10 => some 42 | _ => none }
@[reducible] def d164_4 : SD := ⟨[B,.ptr 1 0,DB,DI,B,B,B,B,B,B,B,B,B,B,B,B,B,B,B,B,B,B,B,B,B,B,B,B,B,B,B,B,B,B,B,B,B,B,B,B,B,B,B,B,B,B,B,B,B], [Z,some (.sl .arg TSlot),Z,Z,Z,Z,Z,Z,Z,Z,Z,Z,Z,Z,Z,Z,Z,Z,Z,Z,Z,Z,Z,Z,Z,Z,Z,Z,Z,Z,Z,Z,Z,Z,Z,Z,Z,Z,Z,Z,Z,Z,Z,Z,Z,Z,Z,Z,Z], .none⟩
def t164_4 {R : Type} (X : SD.D d164_4) (K : Ex → AS → Option R) := Pu.spec_TableOk_T4 (fun y0 => K (.exit 0) (SD.enc d164_4 ((X.1.1, (y0, ())), (X.2.1.1, ()), ()))) (fun y0 y1 => K .ret (SD.enc d164_4 ((y0, (y1, ())), (X.2.1.1, ()), ()))) X.1.1 X.2.1.1
def l164_4 : LEnt := ⟨d164_4, fun X K => iterL (t164_4 X K) fuel X.1.2.1⟩
def L164 : Lam := (Lam.nil).add 4 l164_4
theorem k164_4 : LOk E g164 n164 L164 (loopBody Tryz.f164 0) :=
  lok l164_4 (by kernel_rfl) fuel fun R X K => (loop_iter (σ := Int) (fun x => SD.enc d164_4 ((X.1.1, (x, ())), (X.2.1.1, ()), ())) (t164_4 X K) (fun m x => by kernel_rfl) fuel X.1.2.1).symm
theorem o164 : FnOk Tryz.prog 164 e164 := fk n164 (((base).add o108).add o212) Tryz.func164 (Λ := L164) (cF k164_4 nF)
def e213 : GEnt := entOf [.data false (.int .i64)] [(false, .bool)] fun a => Pu.spec_l12Size a.1
theorem o213 : FnOk Tryz.prog 213 e213 := fk { merge := fun | 1 => some 2 | _ => none } (base) Tryz.func213 (Λ := Lam.nil) nF
def e165 : GEnt := entOf [.data true TSpread, .data false (.int .i64)] [(false, .bool)] fun a => Pu.spec_SpreadOk a.1 a.2.1
def g165 : Gam := ((Gam.nil).add 108 e108).add 213 e213
def n165 : An := { mask := fun | 4 => [1, 2, 4, 5] | _ => [], merge := fun | 1 => some 21 | _ => none }
@[reducible] def d165_4 : SD := ⟨[B,DI,.ptr 2 0,B,DB,DI,B,B,B,B,B,B,B,B,B,B,B,B,B,B,B,B,B,B,B,B,B,B,B,B,B,B,B,B,B,B,B,B], [Z,Z,some (.pair .str (.sl .arg (.int .i64))),Z,Z,Z,Z,Z,Z,Z,Z,Z,Z,Z,Z,Z,Z,Z,Z,Z,Z,Z,Z,Z,Z,Z,Z,Z,Z,Z,Z,Z,Z,Z,Z,Z,Z,Z], .none⟩
def t165_4 {R : Type} (X : SD.D d165_4) (K : Ex → AS → Option R) := Pu.spec_SpreadOk_T4 (fun y0 => K (.exit 0) (SD.enc d165_4 ((X.1.1, (X.1.2.1, (y0, ()))), (X.2.1.1, ()), ()))) (fun y0 y1 => K .ret (SD.enc d165_4 ((X.1.1, (y0, (y1, ()))), (X.2.1.1, ()), ()))) X.1.1 X.1.2.1 X.2.1.1
def l165_4 : LEnt := ⟨d165_4, fun X K => iterL (t165_4 X K) fuel X.1.2.2.1⟩
def L165 : Lam := (Lam.nil).add 4 l165_4
theorem k165_4 : LOk E g165 n165 L165 (loopBody Tryz.f165 0) :=
  lok l165_4 (by kernel_rfl) fuel fun R X K => (loop_iter (σ := Int) (fun x => SD.enc d165_4 ((X.1.1, (X.1.2.1, (x, ()))), (X.2.1.1, ()), ())) (t165_4 X K) (fun m x => by kernel_rfl) fuel X.1.2.2.1).symm
theorem o165 : FnOk Tryz.prog 165 e165 := fk n165 (((base).add o108).add o213) Tryz.func165 (Λ := L165) (cF k165_4 nF)
def e114 : GEnt := entOf [.data true TSteering, .data false (.int .i64)] [(false, .bool)] fun a => Pu.spec_SteeringOk a.1 a.2.1
def g114 : Gam := (((Gam.nil).add 163 e163).add 164 e164).add 165 e165
def n114 : An := { mask := fun | 4 => [1, 2, 4, 5] | 9 => [1, 2, 4, 6] | _ => [], merge := fun | 1 => some 23 | _ => none }
@[reducible] def d114_4 : SD := ⟨[B,DI,.ptr 2 0,B,DB,DI,B,B,B,B,B,B,B,B,B,B,B,B,B,B,B,B,B,B,B,B,B,B,B,B,B,B,B,B,B,B,B,B,B,B,B,B,B,B,B,B,B,B,B,B,B,B,B,B,B,B], [Z,Z,some (.pair (.sl .arg TRule) (.pair (.sl .arg TSlot) (.pair .str (.sl .arg (.int .i64))))),Z,Z,Z,Z,Z,Z,Z,Z,Z,Z,Z,Z,Z,Z,Z,Z,Z,Z,Z,Z,Z,Z,Z,Z,Z,Z,Z,Z,Z,Z,Z,Z,Z,Z,Z,Z,Z,Z,Z,Z,Z,Z,Z,Z,Z,Z,Z,Z,Z,Z,Z,Z,Z], .none⟩
def t114_4 {R : Type} (X : SD.D d114_4) (K : Ex → AS → Option R) := Pu.spec_SteeringOk_T4 (fun y0 => K (.exit 0) (SD.enc d114_4 ((X.1.1, (X.1.2.1, (y0, ()))), (X.2.1.1, ()), ()))) (fun y0 y1 => K .ret (SD.enc d114_4 ((X.1.1, (y0, (y1, ()))), (X.2.1.1, ()), ()))) X.1.1 X.1.2.1 X.2.1.1
def l114_4 : LEnt := ⟨d114_4, fun X K => iterL (t114_4 X K) fuel X.1.2.2.1⟩
@[reducible] def d114_9 : SD := ⟨[B,DI,.ptr 2 0,B,DB,B,DI,B,B,B,B,B,B,B,B,B,B,B,B,B,B,B,B,B,B,B,B,B,B,B,B,B,B,B,B,B,B,B,B,B,B,B,B,B,B,B,B,B,B,B,B,B,B,B,B,B], [Z,Z,some (.pair (.sl .arg TRule) (.pair (.sl .arg TSlot) (.pair .str (.sl .arg (.int .i64))))),Z,Z,Z,Z,Z,Z,Z,Z,Z,Z,Z,Z,Z,Z,Z,Z,Z,Z,Z,Z,Z,Z,Z,Z,Z,Z,Z,Z,Z,Z,Z,Z,Z,Z,Z,Z,Z,Z,Z,Z,Z,Z,Z,Z,Z,Z,Z,Z,Z,Z,Z,Z,Z], .none⟩
def t114_9 {R : Type} (X : SD.D d114_9) (K : Ex → AS → Option R) := Pu.spec_SteeringOk_T9 (fun y0 => K (.exit 2) (SD.enc d114_9 ((X.1.1, (X.1.2.1, (y0, ()))), (X.2.1.1, ()), ()))) (fun y0 y1 => K .ret (SD.enc d114_9 ((X.1.1, (y0, (y1, ()))), (X.2.1.1, ()), ()))) X.1.1 X.1.2.1 X.2.1.1
def l114_9 : LEnt := ⟨d114_9, fun X K => iterL (t114_9 X K) fuel X.1.2.2.1⟩
def L114 : Lam := ((Lam.nil).add 4 l114_4).add 9 l114_9
theorem k114_4 : LOk E g114 n114 L114 (loopBody Tryz.f114 0) :=
  lok l114_4 (by kernel_rfl) fuel fun R X K => (loop_iter (σ := Int) (fun x => SD.enc d114_4 ((X.1.1, (X.1.2.1, (x, ()))), (X.2.1.1, ()), ())) (t114_4 X K) (fun m x => by kernel_rfl) fuel X.1.2.2.1).symm
theorem k114_9 : LOk E g114 n114 L114 (loopBody Tryz.f114 1) :=
  lok l114_9 (by kernel_rfl) fuel fun R X K => (loop_iter (σ := Int) (fun x => SD.enc d114_9 ((X.1.1, (X.1.2.1, (x, ()))), (X.2.1.1, ()), ())) (t114_9 X K) (fun m x => by kernel_rfl) fuel X.1.2.2.1).symm
theorem o114 : FnOk Tryz.prog 114 e114 := fk n114 ((((base).add o163).add o164).add o165) Tryz.func114 (Λ := L114) (cF k114_4 (cF k114_9 nF))
def e59 : GEnt := entOf [.data true TSoft] [(false, .bool)] fun a => Pu.spec_SoftOk a.1
theorem o59 : FnOk Tryz.prog 59 e59 := fk { merge := fun | 1 => some 2 | _ => none } (((base).add o113).add o114) Tryz.func59 (Λ := Lam.nil) nF
def e115 : GEnt := entOf [.data false (.sl (.int .i64)), .data false (.sl (.int .i64))] [(false, .bool)] fun a => Pu.spec_l39Ints a.1 a.2.1
def g115 : Gam := Gam.nil
def n115 : An := { mask := fun | 4 => [0, 1, 4, 5] | _ => [] }
@[reducible] def d115_4 : SD := ⟨[.data false (.sl .arg (.int .i64)),.data false (.sl .arg (.int .i64)),B,B,DB,DI,B,B,B,B,B,B,B,B,B,B,B,B,B,B,B,B,B,B,B,B], [Z,Z,Z,Z,Z,Z,Z,Z,Z,Z,Z,Z,Z,Z,Z,Z,Z,Z,Z,Z,Z,Z,Z,Z,Z,Z], .none⟩
def t115_4 {R : Type} (X : SD.D d115_4) (K : Ex → AS → Option R) := Pu.spec_l39Ints_T4 (fun y0 => K (.exit 0) (SD.enc d115_4 ((X.1.1, (X.1.2.1, (X.1.2.2.1, (y0, ())))), (), ()))) (fun y0 y1 => K .ret (SD.enc d115_4 ((X.1.1, (X.1.2.1, (y0, (y1, ())))), (), ()))) X.1.1 X.1.2.1 X.1.2.2.1
def l115_4 : LEnt := ⟨d115_4, fun X K => iterL (t115_4 X K) fuel X.1.2.2.2.1⟩
def L115 : Lam := (Lam.nil).add 4 l115_4
theorem k115_4 : LOk E g115 n115 L115 (loopBody Tryz.f115 0) :=
  lok l115_4 (by kernel_rfl) fuel fun R X K => (loop_iter (σ := Int) (fun x => SD.enc d115_4 ((X.1.1, (X.1.2.1, (X.1.2.2.1, (x, ())))), (), ())) (t115_4 X K) (fun m x => by kernel_rfl) fuel X.1.2.2.2.1).symm
theorem o115 : FnOk Tryz.prog 115 e115 := fk n115 (base) Tryz.func115 (Λ := L115) (cF k115_4 nF)
def e60 : GEnt := entOf [.data true TFilter, .data true TFilter] [(false, .bool)] fun a => Pu.spec_l42SameFilter a.1 a.2.1
theorem o60 : FnOk Tryz.prog 60 e60 := fk { merge := fun | 1 => some 4 | _ => none } ((base).add o115) Tryz.func60 (Λ := Lam.nil) nF
def e20 : GEnt := entOf [.data true TIdeal] [(false, .bool)] fun a => Pu.spec_IdealOk a.1
def g20 : Gam := ((((Gam.nil).add 57 e57).add 58 e58).add 59 e59).add 60 e60
def n20 : An := { mask := fun | 6 => [1, 2, 5, 6] | _ => [], merge := fun | 3 => some 45 | 8 => some 94 | _ => none }
@[reducible] def d20_6 : SD := ⟨[B,.ptr 1 0,DB,B,B,DI,DI,B,B,B,B,B,B,B,B,B,B,B,B,B,B,B,B,B,B,B,B,B,B,B,B,B,B,B,B,B,B,B,B,B,B,B,B,B,B,B,B,B,B,B,B,B,B,B,B,B,B,B,B,B,B,B,B,B,B,B,B,B,B,B,B,B,B,B,B,B,B,B,B,B,B,B,B,B,B,B,B,B,B,B,B,B,B,B,B], [Z,some (.pair (.sl .arg TSoft) (.pair (.sl .arg (.sl .str)) (.pair (.sl .arg TVirtualFunction) (.pair (.sl .arg TMailbox) (.sl .arg .str))))),Z,Z,Z,Z,Z,Z,Z,Z,Z,Z,Z,Z,Z,Z,Z,Z,Z,Z,Z,Z,Z,Z,Z,Z,Z,Z,Z,Z,Z,Z,Z,Z,Z,Z,Z,Z,Z,Z,Z,Z,Z,Z,Z,Z,Z,Z,Z,Z,Z,Z,Z,Z,Z,Z,Z,Z,Z,Z,Z,Z,Z,Z,Z,Z,Z,Z,Z,Z,Z,Z,Z,Z,Z,Z,Z,Z,Z,Z,Z,Z,Z,Z,Z,Z,Z,Z,Z,Z,Z,Z,Z,Z,Z], .none⟩
def t20_6 {R : Type} (X : SD.D d20_6) (K : Ex → AS → Option R) := Pu.spec_IdealOk_T6 (fun y0 => K (.exit 0) (SD.enc d20_6 ((X.1.1, (X.1.2.1, (y0, ()))), (X.2.1.1, ()), ()))) (fun y0 y1 => K .ret (SD.enc d20_6 ((y0, (X.1.2.1, (y1, ()))), (X.2.1.1, ()), ()))) X.1.1 X.1.2.1 X.2.1.1
def l20_6 : LEnt := ⟨d20_6, fun X K => iterL (t20_6 X K) fuel X.1.2.2.1⟩
def L20 : Lam := (Lam.nil).add 6 l20_6
theorem k20_6 : LOk E g20 n20 L20 (loopBody Tryz.f20 0) :=
  lok l20_6 (by kernel_rfl) fuel fun R X K => (loop_iter (σ := Int) (fun x => SD.enc d20_6 ((X.1.1, (X.1.2.1, (x, ()))), (X.2.1.1, ()), ())) (t20_6 X K) (fun m x => by kernel_rfl) fuel X.1.2.2.1).symm
theorem o20 : FnOk Tryz.prog 20 e20 := fk n20 (((((base).add o57).add o58).add o59).add o60) Tryz.func20 (Λ := L20) (cF k20_6 nF)
def e116 : GEnt := entOf [.data true TSegment] [(false, .bool)] fun a => Pu.spec_SegmentOk a.1
theorem o116 : FnOk Tryz.prog 116 e116 := fk { merge := fun | 1 => some 18 | 4 => some 2 | 5 => some 2 | _ => none } ((base).add o108) Tryz.func116 (Λ := Lam.nil) nF
def e61 : GEnt := entOf [.data true TPacket] [(false, .bool)] fun a => Pu.spec_SuperOk a.1
theorem o61 : FnOk Tryz.prog 61 e61 := fk { merge := fun | 1 => some 55 | 3 => some 3 | 4 => some 2 | _ => none } (((base).add o108).add o116) Tryz.func61 (Λ := Lam.nil) nF
def e21 : GEnt := entOf [.data true TPacket] [(false, .bool)] fun a => Pu.spec_PacketOk a.1
theorem o21 : FnOk Tryz.prog 21 e21 := fk { merge := fun | 1 => some 2 | _ => none } ((base).add o61) Tryz.func21 (Λ := Lam.nil) nF
def e63 : GEnt := entOf [.data false (.sl TPort), .data false (.int .i64), .data true TPacket] [(false, (.int .i64))] fun a => Pu.spec_EntryVlan a.1 a.2.1 a.2.2.1
theorem o63 : FnOk Tryz.prog 63 e63 := fk { merge := fun | 1 => some 23 | 6 => some 61 | _ => none } (((((base).add o61).add o108).add o111).add o117) Tryz.func63 (Λ := Lam.nil) nF
def e62 : GEnt := entOf [.data false (.sl TPort), .data false (.int .i64), .data true TPacket] [(false, (.sl (.own none) (.int .i64)))] fun a => Pu.spec_SwitchPacket a.1 a.2.1 a.2.2.1
def g62 : Gam := ((Gam.nil).add 63 e63).add 117 e117
def n62 : An := { mask := fun | 7 => [0, 1, 5, 7, 8, 9, 10] | 12 => [0, 1, 5, 7, 8, 9, 11] | _ => [], merge := fun | 14 => some 62 | _ => none, mv := [19, 63, 67] }
@[reducible] def d62_7 : SD := ⟨[.data false (.sl .arg TPort),DI,B,B,B,.ptr 5 0,B,.data false (.sl (.own (some 86016)) (.int .i64)),DI,DI,DI,B,B,B,B,B,B,B,B,B,B,B,B,B,B,B,B,B,B,B,B,B,B,B,B,B,B,B,B,B,B,B,B,B,B,B,B,B,B,B,B,B,B,B,B,B,B,B,B,B,B,B,B,B,B,B,B,B], [Z,Z,Z,Z,Z,some (.pair (.int .i64) (.pair (.int .i64) (.pair (.int .i64) (.pair (.int .i64) (.pair (.int .i64) (.pair (.int .i64) (.pair (.int .i64) (.pair (.int .i64) (.pair (.int .i64) (.pair (.int .i64) (.pair (.int .i64) (.pair (.int .i64) (.pair (.int .i64) (.pair (.int .i64) (.pair (.int .i64) .str))))))))))))))),Z,Z,Z,Z,Z,Z,Z,Z,Z,Z,Z,Z,Z,Z,Z,Z,Z,Z,Z,Z,Z,Z,Z,Z,Z,Z,Z,Z,Z,Z,Z,Z,Z,Z,Z,Z,Z,Z,Z,Z,Z,Z,Z,Z,Z,Z,Z,Z,Z,Z,Z,Z,Z,Z,Z,Z,Z,Z,Z,Z,Z,Z], .none⟩
def t62_7 {R : Type} (X : SD.D d62_7) (K : Ex → AS → Option R) := Pu.spec_SwitchPacket_T7 (fun y0 y1 => K (.exit 0) (SD.enc d62_7 ((X.1.1, (X.1.2.1, (X.1.2.2.1, (X.1.2.2.2.1, (y0, (y1, ())))))), (X.2.1.1, ()), ()))) X.1.1 X.1.2.1 X.1.2.2.1 X.1.2.2.2.1 X.2.1.1
def l62_7 : LEnt := ⟨d62_7, fun X K => iterL (t62_7 X K) fuel (X.1.2.2.2.2.1, X.1.2.2.2.2.2.1)⟩
@[reducible] def d62_12 : SD := ⟨[.data false (.sl .arg TPort),DI,B,B,B,.ptr 5 0,B,.data false (.sl (.own (some 86016)) (.int .i64)),DI,DI,B,DI,B,B,B,B,B,B,B,B,B,B,B,B,B,B,B,B,B,B,B,B,B,B,B,B,B,B,B,B,B,B,B,B,B,B,B,B,B,B,B,B,B,B,B,B,B,B,B,B,B,B,B,B,B,B,B,B], [Z,Z,Z,Z,Z,some (.pair (.int .i64) (.pair (.int .i64) (.pair (.int .i64) (.pair (.int .i64) (.pair (.int .i64) (.pair (.int .i64) (.pair (.int .i64) (.pair (.int .i64) (.pair (.int .i64) (.pair (.int .i64) (.pair (.int .i64) (.pair (.int .i64) (.pair (.int .i64) (.pair (.int .i64) (.pair (.int .i64) .str))))))))))))))),Z,Z,Z,Z,Z,Z,Z,Z,Z,Z,Z,Z,Z,Z,Z,Z,Z,Z,Z,Z,Z,Z,Z,Z,Z,Z,Z,Z,Z,Z,Z,Z,Z,Z,Z,Z,Z,Z,Z,Z,Z,Z,Z,Z,Z,Z,Z,Z,Z,Z,Z,Z,Z,Z,Z,Z,Z,Z,Z,Z,Z,Z], .none⟩
def t62_12 {R : Type} (X : SD.D d62_12) (K : Ex → AS → Option R) := Pu.spec_SwitchPacket_T12 (fun y0 y1 => K (.exit 2) (SD.enc d62_12 ((X.1.1, (X.1.2.1, (y0, (X.1.2.2.2.1, (X.1.2.2.2.2.1, (y1, ())))))), (X.2.1.1, ()), ()))) X.1.1 X.1.2.1 X.1.2.2.2.1 X.1.2.2.2.2.1 X.2.1.1
def l62_12 : LEnt := ⟨d62_12, fun X K => iterL (t62_12 X K) fuel (X.1.2.2.1, X.1.2.2.2.2.2.1)⟩
def L62 : Lam := ((Lam.nil).add 7 l62_7).add 12 l62_12
theorem k62_7 : LOk E g62 n62 L62 (loopBody Tryz.f62 0) :=
  lok l62_7 (by kernel_rfl) fuel fun R X K => (loop_iter (σ := Int × Int) (fun x => SD.enc d62_7 ((X.1.1, (X.1.2.1, (X.1.2.2.1, (X.1.2.2.2.1, (x.1, (x.2, ())))))), (X.2.1.1, ()), ())) (t62_7 X K) (fun m x => by kernel_rfl) fuel (X.1.2.2.2.2.1, X.1.2.2.2.2.2.1)).symm
theorem k62_12 : LOk E g62 n62 L62 (loopBody Tryz.f62 1) :=
  lok l62_12 (by kernel_rfl) fuel fun R X K => (loop_iter (σ := (List Int) × Int) (fun x => SD.enc d62_12 ((X.1.1, (X.1.2.1, (x.1, (X.1.2.2.2.1, (X.1.2.2.2.2.1, (x.2, ())))))), (X.2.1.1, ()), ())) (t62_12 X K) (fun m x => by kernel_rfl) fuel (X.1.2.2.1, X.1.2.2.2.2.2.1)).symm
theorem o62 : FnOk Tryz.prog 62 e62 := fk n62 (((base).add o63).add o117) Tryz.func62 (Λ := L62) (cF k62_7 (cF k62_12 nF))
def e178 : GEnt := entOf [.data false (.int .i64)] [(false, .str)] fun a => Pu.spec_Word16 a.1
theorem o178 : FnOk Tryz.prog 178 e178 := fk {} ((base).add o108) Tryz.func178 (Λ := Lam.nil) nF
def e214 : GEnt := entOf [.data false (.int .i64)] [(false, .str)] fun a => Pu.spec_Word32 a.1
theorem o214 : FnOk Tryz.prog 214 e214 := fk {} ((base).add o108) Tryz.func214 (Λ := Lam.nil) nF
def e215 : GEnt := entOf [.data false (.int .i64), .data false (.int .i64), .data false (.int .i64), .data false (.int .i64)] [(false, .str), (false, .bool)] fun a => Pu.spec_PseudoHeader a.1 a.2.1 a.2.2.1 a.2.2.2.1
theorem o215 : FnOk Tryz.prog 215 e215 := fk { merge := fun | 1 => some 27 | _ => none } ((((base).add o108).add o178).add o214) Tryz.func215 (Λ := Lam.nil) nF
def e257 : GEnt := entOf [.data false (.int .i64), .data false (.int .i64)] [(false, (.int .i64))] fun a => Pu.spec_AddSums a.1 a.2.1
theorem o257 : FnOk Tryz.prog 257 e257 := fk { merge := fun | 1 => some 12 | _ => none } ((base).add o108) Tryz.func257 (Λ := Lam.nil) nF
def e244 : GEnt := entOf [.data false .str] [(false, (.int .i64))] fun a => Pu.spec_SumWords a.1
def g244 : Gam := (Gam.nil).add 257 e257
def n244 : An := { mask := fun | 3 => [0, 3, 4] | _ => [] }
@[reducible] def d244_3 : SD := ⟨[.data false .str,B,B,DI,DI,B,B,B,B,B,B,B,B,B,B,B,B,B,B,B,B,B,B,B,B,B,B,B,B,B,B,B,B], [Z,Z,Z,Z,Z,Z,Z,Z,Z,Z,Z,Z,Z,Z,Z,Z,Z,Z,Z,Z,Z,Z,Z,Z,Z,Z,Z,Z,Z,Z,Z,Z,Z], .none⟩
def t244_3 {R : Type} (X : SD.D d244_3) (K : Ex → AS → Option R) := Pu.spec_SumWords_T3 (fun y0 y1 => K (.exit 0) (SD.enc d244_3 ((X.1.1, (y0, (y1, ()))), (), ()))) X.1.1
def l244_3 : LEnt := ⟨d244_3, fun X K => iterL (t244_3 X K) fuel (X.1.2.1, X.1.2.2.1)⟩
def L244 : Lam := (Lam.nil).add 3 l244_3
theorem k244_3 : LOk E g244 n244 L244 (loopBody Tryz.f244 0) :=
  lok l244_3 (by kernel_rfl) fuel fun R X K => (loop_iter (σ := Int × Int) (fun x => SD.enc d244_3 ((X.1.1, (x.1, (x.2, ()))), (), ())) (t244_3 X K) (fun m x => by kernel_rfl) fuel (X.1.2.1, X.1.2.2.1)).symm
theorem o244 : FnOk Tryz.prog 244 e244 := fk n244 ((base).add o257) Tryz.func244 (Λ := L244) (cF k244_3 nF)
def e216 : GEnt := entOf [.data false .str] [(false, (.int .i64))] fun a => Pu.spec_Checksum a.1
theorem o216 : FnOk Tryz.prog 216 e216 := fk {} ((base).add o244) Tryz.func216 (Λ := Lam.nil) nF
def e245 : GEnt := entOf [.data false .str, .data false (.int .i64), .data false (.int .i64)] [(false, .bool)] fun a => Pu.spec_l02Within a.1 a.2.1 a.2.2.1
theorem o245 : FnOk Tryz.prog 245 e245 := fk { merge := fun | 1 => some 6 | _ => none } (base) Tryz.func245 (Λ := Lam.nil) nF
def e217 : GEnt := entOf [.data false .str, .data false (.int .i64), .data false .str] [(false, .str)] fun a => Pu.spec_PutBytes a.1 a.2.1 a.2.2.1
theorem o217 : FnOk Tryz.prog 217 e217 := fk {} ((base).add o245) Tryz.func217 (Λ := Lam.nil) nF
def e166 : GEnt := entOf [.data false (.int .i64), .data false (.int .i64), .data true TSegment] [(false, .str), (false, .bool)] fun a => Pu.spec_BuildSegment a.1 a.2.1 a.2.2.1
theorem o166 : FnOk Tryz.prog 166 e166 := fk { merge := fun | 14 => some 82 | _ => none } (((((((base).add o116).add o178).add o214).add o215).add o216).add o217) Tryz.func166 (Λ := Lam.nil) nF
def e246 : GEnt := entOf [.data true TIp] [(false, .bool)] fun a => Pu.spec_IpOk a.1
theorem o246 : FnOk Tryz.prog 246 e246 := fk { merge := fun | 1 => some 2 | _ => none } ((base).add o108) Tryz.func246 (Λ := Lam.nil) nF
def e218 : GEnt := entOf [.data true TIp] [(false, .str), (false, .bool)] fun a => Pu.spec_IpHeader a.1
theorem o218 : FnOk Tryz.prog 218 e218 := fk {} ((((((base).add o178).add o214).add o216).add o217).add o246) Tryz.func218 (Λ := Lam.nil) nF
def e167 : GEnt := entOf [.data true TIp] [(false, .str), (false, .bool)] fun a => Pu.spec_BuildIp a.1
theorem o167 : FnOk Tryz.prog 167 e167 := fk {} ((base).add o218) Tryz.func167 (Λ := Lam.nil) nF
def e219 : GEnt := entOf [.data true TEth] [(false, .bool)] fun a => Pu.spec_EthOk a.1
theorem o219 : FnOk Tryz.prog 219 e219 := fk { merge := fun | 1 => some 2 | _ => none } ((base).add o108) Tryz.func219 (Λ := Lam.nil) nF
def e220 : GEnt := entOf [.data false (.int .i64)] [(false, .str)] fun a => Pu.spec_l04Address a.1
theorem o220 : FnOk Tryz.prog 220 e220 := fk {} (((base).add o178).add o214) Tryz.func220 (Λ := Lam.nil) nF
def e168 : GEnt := entOf [.data true TEth] [(false, .str), (false, .bool)] fun a => Pu.spec_BuildEth a.1
theorem o168 : FnOk Tryz.prog 168 e168 := fk {} ((((base).add o178).add o219).add o220) Tryz.func168 (Λ := Lam.nil) nF
def e221 : GEnt := entOf [.data false (.int .i64), .data false (.int .u8)] [(false, .str)] fun a => Pu.spec_l01Long a.1 a.2.1
def g221 : Gam := Gam.nil
def n221 : An := { mask := fun | 3 => [0, 1, 5, 6] | _ => [] }
@[reducible] def d221_3 : SD := ⟨[DI,.data false (.int .u8),B,B,B,.data false (.sl (.own (some 61440)) (.int .u8)),DI,B,B,B,B,B,B,B,B,B,B,B,B,B], [Z,Z,Z,Z,Z,Z,Z,Z,Z,Z,Z,Z,Z,Z,Z,Z,Z,Z,Z,Z], .none⟩
def t221_3 {R : Type} (X : SD.D d221_3) (K : Ex → AS → Option R) := Pu.spec_l01Long_T3 (fun y0 y1 => K (.exit 0) (SD.enc d221_3 ((X.1.1, (X.1.2.1, (y0, (y1, ())))), (), ()))) X.1.1 X.1.2.1
def l221_3 : LEnt := ⟨d221_3, fun X K => iterL (t221_3 X K) fuel (X.1.2.2.1, X.1.2.2.2.1)⟩
def L221 : Lam := (Lam.nil).add 3 l221_3
theorem k221_3 : LOk E g221 n221 L221 (loopBody Tryz.f221 0) :=
  lok l221_3 (by kernel_rfl) fuel fun R X K => (loop_iter (σ := (List Int) × Int) (fun x => SD.enc d221_3 ((X.1.1, (X.1.2.1, (x.1, (x.2, ())))), (), ())) (t221_3 X K) (fun m x => by kernel_rfl) fuel (X.1.2.2.1, X.1.2.2.2.1)).symm
theorem o221 : FnOk Tryz.prog 221 e221 := fk n221 (base) Tryz.func221 (Λ := L221) (cF k221_3 nF)
def e169 : GEnt := entOf [.data false .str] [(false, .str)] fun a => Pu.spec_PadBody a.1
theorem o169 : FnOk Tryz.prog 169 e169 := fk {} ((base).add o221) Tryz.func169 (Λ := Lam.nil) nF
def e118 : GEnt := entOf [.data true TPacket] [(false, .str), (false, .bool)] fun a => Pu.spec_BuildImage a.1
theorem o118 : FnOk Tryz.prog 118 e118 := fk {} ((((((base).add o61).add o166).add o167).add o168).add o169) Tryz.func118 (Λ := Lam.nil) nF
def e170 : GEnt := entOf [.data false .str] [(false, (.int .i64))] fun a => Pu.spec_Crc32 a.1
def g170 : Gam := Gam.nil
def n170 : An := { mask := fun | 3 => [0, 3, 4] | 7 => [0, 3, 4, 5] | _ => [] }
@[reducible] def d170_7 : SD := ⟨[.data false .str,B,B,DI,DI,DI,B,B,B,B,B,B,B,B,B,B,B,B,B,B,B,B,B,B,B,B,B,B,B,B,B,B], [Z,Z,Z,Z,Z,Z,Z,Z,Z,Z,Z,Z,Z,Z,Z,Z,Z,Z,Z,Z,Z,Z,Z,Z,Z,Z,Z,Z,Z,Z,Z,Z], .none⟩
def t170_7 {R : Type} (X : SD.D d170_7) (K : Ex → AS → Option R) := Pu.spec_Crc32_T7 (fun y0 y1 => K (.exit 2) (SD.enc d170_7 ((X.1.1, (y0, (X.1.2.2.1, (y1, ())))), (), ()))) X.1.1 X.1.2.2.1
def l170_7 : LEnt := ⟨d170_7, fun X K => iterL (t170_7 X K) fuel (X.1.2.1, X.1.2.2.2.1)⟩
@[reducible] def d170_3 : SD := ⟨[.data false .str,B,B,DI,DI,B,B,B,B,B,B,B,B,B,B,B,B,B,B,B,B,B,B,B,B,B,B,B,B,B,B,B], [Z,Z,Z,Z,Z,Z,Z,Z,Z,Z,Z,Z,Z,Z,Z,Z,Z,Z,Z,Z,Z,Z,Z,Z,Z,Z,Z,Z,Z,Z,Z,Z], .none⟩
def t170_3 {R : Type} (X : SD.D d170_3) (K : Ex → AS → Option R) := Pu.spec_Crc32_T3 (fun y0 y1 => K (.exit 0) (SD.enc d170_3 ((X.1.1, (y0, (y1, ()))), (), ()))) X.1.1
def l170_3 : LEnt := ⟨d170_3, fun X K => iterL (t170_3 X K) fuel (X.1.2.1, X.1.2.2.1)⟩
def L170 : Lam := ((Lam.nil).add 7 l170_7).add 3 l170_3
theorem k170_7 : LOk E g170 n170 L170 (loopBody Tryz.f170 1) :=
  lok l170_7 (by kernel_rfl) fuel fun R X K => (loop_iter (σ := Int × Int) (fun x => SD.enc d170_7 ((X.1.1, (x.1, (X.1.2.2.1, (x.2, ())))), (), ())) (t170_7 X K) (fun m x => by kernel_rfl) fuel (X.1.2.1, X.1.2.2.2.1)).symm
theorem k170_3 : LOk E g170 n170 L170 (loopBody Tryz.f170 0) :=
  lok l170_3 (by kernel_rfl) fuel fun R X K => (loop_iter (σ := Int × Int) (fun x => SD.enc d170_3 ((X.1.1, (x.1, (x.2, ()))), (), ())) (t170_3 X K) (fun m x => by kernel_rfl) fuel (X.1.2.1, X.1.2.2.1)).symm
theorem o170 : FnOk Tryz.prog 170 e170 := fk n170 (base) Tryz.func170 (Λ := L170) (cF k170_3 (cF k170_7 nF))
def e119 : GEnt := entOf [.data false .str] [(false, .str)] fun a => Pu.spec_WithFcs a.1
theorem o119 : FnOk Tryz.prog 119 e119 := fk {} ((base).add o170) Tryz.func119 (Λ := Lam.nil) nF
def e64 : GEnt := entOf [.data true TPacket] [(false, .str), (false, .bool)] fun a => Pu.spec_BuildFrame a.1
theorem o64 : FnOk Tryz.prog 64 e64 := fk {} ((((base).add o21).add o118).add o119) Tryz.func64 (Λ := Lam.nil) nF
def e65 : GEnt := entOf [.data false (.sl TPort), .data false (.int .i64), .data false (.int .i64), .data true TPacket] [(true, (.pair (.int .i64) (.pair (.int .i64) (.pair (.int .i64) (.pair (.int .i64) (.pair (.int .i64) (.pair (.int .i64) (.pair (.int .i64) (.pair (.int .i64) (.pair (.int .i64) (.pair (.int .i64) (.pair (.int .i64) (.pair (.int .i64) (.pair (.int .i64) (.pair (.int .i64) (.pair (.int .i64) .str))))))))))))))))] fun a => Pu.spec_LeavePacket a.1 a.2.1 a.2.2.1 a.2.2.2.1
theorem o65 : FnOk Tryz.prog 65 e65 := fk { merge := fun | 1 => some 34 | _ => none } (((((base).add o61).add o108).add o111).add o117) Tryz.func65 (Λ := Lam.nil) nF
def e171 : GEnt := entOf [.data false .str] [(false, .str), (false, .bool)] fun a => Pu.spec_CheckFcs a.1
theorem o171 : FnOk Tryz.prog 171 e171 := fk { merge := fun | 1 => some 16 | _ => none } ((base).add o119) Tryz.func171 (Λ := Lam.nil) nF
def e247 : GEnt := entOf [.data false .str, .data false (.int .i64)] [(false, (.int .i64))] fun a => Pu.spec_Get16 a.1 a.2.1
theorem o247 : FnOk Tryz.prog 247 e247 := fk {} ((base).add o245) Tryz.func247 (Λ := Lam.nil) nF
def e248 : GEnt := entOf [.data false .str, .data false (.int .i64)] [(false, (.int .i64))] fun a => Pu.spec_Get32 a.1 a.2.1
theorem o248 : FnOk Tryz.prog 248 e248 := fk {} (((base).add o245).add o247) Tryz.func248 (Λ := Lam.nil) nF
def e222 : GEnt := entOf [.data false .str] [(true, (.pair (.int .i64) (.pair (.int .i64) (.pair (.int .i64) (.pair (.int .i64) .str))))), (false, .bool)] fun a => Pu.spec_ParseEth a.1
theorem o222 : FnOk Tryz.prog 222 e222 := fk { sb := fun | 4 => some 4 | _ => none } ((((base).add o219).add o247).add o248) Tryz.func222 (Λ := Lam.nil) nF
def e223 : GEnt := entOf [.data false .str] [(true, (.pair (.int .i64) (.pair (.int .i64) (.pair (.int .i64) (.pair (.int .i64) (.pair (.int .i64) (.pair (.int .i64) .str))))))), (false, .bool)] fun a => Pu.spec_ParseIp a.1
theorem o223 : FnOk Tryz.prog 223 e223 := fk { merge := fun | 2 => some 22 | 6 => some 56 | _ => none, sb := fun | 5 => some 5 | _ => none } ((((base).add o167).add o247).add o248) Tryz.func223 (Λ := Lam.nil) nF
def e224 : GEnt := entOf [.data false (.int .i64), .data false (.int .i64), .data false (.int .i64), .data false .str] [(true, (.pair (.int .i64) (.pair (.int .i64) (.pair (.int .i64) (.pair (.int .i64) (.pair (.int .i64) (.pair (.int .i64) (.pair (.int .i64) .str)))))))), (false, .bool)] fun a => Pu.spec_ParseSegment a.1 a.2.1 a.2.2.1 a.2.2.2.1
theorem o224 : FnOk Tryz.prog 224 e224 := fk { merge := fun | 3 => some 20 | 9 => some 44 | 12 => some 68 | _ => none } ((((base).add o166).add o247).add o248) Tryz.func224 (Λ := Lam.nil) nF
def e172 : GEnt := entOf [.data false .str] [(true, (.pair (.int .i64) (.pair (.int .i64) (.pair (.int .i64) (.pair (.int .i64) (.pair (.int .i64) (.pair (.int .i64) (.pair (.int .i64) (.pair (.int .i64) (.pair (.int .i64) (.pair (.int .i64) (.pair (.int .i64) (.pair (.int .i64) (.pair (.int .i64) (.pair (.int .i64) (.pair (.int .i64) .str)))))))))))))))), (false, (.int .i64))] fun a => Pu.spec_ReadImage a.1
theorem o172 : FnOk Tryz.prog 172 e172 := fk { merge := fun | 2 => some 20 | _ => none } (((((base).add o61).add o222).add o223).add o224) Tryz.func172 (Λ := Lam.nil) nF
def e120 : GEnt := entOf [.data false .str] [(true, (.pair (.int .i64) (.pair (.int .i64) (.pair (.int .i64) (.pair (.int .i64) (.pair (.int .i64) (.pair (.int .i64) (.pair (.int .i64) (.pair (.int .i64) (.pair (.int .i64) (.pair (.int .i64) (.pair (.int .i64) (.pair (.int .i64) (.pair (.int .i64) (.pair (.int .i64) (.pair (.int .i64) .str)))))))))))))))), (false, (.int .i64))] fun a => Pu.spec_ReadFrame a.1
theorem o120 : FnOk Tryz.prog 120 e120 := fk {} ((((base).add o21).add o171).add o172) Tryz.func120 (Λ := Lam.nil) nF
def e121 : GEnt := entOf [.data true TFilter, .data true TPacket] [(false, .bool)] fun a => Pu.spec_Accepts a.1 a.2.1
theorem o121 : FnOk Tryz.prog 121 e121 := fk { merge := fun | 1 => some 4 | _ => none } (((base).add o113).add o117) Tryz.func121 (Λ := Lam.nil) nF
def e249 : GEnt := entOf [.data true TRule, .data true TPacket] [(false, .bool)] fun a => Pu.spec_l14Matches a.1 a.2.1
theorem o249 : FnOk Tryz.prog 249 e249 := fk { merge := fun | 1 => some 4 | _ => none } ((base).add o108) Tryz.func249 (Λ := Lam.nil) nF
def e225 : GEnt := entOf [.data true TRule, .data true TPacket] [(false, .bool)] fun a => Pu.spec_RuleMatches a.1 a.2.1
theorem o225 : FnOk Tryz.prog 225 e225 := fk { merge := fun | 1 => some 4 | _ => none } ((((base).add o61).add o211).add o249) Tryz.func225 (Λ := Lam.nil) nF
def e173 : GEnt := entOf [.data false (.sl TRule), .data true TPacket] [(false, (.int .i64))] fun a => Pu.spec_FindRule a.1 a.2.1
def g173 : Gam := ((Gam.nil).add 163 e163).add 225 e225
def n173 : An := { mask := fun | 3 => [0, 3, 5, 6] | _ => [], merge := fun | 3 => some 14 | 5 => some 39 | _ => none }
@[reducible] def d173_3 : SD := ⟨[.data false (.sl .arg TRule),B,B,.ptr 3 0,B,DI,DI,B,B,B,B,B,B,B,B,B,B,B,B,B,B,B,B,B,B,B,B,B,B,B,B,B,B,B,B,B,B,B,B,B,B,B], [Z,Z,Z,some (.pair (.int .i64) (.pair (.int .i64) (.pair (.int .i64) (.pair (.int .i64) (.pair (.int .i64) (.pair (.int .i64) (.pair (.int .i64) (.pair (.int .i64) (.pair (.int .i64) (.pair (.int .i64) (.pair (.int .i64) (.pair (.int .i64) (.pair (.int .i64) (.pair (.int .i64) (.pair (.int .i64) .str))))))))))))))),Z,Z,Z,Z,Z,Z,Z,Z,Z,Z,Z,Z,Z,Z,Z,Z,Z,Z,Z,Z,Z,Z,Z,Z,Z,Z,Z,Z,Z,Z,Z,Z,Z,Z,Z,Z,Z,Z], .none⟩
def t173_3 {R : Type} (X : SD.D d173_3) (K : Ex → AS → Option R) := Pu.spec_FindRule_T3 (fun y0 y1 => K (.exit 0) (SD.enc d173_3 ((X.1.1, (y0, (y1, ()))), (X.2.1.1, ()), ()))) X.1.1 X.2.1.1
def l173_3 : LEnt := ⟨d173_3, fun X K => iterL (t173_3 X K) fuel (X.1.2.1, X.1.2.2.1)⟩
def L173 : Lam := (Lam.nil).add 3 l173_3
theorem k173_3 : LOk E g173 n173 L173 (loopBody Tryz.f173 0) :=
  lok l173_3 (by kernel_rfl) fuel fun R X K => (loop_iter (σ := Int × Int) (fun x => SD.enc d173_3 ((X.1.1, (x.1, (x.2, ()))), (X.2.1.1, ()), ())) (t173_3 X K) (fun m x => by kernel_rfl) fuel (X.1.2.1, X.1.2.2.1)).symm
theorem o173 : FnOk Tryz.prog 173 e173 := fk n173 (((base).add o163).add o225) Tryz.func173 (Λ := L173) (cF k173_3 nF)
def e174 : GEnt := entOf [.data true (.sl TSlot), .data true TFlow] [(false, (.int .i64))] fun a => Pu.spec_FindFlow a.1 a.2.1
theorem o174 : FnOk Tryz.prog 174 e174 := fk {} (((base).add o164).add o212) Tryz.func174 (Λ := Lam.nil) nF
def e175 : GEnt := entOf [.data true TPacket] [(true, (.pair (.int .i64) (.pair (.int .i64) (.pair (.int .i64) (.pair (.int .i64) (.int .i64))))))] fun a => Pu.spec_FlowOf a.1
theorem o175 : FnOk Tryz.prog 175 e175 := fk {} (base) Tryz.func175 (Λ := Lam.nil) nF
def e262 : GEnt := entOf [.data false .str, .data false (.int .i64)] [(false, (.int .i64))] fun a => Pu.spec_l11Bit a.1 a.2.1
theorem o262 : FnOk Tryz.prog 262 e262 := fk {} (base) Tryz.func262 (Λ := Lam.nil) nF
def e263 : GEnt := entOf [.data false .str, .data false (.int .i64)] [(false, (.int .i64))] fun a => Pu.spec_KeyWindow a.1 a.2.1
def g263 : Gam := ((Gam.nil).add 108 e108).add 262 e262
def n263 : An := { mask := fun | 5 => [0, 1, 5, 6] | _ => [], merge := fun | 1 => some 14 | _ => none }
@[reducible] def d263_5 : SD := ⟨[.data false .str,DI,B,B,B,DI,DI,B,B,B,B,B,B,B,B,B,B,B,B,B,B,B,B,B,B,B,B,B], [Z,Z,Z,Z,Z,Z,Z,Z,Z,Z,Z,Z,Z,Z,Z,Z,Z,Z,Z,Z,Z,Z,Z,Z,Z,Z,Z,Z], .none⟩
def t263_5 {R : Type} (X : SD.D d263_5) (K : Ex → AS → Option R) := Pu.spec_KeyWindow_T5 (fun y0 y1 => K (.exit 0) (SD.enc d263_5 ((X.1.1, (X.1.2.1, (y0, (y1, ())))), (), ()))) X.1.1 X.1.2.1
def l263_5 : LEnt := ⟨d263_5, fun X K => iterL (t263_5 X K) fuel (X.1.2.2.1, X.1.2.2.2.1)⟩
def L263 : Lam := (Lam.nil).add 5 l263_5
theorem k263_5 : LOk E g263 n263 L263 (loopBody Tryz.f263 0) :=
  lok l263_5 (by kernel_rfl) fuel fun R X K => (loop_iter (σ := Int × Int) (fun x => SD.enc d263_5 ((X.1.1, (X.1.2.1, (x.1, (x.2, ())))), (), ())) (t263_5 X K) (fun m x => by kernel_rfl) fuel (X.1.2.2.1, X.1.2.2.2.1)).symm
theorem o263 : FnOk Tryz.prog 263 e263 := fk n263 (((base).add o108).add o262) Tryz.func263 (Λ := L263) (cF k263_5 nF)
def e258 : GEnt := entOf [.data false .str, .data false .str] [(false, (.int .i64))] fun a => Pu.spec_HashBytes a.1 a.2.1
def g258 : Gam := ((Gam.nil).add 262 e262).add 263 e263
def n258 : An := { mask := fun | 5 => [0, 1, 5, 6] | _ => [], merge := fun | 1 => some 14 | _ => none }
@[reducible] def d258_5 : SD := ⟨[.data false .str,.data false .str,B,B,B,DI,DI,B,B,B,B,B,B,B,B,B,B,B,B,B,B,B,B,B,B,B,B,B,B,B,B,B], [Z,Z,Z,Z,Z,Z,Z,Z,Z,Z,Z,Z,Z,Z,Z,Z,Z,Z,Z,Z,Z,Z,Z,Z,Z,Z,Z,Z,Z,Z,Z,Z], .none⟩
def t258_5 {R : Type} (X : SD.D d258_5) (K : Ex → AS → Option R) := Pu.spec_HashBytes_T5 (fun y0 y1 => K (.exit 0) (SD.enc d258_5 ((X.1.1, (X.1.2.1, (y0, (y1, ())))), (), ()))) X.1.1 X.1.2.1
def l258_5 : LEnt := ⟨d258_5, fun X K => iterL (t258_5 X K) fuel (X.1.2.2.1, X.1.2.2.2.1)⟩
def L258 : Lam := (Lam.nil).add 5 l258_5
theorem k258_5 : LOk E g258 n258 L258 (loopBody Tryz.f258 0) :=
  lok l258_5 (by kernel_rfl) fuel fun R X K => (loop_iter (σ := Int × Int) (fun x => SD.enc d258_5 ((X.1.1, (X.1.2.1, (x.1, (x.2, ())))), (), ())) (t258_5 X K) (fun m x => by kernel_rfl) fuel (X.1.2.2.1, X.1.2.2.2.1)).symm
theorem o258 : FnOk Tryz.prog 258 e258 := fk n258 (((base).add o262).add o263) Tryz.func258 (Λ := L258) (cF k258_5 nF)
def e259 : GEnt := entOf [.data true TFlow] [(false, .str)] fun a => Pu.spec_HashInput a.1
theorem o259 : FnOk Tryz.prog 259 e259 := fk {} (((base).add o178).add o214) Tryz.func259 (Λ := Lam.nil) nF
def e250 : GEnt := entOf [.data false .str, .data true TFlow] [(false, (.int .i64))] fun a => Pu.spec_HashFlow a.1 a.2.1
theorem o250 : FnOk Tryz.prog 250 e250 := fk {} (((base).add o258).add o259) Tryz.func250 (Λ := Lam.nil) nF
def e226 : GEnt := entOf [.data true TSpread, .data true TFlow] [(false, (.int .i64))] fun a => Pu.spec_EntryOf a.1 a.2.1
theorem o226 : FnOk Tryz.prog 226 e226 := fk { merge := fun | 2 => some 17 | _ => none } ((base).add o250) Tryz.func226 (Λ := Lam.nil) nF
def e176 : GEnt := entOf [.data true TSpread, .data false (.int .i64), .data true TFlow] [(false, (.int .i64))] fun a => Pu.spec_SpreadQueue a.1 a.2.1 a.2.2.1
theorem o176 : FnOk Tryz.prog 176 e176 := fk { merge := fun | 2 => some 18 | _ => none } (((base).add o165).add o226) Tryz.func176 (Λ := Lam.nil) nF
def e122 : GEnt := entOf [.data true TSteering, .data false (.int .i64), .data true TPacket] [(false, (.int .i64))] fun a => Pu.spec_SteerPacket a.1 a.2.1 a.2.2.1
theorem o122 : FnOk Tryz.prog 122 e122 := fk { merge := fun | 1 => some 17 | _ => none } (((((((base).add o61).add o114).add o173).add o174).add o175).add o176) Tryz.func122 (Λ := Lam.nil) nF
def e177 : GEnt := entOf [.data false (.sl TStream), .data true TFlow] [(false, (.int .i64))] fun a => Pu.spec_StreamIndex a.1 a.2.1
def g177 : Gam := Gam.nil
def n177 : An := { mask := fun | 2 => [0, 3, 4, 5] | _ => [] }
@[reducible] def d177_2 : SD := ⟨[.data false (.sl .arg TStream),B,B,.ptr 3 0,DI,DI,B,B,B,B,B,B,B,B,B,B,B,B,B,B], [Z,Z,Z,some (.pair (.int .i64) (.pair (.int .i64) (.pair (.int .i64) (.pair (.int .i64) (.int .i64))))),Z,Z,Z,Z,Z,Z,Z,Z,Z,Z,Z,Z,Z,Z,Z,Z], .none⟩
def t177_2 {R : Type} (X : SD.D d177_2) (K : Ex → AS → Option R) := Pu.spec_StreamIndex_T2 (fun y0 => K (.exit 0) (SD.enc d177_2 ((X.1.1, (X.1.2.1, (y0, ()))), (X.2.1.1, ()), ()))) (fun y0 y1 => K .ret (SD.enc d177_2 ((X.1.1, (y0, (y1, ()))), (X.2.1.1, ()), ()))) X.1.1 X.1.2.1 X.2.1.1
def l177_2 : LEnt := ⟨d177_2, fun X K => iterL (t177_2 X K) fuel X.1.2.2.1⟩
def L177 : Lam := (Lam.nil).add 2 l177_2
theorem k177_2 : LOk E g177 n177 L177 (loopBody Tryz.f177 0) :=
  lok l177_2 (by kernel_rfl) fuel fun R X K => (loop_iter (σ := Int) (fun x => SD.enc d177_2 ((X.1.1, (X.1.2.1, (x, ()))), (X.2.1.1, ()), ())) (t177_2 X K) (fun m x => by kernel_rfl) fuel X.1.2.2.1).symm
theorem o177 : FnOk Tryz.prog 177 e177 := fk n177 (base) Tryz.func177 (Λ := L177) (cF k177_2 nF)
def e123 : GEnt := entOf [.data false (.sl TStream), .data true TPacket] [(false, (.sl (.own none) TStream))] fun a => Pu.spec_Deliver a.1 a.2.1
theorem o123 : FnOk Tryz.prog 123 e123 := fk { merge := fun | 17 => some 84 | _ => none, mv := [16, 31, 53, 60, 69, 85, 139] } (((((base).add o61).add o175).add o177).add o178) Tryz.func123 (Λ := Lam.nil) nF
def e66 : GEnt := entOf [.data true TSoft, .data false .str] [(true, (.pair (.pair (.int .i64) (.pair .bool (.sl (.own none) (.int .i64)))) (.pair (.pair (.sl (.own none) TRule) (.pair (.sl (.own none) TSlot) (.pair .str (.sl (.own none) (.int .i64))))) (.pair (.int .i64) (.pair (.sl (.own none) TStream) (.sl (.own none) .str))))))] fun a => Pu.spec_SoftReceive a.1 a.2.1
theorem o66 : FnOk Tryz.prog 66 e66 := fk { merge := fun | 3 => some 35 | _ => none, mv := [41] } (((((((base).add o55).add o59).add o120).add o121).add o122).add o123) Tryz.func66 (Λ := Lam.nil) nF
def e22 : GEnt := entBox TIdeal [.data false (.int .i64), .data true TPacket] [] fun x a => Pu.spec_l43Switch x a.1 a.2.1
def g22 : Gam := ((((((Gam.nil).add 57 e57).add 62 e62).add 63 e63).add 64 e64).add 65 e65).add 66 e66
def n22 : An := { mask := fun | 5 => [0, 5, 6, 8, 9, 10] | _ => [], mv := [13, 56] }
@[reducible] def d22_5 : SD := ⟨[.ptr 0 0,B,B,B,B,.ptr 5 0,.data false (.sl (.own (some 73728)) TPort),B,.data false (.sl (.own (some 98304)) (.int .i64)),DI,DI,B,B,B,B,B,B,B,B,B,B,B,B,B,B,B,B,B,B,B,B,B,B,B,B,B,B,B,B,B,B,B,B,B,B,B,B,B,B,B,B,B,B,B,B,B,B,B,B,B,B,B,B,B,B,B,B,B,B,B,B,B,B,B,B,B,B,B,B,B,B,B,B,B,B], [some (.pair (.sl (.own (some 1)) TSoft) (.pair (.sl (.own (some 4)) (.sl .str)) (.pair (.sl (.own (some 7)) TVirtualFunction) (.pair (.sl (.own (some 10)) TMailbox) (.sl (.own (some 13)) .str))))),Z,Z,Z,Z,some (.pair (.int .i64) (.pair (.int .i64) (.pair (.int .i64) (.pair (.int .i64) (.pair (.int .i64) (.pair (.int .i64) (.pair (.int .i64) (.pair (.int .i64) (.pair (.int .i64) (.pair (.int .i64) (.pair (.int .i64) (.pair (.int .i64) (.pair (.int .i64) (.pair (.int .i64) (.pair (.int .i64) .str))))))))))))))),Z,Z,Z,Z,Z,Z,Z,Z,Z,Z,Z,Z,Z,Z,Z,Z,Z,Z,Z,Z,Z,Z,Z,Z,Z,Z,Z,Z,Z,Z,Z,Z,Z,Z,Z,Z,Z,Z,Z,Z,Z,Z,Z,Z,Z,Z,Z,Z,Z,Z,Z,Z,Z,Z,Z,Z,Z,Z,Z,Z,Z,Z,Z,Z,Z,Z,Z,Z,Z,Z,Z,Z,Z,Z,Z,Z,Z,Z,Z], .ptr⟩
def t22_5 {R : Type} (X : SD.D d22_5) (K : Ex → AS → Option R) := Pu.spec_l43Switch_T5 (fun y0 y1 => K (.exit 0) (SD.enc d22_5 ((X.1.1, (X.1.2.1, (X.1.2.2.1, (y0, ())))), (y1, (X.2.1.2.1, ())), ()))) X.1.1 X.1.2.1 X.1.2.2.1 X.2.1.2.1
def l22_5 : LEnt := ⟨d22_5, fun X K => iterL (t22_5 X K) fuel (X.1.2.2.2.1, X.2.1.1)⟩
def L22 : Lam := (Lam.nil).add 5 l22_5
theorem k22_5 : LOk E g22 n22 L22 (loopBody Tryz.f22 0) :=
  lok l22_5 (by kernel_rfl) fuel fun R X K => (loop_iter (σ := Int × Pu.Ideal) (fun x => SD.enc d22_5 ((X.1.1, (X.1.2.1, (X.1.2.2.1, (x.1, ())))), (x.2, (X.2.1.2.1, ())), ())) (t22_5 X K) (fun m x => by kernel_rfl) fuel (X.1.2.2.2.1, X.2.1.1)).symm
theorem o22 : FnOk Tryz.prog 22 e22 := FnOk.ofBox (fnBox (Γ := g22) (an := n22) (Λ := L22) (((((((base).add o57).add o62).add o63).add o64).add o65).add o66) Tryz.func22 (by kernel_rfl) (hF (by kernel_rfl) (cF k22_5 nF))) (fun x a => by kernel_rfl)
def e6 : GEnt := entOf [.data true TIdeal, .data false (.int .i64), .data true TPacket] [(true, (.pair (.sl (.own none) TSoft) (.pair (.sl (.own none) (.sl .str)) (.pair (.sl (.own none) TVirtualFunction) (.pair (.sl (.own none) TMailbox) (.sl (.own none) .str))))))] fun a => Pu.spec_IdealSwitch a.1 a.2.1 a.2.2.1
theorem o6 : FnOk Tryz.prog 6 e6 := fk { merge := fun | 2 => some 15 | _ => none, mv := [19] } (((((base).add o19).add o20).add o21).add o22) Tryz.func6 (Λ := Lam.nil) nF
def e27 : GEnt := entOf [.data false (.sl .str)] [(false, (.sl (.own none) .str))] fun a => Pu.laws_toStringS a.1
def g27 : Gam := Gam.nil
def n27 : An := { mask := fun | 3 => [0, 3, 4] | _ => [], mv := [21] }
@[reducible] def d27_3 : SD := ⟨[.data false (.sl .arg .str),B,B,.data false (.sl (.own (some 36864)) .str),DI,B,B,B,B,B,B,B,B,B,B,B,B,B,B,B,B,B], [Z,Z,Z,Z,Z,Z,Z,Z,Z,Z,Z,Z,Z,Z,Z,Z,Z,Z,Z,Z,Z,Z], .none⟩
def t27_3 {R : Type} (X : SD.D d27_3) (K : Ex → AS → Option R) := Pu.laws_toStringS_T3 (fun y0 y1 => K (.exit 0) (SD.enc d27_3 ((X.1.1, (y0, (y1, ()))), (), ()))) X.1.1
def l27_3 : LEnt := ⟨d27_3, fun X K => iterL (t27_3 X K) fuel (X.1.2.1, X.1.2.2.1)⟩
def L27 : Lam := (Lam.nil).add 3 l27_3
theorem k27_3 : LOk E g27 n27 L27 (loopBody Tryz.f27 0) :=
  lok l27_3 (by kernel_rfl) fuel fun R X K => (loop_iter (σ := (List Pu.Bytes) × Int) (fun x => SD.enc d27_3 ((X.1.1, (x.1, (x.2, ()))), (), ())) (t27_3 X K) (fun m x => by kernel_rfl) fuel (X.1.2.1, X.1.2.2.1)).symm
theorem o27 : FnOk Tryz.prog 27 e27 := fk n27 (base) Tryz.func27 (Λ := L27) (cF k27_3 nF)
def e179 : GEnt := entOf [.data false (.sl (.int .i64))] [(false, (.sl (.own none) (.int .i64)))] fun a => Pu.laws_toIntS a.1
def g179 : Gam := Gam.nil
def n179 : An := { mask := fun | 3 => [0, 3, 4] | _ => [], mv := [21] }
@[reducible] def d179_3 : SD := ⟨[.data false (.sl .arg (.int .i64)),B,B,.data false (.sl (.own (some 36864)) (.int .i64)),DI,B,B,B,B,B,B,B,B,B,B,B,B,B,B,B,B,B], [Z,Z,Z,Z,Z,Z,Z,Z,Z,Z,Z,Z,Z,Z,Z,Z,Z,Z,Z,Z,Z,Z], .none⟩
def t179_3 {R : Type} (X : SD.D d179_3) (K : Ex → AS → Option R) := Pu.laws_toIntS_T3 (fun y0 y1 => K (.exit 0) (SD.enc d179_3 ((X.1.1, (y0, (y1, ()))), (), ()))) X.1.1
def l179_3 : LEnt := ⟨d179_3, fun X K => iterL (t179_3 X K) fuel (X.1.2.1, X.1.2.2.1)⟩
def L179 : Lam := (Lam.nil).add 3 l179_3
theorem k179_3 : LOk E g179 n179 L179 (loopBody Tryz.f179 0) :=
  lok l179_3 (by kernel_rfl) fuel fun R X K => (loop_iter (σ := (List Int) × Int) (fun x => SD.enc d179_3 ((X.1.1, (x.1, (x.2, ()))), (), ())) (t179_3 X K) (fun m x => by kernel_rfl) fuel (X.1.2.1, X.1.2.2.1)).symm
theorem o179 : FnOk Tryz.prog 179 e179 := fk n179 (base) Tryz.func179 (Λ := L179) (cF k179_3 nF)
def e124 : GEnt := entOf [.data true TFilter] [(true, (.pair (.int .i64) (.pair .bool (.sl (.own none) (.int .i64)))))] fun a => Pu.laws_toFilter a.1
theorem o124 : FnOk Tryz.prog 124 e124 := fk { mv := [14] } ((base).add o179) Tryz.func124 (Λ := Lam.nil) nF
def e227 : GEnt := entOf [.data true TRule] [(true, (.pair (.int .i64) (.pair (.int .i64) (.pair (.int .i64) (.pair (.int .i64) (.pair (.int .i64) (.pair (.int .i64) (.pair (.int .i64) (.pair (.int .i64) (.int .i64))))))))))] fun a => Pu.laws_toRule a.1
theorem o227 : FnOk Tryz.prog 227 e227 := fk {} (base) Tryz.func227 (Λ := Lam.nil) nF
def e180 : GEnt := entOf [.data false (.sl TRule)] [(false, (.sl (.own none) TRule))] fun a => Pu.laws_toRuleS a.1
def g180 : Gam := (Gam.nil).add 227 e227
def n180 : An := { mask := fun | 3 => [0, 3, 4] | _ => [], mv := [22] }
@[reducible] def d180_3 : SD := ⟨[.data false (.sl .arg TRule),B,B,.data false (.sl (.own (some 36864)) TRule),DI,B,B,B,B,B,B,B,B,B,B,B,B,B,B,B,B,B,B], [Z,Z,Z,Z,Z,Z,Z,Z,Z,Z,Z,Z,Z,Z,Z,Z,Z,Z,Z,Z,Z,Z,Z], .none⟩
def t180_3 {R : Type} (X : SD.D d180_3) (K : Ex → AS → Option R) := Pu.laws_toRuleS_T3 (fun y0 y1 => K (.exit 0) (SD.enc d180_3 ((X.1.1, (y0, (y1, ()))), (), ()))) X.1.1
def l180_3 : LEnt := ⟨d180_3, fun X K => iterL (t180_3 X K) fuel (X.1.2.1, X.1.2.2.1)⟩
def L180 : Lam := (Lam.nil).add 3 l180_3
theorem k180_3 : LOk E g180 n180 L180 (loopBody Tryz.f180 0) :=
  lok l180_3 (by kernel_rfl) fuel fun R X K => (loop_iter (σ := (List Pu.Rule) × Int) (fun x => SD.enc d180_3 ((X.1.1, (x.1, (x.2, ()))), (), ())) (t180_3 X K) (fun m x => by kernel_rfl) fuel (X.1.2.1, X.1.2.2.1)).symm
theorem o180 : FnOk Tryz.prog 180 e180 := fk n180 ((base).add o227) Tryz.func180 (Λ := L180) (cF k180_3 nF)
def e229 : GEnt := entOf [.data true TFlow] [(true, (.pair (.int .i64) (.pair (.int .i64) (.pair (.int .i64) (.pair (.int .i64) (.int .i64))))))] fun a => Pu.laws_toFlow a.1
theorem o229 : FnOk Tryz.prog 229 e229 := fk {} (base) Tryz.func229 (Λ := Lam.nil) nF
def e251 : GEnt := entOf [.data true TSlot] [(true, (.pair (.int .i64) (.pair (.pair (.int .i64) (.pair (.int .i64) (.pair (.int .i64) (.pair (.int .i64) (.int .i64))))) (.int .i64))))] fun a => Pu.laws_toSlot a.1
theorem o251 : FnOk Tryz.prog 251 e251 := fk {} ((base).add o229) Tryz.func251 (Λ := Lam.nil) nF
def e228 : GEnt := entOf [.data false (.sl TSlot)] [(false, (.sl (.own none) TSlot))] fun a => Pu.laws_toSlotS a.1
def g228 : Gam := (Gam.nil).add 251 e251
def n228 : An := { mask := fun | 3 => [0, 3, 4] | _ => [], mv := [22] }
@[reducible] def d228_3 : SD := ⟨[.data false (.sl .arg TSlot),B,B,.data false (.sl (.own (some 36864)) TSlot),DI,B,B,B,B,B,B,B,B,B,B,B,B,B,B,B,B,B,B], [Z,Z,Z,Z,Z,Z,Z,Z,Z,Z,Z,Z,Z,Z,Z,Z,Z,Z,Z,Z,Z,Z,Z], .none⟩
def t228_3 {R : Type} (X : SD.D d228_3) (K : Ex → AS → Option R) := Pu.laws_toSlotS_T3 (fun y0 y1 => K (.exit 0) (SD.enc d228_3 ((X.1.1, (y0, (y1, ()))), (), ()))) X.1.1
def l228_3 : LEnt := ⟨d228_3, fun X K => iterL (t228_3 X K) fuel (X.1.2.1, X.1.2.2.1)⟩
def L228 : Lam := (Lam.nil).add 3 l228_3
theorem k228_3 : LOk E g228 n228 L228 (loopBody Tryz.f228 0) :=
  lok l228_3 (by kernel_rfl) fuel fun R X K => (loop_iter (σ := (List Pu.Slot) × Int) (fun x => SD.enc d228_3 ((X.1.1, (x.1, (x.2, ()))), (), ())) (t228_3 X K) (fun m x => by kernel_rfl) fuel (X.1.2.1, X.1.2.2.1)).symm
theorem o228 : FnOk Tryz.prog 228 e228 := fk n228 ((base).add o251) Tryz.func228 (Λ := L228) (cF k228_3 nF)
def e181 : GEnt := entOf [.data true (.sl TSlot)] [(true, (.sl (.own none) TSlot))] fun a => Pu.laws_toFlowTable a.1
theorem o181 : FnOk Tryz.prog 181 e181 := fk { mv := [8] } ((base).add o228) Tryz.func181 (Λ := Lam.nil) nF
def e182 : GEnt := entOf [.data true TSpread] [(true, (.pair .str (.sl (.own none) (.int .i64))))] fun a => Pu.laws_toSpread a.1
theorem o182 : FnOk Tryz.prog 182 e182 := fk { mv := [11] } ((base).add o179) Tryz.func182 (Λ := Lam.nil) nF
def e125 : GEnt := entOf [.data true TSteering] [(true, (.pair (.sl (.own none) TRule) (.pair (.sl (.own none) TSlot) (.pair .str (.sl (.own none) (.int .i64))))))] fun a => Pu.laws_toSteering a.1
theorem o125 : FnOk Tryz.prog 125 e125 := fk { mv := [16] } ((((base).add o180).add o181).add o182) Tryz.func125 (Λ := Lam.nil) nF
def e183 : GEnt := entOf [.data true TStream] [(true, (.pair (.pair (.int .i64) (.pair (.int .i64) (.pair (.int .i64) (.pair (.int .i64) (.int .i64))))) (.pair (.int .i64) (.pair .str .bool))))] fun a => Pu.laws_toStream a.1
theorem o183 : FnOk Tryz.prog 183 e183 := fk {} ((base).add o229) Tryz.func183 (Λ := Lam.nil) nF
def e126 : GEnt := entOf [.data false (.sl TStream)] [(false, (.sl (.own none) TStream))] fun a => Pu.laws_toStreamS a.1
def g126 : Gam := (Gam.nil).add 183 e183
def n126 : An := { mask := fun | 3 => [0, 3, 4] | _ => [], mv := [22] }
@[reducible] def d126_3 : SD := ⟨[.data false (.sl .arg TStream),B,B,.data false (.sl (.own (some 36864)) TStream),DI,B,B,B,B,B,B,B,B,B,B,B,B,B,B,B,B,B,B], [Z,Z,Z,Z,Z,Z,Z,Z,Z,Z,Z,Z,Z,Z,Z,Z,Z,Z,Z,Z,Z,Z,Z], .none⟩
def t126_3 {R : Type} (X : SD.D d126_3) (K : Ex → AS → Option R) := Pu.laws_toStreamS_T3 (fun y0 y1 => K (.exit 0) (SD.enc d126_3 ((X.1.1, (y0, (y1, ()))), (), ()))) X.1.1
def l126_3 : LEnt := ⟨d126_3, fun X K => iterL (t126_3 X K) fuel (X.1.2.1, X.1.2.2.1)⟩
def L126 : Lam := (Lam.nil).add 3 l126_3
theorem k126_3 : LOk E g126 n126 L126 (loopBody Tryz.f126 0) :=
  lok l126_3 (by kernel_rfl) fuel fun R X K => (loop_iter (σ := (List Pu.Stream) × Int) (fun x => SD.enc d126_3 ((X.1.1, (x.1, (x.2, ()))), (), ())) (t126_3 X K) (fun m x => by kernel_rfl) fuel (X.1.2.1, X.1.2.2.1)).symm
theorem o126 : FnOk Tryz.prog 126 e126 := fk n126 ((base).add o183) Tryz.func126 (Λ := L126) (cF k126_3 nF)
def e67 : GEnt := entOf [.data true TSoft] [(true, (.pair (.pair (.int .i64) (.pair .bool (.sl (.own none) (.int .i64)))) (.pair (.pair (.sl (.own none) TRule) (.pair (.sl (.own none) TSlot) (.pair .str (.sl (.own none) (.int .i64))))) (.pair (.int .i64) (.pair (.sl (.own none) TStream) (.sl (.own none) .str))))))] fun a => Pu.laws_toSoft a.1
theorem o67 : FnOk Tryz.prog 67 e67 := fk { mv := [23] } (((((base).add o27).add o124).add o125).add o126) Tryz.func67 (Λ := Lam.nil) nF
def e23 : GEnt := entOf [.data false (.sl TSoft)] [(false, (.sl (.own none) TSoft))] fun a => Pu.laws_toSoftS a.1
def g23 : Gam := (Gam.nil).add 67 e67
def n23 : An := { mask := fun | 3 => [0, 3, 4] | _ => [], mv := [22] }
@[reducible] def d23_3 : SD := ⟨[.data false (.sl .arg TSoft),B,B,.data false (.sl (.own (some 36864)) TSoft),DI,B,B,B,B,B,B,B,B,B,B,B,B,B,B,B,B,B,B], [Z,Z,Z,Z,Z,Z,Z,Z,Z,Z,Z,Z,Z,Z,Z,Z,Z,Z,Z,Z,Z,Z,Z], .none⟩
def t23_3 {R : Type} (X : SD.D d23_3) (K : Ex → AS → Option R) := Pu.laws_toSoftS_T3 (fun y0 y1 => K (.exit 0) (SD.enc d23_3 ((X.1.1, (y0, (y1, ()))), (), ()))) X.1.1
def l23_3 : LEnt := ⟨d23_3, fun X K => iterL (t23_3 X K) fuel (X.1.2.1, X.1.2.2.1)⟩
def L23 : Lam := (Lam.nil).add 3 l23_3
theorem k23_3 : LOk E g23 n23 L23 (loopBody Tryz.f23 0) :=
  lok l23_3 (by kernel_rfl) fuel fun R X K => (loop_iter (σ := (List Pu.Soft) × Int) (fun x => SD.enc d23_3 ((X.1.1, (x.1, (x.2, ()))), (), ())) (t23_3 X K) (fun m x => by kernel_rfl) fuel (X.1.2.1, X.1.2.2.1)).symm
theorem o23 : FnOk Tryz.prog 23 e23 := fk n23 ((base).add o67) Tryz.func23 (Λ := L23) (cF k23_3 nF)
def e24 : GEnt := entOf [.data false (.sl (.sl .str))] [(false, (.sl (.own none) (.sl .str)))] fun a => Pu.laws_toStringSS a.1
def g24 : Gam := (Gam.nil).add 27 e27
def n24 : An := { mask := fun | 3 => [0, 3, 4] | _ => [], mv := [22] }
@[reducible] def d24_3 : SD := ⟨[.data false (.sl .arg (.sl .str)),B,B,.data false (.sl (.own (some 36864)) (.sl .str)),DI,B,B,B,B,B,B,B,B,B,B,B,B,B,B,B,B,B,B], [Z,Z,Z,Z,Z,Z,Z,Z,Z,Z,Z,Z,Z,Z,Z,Z,Z,Z,Z,Z,Z,Z,Z], .none⟩
def t24_3 {R : Type} (X : SD.D d24_3) (K : Ex → AS → Option R) := Pu.laws_toStringSS_T3 (fun y0 y1 => K (.exit 0) (SD.enc d24_3 ((X.1.1, (y0, (y1, ()))), (), ()))) X.1.1
def l24_3 : LEnt := ⟨d24_3, fun X K => iterL (t24_3 X K) fuel (X.1.2.1, X.1.2.2.1)⟩
def L24 : Lam := (Lam.nil).add 3 l24_3
theorem k24_3 : LOk E g24 n24 L24 (loopBody Tryz.f24 0) :=
  lok l24_3 (by kernel_rfl) fuel fun R X K => (loop_iter (σ := (List (List Pu.Bytes)) × Int) (fun x => SD.enc d24_3 ((X.1.1, (x.1, (x.2, ()))), (), ())) (t24_3 X K) (fun m x => by kernel_rfl) fuel (X.1.2.1, X.1.2.2.1)).symm
theorem o24 : FnOk Tryz.prog 24 e24 := fk n24 ((base).add o27) Tryz.func24 (Λ := L24) (cF k24_3 nF)
def e127 : GEnt := entOf [.data true TBucket] [(true, (.pair (.int .i64) (.pair (.int .i64) (.int .i64))))] fun a => Pu.laws_toBucket a.1
theorem o127 : FnOk Tryz.prog 127 e127 := fk {} (base) Tryz.func127 (Λ := Lam.nil) nF
def e68 : GEnt := entOf [.data true TVirtualFunction] [(true, (.pair (.int .i64) (.pair (.int .i64) (.pair (.pair (.int .i64) (.pair (.int .i64) (.int .i64))) (.pair .bool (.pair (.int .i64) (.int .i64)))))))] fun a => Pu.laws_toVirtualFunction a.1
theorem o68 : FnOk Tryz.prog 68 e68 := fk {} ((base).add o127) Tryz.func68 (Λ := Lam.nil) nF
def e25 : GEnt := entOf [.data false (.sl TVirtualFunction)] [(false, (.sl (.own none) TVirtualFunction))] fun a => Pu.laws_toVirtualFunctionS a.1
def g25 : Gam := (Gam.nil).add 68 e68
def n25 : An := { mask := fun | 3 => [0, 3, 4] | _ => [], mv := [22] }
@[reducible] def d25_3 : SD := ⟨[.data false (.sl .arg TVirtualFunction),B,B,.data false (.sl (.own (some 36864)) TVirtualFunction),DI,B,B,B,B,B,B,B,B,B,B,B,B,B,B,B,B,B,B], [Z,Z,Z,Z,Z,Z,Z,Z,Z,Z,Z,Z,Z,Z,Z,Z,Z,Z,Z,Z,Z,Z,Z], .none⟩
def t25_3 {R : Type} (X : SD.D d25_3) (K : Ex → AS → Option R) := Pu.laws_toVirtualFunctionS_T3 (fun y0 y1 => K (.exit 0) (SD.enc d25_3 ((X.1.1, (y0, (y1, ()))), (), ()))) X.1.1
def l25_3 : LEnt := ⟨d25_3, fun X K => iterL (t25_3 X K) fuel (X.1.2.1, X.1.2.2.1)⟩
def L25 : Lam := (Lam.nil).add 3 l25_3
theorem k25_3 : LOk E g25 n25 L25 (loopBody Tryz.f25 0) :=
  lok l25_3 (by kernel_rfl) fuel fun R X K => (loop_iter (σ := (List Pu.VirtualFunction) × Int) (fun x => SD.enc d25_3 ((X.1.1, (x.1, (x.2, ()))), (), ())) (t25_3 X K) (fun m x => by kernel_rfl) fuel (X.1.2.1, X.1.2.2.1)).symm
theorem o25 : FnOk Tryz.prog 25 e25 := fk n25 ((base).add o68) Tryz.func25 (Λ := L25) (cF k25_3 nF)
def e69 : GEnt := entOf [.data true TMailbox] [(true, (.pair (.pair (.int .i64) (.pair .bool (.sl (.own none) (.int .i64)))) (.pair (.int .i64) (.pair (.int .i64) (.int .i64)))))] fun a => Pu.laws_toMailbox a.1
theorem o69 : FnOk Tryz.prog 69 e69 := fk { mv := [17] } ((base).add o124) Tryz.func69 (Λ := Lam.nil) nF
def e26 : GEnt := entOf [.data false (.sl TMailbox)] [(false, (.sl (.own none) TMailbox))] fun a => Pu.laws_toMailboxS a.1
def g26 : Gam := (Gam.nil).add 69 e69
def n26 : An := { mask := fun | 3 => [0, 3, 4] | _ => [], mv := [22] }
@[reducible] def d26_3 : SD := ⟨[.data false (.sl .arg TMailbox),B,B,.data false (.sl (.own (some 36864)) TMailbox),DI,B,B,B,B,B,B,B,B,B,B,B,B,B,B,B,B,B,B], [Z,Z,Z,Z,Z,Z,Z,Z,Z,Z,Z,Z,Z,Z,Z,Z,Z,Z,Z,Z,Z,Z,Z], .none⟩
def t26_3 {R : Type} (X : SD.D d26_3) (K : Ex → AS → Option R) := Pu.laws_toMailboxS_T3 (fun y0 y1 => K (.exit 0) (SD.enc d26_3 ((X.1.1, (y0, (y1, ()))), (), ()))) X.1.1
def l26_3 : LEnt := ⟨d26_3, fun X K => iterL (t26_3 X K) fuel (X.1.2.1, X.1.2.2.1)⟩
def L26 : Lam := (Lam.nil).add 3 l26_3
theorem k26_3 : LOk E g26 n26 L26 (loopBody Tryz.f26 0) :=
  lok l26_3 (by kernel_rfl) fuel fun R X K => (loop_iter (σ := (List Pu.Mailbox) × Int) (fun x => SD.enc d26_3 ((X.1.1, (x.1, (x.2, ()))), (), ())) (t26_3 X K) (fun m x => by kernel_rfl) fuel (X.1.2.1, X.1.2.2.1)).symm
theorem o26 : FnOk Tryz.prog 26 e26 := fk n26 ((base).add o69) Tryz.func26 (Λ := L26) (cF k26_3 nF)
def e7 : GEnt := entOf [.data true TIdeal] [(true, (.pair (.sl (.own none) TSoft) (.pair (.sl (.own none) (.sl .str)) (.pair (.sl (.own none) TVirtualFunction) (.pair (.sl (.own none) TMailbox) (.sl (.own none) .str))))))] fun a => Pu.laws_toIdeal a.1
theorem o7 : FnOk Tryz.prog 7 e7 := fk { mv := [24] } ((((((base).add o23).add o24).add o25).add o26).add o27) Tryz.func7 (Λ := Lam.nil) nF
def e28 : GEnt := entOf [.data true TSegment] [(true, (.pair (.int .i64) (.pair (.int .i64) (.pair (.int .i64) (.pair (.int .i64) (.pair (.int .i64) (.pair (.int .i64) (.pair (.int .i64) .str))))))))] fun a => Pu.laws_toSegment a.1
theorem o28 : FnOk Tryz.prog 28 e28 := fk {} (base) Tryz.func28 (Λ := Lam.nil) nF
def e8 : GEnt := entOf [.data true TPacket] [(true, (.pair (.int .i64) (.pair (.int .i64) (.pair (.int .i64) (.pair (.int .i64) (.pair (.int .i64) (.pair (.int .i64) (.pair (.int .i64) (.pair (.int .i64) (.pair (.int .i64) (.pair (.int .i64) (.pair (.int .i64) (.pair (.int .i64) (.pair (.int .i64) (.pair (.int .i64) (.pair (.int .i64) .str))))))))))))))))] fun a => Pu.laws_toPacket a.1
theorem o8 : FnOk Tryz.prog 8 e8 := fk {} ((base).add o28) Tryz.func8 (Λ := Lam.nil) nF
def e70 : GEnt := entOf [.data false (.sl TVirtualFunction)] [(false, (.sl (.own none) TVirtualFunction))] fun a => Pu.impl_copyFunctions a.1
theorem o70 : FnOk Tryz.prog 70 e70 := fk {} (base) Tryz.func70 (Λ := Lam.nil) nF
def e184 : GEnt := entOf [.data false (.sl (.int .i64))] [(false, (.sl (.own none) (.int .i64)))] fun a => Pu.impl_copyInts a.1
theorem o184 : FnOk Tryz.prog 184 e184 := fk {} (base) Tryz.func184 (Λ := Lam.nil) nF
def e129 : GEnt := entOf [.data true TFilter] [(true, (.pair (.int .i64) (.pair .bool (.sl (.own none) (.int .i64)))))] fun a => Pu.impl_copyFilter a.1
theorem o129 : FnOk Tryz.prog 129 e129 := fk { mv := [7] } ((base).add o184) Tryz.func129 (Λ := Lam.nil) nF
def e128 : GEnt := entOf [.data true TMailbox] [(true, (.pair (.pair (.int .i64) (.pair .bool (.sl (.own none) (.int .i64)))) (.pair (.int .i64) (.pair (.int .i64) (.int .i64)))))] fun a => Pu.impl_copyMailbox a.1
theorem o128 : FnOk Tryz.prog 128 e128 := fk { mv := [7] } ((base).add o129) Tryz.func128 (Λ := Lam.nil) nF
def e71 : GEnt := entOf [.data false (.sl TMailbox)] [(false, (.sl (.own none) TMailbox))] fun a => Pu.impl_copyBoxes a.1
def g71 : Gam := (Gam.nil).add 128 e128
def n71 : An := { mask := fun | 3 => [3, 7, 8, 9] | _ => [], mv := [13, 19] }
@[reducible] def d71_3 : SD := ⟨[B,B,B,.data false (.sl (.own (some 36864)) TMailbox),B,B,B,.data false (.sl .arg TMailbox),DI,DI,B,B,B,B,B,B,B,B,B,B], [Z,Z,Z,Z,Z,Z,Z,Z,Z,Z,Z,Z,Z,Z,Z,Z,Z,Z,Z,Z], .none⟩
def t71_3 {R : Type} (X : SD.D d71_3) (K : Ex → AS → Option R) := Pu.impl_copyBoxes_T3 (fun y0 y1 => K (.exit 0) (SD.enc d71_3 ((y0, (X.1.2.1, (X.1.2.2.1, (y1, ())))), (), ()))) X.1.2.1 X.1.2.2.1
def l71_3 : LEnt := ⟨d71_3, fun X K => iterL (t71_3 X K) fuel (X.1.1, X.1.2.2.2.1)⟩
def L71 : Lam := (Lam.nil).add 3 l71_3
theorem k71_3 : LOk E g71 n71 L71 (loopBody Tryz.f71 0) :=
  lok l71_3 (by kernel_rfl) fuel fun R X K => (loop_iter (σ := (List Pu.Mailbox) × Int) (fun x => SD.enc d71_3 ((x.1, (X.1.2.1, (X.1.2.2.1, (x.2, ())))), (), ())) (t71_3 X K) (fun m x => by kernel_rfl) fuel (X.1.1, X.1.2.2.2.1)).symm
theorem o71 : FnOk Tryz.prog 71 e71 := fk n71 ((base).add o128) Tryz.func71 (Λ := L71) (cF k71_3 nF)
def e72 : GEnt := entOf [.data false (.sl .str)] [(false, (.sl (.own none) .str))] fun a => Pu.impl_copyStrings a.1
theorem o72 : FnOk Tryz.prog 72 e72 := fk {} (base) Tryz.func72 (Λ := Lam.nil) nF
def e185 : GEnt := entOf [.data true (.sl TSlot)] [(true, (.sl (.own none) TSlot))] fun a => Pu.impl_copyTable a.1
theorem o185 : FnOk Tryz.prog 185 e185 := fk {} (base) Tryz.func185 (Λ := Lam.nil) nF
def e186 : GEnt := entOf [.data true TSpread] [(true, (.pair .str (.sl (.own none) (.int .i64))))] fun a => Pu.impl_copySpread a.1
theorem o186 : FnOk Tryz.prog 186 e186 := fk { sb := fun | 2 => some 2 | _ => none } ((base).add o184) Tryz.func186 (Λ := Lam.nil) nF
def e130 : GEnt := entOf [.data true TSteering] [(true, (.pair (.sl (.own none) TRule) (.pair (.sl (.own none) TSlot) (.pair .str (.sl (.own none) (.int .i64))))))] fun a => Pu.impl_copySteering a.1
theorem o130 : FnOk Tryz.prog 130 e130 := fk { sb := fun | 2 => some 2 | _ => none } (((base).add o185).add o186) Tryz.func130 (Λ := Lam.nil) nF
def e131 : GEnt := entOf [.data false (.sl TStream)] [(false, (.sl (.own none) TStream))] fun a => Pu.impl_copyStreams a.1
theorem o131 : FnOk Tryz.prog 131 e131 := fk {} (base) Tryz.func131 (Λ := Lam.nil) nF
def e73 : GEnt := entOf [.data true TSoft] [(true, (.pair (.pair (.int .i64) (.pair .bool (.sl (.own none) (.int .i64)))) (.pair (.pair (.sl (.own none) TRule) (.pair (.sl (.own none) TSlot) (.pair .str (.sl (.own none) (.int .i64))))) (.pair (.int .i64) (.pair (.sl (.own none) TStream) (.sl (.own none) .str))))))] fun a => Pu.impl_copySoft a.1
theorem o73 : FnOk Tryz.prog 73 e73 := fk { sb := fun | 2 => some 2 | _ => none } (((((base).add o72).add o129).add o130).add o131) Tryz.func73 (Λ := Lam.nil) nF
def e29 : GEnt := entOf [.data true TIdeal] [(true, (.pair (.sl (.own none) TSoft) (.pair (.sl (.own none) (.sl .str)) (.pair (.sl (.own none) TVirtualFunction) (.pair (.sl (.own none) TMailbox) (.sl (.own none) .str))))))] fun a => Pu.impl_copyIdeal a.1
def g29 : Gam := ((((Gam.nil).add 70 e70).add 71 e71).add 72 e72).add 73 e73
def n29 : An := { mask := fun | 3 => [1, 2, 3, 19, 20, 21] | 8 => [2, 3, 34, 35, 36] | _ => [], mv := [26, 41, 48], mb := fun | 26 => some 3 | 41 => some 3 | _ => none, sb := fun | 3 => some 3 | 31 => some 3 | 46 => some 3 | _ => none }
@[reducible] def d29_3 : SD := ⟨[B,.ptr 1 0,.ptr 2 0,.ptr 3 0,B,B,B,B,B,B,B,B,B,B,B,B,B,B,B,.data false (.sl .arg TSoft),DI,DI,B,B,B,B,B,B,B,B,B,B,B,B,B,B,B,B,B,B,B,B,B,B,B,B,B,B,B], [Z,some (.pair (.sl .arg TSoft) (.pair (.sl .arg (.sl .str)) (.pair (.sl .arg TVirtualFunction) (.pair (.sl .arg TMailbox) (.sl .arg .str))))),some (.pair (.sl (.own (some 24577)) TSoft) (.pair (.sl (.own (some 24580)) (.sl .str)) (.pair (.sl (.own (some 24583)) TVirtualFunction) (.pair (.sl (.own (some 24586)) TMailbox) (.sl (.own (some 24589)) .str))))),some (.pair (.sl (.own (some 36865)) TSoft) (.pair (.sl (.own (some 36868)) (.sl .str)) (.pair (.sl (.own (some 36871)) TVirtualFunction) (.pair (.sl (.own (some 36874)) TMailbox) (.sl (.own (some 36877)) .str))))),Z,Z,Z,Z,Z,Z,Z,Z,Z,Z,Z,Z,Z,Z,Z,Z,Z,Z,Z,Z,Z,Z,Z,Z,Z,Z,Z,Z,Z,Z,Z,Z,Z,Z,Z,Z,Z,Z,Z,Z,Z,Z,Z,Z,Z], .none⟩
def t29_3 {R : Type} (X : SD.D d29_3) (K : Ex → AS → Option R) := Pu.impl_copyIdeal_T3 (fun y0 y1 => K (.exit 0) (SD.enc d29_3 ((X.1.1, (X.1.2.1, (y0, ()))), (X.2.1.1, (X.2.1.2.1, (y1, ()))), ()))) X.1.1 X.1.2.1 X.2.1.1 X.2.1.2.1
def l29_3 : LEnt := ⟨d29_3, fun X K => iterL (t29_3 X K) fuel (X.1.2.2.1, X.2.1.2.2.1)⟩
@[reducible] def d29_8 : SD := ⟨[B,B,.ptr 2 0,.ptr 3 0,B,B,B,B,B,B,B,B,B,B,B,B,B,B,B,B,B,B,B,B,B,B,B,B,B,B,B,B,B,B,.data false (.sl .arg (.sl .str)),DI,DI,B,B,B,B,B,B,B,B,B,B,B,B], [Z,Z,some (.pair (.sl (.own (some 24577)) TSoft) (.pair (.sl (.own (some 24580)) (.sl .str)) (.pair (.sl (.own (some 24583)) TVirtualFunction) (.pair (.sl (.own (some 24586)) TMailbox) (.sl (.own (some 24589)) .str))))),some (.pair (.sl (.own (some 36865)) TSoft) (.pair (.sl (.own (some 36868)) (.sl .str)) (.pair (.sl (.own (some 36871)) TVirtualFunction) (.pair (.sl (.own (some 36874)) TMailbox) (.sl (.own (some 36877)) .str))))),Z,Z,Z,Z,Z,Z,Z,Z,Z,Z,Z,Z,Z,Z,Z,Z,Z,Z,Z,Z,Z,Z,Z,Z,Z,Z,Z,Z,Z,Z,Z,Z,Z,Z,Z,Z,Z,Z,Z,Z,Z,Z,Z,Z,Z], .none⟩
def t29_8 {R : Type} (X : SD.D d29_8) (K : Ex → AS → Option R) := Pu.impl_copyIdeal_T8 (fun y0 y1 => K (.exit 2) (SD.enc d29_8 ((X.1.1, (X.1.2.1, (y0, ()))), (X.2.1.1, (y1, ())), ()))) X.1.1 X.1.2.1 X.2.1.1
def l29_8 : LEnt := ⟨d29_8, fun X K => iterL (t29_8 X K) fuel (X.1.2.2.1, X.2.1.2.1)⟩
def L29 : Lam := ((Lam.nil).add 3 l29_3).add 8 l29_8
theorem k29_3 : LOk E g29 n29 L29 (loopBody Tryz.f29 0) :=
  lok l29_3 (by kernel_rfl) fuel fun R X K => (loop_iter (σ := Int × Pu.Ideal) (fun x => SD.enc d29_3 ((X.1.1, (X.1.2.1, (x.1, ()))), (X.2.1.1, (X.2.1.2.1, (x.2, ()))), ())) (t29_3 X K) (fun m x => by kernel_rfl) fuel (X.1.2.2.1, X.2.1.2.2.1)).symm
theorem k29_8 : LOk E g29 n29 L29 (loopBody Tryz.f29 1) :=
  lok l29_8 (by kernel_rfl) fuel fun R X K => (loop_iter (σ := Int × Pu.Ideal) (fun x => SD.enc d29_8 ((X.1.1, (X.1.2.1, (x.1, ()))), (X.2.1.1, (x.2, ())), ())) (t29_8 X K) (fun m x => by kernel_rfl) fuel (X.1.2.2.1, X.2.1.2.1)).symm
theorem o29 : FnOk Tryz.prog 29 e29 := fk n29 (((((base).add o70).add o71).add o72).add o73) Tryz.func29 (Λ := L29) (cF k29_3 (cF k29_8 nF))
def e79 : GEnt := entOf [.data false (.int .i64), .data false (.int .i64), .data false (.int .i64)] [(false, .bool)] fun a => Pu.impl_between a.1 a.2.1 a.2.2.1
theorem o79 : FnOk Tryz.prog 79 e79 := fk { merge := fun | 1 => some 6 | _ => none } (base) Tryz.func79 (Λ := Lam.nil) nF
def e132 : GEnt := entOf [.data true TFilter] [(false, .bool)] fun a => Pu.impl_FilterOk a.1
def g132 : Gam := (Gam.nil).add 79 e79
def n132 : An := { mask := fun | 2 => [1, 2, 6, 7, 8] | _ => [], merge := fun | 4 => some 29 | 7 => some 2 | _ => none }
@[reducible] def d132_2 : SD := ⟨[B,.ptr 1 0,DB,B,B,B,.data false (.sl .arg (.int .i64)),DI,DI,B,B,B,B,B,B,B,B,B,B,B,B,B,B,B,B,B,B,B,B,B,B,B,B,B,B,B,B,B,B,B], [Z,some (.pair (.int .i64) (.pair .bool (.sl .arg (.int .i64)))),Z,Z,Z,Z,Z,Z,Z,Z,Z,Z,Z,Z,Z,Z,Z,Z,Z,Z,Z,Z,Z,Z,Z,Z,Z,Z,Z,Z,Z,Z,Z,Z,Z,Z,Z,Z,Z,Z], .none⟩
def t132_2 {R : Type} (X : SD.D d132_2) (K : Ex → AS → Option R) := Pu.impl_FilterOk_T2 (fun y0 => K (.exit 0) (SD.enc d132_2 ((X.1.1, (X.1.2.1, (X.1.2.2.1, (y0, ())))), (X.2.1.1, ()), ()))) (fun y0 y1 => K .ret (SD.enc d132_2 ((y0, (X.1.2.1, (X.1.2.2.1, (y1, ())))), (X.2.1.1, ()), ()))) X.1.1 X.1.2.1 X.1.2.2.1 X.2.1.1
def l132_2 : LEnt := ⟨d132_2, fun X K => iterL (t132_2 X K) fuel X.1.2.2.2.1⟩
def L132 : Lam := (Lam.nil).add 2 l132_2
theorem k132_2 : LOk E g132 n132 L132 (loopBody Tryz.f132 0) :=
  lok l132_2 (by kernel_rfl) fuel fun R X K => (loop_iter (σ := Int) (fun x => SD.enc d132_2 ((X.1.1, (X.1.2.1, (X.1.2.2.1, (x, ())))), (X.2.1.1, ()), ())) (t132_2 X K) (fun m x => by kernel_rfl) fuel X.1.2.2.2.1).symm
theorem o132 : FnOk Tryz.prog 132 e132 := fk n132 ((base).add o79) Tryz.func132 (Λ := L132) (cF k132_2 nF)
def e80 : GEnt := entOf [.data true TMailbox] [(false, .bool)] fun a => Pu.impl_MailboxOk a.1
theorem o80 : FnOk Tryz.prog 80 e80 := fk { merge := fun | 1 => some 2 | _ => none } (((base).add o79).add o132) Tryz.func80 (Λ := Lam.nil) nF
def e81 : GEnt := entOf [.data false (.sl (.int .i64)), .data false (.int .i64)] [(false, .bool)] fun a => Pu.impl_hasInt a.1 a.2.1
def g81 : Gam := Gam.nil
def n81 : An := { mask := fun | 2 => [1, 4, 7, 8, 9] | _ => [] }
@[reducible] def d81_2 : SD := ⟨[B,DI,B,B,DB,B,B,.data false (.sl .arg (.int .i64)),DI,DI,B,B,B,B,B,B,B], [Z,Z,Z,Z,Z,Z,Z,Z,Z,Z,Z,Z,Z,Z,Z,Z,Z], .none⟩
def t81_2 {R : Type} (X : SD.D d81_2) (K : Ex → AS → Option R) := Pu.impl_hasInt_T2 (fun y0 => K (.exit 0) (SD.enc d81_2 ((X.1.1, (X.1.2.1, (X.1.2.2.1, (X.1.2.2.2.1, (y0, ()))))), (), ()))) (fun y0 y1 => K .ret (SD.enc d81_2 ((X.1.1, (y0, (X.1.2.2.1, (X.1.2.2.2.1, (y1, ()))))), (), ()))) X.1.1 X.1.2.1 X.1.2.2.1 X.1.2.2.2.1
def l81_2 : LEnt := ⟨d81_2, fun X K => iterL (t81_2 X K) fuel X.1.2.2.2.2.1⟩
def L81 : Lam := (Lam.nil).add 2 l81_2
theorem k81_2 : LOk E g81 n81 L81 (loopBody Tryz.f81 0) :=
  lok l81_2 (by kernel_rfl) fuel fun R X K => (loop_iter (σ := Int) (fun x => SD.enc d81_2 ((X.1.1, (X.1.2.1, (X.1.2.2.1, (X.1.2.2.2.1, (x, ()))))), (), ())) (t81_2 X K) (fun m x => by kernel_rfl) fuel X.1.2.2.2.2.1).symm
theorem o81 : FnOk Tryz.prog 81 e81 := fk n81 (base) Tryz.func81 (Λ := L81) (cF k81_2 nF)
def e82 : GEnt := entOf [.data false (.sl (.int .i64)), .data false (.int .i64)] [(false, (.sl (.own none) (.int .i64)))] fun a => Pu.impl_addOrdered a.1 a.2.1
def g82 : Gam := Gam.nil
def n82 : An := { mask := fun | 4 => [1, 5, 6, 10, 11, 12] | _ => [], merge := fun | 6 => some 22 | _ => none, mv := [23, 27, 34, 38] }
@[reducible] def d82_4 : SD := ⟨[B,DI,B,B,B,.data false (.sl (.own (some 61440)) (.int .i64)),DB,B,B,B,.data false (.sl .arg (.int .i64)),DI,DI,B,B,B,B,B,B,B,B,B,B,B,B,B,B,B,B,B,B,B,B,B,B,B,B,B,B], [Z,Z,Z,Z,Z,Z,Z,Z,Z,Z,Z,Z,Z,Z,Z,Z,Z,Z,Z,Z,Z,Z,Z,Z,Z,Z,Z,Z,Z,Z,Z,Z,Z,Z,Z,Z,Z,Z,Z], .none⟩
def t82_4 {R : Type} (X : SD.D d82_4) (K : Ex → AS → Option R) := Pu.impl_addOrdered_T4 (fun y0 y1 y2 => K (.exit 0) (SD.enc d82_4 ((X.1.1, (y0, (y1, (X.1.2.2.2.1, (X.1.2.2.2.2.1, (y2, ())))))), (), ()))) X.1.1 X.1.2.2.2.1 X.1.2.2.2.2.1
def l82_4 : LEnt := ⟨d82_4, fun X K => iterL (t82_4 X K) fuel (X.1.2.1, X.1.2.2.1, X.1.2.2.2.2.2.1)⟩
def L82 : Lam := (Lam.nil).add 4 l82_4
theorem k82_4 : LOk E g82 n82 L82 (loopBody Tryz.f82 0) :=
  lok l82_4 (by kernel_rfl) fuel fun R X K => (loop_iter (σ := (List Int) × Bool × Int) (fun x => SD.enc d82_4 ((X.1.1, (x.1, (x.2.1, (X.1.2.2.2.1, (X.1.2.2.2.2.1, (x.2.2, ())))))), (), ())) (t82_4 X K) (fun m x => by kernel_rfl) fuel (X.1.2.1, X.1.2.2.1, X.1.2.2.2.2.2.1)).symm
theorem o82 : FnOk Tryz.prog 82 e82 := fk n82 (base) Tryz.func82 (Λ := L82) (cF k82_4 nF)
def e84 : GEnt := entOf [.data false (.sl TPort), .data false (.int .i64)] [(false, (.int .i64))] fun a => Pu.impl_portWith a.1 a.2.1
def g84 : Gam := Gam.nil
def n84 : An := { mask := fun | 2 => [1, 4, 7, 8, 9] | _ => [], merge := fun | 4 => some 21 | _ => none }
@[reducible] def d84_2 : SD := ⟨[B,DI,B,B,DI,B,B,.data false (.sl .arg TPort),DI,DI,B,B,B,B,B,B,B,B,B,B,B,B,B,B], [Z,Z,Z,Z,Z,Z,Z,Z,Z,Z,Z,Z,Z,Z,Z,Z,Z,Z,Z,Z,Z,Z,Z,Z], .none⟩
def t84_2 {R : Type} (X : SD.D d84_2) (K : Ex → AS → Option R) := Pu.impl_portWith_T2 (fun y0 => K (.exit 0) (SD.enc d84_2 ((X.1.1, (X.1.2.1, (X.1.2.2.1, (X.1.2.2.2.1, (y0, ()))))), (), ()))) (fun y0 y1 => K .ret (SD.enc d84_2 ((X.1.1, (y0, (X.1.2.2.1, (X.1.2.2.2.1, (y1, ()))))), (), ()))) X.1.1 X.1.2.1 X.1.2.2.1 X.1.2.2.2.1
def l84_2 : LEnt := ⟨d84_2, fun X K => iterL (t84_2 X K) fuel X.1.2.2.2.2.1⟩
def L84 : Lam := (Lam.nil).add 2 l84_2
theorem k84_2 : LOk E g84 n84 L84 (loopBody Tryz.f84 0) :=
  lok l84_2 (by kernel_rfl) fuel fun R X K => (loop_iter (σ := Int) (fun x => SD.enc d84_2 ((X.1.1, (X.1.2.1, (X.1.2.2.1, (X.1.2.2.2.1, (x, ()))))), (), ())) (t84_2 X K) (fun m x => by kernel_rfl) fuel X.1.2.2.2.2.1).symm
theorem o84 : FnOk Tryz.prog 84 e84 := fk n84 (base) Tryz.func84 (Λ := L84) (cF k84_2 nF)
def e138 : GEnt := entOf [.data true TPort] [(true, (.pair (.int .i64) (.pair .bool (.sl .arg (.int .i64)))))] fun a => Pu.impl_filterOf a.1
theorem o138 : FnOk Tryz.prog 138 e138 := fk {} (base) Tryz.func138 (Λ := Lam.nil) nF
def e83 : GEnt := entOf [.data false (.sl TPort)] [(false, .bool)] fun a => Pu.impl_PortsOk a.1
def g83 : Gam := (((((Gam.nil).add 79 e79).add 81 e81).add 84 e84).add 132 e132).add 138 e138
def n83 : An := { mask := fun | 4 => [0, 2, 9, 10, 11] | _ => [], merge := fun | 6 => some 27 | 8 => some 37 | _ => none }
@[reducible] def d83_4 : SD := ⟨[.data false (.sl .arg TPort),B,DB,B,B,B,B,B,B,.data false (.sl .arg TPort),DI,DI,B,B,B,B,B,B,B,B,B,B,B,B,B,B,B,B,B,B,B,B,B,B,B,B,B,B,B], [Z,Z,Z,Z,Z,Z,Z,Z,Z,Z,Z,Z,Z,Z,Z,Z,Z,Z,Z,Z,Z,Z,Z,Z,Z,Z,Z,Z,Z,Z,Z,Z,Z,Z,Z,Z,Z,Z,Z], .none⟩
def t83_4 {R : Type} (X : SD.D d83_4) (K : Ex → AS → Option R) := Pu.impl_PortsOk_T4 (fun y0 => K (.exit 0) (SD.enc d83_4 ((X.1.1, (X.1.2.1, (X.1.2.2.1, (X.1.2.2.2.1, (y0, ()))))), (), ()))) (fun y0 y1 => K .ret (SD.enc d83_4 ((X.1.1, (y0, (X.1.2.2.1, (X.1.2.2.2.1, (y1, ()))))), (), ()))) X.1.1 X.1.2.1 X.1.2.2.1 X.1.2.2.2.1
def l83_4 : LEnt := ⟨d83_4, fun X K => iterL (t83_4 X K) fuel X.1.2.2.2.2.1⟩
def L83 : Lam := (Lam.nil).add 4 l83_4
theorem k83_4 : LOk E g83 n83 L83 (loopBody Tryz.f83 0) :=
  lok l83_4 (by kernel_rfl) fuel fun R X K => (loop_iter (σ := Int) (fun x => SD.enc d83_4 ((X.1.1, (X.1.2.1, (X.1.2.2.1, (X.1.2.2.2.1, (x, ()))))), (), ())) (t83_4 X K) (fun m x => by kernel_rfl) fuel X.1.2.2.2.2.1).symm
theorem o83 : FnOk Tryz.prog 83 e83 := fk n83 ((((((base).add o79).add o81).add o84).add o132).add o138) Tryz.func83 (Λ := L83) (cF k83_4 nF)
def e32 : GEnt := entOf [.data false (.sl TMailbox)] [(false, (.sl (.own none) TPort)), (false, .bool)] fun a => Pu.impl_PortsOf a.1
def g32 : Gam := (((((Gam.nil).add 79 e79).add 80 e80).add 81 e81).add 82 e82).add 83 e83
def n32 : An := { mask := fun | 6 => [2, 3, 4, 5, 18, 19, 20] | 12 => [2, 3, 4, 5, 7, 8, 18, 19, 20, 32, 33, 34] | _ => [], mv := [53, 57, 63, 69] }
@[reducible] def d32_12 : SD := ⟨[B,B,.data false (.sl (.own (some 24576)) TPort),DB,.data false (.sl (.own (some 49152)) TPort),.data false (.sl (.own (some 61440)) (.int .i64)),B,.ptr 7 0,.data false (.sl (.own (some 98304)) (.int .i64)),B,B,B,B,B,B,B,B,B,.data false (.sl .arg TMailbox),DI,DI,B,B,B,B,B,B,B,B,B,B,B,.data false (.sl (.own (some 393216)) (.int .i64)),DI,DI,B,B,B,B,B,B,B,B,B,B,B,B,B,B,B,B,B,B,B,B,B,B,B,B,B,B,B,B,B,B,B,B,B,B,B], [Z,Z,Z,Z,Z,Z,Z,some (.pair (.pair (.int .i64) (.pair .bool (.sl .arg (.int .i64)))) (.pair (.int .i64) (.pair (.int .i64) (.int .i64)))),Z,Z,Z,Z,Z,Z,Z,Z,Z,Z,Z,Z,Z,Z,Z,Z,Z,Z,Z,Z,Z,Z,Z,Z,Z,Z,Z,Z,Z,Z,Z,Z,Z,Z,Z,Z,Z,Z,Z,Z,Z,Z,Z,Z,Z,Z,Z,Z,Z,Z,Z,Z,Z,Z,Z,Z,Z,Z,Z,Z,Z,Z], .none⟩
def t32_12 {R : Type} (X : SD.D d32_12) (K : Ex → AS → Option R) := Pu.impl_PortsOf_T12 (fun y0 y1 y2 => K (.exit 2) (SD.enc d32_12 ((X.1.1, (X.1.2.1, (X.1.2.2.1, (y0, (y1, (X.1.2.2.2.2.2.1, (X.1.2.2.2.2.2.2.1, (X.1.2.2.2.2.2.2.2.1, (X.1.2.2.2.2.2.2.2.2.1, (X.1.2.2.2.2.2.2.2.2.2.1, (y2, ()))))))))))), (X.2.1.1, ()), ()))) X.1.1 X.1.2.1 X.1.2.2.1 X.1.2.2.2.2.2.1 X.1.2.2.2.2.2.2.1 X.1.2.2.2.2.2.2.2.1 X.1.2.2.2.2.2.2.2.2.1 X.1.2.2.2.2.2.2.2.2.2.1 X.2.1.1
def l32_12 : LEnt := ⟨d32_12, fun X K => iterL (t32_12 X K) fuel (X.1.2.2.2.1, X.1.2.2.2.2.1, X.1.2.2.2.2.2.2.2.2.2.2.1)⟩
@[reducible] def d32_6 : SD := ⟨[B,B,.data false (.sl (.own (some 24576)) TPort),DB,.data false (.sl (.own (some 49152)) TPort),.data false (.sl (.own (some 61440)) (.int .i64)),B,B,B,B,B,B,B,B,B,B,B,B,.data false (.sl .arg TMailbox),DI,DI,B,B,B,B,B,B,B,B,B,B,B,B,B,B,B,B,B,B,B,B,B,B,B,B,B,B,B,B,B,B,B,B,B,B,B,B,B,B,B,B,B,B,B,B,B,B,B,B,B], [Z,Z,Z,Z,Z,Z,Z,Z,Z,Z,Z,Z,Z,Z,Z,Z,Z,Z,Z,Z,Z,Z,Z,Z,Z,Z,Z,Z,Z,Z,Z,Z,Z,Z,Z,Z,Z,Z,Z,Z,Z,Z,Z,Z,Z,Z,Z,Z,Z,Z,Z,Z,Z,Z,Z,Z,Z,Z,Z,Z,Z,Z,Z,Z,Z,Z,Z,Z,Z,Z], .none⟩
def t32_6 {R : Type} (X : SD.D d32_6) (K : Ex → AS → Option R) := Pu.impl_PortsOf_T6 (fun y0 y1 y2 => K (.exit 0) (SD.enc d32_6 ((X.1.1, (X.1.2.1, (y0, (y1, (X.1.2.2.2.2.1, (X.1.2.2.2.2.2.1, (y2, ()))))))), (), ()))) (fun y0 y1 y2 y3 y4 => K .ret (SD.enc d32_6 ((y0, (y1, (y2, (y3, (X.1.2.2.2.2.1, (X.1.2.2.2.2.2.1, (y4, ()))))))), (), ()))) X.1.1 X.1.2.1 X.1.2.2.2.2.1 X.1.2.2.2.2.2.1
def l32_6 : LEnt := ⟨d32_6, fun X K => iterL (t32_6 X K) fuel (X.1.2.2.1, X.1.2.2.2.1, X.1.2.2.2.2.2.2.1)⟩
def L32 : Lam := ((Lam.nil).add 12 l32_12).add 6 l32_6
theorem k32_12 : LOk E g32 n32 L32 (loopBody Tryz.f32 1) :=
  lok l32_12 (by kernel_rfl) fuel fun R X K => (loop_iter (σ := (List Int) × (List Int) × Int) (fun x => SD.enc d32_12 ((X.1.1, (X.1.2.1, (X.1.2.2.1, (x.1, (x.2.1, (X.1.2.2.2.2.2.1, (X.1.2.2.2.2.2.2.1, (X.1.2.2.2.2.2.2.2.1, (X.1.2.2.2.2.2.2.2.2.1, (X.1.2.2.2.2.2.2.2.2.2.1, (x.2.2, ()))))))))))), (X.2.1.1, ()), ())) (t32_12 X K) (fun m x => by kernel_rfl) fuel (X.1.2.2.2.1, X.1.2.2.2.2.1, X.1.2.2.2.2.2.2.2.2.2.2.1)).symm
theorem k32_6 : LOk E g32 n32 L32 (loopBody Tryz.f32 0) :=
  lok l32_6 (by kernel_rfl) fuel fun R X K => (loop_iter (σ := (List Pu.Port) × (List Int) × Int) (fun x => SD.enc d32_6 ((X.1.1, (X.1.2.1, (x.1, (x.2.1, (X.1.2.2.2.2.1, (X.1.2.2.2.2.2.1, (x.2.2, ()))))))), (), ())) (t32_6 X K) (fun m x => by kernel_rfl) fuel (X.1.2.2.1, X.1.2.2.2.1, X.1.2.2.2.2.2.2.1)).symm
theorem o32 : FnOk Tryz.prog 32 e32 := fk n32 ((((((base).add o79).add o80).add o81).add o82).add o83) Tryz.func32 (Λ := L32) (cF k32_6 (cF k32_12 nF))
def e230 : GEnt := entOf [.data true TRule] [(false, .bool)] fun a => Pu.impl_RuleOk a.1
theorem o230 : FnOk Tryz.prog 230 e230 := fk { merge := fun | 1 => some 33 | 3 => some 54 | 5 => some 2 | _ => none } ((base).add o79) Tryz.func230 (Λ := Lam.nil) nF
def e187 : GEnt := entOf [.data false (.sl TRule)] [(false, .bool)] fun a => Pu.impl_RulesOk a.1
def g187 : Gam := (Gam.nil).add 230 e230
def n187 : An := { mask := fun | 2 => [0, 2, 5, 6, 7] | _ => [] }
@[reducible] def d187_2 : SD := ⟨[.data false (.sl .arg TRule),B,DB,B,B,.data false (.sl .arg TRule),DI,DI,B,B,B,B,B,B,B,B,B,B], [Z,Z,Z,Z,Z,Z,Z,Z,Z,Z,Z,Z,Z,Z,Z,Z,Z,Z], .none⟩
def t187_2 {R : Type} (X : SD.D d187_2) (K : Ex → AS → Option R) := Pu.impl_RulesOk_T2 (fun y0 => K (.exit 0) (SD.enc d187_2 ((X.1.1, (X.1.2.1, (X.1.2.2.1, (X.1.2.2.2.1, (y0, ()))))), (), ()))) (fun y0 y1 => K .ret (SD.enc d187_2 ((X.1.1, (y0, (X.1.2.2.1, (X.1.2.2.2.1, (y1, ()))))), (), ()))) X.1.1 X.1.2.1 X.1.2.2.1 X.1.2.2.2.1
def l187_2 : LEnt := ⟨d187_2, fun X K => iterL (t187_2 X K) fuel X.1.2.2.2.2.1⟩
def L187 : Lam := (Lam.nil).add 2 l187_2
theorem k187_2 : LOk E g187 n187 L187 (loopBody Tryz.f187 0) :=
  lok l187_2 (by kernel_rfl) fuel fun R X K => (loop_iter (σ := Int) (fun x => SD.enc d187_2 ((X.1.1, (X.1.2.1, (X.1.2.2.1, (X.1.2.2.2.1, (x, ()))))), (), ())) (t187_2 X K) (fun m x => by kernel_rfl) fuel X.1.2.2.2.2.1).symm
theorem o187 : FnOk Tryz.prog 187 e187 := fk n187 ((base).add o230) Tryz.func187 (Λ := L187) (cF k187_2 nF)
def e203 : GEnt := entOf [.data true (.sl TSlot), .data true TFlow] [(false, (.int .i64))] fun a => Pu.impl_slotOf a.1 a.2.1
def g203 : Gam := Gam.nil
def n203 : An := { mask := fun | 2 => [3, 4, 8, 9, 10] | _ => [], merge := fun | 4 => some 23 | _ => none }
@[reducible] def d203_2 : SD := ⟨[B,B,B,.ptr 3 0,DI,B,B,B,.data false (.sl .arg TSlot),DI,DI,B,B,B,B,B,B,B,B,B,B,B,B,B,B,B], [Z,Z,Z,some (.pair (.int .i64) (.pair (.int .i64) (.pair (.int .i64) (.pair (.int .i64) (.int .i64))))),Z,Z,Z,Z,Z,Z,Z,Z,Z,Z,Z,Z,Z,Z,Z,Z,Z,Z,Z,Z,Z,Z], .none⟩
def t203_2 {R : Type} (X : SD.D d203_2) (K : Ex → AS → Option R) := Pu.impl_slotOf_T2 (fun y0 => K (.exit 0) (SD.enc d203_2 ((X.1.1, (X.1.2.1, (X.1.2.2.1, (y0, ())))), (X.2.1.1, ()), ()))) (fun y0 y1 => K .ret (SD.enc d203_2 ((y0, (X.1.2.1, (X.1.2.2.1, (y1, ())))), (X.2.1.1, ()), ()))) X.1.1 X.1.2.1 X.1.2.2.1 X.2.1.1
def l203_2 : LEnt := ⟨d203_2, fun X K => iterL (t203_2 X K) fuel X.1.2.2.2.1⟩
def L203 : Lam := (Lam.nil).add 2 l203_2
theorem k203_2 : LOk E g203 n203 L203 (loopBody Tryz.f203 0) :=
  lok l203_2 (by kernel_rfl) fuel fun R X K => (loop_iter (σ := Int) (fun x => SD.enc d203_2 ((X.1.1, (X.1.2.1, (X.1.2.2.1, (x, ())))), (X.2.1.1, ()), ())) (t203_2 X K) (fun m x => by kernel_rfl) fuel X.1.2.2.2.1).symm
theorem o203 : FnOk Tryz.prog 203 e203 := fk n203 (base) Tryz.func203 (Λ := L203) (cF k203_2 nF)
def e152 : GEnt := entOf [.data false (.int .i64), .data false (.int .i64)] [(false, (.int .i64))] fun a => Pu.impl_modulo a.1 a.2.1
theorem o152 : FnOk Tryz.prog 152 e152 := fk {} (base) Tryz.func152 (Λ := Lam.nil) nF
def e252 : GEnt := entOf [.data true TFlow] [(false, (.int .i64))] fun a => Pu.impl_HomeSlot a.1
def g252 : Gam := (Gam.nil).add 152 e152
def n252 : An := { mask := fun | 3 => [3, 16, 17, 18] | _ => [] }
@[reducible] def d252_3 : SD := ⟨[B,B,B,DI,B,B,B,B,B,B,B,B,B,B,B,B,.data false (.sl (.own (some 196608)) (.int .i64)),DI,DI,B,B,B,B,B,B,B,B,B,B], [Z,Z,Z,Z,Z,Z,Z,Z,Z,Z,Z,Z,Z,Z,Z,Z,Z,Z,Z,Z,Z,Z,Z,Z,Z,Z,Z,Z,Z], .none⟩
def t252_3 {R : Type} (X : SD.D d252_3) (K : Ex → AS → Option R) := Pu.impl_HomeSlot_T3 (fun y0 y1 => K (.exit 0) (SD.enc d252_3 ((y0, (X.1.2.1, (X.1.2.2.1, (y1, ())))), (), ()))) X.1.2.1 X.1.2.2.1
def l252_3 : LEnt := ⟨d252_3, fun X K => iterL (t252_3 X K) fuel (X.1.1, X.1.2.2.2.1)⟩
def L252 : Lam := (Lam.nil).add 3 l252_3
theorem k252_3 : LOk E g252 n252 L252 (loopBody Tryz.f252 0) :=
  lok l252_3 (by kernel_rfl) fuel fun R X K => (loop_iter (σ := Int × Int) (fun x => SD.enc d252_3 ((x.1, (X.1.2.1, (X.1.2.2.1, (x.2, ())))), (), ())) (t252_3 X K) (fun m x => by kernel_rfl) fuel (X.1.1, X.1.2.2.2.1)).symm
theorem o252 : FnOk Tryz.prog 252 e252 := fk n252 ((base).add o152) Tryz.func252 (Λ := L252) (cF k252_3 nF)
def e231 : GEnt := entOf [.data true TFlow] [(false, (.sl (.own none) (.int .i64)))] fun a => Pu.impl_wayOf a.1
def g231 : Gam := (Gam.nil).add 252 e252
def n231 : An := { mask := fun | 3 => [1, 3, 4] | _ => [], mv := [10, 18] }
@[reducible] def d231_3 : SD := ⟨[B,.ptr 1 0,B,.data false (.sl (.own (some 36864)) (.int .i64)),DI,B,B,B,B,B,B,B,B,B,B,B,B,B,B], [Z,some (.pair (.int .i64) (.pair (.int .i64) (.pair (.int .i64) (.pair (.int .i64) (.int .i64))))),Z,Z,Z,Z,Z,Z,Z,Z,Z,Z,Z,Z,Z,Z,Z,Z,Z], .none⟩
def t231_3 {R : Type} (X : SD.D d231_3) (K : Ex → AS → Option R) := Pu.impl_wayOf_T3 (fun y0 y1 => K (.exit 0) (SD.enc d231_3 ((y0, (y1, ())), (X.2.1.1, ()), ()))) X.2.1.1
def l231_3 : LEnt := ⟨d231_3, fun X K => iterL (t231_3 X K) fuel (X.1.1, X.1.2.1)⟩
def L231 : Lam := (Lam.nil).add 3 l231_3
theorem k231_3 : LOk E g231 n231 L231 (loopBody Tryz.f231 0) :=
  lok l231_3 (by kernel_rfl) fuel fun R X K => (loop_iter (σ := (List Int) × Int) (fun x => SD.enc d231_3 ((x.1, (x.2, ())), (X.2.1.1, ()), ())) (t231_3 X K) (fun m x => by kernel_rfl) fuel (X.1.1, X.1.2.1)).symm
theorem o231 : FnOk Tryz.prog 231 e231 := fk n231 ((base).add o252) Tryz.func231 (Λ := L231) (cF k231_3 nF)
def e188 : GEnt := entOf [.data true (.sl TSlot)] [(false, .bool)] fun a => Pu.impl_TableOk a.1
def g188 : Gam := (((Gam.nil).add 79 e79).add 203 e203).add 231 e231
def n188 : An := { mask := fun | 4 => [1, 2, 12, 13, 14] | 14 => [1, 2, 3, 12, 13, 14, 49, 50, 51] | _ => [], merge := fun | 6 => some 28 | 9 => some 40 | _ => none }
@[reducible] def d188_14 : SD := ⟨[B,.ptr 1 0,DB,DI,B,B,B,B,B,B,B,B,.data false (.sl .arg TSlot),DI,DI,B,B,B,B,B,B,B,B,B,B,B,B,B,B,B,B,B,B,B,B,B,B,B,B,B,B,B,B,B,B,B,B,B,B,.data false (.sl (.own (some 602112)) (.int .i64)),DI,DI,B,B,B,B,B,B,B,B,B,B,B,B,B,B,B], [Z,some (.sl .arg TSlot),Z,Z,Z,Z,Z,Z,Z,Z,Z,Z,Z,Z,Z,Z,Z,Z,Z,Z,Z,Z,Z,Z,Z,Z,Z,Z,Z,Z,Z,Z,Z,Z,Z,Z,Z,Z,Z,Z,Z,Z,Z,Z,Z,Z,Z,Z,Z,Z,Z,Z,Z,Z,Z,Z,Z,Z,Z,Z,Z,Z,Z,Z,Z,Z,Z], .none⟩
def t188_14 {R : Type} (X : SD.D d188_14) (K : Ex → AS → Option R) := Pu.impl_TableOk_T14 (fun y0 => K (.exit 2) (SD.enc d188_14 ((X.1.1, (X.1.2.1, (X.1.2.2.1, (X.1.2.2.2.1, (X.1.2.2.2.2.1, (X.1.2.2.2.2.2.1, (X.1.2.2.2.2.2.2.1, (y0, ())))))))), (X.2.1.1, ()), ()))) (fun y0 y1 => K .ret (SD.enc d188_14 ((y0, (X.1.2.1, (X.1.2.2.1, (X.1.2.2.2.1, (X.1.2.2.2.2.1, (X.1.2.2.2.2.2.1, (X.1.2.2.2.2.2.2.1, (y1, ())))))))), (X.2.1.1, ()), ()))) X.1.1 X.1.2.1 X.1.2.2.1 X.1.2.2.2.1 X.1.2.2.2.2.1 X.1.2.2.2.2.2.1 X.1.2.2.2.2.2.2.1 X.2.1.1
def l188_14 : LEnt := ⟨d188_14, fun X K => iterL (t188_14 X K) fuel X.1.2.2.2.2.2.2.2.1⟩
@[reducible] def d188_4 : SD := ⟨[B,.ptr 1 0,DB,B,B,B,B,B,B,B,B,B,.data false (.sl .arg TSlot),DI,DI,B,B,B,B,B,B,B,B,B,B,B,B,B,B,B,B,B,B,B,B,B,B,B,B,B,B,B,B,B,B,B,B,B,B,B,B,B,B,B,B,B,B,B,B,B,B,B,B,B,B,B,B], [Z,some (.sl .arg TSlot),Z,Z,Z,Z,Z,Z,Z,Z,Z,Z,Z,Z,Z,Z,Z,Z,Z,Z,Z,Z,Z,Z,Z,Z,Z,Z,Z,Z,Z,Z,Z,Z,Z,Z,Z,Z,Z,Z,Z,Z,Z,Z,Z,Z,Z,Z,Z,Z,Z,Z,Z,Z,Z,Z,Z,Z,Z,Z,Z,Z,Z,Z,Z,Z,Z], .none⟩
def t188_4 {R : Type} (X : SD.D d188_4) (K : Ex → AS → Option R) := Pu.impl_TableOk_T4 (fun y0 => K (.exit 0) (SD.enc d188_4 ((X.1.1, (X.1.2.1, (X.1.2.2.1, (y0, ())))), (X.2.1.1, ()), ()))) (fun y0 y1 => K .ret (SD.enc d188_4 ((y0, (X.1.2.1, (X.1.2.2.1, (y1, ())))), (X.2.1.1, ()), ()))) X.1.1 X.1.2.1 X.1.2.2.1 X.2.1.1
def l188_4 : LEnt := ⟨d188_4, fun X K => iterL (t188_4 X K) fuel X.1.2.2.2.1⟩
def L188 : Lam := ((Lam.nil).add 14 l188_14).add 4 l188_4
theorem k188_14 : LOk E g188 n188 L188 (loopBody Tryz.f188 1) :=
  lok l188_14 (by kernel_rfl) fuel fun R X K => (loop_iter (σ := Int) (fun x => SD.enc d188_14 ((X.1.1, (X.1.2.1, (X.1.2.2.1, (X.1.2.2.2.1, (X.1.2.2.2.2.1, (X.1.2.2.2.2.2.1, (X.1.2.2.2.2.2.2.1, (x, ())))))))), (X.2.1.1, ()), ())) (t188_14 X K) (fun m x => by kernel_rfl) fuel X.1.2.2.2.2.2.2.2.1).symm
theorem k188_4 : LOk E g188 n188 L188 (loopBody Tryz.f188 0) :=
  lok l188_4 (by kernel_rfl) fuel fun R X K => (loop_iter (σ := Int) (fun x => SD.enc d188_4 ((X.1.1, (X.1.2.1, (X.1.2.2.1, (x, ())))), (X.2.1.1, ()), ())) (t188_4 X K) (fun m x => by kernel_rfl) fuel X.1.2.2.2.1).symm
theorem o188 : FnOk Tryz.prog 188 e188 := fk n188 ((((base).add o79).add o203).add o231) Tryz.func188 (Λ := L188) (cF k188_4 (cF k188_14 nF))
def e232 : GEnt := entOf [.data false (.int .i64)] [(false, .bool)] fun a => Pu.impl_tableSize a.1
theorem o232 : FnOk Tryz.prog 232 e232 := fk { merge := fun | 1 => some 2 | _ => none } (base) Tryz.func232 (Λ := Lam.nil) nF
def e189 : GEnt := entOf [.data true TSpread, .data false (.int .i64)] [(false, .bool)] fun a => Pu.impl_SpreadOk a.1 a.2.1
def g189 : Gam := ((Gam.nil).add 79 e79).add 232 e232
def n189 : An := { mask := fun | 4 => [1, 4, 24, 25, 26] | _ => [], merge := fun | 1 => some 22 | _ => none }
@[reducible] def d189_4 : SD := ⟨[B,DI,B,B,DB,B,B,B,B,B,B,B,B,B,B,B,B,B,B,B,B,B,B,B,.data false (.sl .arg (.int .i64)),DI,DI,B,B,B,B,B,B,B,B,B], [Z,Z,Z,Z,Z,Z,Z,Z,Z,Z,Z,Z,Z,Z,Z,Z,Z,Z,Z,Z,Z,Z,Z,Z,Z,Z,Z,Z,Z,Z,Z,Z,Z,Z,Z,Z], .none⟩
def t189_4 {R : Type} (X : SD.D d189_4) (K : Ex → AS → Option R) := Pu.impl_SpreadOk_T4 (fun y0 => K (.exit 0) (SD.enc d189_4 ((X.1.1, (X.1.2.1, (X.1.2.2.1, (X.1.2.2.2.1, (y0, ()))))), (), ()))) (fun y0 y1 => K .ret (SD.enc d189_4 ((X.1.1, (y0, (X.1.2.2.1, (X.1.2.2.2.1, (y1, ()))))), (), ()))) X.1.1 X.1.2.1 X.1.2.2.1 X.1.2.2.2.1
def l189_4 : LEnt := ⟨d189_4, fun X K => iterL (t189_4 X K) fuel X.1.2.2.2.2.1⟩
def L189 : Lam := (Lam.nil).add 4 l189_4
theorem k189_4 : LOk E g189 n189 L189 (loopBody Tryz.f189 0) :=
  lok l189_4 (by kernel_rfl) fuel fun R X K => (loop_iter (σ := Int) (fun x => SD.enc d189_4 ((X.1.1, (X.1.2.1, (X.1.2.2.1, (X.1.2.2.2.1, (x, ()))))), (), ())) (t189_4 X K) (fun m x => by kernel_rfl) fuel X.1.2.2.2.2.1).symm
theorem o189 : FnOk Tryz.prog 189 e189 := fk n189 (((base).add o79).add o232) Tryz.func189 (Λ := L189) (cF k189_4 nF)
def e133 : GEnt := entOf [.data true TSteering, .data false (.int .i64)] [(false, .bool)] fun a => Pu.impl_SteeringOk a.1 a.2.1
def g133 : Gam := (((Gam.nil).add 187 e187).add 188 e188).add 189 e189
def n133 : An := { mask := fun | 4 => [1, 2, 4, 27, 28, 29] | 10 => [1, 4, 45, 46, 47] | _ => [], merge := fun | 1 => some 25 | 6 => some 41 | 12 => some 59 | _ => none }
@[reducible] def d133_4 : SD := ⟨[B,DI,.ptr 2 0,B,DB,B,B,B,B,B,B,B,B,B,B,B,B,B,B,B,B,B,B,B,B,B,B,.data false (.sl .arg TRule),DI,DI,B,B,B,B,B,B,B,B,B,B,B,B,B,B,B,B,B,B,B,B,B,B,B,B,B,B,B,B,B,B,B], [Z,Z,some (.pair (.sl .arg TRule) (.pair (.sl .arg TSlot) (.pair .str (.sl .arg (.int .i64))))),Z,Z,Z,Z,Z,Z,Z,Z,Z,Z,Z,Z,Z,Z,Z,Z,Z,Z,Z,Z,Z,Z,Z,Z,Z,Z,Z,Z,Z,Z,Z,Z,Z,Z,Z,Z,Z,Z,Z,Z,Z,Z,Z,Z,Z,Z,Z,Z,Z,Z,Z,Z,Z,Z,Z,Z,Z,Z], .none⟩
def t133_4 {R : Type} (X : SD.D d133_4) (K : Ex → AS → Option R) := Pu.impl_SteeringOk_T4 (fun y0 => K (.exit 0) (SD.enc d133_4 ((X.1.1, (X.1.2.1, (X.1.2.2.1, (X.1.2.2.2.1, (y0, ()))))), (X.2.1.1, ()), ()))) (fun y0 y1 => K .ret (SD.enc d133_4 ((X.1.1, (y0, (X.1.2.2.1, (X.1.2.2.2.1, (y1, ()))))), (X.2.1.1, ()), ()))) X.1.1 X.1.2.1 X.1.2.2.1 X.1.2.2.2.1 X.2.1.1
def l133_4 : LEnt := ⟨d133_4, fun X K => iterL (t133_4 X K) fuel X.1.2.2.2.2.1⟩
@[reducible] def d133_10 : SD := ⟨[B,DI,B,B,DB,B,B,B,B,B,B,B,B,B,B,B,B,B,B,B,B,B,B,B,B,B,B,B,B,B,B,B,B,B,B,B,B,B,B,B,B,B,B,B,B,.data false (.sl .arg TSlot),DI,DI,B,B,B,B,B,B,B,B,B,B,B,B,B], [Z,Z,Z,Z,Z,Z,Z,Z,Z,Z,Z,Z,Z,Z,Z,Z,Z,Z,Z,Z,Z,Z,Z,Z,Z,Z,Z,Z,Z,Z,Z,Z,Z,Z,Z,Z,Z,Z,Z,Z,Z,Z,Z,Z,Z,Z,Z,Z,Z,Z,Z,Z,Z,Z,Z,Z,Z,Z,Z,Z,Z], .none⟩
def t133_10 {R : Type} (X : SD.D d133_10) (K : Ex → AS → Option R) := Pu.impl_SteeringOk_T10 (fun y0 => K (.exit 2) (SD.enc d133_10 ((X.1.1, (X.1.2.1, (X.1.2.2.1, (X.1.2.2.2.1, (y0, ()))))), (), ()))) (fun y0 y1 => K .ret (SD.enc d133_10 ((X.1.1, (y0, (X.1.2.2.1, (X.1.2.2.2.1, (y1, ()))))), (), ()))) X.1.1 X.1.2.1 X.1.2.2.1 X.1.2.2.2.1
def l133_10 : LEnt := ⟨d133_10, fun X K => iterL (t133_10 X K) fuel X.1.2.2.2.2.1⟩
def L133 : Lam := ((Lam.nil).add 4 l133_4).add 10 l133_10
theorem k133_4 : LOk E g133 n133 L133 (loopBody Tryz.f133 0) :=
  lok l133_4 (by kernel_rfl) fuel fun R X K => (loop_iter (σ := Int) (fun x => SD.enc d133_4 ((X.1.1, (X.1.2.1, (X.1.2.2.1, (X.1.2.2.2.1, (x, ()))))), (X.2.1.1, ()), ())) (t133_4 X K) (fun m x => by kernel_rfl) fuel X.1.2.2.2.2.1).symm
theorem k133_10 : LOk E g133 n133 L133 (loopBody Tryz.f133 1) :=
  lok l133_10 (by kernel_rfl) fuel fun R X K => (loop_iter (σ := Int) (fun x => SD.enc d133_10 ((X.1.1, (X.1.2.1, (X.1.2.2.1, (X.1.2.2.2.1, (x, ()))))), (), ())) (t133_10 X K) (fun m x => by kernel_rfl) fuel X.1.2.2.2.2.1).symm
theorem o133 : FnOk Tryz.prog 133 e133 := fk n133 ((((base).add o187).add o188).add o189) Tryz.func133 (Λ := L133) (cF k133_4 (cF k133_10 nF))
def e74 : GEnt := entOf [.data true TSoft] [(false, .bool)] fun a => Pu.impl_SoftOk a.1
theorem o74 : FnOk Tryz.prog 74 e74 := fk { merge := fun | 1 => some 2 | _ => none } (((base).add o132).add o133) Tryz.func74 (Λ := Lam.nil) nF
def e134 : GEnt := entOf [.data false (.sl (.int .i64)), .data false (.sl (.int .i64))] [(false, .bool)] fun a => Pu.slices_Equal_int a.1 a.2.1
def g134 : Gam := Gam.nil
def n134 : An := { mask := fun | 4 => [0, 1, 4, 12, 13] | _ => [] }
@[reducible] def d134_4 : SD := ⟨[.data false (.sl .arg (.int .i64)),.data false (.sl .arg (.int .i64)),B,B,DB,B,B,B,B,B,B,B,DI,DI,B,B,B,B,B,B,B,B,B,B,B,B], [Z,Z,Z,Z,Z,Z,Z,Z,Z,Z,Z,Z,Z,Z,Z,Z,Z,Z,Z,Z,Z,Z,Z,Z,Z,Z], .none⟩
def t134_4 {R : Type} (X : SD.D d134_4) (K : Ex → AS → Option R) := Pu.slices_Equal_int_T4 (fun y0 => K (.exit 0) (SD.enc d134_4 ((X.1.1, (X.1.2.1, (X.1.2.2.1, (X.1.2.2.2.1, (y0, ()))))), (), ()))) (fun y0 y1 => K .ret (SD.enc d134_4 ((X.1.1, (X.1.2.1, (y0, (X.1.2.2.2.1, (y1, ()))))), (), ()))) X.1.1 X.1.2.1 X.1.2.2.1 X.1.2.2.2.1
def l134_4 : LEnt := ⟨d134_4, fun X K => iterL (t134_4 X K) fuel X.1.2.2.2.2.1⟩
def L134 : Lam := (Lam.nil).add 4 l134_4
theorem k134_4 : LOk E g134 n134 L134 (loopBody Tryz.f134 0) :=
  lok l134_4 (by kernel_rfl) fuel fun R X K => (loop_iter (σ := Int) (fun x => SD.enc d134_4 ((X.1.1, (X.1.2.1, (X.1.2.2.1, (X.1.2.2.2.1, (x, ()))))), (), ())) (t134_4 X K) (fun m x => by kernel_rfl) fuel X.1.2.2.2.2.1).symm
theorem o134 : FnOk Tryz.prog 134 e134 := fk n134 (base) Tryz.func134 (Λ := L134) (cF k134_4 nF)
def e75 : GEnt := entOf [.data true TFilter, .data true TFilter] [(false, .bool)] fun a => Pu.impl_sameFilter a.1 a.2.1
theorem o75 : FnOk Tryz.prog 75 e75 := fk { merge := fun | 1 => some 4 | _ => none } ((base).add o134) Tryz.func75 (Λ := Lam.nil) nF
def e135 : GEnt := entOf [.data true TBucket] [(false, .bool)] fun a => Pu.impl_BucketOk a.1
theorem o135 : FnOk Tryz.prog 135 e135 := fk { merge := fun | 1 => some 2 | _ => none } ((base).add o79) Tryz.func135 (Λ := Lam.nil) nF
def e76 : GEnt := entOf [.data false (.sl TVirtualFunction), .data false (.sl TPort)] [(false, .bool)] fun a => Pu.impl_FunctionsOk a.1 a.2.1
def g76 : Gam := (((Gam.nil).add 79 e79).add 83 e83).add 135 e135
def n76 : An := { mask := fun | 4 => [0, 1, 4, 12, 13, 14] | 9 => [0, 1, 4, 6, 12, 13, 14, 52, 53, 54] | _ => [], merge := fun | 6 => some 49 | 11 => some 69 | _ => none }
@[reducible] def d76_9 : SD := ⟨[.data false (.sl .arg TVirtualFunction),.data false (.sl .arg TPort),B,B,DB,B,.ptr 6 0,B,B,B,B,B,.data false (.sl .arg TVirtualFunction),DI,DI,B,B,B,B,B,B,B,B,B,B,B,B,B,B,B,B,B,B,B,B,B,B,B,B,B,B,B,B,B,B,B,B,B,B,B,B,B,.data false (.sl .arg TVirtualFunction),DI,DI,B,B,B,B,B,B,B,B,B,B,B,B,B,B,B,B,B], [Z,Z,Z,Z,Z,Z,some (.pair (.int .i64) (.pair (.int .i64) (.pair (.pair (.int .i64) (.pair (.int .i64) (.int .i64))) (.pair .bool (.pair (.int .i64) (.int .i64)))))),Z,Z,Z,Z,Z,Z,Z,Z,Z,Z,Z,Z,Z,Z,Z,Z,Z,Z,Z,Z,Z,Z,Z,Z,Z,Z,Z,Z,Z,Z,Z,Z,Z,Z,Z,Z,Z,Z,Z,Z,Z,Z,Z,Z,Z,Z,Z,Z,Z,Z,Z,Z,Z,Z,Z,Z,Z,Z,Z,Z,Z,Z,Z,Z,Z], .none⟩
def t76_9 {R : Type} (X : SD.D d76_9) (K : Ex → AS → Option R) := Pu.impl_FunctionsOk_T9 (fun y0 => K (.exit 2) (SD.enc d76_9 ((X.1.1, (X.1.2.1, (X.1.2.2.1, (X.1.2.2.2.1, (X.1.2.2.2.2.1, (X.1.2.2.2.2.2.1, (X.1.2.2.2.2.2.2.1, (X.1.2.2.2.2.2.2.2.1, (y0, ()))))))))), (X.2.1.1, ()), ()))) (fun y0 y1 => K .ret (SD.enc d76_9 ((X.1.1, (X.1.2.1, (y0, (X.1.2.2.2.1, (X.1.2.2.2.2.1, (X.1.2.2.2.2.2.1, (X.1.2.2.2.2.2.2.1, (X.1.2.2.2.2.2.2.2.1, (y1, ()))))))))), (X.2.1.1, ()), ()))) X.1.1 X.1.2.1 X.1.2.2.1 X.1.2.2.2.1 X.1.2.2.2.2.1 X.1.2.2.2.2.2.1 X.1.2.2.2.2.2.2.1 X.1.2.2.2.2.2.2.2.1 X.2.1.1
def l76_9 : LEnt := ⟨d76_9, fun X K => iterL (t76_9 X K) fuel X.1.2.2.2.2.2.2.2.2.1⟩
@[reducible] def d76_4 : SD := ⟨[.data false (.sl .arg TVirtualFunction),.data false (.sl .arg TPort),B,B,DB,B,B,B,B,B,B,B,.data false (.sl .arg TVirtualFunction),DI,DI,B,B,B,B,B,B,B,B,B,B,B,B,B,B,B,B,B,B,B,B,B,B,B,B,B,B,B,B,B,B,B,B,B,B,B,B,B,B,B,B,B,B,B,B,B,B,B,B,B,B,B,B,B,B,B,B,B], [Z,Z,Z,Z,Z,Z,Z,Z,Z,Z,Z,Z,Z,Z,Z,Z,Z,Z,Z,Z,Z,Z,Z,Z,Z,Z,Z,Z,Z,Z,Z,Z,Z,Z,Z,Z,Z,Z,Z,Z,Z,Z,Z,Z,Z,Z,Z,Z,Z,Z,Z,Z,Z,Z,Z,Z,Z,Z,Z,Z,Z,Z,Z,Z,Z,Z,Z,Z,Z,Z,Z,Z], .none⟩
def t76_4 {R : Type} (X : SD.D d76_4) (K : Ex → AS → Option R) := Pu.impl_FunctionsOk_T4 (fun y0 => K (.exit 0) (SD.enc d76_4 ((X.1.1, (X.1.2.1, (X.1.2.2.1, (X.1.2.2.2.1, (X.1.2.2.2.2.1, (y0, ())))))), (), ()))) (fun y0 y1 => K .ret (SD.enc d76_4 ((X.1.1, (X.1.2.1, (y0, (X.1.2.2.2.1, (X.1.2.2.2.2.1, (y1, ())))))), (), ()))) X.1.1 X.1.2.1 X.1.2.2.1 X.1.2.2.2.1 X.1.2.2.2.2.1
def l76_4 : LEnt := ⟨d76_4, fun X K => iterL (t76_4 X K) fuel X.1.2.2.2.2.2.1⟩
def L76 : Lam := ((Lam.nil).add 9 l76_9).add 4 l76_4
theorem k76_9 : LOk E g76 n76 L76 (loopBody Tryz.f76 1) :=
  lok l76_9 (by kernel_rfl) fuel fun R X K => (loop_iter (σ := Int) (fun x => SD.enc d76_9 ((X.1.1, (X.1.2.1, (X.1.2.2.1, (X.1.2.2.2.1, (X.1.2.2.2.2.1, (X.1.2.2.2.2.2.1, (X.1.2.2.2.2.2.2.1, (X.1.2.2.2.2.2.2.2.1, (x, ()))))))))), (X.2.1.1, ()), ())) (t76_9 X K) (fun m x => by kernel_rfl) fuel X.1.2.2.2.2.2.2.2.2.1).symm
theorem k76_4 : LOk E g76 n76 L76 (loopBody Tryz.f76 0) :=
  lok l76_4 (by kernel_rfl) fuel fun R X K => (loop_iter (σ := Int) (fun x => SD.enc d76_4 ((X.1.1, (X.1.2.1, (X.1.2.2.1, (X.1.2.2.2.1, (X.1.2.2.2.2.1, (x, ())))))), (), ())) (t76_4 X K) (fun m x => by kernel_rfl) fuel X.1.2.2.2.2.2.1).symm
theorem o76 : FnOk Tryz.prog 76 e76 := fk n76 ((((base).add o79).add o83).add o135) Tryz.func76 (Λ := L76) (cF k76_4 (cF k76_9 nF))
def e77 : GEnt := entOf [.data false (.sl TVirtualFunction)] [(false, .bool)] fun a => Pu.impl_ownPlaces a.1
def g77 : Gam := Gam.nil
def n77 : An := { mask := fun | 2 => [2, 5, 6, 7] | _ => [], merge := fun | 4 => some 22 | _ => none }
@[reducible] def d77_2 : SD := ⟨[B,B,DB,B,B,.data false (.sl .arg TVirtualFunction),DI,DI,B,B,B,B,B,B,B,B,B,B,B,B,B,B,B,B], [Z,Z,Z,Z,Z,Z,Z,Z,Z,Z,Z,Z,Z,Z,Z,Z,Z,Z,Z,Z,Z,Z,Z,Z], .none⟩
def t77_2 {R : Type} (X : SD.D d77_2) (K : Ex → AS → Option R) := Pu.impl_ownPlaces_T2 (fun y0 => K (.exit 0) (SD.enc d77_2 ((X.1.1, (X.1.2.1, (X.1.2.2.1, (y0, ())))), (), ()))) (fun y0 y1 => K .ret (SD.enc d77_2 ((y0, (X.1.2.1, (X.1.2.2.1, (y1, ())))), (), ()))) X.1.1 X.1.2.1 X.1.2.2.1
def l77_2 : LEnt := ⟨d77_2, fun X K => iterL (t77_2 X K) fuel X.1.2.2.2.1⟩
def L77 : Lam := (Lam.nil).add 2 l77_2
theorem k77_2 : LOk E g77 n77 L77 (loopBody Tryz.f77 0) :=
  lok l77_2 (by kernel_rfl) fuel fun R X K => (loop_iter (σ := Int) (fun x => SD.enc d77_2 ((X.1.1, (X.1.2.1, (X.1.2.2.1, (x, ())))), (), ())) (t77_2 X K) (fun m x => by kernel_rfl) fuel X.1.2.2.2.1).symm
theorem o77 : FnOk Tryz.prog 77 e77 := fk n77 (base) Tryz.func77 (Λ := L77) (cF k77_2 nF)
def e30 : GEnt := entOf [.data true TIdeal] [(false, .bool)] fun a => Pu.impl_IdealOk a.1
def g30 : Gam := (((((Gam.nil).add 32 e32).add 74 e74).add 75 e75).add 76 e76).add 77 e77
def n30 : An := { mask := fun | 6 => [1, 2, 3, 41, 42, 43] | _ => [], merge := fun | 3 => some 39 | 8 => some 62 | 11 => some 2 | _ => none }
@[reducible] def d30_6 : SD := ⟨[B,.ptr 1 0,DB,.data false (.sl .loc TPort),B,B,B,B,B,B,B,B,B,B,B,B,B,B,B,B,B,B,B,B,B,B,B,B,B,B,B,B,B,B,B,B,B,B,B,B,B,.data false (.sl .arg TSoft),DI,DI,B,B,B,B,B,B,B,B,B,B,B,B,B,B,B,B,B,B,B,B,B,B,B,B,B,B,B,B,B], [Z,some (.pair (.sl .arg TSoft) (.pair (.sl .arg (.sl .str)) (.pair (.sl .arg TVirtualFunction) (.pair (.sl .arg TMailbox) (.sl .arg .str))))),Z,Z,Z,Z,Z,Z,Z,Z,Z,Z,Z,Z,Z,Z,Z,Z,Z,Z,Z,Z,Z,Z,Z,Z,Z,Z,Z,Z,Z,Z,Z,Z,Z,Z,Z,Z,Z,Z,Z,Z,Z,Z,Z,Z,Z,Z,Z,Z,Z,Z,Z,Z,Z,Z,Z,Z,Z,Z,Z,Z,Z,Z,Z,Z,Z,Z,Z,Z,Z,Z,Z], .none⟩
def t30_6 {R : Type} (X : SD.D d30_6) (K : Ex → AS → Option R) := Pu.impl_IdealOk_T6 (fun y0 => K (.exit 0) (SD.enc d30_6 ((X.1.1, (X.1.2.1, (X.1.2.2.1, (X.1.2.2.2.1, (y0, ()))))), (X.2.1.1, ()), ()))) (fun y0 y1 => K .ret (SD.enc d30_6 ((y0, (X.1.2.1, (X.1.2.2.1, (X.1.2.2.2.1, (y1, ()))))), (X.2.1.1, ()), ()))) X.1.1 X.1.2.1 X.1.2.2.1 X.1.2.2.2.1 X.2.1.1
def l30_6 : LEnt := ⟨d30_6, fun X K => iterL (t30_6 X K) fuel X.1.2.2.2.2.1⟩
def L30 : Lam := (Lam.nil).add 6 l30_6
theorem k30_6 : LOk E g30 n30 L30 (loopBody Tryz.f30 0) :=
  lok l30_6 (by kernel_rfl) fuel fun R X K => (loop_iter (σ := Int) (fun x => SD.enc d30_6 ((X.1.1, (X.1.2.1, (X.1.2.2.1, (X.1.2.2.2.1, (x, ()))))), (X.2.1.1, ()), ())) (t30_6 X K) (fun m x => by kernel_rfl) fuel X.1.2.2.2.2.1).symm
theorem o30 : FnOk Tryz.prog 30 e30 := fk n30 ((((((base).add o32).add o74).add o75).add o76).add o77) Tryz.func30 (Λ := L30) (cF k30_6 nF)
def e136 : GEnt := entOf [.data true TSegment] [(false, .bool)] fun a => Pu.impl_SegmentOk a.1
theorem o136 : FnOk Tryz.prog 136 e136 := fk { merge := fun | 1 => some 18 | 5 => some 2 | 7 => some 2 | _ => none } ((base).add o79) Tryz.func136 (Λ := Lam.nil) nF
def e137 : GEnt := entOf [.data false (.int .i64)] [(false, .bool)] fun a => Pu.impl_streaming a.1
theorem o137 : FnOk Tryz.prog 137 e137 := fk { merge := fun | 1 => some 2 | _ => none } (base) Tryz.func137 (Λ := Lam.nil) nF
def e78 : GEnt := entOf [.data true TPacket] [(false, .bool)] fun a => Pu.impl_SuperOk a.1
theorem o78 : FnOk Tryz.prog 78 e78 := fk { merge := fun | 1 => some 2 | _ => none } ((((base).add o79).add o136).add o137) Tryz.func78 (Λ := Lam.nil) nF
def e31 : GEnt := entOf [.data true TPacket] [(false, .bool)] fun a => Pu.impl_PacketOk a.1
theorem o31 : FnOk Tryz.prog 31 e31 := fk { merge := fun | 1 => some 2 | _ => none } ((base).add o78) Tryz.func31 (Λ := Lam.nil) nF
def e33 : GEnt := entOf [.data false (.sl TPort), .data false (.int .i64), .data true TPacket] [(false, (.int .i64))] fun a => Pu.impl_EntryVlan a.1 a.2.1 a.2.2.1
theorem o33 : FnOk Tryz.prog 33 e33 := fk { merge := fun | 1 => some 24 | 7 => some 54 | _ => none } (((((base).add o78).add o79).add o81).add o83) Tryz.func33 (Λ := Lam.nil) nF
def e34 : GEnt := entOf [.data false (.sl TPort), .data false (.int .i64), .data true TPacket] [(false, (.sl (.own none) (.int .i64)))] fun a => Pu.impl_SwitchPacket a.1 a.2.1 a.2.2.1
def g34 : Gam := (((Gam.nil).add 33 e33).add 81 e81).add 84 e84
def n34 : An := { mask := fun | 11 => [0, 1, 7, 8, 33, 34] | 17 => [0, 1, 7, 11, 43, 44, 45] | _ => [], merge := fun | 19 => some 60 | _ => none, mv := [37, 61, 66] }
@[reducible] def d34_17 : SD := ⟨[.data false (.sl .arg TPort),DI,B,B,B,B,B,DI,B,B,B,.data false (.sl (.own (some 135168)) (.int .i64)),B,B,B,B,B,B,B,B,B,B,B,B,B,B,B,B,B,B,B,B,B,B,B,B,B,B,B,B,B,B,B,.data false (.sl .loc (.int .i64)),DI,DI,B,B,B,B,B,B,B,B,B,B,B,B,B,B,B,B,B,B,B,B,B], [Z,Z,Z,Z,Z,Z,Z,Z,Z,Z,Z,Z,Z,Z,Z,Z,Z,Z,Z,Z,Z,Z,Z,Z,Z,Z,Z,Z,Z,Z,Z,Z,Z,Z,Z,Z,Z,Z,Z,Z,Z,Z,Z,Z,Z,Z,Z,Z,Z,Z,Z,Z,Z,Z,Z,Z,Z,Z,Z,Z,Z,Z,Z,Z,Z,Z,Z], .none⟩
def t34_17 {R : Type} (X : SD.D d34_17) (K : Ex → AS → Option R) := Pu.impl_SwitchPacket_T17 (fun y0 y1 => K (.exit 2) (SD.enc d34_17 ((X.1.1, (X.1.2.1, (X.1.2.2.1, (y0, (X.1.2.2.2.2.1, (X.1.2.2.2.2.2.1, (y1, ()))))))), (), ()))) X.1.1 X.1.2.1 X.1.2.2.1 X.1.2.2.2.2.1 X.1.2.2.2.2.2.1
def l34_17 : LEnt := ⟨d34_17, fun X K => iterL (t34_17 X K) fuel (X.1.2.2.2.1, X.1.2.2.2.2.2.2.1)⟩
@[reducible] def d34_11 : SD := ⟨[.data false (.sl .arg TPort),DI,B,B,B,B,B,DI,.data false (.sl (.own (some 98304)) (.int .i64)),B,B,B,B,B,B,B,B,B,B,B,B,B,B,B,B,B,B,B,B,B,B,B,B,DI,DI,B,B,B,B,B,B,B,B,B,B,B,B,B,B,B,B,B,B,B,B,B,B,B,B,B,B,B,B,B,B,B,B], [Z,Z,Z,Z,Z,Z,Z,Z,Z,Z,Z,Z,Z,Z,Z,Z,Z,Z,Z,Z,Z,Z,Z,Z,Z,Z,Z,Z,Z,Z,Z,Z,Z,Z,Z,Z,Z,Z,Z,Z,Z,Z,Z,Z,Z,Z,Z,Z,Z,Z,Z,Z,Z,Z,Z,Z,Z,Z,Z,Z,Z,Z,Z,Z,Z,Z,Z], .none⟩
def t34_11 {R : Type} (X : SD.D d34_11) (K : Ex → AS → Option R) := Pu.impl_SwitchPacket_T11 (fun y0 y1 => K (.exit 0) (SD.enc d34_11 ((X.1.1, (X.1.2.1, (X.1.2.2.1, (y0, (X.1.2.2.2.2.1, (y1, ())))))), (), ()))) X.1.1 X.1.2.1 X.1.2.2.1 X.1.2.2.2.2.1
def l34_11 : LEnt := ⟨d34_11, fun X K => iterL (t34_11 X K) fuel (X.1.2.2.2.1, X.1.2.2.2.2.2.1)⟩
def L34 : Lam := ((Lam.nil).add 17 l34_17).add 11 l34_11
theorem k34_17 : LOk E g34 n34 L34 (loopBody Tryz.f34 1) :=
  lok l34_17 (by kernel_rfl) fuel fun R X K => (loop_iter (σ := (List Int) × Int) (fun x => SD.enc d34_17 ((X.1.1, (X.1.2.1, (X.1.2.2.1, (x.1, (X.1.2.2.2.2.1, (X.1.2.2.2.2.2.1, (x.2, ()))))))), (), ())) (t34_17 X K) (fun m x => by kernel_rfl) fuel (X.1.2.2.2.1, X.1.2.2.2.2.2.2.1)).symm
theorem k34_11 : LOk E g34 n34 L34 (loopBody Tryz.f34 0) :=
  lok l34_11 (by kernel_rfl) fuel fun R X K => (loop_iter (σ := (List Int) × Int) (fun x => SD.enc d34_11 ((X.1.1, (X.1.2.1, (X.1.2.2.1, (x.1, (X.1.2.2.2.2.1, (x.2, ())))))), (), ())) (t34_11 X K) (fun m x => by kernel_rfl) fuel (X.1.2.2.2.1, X.1.2.2.2.2.2.1)).symm
theorem o34 : FnOk Tryz.prog 34 e34 := fk n34 ((((base).add o33).add o81).add o84) Tryz.func34 (Λ := L34) (cF k34_11 (cF k34_17 nF))
def e151 : GEnt := entOf [.data false (.int .i64)] [(false, .str)] fun a => Pu.impl_Word16 a.1
theorem o151 : FnOk Tryz.prog 151 e151 := fk {} ((base).add o79) Tryz.func151 (Λ := Lam.nil) nF
def e233 : GEnt := entOf [.data false (.int .i64)] [(false, .str)] fun a => Pu.impl_Word32 a.1
theorem o233 : FnOk Tryz.prog 233 e233 := fk {} ((base).add o79) Tryz.func233 (Λ := Lam.nil) nF
def e190 : GEnt := entOf [.data true TSegment] [(false, .str)] fun a => Pu.impl_bareSegment a.1
theorem o190 : FnOk Tryz.prog 190 e190 := fk {} (((base).add o151).add o233) Tryz.func190 (Λ := Lam.nil) nF
def e191 : GEnt := entOf [.data false (.int .i64), .data false (.int .i64), .data false (.int .i64), .data false (.int .i64)] [(false, .str), (false, .bool)] fun a => Pu.impl_PseudoHeader a.1 a.2.1 a.2.2.1 a.2.2.2.1
theorem o191 : FnOk Tryz.prog 191 e191 := fk { merge := fun | 1 => some 27 | _ => none } ((((base).add o79).add o151).add o233) Tryz.func191 (Λ := Lam.nil) nF
def e253 : GEnt := entOf [.data false (.int .i64), .data false (.int .i64)] [(false, (.int .i64))] fun a => Pu.impl_AddSums a.1 a.2.1
theorem o253 : FnOk Tryz.prog 253 e253 := fk { merge := fun | 1 => some 12 | _ => none } ((base).add o79) Tryz.func253 (Λ := Lam.nil) nF
def e234 : GEnt := entOf [.data false .str] [(false, (.int .i64))] fun a => Pu.impl_SumWords a.1
def g234 : Gam := (Gam.nil).add 253 e253
def n234 : An := { mask := fun | 3 => [0, 3, 4] | _ => [] }
@[reducible] def d234_3 : SD := ⟨[.data false .str,B,B,DI,DI,B,B,B,B,B,B,B,B,B,B,B,B,B,B,B,B,B,B,B,B,B,B,B,B,B,B,B,B], [Z,Z,Z,Z,Z,Z,Z,Z,Z,Z,Z,Z,Z,Z,Z,Z,Z,Z,Z,Z,Z,Z,Z,Z,Z,Z,Z,Z,Z,Z,Z,Z,Z], .none⟩
def t234_3 {R : Type} (X : SD.D d234_3) (K : Ex → AS → Option R) := Pu.impl_SumWords_T3 (fun y0 y1 => K (.exit 0) (SD.enc d234_3 ((X.1.1, (y0, (y1, ()))), (), ()))) X.1.1
def l234_3 : LEnt := ⟨d234_3, fun X K => iterL (t234_3 X K) fuel (X.1.2.1, X.1.2.2.1)⟩
def L234 : Lam := (Lam.nil).add 3 l234_3
theorem k234_3 : LOk E g234 n234 L234 (loopBody Tryz.f234 0) :=
  lok l234_3 (by kernel_rfl) fuel fun R X K => (loop_iter (σ := Int × Int) (fun x => SD.enc d234_3 ((X.1.1, (x.1, (x.2, ()))), (), ())) (t234_3 X K) (fun m x => by kernel_rfl) fuel (X.1.2.1, X.1.2.2.1)).symm
theorem o234 : FnOk Tryz.prog 234 e234 := fk n234 ((base).add o253) Tryz.func234 (Λ := L234) (cF k234_3 nF)
def e192 : GEnt := entOf [.data false .str] [(false, (.int .i64))] fun a => Pu.impl_Checksum a.1
theorem o192 : FnOk Tryz.prog 192 e192 := fk {} ((base).add o234) Tryz.func192 (Λ := Lam.nil) nF
def e193 : GEnt := entOf [.data false .str, .data false (.int .i64), .data false .str] [(false, .str)] fun a => Pu.impl_PutBytes a.1 a.2.1 a.2.2.1
theorem o193 : FnOk Tryz.prog 193 e193 := fk { merge := fun | 1 => some 17 | _ => none } (base) Tryz.func193 (Λ := Lam.nil) nF
def e194 : GEnt := entOf [.data false (.int .i64)] [(false, (.int .i64))] fun a => Pu.impl_sumPlace a.1
theorem o194 : FnOk Tryz.prog 194 e194 := fk {} (base) Tryz.func194 (Λ := Lam.nil) nF
def e139 : GEnt := entOf [.data false (.int .i64), .data false (.int .i64), .data true TSegment] [(false, .str), (false, .bool)] fun a => Pu.impl_BuildSegment a.1 a.2.1 a.2.2.1
theorem o139 : FnOk Tryz.prog 139 e139 := fk { merge := fun | 8 => some 39 | _ => none } ((((((((base).add o136).add o151).add o190).add o191).add o192).add o193).add o194) Tryz.func139 (Λ := Lam.nil) nF
def e235 : GEnt := entOf [.data true TIp] [(false, .bool)] fun a => Pu.impl_IpOk a.1
theorem o235 : FnOk Tryz.prog 235 e235 := fk { merge := fun | 1 => some 2 | _ => none } ((base).add o79) Tryz.func235 (Λ := Lam.nil) nF
def e195 : GEnt := entOf [.data true TIp] [(false, .str), (false, .bool)] fun a => Pu.impl_IpHeader a.1
theorem o195 : FnOk Tryz.prog 195 e195 := fk {} ((((((base).add o151).add o192).add o193).add o233).add o235) Tryz.func195 (Λ := Lam.nil) nF
def e140 : GEnt := entOf [.data true TIp] [(false, .str), (false, .bool)] fun a => Pu.impl_BuildIp a.1
theorem o140 : FnOk Tryz.prog 140 e140 := fk {} ((base).add o195) Tryz.func140 (Λ := Lam.nil) nF
def e196 : GEnt := entOf [.data true TEth] [(false, .bool)] fun a => Pu.impl_EthOk a.1
theorem o196 : FnOk Tryz.prog 196 e196 := fk { merge := fun | 1 => some 2 | _ => none } ((base).add o79) Tryz.func196 (Λ := Lam.nil) nF
def e197 : GEnt := entOf [.data false (.int .i64)] [(false, .str)] fun a => Pu.impl_macBytes a.1
theorem o197 : FnOk Tryz.prog 197 e197 := fk {} (((base).add o151).add o233) Tryz.func197 (Λ := Lam.nil) nF
def e141 : GEnt := entOf [.data true TEth] [(false, .str), (false, .bool)] fun a => Pu.impl_BuildEth a.1
theorem o141 : FnOk Tryz.prog 141 e141 := fk {} ((((base).add o151).add o196).add o197) Tryz.func141 (Λ := Lam.nil) nF
def e198 : GEnt := entOf [.data false (.int .u8), .data false (.int .i64)] [(false, .str)] fun a => Pu.impl_repeat a.1 a.2.1
def g198 : Gam := Gam.nil
def n198 : An := { mask := fun | 3 => [0, 5, 10, 11] | _ => [] }
@[reducible] def d198_3 : SD := ⟨[.data false (.int .u8),B,B,B,B,.data false (.sl (.own (some 61440)) (.int .u8)),B,B,B,B,DI,DI,B,B,B,B,B,B,B,B,B], [Z,Z,Z,Z,Z,Z,Z,Z,Z,Z,Z,Z,Z,Z,Z,Z,Z,Z,Z,Z,Z], .none⟩
def t198_3 {R : Type} (X : SD.D d198_3) (K : Ex → AS → Option R) := Pu.impl_repeat_T3 (fun y0 y1 => K (.exit 0) (SD.enc d198_3 ((X.1.1, (y0, (X.1.2.2.1, (y1, ())))), (), ()))) X.1.1 X.1.2.2.1
def l198_3 : LEnt := ⟨d198_3, fun X K => iterL (t198_3 X K) fuel (X.1.2.1, X.1.2.2.2.1)⟩
def L198 : Lam := (Lam.nil).add 3 l198_3
theorem k198_3 : LOk E g198 n198 L198 (loopBody Tryz.f198 0) :=
  lok l198_3 (by kernel_rfl) fuel fun R X K => (loop_iter (σ := (List Int) × Int) (fun x => SD.enc d198_3 ((X.1.1, (x.1, (X.1.2.2.1, (x.2, ())))), (), ())) (t198_3 X K) (fun m x => by kernel_rfl) fuel (X.1.2.1, X.1.2.2.2.1)).symm
theorem o198 : FnOk Tryz.prog 198 e198 := fk n198 (base) Tryz.func198 (Λ := L198) (cF k198_3 nF)
def e142 : GEnt := entOf [.data false .str] [(false, .str)] fun a => Pu.impl_PadBody a.1
theorem o142 : FnOk Tryz.prog 142 e142 := fk {} ((base).add o198) Tryz.func142 (Λ := Lam.nil) nF
def e85 : GEnt := entOf [.data true TPacket] [(false, .str), (false, .bool)] fun a => Pu.impl_BuildImage a.1
theorem o85 : FnOk Tryz.prog 85 e85 := fk {} ((((((base).add o78).add o139).add o140).add o141).add o142) Tryz.func85 (Λ := Lam.nil) nF
def e143 : GEnt := entOf [.data false .str] [(false, (.int .i64))] fun a => Pu.impl_Crc32 a.1
def g143 : Gam := Gam.nil
def n143 : An := { mask := fun | 3 => [0, 3, 4] | 7 => [0, 3, 4, 5] | _ => [] }
@[reducible] def d143_7 : SD := ⟨[.data false .str,B,B,.data false (.int .u32),DI,DI,B,B,B,B,B,B,B,B,B,B,B,B,B,B,B,B,B,B,B,B,B,B,B,B,B,B,B,B], [Z,Z,Z,Z,Z,Z,Z,Z,Z,Z,Z,Z,Z,Z,Z,Z,Z,Z,Z,Z,Z,Z,Z,Z,Z,Z,Z,Z,Z,Z,Z,Z,Z,Z], .none⟩
def t143_7 {R : Type} (X : SD.D d143_7) (K : Ex → AS → Option R) := Pu.impl_Crc32_T7 (fun y0 y1 => K (.exit 2) (SD.enc d143_7 ((X.1.1, (y0, (X.1.2.2.1, (y1, ())))), (), ()))) X.1.1 X.1.2.2.1
def l143_7 : LEnt := ⟨d143_7, fun X K => iterL (t143_7 X K) fuel (X.1.2.1, X.1.2.2.2.1)⟩
@[reducible] def d143_3 : SD := ⟨[.data false .str,B,B,.data false (.int .u32),DI,B,B,B,B,B,B,B,B,B,B,B,B,B,B,B,B,B,B,B,B,B,B,B,B,B,B,B,B,B], [Z,Z,Z,Z,Z,Z,Z,Z,Z,Z,Z,Z,Z,Z,Z,Z,Z,Z,Z,Z,Z,Z,Z,Z,Z,Z,Z,Z,Z,Z,Z,Z,Z,Z], .none⟩
def t143_3 {R : Type} (X : SD.D d143_3) (K : Ex → AS → Option R) := Pu.impl_Crc32_T3 (fun y0 y1 => K (.exit 0) (SD.enc d143_3 ((X.1.1, (y0, (y1, ()))), (), ()))) X.1.1
def l143_3 : LEnt := ⟨d143_3, fun X K => iterL (t143_3 X K) fuel (X.1.2.1, X.1.2.2.1)⟩
def L143 : Lam := ((Lam.nil).add 7 l143_7).add 3 l143_3
theorem k143_7 : LOk E g143 n143 L143 (loopBody Tryz.f143 1) :=
  lok l143_7 (by kernel_rfl) fuel fun R X K => (loop_iter (σ := Int × Int) (fun x => SD.enc d143_7 ((X.1.1, (x.1, (X.1.2.2.1, (x.2, ())))), (), ())) (t143_7 X K) (fun m x => by kernel_rfl) fuel (X.1.2.1, X.1.2.2.2.1)).symm
theorem k143_3 : LOk E g143 n143 L143 (loopBody Tryz.f143 0) :=
  lok l143_3 (by kernel_rfl) fuel fun R X K => (loop_iter (σ := Int × Int) (fun x => SD.enc d143_3 ((X.1.1, (x.1, (x.2, ()))), (), ())) (t143_3 X K) (fun m x => by kernel_rfl) fuel (X.1.2.1, X.1.2.2.1)).symm
theorem o143 : FnOk Tryz.prog 143 e143 := fk n143 (base) Tryz.func143 (Λ := L143) (cF k143_3 (cF k143_7 nF))
def e86 : GEnt := entOf [.data false .str] [(false, .str)] fun a => Pu.impl_WithFcs a.1
theorem o86 : FnOk Tryz.prog 86 e86 := fk {} ((base).add o143) Tryz.func86 (Λ := Lam.nil) nF
def e35 : GEnt := entOf [.data true TPacket] [(false, .str), (false, .bool)] fun a => Pu.impl_BuildFrame a.1
theorem o35 : FnOk Tryz.prog 35 e35 := fk {} ((((base).add o31).add o85).add o86) Tryz.func35 (Λ := Lam.nil) nF
def e36 : GEnt := entOf [.data false (.sl TPort), .data false (.int .i64), .data false (.int .i64), .data true TPacket] [(true, (.pair (.int .i64) (.pair (.int .i64) (.pair (.int .i64) (.pair (.int .i64) (.pair (.int .i64) (.pair (.int .i64) (.pair (.int .i64) (.pair (.int .i64) (.pair (.int .i64) (.pair (.int .i64) (.pair (.int .i64) (.pair (.int .i64) (.pair (.int .i64) (.pair (.int .i64) (.pair (.int .i64) .str))))))))))))))))] fun a => Pu.impl_LeavePacket a.1 a.2.1 a.2.2.1 a.2.2.2.1
theorem o36 : FnOk Tryz.prog 36 e36 := fk { merge := fun | 1 => some 34 | _ => none } (((((base).add o78).add o79).add o81).add o83) Tryz.func36 (Λ := Lam.nil) nF
def e144 : GEnt := entOf [.data false .str] [(false, .str), (false, .bool)] fun a => Pu.impl_CheckFcs a.1
theorem o144 : FnOk Tryz.prog 144 e144 := fk { merge := fun | 2 => some 17 | _ => none } ((base).add o86) Tryz.func144 (Λ := Lam.nil) nF
def e236 : GEnt := entOf [.data false .str, .data false (.int .i64)] [(false, (.int .i64))] fun a => Pu.impl_Get16 a.1 a.2.1
theorem o236 : FnOk Tryz.prog 236 e236 := fk { merge := fun | 1 => some 13 | _ => none } (base) Tryz.func236 (Λ := Lam.nil) nF
def e237 : GEnt := entOf [.data false .str, .data false (.int .i64)] [(false, (.int .i64))] fun a => Pu.impl_Get32 a.1 a.2.1
theorem o237 : FnOk Tryz.prog 237 e237 := fk { merge := fun | 1 => some 13 | _ => none } (base) Tryz.func237 (Λ := Lam.nil) nF
def e199 : GEnt := entOf [.data false .str] [(true, (.pair (.int .i64) (.pair (.int .i64) (.pair (.int .i64) (.pair (.int .i64) .str))))), (false, .bool)] fun a => Pu.impl_ParseEth a.1
theorem o199 : FnOk Tryz.prog 199 e199 := fk { merge := fun | 4 => some 33 | _ => none, sb := fun | 4 => some 4 | _ => none } ((((base).add o196).add o236).add o237) Tryz.func199 (Λ := Lam.nil) nF
def e200 : GEnt := entOf [.data false .str] [(true, (.pair (.int .i64) (.pair (.int .i64) (.pair (.int .i64) (.pair (.int .i64) (.pair (.int .i64) (.pair (.int .i64) .str))))))), (false, .bool)] fun a => Pu.impl_ParseIp a.1
theorem o200 : FnOk Tryz.prog 200 e200 := fk { merge := fun | 2 => some 22 | 6 => some 56 | _ => none, sb := fun | 5 => some 5 | _ => none } ((((base).add o140).add o236).add o237) Tryz.func200 (Λ := Lam.nil) nF
def e201 : GEnt := entOf [.data false (.int .i64), .data false (.int .i64), .data false (.int .i64), .data false .str] [(true, (.pair (.int .i64) (.pair (.int .i64) (.pair (.int .i64) (.pair (.int .i64) (.pair (.int .i64) (.pair (.int .i64) (.pair (.int .i64) .str)))))))), (false, .bool)] fun a => Pu.impl_ParseSegment a.1 a.2.1 a.2.2.1 a.2.2.2.1
theorem o201 : FnOk Tryz.prog 201 e201 := fk { merge := fun | 3 => some 20 | 9 => some 44 | 12 => some 68 | _ => none } ((((base).add o139).add o236).add o237) Tryz.func201 (Λ := Lam.nil) nF
def e145 : GEnt := entOf [.data false .str] [(true, (.pair (.int .i64) (.pair (.int .i64) (.pair (.int .i64) (.pair (.int .i64) (.pair (.int .i64) (.pair (.int .i64) (.pair (.int .i64) (.pair (.int .i64) (.pair (.int .i64) (.pair (.int .i64) (.pair (.int .i64) (.pair (.int .i64) (.pair (.int .i64) (.pair (.int .i64) (.pair (.int .i64) .str)))))))))))))))), (false, (.int .i64))] fun a => Pu.impl_ReadImage a.1
theorem o145 : FnOk Tryz.prog 145 e145 := fk { merge := fun | 2 => some 20 | _ => none } (((((base).add o78).add o199).add o200).add o201) Tryz.func145 (Λ := Lam.nil) nF
def e87 : GEnt := entOf [.data false .str] [(true, (.pair (.int .i64) (.pair (.int .i64) (.pair (.int .i64) (.pair (.int .i64) (.pair (.int .i64) (.pair (.int .i64) (.pair (.int .i64) (.pair (.int .i64) (.pair (.int .i64) (.pair (.int .i64) (.pair (.int .i64) (.pair (.int .i64) (.pair (.int .i64) (.pair (.int .i64) (.pair (.int .i64) .str)))))))))))))))), (false, (.int .i64))] fun a => Pu.impl_ReadFrame a.1
theorem o87 : FnOk Tryz.prog 87 e87 := fk {} ((((base).add o31).add o144).add o145) Tryz.func87 (Λ := Lam.nil) nF
def e88 : GEnt := entOf [.data true TFilter, .data true TPacket] [(false, .bool)] fun a => Pu.impl_Accepts a.1 a.2.1
theorem o88 : FnOk Tryz.prog 88 e88 := fk { merge := fun | 1 => some 4 | _ => none } (((base).add o81).add o132) Tryz.func88 (Λ := Lam.nil) nF
def e238 : GEnt := entOf [.data false (.int .i64), .data false (.int .i64), .data false (.int .i64)] [(false, .bool)] fun a => Pu.impl_samePrefix a.1 a.2.1 a.2.2.1
theorem o238 : FnOk Tryz.prog 238 e238 := fk {} (base) Tryz.func238 (Λ := Lam.nil) nF
def e202 : GEnt := entOf [.data true TRule, .data true TPacket] [(false, .bool)] fun a => Pu.impl_RuleMatches a.1 a.2.1
theorem o202 : FnOk Tryz.prog 202 e202 := fk { merge := fun | 1 => some 4 | _ => none } (((((base).add o78).add o79).add o230).add o238) Tryz.func202 (Λ := Lam.nil) nF
def e146 : GEnt := entOf [.data false (.sl TRule), .data true TPacket] [(false, (.int .i64))] fun a => Pu.impl_FindRule a.1 a.2.1
def g146 : Gam := ((Gam.nil).add 187 e187).add 202 e202
def n146 : An := { mask := fun | 5 => [0, 3, 5, 11, 12, 13] | _ => [], merge := fun | 7 => some 34 | _ => none }
@[reducible] def d146_5 : SD := ⟨[.data false (.sl .arg TRule),B,B,.ptr 3 0,B,DI,B,B,B,B,B,.data false (.sl .arg TRule),DI,DI,B,B,B,B,B,B,B,B,B,B,B,B,B,B,B,B,B,B,B,B,B,B,B,B], [Z,Z,Z,some (.pair (.int .i64) (.pair (.int .i64) (.pair (.int .i64) (.pair (.int .i64) (.pair (.int .i64) (.pair (.int .i64) (.pair (.int .i64) (.pair (.int .i64) (.pair (.int .i64) (.pair (.int .i64) (.pair (.int .i64) (.pair (.int .i64) (.pair (.int .i64) (.pair (.int .i64) (.pair (.int .i64) .str))))))))))))))),Z,Z,Z,Z,Z,Z,Z,Z,Z,Z,Z,Z,Z,Z,Z,Z,Z,Z,Z,Z,Z,Z,Z,Z,Z,Z,Z,Z,Z,Z,Z,Z,Z,Z], .none⟩
def t146_5 {R : Type} (X : SD.D d146_5) (K : Ex → AS → Option R) := Pu.impl_FindRule_T5 (fun y0 y1 => K (.exit 0) (SD.enc d146_5 ((X.1.1, (y0, (X.1.2.2.1, (X.1.2.2.2.1, (y1, ()))))), (X.2.1.1, ()), ()))) X.1.1 X.1.2.2.1 X.1.2.2.2.1 X.2.1.1
def l146_5 : LEnt := ⟨d146_5, fun X K => iterL (t146_5 X K) fuel (X.1.2.1, X.1.2.2.2.2.1)⟩
def L146 : Lam := (Lam.nil).add 5 l146_5
theorem k146_5 : LOk E g146 n146 L146 (loopBody Tryz.f146 0) :=
  lok l146_5 (by kernel_rfl) fuel fun R X K => (loop_iter (σ := Int × Int) (fun x => SD.enc d146_5 ((X.1.1, (x.1, (X.1.2.2.1, (X.1.2.2.2.1, (x.2, ()))))), (X.2.1.1, ()), ())) (t146_5 X K) (fun m x => by kernel_rfl) fuel (X.1.2.1, X.1.2.2.2.2.1)).symm
theorem o146 : FnOk Tryz.prog 146 e146 := fk n146 (((base).add o187).add o202) Tryz.func146 (Λ := L146) (cF k146_5 nF)
def e147 : GEnt := entOf [.data true (.sl TSlot), .data true TFlow] [(false, (.int .i64))] fun a => Pu.impl_FindFlow a.1 a.2.1
theorem o147 : FnOk Tryz.prog 147 e147 := fk {} (((base).add o188).add o203) Tryz.func147 (Λ := Lam.nil) nF
def e148 : GEnt := entOf [.data true TPacket] [(true, (.pair (.int .i64) (.pair (.int .i64) (.pair (.int .i64) (.pair (.int .i64) (.int .i64))))))] fun a => Pu.impl_FlowOf a.1
theorem o148 : FnOk Tryz.prog 148 e148 := fk {} (base) Tryz.func148 (Λ := Lam.nil) nF
def e260 : GEnt := entOf [.data false .str, .data false (.int .i64)] [(false, (.int .i64))] fun a => Pu.impl_keyBit a.1 a.2.1
theorem o260 : FnOk Tryz.prog 260 e260 := fk {} (base) Tryz.func260 (Λ := Lam.nil) nF
def e261 : GEnt := entOf [.data false .str, .data false (.int .i64)] [(false, (.int .i64))] fun a => Pu.impl_KeyWindow a.1 a.2.1
def g261 : Gam := ((Gam.nil).add 79 e79).add 260 e260
def n261 : An := { mask := fun | 5 => [0, 1, 5, 6] | _ => [], merge := fun | 1 => some 14 | _ => none }
@[reducible] def d261_5 : SD := ⟨[.data false .str,DI,B,B,B,DI,DI,B,B,B,B,B,B,B,B,B,B,B,B,B,B,B,B,B,B,B,B,B,B], [Z,Z,Z,Z,Z,Z,Z,Z,Z,Z,Z,Z,Z,Z,Z,Z,Z,Z,Z,Z,Z,Z,Z,Z,Z,Z,Z,Z,Z], .none⟩
def t261_5 {R : Type} (X : SD.D d261_5) (K : Ex → AS → Option R) := Pu.impl_KeyWindow_T5 (fun y0 y1 => K (.exit 0) (SD.enc d261_5 ((X.1.1, (X.1.2.1, (y0, (y1, ())))), (), ()))) X.1.1 X.1.2.1
def l261_5 : LEnt := ⟨d261_5, fun X K => iterL (t261_5 X K) fuel (X.1.2.2.1, X.1.2.2.2.1)⟩
def L261 : Lam := (Lam.nil).add 5 l261_5
theorem k261_5 : LOk E g261 n261 L261 (loopBody Tryz.f261 0) :=
  lok l261_5 (by kernel_rfl) fuel fun R X K => (loop_iter (σ := Int × Int) (fun x => SD.enc d261_5 ((X.1.1, (X.1.2.1, (x.1, (x.2, ())))), (), ())) (t261_5 X K) (fun m x => by kernel_rfl) fuel (X.1.2.2.1, X.1.2.2.2.1)).symm
theorem o261 : FnOk Tryz.prog 261 e261 := fk n261 (((base).add o79).add o260) Tryz.func261 (Λ := L261) (cF k261_5 nF)
def e254 : GEnt := entOf [.data false .str, .data false .str] [(false, (.int .i64))] fun a => Pu.impl_HashBytes a.1 a.2.1
def g254 : Gam := ((Gam.nil).add 260 e260).add 261 e261
def n254 : An := { mask := fun | 5 => [0, 1, 5, 6] | _ => [], merge := fun | 1 => some 14 | _ => none }
@[reducible] def d254_5 : SD := ⟨[.data false .str,.data false .str,B,B,B,DI,DI,B,B,B,B,B,B,B,B,B,B,B,B,B,B,B,B,B,B,B,B,B,B,B,B,B], [Z,Z,Z,Z,Z,Z,Z,Z,Z,Z,Z,Z,Z,Z,Z,Z,Z,Z,Z,Z,Z,Z,Z,Z,Z,Z,Z,Z,Z,Z,Z,Z], .none⟩
def t254_5 {R : Type} (X : SD.D d254_5) (K : Ex → AS → Option R) := Pu.impl_HashBytes_T5 (fun y0 y1 => K (.exit 0) (SD.enc d254_5 ((X.1.1, (X.1.2.1, (y0, (y1, ())))), (), ()))) X.1.1 X.1.2.1
def l254_5 : LEnt := ⟨d254_5, fun X K => iterL (t254_5 X K) fuel (X.1.2.2.1, X.1.2.2.2.1)⟩
def L254 : Lam := (Lam.nil).add 5 l254_5
theorem k254_5 : LOk E g254 n254 L254 (loopBody Tryz.f254 0) :=
  lok l254_5 (by kernel_rfl) fuel fun R X K => (loop_iter (σ := Int × Int) (fun x => SD.enc d254_5 ((X.1.1, (X.1.2.1, (x.1, (x.2, ())))), (), ())) (t254_5 X K) (fun m x => by kernel_rfl) fuel (X.1.2.2.1, X.1.2.2.2.1)).symm
theorem o254 : FnOk Tryz.prog 254 e254 := fk n254 (((base).add o260).add o261) Tryz.func254 (Λ := L254) (cF k254_5 nF)
def e255 : GEnt := entOf [.data true TFlow] [(false, .str)] fun a => Pu.impl_HashInput a.1
theorem o255 : FnOk Tryz.prog 255 e255 := fk {} (((base).add o151).add o233) Tryz.func255 (Λ := Lam.nil) nF
def e239 : GEnt := entOf [.data false .str, .data true TFlow] [(false, (.int .i64))] fun a => Pu.impl_HashFlow a.1 a.2.1
theorem o239 : FnOk Tryz.prog 239 e239 := fk {} (((base).add o254).add o255) Tryz.func239 (Λ := Lam.nil) nF
def e204 : GEnt := entOf [.data true TSpread, .data true TFlow] [(false, (.int .i64))] fun a => Pu.impl_EntryOf a.1 a.2.1
theorem o204 : FnOk Tryz.prog 204 e204 := fk { merge := fun | 2 => some 17 | _ => none } ((base).add o239) Tryz.func204 (Λ := Lam.nil) nF
def e149 : GEnt := entOf [.data true TSpread, .data false (.int .i64), .data true TFlow] [(false, (.int .i64))] fun a => Pu.impl_SpreadQueue a.1 a.2.1 a.2.2.1
theorem o149 : FnOk Tryz.prog 149 e149 := fk { merge := fun | 2 => some 18 | _ => none } (((base).add o189).add o204) Tryz.func149 (Λ := Lam.nil) nF
def e89 : GEnt := entOf [.data true TSteering, .data false (.int .i64), .data true TPacket] [(false, (.int .i64))] fun a => Pu.impl_SteerPacket a.1 a.2.1 a.2.2.1
theorem o89 : FnOk Tryz.prog 89 e89 := fk { merge := fun | 1 => some 17 | _ => none } (((((((base).add o78).add o133).add o146).add o147).add o148).add o149) Tryz.func89 (Λ := Lam.nil) nF
def e150 : GEnt := entOf [.data false (.sl TStream), .data true TFlow] [(false, (.int .i64))] fun a => Pu.impl_StreamIndex a.1 a.2.1
def g150 : Gam := Gam.nil
def n150 : An := { mask := fun | 2 => [3, 4, 7, 8, 9] | _ => [] }
@[reducible] def d150_2 : SD := ⟨[B,B,B,.ptr 3 0,DI,B,B,.data false (.sl .arg TStream),DI,DI,B,B,B,B,B,B,B,B,B,B], [Z,Z,Z,some (.pair (.int .i64) (.pair (.int .i64) (.pair (.int .i64) (.pair (.int .i64) (.int .i64))))),Z,Z,Z,Z,Z,Z,Z,Z,Z,Z,Z,Z,Z,Z,Z,Z], .none⟩
def t150_2 {R : Type} (X : SD.D d150_2) (K : Ex → AS → Option R) := Pu.impl_StreamIndex_T2 (fun y0 => K (.exit 0) (SD.enc d150_2 ((X.1.1, (X.1.2.1, (X.1.2.2.1, (y0, ())))), (X.2.1.1, ()), ()))) (fun y0 y1 => K .ret (SD.enc d150_2 ((y0, (X.1.2.1, (X.1.2.2.1, (y1, ())))), (X.2.1.1, ()), ()))) X.1.1 X.1.2.1 X.1.2.2.1 X.2.1.1
def l150_2 : LEnt := ⟨d150_2, fun X K => iterL (t150_2 X K) fuel X.1.2.2.2.1⟩
def L150 : Lam := (Lam.nil).add 2 l150_2
theorem k150_2 : LOk E g150 n150 L150 (loopBody Tryz.f150 0) :=
  lok l150_2 (by kernel_rfl) fuel fun R X K => (loop_iter (σ := Int) (fun x => SD.enc d150_2 ((X.1.1, (X.1.2.1, (X.1.2.2.1, (x, ())))), (X.2.1.1, ()), ())) (t150_2 X K) (fun m x => by kernel_rfl) fuel X.1.2.2.2.1).symm
theorem o150 : FnOk Tryz.prog 150 e150 := fk n150 (base) Tryz.func150 (Λ := L150) (cF k150_2 nF)
def e90 : GEnt := entOf [.data false (.sl TStream), .data true TPacket] [(false, (.sl (.own none) TStream))] fun a => Pu.impl_Deliver a.1 a.2.1
theorem o90 : FnOk Tryz.prog 90 e90 := fk { merge := fun | 17 => some 82 | _ => none, mv := [16, 31, 51, 58, 67, 83, 132], er := fun | 115 => some 5 | _ => none } (((((((base).add o78).add o131).add o148).add o150).add o151).add o152) Tryz.func90 (Λ := Lam.nil) nF
def e37 : GEnt := entOf [.data true TSoft, .data false .str] [(true, (.pair (.pair (.int .i64) (.pair .bool (.sl (.own none) (.int .i64)))) (.pair (.pair (.sl (.own none) TRule) (.pair (.sl (.own none) TSlot) (.pair .str (.sl (.own none) (.int .i64))))) (.pair (.int .i64) (.pair (.sl (.own none) TStream) (.sl (.own none) .str))))))] fun a => Pu.impl_SoftReceive a.1 a.2.1
theorem o37 : FnOk Tryz.prog 37 e37 := fk { merge := fun | 3 => some 35 | _ => none, mv := [41] } (((((((base).add o73).add o74).add o87).add o88).add o89).add o90) Tryz.func37 (Λ := Lam.nil) nF
def e9 : GEnt := entOf [.data true TIdeal, .data false (.int .i64), .data true TPacket] [(true, (.pair (.sl (.own none) TSoft) (.pair (.sl (.own none) (.sl .str)) (.pair (.sl (.own none) TVirtualFunction) (.pair (.sl (.own none) TMailbox) (.sl (.own none) .str))))))] fun a => Pu.impl_IdealSwitch a.1 a.2.1 a.2.2.1
def g9 : Gam := (((((((((Gam.nil).add 29 e29).add 30 e30).add 31 e31).add 32 e32).add 33 e33).add 34 e34).add 35 e35).add 36 e36).add 37 e37
def n9 : An := { mask := fun | 7 => [5, 6, 7, 8, 10, 39, 40, 41] | _ => [], merge := fun | 2 => some 24 | _ => none, mv := [25, 26, 57, 76] }
@[reducible] def d9_7 : SD := ⟨[B,B,B,B,B,.ptr 5 0,.ptr 6 0,.ptr 7 0,.data false (.sl (.own (some 98304)) TPort),B,DI,B,B,B,B,B,B,B,B,B,B,B,B,B,B,B,B,B,B,B,B,B,B,B,B,B,B,B,B,.data false (.sl (.own (some 479232)) (.int .i64)),DI,DI,B,B,B,B,B,B,B,B,B,B,B,B,B,B,B,B,B,B,B,B,B,B,B,B,B,B,B,B,B,B,B,B,B,B,B], [Z,Z,Z,Z,Z,some (.pair (.int .i64) (.pair (.int .i64) (.pair (.int .i64) (.pair (.int .i64) (.pair (.int .i64) (.pair (.int .i64) (.pair (.int .i64) (.pair (.int .i64) (.pair (.int .i64) (.pair (.int .i64) (.pair (.int .i64) (.pair (.int .i64) (.pair (.int .i64) (.pair (.int .i64) (.pair (.int .i64) .str))))))))))))))),some (.pair (.sl (.own (some 73729)) TSoft) (.pair (.sl (.own (some 73732)) (.sl .str)) (.pair (.sl (.own (some 73735)) TVirtualFunction) (.pair (.sl (.own (some 73738)) TMailbox) (.sl (.own (some 73741)) .str))))),some (.pair (.sl (.own (some 86017)) TSoft) (.pair (.sl (.own (some 86020)) (.sl .str)) (.pair (.sl (.own (some 86023)) TVirtualFunction) (.pair (.sl (.own (some 86026)) TMailbox) (.sl (.own (some 86029)) .str))))),Z,Z,Z,Z,Z,Z,Z,Z,Z,Z,Z,Z,Z,Z,Z,Z,Z,Z,Z,Z,Z,Z,Z,Z,Z,Z,Z,Z,Z,Z,Z,Z,Z,Z,Z,Z,Z,Z,Z,Z,Z,Z,Z,Z,Z,Z,Z,Z,Z,Z,Z,Z,Z,Z,Z,Z,Z,Z,Z,Z,Z,Z,Z,Z,Z,Z,Z,Z,Z], .none⟩
def t9_7 {R : Type} (X : SD.D d9_7) (K : Ex → AS → Option R) := Pu.impl_IdealSwitch_T7 (fun y0 y1 => K (.exit 0) (SD.enc d9_7 ((X.1.1, (X.1.2.1, (X.1.2.2.1, (X.1.2.2.2.1, (y0, ()))))), (X.2.1.1, (X.2.1.2.1, (y1, ()))), ()))) X.1.1 X.1.2.1 X.1.2.2.1 X.1.2.2.2.1 X.2.1.1 X.2.1.2.1
def l9_7 : LEnt := ⟨d9_7, fun X K => iterL (t9_7 X K) fuel (X.1.2.2.2.2.1, X.2.1.2.2.1)⟩
def L9 : Lam := (Lam.nil).add 7 l9_7
theorem k9_7 : LOk E g9 n9 L9 (loopBody Tryz.f9 0) :=
  lok l9_7 (by kernel_rfl) fuel fun R X K => (loop_iter (σ := Int × Pu.Ideal) (fun x => SD.enc d9_7 ((X.1.1, (X.1.2.1, (X.1.2.2.1, (X.1.2.2.2.1, (x.1, ()))))), (X.2.1.1, (X.2.1.2.1, (x.2, ()))), ())) (t9_7 X K) (fun m x => by kernel_rfl) fuel (X.1.2.2.2.2.1, X.2.1.2.2.1)).symm
theorem o9 : FnOk Tryz.prog 9 e9 := fk n9 ((((((((((base).add o29).add o30).add o31).add o32).add o33).add o34).add o35).add o36).add o37) Tryz.func9 (Λ := L9) (cF k9_7 nF)
def e42 : GEnt := entOf [.data false (.sl .str), .data false (.sl .str)] [(false, .bool)] fun a => Pu.laws_eqStringS a.1 a.2.1
def g42 : Gam := Gam.nil
def n42 : An := { mask := fun | 4 => [0, 1, 4, 5] | _ => [] }
@[reducible] def d42_4 : SD := ⟨[.data false (.sl .arg .str),.data false (.sl .arg .str),B,B,DB,DI,B,B,B,B,B,B,B,B,B,B,B,B,B,B,B,B,B,B,B,B], [Z,Z,Z,Z,Z,Z,Z,Z,Z,Z,Z,Z,Z,Z,Z,Z,Z,Z,Z,Z,Z,Z,Z,Z,Z,Z], .none⟩
def t42_4 {R : Type} (X : SD.D d42_4) (K : Ex → AS → Option R) := Pu.laws_eqStringS_T4 (fun y0 => K (.exit 0) (SD.enc d42_4 ((X.1.1, (X.1.2.1, (X.1.2.2.1, (y0, ())))), (), ()))) (fun y0 y1 => K .ret (SD.enc d42_4 ((X.1.1, (X.1.2.1, (y0, (y1, ())))), (), ()))) X.1.1 X.1.2.1 X.1.2.2.1
def l42_4 : LEnt := ⟨d42_4, fun X K => iterL (t42_4 X K) fuel X.1.2.2.2.1⟩
def L42 : Lam := (Lam.nil).add 4 l42_4
theorem k42_4 : LOk E g42 n42 L42 (loopBody Tryz.f42 0) :=
  lok l42_4 (by kernel_rfl) fuel fun R X K => (loop_iter (σ := Int) (fun x => SD.enc d42_4 ((X.1.1, (X.1.2.1, (X.1.2.2.1, (x, ())))), (), ())) (t42_4 X K) (fun m x => by kernel_rfl) fuel X.1.2.2.2.1).symm
theorem o42 : FnOk Tryz.prog 42 e42 := fk n42 (base) Tryz.func42 (Λ := L42) (cF k42_4 nF)
def e205 : GEnt := entOf [.data false (.sl (.int .i64)), .data false (.sl (.int .i64))] [(false, .bool)] fun a => Pu.laws_eqIntS a.1 a.2.1
def g205 : Gam := Gam.nil
def n205 : An := { mask := fun | 4 => [0, 1, 4, 5] | _ => [] }
@[reducible] def d205_4 : SD := ⟨[.data false (.sl .arg (.int .i64)),.data false (.sl .arg (.int .i64)),B,B,DB,DI,B,B,B,B,B,B,B,B,B,B,B,B,B,B,B,B,B,B,B,B], [Z,Z,Z,Z,Z,Z,Z,Z,Z,Z,Z,Z,Z,Z,Z,Z,Z,Z,Z,Z,Z,Z,Z,Z,Z,Z], .none⟩
def t205_4 {R : Type} (X : SD.D d205_4) (K : Ex → AS → Option R) := Pu.laws_eqIntS_T4 (fun y0 => K (.exit 0) (SD.enc d205_4 ((X.1.1, (X.1.2.1, (X.1.2.2.1, (y0, ())))), (), ()))) (fun y0 y1 => K .ret (SD.enc d205_4 ((X.1.1, (X.1.2.1, (y0, (y1, ())))), (), ()))) X.1.1 X.1.2.1 X.1.2.2.1
def l205_4 : LEnt := ⟨d205_4, fun X K => iterL (t205_4 X K) fuel X.1.2.2.2.1⟩
def L205 : Lam := (Lam.nil).add 4 l205_4
theorem k205_4 : LOk E g205 n205 L205 (loopBody Tryz.f205 0) :=
  lok l205_4 (by kernel_rfl) fuel fun R X K => (loop_iter (σ := Int) (fun x => SD.enc d205_4 ((X.1.1, (X.1.2.1, (X.1.2.2.1, (x, ())))), (), ())) (t205_4 X K) (fun m x => by kernel_rfl) fuel X.1.2.2.2.1).symm
theorem o205 : FnOk Tryz.prog 205 e205 := fk n205 (base) Tryz.func205 (Λ := L205) (cF k205_4 nF)
def e153 : GEnt := entOf [.data true TFilter, .data true TFilter] [(false, .bool)] fun a => Pu.laws_eqFilter a.1 a.2.1
theorem o153 : FnOk Tryz.prog 153 e153 := fk {} ((base).add o205) Tryz.func153 (Λ := Lam.nil) nF
def e240 : GEnt := entOf [.data true TRule, .data true TRule] [(false, .bool)] fun a => Pu.laws_eqRule a.1 a.2.1
theorem o240 : FnOk Tryz.prog 240 e240 := fk {} (base) Tryz.func240 (Λ := Lam.nil) nF
def e206 : GEnt := entOf [.data false (.sl TRule), .data false (.sl TRule)] [(false, .bool)] fun a => Pu.laws_eqRuleS a.1 a.2.1
def g206 : Gam := (Gam.nil).add 240 e240
def n206 : An := { mask := fun | 4 => [0, 1, 4, 5] | _ => [] }
@[reducible] def d206_4 : SD := ⟨[.data false (.sl .arg TRule),.data false (.sl .arg TRule),B,B,DB,DI,B,B,B,B,B,B,B,B,B,B,B,B,B,B,B,B,B,B,B,B,B], [Z,Z,Z,Z,Z,Z,Z,Z,Z,Z,Z,Z,Z,Z,Z,Z,Z,Z,Z,Z,Z,Z,Z,Z,Z,Z,Z], .none⟩
def t206_4 {R : Type} (X : SD.D d206_4) (K : Ex → AS → Option R) := Pu.laws_eqRuleS_T4 (fun y0 => K (.exit 0) (SD.enc d206_4 ((X.1.1, (X.1.2.1, (X.1.2.2.1, (y0, ())))), (), ()))) (fun y0 y1 => K .ret (SD.enc d206_4 ((X.1.1, (X.1.2.1, (y0, (y1, ())))), (), ()))) X.1.1 X.1.2.1 X.1.2.2.1
def l206_4 : LEnt := ⟨d206_4, fun X K => iterL (t206_4 X K) fuel X.1.2.2.2.1⟩
def L206 : Lam := (Lam.nil).add 4 l206_4
theorem k206_4 : LOk E g206 n206 L206 (loopBody Tryz.f206 0) :=
  lok l206_4 (by kernel_rfl) fuel fun R X K => (loop_iter (σ := Int) (fun x => SD.enc d206_4 ((X.1.1, (X.1.2.1, (X.1.2.2.1, (x, ())))), (), ())) (t206_4 X K) (fun m x => by kernel_rfl) fuel X.1.2.2.2.1).symm
theorem o206 : FnOk Tryz.prog 206 e206 := fk n206 ((base).add o240) Tryz.func206 (Λ := L206) (cF k206_4 nF)
def e242 : GEnt := entOf [.data true TFlow, .data true TFlow] [(false, .bool)] fun a => Pu.laws_eqFlow a.1 a.2.1
theorem o242 : FnOk Tryz.prog 242 e242 := fk {} (base) Tryz.func242 (Λ := Lam.nil) nF
def e256 : GEnt := entOf [.data true TSlot, .data true TSlot] [(false, .bool)] fun a => Pu.laws_eqSlot a.1 a.2.1
theorem o256 : FnOk Tryz.prog 256 e256 := fk {} ((base).add o242) Tryz.func256 (Λ := Lam.nil) nF
def e241 : GEnt := entOf [.data false (.sl TSlot), .data false (.sl TSlot)] [(false, .bool)] fun a => Pu.laws_eqSlotS a.1 a.2.1
def g241 : Gam := (Gam.nil).add 256 e256
def n241 : An := { mask := fun | 4 => [0, 1, 4, 5] | _ => [] }
@[reducible] def d241_4 : SD := ⟨[.data false (.sl .arg TSlot),.data false (.sl .arg TSlot),B,B,DB,DI,B,B,B,B,B,B,B,B,B,B,B,B,B,B,B,B,B,B,B,B,B], [Z,Z,Z,Z,Z,Z,Z,Z,Z,Z,Z,Z,Z,Z,Z,Z,Z,Z,Z,Z,Z,Z,Z,Z,Z,Z,Z], .none⟩
def t241_4 {R : Type} (X : SD.D d241_4) (K : Ex → AS → Option R) := Pu.laws_eqSlotS_T4 (fun y0 => K (.exit 0) (SD.enc d241_4 ((X.1.1, (X.1.2.1, (X.1.2.2.1, (y0, ())))), (), ()))) (fun y0 y1 => K .ret (SD.enc d241_4 ((X.1.1, (X.1.2.1, (y0, (y1, ())))), (), ()))) X.1.1 X.1.2.1 X.1.2.2.1
def l241_4 : LEnt := ⟨d241_4, fun X K => iterL (t241_4 X K) fuel X.1.2.2.2.1⟩
def L241 : Lam := (Lam.nil).add 4 l241_4
theorem k241_4 : LOk E g241 n241 L241 (loopBody Tryz.f241 0) :=
  lok l241_4 (by kernel_rfl) fuel fun R X K => (loop_iter (σ := Int) (fun x => SD.enc d241_4 ((X.1.1, (X.1.2.1, (X.1.2.2.1, (x, ())))), (), ())) (t241_4 X K) (fun m x => by kernel_rfl) fuel X.1.2.2.2.1).symm
theorem o241 : FnOk Tryz.prog 241 e241 := fk n241 ((base).add o256) Tryz.func241 (Λ := L241) (cF k241_4 nF)
def e207 : GEnt := entOf [.data true (.sl TSlot), .data true (.sl TSlot)] [(false, .bool)] fun a => Pu.laws_eqFlowTable a.1 a.2.1
theorem o207 : FnOk Tryz.prog 207 e207 := fk {} ((base).add o241) Tryz.func207 (Λ := Lam.nil) nF
def e208 : GEnt := entOf [.data true TSpread, .data true TSpread] [(false, .bool)] fun a => Pu.laws_eqSpread a.1 a.2.1
theorem o208 : FnOk Tryz.prog 208 e208 := fk {} ((base).add o205) Tryz.func208 (Λ := Lam.nil) nF
def e154 : GEnt := entOf [.data true TSteering, .data true TSteering] [(false, .bool)] fun a => Pu.laws_eqSteering a.1 a.2.1
theorem o154 : FnOk Tryz.prog 154 e154 := fk {} ((((base).add o206).add o207).add o208) Tryz.func154 (Λ := Lam.nil) nF
def e209 : GEnt := entOf [.data true TStream, .data true TStream] [(false, .bool)] fun a => Pu.laws_eqStream a.1 a.2.1
theorem o209 : FnOk Tryz.prog 209 e209 := fk {} ((base).add o242) Tryz.func209 (Λ := Lam.nil) nF
def e155 : GEnt := entOf [.data false (.sl TStream), .data false (.sl TStream)] [(false, .bool)] fun a => Pu.laws_eqStreamS a.1 a.2.1
def g155 : Gam := (Gam.nil).add 209 e209
def n155 : An := { mask := fun | 4 => [0, 1, 4, 5] | _ => [] }
@[reducible] def d155_4 : SD := ⟨[.data false (.sl .arg TStream),.data false (.sl .arg TStream),B,B,DB,DI,B,B,B,B,B,B,B,B,B,B,B,B,B,B,B,B,B,B,B,B,B], [Z,Z,Z,Z,Z,Z,Z,Z,Z,Z,Z,Z,Z,Z,Z,Z,Z,Z,Z,Z,Z,Z,Z,Z,Z,Z,Z], .none⟩
def t155_4 {R : Type} (X : SD.D d155_4) (K : Ex → AS → Option R) := Pu.laws_eqStreamS_T4 (fun y0 => K (.exit 0) (SD.enc d155_4 ((X.1.1, (X.1.2.1, (X.1.2.2.1, (y0, ())))), (), ()))) (fun y0 y1 => K .ret (SD.enc d155_4 ((X.1.1, (X.1.2.1, (y0, (y1, ())))), (), ()))) X.1.1 X.1.2.1 X.1.2.2.1
def l155_4 : LEnt := ⟨d155_4, fun X K => iterL (t155_4 X K) fuel X.1.2.2.2.1⟩
def L155 : Lam := (Lam.nil).add 4 l155_4
theorem k155_4 : LOk E g155 n155 L155 (loopBody Tryz.f155 0) :=
  lok l155_4 (by kernel_rfl) fuel fun R X K => (loop_iter (σ := Int) (fun x => SD.enc d155_4 ((X.1.1, (X.1.2.1, (X.1.2.2.1, (x, ())))), (), ())) (t155_4 X K) (fun m x => by kernel_rfl) fuel X.1.2.2.2.1).symm
theorem o155 : FnOk Tryz.prog 155 e155 := fk n155 ((base).add o209) Tryz.func155 (Λ := L155) (cF k155_4 nF)
def e91 : GEnt := entOf [.data true TSoft, .data true TSoft] [(false, .bool)] fun a => Pu.laws_eqSoft a.1 a.2.1
theorem o91 : FnOk Tryz.prog 91 e91 := fk {} (((((base).add o42).add o153).add o154).add o155) Tryz.func91 (Λ := Lam.nil) nF
def e38 : GEnt := entOf [.data false (.sl TSoft), .data false (.sl TSoft)] [(false, .bool)] fun a => Pu.laws_eqSoftS a.1 a.2.1
def g38 : Gam := (Gam.nil).add 91 e91
def n38 : An := { mask := fun | 4 => [0, 1, 4, 5] | _ => [] }
@[reducible] def d38_4 : SD := ⟨[.data false (.sl .arg TSoft),.data false (.sl .arg TSoft),B,B,DB,DI,B,B,B,B,B,B,B,B,B,B,B,B,B,B,B,B,B,B,B,B,B], [Z,Z,Z,Z,Z,Z,Z,Z,Z,Z,Z,Z,Z,Z,Z,Z,Z,Z,Z,Z,Z,Z,Z,Z,Z,Z,Z], .none⟩
def t38_4 {R : Type} (X : SD.D d38_4) (K : Ex → AS → Option R) := Pu.laws_eqSoftS_T4 (fun y0 => K (.exit 0) (SD.enc d38_4 ((X.1.1, (X.1.2.1, (X.1.2.2.1, (y0, ())))), (), ()))) (fun y0 y1 => K .ret (SD.enc d38_4 ((X.1.1, (X.1.2.1, (y0, (y1, ())))), (), ()))) X.1.1 X.1.2.1 X.1.2.2.1
def l38_4 : LEnt := ⟨d38_4, fun X K => iterL (t38_4 X K) fuel X.1.2.2.2.1⟩
def L38 : Lam := (Lam.nil).add 4 l38_4
theorem k38_4 : LOk E g38 n38 L38 (loopBody Tryz.f38 0) :=
  lok l38_4 (by kernel_rfl) fuel fun R X K => (loop_iter (σ := Int) (fun x => SD.enc d38_4 ((X.1.1, (X.1.2.1, (X.1.2.2.1, (x, ())))), (), ())) (t38_4 X K) (fun m x => by kernel_rfl) fuel X.1.2.2.2.1).symm
theorem o38 : FnOk Tryz.prog 38 e38 := fk n38 ((base).add o91) Tryz.func38 (Λ := L38) (cF k38_4 nF)
def e39 : GEnt := entOf [.data false (.sl (.sl .str)), .data false (.sl (.sl .str))] [(false, .bool)] fun a => Pu.laws_eqStringSS a.1 a.2.1
def g39 : Gam := (Gam.nil).add 42 e42
def n39 : An := { mask := fun | 4 => [0, 1, 4, 5] | _ => [] }
@[reducible] def d39_4 : SD := ⟨[.data false (.sl .arg (.sl .str)),.data false (.sl .arg (.sl .str)),B,B,DB,DI,B,B,B,B,B,B,B,B,B,B,B,B,B,B,B,B,B,B,B,B,B], [Z,Z,Z,Z,Z,Z,Z,Z,Z,Z,Z,Z,Z,Z,Z,Z,Z,Z,Z,Z,Z,Z,Z,Z,Z,Z,Z], .none⟩
def t39_4 {R : Type} (X : SD.D d39_4) (K : Ex → AS → Option R) := Pu.laws_eqStringSS_T4 (fun y0 => K (.exit 0) (SD.enc d39_4 ((X.1.1, (X.1.2.1, (X.1.2.2.1, (y0, ())))), (), ()))) (fun y0 y1 => K .ret (SD.enc d39_4 ((X.1.1, (X.1.2.1, (y0, (y1, ())))), (), ()))) X.1.1 X.1.2.1 X.1.2.2.1
def l39_4 : LEnt := ⟨d39_4, fun X K => iterL (t39_4 X K) fuel X.1.2.2.2.1⟩
def L39 : Lam := (Lam.nil).add 4 l39_4
theorem k39_4 : LOk E g39 n39 L39 (loopBody Tryz.f39 0) :=
  lok l39_4 (by kernel_rfl) fuel fun R X K => (loop_iter (σ := Int) (fun x => SD.enc d39_4 ((X.1.1, (X.1.2.1, (X.1.2.2.1, (x, ())))), (), ())) (t39_4 X K) (fun m x => by kernel_rfl) fuel X.1.2.2.2.1).symm
theorem o39 : FnOk Tryz.prog 39 e39 := fk n39 ((base).add o42) Tryz.func39 (Λ := L39) (cF k39_4 nF)
def e156 : GEnt := entOf [.data true TBucket, .data true TBucket] [(false, .bool)] fun a => Pu.laws_eqBucket a.1 a.2.1
theorem o156 : FnOk Tryz.prog 156 e156 := fk {} (base) Tryz.func156 (Λ := Lam.nil) nF
def e92 : GEnt := entOf [.data true TVirtualFunction, .data true TVirtualFunction] [(false, .bool)] fun a => Pu.laws_eqVirtualFunction a.1 a.2.1
theorem o92 : FnOk Tryz.prog 92 e92 := fk {} ((base).add o156) Tryz.func92 (Λ := Lam.nil) nF
def e40 : GEnt := entOf [.data false (.sl TVirtualFunction), .data false (.sl TVirtualFunction)] [(false, .bool)] fun a => Pu.laws_eqVirtualFunctionS a.1 a.2.1
def g40 : Gam := (Gam.nil).add 92 e92
def n40 : An := { mask := fun | 4 => [0, 1, 4, 5] | _ => [] }
@[reducible] def d40_4 : SD := ⟨[.data false (.sl .arg TVirtualFunction),.data false (.sl .arg TVirtualFunction),B,B,DB,DI,B,B,B,B,B,B,B,B,B,B,B,B,B,B,B,B,B,B,B,B,B], [Z,Z,Z,Z,Z,Z,Z,Z,Z,Z,Z,Z,Z,Z,Z,Z,Z,Z,Z,Z,Z,Z,Z,Z,Z,Z,Z], .none⟩
def t40_4 {R : Type} (X : SD.D d40_4) (K : Ex → AS → Option R) := Pu.laws_eqVirtualFunctionS_T4 (fun y0 => K (.exit 0) (SD.enc d40_4 ((X.1.1, (X.1.2.1, (X.1.2.2.1, (y0, ())))), (), ()))) (fun y0 y1 => K .ret (SD.enc d40_4 ((X.1.1, (X.1.2.1, (y0, (y1, ())))), (), ()))) X.1.1 X.1.2.1 X.1.2.2.1
def l40_4 : LEnt := ⟨d40_4, fun X K => iterL (t40_4 X K) fuel X.1.2.2.2.1⟩
def L40 : Lam := (Lam.nil).add 4 l40_4
theorem k40_4 : LOk E g40 n40 L40 (loopBody Tryz.f40 0) :=
  lok l40_4 (by kernel_rfl) fuel fun R X K => (loop_iter (σ := Int) (fun x => SD.enc d40_4 ((X.1.1, (X.1.2.1, (X.1.2.2.1, (x, ())))), (), ())) (t40_4 X K) (fun m x => by kernel_rfl) fuel X.1.2.2.2.1).symm
theorem o40 : FnOk Tryz.prog 40 e40 := fk n40 ((base).add o92) Tryz.func40 (Λ := L40) (cF k40_4 nF)
def e93 : GEnt := entOf [.data true TMailbox, .data true TMailbox] [(false, .bool)] fun a => Pu.laws_eqMailbox a.1 a.2.1
theorem o93 : FnOk Tryz.prog 93 e93 := fk {} ((base).add o153) Tryz.func93 (Λ := Lam.nil) nF
def e41 : GEnt := entOf [.data false (.sl TMailbox), .data false (.sl TMailbox)] [(false, .bool)] fun a => Pu.laws_eqMailboxS a.1 a.2.1
def g41 : Gam := (Gam.nil).add 93 e93
def n41 : An := { mask := fun | 4 => [0, 1, 4, 5] | _ => [] }
@[reducible] def d41_4 : SD := ⟨[.data false (.sl .arg TMailbox),.data false (.sl .arg TMailbox),B,B,DB,DI,B,B,B,B,B,B,B,B,B,B,B,B,B,B,B,B,B,B,B,B,B], [Z,Z,Z,Z,Z,Z,Z,Z,Z,Z,Z,Z,Z,Z,Z,Z,Z,Z,Z,Z,Z,Z,Z,Z,Z,Z,Z], .none⟩
def t41_4 {R : Type} (X : SD.D d41_4) (K : Ex → AS → Option R) := Pu.laws_eqMailboxS_T4 (fun y0 => K (.exit 0) (SD.enc d41_4 ((X.1.1, (X.1.2.1, (X.1.2.2.1, (y0, ())))), (), ()))) (fun y0 y1 => K .ret (SD.enc d41_4 ((X.1.1, (X.1.2.1, (y0, (y1, ())))), (), ()))) X.1.1 X.1.2.1 X.1.2.2.1
def l41_4 : LEnt := ⟨d41_4, fun X K => iterL (t41_4 X K) fuel X.1.2.2.2.1⟩
def L41 : Lam := (Lam.nil).add 4 l41_4
theorem k41_4 : LOk E g41 n41 L41 (loopBody Tryz.f41 0) :=
  lok l41_4 (by kernel_rfl) fuel fun R X K => (loop_iter (σ := Int) (fun x => SD.enc d41_4 ((X.1.1, (X.1.2.1, (X.1.2.2.1, (x, ())))), (), ())) (t41_4 X K) (fun m x => by kernel_rfl) fuel X.1.2.2.2.1).symm
theorem o41 : FnOk Tryz.prog 41 e41 := fk n41 ((base).add o93) Tryz.func41 (Λ := L41) (cF k41_4 nF)
def e10 : GEnt := entOf [.data true TIdeal, .data true TIdeal] [(false, .bool)] fun a => Pu.laws_eqIdeal a.1 a.2.1
theorem o10 : FnOk Tryz.prog 10 e10 := fk {} ((((((base).add o38).add o39).add o40).add o41).add o42) Tryz.func10 (Λ := Lam.nil) nF
def e97 : GEnt := entOf [.data false (.int .i64)] [(false, .str)] fun a => Pu.laws_markText a.1
def g97 : Gam := Gam.nil
def n97 : An := { mask := fun | 4 => [0, 3] | _ => [] }
@[reducible] def d97_4 : SD := ⟨[DI,B,B,.data false .str,B,B,B,B,B,B,B,B,B,B,B,B,B,B,B,B], [Z,Z,Z,Z,Z,Z,Z,Z,Z,Z,Z,Z,Z,Z,Z,Z,Z,Z,Z,Z], .none⟩
def t97_4 {R : Type} (X : SD.D d97_4) (K : Ex → AS → Option R) := Pu.laws_markText_T4 (fun y0 y1 => K (.exit 0) (SD.enc d97_4 ((y0, (y1, ())), (), ()))) 
def l97_4 : LEnt := ⟨d97_4, fun X K => iterL (t97_4 X K) fuel (X.1.1, X.1.2.1)⟩
def L97 : Lam := (Lam.nil).add 4 l97_4
theorem k97_4 : LOk E g97 n97 L97 (loopBody Tryz.f97 0) :=
  lok l97_4 (by kernel_rfl) fuel fun R X K => (loop_iter (σ := Int × Pu.Bytes) (fun x => SD.enc d97_4 ((x.1, (x.2, ())), (), ())) (t97_4 X K) (fun m x => by kernel_rfl) fuel (X.1.1, X.1.2.1)).symm
theorem o97 : FnOk Tryz.prog 97 e97 := fk n97 (base) Tryz.func97 (Λ := L97) (cF k97_4 nF)
def e47 : GEnt := entIo (.sl .str) false [.data false (.int .i64)] [(false, (.int .i64))] fun x a => Pu.laws_markStringS x a.1
def g47 : Gam := (Gam.nil).add 97 e97
def n47 : An := { mask := fun | 2 => [0, 1, 5] | _ => [] }
@[reducible] def d47_2 : SD := ⟨[.data false (.sl (.lio 0 12288036864) .str),DI,B,B,B,DI,B,B,B,B,B,B,B,B,B,B,B,B,B,B], [Z,Z,Z,Z,Z,Z,Z,Z,Z,Z,Z,Z,Z,Z,Z,Z,Z,Z,Z,Z], .some (.sl (.own (some 12288036864)) .str)⟩
def t47_2 {R : Type} (X : SD.D d47_2) (K : Ex → AS → Option R) := Pu.laws_markStringS_T2 (fun y0 y1 y2 y3 => K (.exit 0) (SD.enc d47_2 ((y0, (y1, (y2, ()))), (), y3))) 
def l47_2 : LEnt := ⟨d47_2, fun X K => iterL (t47_2 X K) fuel (X.1.1, X.1.2.1, X.1.2.2.1, X.2.2)⟩
def L47 : Lam := (Lam.nil).add 2 l47_2
theorem k47_2 : LOk E g47 n47 L47 (loopBody Tryz.f47 0) :=
  lok l47_2 (by kernel_rfl) fuel fun R X K => (loop_iter (σ := (List Pu.Bytes) × Int × Int × List Pu.Bytes) (fun x => SD.enc d47_2 ((x.1, (x.2.1, (x.2.2.1, ()))), (), x.2.2.2)) (t47_2 X K) (fun m x => by kernel_rfl) fuel (X.1.1, X.1.2.1, X.1.2.2.1, X.2.2)).symm
theorem o47 : FnOk Tryz.prog 47 e47 := FnOk.ofIo (fnIo (Γ := g47) (an := n47) (Λ := L47) ((base).add o97) Tryz.func47 (by kernel_rfl) (hF (by kernel_rfl) (cF k47_2 nF))) (fun x a => by kernel_rfl)
def e94 : GEnt := entIo (.sl (.int .i64)) false [.data false (.int .i64)] [(false, (.int .i64))] fun x a => Pu.laws_markIntS x a.1
def g94 : Gam := Gam.nil
def n94 : An := { mask := fun | 2 => [0, 1, 5] | _ => [] }
@[reducible] def d94_2 : SD := ⟨[.data false (.sl (.lio 0 12288036864) (.int .i64)),DI,B,B,B,DI,B,B,B,B,B,B,B,B,B,B,B,B,B], [Z,Z,Z,Z,Z,Z,Z,Z,Z,Z,Z,Z,Z,Z,Z,Z,Z,Z,Z], .some (.sl (.own (some 12288036864)) (.int .i64))⟩
def t94_2 {R : Type} (X : SD.D d94_2) (K : Ex → AS → Option R) := Pu.laws_markIntS_T2 (fun y0 y1 y2 y3 => K (.exit 0) (SD.enc d94_2 ((y0, (y1, (y2, ()))), (), y3))) 
def l94_2 : LEnt := ⟨d94_2, fun X K => iterL (t94_2 X K) fuel (X.1.1, X.1.2.1, X.1.2.2.1, X.2.2)⟩
def L94 : Lam := (Lam.nil).add 2 l94_2
theorem k94_2 : LOk E g94 n94 L94 (loopBody Tryz.f94 0) :=
  lok l94_2 (by kernel_rfl) fuel fun R X K => (loop_iter (σ := (List Int) × Int × Int × List Int) (fun x => SD.enc d94_2 ((x.1, (x.2.1, (x.2.2.1, ()))), (), x.2.2.2)) (t94_2 X K) (fun m x => by kernel_rfl) fuel (X.1.1, X.1.2.1, X.1.2.2.1, X.2.2)).symm
theorem o94 : FnOk Tryz.prog 94 e94 := FnOk.ofIo (fnIo (Γ := g94) (an := n94) (Λ := L94) (base) Tryz.func94 (by kernel_rfl) (hF (by kernel_rfl) (cF k94_2 nF))) (fun x a => by kernel_rfl)
def e95 : GEnt := entIo (.sl TRule) false [.data false (.int .i64)] [(false, (.int .i64))] fun x a => Pu.laws_markRuleS x a.1
def g95 : Gam := Gam.nil
def n95 : An := { mask := fun | 2 => [0, 1, 5] | _ => [] }
@[reducible] def d95_2 : SD := ⟨[.data false (.sl (.lio 0 12288036864) TRule),DI,B,B,B,DI,B,B,B,B,B,B,B,B,B,B,B,B,B,B,B,B,B,B,B,B,B,B,B,B,B,B,B,B,B,B,B,B,B,B,B,B,B,B,B,B,B,B,B,B,B,B,B,B,B,B,B,B,B,B,B,B,B,B,B,B,B,B,B,B,B,B,B,B,B,B], [Z,Z,Z,Z,Z,Z,Z,Z,Z,Z,Z,Z,Z,Z,Z,Z,Z,Z,Z,Z,Z,Z,Z,Z,Z,Z,Z,Z,Z,Z,Z,Z,Z,Z,Z,Z,Z,Z,Z,Z,Z,Z,Z,Z,Z,Z,Z,Z,Z,Z,Z,Z,Z,Z,Z,Z,Z,Z,Z,Z,Z,Z,Z,Z,Z,Z,Z,Z,Z,Z,Z,Z,Z,Z,Z,Z], .some (.sl (.own (some 12288036864)) TRule)⟩
def t95_2 {R : Type} (X : SD.D d95_2) (K : Ex → AS → Option R) := Pu.laws_markRuleS_T2 (fun y0 y1 y2 y3 => K (.exit 0) (SD.enc d95_2 ((y0, (y1, (y2, ()))), (), y3))) 
def l95_2 : LEnt := ⟨d95_2, fun X K => iterL (t95_2 X K) fuel (X.1.1, X.1.2.1, X.1.2.2.1, X.2.2)⟩
def L95 : Lam := (Lam.nil).add 2 l95_2
theorem k95_2 : LOk E g95 n95 L95 (loopBody Tryz.f95 0) :=
  lok l95_2 (by kernel_rfl) fuel fun R X K => (loop_iter (σ := (List Pu.Rule) × Int × Int × List Pu.Rule) (fun x => SD.enc d95_2 ((x.1, (x.2.1, (x.2.2.1, ()))), (), x.2.2.2)) (t95_2 X K) (fun m x => by kernel_rfl) fuel (X.1.1, X.1.2.1, X.1.2.2.1, X.2.2)).symm
theorem o95 : FnOk Tryz.prog 95 e95 := FnOk.ofIo (fnIo (Γ := g95) (an := n95) (Λ := L95) (base) Tryz.func95 (by kernel_rfl) (hF (by kernel_rfl) (cF k95_2 nF))) (fun x a => by kernel_rfl)
def e96 : GEnt := entIo (.sl TSlot) false [.data false (.int .i64)] [(false, (.int .i64))] fun x a => Pu.laws_markSlotS x a.1
def g96 : Gam := Gam.nil
def n96 : An := { mask := fun | 2 => [0, 1, 5] | _ => [] }
@[reducible] def d96_2 : SD := ⟨[.data false (.sl (.lio 0 12288036864) TSlot),DI,B,B,B,DI,B,B,B,B,B,B,B,B,B,B,B,B,B,B,B,B,B,B,B,B,B,B,B,B,B,B,B,B,B,B,B,B,B,B,B,B,B,B,B,B,B,B,B,B,B,B,B,B,B,B,B,B,B,B,B,B,B,B,B,B,B], [Z,Z,Z,Z,Z,Z,Z,Z,Z,Z,Z,Z,Z,Z,Z,Z,Z,Z,Z,Z,Z,Z,Z,Z,Z,Z,Z,Z,Z,Z,Z,Z,Z,Z,Z,Z,Z,Z,Z,Z,Z,Z,Z,Z,Z,Z,Z,Z,Z,Z,Z,Z,Z,Z,Z,Z,Z,Z,Z,Z,Z,Z,Z,Z,Z,Z,Z], .some (.sl (.own (some 12288036864)) TSlot)⟩
def t96_2 {R : Type} (X : SD.D d96_2) (K : Ex → AS → Option R) := Pu.laws_markSlotS_T2 (fun y0 y1 y2 y3 => K (.exit 0) (SD.enc d96_2 ((y0, (y1, (y2, ()))), (), y3))) 
def l96_2 : LEnt := ⟨d96_2, fun X K => iterL (t96_2 X K) fuel (X.1.1, X.1.2.1, X.1.2.2.1, X.2.2)⟩
def L96 : Lam := (Lam.nil).add 2 l96_2
theorem k96_2 : LOk E g96 n96 L96 (loopBody Tryz.f96 0) :=
  lok l96_2 (by kernel_rfl) fuel fun R X K => (loop_iter (σ := (List Pu.Slot) × Int × Int × List Pu.Slot) (fun x => SD.enc d96_2 ((x.1, (x.2.1, (x.2.2.1, ()))), (), x.2.2.2)) (t96_2 X K) (fun m x => by kernel_rfl) fuel (X.1.1, X.1.2.1, X.1.2.2.1, X.2.2)).symm
theorem o96 : FnOk Tryz.prog 96 e96 := FnOk.ofIo (fnIo (Γ := g96) (an := n96) (Λ := L96) (base) Tryz.func96 (by kernel_rfl) (hF (by kernel_rfl) (cF k96_2 nF))) (fun x a => by kernel_rfl)
def e98 : GEnt := entIo (.sl TStream) false [.data false (.int .i64)] [(false, (.int .i64))] fun x a => Pu.laws_markStreamS x a.1
def g98 : Gam := (Gam.nil).add 97 e97
def n98 : An := { mask := fun | 2 => [0, 1, 5] | _ => [] }
@[reducible] def d98_2 : SD := ⟨[.data false (.sl (.lio 0 12288036864) TStream),DI,B,B,B,DI,B,B,B,B,B,B,B,B,B,B,B,B,B,B,B,B,B,B,B,B,B,B,B,B,B,B,B,B,B,B,B,B,B,B,B,B,B,B,B,B,B,B,B,B,B,B,B,B,B,B,B,B,B,B,B,B,B,B,B,B,B,B,B,B,B,B,B,B,B,B,B], [Z,Z,Z,Z,Z,Z,Z,Z,Z,Z,Z,Z,Z,Z,Z,Z,Z,Z,Z,Z,Z,Z,Z,Z,Z,Z,Z,Z,Z,Z,Z,Z,Z,Z,Z,Z,Z,Z,Z,Z,Z,Z,Z,Z,Z,Z,Z,Z,Z,Z,Z,Z,Z,Z,Z,Z,Z,Z,Z,Z,Z,Z,Z,Z,Z,Z,Z,Z,Z,Z,Z,Z,Z,Z,Z,Z,Z], .some (.sl (.own (some 12288036864)) TStream)⟩
def t98_2 {R : Type} (X : SD.D d98_2) (K : Ex → AS → Option R) := Pu.laws_markStreamS_T2 (fun y0 y1 y2 y3 => K (.exit 0) (SD.enc d98_2 ((y0, (y1, (y2, ()))), (), y3))) 
def l98_2 : LEnt := ⟨d98_2, fun X K => iterL (t98_2 X K) fuel (X.1.1, X.1.2.1, X.1.2.2.1, X.2.2)⟩
def L98 : Lam := (Lam.nil).add 2 l98_2
theorem k98_2 : LOk E g98 n98 L98 (loopBody Tryz.f98 0) :=
  lok l98_2 (by kernel_rfl) fuel fun R X K => (loop_iter (σ := (List Pu.Stream) × Int × Int × List Pu.Stream) (fun x => SD.enc d98_2 ((x.1, (x.2.1, (x.2.2.1, ()))), (), x.2.2.2)) (t98_2 X K) (fun m x => by kernel_rfl) fuel (X.1.1, X.1.2.1, X.1.2.2.1, X.2.2)).symm
theorem o98 : FnOk Tryz.prog 98 e98 := FnOk.ofIo (fnIo (Γ := g98) (an := n98) (Λ := L98) ((base).add o97) Tryz.func98 (by kernel_rfl) (hF (by kernel_rfl) (cF k98_2 nF))) (fun x a => by kernel_rfl)
def e43 : GEnt := entIo (.sl TSoft) false [.data false (.int .i64)] [(false, (.int .i64))] fun x a => Pu.laws_markSoftS x a.1
def g43 : Gam := ((((((Gam.nil).add 47 e47).add 94 e94).add 95 e95).add 96 e96).add 97 e97).add 98 e98
def n43 : An := { mask := fun | 2 => [0, 1, 5] | _ => [], nest := [35, 43, 52, 71, 85, 92] }
@[reducible] def d43_2 : SD := ⟨[.data false (.sl (.lio 0 12288036864) TSoft),DI,B,B,B,DI,B,B,B,B,B,B,B,B,B,B,B,B,B,B,B,B,B,B,B,B,B,B,B,B,B,B,B,B,B,B,B,B,B,B,B,B,B,B,B,B,B,B,B,B,B,B,B,B,B,B,B,B,B,B,B,B,B,B,B,B,B,B,B,B,B,B,B,B,B,B,B,B,B,B,B,B,B,B,B,B,B,B,B,B,B,B,B,B,B,B], [Z,Z,Z,Z,Z,Z,Z,Z,Z,Z,Z,Z,Z,Z,Z,Z,Z,Z,Z,Z,Z,Z,Z,Z,Z,Z,Z,Z,Z,Z,Z,Z,Z,Z,Z,Z,Z,Z,Z,Z,Z,Z,Z,Z,Z,Z,Z,Z,Z,Z,Z,Z,Z,Z,Z,Z,Z,Z,Z,Z,Z,Z,Z,Z,Z,Z,Z,Z,Z,Z,Z,Z,Z,Z,Z,Z,Z,Z,Z,Z,Z,Z,Z,Z,Z,Z,Z,Z,Z,Z,Z,Z,Z,Z,Z,Z], .some (.sl (.own (some 12288036864)) TSoft)⟩
def t43_2 {R : Type} (X : SD.D d43_2) (K : Ex → AS → Option R) := Pu.laws_markSoftS_T2 (fun y0 y1 y2 y3 => K (.exit 0) (SD.enc d43_2 ((y0, (y1, (y2, ()))), (), y3))) 
def l43_2 : LEnt := ⟨d43_2, fun X K => iterL (t43_2 X K) fuel (X.1.1, X.1.2.1, X.1.2.2.1, X.2.2)⟩
def L43 : Lam := (Lam.nil).add 2 l43_2
theorem k43_2 : LOk E g43 n43 L43 (loopBody Tryz.f43 0) :=
  lok l43_2 (by kernel_rfl) fuel fun R X K => (loop_iter (σ := (List Pu.Soft) × Int × Int × List Pu.Soft) (fun x => SD.enc d43_2 ((x.1, (x.2.1, (x.2.2.1, ()))), (), x.2.2.2)) (t43_2 X K) (fun m x => by kernel_rfl) fuel (X.1.1, X.1.2.1, X.1.2.2.1, X.2.2)).symm
theorem o43 : FnOk Tryz.prog 43 e43 := FnOk.ofIo (fnIo (Γ := g43) (an := n43) (Λ := L43) (((((((base).add o47).add o94).add o95).add o96).add o97).add o98) Tryz.func43 (by kernel_rfl) (hF (by kernel_rfl) (cF k43_2 nF))) (fun x a => by kernel_rfl)
def e44 : GEnt := entIo (.sl (.sl .str)) false [.data false (.int .i64)] [(false, (.int .i64))] fun x a => Pu.laws_markStringSS x a.1
def g44 : Gam := (Gam.nil).add 47 e47
def n44 : An := { mask := fun | 2 => [0, 1, 5] | _ => [], nest := [15] }
@[reducible] def d44_2 : SD := ⟨[.data false (.sl (.lio 0 12288036864) (.sl .str)),DI,B,B,B,DI,B,B,B,B,B,B,B,B,B,B,B,B,B], [Z,Z,Z,Z,Z,Z,Z,Z,Z,Z,Z,Z,Z,Z,Z,Z,Z,Z,Z], .some (.sl (.own (some 12288036864)) (.sl .str))⟩
def t44_2 {R : Type} (X : SD.D d44_2) (K : Ex → AS → Option R) := Pu.laws_markStringSS_T2 (fun y0 y1 y2 y3 => K (.exit 0) (SD.enc d44_2 ((y0, (y1, (y2, ()))), (), y3))) 
def l44_2 : LEnt := ⟨d44_2, fun X K => iterL (t44_2 X K) fuel (X.1.1, X.1.2.1, X.1.2.2.1, X.2.2)⟩
def L44 : Lam := (Lam.nil).add 2 l44_2
theorem k44_2 : LOk E g44 n44 L44 (loopBody Tryz.f44 0) :=
  lok l44_2 (by kernel_rfl) fuel fun R X K => (loop_iter (σ := (List (List Pu.Bytes)) × Int × Int × List (List Pu.Bytes)) (fun x => SD.enc d44_2 ((x.1, (x.2.1, (x.2.2.1, ()))), (), x.2.2.2)) (t44_2 X K) (fun m x => by kernel_rfl) fuel (X.1.1, X.1.2.1, X.1.2.2.1, X.2.2)).symm
theorem o44 : FnOk Tryz.prog 44 e44 := FnOk.ofIo (fnIo (Γ := g44) (an := n44) (Λ := L44) ((base).add o47) Tryz.func44 (by kernel_rfl) (hF (by kernel_rfl) (cF k44_2 nF))) (fun x a => by kernel_rfl)
def e45 : GEnt := entIo (.sl TVirtualFunction) false [.data false (.int .i64)] [(false, (.int .i64))] fun x a => Pu.laws_markVirtualFunctionS x a.1
def g45 : Gam := Gam.nil
def n45 : An := { mask := fun | 2 => [0, 1, 5] | _ => [] }
@[reducible] def d45_2 : SD := ⟨[.data false (.sl (.lio 0 12288036864) TVirtualFunction),DI,B,B,B,DI,B,B,B,B,B,B,B,B,B,B,B,B,B,B,B,B,B,B,B,B,B,B,B,B,B,B,B,B,B,B,B,B,B,B,B,B,B,B,B,B,B,B,B,B,B,B,B,B,B,B,B,B,B,B,B,B,B,B,B,B,B,B,B,B,B,B,B,B], [Z,Z,Z,Z,Z,Z,Z,Z,Z,Z,Z,Z,Z,Z,Z,Z,Z,Z,Z,Z,Z,Z,Z,Z,Z,Z,Z,Z,Z,Z,Z,Z,Z,Z,Z,Z,Z,Z,Z,Z,Z,Z,Z,Z,Z,Z,Z,Z,Z,Z,Z,Z,Z,Z,Z,Z,Z,Z,Z,Z,Z,Z,Z,Z,Z,Z,Z,Z,Z,Z,Z,Z,Z,Z], .some (.sl (.own (some 12288036864)) TVirtualFunction)⟩
def t45_2 {R : Type} (X : SD.D d45_2) (K : Ex → AS → Option R) := Pu.laws_markVirtualFunctionS_T2 (fun y0 y1 y2 y3 => K (.exit 0) (SD.enc d45_2 ((y0, (y1, (y2, ()))), (), y3))) 
def l45_2 : LEnt := ⟨d45_2, fun X K => iterL (t45_2 X K) fuel (X.1.1, X.1.2.1, X.1.2.2.1, X.2.2)⟩
def L45 : Lam := (Lam.nil).add 2 l45_2
theorem k45_2 : LOk E g45 n45 L45 (loopBody Tryz.f45 0) :=
  lok l45_2 (by kernel_rfl) fuel fun R X K => (loop_iter (σ := (List Pu.VirtualFunction) × Int × Int × List Pu.VirtualFunction) (fun x => SD.enc d45_2 ((x.1, (x.2.1, (x.2.2.1, ()))), (), x.2.2.2)) (t45_2 X K) (fun m x => by kernel_rfl) fuel (X.1.1, X.1.2.1, X.1.2.2.1, X.2.2)).symm
theorem o45 : FnOk Tryz.prog 45 e45 := FnOk.ofIo (fnIo (Γ := g45) (an := n45) (Λ := L45) (base) Tryz.func45 (by kernel_rfl) (hF (by kernel_rfl) (cF k45_2 nF))) (fun x a => by kernel_rfl)
def e46 : GEnt := entIo (.sl TMailbox) false [.data false (.int .i64)] [(false, (.int .i64))] fun x a => Pu.laws_markMailboxS x a.1
def g46 : Gam := (Gam.nil).add 94 e94
def n46 : An := { mask := fun | 2 => [0, 1, 5] | _ => [], nest := [35] }
@[reducible] def d46_2 : SD := ⟨[.data false (.sl (.lio 0 12288036864) TMailbox),DI,B,B,B,DI,B,B,B,B,B,B,B,B,B,B,B,B,B,B,B,B,B,B,B,B,B,B,B,B,B,B,B,B,B,B,B,B,B,B,B,B,B,B,B,B,B,B,B,B,B,B,B,B,B,B,B,B,B,B], [Z,Z,Z,Z,Z,Z,Z,Z,Z,Z,Z,Z,Z,Z,Z,Z,Z,Z,Z,Z,Z,Z,Z,Z,Z,Z,Z,Z,Z,Z,Z,Z,Z,Z,Z,Z,Z,Z,Z,Z,Z,Z,Z,Z,Z,Z,Z,Z,Z,Z,Z,Z,Z,Z,Z,Z,Z,Z,Z,Z], .some (.sl (.own (some 12288036864)) TMailbox)⟩
def t46_2 {R : Type} (X : SD.D d46_2) (K : Ex → AS → Option R) := Pu.laws_markMailboxS_T2 (fun y0 y1 y2 y3 => K (.exit 0) (SD.enc d46_2 ((y0, (y1, (y2, ()))), (), y3))) 
def l46_2 : LEnt := ⟨d46_2, fun X K => iterL (t46_2 X K) fuel (X.1.1, X.1.2.1, X.1.2.2.1, X.2.2)⟩
def L46 : Lam := (Lam.nil).add 2 l46_2
theorem k46_2 : LOk E g46 n46 L46 (loopBody Tryz.f46 0) :=
  lok l46_2 (by kernel_rfl) fuel fun R X K => (loop_iter (σ := (List Pu.Mailbox) × Int × Int × List Pu.Mailbox) (fun x => SD.enc d46_2 ((x.1, (x.2.1, (x.2.2.1, ()))), (), x.2.2.2)) (t46_2 X K) (fun m x => by kernel_rfl) fuel (X.1.1, X.1.2.1, X.1.2.2.1, X.2.2)).symm
theorem o46 : FnOk Tryz.prog 46 e46 := FnOk.ofIo (fnIo (Γ := g46) (an := n46) (Λ := L46) ((base).add o94) Tryz.func46 (by kernel_rfl) (hF (by kernel_rfl) (cF k46_2 nF))) (fun x a => by kernel_rfl)
def e11 : GEnt := entIo TIdeal true [.data false (.int .i64)] [(false, (.int .i64))] fun x a => Pu.laws_markIdeal x a.1
theorem o11 : FnOk Tryz.prog 11 e11 := FnOk.ofIo (fnIo (an := {}) (Λ := Lam.nil) ((((((base).add o43).add o44).add o45).add o46).add o47) Tryz.func11 (by kernel_rfl) (hF (by kernel_rfl) nF)) (fun x a => by kernel_rfl)
def e52 : GEnt := entOf [.data false (.sl .str), .data false (.int .i64)] [(false, (.int .i64))] fun a => Pu.laws_heldStringS a.1 a.2.1
def g52 : Gam := (Gam.nil).add 97 e97
def n52 : An := { mask := fun | 2 => [0, 1, 4, 5] | _ => [] }
@[reducible] def d52_2 : SD := ⟨[.data false (.sl .arg .str),DI,B,B,DI,DI,B,B,B,B,B,B,B,B,B,B,B,B,B,B,B,B], [Z,Z,Z,Z,Z,Z,Z,Z,Z,Z,Z,Z,Z,Z,Z,Z,Z,Z,Z,Z,Z,Z], .none⟩
def t52_2 {R : Type} (X : SD.D d52_2) (K : Ex → AS → Option R) := Pu.laws_heldStringS_T2 (fun y0 y1 => K (.exit 0) (SD.enc d52_2 ((X.1.1, (y0, (X.1.2.2.1, (y1, ())))), (), ()))) (fun y0 y1 y2 => K .ret (SD.enc d52_2 ((X.1.1, (y0, (y1, (y2, ())))), (), ()))) X.1.1 X.1.2.2.1
def l52_2 : LEnt := ⟨d52_2, fun X K => iterL (t52_2 X K) fuel (X.1.2.1, X.1.2.2.2.1)⟩
def L52 : Lam := (Lam.nil).add 2 l52_2
theorem k52_2 : LOk E g52 n52 L52 (loopBody Tryz.f52 0) :=
  lok l52_2 (by kernel_rfl) fuel fun R X K => (loop_iter (σ := Int × Int) (fun x => SD.enc d52_2 ((X.1.1, (x.1, (X.1.2.2.1, (x.2, ())))), (), ())) (t52_2 X K) (fun m x => by kernel_rfl) fuel (X.1.2.1, X.1.2.2.2.1)).symm
theorem o52 : FnOk Tryz.prog 52 e52 := fk n52 ((base).add o97) Tryz.func52 (Λ := L52) (cF k52_2 nF)
def e99 : GEnt := entOf [.data false (.sl (.int .i64)), .data false (.int .i64)] [(false, (.int .i64))] fun a => Pu.laws_heldIntS a.1 a.2.1
def g99 : Gam := Gam.nil
def n99 : An := { mask := fun | 2 => [0, 1, 4, 5] | _ => [] }
@[reducible] def d99_2 : SD := ⟨[.data false (.sl .arg (.int .i64)),DI,B,B,DI,DI,B,B,B,B,B,B,B,B,B,B,B,B,B,B,B], [Z,Z,Z,Z,Z,Z,Z,Z,Z,Z,Z,Z,Z,Z,Z,Z,Z,Z,Z,Z,Z], .none⟩
def t99_2 {R : Type} (X : SD.D d99_2) (K : Ex → AS → Option R) := Pu.laws_heldIntS_T2 (fun y0 y1 => K (.exit 0) (SD.enc d99_2 ((X.1.1, (y0, (X.1.2.2.1, (y1, ())))), (), ()))) (fun y0 y1 y2 => K .ret (SD.enc d99_2 ((X.1.1, (y0, (y1, (y2, ())))), (), ()))) X.1.1 X.1.2.2.1
def l99_2 : LEnt := ⟨d99_2, fun X K => iterL (t99_2 X K) fuel (X.1.2.1, X.1.2.2.2.1)⟩
def L99 : Lam := (Lam.nil).add 2 l99_2
theorem k99_2 : LOk E g99 n99 L99 (loopBody Tryz.f99 0) :=
  lok l99_2 (by kernel_rfl) fuel fun R X K => (loop_iter (σ := Int × Int) (fun x => SD.enc d99_2 ((X.1.1, (x.1, (X.1.2.2.1, (x.2, ())))), (), ())) (t99_2 X K) (fun m x => by kernel_rfl) fuel (X.1.2.1, X.1.2.2.2.1)).symm
theorem o99 : FnOk Tryz.prog 99 e99 := fk n99 (base) Tryz.func99 (Λ := L99) (cF k99_2 nF)
def e100 : GEnt := entOf [.data false (.sl TRule), .data false (.int .i64)] [(false, (.int .i64))] fun a => Pu.laws_heldRuleS a.1 a.2.1
def g100 : Gam := Gam.nil
def n100 : An := { mask := fun | 2 => [0, 1, 4, 5] | _ => [] }
@[reducible] def d100_2 : SD := ⟨[.data false (.sl .arg TRule),DI,B,B,DI,DI,B,B,B,B,B,B,B,B,B,B,B,B,B,B,B,B,B,B,B,B,B,B,B,B,B,B,B,B,B,B,B,B,B,B,B,B,B,B,B,B,B,B,B,B,B,B,B,B,B,B,B,B,B,B,B,B,B,B,B,B,B,B,B,B,B,B,B,B,B,B,B,B,B,B,B,B,B,B,B,B,B,B,B,B,B,B,B,B], [Z,Z,Z,Z,Z,Z,Z,Z,Z,Z,Z,Z,Z,Z,Z,Z,Z,Z,Z,Z,Z,Z,Z,Z,Z,Z,Z,Z,Z,Z,Z,Z,Z,Z,Z,Z,Z,Z,Z,Z,Z,Z,Z,Z,Z,Z,Z,Z,Z,Z,Z,Z,Z,Z,Z,Z,Z,Z,Z,Z,Z,Z,Z,Z,Z,Z,Z,Z,Z,Z,Z,Z,Z,Z,Z,Z,Z,Z,Z,Z,Z,Z,Z,Z,Z,Z,Z,Z,Z,Z,Z,Z,Z,Z], .none⟩
def t100_2 {R : Type} (X : SD.D d100_2) (K : Ex → AS → Option R) := Pu.laws_heldRuleS_T2 (fun y0 y1 => K (.exit 0) (SD.enc d100_2 ((X.1.1, (y0, (X.1.2.2.1, (y1, ())))), (), ()))) (fun y0 y1 y2 => K .ret (SD.enc d100_2 ((X.1.1, (y0, (y1, (y2, ())))), (), ()))) X.1.1 X.1.2.2.1
def l100_2 : LEnt := ⟨d100_2, fun X K => iterL (t100_2 X K) fuel (X.1.2.1, X.1.2.2.2.1)⟩
def L100 : Lam := (Lam.nil).add 2 l100_2
theorem k100_2 : LOk E g100 n100 L100 (loopBody Tryz.f100 0) :=
  lok l100_2 (by kernel_rfl) fuel fun R X K => (loop_iter (σ := Int × Int) (fun x => SD.enc d100_2 ((X.1.1, (x.1, (X.1.2.2.1, (x.2, ())))), (), ())) (t100_2 X K) (fun m x => by kernel_rfl) fuel (X.1.2.1, X.1.2.2.2.1)).symm
theorem o100 : FnOk Tryz.prog 100 e100 := fk n100 (base) Tryz.func100 (Λ := L100) (cF k100_2 nF)
def e101 : GEnt := entOf [.data false (.sl TSlot), .data false (.int .i64)] [(false, (.int .i64))] fun a => Pu.laws_heldSlotS a.1 a.2.1
def g101 : Gam := Gam.nil
def n101 : An := { mask := fun | 2 => [0, 1, 4, 5] | _ => [] }
@[reducible] def d101_2 : SD := ⟨[.data false (.sl .arg TSlot),DI,B,B,DI,DI,B,B,B,B,B,B,B,B,B,B,B,B,B,B,B,B,B,B,B,B,B,B,B,B,B,B,B,B,B,B,B,B,B,B,B,B,B,B,B,B,B,B,B,B,B,B,B,B,B,B,B,B,B,B,B,B,B,B,B,B,B,B,B,B,B,B,B,B,B,B,B,B,B,B,B], [Z,Z,Z,Z,Z,Z,Z,Z,Z,Z,Z,Z,Z,Z,Z,Z,Z,Z,Z,Z,Z,Z,Z,Z,Z,Z,Z,Z,Z,Z,Z,Z,Z,Z,Z,Z,Z,Z,Z,Z,Z,Z,Z,Z,Z,Z,Z,Z,Z,Z,Z,Z,Z,Z,Z,Z,Z,Z,Z,Z,Z,Z,Z,Z,Z,Z,Z,Z,Z,Z,Z,Z,Z,Z,Z,Z,Z,Z,Z,Z,Z], .none⟩
def t101_2 {R : Type} (X : SD.D d101_2) (K : Ex → AS → Option R) := Pu.laws_heldSlotS_T2 (fun y0 y1 => K (.exit 0) (SD.enc d101_2 ((X.1.1, (y0, (X.1.2.2.1, (y1, ())))), (), ()))) (fun y0 y1 y2 => K .ret (SD.enc d101_2 ((X.1.1, (y0, (y1, (y2, ())))), (), ()))) X.1.1 X.1.2.2.1
def l101_2 : LEnt := ⟨d101_2, fun X K => iterL (t101_2 X K) fuel (X.1.2.1, X.1.2.2.2.1)⟩
def L101 : Lam := (Lam.nil).add 2 l101_2
theorem k101_2 : LOk E g101 n101 L101 (loopBody Tryz.f101 0) :=
  lok l101_2 (by kernel_rfl) fuel fun R X K => (loop_iter (σ := Int × Int) (fun x => SD.enc d101_2 ((X.1.1, (x.1, (X.1.2.2.1, (x.2, ())))), (), ())) (t101_2 X K) (fun m x => by kernel_rfl) fuel (X.1.2.1, X.1.2.2.2.1)).symm
theorem o101 : FnOk Tryz.prog 101 e101 := fk n101 (base) Tryz.func101 (Λ := L101) (cF k101_2 nF)
def e102 : GEnt := entOf [.data false (.sl TStream), .data false (.int .i64)] [(false, (.int .i64))] fun a => Pu.laws_heldStreamS a.1 a.2.1
def g102 : Gam := (Gam.nil).add 97 e97
def n102 : An := { mask := fun | 2 => [0, 1, 4, 5] | _ => [] }
@[reducible] def d102_2 : SD := ⟨[.data false (.sl .arg TStream),DI,B,B,DI,DI,B,B,B,B,B,B,B,B,B,B,B,B,B,B,B,B,B,B,B,B,B,B,B,B,B,B,B,B,B,B,B,B,B,B,B,B,B,B,B,B,B,B,B,B,B,B,B,B,B,B,B,B,B,B,B,B,B,B,B,B,B,B,B,B,B,B,B,B,B,B,B,B,B,B,B,B,B,B,B,B,B,B,B,B,B,B,B], [Z,Z,Z,Z,Z,Z,Z,Z,Z,Z,Z,Z,Z,Z,Z,Z,Z,Z,Z,Z,Z,Z,Z,Z,Z,Z,Z,Z,Z,Z,Z,Z,Z,Z,Z,Z,Z,Z,Z,Z,Z,Z,Z,Z,Z,Z,Z,Z,Z,Z,Z,Z,Z,Z,Z,Z,Z,Z,Z,Z,Z,Z,Z,Z,Z,Z,Z,Z,Z,Z,Z,Z,Z,Z,Z,Z,Z,Z,Z,Z,Z,Z,Z,Z,Z,Z,Z,Z,Z,Z,Z,Z,Z], .none⟩
def t102_2 {R : Type} (X : SD.D d102_2) (K : Ex → AS → Option R) := Pu.laws_heldStreamS_T2 (fun y0 y1 => K (.exit 0) (SD.enc d102_2 ((X.1.1, (y0, (X.1.2.2.1, (y1, ())))), (), ()))) (fun y0 y1 y2 => K .ret (SD.enc d102_2 ((X.1.1, (y0, (y1, (y2, ())))), (), ()))) X.1.1 X.1.2.2.1
def l102_2 : LEnt := ⟨d102_2, fun X K => iterL (t102_2 X K) fuel (X.1.2.1, X.1.2.2.2.1)⟩
def L102 : Lam := (Lam.nil).add 2 l102_2
theorem k102_2 : LOk E g102 n102 L102 (loopBody Tryz.f102 0) :=
  lok l102_2 (by kernel_rfl) fuel fun R X K => (loop_iter (σ := Int × Int) (fun x => SD.enc d102_2 ((X.1.1, (x.1, (X.1.2.2.1, (x.2, ())))), (), ())) (t102_2 X K) (fun m x => by kernel_rfl) fuel (X.1.2.1, X.1.2.2.2.1)).symm
theorem o102 : FnOk Tryz.prog 102 e102 := fk n102 ((base).add o97) Tryz.func102 (Λ := L102) (cF k102_2 nF)
def e48 : GEnt := entOf [.data false (.sl TSoft), .data false (.int .i64)] [(false, (.int .i64))] fun a => Pu.laws_heldSoftS a.1 a.2.1
def g48 : Gam := ((((((Gam.nil).add 52 e52).add 97 e97).add 99 e99).add 100 e100).add 101 e101).add 102 e102
def n48 : An := { mask := fun | 2 => [0, 1, 4, 5] | _ => [] }
@[reducible] def d48_2 : SD := ⟨[.data false (.sl .arg TSoft),DI,B,B,DI,DI,B,B,B,B,B,B,B,B,B,B,B,B,B,B,B,B,B,B,B,B,B,B,B,B,B,B,B,B,B,B,B,B,B,B,B,B,B,B,B,B,B,B,B,B,B,B,B,B,B,B,B,B,B,B,B,B,B,B,B,B,B,B,B,B,B,B,B,B,B,B,B,B,B,B,B,B,B,B,B,B,B,B,B,B,B,B,B,B,B,B,B,B,B,B,B,B,B,B,B,B,B,B,B,B,B,B,B,B,B,B], [Z,Z,Z,Z,Z,Z,Z,Z,Z,Z,Z,Z,Z,Z,Z,Z,Z,Z,Z,Z,Z,Z,Z,Z,Z,Z,Z,Z,Z,Z,Z,Z,Z,Z,Z,Z,Z,Z,Z,Z,Z,Z,Z,Z,Z,Z,Z,Z,Z,Z,Z,Z,Z,Z,Z,Z,Z,Z,Z,Z,Z,Z,Z,Z,Z,Z,Z,Z,Z,Z,Z,Z,Z,Z,Z,Z,Z,Z,Z,Z,Z,Z,Z,Z,Z,Z,Z,Z,Z,Z,Z,Z,Z,Z,Z,Z,Z,Z,Z,Z,Z,Z,Z,Z,Z,Z,Z,Z,Z,Z,Z,Z,Z,Z,Z,Z], .none⟩
def t48_2 {R : Type} (X : SD.D d48_2) (K : Ex → AS → Option R) := Pu.laws_heldSoftS_T2 (fun y0 y1 => K (.exit 0) (SD.enc d48_2 ((X.1.1, (y0, (X.1.2.2.1, (y1, ())))), (), ()))) (fun y0 y1 y2 => K .ret (SD.enc d48_2 ((X.1.1, (y0, (y1, (y2, ())))), (), ()))) X.1.1 X.1.2.2.1
def l48_2 : LEnt := ⟨d48_2, fun X K => iterL (t48_2 X K) fuel (X.1.2.1, X.1.2.2.2.1)⟩
def L48 : Lam := (Lam.nil).add 2 l48_2
theorem k48_2 : LOk E g48 n48 L48 (loopBody Tryz.f48 0) :=
  lok l48_2 (by kernel_rfl) fuel fun R X K => (loop_iter (σ := Int × Int) (fun x => SD.enc d48_2 ((X.1.1, (x.1, (X.1.2.2.1, (x.2, ())))), (), ())) (t48_2 X K) (fun m x => by kernel_rfl) fuel (X.1.2.1, X.1.2.2.2.1)).symm
theorem o48 : FnOk Tryz.prog 48 e48 := fk n48 (((((((base).add o52).add o97).add o99).add o100).add o101).add o102) Tryz.func48 (Λ := L48) (cF k48_2 nF)
def e49 : GEnt := entOf [.data false (.sl (.sl .str)), .data false (.int .i64)] [(false, (.int .i64))] fun a => Pu.laws_heldStringSS a.1 a.2.1
def g49 : Gam := (Gam.nil).add 52 e52
def n49 : An := { mask := fun | 2 => [0, 1, 4, 5] | _ => [] }
@[reducible] def d49_2 : SD := ⟨[.data false (.sl .arg (.sl .str)),DI,B,B,DI,DI,B,B,B,B,B,B,B,B,B,B,B,B,B,B,B], [Z,Z,Z,Z,Z,Z,Z,Z,Z,Z,Z,Z,Z,Z,Z,Z,Z,Z,Z,Z,Z], .none⟩
def t49_2 {R : Type} (X : SD.D d49_2) (K : Ex → AS → Option R) := Pu.laws_heldStringSS_T2 (fun y0 y1 => K (.exit 0) (SD.enc d49_2 ((X.1.1, (y0, (X.1.2.2.1, (y1, ())))), (), ()))) (fun y0 y1 y2 => K .ret (SD.enc d49_2 ((X.1.1, (y0, (y1, (y2, ())))), (), ()))) X.1.1 X.1.2.2.1
def l49_2 : LEnt := ⟨d49_2, fun X K => iterL (t49_2 X K) fuel (X.1.2.1, X.1.2.2.2.1)⟩
def L49 : Lam := (Lam.nil).add 2 l49_2
theorem k49_2 : LOk E g49 n49 L49 (loopBody Tryz.f49 0) :=
  lok l49_2 (by kernel_rfl) fuel fun R X K => (loop_iter (σ := Int × Int) (fun x => SD.enc d49_2 ((X.1.1, (x.1, (X.1.2.2.1, (x.2, ())))), (), ())) (t49_2 X K) (fun m x => by kernel_rfl) fuel (X.1.2.1, X.1.2.2.2.1)).symm
theorem o49 : FnOk Tryz.prog 49 e49 := fk n49 ((base).add o52) Tryz.func49 (Λ := L49) (cF k49_2 nF)
def e50 : GEnt := entOf [.data false (.sl TVirtualFunction), .data false (.int .i64)] [(false, (.int .i64))] fun a => Pu.laws_heldVirtualFunctionS a.1 a.2.1
def g50 : Gam := Gam.nil
def n50 : An := { mask := fun | 2 => [0, 1, 4, 5] | _ => [] }
@[reducible] def d50_2 : SD := ⟨[.data false (.sl .arg TVirtualFunction),DI,B,B,DI,DI,B,B,B,B,B,B,B,B,B,B,B,B,B,B,B,B,B,B,B,B,B,B,B,B,B,B,B,B,B,B,B,B,B,B,B,B,B,B,B,B,B,B,B,B,B,B,B,B,B,B,B,B,B,B,B,B,B,B,B,B,B,B,B,B,B,B,B,B,B,B,B,B,B,B,B,B,B,B,B,B,B,B,B,B], [Z,Z,Z,Z,Z,Z,Z,Z,Z,Z,Z,Z,Z,Z,Z,Z,Z,Z,Z,Z,Z,Z,Z,Z,Z,Z,Z,Z,Z,Z,Z,Z,Z,Z,Z,Z,Z,Z,Z,Z,Z,Z,Z,Z,Z,Z,Z,Z,Z,Z,Z,Z,Z,Z,Z,Z,Z,Z,Z,Z,Z,Z,Z,Z,Z,Z,Z,Z,Z,Z,Z,Z,Z,Z,Z,Z,Z,Z,Z,Z,Z,Z,Z,Z,Z,Z,Z,Z,Z,Z], .none⟩
def t50_2 {R : Type} (X : SD.D d50_2) (K : Ex → AS → Option R) := Pu.laws_heldVirtualFunctionS_T2 (fun y0 y1 => K (.exit 0) (SD.enc d50_2 ((X.1.1, (y0, (X.1.2.2.1, (y1, ())))), (), ()))) (fun y0 y1 y2 => K .ret (SD.enc d50_2 ((X.1.1, (y0, (y1, (y2, ())))), (), ()))) X.1.1 X.1.2.2.1
def l50_2 : LEnt := ⟨d50_2, fun X K => iterL (t50_2 X K) fuel (X.1.2.1, X.1.2.2.2.1)⟩
def L50 : Lam := (Lam.nil).add 2 l50_2
theorem k50_2 : LOk E g50 n50 L50 (loopBody Tryz.f50 0) :=
  lok l50_2 (by kernel_rfl) fuel fun R X K => (loop_iter (σ := Int × Int) (fun x => SD.enc d50_2 ((X.1.1, (x.1, (X.1.2.2.1, (x.2, ())))), (), ())) (t50_2 X K) (fun m x => by kernel_rfl) fuel (X.1.2.1, X.1.2.2.2.1)).symm
theorem o50 : FnOk Tryz.prog 50 e50 := fk n50 (base) Tryz.func50 (Λ := L50) (cF k50_2 nF)
def e51 : GEnt := entOf [.data false (.sl TMailbox), .data false (.int .i64)] [(false, (.int .i64))] fun a => Pu.laws_heldMailboxS a.1 a.2.1
def g51 : Gam := (Gam.nil).add 99 e99
def n51 : An := { mask := fun | 2 => [0, 1, 4, 5] | _ => [] }
@[reducible] def d51_2 : SD := ⟨[.data false (.sl .arg TMailbox),DI,B,B,DI,DI,B,B,B,B,B,B,B,B,B,B,B,B,B,B,B,B,B,B,B,B,B,B,B,B,B,B,B,B,B,B,B,B,B,B,B,B,B,B,B,B,B,B,B,B,B,B,B,B,B,B,B,B,B,B,B,B,B,B,B,B,B,B,B,B,B,B], [Z,Z,Z,Z,Z,Z,Z,Z,Z,Z,Z,Z,Z,Z,Z,Z,Z,Z,Z,Z,Z,Z,Z,Z,Z,Z,Z,Z,Z,Z,Z,Z,Z,Z,Z,Z,Z,Z,Z,Z,Z,Z,Z,Z,Z,Z,Z,Z,Z,Z,Z,Z,Z,Z,Z,Z,Z,Z,Z,Z,Z,Z,Z,Z,Z,Z,Z,Z,Z,Z,Z,Z], .none⟩
def t51_2 {R : Type} (X : SD.D d51_2) (K : Ex → AS → Option R) := Pu.laws_heldMailboxS_T2 (fun y0 y1 => K (.exit 0) (SD.enc d51_2 ((X.1.1, (y0, (X.1.2.2.1, (y1, ())))), (), ()))) (fun y0 y1 y2 => K .ret (SD.enc d51_2 ((X.1.1, (y0, (y1, (y2, ())))), (), ()))) X.1.1 X.1.2.2.1
def l51_2 : LEnt := ⟨d51_2, fun X K => iterL (t51_2 X K) fuel (X.1.2.1, X.1.2.2.2.1)⟩
def L51 : Lam := (Lam.nil).add 2 l51_2
theorem k51_2 : LOk E g51 n51 L51 (loopBody Tryz.f51 0) :=
  lok l51_2 (by kernel_rfl) fuel fun R X K => (loop_iter (σ := Int × Int) (fun x => SD.enc d51_2 ((X.1.1, (x.1, (X.1.2.2.1, (x.2, ())))), (), ())) (t51_2 X K) (fun m x => by kernel_rfl) fuel (X.1.2.1, X.1.2.2.2.1)).symm
theorem o51 : FnOk Tryz.prog 51 e51 := fk n51 ((base).add o99) Tryz.func51 (Λ := L51) (cF k51_2 nF)
def e12 : GEnt := entOf [.data true TIdeal, .data false (.int .i64)] [(false, (.int .i64))] fun a => Pu.laws_heldIdeal a.1 a.2.1
theorem o12 : FnOk Tryz.prog 12 e12 := fk {} ((((((base).add o48).add o49).add o50).add o51).add o52) Tryz.func12 (Λ := Lam.nil) nF
@[reducible] def s_laws_FnExactIdealSwitch : List PS := [.data true TIdeal, .data false (.int .i64), .data true TPacket]
def e_laws_FnExactIdealSwitch : GEnt := entOf s_laws_FnExactIdealSwitch [(false, .bool)] fun a => Pu.laws_FnExactIdealSwitch a.1 a.2.1 a.2.2.1
theorem o_laws_FnExactIdealSwitch : FnOk Tryz.prog 3 e_laws_FnExactIdealSwitch := fk { merge := fun | 17 => some 57 | _ => none, sb := fun | 8 => some 8 | 10 => some 10 | 14 => some 14 | _ => none } ((((((((((base).add o4).add o5).add o6).add o7).add o8).add o9).add o10).add o11).add o12) Tryz.func3 (Λ := Lam.nil) nF

end

end Go.Proofs.YtoickmmiogbhgaaGreat.Fn
