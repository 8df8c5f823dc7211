import Derived.Test.YtclgaiiidllehaaGreatDnSig
import Derived.Test.YtclgaiiidllehaaGreatPure
import Derived.Test.YtclgaiiidllehaaGreatRows
/- Each function of the program is its pure function (made by gen.py). -/
namespace Go.Proofs.YtclgaiiidllehaaGreat.Fn
open Go.Dn
open Go.Pu (TFilter TRule TFlow TSlot TSpread TSteering TStream TSoft TSegment TPacket TEth TIp)
set_option maxRecDepth 100000
noncomputable section
abbrev B : PD := .bot
abbrev DI : PD := .data false (.int .i64)
abbrev DB : PD := .data false .bool
abbrev Z : Option FT := none
theorem nF {p : Code → Prop} : ∀ x ∈ ([] : List Code), p x := fun _ h => nomatch h
theorem cF {p : Code → Prop} {a : Code} {l : List Code} (h : p a) (t : ∀ x ∈ l, p x) : ∀ x ∈ a :: l, p x := List.forall_mem_cons.2 ⟨h, t⟩
theorem hF {p : Code → Prop} {l m : List Code} (e : l = m) (h : ∀ x ∈ m, p x) : ∀ x ∈ l, p x := e ▸ h
theorem fk {P : Program} {E : Env} {Γ : Gam} {s : List PS} {rs : List (Bool × FT)} {F : Args s → Option (resD rs)} {f : Nat} {fn : Func} (an : An) (hS : Sound P E Γ) (hf : P.funcs[f]? = some fn) {Λ : Lam} {l : List Code} (h : ∀ c ∈ l, LOk E Γ an Λ c) (hn : (fn.name == "runtime.NumGoroutine") = false := by kernel_rfl) (hl : loopsOf (fn.body.getD .skip) = l := by kernel_rfl) (hF : ∀ a, evalFn E Γ an Λ fn rs (argsOf s a) = F a := by intro a; kernel_rfl) : FnOk P f (entOf s rs F) := FnOk.of (fnOk hS hf hn (Fn.hF hl h)) hF
def E : Env := { ty := [(3, ⟨false, (.int .i64), []⟩),
  (4, ⟨false, .bool, []⟩),
  (5, ⟨false, (.int .u8), []⟩),
  (9, ⟨false, .str, []⟩),
  (22, ⟨false, (.sl (.int .i64)), [(3, 0)]⟩),
  (24, ⟨true, TFilter, [(0, 1), (1, 1), (2, 1)]⟩),
  (25, ⟨false, (.sl TRule), [(149, 0)]⟩),
  (26, ⟨false, (.sl TSlot), [(168, 0)]⟩),
  (28, ⟨true, (.sl TSlot), [(0, 1)]⟩),
  (30, ⟨true, TSpread, [(0, 1), (1, 1)]⟩),
  (32, ⟨true, TSteering, [(0, 1), (1, 1), (2, 2)]⟩),
  (33, ⟨false, (.sl TStream), [(88, 0)]⟩),
  (34, ⟨false, (.sl .str), [(9, 0)]⟩),
  (36, ⟨true, TSoft, [(0, 3), (3, 4), (7, 1), (8, 1), (9, 1)]⟩),
  (38, ⟨true, TFilter, [(0, 1), (1, 1), (2, 1)]⟩),
  (39, ⟨false, (.sl TRule), [(99, 0)]⟩),
  (40, ⟨false, (.sl TSlot), [(104, 0)]⟩),
  (42, ⟨true, (.sl TSlot), [(0, 1)]⟩),
  (43, ⟨true, TSpread, [(0, 1), (1, 1)]⟩),
  (45, ⟨true, TSteering, [(0, 1), (1, 1), (2, 2)]⟩),
  (46, ⟨false, (.sl TStream), [(108, 0)]⟩),
  (48, ⟨true, TSoft, [(0, 3), (3, 4), (7, 1), (8, 1), (9, 1)]⟩),
  (60, ⟨true, TSegment, [(0, 1), (1, 1), (2, 1), (3, 1), (4, 1), (5, 1), (6, 1), (7, 1)]⟩),
  (62, ⟨true, TPacket, [(0, 1), (1, 1), (2, 1), (3, 1), (4, 1), (5, 1), (6, 1), (7, 1), (8, 8)]⟩),
  (86, ⟨true, TFlow, [(0, 1), (1, 1), (2, 1), (3, 1), (4, 1)]⟩),
  (88, ⟨true, TStream, [(0, 5), (5, 1), (6, 1), (7, 1)]⟩),
  (99, ⟨true, TRule, [(0, 1), (1, 1), (2, 1), (3, 1), (4, 1), (5, 1), (6, 1), (7, 1), (8, 1)]⟩),
  (101, ⟨true, TFlow, [(0, 1), (1, 1), (2, 1), (3, 1), (4, 1)]⟩),
  (104, ⟨true, TSlot, [(0, 1), (1, 5), (6, 1)]⟩),
  (108, ⟨true, TStream, [(0, 5), (5, 1), (6, 1), (7, 1)]⟩),
  (130, ⟨true, TEth, [(0, 1), (1, 1), (2, 1), (3, 1), (4, 1)]⟩),
  (134, ⟨true, TIp, [(0, 1), (1, 1), (2, 1), (3, 1), (4, 1), (5, 1), (6, 1)]⟩),
  (147, ⟨false, (.sl (.int .u8)), [(5, 0)]⟩),
  (149, ⟨true, TRule, [(0, 1), (1, 1), (2, 1), (3, 1), (4, 1), (5, 1), (6, 1), (7, 1), (8, 1)]⟩),
  (168, ⟨true, TSlot, [(0, 1), (1, 5), (6, 1)]⟩),
  (176, ⟨false, (.int .u32), []⟩)], eqs := [(101, [.int, .int, .int, .int, .int])], fts := [] }
theorem base : Sound Tryz.prog E Gam.nil := Sound.nil (lookE_ok (by kernel_rfl)) (lookQ_ok (by kernel_rfl)) (lookF_ok (by kernel_rfl)) (by kernel_rfl)
def e43 : GEnt := entOf [.data false (.sl (.int .i64)), .data false (.int .i64)] [(false, (.int .i64))] fun a => Pu.laws_szIntS a.1 a.2.1
theorem o43 : FnOk Tryz.prog 43 e43 := fk {} (base) Tryz.func43 (Λ := Lam.nil) nF
def e11 : GEnt := entOf [.data true TFilter, .data false (.int .i64)] [(false, (.int .i64))] fun a => Pu.laws_szFilter a.1 a.2.1
theorem o11 : FnOk Tryz.prog 11 e11 := fk {} ((base).add o43) Tryz.func11 (Λ := Lam.nil) nF
def e44 : GEnt := entOf [.data false (.sl TRule), .data false (.int .i64)] [(false, (.int .i64))] fun a => Pu.laws_szRuleS a.1 a.2.1
theorem o44 : FnOk Tryz.prog 44 e44 := fk {} (base) Tryz.func44 (Λ := Lam.nil) nF
def e100 : GEnt := entOf [.data false (.sl TSlot), .data false (.int .i64)] [(false, (.int .i64))] fun a => Pu.laws_szSlotS a.1 a.2.1
theorem o100 : FnOk Tryz.prog 100 e100 := fk {} (base) Tryz.func100 (Λ := Lam.nil) nF
def e45 : GEnt := entOf [.data true (.sl TSlot), .data false (.int .i64)] [(false, (.int .i64))] fun a => Pu.laws_szFlowTable a.1 a.2.1
theorem o45 : FnOk Tryz.prog 45 e45 := fk {} ((base).add o100) Tryz.func45 (Λ := Lam.nil) nF
def e46 : GEnt := entOf [.data true TSpread, .data false (.int .i64)] [(false, (.int .i64))] fun a => Pu.laws_szSpread a.1 a.2.1
theorem o46 : FnOk Tryz.prog 46 e46 := fk {} ((base).add o43) Tryz.func46 (Λ := Lam.nil) nF
def e12 : GEnt := entOf [.data true TSteering, .data false (.int .i64)] [(false, (.int .i64))] fun a => Pu.laws_szSteering a.1 a.2.1
theorem o12 : FnOk Tryz.prog 12 e12 := fk {} ((((base).add o44).add o45).add o46) Tryz.func12 (Λ := Lam.nil) nF
def e47 : GEnt := entOf [.data true TStream, .data false (.int .i64)] [(false, (.int .i64))] fun a => Pu.laws_szStream a.1 a.2.1
theorem o47 : FnOk Tryz.prog 47 e47 := fk {} (base) Tryz.func47 (Λ := Lam.nil) nF
def e13 : GEnt := entOf [.data false (.sl TStream), .data false (.int .i64)] [(false, (.int .i64))] fun a => Pu.laws_szStreamS a.1 a.2.1
def g13 : Gam := (Gam.nil).add 47 e47
def n13 : An := { mask := fun | 5 => [0, 1, 4, 5] | _ => [] }
@[reducible] def d13_5 : SD := ⟨[.data false (.sl .arg TStream),DI,B,B,DI,DI,B,B,B,B,B,B,B,B,B,B,B,B,B,B,B,B,B,B,B,B,B], [Z,Z,Z,Z,Z,Z,Z,Z,Z,Z,Z,Z,Z,Z,Z,Z,Z,Z,Z,Z,Z,Z,Z,Z,Z,Z,Z], .none⟩
def t13_5 {R : Type} (X : SD.D d13_5) (K : Ex → AS → Option R) := Pu.laws_szStreamS_T5 (fun y0 y1 => K (.exit 0) (SD.enc d13_5 ((X.1.1, (y0, (X.1.2.2.1, (y1, ())))), (), ()))) (fun y0 y1 y2 => K .ret (SD.enc d13_5 ((X.1.1, (y0, (y1, (y2, ())))), (), ()))) X.1.1 X.1.2.2.1
def l13_5 : LEnt := ⟨d13_5, fun X K => iterL (t13_5 X K) fuel (X.1.2.1, X.1.2.2.2.1)⟩
def L13 : Lam := (Lam.nil).add 5 l13_5
theorem k13_5 : LOk E g13 n13 L13 (loopBody Tryz.f13 0) :=
  lok l13_5 (by kernel_rfl) fuel fun R X K => (loop_iter (σ := Int × Int) (fun x => SD.enc d13_5 ((X.1.1, (x.1, (X.1.2.2.1, (x.2, ())))), (), ())) (t13_5 X K) (fun m x => by kernel_rfl) fuel (X.1.2.1, X.1.2.2.2.1)).symm
theorem o13 : FnOk Tryz.prog 13 e13 := fk n13 ((base).add o47) Tryz.func13 (Λ := L13) (cF k13_5 nF)
def e14 : GEnt := entOf [.data false (.sl .str), .data false (.int .i64)] [(false, (.int .i64))] fun a => Pu.laws_szStringS a.1 a.2.1
def g14 : Gam := Gam.nil
def n14 : An := { mask := fun | 5 => [0, 1, 4, 5] | _ => [] }
@[reducible] def d14_5 : SD := ⟨[.data false (.sl .arg .str),DI,B,B,DI,DI,B,B,B,B,B,B,B,B,B,B,B,B,B,B,B,B,B,B,B,B,B,B], [Z,Z,Z,Z,Z,Z,Z,Z,Z,Z,Z,Z,Z,Z,Z,Z,Z,Z,Z,Z,Z,Z,Z,Z,Z,Z,Z,Z], .none⟩
def t14_5 {R : Type} (X : SD.D d14_5) (K : Ex → AS → Option R) := Pu.laws_szStringS_T5 (fun y0 y1 => K (.exit 0) (SD.enc d14_5 ((X.1.1, (y0, (X.1.2.2.1, (y1, ())))), (), ()))) (fun y0 y1 y2 => K .ret (SD.enc d14_5 ((X.1.1, (y0, (y1, (y2, ())))), (), ()))) X.1.1 X.1.2.2.1
def l14_5 : LEnt := ⟨d14_5, fun X K => iterL (t14_5 X K) fuel (X.1.2.1, X.1.2.2.2.1)⟩
def L14 : Lam := (Lam.nil).add 5 l14_5
theorem k14_5 : LOk E g14 n14 L14 (loopBody Tryz.f14 0) :=
  lok l14_5 (by kernel_rfl) fuel fun R X K => (loop_iter (σ := Int × Int) (fun x => SD.enc d14_5 ((X.1.1, (x.1, (X.1.2.2.1, (x.2, ())))), (), ())) (t14_5 X K) (fun m x => by kernel_rfl) fuel (X.1.2.1, X.1.2.2.2.1)).symm
theorem o14 : FnOk Tryz.prog 14 e14 := fk n14 (base) Tryz.func14 (Λ := L14) (cF k14_5 nF)
def e4 : GEnt := entOf [.data true TSoft, .data false (.int .i64)] [(false, (.int .i64))] fun a => Pu.laws_szSoft a.1 a.2.1
theorem o4 : FnOk Tryz.prog 4 e4 := fk {} (((((base).add o11).add o12).add o13).add o14) Tryz.func4 (Λ := Lam.nil) nF
def e48 : GEnt := entOf [.data true TFilter] [(true, (.pair (.int .i64) (.pair .bool (.sl (.own none) (.int .i64)))))] fun a => Pu.spec_l24Copy a.1
theorem o48 : FnOk Tryz.prog 48 e48 := fk { sb := fun | 2 => some 2 | _ => none } (base) Tryz.func48 (Λ := Lam.nil) nF
def e101 : GEnt := entOf [.data true (.sl TSlot)] [(true, (.sl (.own none) TSlot))] fun a => Pu.spec_l13Copy a.1
theorem o101 : FnOk Tryz.prog 101 e101 := fk {} (base) Tryz.func101 (Λ := Lam.nil) nF
def e49 : GEnt := entOf [.data true TSteering] [(true, (.pair (.sl (.own none) TRule) (.pair (.sl (.own none) TSlot) (.pair .str (.sl (.own none) (.int .i64))))))] fun a => Pu.spec_l15Copy a.1
theorem o49 : FnOk Tryz.prog 49 e49 := fk { sb := fun | 2 => some 2 | _ => none } ((base).add o101) Tryz.func49 (Λ := Lam.nil) nF
def e15 : GEnt := entOf [.data true TSoft] [(true, (.pair (.pair (.int .i64) (.pair .bool (.sl (.own none) (.int .i64)))) (.pair (.pair (.sl (.own none) TRule) (.pair (.sl (.own none) TSlot) (.pair .str (.sl (.own none) (.int .i64))))) (.pair (.int .i64) (.pair (.sl (.own none) TStream) (.sl (.own none) .str))))))] fun a => Pu.spec_l40Copy a.1
theorem o15 : FnOk Tryz.prog 15 e15 := fk { sb := fun | 2 => some 2 | _ => none } (((base).add o48).add o49) Tryz.func15 (Λ := Lam.nil) nF
def e138 : GEnt := entOf [.data false .str] [(false, (.int .i64))] fun a => Pu.spec_Crc32 a.1
def g138 : Gam := Gam.nil
def n138 : An := { mask := fun | 3 => [0, 3, 4] | 7 => [0, 3, 4, 5] | _ => [] }
@[reducible] def d138_7 : SD := ⟨[.data false .str,B,B,DI,DI,DI,B,B,B,B,B,B,B,B,B,B,B,B,B,B,B,B,B,B,B,B,B,B,B,B,B,B], [Z,Z,Z,Z,Z,Z,Z,Z,Z,Z,Z,Z,Z,Z,Z,Z,Z,Z,Z,Z,Z,Z,Z,Z,Z,Z,Z,Z,Z,Z,Z,Z], .none⟩
def t138_7 {R : Type} (X : SD.D d138_7) (K : Ex → AS → Option R) := Pu.spec_Crc32_T7 (fun y0 y1 => K (.exit 2) (SD.enc d138_7 ((X.1.1, (y0, (X.1.2.2.1, (y1, ())))), (), ()))) X.1.1 X.1.2.2.1
def l138_7 : LEnt := ⟨d138_7, fun X K => iterL (t138_7 X K) fuel (X.1.2.1, X.1.2.2.2.1)⟩
@[reducible] def d138_3 : SD := ⟨[.data false .str,B,B,DI,DI,B,B,B,B,B,B,B,B,B,B,B,B,B,B,B,B,B,B,B,B,B,B,B,B,B,B,B], [Z,Z,Z,Z,Z,Z,Z,Z,Z,Z,Z,Z,Z,Z,Z,Z,Z,Z,Z,Z,Z,Z,Z,Z,Z,Z,Z,Z,Z,Z,Z,Z], .none⟩
def t138_3 {R : Type} (X : SD.D d138_3) (K : Ex → AS → Option R) := Pu.spec_Crc32_T3 (fun y0 y1 => K (.exit 0) (SD.enc d138_3 ((X.1.1, (y0, (y1, ()))), (), ()))) X.1.1
def l138_3 : LEnt := ⟨d138_3, fun X K => iterL (t138_3 X K) fuel (X.1.2.1, X.1.2.2.1)⟩
def L138 : Lam := ((Lam.nil).add 7 l138_7).add 3 l138_3
theorem k138_7 : LOk E g138 n138 L138 (loopBody Tryz.f138 1) :=
  lok l138_7 (by kernel_rfl) fuel fun R X K => (loop_iter (σ := Int × Int) (fun x => SD.enc d138_7 ((X.1.1, (x.1, (X.1.2.2.1, (x.2, ())))), (), ())) (t138_7 X K) (fun m x => by kernel_rfl) fuel (X.1.2.1, X.1.2.2.2.1)).symm
theorem k138_3 : LOk E g138 n138 L138 (loopBody Tryz.f138 0) :=
  lok l138_3 (by kernel_rfl) fuel fun R X K => (loop_iter (σ := Int × Int) (fun x => SD.enc d138_3 ((X.1.1, (x.1, (x.2, ()))), (), ())) (t138_3 X K) (fun m x => by kernel_rfl) fuel (X.1.2.1, X.1.2.2.1)).symm
theorem o138 : FnOk Tryz.prog 138 e138 := fk n138 (base) Tryz.func138 (Λ := L138) (cF k138_3 (cF k138_7 nF))
def e102 : GEnt := entOf [.data false .str] [(false, .str)] fun a => Pu.spec_WithFcs a.1
theorem o102 : FnOk Tryz.prog 102 e102 := fk {} ((base).add o138) Tryz.func102 (Λ := Lam.nil) nF
def e50 : GEnt := entOf [.data false .str] [(false, .str), (false, .bool)] fun a => Pu.spec_CheckFcs a.1
theorem o50 : FnOk Tryz.prog 50 e50 := fk { merge := fun | 1 => some 16 | _ => none } ((base).add o102) Tryz.func50 (Λ := Lam.nil) nF
def e106 : GEnt := entOf [.data false (.int .i64), .data false (.int .i64), .data false (.int .i64)] [(false, .bool)] fun a => Pu.spec_l01In a.1 a.2.1 a.2.2.1
theorem o106 : FnOk Tryz.prog 106 e106 := fk { merge := fun | 1 => some 6 | _ => none } (base) Tryz.func106 (Λ := Lam.nil) nF
def e110 : GEnt := entOf [.data true TSegment] [(false, .bool)] fun a => Pu.spec_SegmentOk a.1
theorem o110 : FnOk Tryz.prog 110 e110 := fk { merge := fun | 1 => some 18 | 4 => some 2 | 5 => some 2 | _ => none } ((base).add o106) Tryz.func110 (Λ := Lam.nil) nF
def e56 : GEnt := entOf [.data true TPacket] [(false, .bool)] fun a => Pu.spec_SuperOk a.1
theorem o56 : FnOk Tryz.prog 56 e56 := fk { merge := fun | 1 => some 55 | 3 => some 3 | 4 => some 2 | _ => none } (((base).add o106).add o110) Tryz.func56 (Λ := Lam.nil) nF
def e162 : GEnt := entOf [.data false .str, .data false (.int .i64), .data false (.int .i64)] [(false, .bool)] fun a => Pu.spec_l02Within a.1 a.2.1 a.2.2.1
theorem o162 : FnOk Tryz.prog 162 e162 := fk { merge := fun | 1 => some 6 | _ => none } (base) Tryz.func162 (Λ := Lam.nil) nF
def e139 : GEnt := entOf [.data false .str, .data false (.int .i64)] [(false, (.int .i64))] fun a => Pu.spec_Get16 a.1 a.2.1
theorem o139 : FnOk Tryz.prog 139 e139 := fk {} ((base).add o162) Tryz.func139 (Λ := Lam.nil) nF
def e140 : GEnt := entOf [.data false .str, .data false (.int .i64)] [(false, (.int .i64))] fun a => Pu.spec_Get32 a.1 a.2.1
theorem o140 : FnOk Tryz.prog 140 e140 := fk {} (((base).add o139).add o162) Tryz.func140 (Λ := Lam.nil) nF
def e141 : GEnt := entOf [.data true TEth] [(false, .bool)] fun a => Pu.spec_EthOk a.1
theorem o141 : FnOk Tryz.prog 141 e141 := fk { merge := fun | 1 => some 2 | _ => none } ((base).add o106) Tryz.func141 (Λ := Lam.nil) nF
def e103 : GEnt := entOf [.data false .str] [(true, (.pair (.int .i64) (.pair (.int .i64) (.pair (.int .i64) (.pair (.int .i64) .str))))), (false, .bool)] fun a => Pu.spec_ParseEth a.1
theorem o103 : FnOk Tryz.prog 103 e103 := fk { sb := fun | 4 => some 4 | _ => none } ((((base).add o139).add o140).add o141) Tryz.func103 (Λ := Lam.nil) nF
def e62 : GEnt := entOf [.data false (.int .i64)] [(false, .str)] fun a => Pu.spec_Word16 a.1
theorem o62 : FnOk Tryz.prog 62 e62 := fk {} ((base).add o106) Tryz.func62 (Λ := Lam.nil) nF
def e164 : GEnt := entOf [.data false (.int .i64)] [(false, .str)] fun a => Pu.spec_Word32 a.1
theorem o164 : FnOk Tryz.prog 164 e164 := fk {} ((base).add o106) Tryz.func164 (Λ := Lam.nil) nF
def e188 : GEnt := entOf [.data false (.int .i64), .data false (.int .i64)] [(false, (.int .i64))] fun a => Pu.spec_AddSums a.1 a.2.1
theorem o188 : FnOk Tryz.prog 188 e188 := fk { merge := fun | 1 => some 12 | _ => none } ((base).add o106) Tryz.func188 (Λ := Lam.nil) nF
def e180 : GEnt := entOf [.data false .str] [(false, (.int .i64))] fun a => Pu.spec_SumWords a.1
def g180 : Gam := (Gam.nil).add 188 e188
def n180 : An := { mask := fun | 3 => [0, 3, 4] | _ => [] }
@[reducible] def d180_3 : SD := ⟨[.data false .str,B,B,DI,DI,B,B,B,B,B,B,B,B,B,B,B,B,B,B,B,B,B,B,B,B,B,B,B,B,B,B,B,B], [Z,Z,Z,Z,Z,Z,Z,Z,Z,Z,Z,Z,Z,Z,Z,Z,Z,Z,Z,Z,Z,Z,Z,Z,Z,Z,Z,Z,Z,Z,Z,Z,Z], .none⟩
def t180_3 {R : Type} (X : SD.D d180_3) (K : Ex → AS → Option R) := Pu.spec_SumWords_T3 (fun y0 y1 => K (.exit 0) (SD.enc d180_3 ((X.1.1, (y0, (y1, ()))), (), ()))) X.1.1
def l180_3 : LEnt := ⟨d180_3, fun X K => iterL (t180_3 X K) fuel (X.1.2.1, X.1.2.2.1)⟩
def L180 : Lam := (Lam.nil).add 3 l180_3
theorem k180_3 : LOk E g180 n180 L180 (loopBody Tryz.f180 0) :=
  lok l180_3 (by kernel_rfl) fuel fun R X K => (loop_iter (σ := Int × Int) (fun x => SD.enc d180_3 ((X.1.1, (x.1, (x.2, ()))), (), ())) (t180_3 X K) (fun m x => by kernel_rfl) fuel (X.1.2.1, X.1.2.2.1)).symm
theorem o180 : FnOk Tryz.prog 180 e180 := fk n180 ((base).add o188) Tryz.func180 (Λ := L180) (cF k180_3 nF)
def e166 : GEnt := entOf [.data false .str] [(false, (.int .i64))] fun a => Pu.spec_Checksum a.1
theorem o166 : FnOk Tryz.prog 166 e166 := fk {} ((base).add o180) Tryz.func166 (Λ := Lam.nil) nF
def e167 : GEnt := entOf [.data false .str, .data false (.int .i64), .data false .str] [(false, .str)] fun a => Pu.spec_PutBytes a.1 a.2.1 a.2.2.1
theorem o167 : FnOk Tryz.prog 167 e167 := fk {} ((base).add o162) Tryz.func167 (Λ := Lam.nil) nF
def e179 : GEnt := entOf [.data true TIp] [(false, .bool)] fun a => Pu.spec_IpOk a.1
theorem o179 : FnOk Tryz.prog 179 e179 := fk { merge := fun | 1 => some 2 | _ => none } ((base).add o106) Tryz.func179 (Λ := Lam.nil) nF
def e163 : GEnt := entOf [.data true TIp] [(false, .str), (false, .bool)] fun a => Pu.spec_IpHeader a.1
theorem o163 : FnOk Tryz.prog 163 e163 := fk {} ((((((base).add o62).add o164).add o166).add o167).add o179) Tryz.func163 (Λ := Lam.nil) nF
def e142 : GEnt := entOf [.data true TIp] [(false, .str), (false, .bool)] fun a => Pu.spec_BuildIp a.1
theorem o142 : FnOk Tryz.prog 142 e142 := fk {} ((base).add o163) Tryz.func142 (Λ := Lam.nil) nF
def e104 : GEnt := entOf [.data false .str] [(true, (.pair (.int .i64) (.pair (.int .i64) (.pair (.int .i64) (.pair (.int .i64) (.pair (.int .i64) (.pair (.int .i64) .str))))))), (false, .bool)] fun a => Pu.spec_ParseIp a.1
theorem o104 : FnOk Tryz.prog 104 e104 := fk { merge := fun | 2 => some 22 | 6 => some 56 | _ => none, sb := fun | 5 => some 5 | _ => none } ((((base).add o139).add o140).add o142) Tryz.func104 (Λ := Lam.nil) nF
def e165 : GEnt := entOf [.data false (.int .i64), .data false (.int .i64), .data false (.int .i64), .data false (.int .i64)] [(false, .str), (false, .bool)] fun a => Pu.spec_PseudoHeader a.1 a.2.1 a.2.2.1 a.2.2.2.1
theorem o165 : FnOk Tryz.prog 165 e165 := fk { merge := fun | 1 => some 27 | _ => none } ((((base).add o62).add o106).add o164) Tryz.func165 (Λ := Lam.nil) nF
def e143 : GEnt := entOf [.data false (.int .i64), .data false (.int .i64), .data true TSegment] [(false, .str), (false, .bool)] fun a => Pu.spec_BuildSegment a.1 a.2.1 a.2.2.1
theorem o143 : FnOk Tryz.prog 143 e143 := fk { merge := fun | 14 => some 82 | _ => none } (((((((base).add o62).add o110).add o164).add o165).add o166).add o167) Tryz.func143 (Λ := Lam.nil) nF
def e105 : GEnt := entOf [.data false (.int .i64), .data false (.int .i64), .data false (.int .i64), .data false .str] [(true, (.pair (.int .i64) (.pair (.int .i64) (.pair (.int .i64) (.pair (.int .i64) (.pair (.int .i64) (.pair (.int .i64) (.pair (.int .i64) .str)))))))), (false, .bool)] fun a => Pu.spec_ParseSegment a.1 a.2.1 a.2.2.1 a.2.2.2.1
theorem o105 : FnOk Tryz.prog 105 e105 := fk { merge := fun | 3 => some 20 | 9 => some 44 | 12 => some 68 | _ => none } ((((base).add o139).add o140).add o143) Tryz.func105 (Λ := Lam.nil) nF
def e51 : GEnt := entOf [.data false .str] [(true, (.pair (.int .i64) (.pair (.int .i64) (.pair (.int .i64) (.pair (.int .i64) (.pair (.int .i64) (.pair (.int .i64) (.pair (.int .i64) (.pair (.int .i64) (.pair (.int .i64) (.pair (.int .i64) (.pair (.int .i64) (.pair (.int .i64) (.pair (.int .i64) (.pair (.int .i64) (.pair (.int .i64) .str)))))))))))))))), (false, (.int .i64))] fun a => Pu.spec_ReadImage a.1
theorem o51 : FnOk Tryz.prog 51 e51 := fk { merge := fun | 2 => some 20 | _ => none } (((((base).add o56).add o103).add o104).add o105) Tryz.func51 (Λ := Lam.nil) nF
def e52 : GEnt := entOf [.data true TPacket] [(false, .bool)] fun a => Pu.spec_PacketOk a.1
theorem o52 : FnOk Tryz.prog 52 e52 := fk { merge := fun | 1 => some 2 | _ => none } ((base).add o56) Tryz.func52 (Λ := Lam.nil) nF
def e16 : GEnt := entOf [.data false .str] [(true, (.pair (.int .i64) (.pair (.int .i64) (.pair (.int .i64) (.pair (.int .i64) (.pair (.int .i64) (.pair (.int .i64) (.pair (.int .i64) (.pair (.int .i64) (.pair (.int .i64) (.pair (.int .i64) (.pair (.int .i64) (.pair (.int .i64) (.pair (.int .i64) (.pair (.int .i64) (.pair (.int .i64) .str)))))))))))))))), (false, (.int .i64))] fun a => Pu.spec_ReadFrame a.1
theorem o16 : FnOk Tryz.prog 16 e16 := fk {} ((((base).add o50).add o51).add o52) Tryz.func16 (Λ := Lam.nil) nF
def e53 : GEnt := entOf [.data true TFilter] [(false, .bool)] fun a => Pu.spec_FilterOk a.1
def g53 : Gam := (Gam.nil).add 106 e106
def n53 : An := { mask := fun | 2 => [1, 2, 3] | _ => [], merge := fun | 4 => some 35 | 6 => some 2 | _ => none }
@[reducible] def d53_2 : SD := ⟨[B,.ptr 1 0,DB,DI,B,B,B,B,B,B,B,B,B,B,B,B,B,B,B,B,B,B,B,B,B,B,B,B,B,B,B,B,B,B,B,B,B,B,B,B,B,B,B,B,B], [Z,some (.pair (.int .i64) (.pair .bool (.sl .arg (.int .i64)))),Z,Z,Z,Z,Z,Z,Z,Z,Z,Z,Z,Z,Z,Z,Z,Z,Z,Z,Z,Z,Z,Z,Z,Z,Z,Z,Z,Z,Z,Z,Z,Z,Z,Z,Z,Z,Z,Z,Z,Z,Z,Z,Z], .none⟩
def t53_2 {R : Type} (X : SD.D d53_2) (K : Ex → AS → Option R) := Pu.spec_FilterOk_T2 (fun y0 => K (.exit 0) (SD.enc d53_2 ((X.1.1, (y0, ())), (X.2.1.1, ()), ()))) (fun y0 y1 => K .ret (SD.enc d53_2 ((y0, (y1, ())), (X.2.1.1, ()), ()))) X.1.1 X.2.1.1
def l53_2 : LEnt := ⟨d53_2, fun X K => iterL (t53_2 X K) fuel X.1.2.1⟩
def L53 : Lam := (Lam.nil).add 2 l53_2
theorem k53_2 : LOk E g53 n53 L53 (loopBody Tryz.f53 0) :=
  lok l53_2 (by kernel_rfl) fuel fun R X K => (loop_iter (σ := Int) (fun x => SD.enc d53_2 ((X.1.1, (x, ())), (X.2.1.1, ()), ())) (t53_2 X K) (fun m x => by kernel_rfl) fuel X.1.2.1).symm
theorem o53 : FnOk Tryz.prog 53 e53 := fk n53 ((base).add o106) Tryz.func53 (Λ := L53) (cF k53_2 nF)
def e144 : GEnt := entOf [.data true TRule] [(false, .bool)] fun a => Pu.spec_RuleOk a.1
theorem o144 : FnOk Tryz.prog 144 e144 := fk { merge := fun | 1 => some 33 | 3 => some 54 | 5 => some 2 | _ => none } ((base).add o106) Tryz.func144 (Λ := Lam.nil) nF
def e107 : GEnt := entOf [.data false (.sl TRule)] [(false, .bool)] fun a => Pu.spec_RulesOk a.1
def g107 : Gam := (Gam.nil).add 144 e144
def n107 : An := { mask := fun | 2 => [0, 2, 3] | _ => [] }
@[reducible] def d107_2 : SD := ⟨[.data false (.sl .arg TRule),B,DB,DI,B,B,B,B,B,B,B,B,B,B,B,B,B,B,B], [Z,Z,Z,Z,Z,Z,Z,Z,Z,Z,Z,Z,Z,Z,Z,Z,Z,Z,Z], .none⟩
def t107_2 {R : Type} (X : SD.D d107_2) (K : Ex → AS → Option R) := Pu.spec_RulesOk_T2 (fun y0 => K (.exit 0) (SD.enc d107_2 ((X.1.1, (X.1.2.1, (y0, ()))), (), ()))) (fun y0 y1 => K .ret (SD.enc d107_2 ((X.1.1, (y0, (y1, ()))), (), ()))) X.1.1 X.1.2.1
def l107_2 : LEnt := ⟨d107_2, fun X K => iterL (t107_2 X K) fuel X.1.2.2.1⟩
def L107 : Lam := (Lam.nil).add 2 l107_2
theorem k107_2 : LOk E g107 n107 L107 (loopBody Tryz.f107 0) :=
  lok l107_2 (by kernel_rfl) fuel fun R X K => (loop_iter (σ := Int) (fun x => SD.enc d107_2 ((X.1.1, (X.1.2.1, (x, ()))), (), ())) (t107_2 X K) (fun m x => by kernel_rfl) fuel X.1.2.2.1).symm
theorem o107 : FnOk Tryz.prog 107 e107 := fk n107 ((base).add o144) Tryz.func107 (Λ := L107) (cF k107_2 nF)
def e147 : GEnt := entOf [.data true TFlow] [(false, (.int .i64))] fun a => Pu.spec_HomeSlot a.1
def g147 : Gam := Gam.nil
def n147 : An := { mask := fun | 4 => [3, 4, 5] | _ => [] }
@[reducible] def d147_4 : SD := ⟨[B,B,B,DI,.data false (.sl (.own (some 49152)) (.int .i64)),DI,B,B,B,B,B,B,B,B,B,B,B,B,B,B,B,B,B,B,B,B,B,B,B,B,B,B], [Z,Z,Z,Z,Z,Z,Z,Z,Z,Z,Z,Z,Z,Z,Z,Z,Z,Z,Z,Z,Z,Z,Z,Z,Z,Z,Z,Z,Z,Z,Z,Z], .none⟩
def t147_4 {R : Type} (X : SD.D d147_4) (K : Ex → AS → Option R) := Pu.spec_HomeSlot_T4 (fun y0 y1 => K (.exit 0) (SD.enc d147_4 ((y0, (X.1.2.1, (y1, ()))), (), ()))) X.1.2.1
def l147_4 : LEnt := ⟨d147_4, fun X K => iterL (t147_4 X K) fuel (X.1.1, X.1.2.2.1)⟩
def L147 : Lam := (Lam.nil).add 4 l147_4
theorem k147_4 : LOk E g147 n147 L147 (loopBody Tryz.f147 0) :=
  lok l147_4 (by kernel_rfl) fuel fun R X K => (loop_iter (σ := Int × Int) (fun x => SD.enc d147_4 ((x.1, (X.1.2.1, (x.2, ()))), (), ())) (t147_4 X K) (fun m x => by kernel_rfl) fuel (X.1.1, X.1.2.2.1)).symm
theorem o147 : FnOk Tryz.prog 147 e147 := fk n147 (base) Tryz.func147 (Λ := L147) (cF k147_4 nF)
def e112 : GEnt := entOf [.data true (.sl TSlot), .data true TFlow] [(false, (.int .i64))] fun a => Pu.spec_l13Find a.1 a.2.1
def g112 : Gam := (Gam.nil).add 147 e147
def n112 : An := { mask := fun | 2 => [2, 3, 4, 5] | _ => [], merge := fun | 7 => some 39 | _ => none }
@[reducible] def d112_2 : SD := ⟨[B,B,.ptr 2 0,.ptr 3 0,DI,DI,B,B,B,B,B,B,B,B,B,B,B,B,B,B,B,B,B,B,B,B,B,B,B,B,B,B,B,B,B,B,B,B,B,B,B], [Z,Z,some (.sl .arg TSlot),some (.pair (.int .i64) (.pair (.int .i64) (.pair (.int .i64) (.pair (.int .i64) (.int .i64))))),Z,Z,Z,Z,Z,Z,Z,Z,Z,Z,Z,Z,Z,Z,Z,Z,Z,Z,Z,Z,Z,Z,Z,Z,Z,Z,Z,Z,Z,Z,Z,Z,Z,Z,Z,Z,Z], .none⟩
def t112_2 {R : Type} (X : SD.D d112_2) (K : Ex → AS → Option R) := Pu.spec_l13Find_T2 (fun y0 => K (.exit 0) (SD.enc d112_2 ((X.1.1, (y0, ())), (X.2.1.1, (X.2.1.2.1, ())), ()))) (fun y0 y1 => K .ret (SD.enc d112_2 ((y0, (y1, ())), (X.2.1.1, (X.2.1.2.1, ())), ()))) X.1.1 X.2.1.1 X.2.1.2.1
def l112_2 : LEnt := ⟨d112_2, fun X K => iterL (t112_2 X K) fuel X.1.2.1⟩
def L112 : Lam := (Lam.nil).add 2 l112_2
theorem k112_2 : LOk E g112 n112 L112 (loopBody Tryz.f112 0) :=
  lok l112_2 (by kernel_rfl) fuel fun R X K => (loop_iter (σ := Int) (fun x => SD.enc d112_2 ((X.1.1, (x, ())), (X.2.1.1, (X.2.1.2.1, ())), ())) (t112_2 X K) (fun m x => by kernel_rfl) fuel X.1.2.1).symm
theorem o112 : FnOk Tryz.prog 112 e112 := fk n112 ((base).add o147) Tryz.func112 (Λ := L112) (cF k112_2 nF)
def e108 : GEnt := entOf [.data true (.sl TSlot)] [(false, .bool)] fun a => Pu.spec_TableOk a.1
def g108 : Gam := ((Gam.nil).add 106 e106).add 112 e112
def n108 : An := { mask := fun | 4 => [1, 2, 3] | _ => [], merge := fun | 7 => some 30 | 10 => some 42 | _ => none }
@[reducible] def d108_4 : SD := ⟨[B,.ptr 1 0,DB,DI,B,B,B,B,B,B,B,B,B,B,B,B,B,B,B,B,B,B,B,B,B,B,B,B,B,B,B,B,B,B,B,B,B,B,B,B,B,B,B,B,B,B,B,B,B], [Z,some (.sl .arg TSlot),Z,Z,Z,Z,Z,Z,Z,Z,Z,Z,Z,Z,Z,Z,Z,Z,Z,Z,Z,Z,Z,Z,Z,Z,Z,Z,Z,Z,Z,Z,Z,Z,Z,Z,Z,Z,Z,Z,Z,Z,Z,Z,Z,Z,Z,Z,Z], .none⟩
def t108_4 {R : Type} (X : SD.D d108_4) (K : Ex → AS → Option R) := Pu.spec_TableOk_T4 (fun y0 => K (.exit 0) (SD.enc d108_4 ((X.1.1, (y0, ())), (X.2.1.1, ()), ()))) (fun y0 y1 => K .ret (SD.enc d108_4 ((y0, (y1, ())), (X.2.1.1, ()), ()))) X.1.1 X.2.1.1
def l108_4 : LEnt := ⟨d108_4, fun X K => iterL (t108_4 X K) fuel X.1.2.1⟩
def L108 : Lam := (Lam.nil).add 4 l108_4
theorem k108_4 : LOk E g108 n108 L108 (loopBody Tryz.f108 0) :=
  lok l108_4 (by kernel_rfl) fuel fun R X K => (loop_iter (σ := Int) (fun x => SD.enc d108_4 ((X.1.1, (x, ())), (X.2.1.1, ()), ())) (t108_4 X K) (fun m x => by kernel_rfl) fuel X.1.2.1).symm
theorem o108 : FnOk Tryz.prog 108 e108 := fk n108 (((base).add o106).add o112) Tryz.func108 (Λ := L108) (cF k108_4 nF)
def e145 : GEnt := entOf [.data false (.int .i64)] [(false, .bool)] fun a => Pu.spec_l12Size a.1
theorem o145 : FnOk Tryz.prog 145 e145 := fk { merge := fun | 1 => some 2 | _ => none } (base) Tryz.func145 (Λ := Lam.nil) nF
def e109 : GEnt := entOf [.data true TSpread, .data false (.int .i64)] [(false, .bool)] fun a => Pu.spec_SpreadOk a.1 a.2.1
def g109 : Gam := ((Gam.nil).add 106 e106).add 145 e145
def n109 : An := { mask := fun | 4 => [1, 2, 4, 5] | _ => [], merge := fun | 1 => some 21 | _ => none }
@[reducible] def d109_4 : SD := ⟨[B,DI,.ptr 2 0,B,DB,DI,B,B,B,B,B,B,B,B,B,B,B,B,B,B,B,B,B,B,B,B,B,B,B,B,B,B,B,B,B,B,B,B], [Z,Z,some (.pair .str (.sl .arg (.int .i64))),Z,Z,Z,Z,Z,Z,Z,Z,Z,Z,Z,Z,Z,Z,Z,Z,Z,Z,Z,Z,Z,Z,Z,Z,Z,Z,Z,Z,Z,Z,Z,Z,Z,Z,Z], .none⟩
def t109_4 {R : Type} (X : SD.D d109_4) (K : Ex → AS → Option R) := Pu.spec_SpreadOk_T4 (fun y0 => K (.exit 0) (SD.enc d109_4 ((X.1.1, (X.1.2.1, (y0, ()))), (X.2.1.1, ()), ()))) (fun y0 y1 => K .ret (SD.enc d109_4 ((X.1.1, (y0, (y1, ()))), (X.2.1.1, ()), ()))) X.1.1 X.1.2.1 X.2.1.1
def l109_4 : LEnt := ⟨d109_4, fun X K => iterL (t109_4 X K) fuel X.1.2.2.1⟩
def L109 : Lam := (Lam.nil).add 4 l109_4
theorem k109_4 : LOk E g109 n109 L109 (loopBody Tryz.f109 0) :=
  lok l109_4 (by kernel_rfl) fuel fun R X K => (loop_iter (σ := Int) (fun x => SD.enc d109_4 ((X.1.1, (X.1.2.1, (x, ()))), (X.2.1.1, ()), ())) (t109_4 X K) (fun m x => by kernel_rfl) fuel X.1.2.2.1).symm
theorem o109 : FnOk Tryz.prog 109 e109 := fk n109 (((base).add o106).add o145) Tryz.func109 (Λ := L109) (cF k109_4 nF)
def e54 : GEnt := entOf [.data true TSteering, .data false (.int .i64)] [(false, .bool)] fun a => Pu.spec_SteeringOk a.1 a.2.1
def g54 : Gam := (((Gam.nil).add 107 e107).add 108 e108).add 109 e109
def n54 : An := { mask := fun | 4 => [1, 2, 4, 5] | 9 => [1, 2, 4, 6] | _ => [], merge := fun | 1 => some 23 | _ => none }
@[reducible] def d54_4 : SD := ⟨[B,DI,.ptr 2 0,B,DB,DI,B,B,B,B,B,B,B,B,B,B,B,B,B,B,B,B,B,B,B,B,B,B,B,B,B,B,B,B,B,B,B,B,B,B,B,B,B,B,B,B,B,B,B,B,B,B,B,B,B,B], [Z,Z,some (.pair (.sl .arg TRule) (.pair (.sl .arg TSlot) (.pair .str (.sl .arg (.int .i64))))),Z,Z,Z,Z,Z,Z,Z,Z,Z,Z,Z,Z,Z,Z,Z,Z,Z,Z,Z,Z,Z,Z,Z,Z,Z,Z,Z,Z,Z,Z,Z,Z,Z,Z,Z,Z,Z,Z,Z,Z,Z,Z,Z,Z,Z,Z,Z,Z,Z,Z,Z,Z,Z], .none⟩
def t54_4 {R : Type} (X : SD.D d54_4) (K : Ex → AS → Option R) := Pu.spec_SteeringOk_T4 (fun y0 => K (.exit 0) (SD.enc d54_4 ((X.1.1, (X.1.2.1, (y0, ()))), (X.2.1.1, ()), ()))) (fun y0 y1 => K .ret (SD.enc d54_4 ((X.1.1, (y0, (y1, ()))), (X.2.1.1, ()), ()))) X.1.1 X.1.2.1 X.2.1.1
def l54_4 : LEnt := ⟨d54_4, fun X K => iterL (t54_4 X K) fuel X.1.2.2.1⟩
@[reducible] def d54_9 : SD := ⟨[B,DI,.ptr 2 0,B,DB,B,DI,B,B,B,B,B,B,B,B,B,B,B,B,B,B,B,B,B,B,B,B,B,B,B,B,B,B,B,B,B,B,B,B,B,B,B,B,B,B,B,B,B,B,B,B,B,B,B,B,B], [Z,Z,some (.pair (.sl .arg TRule) (.pair (.sl .arg TSlot) (.pair .str (.sl .arg (.int .i64))))),Z,Z,Z,Z,Z,Z,Z,Z,Z,Z,Z,Z,Z,Z,Z,Z,Z,Z,Z,Z,Z,Z,Z,Z,Z,Z,Z,Z,Z,Z,Z,Z,Z,Z,Z,Z,Z,Z,Z,Z,Z,Z,Z,Z,Z,Z,Z,Z,Z,Z,Z,Z,Z], .none⟩
def t54_9 {R : Type} (X : SD.D d54_9) (K : Ex → AS → Option R) := Pu.spec_SteeringOk_T9 (fun y0 => K (.exit 2) (SD.enc d54_9 ((X.1.1, (X.1.2.1, (y0, ()))), (X.2.1.1, ()), ()))) (fun y0 y1 => K .ret (SD.enc d54_9 ((X.1.1, (y0, (y1, ()))), (X.2.1.1, ()), ()))) X.1.1 X.1.2.1 X.2.1.1
def l54_9 : LEnt := ⟨d54_9, fun X K => iterL (t54_9 X K) fuel X.1.2.2.1⟩
def L54 : Lam := ((Lam.nil).add 4 l54_4).add 9 l54_9
theorem k54_4 : LOk E g54 n54 L54 (loopBody Tryz.f54 0) :=
  lok l54_4 (by kernel_rfl) fuel fun R X K => (loop_iter (σ := Int) (fun x => SD.enc d54_4 ((X.1.1, (X.1.2.1, (x, ()))), (X.2.1.1, ()), ())) (t54_4 X K) (fun m x => by kernel_rfl) fuel X.1.2.2.1).symm
theorem k54_9 : LOk E g54 n54 L54 (loopBody Tryz.f54 1) :=
  lok l54_9 (by kernel_rfl) fuel fun R X K => (loop_iter (σ := Int) (fun x => SD.enc d54_9 ((X.1.1, (X.1.2.1, (x, ()))), (X.2.1.1, ()), ())) (t54_9 X K) (fun m x => by kernel_rfl) fuel X.1.2.2.1).symm
theorem o54 : FnOk Tryz.prog 54 e54 := fk n54 ((((base).add o107).add o108).add o109) Tryz.func54 (Λ := L54) (cF k54_4 (cF k54_9 nF))
def e17 : GEnt := entOf [.data true TSoft] [(false, .bool)] fun a => Pu.spec_SoftOk a.1
theorem o17 : FnOk Tryz.prog 17 e17 := fk { merge := fun | 1 => some 2 | _ => none } (((base).add o53).add o54) Tryz.func17 (Λ := Lam.nil) nF
def e55 : GEnt := entOf [.data false (.sl (.int .i64)), .data false (.int .i64)] [(false, .bool)] fun a => Pu.spec_l24Has a.1 a.2.1
def g55 : Gam := Gam.nil
def n55 : An := { mask := fun | 2 => [0, 1, 4, 5] | _ => [] }
@[reducible] def d55_2 : SD := ⟨[.data false (.sl .arg (.int .i64)),DI,B,B,DB,DI,B,B,B,B,B,B,B,B,B,B,B,B], [Z,Z,Z,Z,Z,Z,Z,Z,Z,Z,Z,Z,Z,Z,Z,Z,Z,Z], .none⟩
def t55_2 {R : Type} (X : SD.D d55_2) (K : Ex → AS → Option R) := Pu.spec_l24Has_T2 (fun y0 => K (.exit 0) (SD.enc d55_2 ((X.1.1, (X.1.2.1, (X.1.2.2.1, (y0, ())))), (), ()))) (fun y0 y1 => K .ret (SD.enc d55_2 ((X.1.1, (X.1.2.1, (y0, (y1, ())))), (), ()))) X.1.1 X.1.2.1 X.1.2.2.1
def l55_2 : LEnt := ⟨d55_2, fun X K => iterL (t55_2 X K) fuel X.1.2.2.2.1⟩
def L55 : Lam := (Lam.nil).add 2 l55_2
theorem k55_2 : LOk E g55 n55 L55 (loopBody Tryz.f55 0) :=
  lok l55_2 (by kernel_rfl) fuel fun R X K => (loop_iter (σ := Int) (fun x => SD.enc d55_2 ((X.1.1, (X.1.2.1, (X.1.2.2.1, (x, ())))), (), ())) (t55_2 X K) (fun m x => by kernel_rfl) fuel X.1.2.2.2.1).symm
theorem o55 : FnOk Tryz.prog 55 e55 := fk n55 (base) Tryz.func55 (Λ := L55) (cF k55_2 nF)
def e18 : GEnt := entOf [.data true TFilter, .data true TPacket] [(false, .bool)] fun a => Pu.spec_Accepts a.1 a.2.1
theorem o18 : FnOk Tryz.prog 18 e18 := fk { merge := fun | 1 => some 4 | _ => none } (((base).add o53).add o55) Tryz.func18 (Λ := Lam.nil) nF
def e146 : GEnt := entOf [.data true TRule, .data true TPacket] [(false, .bool)] fun a => Pu.spec_l14Matches a.1 a.2.1
theorem o146 : FnOk Tryz.prog 146 e146 := fk { merge := fun | 1 => some 4 | _ => none } ((base).add o106) Tryz.func146 (Λ := Lam.nil) nF
def e111 : GEnt := entOf [.data true TRule, .data true TPacket] [(false, .bool)] fun a => Pu.spec_RuleMatches a.1 a.2.1
theorem o111 : FnOk Tryz.prog 111 e111 := fk { merge := fun | 1 => some 4 | _ => none } ((((base).add o56).add o144).add o146) Tryz.func111 (Λ := Lam.nil) nF
def e57 : GEnt := entOf [.data false (.sl TRule), .data true TPacket] [(false, (.int .i64))] fun a => Pu.spec_FindRule a.1 a.2.1
def g57 : Gam := ((Gam.nil).add 107 e107).add 111 e111
def n57 : An := { mask := fun | 3 => [0, 3, 5, 6] | _ => [], merge := fun | 3 => some 14 | 5 => some 39 | _ => none }
@[reducible] def d57_3 : SD := ⟨[.data false (.sl .arg TRule),B,B,.ptr 3 0,B,DI,DI,B,B,B,B,B,B,B,B,B,B,B,B,B,B,B,B,B,B,B,B,B,B,B,B,B,B,B,B,B,B,B,B,B,B,B], [Z,Z,Z,some (.pair (.int .i64) (.pair (.int .i64) (.pair (.int .i64) (.pair (.int .i64) (.pair (.int .i64) (.pair (.int .i64) (.pair (.int .i64) (.pair (.int .i64) (.pair (.int .i64) (.pair (.int .i64) (.pair (.int .i64) (.pair (.int .i64) (.pair (.int .i64) (.pair (.int .i64) (.pair (.int .i64) .str))))))))))))))),Z,Z,Z,Z,Z,Z,Z,Z,Z,Z,Z,Z,Z,Z,Z,Z,Z,Z,Z,Z,Z,Z,Z,Z,Z,Z,Z,Z,Z,Z,Z,Z,Z,Z,Z,Z,Z,Z], .none⟩
def t57_3 {R : Type} (X : SD.D d57_3) (K : Ex → AS → Option R) := Pu.spec_FindRule_T3 (fun y0 y1 => K (.exit 0) (SD.enc d57_3 ((X.1.1, (y0, (y1, ()))), (X.2.1.1, ()), ()))) X.1.1 X.2.1.1
def l57_3 : LEnt := ⟨d57_3, fun X K => iterL (t57_3 X K) fuel (X.1.2.1, X.1.2.2.1)⟩
def L57 : Lam := (Lam.nil).add 3 l57_3
theorem k57_3 : LOk E g57 n57 L57 (loopBody Tryz.f57 0) :=
  lok l57_3 (by kernel_rfl) fuel fun R X K => (loop_iter (σ := Int × Int) (fun x => SD.enc d57_3 ((X.1.1, (x.1, (x.2, ()))), (X.2.1.1, ()), ())) (t57_3 X K) (fun m x => by kernel_rfl) fuel (X.1.2.1, X.1.2.2.1)).symm
theorem o57 : FnOk Tryz.prog 57 e57 := fk n57 (((base).add o107).add o111) Tryz.func57 (Λ := L57) (cF k57_3 nF)
def e58 : GEnt := entOf [.data true (.sl TSlot), .data true TFlow] [(false, (.int .i64))] fun a => Pu.spec_FindFlow a.1 a.2.1
theorem o58 : FnOk Tryz.prog 58 e58 := fk {} (((base).add o108).add o112) Tryz.func58 (Λ := Lam.nil) nF
def e59 : GEnt := entOf [.data true TPacket] [(true, (.pair (.int .i64) (.pair (.int .i64) (.pair (.int .i64) (.pair (.int .i64) (.int .i64))))))] fun a => Pu.spec_FlowOf a.1
theorem o59 : FnOk Tryz.prog 59 e59 := fk {} (base) Tryz.func59 (Λ := Lam.nil) nF
def e181 : GEnt := entOf [.data false .str, .data false (.int .i64)] [(false, (.int .i64))] fun a => Pu.spec_l11Bit a.1 a.2.1
theorem o181 : FnOk Tryz.prog 181 e181 := fk {} (base) Tryz.func181 (Λ := Lam.nil) nF
def e182 : GEnt := entOf [.data false .str, .data false (.int .i64)] [(false, (.int .i64))] fun a => Pu.spec_KeyWindow a.1 a.2.1
def g182 : Gam := ((Gam.nil).add 106 e106).add 181 e181
def n182 : An := { mask := fun | 5 => [0, 1, 5, 6] | _ => [], merge := fun | 1 => some 14 | _ => none }
@[reducible] def d182_5 : SD := ⟨[.data false .str,DI,B,B,B,DI,DI,B,B,B,B,B,B,B,B,B,B,B,B,B,B,B,B,B,B,B,B,B], [Z,Z,Z,Z,Z,Z,Z,Z,Z,Z,Z,Z,Z,Z,Z,Z,Z,Z,Z,Z,Z,Z,Z,Z,Z,Z,Z,Z], .none⟩
def t182_5 {R : Type} (X : SD.D d182_5) (K : Ex → AS → Option R) := Pu.spec_KeyWindow_T5 (fun y0 y1 => K (.exit 0) (SD.enc d182_5 ((X.1.1, (X.1.2.1, (y0, (y1, ())))), (), ()))) X.1.1 X.1.2.1
def l182_5 : LEnt := ⟨d182_5, fun X K => iterL (t182_5 X K) fuel (X.1.2.2.1, X.1.2.2.2.1)⟩
def L182 : Lam := (Lam.nil).add 5 l182_5
theorem k182_5 : LOk E g182 n182 L182 (loopBody Tryz.f182 0) :=
  lok l182_5 (by kernel_rfl) fuel fun R X K => (loop_iter (σ := Int × Int) (fun x => SD.enc d182_5 ((X.1.1, (X.1.2.1, (x.1, (x.2, ())))), (), ())) (t182_5 X K) (fun m x => by kernel_rfl) fuel (X.1.2.2.1, X.1.2.2.2.1)).symm
theorem o182 : FnOk Tryz.prog 182 e182 := fk n182 (((base).add o106).add o181) Tryz.func182 (Λ := L182) (cF k182_5 nF)
def e168 : GEnt := entOf [.data false .str, .data false .str] [(false, (.int .i64))] fun a => Pu.spec_HashBytes a.1 a.2.1
def g168 : Gam := ((Gam.nil).add 181 e181).add 182 e182
def n168 : An := { mask := fun | 5 => [0, 1, 5, 6] | _ => [], merge := fun | 1 => some 14 | _ => none }
@[reducible] def d168_5 : SD := ⟨[.data false .str,.data false .str,B,B,B,DI,DI,B,B,B,B,B,B,B,B,B,B,B,B,B,B,B,B,B,B,B,B,B,B,B,B,B], [Z,Z,Z,Z,Z,Z,Z,Z,Z,Z,Z,Z,Z,Z,Z,Z,Z,Z,Z,Z,Z,Z,Z,Z,Z,Z,Z,Z,Z,Z,Z,Z], .none⟩
def t168_5 {R : Type} (X : SD.D d168_5) (K : Ex → AS → Option R) := Pu.spec_HashBytes_T5 (fun y0 y1 => K (.exit 0) (SD.enc d168_5 ((X.1.1, (X.1.2.1, (y0, (y1, ())))), (), ()))) X.1.1 X.1.2.1
def l168_5 : LEnt := ⟨d168_5, fun X K => iterL (t168_5 X K) fuel (X.1.2.2.1, X.1.2.2.2.1)⟩
def L168 : Lam := (Lam.nil).add 5 l168_5
theorem k168_5 : LOk E g168 n168 L168 (loopBody Tryz.f168 0) :=
  lok l168_5 (by kernel_rfl) fuel fun R X K => (loop_iter (σ := Int × Int) (fun x => SD.enc d168_5 ((X.1.1, (X.1.2.1, (x.1, (x.2, ())))), (), ())) (t168_5 X K) (fun m x => by kernel_rfl) fuel (X.1.2.2.1, X.1.2.2.2.1)).symm
theorem o168 : FnOk Tryz.prog 168 e168 := fk n168 (((base).add o181).add o182) Tryz.func168 (Λ := L168) (cF k168_5 nF)
def e169 : GEnt := entOf [.data true TFlow] [(false, .str)] fun a => Pu.spec_HashInput a.1
theorem o169 : FnOk Tryz.prog 169 e169 := fk {} (((base).add o62).add o164) Tryz.func169 (Λ := Lam.nil) nF
def e148 : GEnt := entOf [.data false .str, .data true TFlow] [(false, (.int .i64))] fun a => Pu.spec_HashFlow a.1 a.2.1
theorem o148 : FnOk Tryz.prog 148 e148 := fk {} (((base).add o168).add o169) Tryz.func148 (Λ := Lam.nil) nF
def e113 : GEnt := entOf [.data true TSpread, .data true TFlow] [(false, (.int .i64))] fun a => Pu.spec_EntryOf a.1 a.2.1
theorem o113 : FnOk Tryz.prog 113 e113 := fk { merge := fun | 2 => some 17 | _ => none } ((base).add o148) Tryz.func113 (Λ := Lam.nil) nF
def e60 : GEnt := entOf [.data true TSpread, .data false (.int .i64), .data true TFlow] [(false, (.int .i64))] fun a => Pu.spec_SpreadQueue a.1 a.2.1 a.2.2.1
theorem o60 : FnOk Tryz.prog 60 e60 := fk { merge := fun | 2 => some 18 | _ => none } (((base).add o109).add o113) Tryz.func60 (Λ := Lam.nil) nF
def e19 : GEnt := entOf [.data true TSteering, .data false (.int .i64), .data true TPacket] [(false, (.int .i64))] fun a => Pu.spec_SteerPacket a.1 a.2.1 a.2.2.1
theorem o19 : FnOk Tryz.prog 19 e19 := fk { merge := fun | 1 => some 17 | _ => none } (((((((base).add o54).add o56).add o57).add o58).add o59).add o60) Tryz.func19 (Λ := Lam.nil) nF
def e61 : GEnt := entOf [.data false (.sl TStream), .data true TFlow] [(false, (.int .i64))] fun a => Pu.spec_StreamIndex a.1 a.2.1
def g61 : Gam := Gam.nil
def n61 : An := { mask := fun | 2 => [0, 3, 4, 5] | _ => [] }
@[reducible] def d61_2 : SD := ⟨[.data false (.sl .arg TStream),B,B,.ptr 3 0,DI,DI,B,B,B,B,B,B,B,B,B,B,B,B,B,B], [Z,Z,Z,some (.pair (.int .i64) (.pair (.int .i64) (.pair (.int .i64) (.pair (.int .i64) (.int .i64))))),Z,Z,Z,Z,Z,Z,Z,Z,Z,Z,Z,Z,Z,Z,Z,Z], .none⟩
def t61_2 {R : Type} (X : SD.D d61_2) (K : Ex → AS → Option R) := Pu.spec_StreamIndex_T2 (fun y0 => K (.exit 0) (SD.enc d61_2 ((X.1.1, (X.1.2.1, (y0, ()))), (X.2.1.1, ()), ()))) (fun y0 y1 => K .ret (SD.enc d61_2 ((X.1.1, (y0, (y1, ()))), (X.2.1.1, ()), ()))) X.1.1 X.1.2.1 X.2.1.1
def l61_2 : LEnt := ⟨d61_2, fun X K => iterL (t61_2 X K) fuel X.1.2.2.1⟩
def L61 : Lam := (Lam.nil).add 2 l61_2
theorem k61_2 : LOk E g61 n61 L61 (loopBody Tryz.f61 0) :=
  lok l61_2 (by kernel_rfl) fuel fun R X K => (loop_iter (σ := Int) (fun x => SD.enc d61_2 ((X.1.1, (X.1.2.1, (x, ()))), (X.2.1.1, ()), ())) (t61_2 X K) (fun m x => by kernel_rfl) fuel X.1.2.2.1).symm
theorem o61 : FnOk Tryz.prog 61 e61 := fk n61 (base) Tryz.func61 (Λ := L61) (cF k61_2 nF)
def e20 : GEnt := entOf [.data false (.sl TStream), .data true TPacket] [(false, (.sl (.own none) TStream))] fun a => Pu.spec_Deliver a.1 a.2.1
theorem o20 : FnOk Tryz.prog 20 e20 := fk { merge := fun | 17 => some 84 | _ => none, mv := [16, 31, 53, 60, 69, 85, 139] } (((((base).add o56).add o59).add o61).add o62) Tryz.func20 (Λ := Lam.nil) nF
def e5 : GEnt := entOf [.data true TSoft, .data false .str] [(true, (.pair (.pair (.int .i64) (.pair .bool (.sl (.own none) (.int .i64)))) (.pair (.pair (.sl (.own none) TRule) (.pair (.sl (.own none) TSlot) (.pair .str (.sl (.own none) (.int .i64))))) (.pair (.int .i64) (.pair (.sl (.own none) TStream) (.sl (.own none) .str))))))] fun a => Pu.spec_SoftReceive a.1 a.2.1
theorem o5 : FnOk Tryz.prog 5 e5 := fk { merge := fun | 3 => some 35 | _ => none, mv := [41] } (((((((base).add o15).add o16).add o17).add o18).add o19).add o20) Tryz.func5 (Λ := Lam.nil) nF
def e63 : GEnt := entOf [.data false (.sl (.int .i64))] [(false, (.sl (.own none) (.int .i64)))] fun a => Pu.laws_toIntS a.1
def g63 : Gam := Gam.nil
def n63 : An := { mask := fun | 3 => [0, 3, 4] | _ => [], mv := [21] }
@[reducible] def d63_3 : SD := ⟨[.data false (.sl .arg (.int .i64)),B,B,.data false (.sl (.own (some 36864)) (.int .i64)),DI,B,B,B,B,B,B,B,B,B,B,B,B,B,B,B,B,B], [Z,Z,Z,Z,Z,Z,Z,Z,Z,Z,Z,Z,Z,Z,Z,Z,Z,Z,Z,Z,Z,Z], .none⟩
def t63_3 {R : Type} (X : SD.D d63_3) (K : Ex → AS → Option R) := Pu.laws_toIntS_T3 (fun y0 y1 => K (.exit 0) (SD.enc d63_3 ((X.1.1, (y0, (y1, ()))), (), ()))) X.1.1
def l63_3 : LEnt := ⟨d63_3, fun X K => iterL (t63_3 X K) fuel (X.1.2.1, X.1.2.2.1)⟩
def L63 : Lam := (Lam.nil).add 3 l63_3
theorem k63_3 : LOk E g63 n63 L63 (loopBody Tryz.f63 0) :=
  lok l63_3 (by kernel_rfl) fuel fun R X K => (loop_iter (σ := (List Int) × Int) (fun x => SD.enc d63_3 ((X.1.1, (x.1, (x.2, ()))), (), ())) (t63_3 X K) (fun m x => by kernel_rfl) fuel (X.1.2.1, X.1.2.2.1)).symm
theorem o63 : FnOk Tryz.prog 63 e63 := fk n63 (base) Tryz.func63 (Λ := L63) (cF k63_3 nF)
def e21 : GEnt := entOf [.data true TFilter] [(true, (.pair (.int .i64) (.pair .bool (.sl (.own none) (.int .i64)))))] fun a => Pu.laws_toFilter a.1
theorem o21 : FnOk Tryz.prog 21 e21 := fk { mv := [14] } ((base).add o63) Tryz.func21 (Λ := Lam.nil) nF
def e114 : GEnt := entOf [.data true TRule] [(true, (.pair (.int .i64) (.pair (.int .i64) (.pair (.int .i64) (.pair (.int .i64) (.pair (.int .i64) (.pair (.int .i64) (.pair (.int .i64) (.pair (.int .i64) (.int .i64))))))))))] fun a => Pu.laws_toRule a.1
theorem o114 : FnOk Tryz.prog 114 e114 := fk {} (base) Tryz.func114 (Λ := Lam.nil) nF
def e64 : GEnt := entOf [.data false (.sl TRule)] [(false, (.sl (.own none) TRule))] fun a => Pu.laws_toRuleS a.1
def g64 : Gam := (Gam.nil).add 114 e114
def n64 : An := { mask := fun | 3 => [0, 3, 4] | _ => [], mv := [22] }
@[reducible] def d64_3 : SD := ⟨[.data false (.sl .arg TRule),B,B,.data false (.sl (.own (some 36864)) TRule),DI,B,B,B,B,B,B,B,B,B,B,B,B,B,B,B,B,B,B], [Z,Z,Z,Z,Z,Z,Z,Z,Z,Z,Z,Z,Z,Z,Z,Z,Z,Z,Z,Z,Z,Z,Z], .none⟩
def t64_3 {R : Type} (X : SD.D d64_3) (K : Ex → AS → Option R) := Pu.laws_toRuleS_T3 (fun y0 y1 => K (.exit 0) (SD.enc d64_3 ((X.1.1, (y0, (y1, ()))), (), ()))) X.1.1
def l64_3 : LEnt := ⟨d64_3, fun X K => iterL (t64_3 X K) fuel (X.1.2.1, X.1.2.2.1)⟩
def L64 : Lam := (Lam.nil).add 3 l64_3
theorem k64_3 : LOk E g64 n64 L64 (loopBody Tryz.f64 0) :=
  lok l64_3 (by kernel_rfl) fuel fun R X K => (loop_iter (σ := (List Pu.Rule) × Int) (fun x => SD.enc d64_3 ((X.1.1, (x.1, (x.2, ()))), (), ())) (t64_3 X K) (fun m x => by kernel_rfl) fuel (X.1.2.1, X.1.2.2.1)).symm
theorem o64 : FnOk Tryz.prog 64 e64 := fk n64 ((base).add o114) Tryz.func64 (Λ := L64) (cF k64_3 nF)
def e116 : GEnt := entOf [.data true TFlow] [(true, (.pair (.int .i64) (.pair (.int .i64) (.pair (.int .i64) (.pair (.int .i64) (.int .i64))))))] fun a => Pu.laws_toFlow a.1
theorem o116 : FnOk Tryz.prog 116 e116 := fk {} (base) Tryz.func116 (Λ := Lam.nil) nF
def e149 : GEnt := entOf [.data true TSlot] [(true, (.pair (.int .i64) (.pair (.pair (.int .i64) (.pair (.int .i64) (.pair (.int .i64) (.pair (.int .i64) (.int .i64))))) (.int .i64))))] fun a => Pu.laws_toSlot a.1
theorem o149 : FnOk Tryz.prog 149 e149 := fk {} ((base).add o116) Tryz.func149 (Λ := Lam.nil) nF
def e115 : GEnt := entOf [.data false (.sl TSlot)] [(false, (.sl (.own none) TSlot))] fun a => Pu.laws_toSlotS a.1
def g115 : Gam := (Gam.nil).add 149 e149
def n115 : An := { mask := fun | 3 => [0, 3, 4] | _ => [], mv := [22] }
@[reducible] def d115_3 : SD := ⟨[.data false (.sl .arg TSlot),B,B,.data false (.sl (.own (some 36864)) TSlot),DI,B,B,B,B,B,B,B,B,B,B,B,B,B,B,B,B,B,B], [Z,Z,Z,Z,Z,Z,Z,Z,Z,Z,Z,Z,Z,Z,Z,Z,Z,Z,Z,Z,Z,Z,Z], .none⟩
def t115_3 {R : Type} (X : SD.D d115_3) (K : Ex → AS → Option R) := Pu.laws_toSlotS_T3 (fun y0 y1 => K (.exit 0) (SD.enc d115_3 ((X.1.1, (y0, (y1, ()))), (), ()))) X.1.1
def l115_3 : LEnt := ⟨d115_3, fun X K => iterL (t115_3 X K) fuel (X.1.2.1, X.1.2.2.1)⟩
def L115 : Lam := (Lam.nil).add 3 l115_3
theorem k115_3 : LOk E g115 n115 L115 (loopBody Tryz.f115 0) :=
  lok l115_3 (by kernel_rfl) fuel fun R X K => (loop_iter (σ := (List Pu.Slot) × Int) (fun x => SD.enc d115_3 ((X.1.1, (x.1, (x.2, ()))), (), ())) (t115_3 X K) (fun m x => by kernel_rfl) fuel (X.1.2.1, X.1.2.2.1)).symm
theorem o115 : FnOk Tryz.prog 115 e115 := fk n115 ((base).add o149) Tryz.func115 (Λ := L115) (cF k115_3 nF)
def e65 : GEnt := entOf [.data true (.sl TSlot)] [(true, (.sl (.own none) TSlot))] fun a => Pu.laws_toFlowTable a.1
theorem o65 : FnOk Tryz.prog 65 e65 := fk { mv := [8] } ((base).add o115) Tryz.func65 (Λ := Lam.nil) nF
def e66 : GEnt := entOf [.data true TSpread] [(true, (.pair .str (.sl (.own none) (.int .i64))))] fun a => Pu.laws_toSpread a.1
theorem o66 : FnOk Tryz.prog 66 e66 := fk { mv := [11] } ((base).add o63) Tryz.func66 (Λ := Lam.nil) nF
def e22 : GEnt := entOf [.data true TSteering] [(true, (.pair (.sl (.own none) TRule) (.pair (.sl (.own none) TSlot) (.pair .str (.sl (.own none) (.int .i64))))))] fun a => Pu.laws_toSteering a.1
theorem o22 : FnOk Tryz.prog 22 e22 := fk { mv := [16] } ((((base).add o64).add o65).add o66) Tryz.func22 (Λ := Lam.nil) nF
def e67 : GEnt := entOf [.data true TStream] [(true, (.pair (.pair (.int .i64) (.pair (.int .i64) (.pair (.int .i64) (.pair (.int .i64) (.int .i64))))) (.pair (.int .i64) (.pair .str .bool))))] fun a => Pu.laws_toStream a.1
theorem o67 : FnOk Tryz.prog 67 e67 := fk {} ((base).add o116) Tryz.func67 (Λ := Lam.nil) nF
def e23 : GEnt := entOf [.data false (.sl TStream)] [(false, (.sl (.own none) TStream))] fun a => Pu.laws_toStreamS a.1
def g23 : Gam := (Gam.nil).add 67 e67
def n23 : An := { mask := fun | 3 => [0, 3, 4] | _ => [], mv := [22] }
@[reducible] def d23_3 : SD := ⟨[.data false (.sl .arg TStream),B,B,.data false (.sl (.own (some 36864)) TStream),DI,B,B,B,B,B,B,B,B,B,B,B,B,B,B,B,B,B,B], [Z,Z,Z,Z,Z,Z,Z,Z,Z,Z,Z,Z,Z,Z,Z,Z,Z,Z,Z,Z,Z,Z,Z], .none⟩
def t23_3 {R : Type} (X : SD.D d23_3) (K : Ex → AS → Option R) := Pu.laws_toStreamS_T3 (fun y0 y1 => K (.exit 0) (SD.enc d23_3 ((X.1.1, (y0, (y1, ()))), (), ()))) X.1.1
def l23_3 : LEnt := ⟨d23_3, fun X K => iterL (t23_3 X K) fuel (X.1.2.1, X.1.2.2.1)⟩
def L23 : Lam := (Lam.nil).add 3 l23_3
theorem k23_3 : LOk E g23 n23 L23 (loopBody Tryz.f23 0) :=
  lok l23_3 (by kernel_rfl) fuel fun R X K => (loop_iter (σ := (List Pu.Stream) × Int) (fun x => SD.enc d23_3 ((X.1.1, (x.1, (x.2, ()))), (), ())) (t23_3 X K) (fun m x => by kernel_rfl) fuel (X.1.2.1, X.1.2.2.1)).symm
theorem o23 : FnOk Tryz.prog 23 e23 := fk n23 ((base).add o67) Tryz.func23 (Λ := L23) (cF k23_3 nF)
def e24 : GEnt := entOf [.data false (.sl .str)] [(false, (.sl (.own none) .str))] fun a => Pu.laws_toStringS a.1
def g24 : Gam := Gam.nil
def n24 : An := { mask := fun | 3 => [0, 3, 4] | _ => [], mv := [21] }
@[reducible] def d24_3 : SD := ⟨[.data false (.sl .arg .str),B,B,.data false (.sl (.own (some 36864)) .str),DI,B,B,B,B,B,B,B,B,B,B,B,B,B,B,B,B,B], [Z,Z,Z,Z,Z,Z,Z,Z,Z,Z,Z,Z,Z,Z,Z,Z,Z,Z,Z,Z,Z,Z], .none⟩
def t24_3 {R : Type} (X : SD.D d24_3) (K : Ex → AS → Option R) := Pu.laws_toStringS_T3 (fun y0 y1 => K (.exit 0) (SD.enc d24_3 ((X.1.1, (y0, (y1, ()))), (), ()))) X.1.1
def l24_3 : LEnt := ⟨d24_3, fun X K => iterL (t24_3 X K) fuel (X.1.2.1, X.1.2.2.1)⟩
def L24 : Lam := (Lam.nil).add 3 l24_3
theorem k24_3 : LOk E g24 n24 L24 (loopBody Tryz.f24 0) :=
  lok l24_3 (by kernel_rfl) fuel fun R X K => (loop_iter (σ := (List Pu.Bytes) × Int) (fun x => SD.enc d24_3 ((X.1.1, (x.1, (x.2, ()))), (), ())) (t24_3 X K) (fun m x => by kernel_rfl) fuel (X.1.2.1, X.1.2.2.1)).symm
theorem o24 : FnOk Tryz.prog 24 e24 := fk n24 (base) Tryz.func24 (Λ := L24) (cF k24_3 nF)
def e6 : GEnt := entOf [.data true TSoft] [(true, (.pair (.pair (.int .i64) (.pair .bool (.sl (.own none) (.int .i64)))) (.pair (.pair (.sl (.own none) TRule) (.pair (.sl (.own none) TSlot) (.pair .str (.sl (.own none) (.int .i64))))) (.pair (.int .i64) (.pair (.sl (.own none) TStream) (.sl (.own none) .str))))))] fun a => Pu.laws_toSoft a.1
theorem o6 : FnOk Tryz.prog 6 e6 := fk { mv := [23] } (((((base).add o21).add o22).add o23).add o24) Tryz.func6 (Λ := Lam.nil) nF
def e117 : GEnt := entOf [.data false (.sl (.int .i64))] [(false, (.sl (.own none) (.int .i64)))] fun a => Pu.impl_copyInts a.1
theorem o117 : FnOk Tryz.prog 117 e117 := fk {} (base) Tryz.func117 (Λ := Lam.nil) nF
def e68 : GEnt := entOf [.data true TFilter] [(true, (.pair (.int .i64) (.pair .bool (.sl (.own none) (.int .i64)))))] fun a => Pu.impl_copyFilter a.1
theorem o68 : FnOk Tryz.prog 68 e68 := fk { mv := [7] } ((base).add o117) Tryz.func68 (Λ := Lam.nil) nF
def e118 : GEnt := entOf [.data true (.sl TSlot)] [(true, (.sl (.own none) TSlot))] fun a => Pu.impl_copyTable a.1
theorem o118 : FnOk Tryz.prog 118 e118 := fk {} (base) Tryz.func118 (Λ := Lam.nil) nF
def e119 : GEnt := entOf [.data true TSpread] [(true, (.pair .str (.sl (.own none) (.int .i64))))] fun a => Pu.impl_copySpread a.1
theorem o119 : FnOk Tryz.prog 119 e119 := fk { sb := fun | 2 => some 2 | _ => none } ((base).add o117) Tryz.func119 (Λ := Lam.nil) nF
def e69 : GEnt := entOf [.data true TSteering] [(true, (.pair (.sl (.own none) TRule) (.pair (.sl (.own none) TSlot) (.pair .str (.sl (.own none) (.int .i64))))))] fun a => Pu.impl_copySteering a.1
theorem o69 : FnOk Tryz.prog 69 e69 := fk { sb := fun | 2 => some 2 | _ => none } (((base).add o118).add o119) Tryz.func69 (Λ := Lam.nil) nF
def e70 : GEnt := entOf [.data false (.sl TStream)] [(false, (.sl (.own none) TStream))] fun a => Pu.impl_copyStreams a.1
theorem o70 : FnOk Tryz.prog 70 e70 := fk {} (base) Tryz.func70 (Λ := Lam.nil) nF
def e71 : GEnt := entOf [.data false (.sl .str)] [(false, (.sl (.own none) .str))] fun a => Pu.impl_copyStrings a.1
theorem o71 : FnOk Tryz.prog 71 e71 := fk {} (base) Tryz.func71 (Λ := Lam.nil) nF
def e25 : GEnt := entOf [.data true TSoft] [(true, (.pair (.pair (.int .i64) (.pair .bool (.sl (.own none) (.int .i64)))) (.pair (.pair (.sl (.own none) TRule) (.pair (.sl (.own none) TSlot) (.pair .str (.sl (.own none) (.int .i64))))) (.pair (.int .i64) (.pair (.sl (.own none) TStream) (.sl (.own none) .str))))))] fun a => Pu.impl_copySoft a.1
theorem o25 : FnOk Tryz.prog 25 e25 := fk { sb := fun | 2 => some 2 | _ => none } (((((base).add o68).add o69).add o70).add o71) Tryz.func25 (Λ := Lam.nil) nF
def e150 : GEnt := entOf [.data false .str] [(false, (.int .i64))] fun a => Pu.impl_Crc32 a.1
def g150 : Gam := Gam.nil
def n150 : An := { mask := fun | 3 => [0, 3, 4] | 7 => [0, 3, 4, 5] | _ => [] }
@[reducible] def d150_7 : SD := ⟨[.data false .str,B,B,.data false (.int .u32),DI,DI,B,B,B,B,B,B,B,B,B,B,B,B,B,B,B,B,B,B,B,B,B,B,B,B,B,B,B,B], [Z,Z,Z,Z,Z,Z,Z,Z,Z,Z,Z,Z,Z,Z,Z,Z,Z,Z,Z,Z,Z,Z,Z,Z,Z,Z,Z,Z,Z,Z,Z,Z,Z,Z], .none⟩
def t150_7 {R : Type} (X : SD.D d150_7) (K : Ex → AS → Option R) := Pu.impl_Crc32_T7 (fun y0 y1 => K (.exit 2) (SD.enc d150_7 ((X.1.1, (y0, (X.1.2.2.1, (y1, ())))), (), ()))) X.1.1 X.1.2.2.1
def l150_7 : LEnt := ⟨d150_7, fun X K => iterL (t150_7 X K) fuel (X.1.2.1, X.1.2.2.2.1)⟩
@[reducible] def d150_3 : SD := ⟨[.data false .str,B,B,.data false (.int .u32),DI,B,B,B,B,B,B,B,B,B,B,B,B,B,B,B,B,B,B,B,B,B,B,B,B,B,B,B,B,B], [Z,Z,Z,Z,Z,Z,Z,Z,Z,Z,Z,Z,Z,Z,Z,Z,Z,Z,Z,Z,Z,Z,Z,Z,Z,Z,Z,Z,Z,Z,Z,Z,Z,Z], .none⟩
def t150_3 {R : Type} (X : SD.D d150_3) (K : Ex → AS → Option R) := Pu.impl_Crc32_T3 (fun y0 y1 => K (.exit 0) (SD.enc d150_3 ((X.1.1, (y0, (y1, ()))), (), ()))) X.1.1
def l150_3 : LEnt := ⟨d150_3, fun X K => iterL (t150_3 X K) fuel (X.1.2.1, X.1.2.2.1)⟩
def L150 : Lam := ((Lam.nil).add 7 l150_7).add 3 l150_3
theorem k150_7 : LOk E g150 n150 L150 (loopBody Tryz.f150 1) :=
  lok l150_7 (by kernel_rfl) fuel fun R X K => (loop_iter (σ := Int × Int) (fun x => SD.enc d150_7 ((X.1.1, (x.1, (X.1.2.2.1, (x.2, ())))), (), ())) (t150_7 X K) (fun m x => by kernel_rfl) fuel (X.1.2.1, X.1.2.2.2.1)).symm
theorem k150_3 : LOk E g150 n150 L150 (loopBody Tryz.f150 0) :=
  lok l150_3 (by kernel_rfl) fuel fun R X K => (loop_iter (σ := Int × Int) (fun x => SD.enc d150_3 ((X.1.1, (x.1, (x.2, ()))), (), ())) (t150_3 X K) (fun m x => by kernel_rfl) fuel (X.1.2.1, X.1.2.2.1)).symm
theorem o150 : FnOk Tryz.prog 150 e150 := fk n150 (base) Tryz.func150 (Λ := L150) (cF k150_3 (cF k150_7 nF))
def e120 : GEnt := entOf [.data false .str] [(false, .str)] fun a => Pu.impl_WithFcs a.1
theorem o120 : FnOk Tryz.prog 120 e120 := fk {} ((base).add o150) Tryz.func120 (Λ := Lam.nil) nF
def e72 : GEnt := entOf [.data false .str] [(false, .str), (false, .bool)] fun a => Pu.impl_CheckFcs a.1
theorem o72 : FnOk Tryz.prog 72 e72 := fk { merge := fun | 2 => some 17 | _ => none } ((base).add o120) Tryz.func72 (Λ := Lam.nil) nF
def e124 : GEnt := entOf [.data false (.int .i64), .data false (.int .i64), .data false (.int .i64)] [(false, .bool)] fun a => Pu.impl_between a.1 a.2.1 a.2.2.1
theorem o124 : FnOk Tryz.prog 124 e124 := fk { merge := fun | 1 => some 6 | _ => none } (base) Tryz.func124 (Λ := Lam.nil) nF
def e128 : GEnt := entOf [.data true TSegment] [(false, .bool)] fun a => Pu.impl_SegmentOk a.1
theorem o128 : FnOk Tryz.prog 128 e128 := fk { merge := fun | 1 => some 18 | 5 => some 2 | 7 => some 2 | _ => none } ((base).add o124) Tryz.func128 (Λ := Lam.nil) nF
def e129 : GEnt := entOf [.data false (.int .i64)] [(false, .bool)] fun a => Pu.impl_streaming a.1
theorem o129 : FnOk Tryz.prog 129 e129 := fk { merge := fun | 1 => some 2 | _ => none } (base) Tryz.func129 (Λ := Lam.nil) nF
def e78 : GEnt := entOf [.data true TPacket] [(false, .bool)] fun a => Pu.impl_SuperOk a.1
theorem o78 : FnOk Tryz.prog 78 e78 := fk { merge := fun | 1 => some 2 | _ => none } ((((base).add o124).add o128).add o129) Tryz.func78 (Λ := Lam.nil) nF
def e151 : GEnt := entOf [.data false .str, .data false (.int .i64)] [(false, (.int .i64))] fun a => Pu.impl_Get16 a.1 a.2.1
theorem o151 : FnOk Tryz.prog 151 e151 := fk { merge := fun | 1 => some 13 | _ => none } (base) Tryz.func151 (Λ := Lam.nil) nF
def e152 : GEnt := entOf [.data false .str, .data false (.int .i64)] [(false, (.int .i64))] fun a => Pu.impl_Get32 a.1 a.2.1
theorem o152 : FnOk Tryz.prog 152 e152 := fk { merge := fun | 1 => some 13 | _ => none } (base) Tryz.func152 (Λ := Lam.nil) nF
def e153 : GEnt := entOf [.data true TEth] [(false, .bool)] fun a => Pu.impl_EthOk a.1
theorem o153 : FnOk Tryz.prog 153 e153 := fk { merge := fun | 1 => some 2 | _ => none } ((base).add o124) Tryz.func153 (Λ := Lam.nil) nF
def e121 : GEnt := entOf [.data false .str] [(true, (.pair (.int .i64) (.pair (.int .i64) (.pair (.int .i64) (.pair (.int .i64) .str))))), (false, .bool)] fun a => Pu.impl_ParseEth a.1
theorem o121 : FnOk Tryz.prog 121 e121 := fk { merge := fun | 4 => some 33 | _ => none, sb := fun | 4 => some 4 | _ => none } ((((base).add o151).add o152).add o153) Tryz.func121 (Λ := Lam.nil) nF
def e84 : GEnt := entOf [.data false (.int .i64)] [(false, .str)] fun a => Pu.impl_Word16 a.1
theorem o84 : FnOk Tryz.prog 84 e84 := fk {} ((base).add o124) Tryz.func84 (Λ := Lam.nil) nF
def e189 : GEnt := entOf [.data false (.int .i64), .data false (.int .i64)] [(false, (.int .i64))] fun a => Pu.impl_AddSums a.1 a.2.1
theorem o189 : FnOk Tryz.prog 189 e189 := fk { merge := fun | 1 => some 12 | _ => none } ((base).add o124) Tryz.func189 (Λ := Lam.nil) nF
def e185 : GEnt := entOf [.data false .str] [(false, (.int .i64))] fun a => Pu.impl_SumWords a.1
def g185 : Gam := (Gam.nil).add 189 e189
def n185 : An := { mask := fun | 3 => [0, 3, 4] | _ => [] }
@[reducible] def d185_3 : SD := ⟨[.data false .str,B,B,DI,DI,B,B,B,B,B,B,B,B,B,B,B,B,B,B,B,B,B,B,B,B,B,B,B,B,B,B,B,B], [Z,Z,Z,Z,Z,Z,Z,Z,Z,Z,Z,Z,Z,Z,Z,Z,Z,Z,Z,Z,Z,Z,Z,Z,Z,Z,Z,Z,Z,Z,Z,Z,Z], .none⟩
def t185_3 {R : Type} (X : SD.D d185_3) (K : Ex → AS → Option R) := Pu.impl_SumWords_T3 (fun y0 y1 => K (.exit 0) (SD.enc d185_3 ((X.1.1, (y0, (y1, ()))), (), ()))) X.1.1
def l185_3 : LEnt := ⟨d185_3, fun X K => iterL (t185_3 X K) fuel (X.1.2.1, X.1.2.2.1)⟩
def L185 : Lam := (Lam.nil).add 3 l185_3
theorem k185_3 : LOk E g185 n185 L185 (loopBody Tryz.f185 0) :=
  lok l185_3 (by kernel_rfl) fuel fun R X K => (loop_iter (σ := Int × Int) (fun x => SD.enc d185_3 ((X.1.1, (x.1, (x.2, ()))), (), ())) (t185_3 X K) (fun m x => by kernel_rfl) fuel (X.1.2.1, X.1.2.2.1)).symm
theorem o185 : FnOk Tryz.prog 185 e185 := fk n185 ((base).add o189) Tryz.func185 (Λ := L185) (cF k185_3 nF)
def e173 : GEnt := entOf [.data false .str] [(false, (.int .i64))] fun a => Pu.impl_Checksum a.1
theorem o173 : FnOk Tryz.prog 173 e173 := fk {} ((base).add o185) Tryz.func173 (Λ := Lam.nil) nF
def e174 : GEnt := entOf [.data false .str, .data false (.int .i64), .data false .str] [(false, .str)] fun a => Pu.impl_PutBytes a.1 a.2.1 a.2.2.1
theorem o174 : FnOk Tryz.prog 174 e174 := fk { merge := fun | 1 => some 17 | _ => none } (base) Tryz.func174 (Λ := Lam.nil) nF
def e183 : GEnt := entOf [.data true TIp] [(false, .bool)] fun a => Pu.impl_IpOk a.1
theorem o183 : FnOk Tryz.prog 183 e183 := fk { merge := fun | 1 => some 2 | _ => none } ((base).add o124) Tryz.func183 (Λ := Lam.nil) nF
def e184 : GEnt := entOf [.data false (.int .i64)] [(false, .str)] fun a => Pu.impl_Word32 a.1
theorem o184 : FnOk Tryz.prog 184 e184 := fk {} ((base).add o124) Tryz.func184 (Λ := Lam.nil) nF
def e170 : GEnt := entOf [.data true TIp] [(false, .str), (false, .bool)] fun a => Pu.impl_IpHeader a.1
theorem o170 : FnOk Tryz.prog 170 e170 := fk {} ((((((base).add o84).add o173).add o174).add o183).add o184) Tryz.func170 (Λ := Lam.nil) nF
def e154 : GEnt := entOf [.data true TIp] [(false, .str), (false, .bool)] fun a => Pu.impl_BuildIp a.1
theorem o154 : FnOk Tryz.prog 154 e154 := fk {} ((base).add o170) Tryz.func154 (Λ := Lam.nil) nF
def e122 : GEnt := entOf [.data false .str] [(true, (.pair (.int .i64) (.pair (.int .i64) (.pair (.int .i64) (.pair (.int .i64) (.pair (.int .i64) (.pair (.int .i64) .str))))))), (false, .bool)] fun a => Pu.impl_ParseIp a.1
theorem o122 : FnOk Tryz.prog 122 e122 := fk { merge := fun | 2 => some 22 | 6 => some 56 | _ => none, sb := fun | 5 => some 5 | _ => none } ((((base).add o151).add o152).add o154) Tryz.func122 (Λ := Lam.nil) nF
def e171 : GEnt := entOf [.data true TSegment] [(false, .str)] fun a => Pu.impl_bareSegment a.1
theorem o171 : FnOk Tryz.prog 171 e171 := fk {} (((base).add o84).add o184) Tryz.func171 (Λ := Lam.nil) nF
def e172 : GEnt := entOf [.data false (.int .i64), .data false (.int .i64), .data false (.int .i64), .data false (.int .i64)] [(false, .str), (false, .bool)] fun a => Pu.impl_PseudoHeader a.1 a.2.1 a.2.2.1 a.2.2.2.1
theorem o172 : FnOk Tryz.prog 172 e172 := fk { merge := fun | 1 => some 27 | _ => none } ((((base).add o84).add o124).add o184) Tryz.func172 (Λ := Lam.nil) nF
def e175 : GEnt := entOf [.data false (.int .i64)] [(false, (.int .i64))] fun a => Pu.impl_sumPlace a.1
theorem o175 : FnOk Tryz.prog 175 e175 := fk {} (base) Tryz.func175 (Λ := Lam.nil) nF
def e155 : GEnt := entOf [.data false (.int .i64), .data false (.int .i64), .data true TSegment] [(false, .str), (false, .bool)] fun a => Pu.impl_BuildSegment a.1 a.2.1 a.2.2.1
theorem o155 : FnOk Tryz.prog 155 e155 := fk { merge := fun | 8 => some 39 | _ => none } ((((((((base).add o84).add o128).add o171).add o172).add o173).add o174).add o175) Tryz.func155 (Λ := Lam.nil) nF
def e123 : GEnt := entOf [.data false (.int .i64), .data false (.int .i64), .data false (.int .i64), .data false .str] [(true, (.pair (.int .i64) (.pair (.int .i64) (.pair (.int .i64) (.pair (.int .i64) (.pair (.int .i64) (.pair (.int .i64) (.pair (.int .i64) .str)))))))), (false, .bool)] fun a => Pu.impl_ParseSegment a.1 a.2.1 a.2.2.1 a.2.2.2.1
theorem o123 : FnOk Tryz.prog 123 e123 := fk { merge := fun | 3 => some 20 | 9 => some 44 | 12 => some 68 | _ => none } ((((base).add o151).add o152).add o155) Tryz.func123 (Λ := Lam.nil) nF
def e73 : GEnt := entOf [.data false .str] [(true, (.pair (.int .i64) (.pair (.int .i64) (.pair (.int .i64) (.pair (.int .i64) (.pair (.int .i64) (.pair (.int .i64) (.pair (.int .i64) (.pair (.int .i64) (.pair (.int .i64) (.pair (.int .i64) (.pair (.int .i64) (.pair (.int .i64) (.pair (.int .i64) (.pair (.int .i64) (.pair (.int .i64) .str)))))))))))))))), (false, (.int .i64))] fun a => Pu.impl_ReadImage a.1
theorem o73 : FnOk Tryz.prog 73 e73 := fk { merge := fun | 2 => some 20 | _ => none } (((((base).add o78).add o121).add o122).add o123) Tryz.func73 (Λ := Lam.nil) nF
def e74 : GEnt := entOf [.data true TPacket] [(false, .bool)] fun a => Pu.impl_PacketOk a.1
theorem o74 : FnOk Tryz.prog 74 e74 := fk { merge := fun | 1 => some 2 | _ => none } ((base).add o78) Tryz.func74 (Λ := Lam.nil) nF
def e26 : GEnt := entOf [.data false .str] [(true, (.pair (.int .i64) (.pair (.int .i64) (.pair (.int .i64) (.pair (.int .i64) (.pair (.int .i64) (.pair (.int .i64) (.pair (.int .i64) (.pair (.int .i64) (.pair (.int .i64) (.pair (.int .i64) (.pair (.int .i64) (.pair (.int .i64) (.pair (.int .i64) (.pair (.int .i64) (.pair (.int .i64) .str)))))))))))))))), (false, (.int .i64))] fun a => Pu.impl_ReadFrame a.1
theorem o26 : FnOk Tryz.prog 26 e26 := fk {} ((((base).add o72).add o73).add o74) Tryz.func26 (Λ := Lam.nil) nF
def e75 : GEnt := entOf [.data true TFilter] [(false, .bool)] fun a => Pu.impl_FilterOk a.1
def g75 : Gam := (Gam.nil).add 124 e124
def n75 : An := { mask := fun | 2 => [1, 2, 6, 7, 8] | _ => [], merge := fun | 4 => some 29 | 7 => some 2 | _ => none }
@[reducible] def d75_2 : SD := ⟨[B,.ptr 1 0,DB,B,B,B,.data false (.sl .arg (.int .i64)),DI,DI,B,B,B,B,B,B,B,B,B,B,B,B,B,B,B,B,B,B,B,B,B,B,B,B,B,B,B,B,B,B,B], [Z,some (.pair (.int .i64) (.pair .bool (.sl .arg (.int .i64)))),Z,Z,Z,Z,Z,Z,Z,Z,Z,Z,Z,Z,Z,Z,Z,Z,Z,Z,Z,Z,Z,Z,Z,Z,Z,Z,Z,Z,Z,Z,Z,Z,Z,Z,Z,Z,Z,Z], .none⟩
def t75_2 {R : Type} (X : SD.D d75_2) (K : Ex → AS → Option R) := Pu.impl_FilterOk_T2 (fun y0 => K (.exit 0) (SD.enc d75_2 ((X.1.1, (X.1.2.1, (X.1.2.2.1, (y0, ())))), (X.2.1.1, ()), ()))) (fun y0 y1 => K .ret (SD.enc d75_2 ((y0, (X.1.2.1, (X.1.2.2.1, (y1, ())))), (X.2.1.1, ()), ()))) X.1.1 X.1.2.1 X.1.2.2.1 X.2.1.1
def l75_2 : LEnt := ⟨d75_2, fun X K => iterL (t75_2 X K) fuel X.1.2.2.2.1⟩
def L75 : Lam := (Lam.nil).add 2 l75_2
theorem k75_2 : LOk E g75 n75 L75 (loopBody Tryz.f75 0) :=
  lok l75_2 (by kernel_rfl) fuel fun R X K => (loop_iter (σ := Int) (fun x => SD.enc d75_2 ((X.1.1, (X.1.2.1, (X.1.2.2.1, (x, ())))), (X.2.1.1, ()), ())) (t75_2 X K) (fun m x => by kernel_rfl) fuel X.1.2.2.2.1).symm
theorem o75 : FnOk Tryz.prog 75 e75 := fk n75 ((base).add o124) Tryz.func75 (Λ := L75) (cF k75_2 nF)
def e156 : GEnt := entOf [.data true TRule] [(false, .bool)] fun a => Pu.impl_RuleOk a.1
theorem o156 : FnOk Tryz.prog 156 e156 := fk { merge := fun | 1 => some 33 | 3 => some 54 | 5 => some 2 | _ => none } ((base).add o124) Tryz.func156 (Λ := Lam.nil) nF
def e125 : GEnt := entOf [.data false (.sl TRule)] [(false, .bool)] fun a => Pu.impl_RulesOk a.1
def g125 : Gam := (Gam.nil).add 156 e156
def n125 : An := { mask := fun | 2 => [0, 2, 5, 6, 7] | _ => [] }
@[reducible] def d125_2 : SD := ⟨[.data false (.sl .arg TRule),B,DB,B,B,.data false (.sl .arg TRule),DI,DI,B,B,B,B,B,B,B,B,B,B], [Z,Z,Z,Z,Z,Z,Z,Z,Z,Z,Z,Z,Z,Z,Z,Z,Z,Z], .none⟩
def t125_2 {R : Type} (X : SD.D d125_2) (K : Ex → AS → Option R) := Pu.impl_RulesOk_T2 (fun y0 => K (.exit 0) (SD.enc d125_2 ((X.1.1, (X.1.2.1, (X.1.2.2.1, (X.1.2.2.2.1, (y0, ()))))), (), ()))) (fun y0 y1 => K .ret (SD.enc d125_2 ((X.1.1, (y0, (X.1.2.2.1, (X.1.2.2.2.1, (y1, ()))))), (), ()))) X.1.1 X.1.2.1 X.1.2.2.1 X.1.2.2.2.1
def l125_2 : LEnt := ⟨d125_2, fun X K => iterL (t125_2 X K) fuel X.1.2.2.2.2.1⟩
def L125 : Lam := (Lam.nil).add 2 l125_2
theorem k125_2 : LOk E g125 n125 L125 (loopBody Tryz.f125 0) :=
  lok l125_2 (by kernel_rfl) fuel fun R X K => (loop_iter (σ := Int) (fun x => SD.enc d125_2 ((X.1.1, (X.1.2.1, (X.1.2.2.1, (X.1.2.2.2.1, (x, ()))))), (), ())) (t125_2 X K) (fun m x => by kernel_rfl) fuel X.1.2.2.2.2.1).symm
theorem o125 : FnOk Tryz.prog 125 e125 := fk n125 ((base).add o156) Tryz.func125 (Λ := L125) (cF k125_2 nF)
def e131 : GEnt := entOf [.data true (.sl TSlot), .data true TFlow] [(false, (.int .i64))] fun a => Pu.impl_slotOf a.1 a.2.1
def g131 : Gam := Gam.nil
def n131 : An := { mask := fun | 2 => [3, 4, 8, 9, 10] | _ => [], merge := fun | 4 => some 23 | _ => none }
@[reducible] def d131_2 : SD := ⟨[B,B,B,.ptr 3 0,DI,B,B,B,.data false (.sl .arg TSlot),DI,DI,B,B,B,B,B,B,B,B,B,B,B,B,B,B,B], [Z,Z,Z,some (.pair (.int .i64) (.pair (.int .i64) (.pair (.int .i64) (.pair (.int .i64) (.int .i64))))),Z,Z,Z,Z,Z,Z,Z,Z,Z,Z,Z,Z,Z,Z,Z,Z,Z,Z,Z,Z,Z,Z], .none⟩
def t131_2 {R : Type} (X : SD.D d131_2) (K : Ex → AS → Option R) := Pu.impl_slotOf_T2 (fun y0 => K (.exit 0) (SD.enc d131_2 ((X.1.1, (X.1.2.1, (X.1.2.2.1, (y0, ())))), (X.2.1.1, ()), ()))) (fun y0 y1 => K .ret (SD.enc d131_2 ((y0, (X.1.2.1, (X.1.2.2.1, (y1, ())))), (X.2.1.1, ()), ()))) X.1.1 X.1.2.1 X.1.2.2.1 X.2.1.1
def l131_2 : LEnt := ⟨d131_2, fun X K => iterL (t131_2 X K) fuel X.1.2.2.2.1⟩
def L131 : Lam := (Lam.nil).add 2 l131_2
theorem k131_2 : LOk E g131 n131 L131 (loopBody Tryz.f131 0) :=
  lok l131_2 (by kernel_rfl) fuel fun R X K => (loop_iter (σ := Int) (fun x => SD.enc d131_2 ((X.1.1, (X.1.2.1, (X.1.2.2.1, (x, ())))), (X.2.1.1, ()), ())) (t131_2 X K) (fun m x => by kernel_rfl) fuel X.1.2.2.2.1).symm
theorem o131 : FnOk Tryz.prog 131 e131 := fk n131 (base) Tryz.func131 (Λ := L131) (cF k131_2 nF)
def e85 : GEnt := entOf [.data false (.int .i64), .data false (.int .i64)] [(false, (.int .i64))] fun a => Pu.impl_modulo a.1 a.2.1
theorem o85 : FnOk Tryz.prog 85 e85 := fk {} (base) Tryz.func85 (Λ := Lam.nil) nF
def e176 : GEnt := entOf [.data true TFlow] [(false, (.int .i64))] fun a => Pu.impl_HomeSlot a.1
def g176 : Gam := (Gam.nil).add 85 e85
def n176 : An := { mask := fun | 3 => [3, 16, 17, 18] | _ => [] }
@[reducible] def d176_3 : SD := ⟨[B,B,B,DI,B,B,B,B,B,B,B,B,B,B,B,B,.data false (.sl (.own (some 196608)) (.int .i64)),DI,DI,B,B,B,B,B,B,B,B,B,B], [Z,Z,Z,Z,Z,Z,Z,Z,Z,Z,Z,Z,Z,Z,Z,Z,Z,Z,Z,Z,Z,Z,Z,Z,Z,Z,Z,Z,Z], .none⟩
def t176_3 {R : Type} (X : SD.D d176_3) (K : Ex → AS → Option R) := Pu.impl_HomeSlot_T3 (fun y0 y1 => K (.exit 0) (SD.enc d176_3 ((y0, (X.1.2.1, (X.1.2.2.1, (y1, ())))), (), ()))) X.1.2.1 X.1.2.2.1
def l176_3 : LEnt := ⟨d176_3, fun X K => iterL (t176_3 X K) fuel (X.1.1, X.1.2.2.2.1)⟩
def L176 : Lam := (Lam.nil).add 3 l176_3
theorem k176_3 : LOk E g176 n176 L176 (loopBody Tryz.f176 0) :=
  lok l176_3 (by kernel_rfl) fuel fun R X K => (loop_iter (σ := Int × Int) (fun x => SD.enc d176_3 ((x.1, (X.1.2.1, (X.1.2.2.1, (x.2, ())))), (), ())) (t176_3 X K) (fun m x => by kernel_rfl) fuel (X.1.1, X.1.2.2.2.1)).symm
theorem o176 : FnOk Tryz.prog 176 e176 := fk n176 ((base).add o85) Tryz.func176 (Λ := L176) (cF k176_3 nF)
def e157 : GEnt := entOf [.data true TFlow] [(false, (.sl (.own none) (.int .i64)))] fun a => Pu.impl_wayOf a.1
def g157 : Gam := (Gam.nil).add 176 e176
def n157 : An := { mask := fun | 3 => [1, 3, 4] | _ => [], mv := [10, 18] }
@[reducible] def d157_3 : SD := ⟨[B,.ptr 1 0,B,.data false (.sl (.own (some 36864)) (.int .i64)),DI,B,B,B,B,B,B,B,B,B,B,B,B,B,B], [Z,some (.pair (.int .i64) (.pair (.int .i64) (.pair (.int .i64) (.pair (.int .i64) (.int .i64))))),Z,Z,Z,Z,Z,Z,Z,Z,Z,Z,Z,Z,Z,Z,Z,Z,Z], .none⟩
def t157_3 {R : Type} (X : SD.D d157_3) (K : Ex → AS → Option R) := Pu.impl_wayOf_T3 (fun y0 y1 => K (.exit 0) (SD.enc d157_3 ((y0, (y1, ())), (X.2.1.1, ()), ()))) X.2.1.1
def l157_3 : LEnt := ⟨d157_3, fun X K => iterL (t157_3 X K) fuel (X.1.1, X.1.2.1)⟩
def L157 : Lam := (Lam.nil).add 3 l157_3
theorem k157_3 : LOk E g157 n157 L157 (loopBody Tryz.f157 0) :=
  lok l157_3 (by kernel_rfl) fuel fun R X K => (loop_iter (σ := (List Int) × Int) (fun x => SD.enc d157_3 ((x.1, (x.2, ())), (X.2.1.1, ()), ())) (t157_3 X K) (fun m x => by kernel_rfl) fuel (X.1.1, X.1.2.1)).symm
theorem o157 : FnOk Tryz.prog 157 e157 := fk n157 ((base).add o176) Tryz.func157 (Λ := L157) (cF k157_3 nF)
def e126 : GEnt := entOf [.data true (.sl TSlot)] [(false, .bool)] fun a => Pu.impl_TableOk a.1
def g126 : Gam := (((Gam.nil).add 124 e124).add 131 e131).add 157 e157
def n126 : An := { mask := fun | 4 => [1, 2, 12, 13, 14] | 14 => [1, 2, 3, 12, 13, 14, 49, 50, 51] | _ => [], merge := fun | 6 => some 28 | 9 => some 40 | _ => none }
@[reducible] def d126_14 : SD := ⟨[B,.ptr 1 0,DB,DI,B,B,B,B,B,B,B,B,.data false (.sl .arg TSlot),DI,DI,B,B,B,B,B,B,B,B,B,B,B,B,B,B,B,B,B,B,B,B,B,B,B,B,B,B,B,B,B,B,B,B,B,B,.data false (.sl (.own (some 602112)) (.int .i64)),DI,DI,B,B,B,B,B,B,B,B,B,B,B,B,B,B,B], [Z,some (.sl .arg TSlot),Z,Z,Z,Z,Z,Z,Z,Z,Z,Z,Z,Z,Z,Z,Z,Z,Z,Z,Z,Z,Z,Z,Z,Z,Z,Z,Z,Z,Z,Z,Z,Z,Z,Z,Z,Z,Z,Z,Z,Z,Z,Z,Z,Z,Z,Z,Z,Z,Z,Z,Z,Z,Z,Z,Z,Z,Z,Z,Z,Z,Z,Z,Z,Z,Z], .none⟩
def t126_14 {R : Type} (X : SD.D d126_14) (K : Ex → AS → Option R) := Pu.impl_TableOk_T14 (fun y0 => K (.exit 2) (SD.enc d126_14 ((X.1.1, (X.1.2.1, (X.1.2.2.1, (X.1.2.2.2.1, (X.1.2.2.2.2.1, (X.1.2.2.2.2.2.1, (X.1.2.2.2.2.2.2.1, (y0, ())))))))), (X.2.1.1, ()), ()))) (fun y0 y1 => K .ret (SD.enc d126_14 ((y0, (X.1.2.1, (X.1.2.2.1, (X.1.2.2.2.1, (X.1.2.2.2.2.1, (X.1.2.2.2.2.2.1, (X.1.2.2.2.2.2.2.1, (y1, ())))))))), (X.2.1.1, ()), ()))) X.1.1 X.1.2.1 X.1.2.2.1 X.1.2.2.2.1 X.1.2.2.2.2.1 X.1.2.2.2.2.2.1 X.1.2.2.2.2.2.2.1 X.2.1.1
def l126_14 : LEnt := ⟨d126_14, fun X K => iterL (t126_14 X K) fuel X.1.2.2.2.2.2.2.2.1⟩
@[reducible] def d126_4 : SD := ⟨[B,.ptr 1 0,DB,B,B,B,B,B,B,B,B,B,.data false (.sl .arg TSlot),DI,DI,B,B,B,B,B,B,B,B,B,B,B,B,B,B,B,B,B,B,B,B,B,B,B,B,B,B,B,B,B,B,B,B,B,B,B,B,B,B,B,B,B,B,B,B,B,B,B,B,B,B,B,B], [Z,some (.sl .arg TSlot),Z,Z,Z,Z,Z,Z,Z,Z,Z,Z,Z,Z,Z,Z,Z,Z,Z,Z,Z,Z,Z,Z,Z,Z,Z,Z,Z,Z,Z,Z,Z,Z,Z,Z,Z,Z,Z,Z,Z,Z,Z,Z,Z,Z,Z,Z,Z,Z,Z,Z,Z,Z,Z,Z,Z,Z,Z,Z,Z,Z,Z,Z,Z,Z,Z], .none⟩
def t126_4 {R : Type} (X : SD.D d126_4) (K : Ex → AS → Option R) := Pu.impl_TableOk_T4 (fun y0 => K (.exit 0) (SD.enc d126_4 ((X.1.1, (X.1.2.1, (X.1.2.2.1, (y0, ())))), (X.2.1.1, ()), ()))) (fun y0 y1 => K .ret (SD.enc d126_4 ((y0, (X.1.2.1, (X.1.2.2.1, (y1, ())))), (X.2.1.1, ()), ()))) X.1.1 X.1.2.1 X.1.2.2.1 X.2.1.1
def l126_4 : LEnt := ⟨d126_4, fun X K => iterL (t126_4 X K) fuel X.1.2.2.2.1⟩
def L126 : Lam := ((Lam.nil).add 14 l126_14).add 4 l126_4
theorem k126_14 : LOk E g126 n126 L126 (loopBody Tryz.f126 1) :=
  lok l126_14 (by kernel_rfl) fuel fun R X K => (loop_iter (σ := Int) (fun x => SD.enc d126_14 ((X.1.1, (X.1.2.1, (X.1.2.2.1, (X.1.2.2.2.1, (X.1.2.2.2.2.1, (X.1.2.2.2.2.2.1, (X.1.2.2.2.2.2.2.1, (x, ())))))))), (X.2.1.1, ()), ())) (t126_14 X K) (fun m x => by kernel_rfl) fuel X.1.2.2.2.2.2.2.2.1).symm
theorem k126_4 : LOk E g126 n126 L126 (loopBody Tryz.f126 0) :=
  lok l126_4 (by kernel_rfl) fuel fun R X K => (loop_iter (σ := Int) (fun x => SD.enc d126_4 ((X.1.1, (X.1.2.1, (X.1.2.2.1, (x, ())))), (X.2.1.1, ()), ())) (t126_4 X K) (fun m x => by kernel_rfl) fuel X.1.2.2.2.1).symm
theorem o126 : FnOk Tryz.prog 126 e126 := fk n126 ((((base).add o124).add o131).add o157) Tryz.func126 (Λ := L126) (cF k126_4 (cF k126_14 nF))
def e158 : GEnt := entOf [.data false (.int .i64)] [(false, .bool)] fun a => Pu.impl_tableSize a.1
theorem o158 : FnOk Tryz.prog 158 e158 := fk { merge := fun | 1 => some 2 | _ => none } (base) Tryz.func158 (Λ := Lam.nil) nF
def e127 : GEnt := entOf [.data true TSpread, .data false (.int .i64)] [(false, .bool)] fun a => Pu.impl_SpreadOk a.1 a.2.1
def g127 : Gam := ((Gam.nil).add 124 e124).add 158 e158
def n127 : An := { mask := fun | 4 => [1, 4, 24, 25, 26] | _ => [], merge := fun | 1 => some 22 | _ => none }
@[reducible] def d127_4 : SD := ⟨[B,DI,B,B,DB,B,B,B,B,B,B,B,B,B,B,B,B,B,B,B,B,B,B,B,.data false (.sl .arg (.int .i64)),DI,DI,B,B,B,B,B,B,B,B,B], [Z,Z,Z,Z,Z,Z,Z,Z,Z,Z,Z,Z,Z,Z,Z,Z,Z,Z,Z,Z,Z,Z,Z,Z,Z,Z,Z,Z,Z,Z,Z,Z,Z,Z,Z,Z], .none⟩
def t127_4 {R : Type} (X : SD.D d127_4) (K : Ex → AS → Option R) := Pu.impl_SpreadOk_T4 (fun y0 => K (.exit 0) (SD.enc d127_4 ((X.1.1, (X.1.2.1, (X.1.2.2.1, (X.1.2.2.2.1, (y0, ()))))), (), ()))) (fun y0 y1 => K .ret (SD.enc d127_4 ((X.1.1, (y0, (X.1.2.2.1, (X.1.2.2.2.1, (y1, ()))))), (), ()))) X.1.1 X.1.2.1 X.1.2.2.1 X.1.2.2.2.1
def l127_4 : LEnt := ⟨d127_4, fun X K => iterL (t127_4 X K) fuel X.1.2.2.2.2.1⟩
def L127 : Lam := (Lam.nil).add 4 l127_4
theorem k127_4 : LOk E g127 n127 L127 (loopBody Tryz.f127 0) :=
  lok l127_4 (by kernel_rfl) fuel fun R X K => (loop_iter (σ := Int) (fun x => SD.enc d127_4 ((X.1.1, (X.1.2.1, (X.1.2.2.1, (X.1.2.2.2.1, (x, ()))))), (), ())) (t127_4 X K) (fun m x => by kernel_rfl) fuel X.1.2.2.2.2.1).symm
theorem o127 : FnOk Tryz.prog 127 e127 := fk n127 (((base).add o124).add o158) Tryz.func127 (Λ := L127) (cF k127_4 nF)
def e76 : GEnt := entOf [.data true TSteering, .data false (.int .i64)] [(false, .bool)] fun a => Pu.impl_SteeringOk a.1 a.2.1
def g76 : Gam := (((Gam.nil).add 125 e125).add 126 e126).add 127 e127
def n76 : An := { mask := fun | 4 => [1, 2, 4, 27, 28, 29] | 10 => [1, 4, 45, 46, 47] | _ => [], merge := fun | 1 => some 25 | 6 => some 41 | 12 => some 59 | _ => none }
@[reducible] def d76_4 : SD := ⟨[B,DI,.ptr 2 0,B,DB,B,B,B,B,B,B,B,B,B,B,B,B,B,B,B,B,B,B,B,B,B,B,.data false (.sl .arg TRule),DI,DI,B,B,B,B,B,B,B,B,B,B,B,B,B,B,B,B,B,B,B,B,B,B,B,B,B,B,B,B,B,B,B], [Z,Z,some (.pair (.sl .arg TRule) (.pair (.sl .arg TSlot) (.pair .str (.sl .arg (.int .i64))))),Z,Z,Z,Z,Z,Z,Z,Z,Z,Z,Z,Z,Z,Z,Z,Z,Z,Z,Z,Z,Z,Z,Z,Z,Z,Z,Z,Z,Z,Z,Z,Z,Z,Z,Z,Z,Z,Z,Z,Z,Z,Z,Z,Z,Z,Z,Z,Z,Z,Z,Z,Z,Z,Z,Z,Z,Z,Z], .none⟩
def t76_4 {R : Type} (X : SD.D d76_4) (K : Ex → AS → Option R) := Pu.impl_SteeringOk_T4 (fun y0 => K (.exit 0) (SD.enc d76_4 ((X.1.1, (X.1.2.1, (X.1.2.2.1, (X.1.2.2.2.1, (y0, ()))))), (X.2.1.1, ()), ()))) (fun y0 y1 => K .ret (SD.enc d76_4 ((X.1.1, (y0, (X.1.2.2.1, (X.1.2.2.2.1, (y1, ()))))), (X.2.1.1, ()), ()))) X.1.1 X.1.2.1 X.1.2.2.1 X.1.2.2.2.1 X.2.1.1
def l76_4 : LEnt := ⟨d76_4, fun X K => iterL (t76_4 X K) fuel X.1.2.2.2.2.1⟩
@[reducible] def d76_10 : SD := ⟨[B,DI,B,B,DB,B,B,B,B,B,B,B,B,B,B,B,B,B,B,B,B,B,B,B,B,B,B,B,B,B,B,B,B,B,B,B,B,B,B,B,B,B,B,B,B,.data false (.sl .arg TSlot),DI,DI,B,B,B,B,B,B,B,B,B,B,B,B,B], [Z,Z,Z,Z,Z,Z,Z,Z,Z,Z,Z,Z,Z,Z,Z,Z,Z,Z,Z,Z,Z,Z,Z,Z,Z,Z,Z,Z,Z,Z,Z,Z,Z,Z,Z,Z,Z,Z,Z,Z,Z,Z,Z,Z,Z,Z,Z,Z,Z,Z,Z,Z,Z,Z,Z,Z,Z,Z,Z,Z,Z], .none⟩
def t76_10 {R : Type} (X : SD.D d76_10) (K : Ex → AS → Option R) := Pu.impl_SteeringOk_T10 (fun y0 => K (.exit 2) (SD.enc d76_10 ((X.1.1, (X.1.2.1, (X.1.2.2.1, (X.1.2.2.2.1, (y0, ()))))), (), ()))) (fun y0 y1 => K .ret (SD.enc d76_10 ((X.1.1, (y0, (X.1.2.2.1, (X.1.2.2.2.1, (y1, ()))))), (), ()))) X.1.1 X.1.2.1 X.1.2.2.1 X.1.2.2.2.1
def l76_10 : LEnt := ⟨d76_10, fun X K => iterL (t76_10 X K) fuel X.1.2.2.2.2.1⟩
def L76 : Lam := ((Lam.nil).add 4 l76_4).add 10 l76_10
theorem k76_4 : LOk E g76 n76 L76 (loopBody Tryz.f76 0) :=
  lok l76_4 (by kernel_rfl) fuel fun R X K => (loop_iter (σ := Int) (fun x => SD.enc d76_4 ((X.1.1, (X.1.2.1, (X.1.2.2.1, (X.1.2.2.2.1, (x, ()))))), (X.2.1.1, ()), ())) (t76_4 X K) (fun m x => by kernel_rfl) fuel X.1.2.2.2.2.1).symm
theorem k76_10 : LOk E g76 n76 L76 (loopBody Tryz.f76 1) :=
  lok l76_10 (by kernel_rfl) fuel fun R X K => (loop_iter (σ := Int) (fun x => SD.enc d76_10 ((X.1.1, (X.1.2.1, (X.1.2.2.1, (X.1.2.2.2.1, (x, ()))))), (), ())) (t76_10 X K) (fun m x => by kernel_rfl) fuel X.1.2.2.2.2.1).symm
theorem o76 : FnOk Tryz.prog 76 e76 := fk n76 ((((base).add o125).add o126).add o127) Tryz.func76 (Λ := L76) (cF k76_4 (cF k76_10 nF))
def e27 : GEnt := entOf [.data true TSoft] [(false, .bool)] fun a => Pu.impl_SoftOk a.1
theorem o27 : FnOk Tryz.prog 27 e27 := fk { merge := fun | 1 => some 2 | _ => none } (((base).add o75).add o76) Tryz.func27 (Λ := Lam.nil) nF
def e77 : GEnt := entOf [.data false (.sl (.int .i64)), .data false (.int .i64)] [(false, .bool)] fun a => Pu.impl_hasInt a.1 a.2.1
def g77 : Gam := Gam.nil
def n77 : An := { mask := fun | 2 => [1, 4, 7, 8, 9] | _ => [] }
@[reducible] def d77_2 : SD := ⟨[B,DI,B,B,DB,B,B,.data false (.sl .arg (.int .i64)),DI,DI,B,B,B,B,B,B,B], [Z,Z,Z,Z,Z,Z,Z,Z,Z,Z,Z,Z,Z,Z,Z,Z,Z], .none⟩
def t77_2 {R : Type} (X : SD.D d77_2) (K : Ex → AS → Option R) := Pu.impl_hasInt_T2 (fun y0 => K (.exit 0) (SD.enc d77_2 ((X.1.1, (X.1.2.1, (X.1.2.2.1, (X.1.2.2.2.1, (y0, ()))))), (), ()))) (fun y0 y1 => K .ret (SD.enc d77_2 ((X.1.1, (y0, (X.1.2.2.1, (X.1.2.2.2.1, (y1, ()))))), (), ()))) X.1.1 X.1.2.1 X.1.2.2.1 X.1.2.2.2.1
def l77_2 : LEnt := ⟨d77_2, fun X K => iterL (t77_2 X K) fuel X.1.2.2.2.2.1⟩
def L77 : Lam := (Lam.nil).add 2 l77_2
theorem k77_2 : LOk E g77 n77 L77 (loopBody Tryz.f77 0) :=
  lok l77_2 (by kernel_rfl) fuel fun R X K => (loop_iter (σ := Int) (fun x => SD.enc d77_2 ((X.1.1, (X.1.2.1, (X.1.2.2.1, (X.1.2.2.2.1, (x, ()))))), (), ())) (t77_2 X K) (fun m x => by kernel_rfl) fuel X.1.2.2.2.2.1).symm
theorem o77 : FnOk Tryz.prog 77 e77 := fk n77 (base) Tryz.func77 (Λ := L77) (cF k77_2 nF)
def e28 : GEnt := entOf [.data true TFilter, .data true TPacket] [(false, .bool)] fun a => Pu.impl_Accepts a.1 a.2.1
theorem o28 : FnOk Tryz.prog 28 e28 := fk { merge := fun | 1 => some 4 | _ => none } (((base).add o75).add o77) Tryz.func28 (Λ := Lam.nil) nF
def e159 : GEnt := entOf [.data false (.int .i64), .data false (.int .i64), .data false (.int .i64)] [(false, .bool)] fun a => Pu.impl_samePrefix a.1 a.2.1 a.2.2.1
theorem o159 : FnOk Tryz.prog 159 e159 := fk {} (base) Tryz.func159 (Λ := Lam.nil) nF
def e130 : GEnt := entOf [.data true TRule, .data true TPacket] [(false, .bool)] fun a => Pu.impl_RuleMatches a.1 a.2.1
theorem o130 : FnOk Tryz.prog 130 e130 := fk { merge := fun | 1 => some 4 | _ => none } (((((base).add o78).add o124).add o156).add o159) Tryz.func130 (Λ := Lam.nil) nF
def e79 : GEnt := entOf [.data false (.sl TRule), .data true TPacket] [(false, (.int .i64))] fun a => Pu.impl_FindRule a.1 a.2.1
def g79 : Gam := ((Gam.nil).add 125 e125).add 130 e130
def n79 : An := { mask := fun | 5 => [0, 3, 5, 11, 12, 13] | _ => [], merge := fun | 7 => some 34 | _ => none }
@[reducible] def d79_5 : SD := ⟨[.data false (.sl .arg TRule),B,B,.ptr 3 0,B,DI,B,B,B,B,B,.data false (.sl .arg TRule),DI,DI,B,B,B,B,B,B,B,B,B,B,B,B,B,B,B,B,B,B,B,B,B,B,B,B], [Z,Z,Z,some (.pair (.int .i64) (.pair (.int .i64) (.pair (.int .i64) (.pair (.int .i64) (.pair (.int .i64) (.pair (.int .i64) (.pair (.int .i64) (.pair (.int .i64) (.pair (.int .i64) (.pair (.int .i64) (.pair (.int .i64) (.pair (.int .i64) (.pair (.int .i64) (.pair (.int .i64) (.pair (.int .i64) .str))))))))))))))),Z,Z,Z,Z,Z,Z,Z,Z,Z,Z,Z,Z,Z,Z,Z,Z,Z,Z,Z,Z,Z,Z,Z,Z,Z,Z,Z,Z,Z,Z,Z,Z,Z,Z], .none⟩
def t79_5 {R : Type} (X : SD.D d79_5) (K : Ex → AS → Option R) := Pu.impl_FindRule_T5 (fun y0 y1 => K (.exit 0) (SD.enc d79_5 ((X.1.1, (y0, (X.1.2.2.1, (X.1.2.2.2.1, (y1, ()))))), (X.2.1.1, ()), ()))) X.1.1 X.1.2.2.1 X.1.2.2.2.1 X.2.1.1
def l79_5 : LEnt := ⟨d79_5, fun X K => iterL (t79_5 X K) fuel (X.1.2.1, X.1.2.2.2.2.1)⟩
def L79 : Lam := (Lam.nil).add 5 l79_5
theorem k79_5 : LOk E g79 n79 L79 (loopBody Tryz.f79 0) :=
  lok l79_5 (by kernel_rfl) fuel fun R X K => (loop_iter (σ := Int × Int) (fun x => SD.enc d79_5 ((X.1.1, (x.1, (X.1.2.2.1, (X.1.2.2.2.1, (x.2, ()))))), (X.2.1.1, ()), ())) (t79_5 X K) (fun m x => by kernel_rfl) fuel (X.1.2.1, X.1.2.2.2.2.1)).symm
theorem o79 : FnOk Tryz.prog 79 e79 := fk n79 (((base).add o125).add o130) Tryz.func79 (Λ := L79) (cF k79_5 nF)
def e80 : GEnt := entOf [.data true (.sl TSlot), .data true TFlow] [(false, (.int .i64))] fun a => Pu.impl_FindFlow a.1 a.2.1
theorem o80 : FnOk Tryz.prog 80 e80 := fk {} (((base).add o126).add o131) Tryz.func80 (Λ := Lam.nil) nF
def e81 : GEnt := entOf [.data true TPacket] [(true, (.pair (.int .i64) (.pair (.int .i64) (.pair (.int .i64) (.pair (.int .i64) (.int .i64))))))] fun a => Pu.impl_FlowOf a.1
theorem o81 : FnOk Tryz.prog 81 e81 := fk {} (base) Tryz.func81 (Λ := Lam.nil) nF
def e186 : GEnt := entOf [.data false .str, .data false (.int .i64)] [(false, (.int .i64))] fun a => Pu.impl_keyBit a.1 a.2.1
theorem o186 : FnOk Tryz.prog 186 e186 := fk {} (base) Tryz.func186 (Λ := Lam.nil) nF
def e187 : GEnt := entOf [.data false .str, .data false (.int .i64)] [(false, (.int .i64))] fun a => Pu.impl_KeyWindow a.1 a.2.1
def g187 : Gam := ((Gam.nil).add 124 e124).add 186 e186
def n187 : An := { mask := fun | 5 => [0, 1, 5, 6] | _ => [], merge := fun | 1 => some 14 | _ => none }
@[reducible] def d187_5 : SD := ⟨[.data false .str,DI,B,B,B,DI,DI,B,B,B,B,B,B,B,B,B,B,B,B,B,B,B,B,B,B,B,B,B,B], [Z,Z,Z,Z,Z,Z,Z,Z,Z,Z,Z,Z,Z,Z,Z,Z,Z,Z,Z,Z,Z,Z,Z,Z,Z,Z,Z,Z,Z], .none⟩
def t187_5 {R : Type} (X : SD.D d187_5) (K : Ex → AS → Option R) := Pu.impl_KeyWindow_T5 (fun y0 y1 => K (.exit 0) (SD.enc d187_5 ((X.1.1, (X.1.2.1, (y0, (y1, ())))), (), ()))) X.1.1 X.1.2.1
def l187_5 : LEnt := ⟨d187_5, fun X K => iterL (t187_5 X K) fuel (X.1.2.2.1, X.1.2.2.2.1)⟩
def L187 : Lam := (Lam.nil).add 5 l187_5
theorem k187_5 : LOk E g187 n187 L187 (loopBody Tryz.f187 0) :=
  lok l187_5 (by kernel_rfl) fuel fun R X K => (loop_iter (σ := Int × Int) (fun x => SD.enc d187_5 ((X.1.1, (X.1.2.1, (x.1, (x.2, ())))), (), ())) (t187_5 X K) (fun m x => by kernel_rfl) fuel (X.1.2.2.1, X.1.2.2.2.1)).symm
theorem o187 : FnOk Tryz.prog 187 e187 := fk n187 (((base).add o124).add o186) Tryz.func187 (Λ := L187) (cF k187_5 nF)
def e177 : GEnt := entOf [.data false .str, .data false .str] [(false, (.int .i64))] fun a => Pu.impl_HashBytes a.1 a.2.1
def g177 : Gam := ((Gam.nil).add 186 e186).add 187 e187
def n177 : An := { mask := fun | 5 => [0, 1, 5, 6] | _ => [], merge := fun | 1 => some 14 | _ => none }
@[reducible] def d177_5 : SD := ⟨[.data false .str,.data false .str,B,B,B,DI,DI,B,B,B,B,B,B,B,B,B,B,B,B,B,B,B,B,B,B,B,B,B,B,B,B,B], [Z,Z,Z,Z,Z,Z,Z,Z,Z,Z,Z,Z,Z,Z,Z,Z,Z,Z,Z,Z,Z,Z,Z,Z,Z,Z,Z,Z,Z,Z,Z,Z], .none⟩
def t177_5 {R : Type} (X : SD.D d177_5) (K : Ex → AS → Option R) := Pu.impl_HashBytes_T5 (fun y0 y1 => K (.exit 0) (SD.enc d177_5 ((X.1.1, (X.1.2.1, (y0, (y1, ())))), (), ()))) X.1.1 X.1.2.1
def l177_5 : LEnt := ⟨d177_5, fun X K => iterL (t177_5 X K) fuel (X.1.2.2.1, X.1.2.2.2.1)⟩
def L177 : Lam := (Lam.nil).add 5 l177_5
theorem k177_5 : LOk E g177 n177 L177 (loopBody Tryz.f177 0) :=
  lok l177_5 (by kernel_rfl) fuel fun R X K => (loop_iter (σ := Int × Int) (fun x => SD.enc d177_5 ((X.1.1, (X.1.2.1, (x.1, (x.2, ())))), (), ())) (t177_5 X K) (fun m x => by kernel_rfl) fuel (X.1.2.2.1, X.1.2.2.2.1)).symm
theorem o177 : FnOk Tryz.prog 177 e177 := fk n177 (((base).add o186).add o187) Tryz.func177 (Λ := L177) (cF k177_5 nF)
def e178 : GEnt := entOf [.data true TFlow] [(false, .str)] fun a => Pu.impl_HashInput a.1
theorem o178 : FnOk Tryz.prog 178 e178 := fk {} (((base).add o84).add o184) Tryz.func178 (Λ := Lam.nil) nF
def e160 : GEnt := entOf [.data false .str, .data true TFlow] [(false, (.int .i64))] fun a => Pu.impl_HashFlow a.1 a.2.1
theorem o160 : FnOk Tryz.prog 160 e160 := fk {} (((base).add o177).add o178) Tryz.func160 (Λ := Lam.nil) nF
def e132 : GEnt := entOf [.data true TSpread, .data true TFlow] [(false, (.int .i64))] fun a => Pu.impl_EntryOf a.1 a.2.1
theorem o132 : FnOk Tryz.prog 132 e132 := fk { merge := fun | 2 => some 17 | _ => none } ((base).add o160) Tryz.func132 (Λ := Lam.nil) nF
def e82 : GEnt := entOf [.data true TSpread, .data false (.int .i64), .data true TFlow] [(false, (.int .i64))] fun a => Pu.impl_SpreadQueue a.1 a.2.1 a.2.2.1
theorem o82 : FnOk Tryz.prog 82 e82 := fk { merge := fun | 2 => some 18 | _ => none } (((base).add o127).add o132) Tryz.func82 (Λ := Lam.nil) nF
def e29 : GEnt := entOf [.data true TSteering, .data false (.int .i64), .data true TPacket] [(false, (.int .i64))] fun a => Pu.impl_SteerPacket a.1 a.2.1 a.2.2.1
theorem o29 : FnOk Tryz.prog 29 e29 := fk { merge := fun | 1 => some 17 | _ => none } (((((((base).add o76).add o78).add o79).add o80).add o81).add o82) Tryz.func29 (Λ := Lam.nil) nF
def e83 : GEnt := entOf [.data false (.sl TStream), .data true TFlow] [(false, (.int .i64))] fun a => Pu.impl_StreamIndex a.1 a.2.1
def g83 : Gam := Gam.nil
def n83 : An := { mask := fun | 2 => [3, 4, 7, 8, 9] | _ => [] }
@[reducible] def d83_2 : SD := ⟨[B,B,B,.ptr 3 0,DI,B,B,.data false (.sl .arg TStream),DI,DI,B,B,B,B,B,B,B,B,B,B], [Z,Z,Z,some (.pair (.int .i64) (.pair (.int .i64) (.pair (.int .i64) (.pair (.int .i64) (.int .i64))))),Z,Z,Z,Z,Z,Z,Z,Z,Z,Z,Z,Z,Z,Z,Z,Z], .none⟩
def t83_2 {R : Type} (X : SD.D d83_2) (K : Ex → AS → Option R) := Pu.impl_StreamIndex_T2 (fun y0 => K (.exit 0) (SD.enc d83_2 ((X.1.1, (X.1.2.1, (X.1.2.2.1, (y0, ())))), (X.2.1.1, ()), ()))) (fun y0 y1 => K .ret (SD.enc d83_2 ((y0, (X.1.2.1, (X.1.2.2.1, (y1, ())))), (X.2.1.1, ()), ()))) X.1.1 X.1.2.1 X.1.2.2.1 X.2.1.1
def l83_2 : LEnt := ⟨d83_2, fun X K => iterL (t83_2 X K) fuel X.1.2.2.2.1⟩
def L83 : Lam := (Lam.nil).add 2 l83_2
theorem k83_2 : LOk E g83 n83 L83 (loopBody Tryz.f83 0) :=
  lok l83_2 (by kernel_rfl) fuel fun R X K => (loop_iter (σ := Int) (fun x => SD.enc d83_2 ((X.1.1, (X.1.2.1, (X.1.2.2.1, (x, ())))), (X.2.1.1, ()), ())) (t83_2 X K) (fun m x => by kernel_rfl) fuel X.1.2.2.2.1).symm
theorem o83 : FnOk Tryz.prog 83 e83 := fk n83 (base) Tryz.func83 (Λ := L83) (cF k83_2 nF)
def e30 : GEnt := entOf [.data false (.sl TStream), .data true TPacket] [(false, (.sl (.own none) TStream))] fun a => Pu.impl_Deliver a.1 a.2.1
theorem o30 : FnOk Tryz.prog 30 e30 := fk { merge := fun | 17 => some 82 | _ => none, mv := [16, 31, 51, 58, 67, 83, 132], er := fun | 115 => some 5 | _ => none } (((((((base).add o70).add o78).add o81).add o83).add o84).add o85) Tryz.func30 (Λ := Lam.nil) nF
def e7 : GEnt := entOf [.data true TSoft, .data false .str] [(true, (.pair (.pair (.int .i64) (.pair .bool (.sl (.own none) (.int .i64)))) (.pair (.pair (.sl (.own none) TRule) (.pair (.sl (.own none) TSlot) (.pair .str (.sl (.own none) (.int .i64))))) (.pair (.int .i64) (.pair (.sl (.own none) TStream) (.sl (.own none) .str))))))] fun a => Pu.impl_SoftReceive a.1 a.2.1
theorem o7 : FnOk Tryz.prog 7 e7 := fk { merge := fun | 3 => some 35 | _ => none, mv := [41] } (((((((base).add o25).add o26).add o27).add o28).add o29).add o30) Tryz.func7 (Λ := Lam.nil) nF
def e86 : GEnt := entOf [.data false (.sl (.int .i64)), .data false (.sl (.int .i64))] [(false, .bool)] fun a => Pu.laws_eqIntS a.1 a.2.1
def g86 : Gam := Gam.nil
def n86 : An := { mask := fun | 4 => [0, 1, 4, 5] | _ => [] }
@[reducible] def d86_4 : SD := ⟨[.data false (.sl .arg (.int .i64)),.data false (.sl .arg (.int .i64)),B,B,DB,DI,B,B,B,B,B,B,B,B,B,B,B,B,B,B,B,B,B,B,B,B], [Z,Z,Z,Z,Z,Z,Z,Z,Z,Z,Z,Z,Z,Z,Z,Z,Z,Z,Z,Z,Z,Z,Z,Z,Z,Z], .none⟩
def t86_4 {R : Type} (X : SD.D d86_4) (K : Ex → AS → Option R) := Pu.laws_eqIntS_T4 (fun y0 => K (.exit 0) (SD.enc d86_4 ((X.1.1, (X.1.2.1, (X.1.2.2.1, (y0, ())))), (), ()))) (fun y0 y1 => K .ret (SD.enc d86_4 ((X.1.1, (X.1.2.1, (y0, (y1, ())))), (), ()))) X.1.1 X.1.2.1 X.1.2.2.1
def l86_4 : LEnt := ⟨d86_4, fun X K => iterL (t86_4 X K) fuel X.1.2.2.2.1⟩
def L86 : Lam := (Lam.nil).add 4 l86_4
theorem k86_4 : LOk E g86 n86 L86 (loopBody Tryz.f86 0) :=
  lok l86_4 (by kernel_rfl) fuel fun R X K => (loop_iter (σ := Int) (fun x => SD.enc d86_4 ((X.1.1, (X.1.2.1, (X.1.2.2.1, (x, ())))), (), ())) (t86_4 X K) (fun m x => by kernel_rfl) fuel X.1.2.2.2.1).symm
theorem o86 : FnOk Tryz.prog 86 e86 := fk n86 (base) Tryz.func86 (Λ := L86) (cF k86_4 nF)
def e31 : GEnt := entOf [.data true TFilter, .data true TFilter] [(false, .bool)] fun a => Pu.laws_eqFilter a.1 a.2.1
theorem o31 : FnOk Tryz.prog 31 e31 := fk {} ((base).add o86) Tryz.func31 (Λ := Lam.nil) nF
def e133 : GEnt := entOf [.data true TRule, .data true TRule] [(false, .bool)] fun a => Pu.laws_eqRule a.1 a.2.1
theorem o133 : FnOk Tryz.prog 133 e133 := fk {} (base) Tryz.func133 (Λ := Lam.nil) nF
def e87 : GEnt := entOf [.data false (.sl TRule), .data false (.sl TRule)] [(false, .bool)] fun a => Pu.laws_eqRuleS a.1 a.2.1
def g87 : Gam := (Gam.nil).add 133 e133
def n87 : An := { mask := fun | 4 => [0, 1, 4, 5] | _ => [] }
@[reducible] def d87_4 : SD := ⟨[.data false (.sl .arg TRule),.data false (.sl .arg TRule),B,B,DB,DI,B,B,B,B,B,B,B,B,B,B,B,B,B,B,B,B,B,B,B,B,B], [Z,Z,Z,Z,Z,Z,Z,Z,Z,Z,Z,Z,Z,Z,Z,Z,Z,Z,Z,Z,Z,Z,Z,Z,Z,Z,Z], .none⟩
def t87_4 {R : Type} (X : SD.D d87_4) (K : Ex → AS → Option R) := Pu.laws_eqRuleS_T4 (fun y0 => K (.exit 0) (SD.enc d87_4 ((X.1.1, (X.1.2.1, (X.1.2.2.1, (y0, ())))), (), ()))) (fun y0 y1 => K .ret (SD.enc d87_4 ((X.1.1, (X.1.2.1, (y0, (y1, ())))), (), ()))) X.1.1 X.1.2.1 X.1.2.2.1
def l87_4 : LEnt := ⟨d87_4, fun X K => iterL (t87_4 X K) fuel X.1.2.2.2.1⟩
def L87 : Lam := (Lam.nil).add 4 l87_4
theorem k87_4 : LOk E g87 n87 L87 (loopBody Tryz.f87 0) :=
  lok l87_4 (by kernel_rfl) fuel fun R X K => (loop_iter (σ := Int) (fun x => SD.enc d87_4 ((X.1.1, (X.1.2.1, (X.1.2.2.1, (x, ())))), (), ())) (t87_4 X K) (fun m x => by kernel_rfl) fuel X.1.2.2.2.1).symm
theorem o87 : FnOk Tryz.prog 87 e87 := fk n87 ((base).add o133) Tryz.func87 (Λ := L87) (cF k87_4 nF)
def e135 : GEnt := entOf [.data true TFlow, .data true TFlow] [(false, .bool)] fun a => Pu.laws_eqFlow a.1 a.2.1
theorem o135 : FnOk Tryz.prog 135 e135 := fk {} (base) Tryz.func135 (Λ := Lam.nil) nF
def e161 : GEnt := entOf [.data true TSlot, .data true TSlot] [(false, .bool)] fun a => Pu.laws_eqSlot a.1 a.2.1
theorem o161 : FnOk Tryz.prog 161 e161 := fk {} ((base).add o135) Tryz.func161 (Λ := Lam.nil) nF
def e134 : GEnt := entOf [.data false (.sl TSlot), .data false (.sl TSlot)] [(false, .bool)] fun a => Pu.laws_eqSlotS a.1 a.2.1
def g134 : Gam := (Gam.nil).add 161 e161
def n134 : An := { mask := fun | 4 => [0, 1, 4, 5] | _ => [] }
@[reducible] def d134_4 : SD := ⟨[.data false (.sl .arg TSlot),.data false (.sl .arg TSlot),B,B,DB,DI,B,B,B,B,B,B,B,B,B,B,B,B,B,B,B,B,B,B,B,B,B], [Z,Z,Z,Z,Z,Z,Z,Z,Z,Z,Z,Z,Z,Z,Z,Z,Z,Z,Z,Z,Z,Z,Z,Z,Z,Z,Z], .none⟩
def t134_4 {R : Type} (X : SD.D d134_4) (K : Ex → AS → Option R) := Pu.laws_eqSlotS_T4 (fun y0 => K (.exit 0) (SD.enc d134_4 ((X.1.1, (X.1.2.1, (X.1.2.2.1, (y0, ())))), (), ()))) (fun y0 y1 => K .ret (SD.enc d134_4 ((X.1.1, (X.1.2.1, (y0, (y1, ())))), (), ()))) X.1.1 X.1.2.1 X.1.2.2.1
def l134_4 : LEnt := ⟨d134_4, fun X K => iterL (t134_4 X K) fuel X.1.2.2.2.1⟩
def L134 : Lam := (Lam.nil).add 4 l134_4
theorem k134_4 : LOk E g134 n134 L134 (loopBody Tryz.f134 0) :=
  lok l134_4 (by kernel_rfl) fuel fun R X K => (loop_iter (σ := Int) (fun x => SD.enc d134_4 ((X.1.1, (X.1.2.1, (X.1.2.2.1, (x, ())))), (), ())) (t134_4 X K) (fun m x => by kernel_rfl) fuel X.1.2.2.2.1).symm
theorem o134 : FnOk Tryz.prog 134 e134 := fk n134 ((base).add o161) Tryz.func134 (Λ := L134) (cF k134_4 nF)
def e88 : GEnt := entOf [.data true (.sl TSlot), .data true (.sl TSlot)] [(false, .bool)] fun a => Pu.laws_eqFlowTable a.1 a.2.1
theorem o88 : FnOk Tryz.prog 88 e88 := fk {} ((base).add o134) Tryz.func88 (Λ := Lam.nil) nF
def e89 : GEnt := entOf [.data true TSpread, .data true TSpread] [(false, .bool)] fun a => Pu.laws_eqSpread a.1 a.2.1
theorem o89 : FnOk Tryz.prog 89 e89 := fk {} ((base).add o86) Tryz.func89 (Λ := Lam.nil) nF
def e32 : GEnt := entOf [.data true TSteering, .data true TSteering] [(false, .bool)] fun a => Pu.laws_eqSteering a.1 a.2.1
theorem o32 : FnOk Tryz.prog 32 e32 := fk {} ((((base).add o87).add o88).add o89) Tryz.func32 (Λ := Lam.nil) nF
def e90 : GEnt := entOf [.data true TStream, .data true TStream] [(false, .bool)] fun a => Pu.laws_eqStream a.1 a.2.1
theorem o90 : FnOk Tryz.prog 90 e90 := fk {} ((base).add o135) Tryz.func90 (Λ := Lam.nil) nF
def e33 : GEnt := entOf [.data false (.sl TStream), .data false (.sl TStream)] [(false, .bool)] fun a => Pu.laws_eqStreamS a.1 a.2.1
def g33 : Gam := (Gam.nil).add 90 e90
def n33 : An := { mask := fun | 4 => [0, 1, 4, 5] | _ => [] }
@[reducible] def d33_4 : SD := ⟨[.data false (.sl .arg TStream),.data false (.sl .arg TStream),B,B,DB,DI,B,B,B,B,B,B,B,B,B,B,B,B,B,B,B,B,B,B,B,B,B], [Z,Z,Z,Z,Z,Z,Z,Z,Z,Z,Z,Z,Z,Z,Z,Z,Z,Z,Z,Z,Z,Z,Z,Z,Z,Z,Z], .none⟩
def t33_4 {R : Type} (X : SD.D d33_4) (K : Ex → AS → Option R) := Pu.laws_eqStreamS_T4 (fun y0 => K (.exit 0) (SD.enc d33_4 ((X.1.1, (X.1.2.1, (X.1.2.2.1, (y0, ())))), (), ()))) (fun y0 y1 => K .ret (SD.enc d33_4 ((X.1.1, (X.1.2.1, (y0, (y1, ())))), (), ()))) X.1.1 X.1.2.1 X.1.2.2.1
def l33_4 : LEnt := ⟨d33_4, fun X K => iterL (t33_4 X K) fuel X.1.2.2.2.1⟩
def L33 : Lam := (Lam.nil).add 4 l33_4
theorem k33_4 : LOk E g33 n33 L33 (loopBody Tryz.f33 0) :=
  lok l33_4 (by kernel_rfl) fuel fun R X K => (loop_iter (σ := Int) (fun x => SD.enc d33_4 ((X.1.1, (X.1.2.1, (X.1.2.2.1, (x, ())))), (), ())) (t33_4 X K) (fun m x => by kernel_rfl) fuel X.1.2.2.2.1).symm
theorem o33 : FnOk Tryz.prog 33 e33 := fk n33 ((base).add o90) Tryz.func33 (Λ := L33) (cF k33_4 nF)
def e34 : GEnt := entOf [.data false (.sl .str), .data false (.sl .str)] [(false, .bool)] fun a => Pu.laws_eqStringS a.1 a.2.1
def g34 : Gam := Gam.nil
def n34 : An := { mask := fun | 4 => [0, 1, 4, 5] | _ => [] }
@[reducible] def d34_4 : SD := ⟨[.data false (.sl .arg .str),.data false (.sl .arg .str),B,B,DB,DI,B,B,B,B,B,B,B,B,B,B,B,B,B,B,B,B,B,B,B,B], [Z,Z,Z,Z,Z,Z,Z,Z,Z,Z,Z,Z,Z,Z,Z,Z,Z,Z,Z,Z,Z,Z,Z,Z,Z,Z], .none⟩
def t34_4 {R : Type} (X : SD.D d34_4) (K : Ex → AS → Option R) := Pu.laws_eqStringS_T4 (fun y0 => K (.exit 0) (SD.enc d34_4 ((X.1.1, (X.1.2.1, (X.1.2.2.1, (y0, ())))), (), ()))) (fun y0 y1 => K .ret (SD.enc d34_4 ((X.1.1, (X.1.2.1, (y0, (y1, ())))), (), ()))) X.1.1 X.1.2.1 X.1.2.2.1
def l34_4 : LEnt := ⟨d34_4, fun X K => iterL (t34_4 X K) fuel X.1.2.2.2.1⟩
def L34 : Lam := (Lam.nil).add 4 l34_4
theorem k34_4 : LOk E g34 n34 L34 (loopBody Tryz.f34 0) :=
  lok l34_4 (by kernel_rfl) fuel fun R X K => (loop_iter (σ := Int) (fun x => SD.enc d34_4 ((X.1.1, (X.1.2.1, (X.1.2.2.1, (x, ())))), (), ())) (t34_4 X K) (fun m x => by kernel_rfl) fuel X.1.2.2.2.1).symm
theorem o34 : FnOk Tryz.prog 34 e34 := fk n34 (base) Tryz.func34 (Λ := L34) (cF k34_4 nF)
def e8 : GEnt := entOf [.data true TSoft, .data true TSoft] [(false, .bool)] fun a => Pu.laws_eqSoft a.1 a.2.1
theorem o8 : FnOk Tryz.prog 8 e8 := fk {} (((((base).add o31).add o32).add o33).add o34) Tryz.func8 (Λ := Lam.nil) nF
def e91 : GEnt := entIo (.sl (.int .i64)) false [.data false (.int .i64)] [(false, (.int .i64))] fun x a => Pu.laws_markIntS x a.1
def g91 : Gam := Gam.nil
def n91 : An := { mask := fun | 2 => [0, 1, 5] | _ => [] }
@[reducible] def d91_2 : SD := ⟨[.data false (.sl (.lio 0 12288036864) (.int .i64)),DI,B,B,B,DI,B,B,B,B,B,B,B,B,B,B,B,B,B], [Z,Z,Z,Z,Z,Z,Z,Z,Z,Z,Z,Z,Z,Z,Z,Z,Z,Z,Z], .some (.sl (.own (some 12288036864)) (.int .i64))⟩
def t91_2 {R : Type} (X : SD.D d91_2) (K : Ex → AS → Option R) := Pu.laws_markIntS_T2 (fun y0 y1 y2 y3 => K (.exit 0) (SD.enc d91_2 ((y0, (y1, (y2, ()))), (), y3))) 
def l91_2 : LEnt := ⟨d91_2, fun X K => iterL (t91_2 X K) fuel (X.1.1, X.1.2.1, X.1.2.2.1, X.2.2)⟩
def L91 : Lam := (Lam.nil).add 2 l91_2
theorem k91_2 : LOk E g91 n91 L91 (loopBody Tryz.f91 0) :=
  lok l91_2 (by kernel_rfl) fuel fun R X K => (loop_iter (σ := (List Int) × Int × Int × List Int) (fun x => SD.enc d91_2 ((x.1, (x.2.1, (x.2.2.1, ()))), (), x.2.2.2)) (t91_2 X K) (fun m x => by kernel_rfl) fuel (X.1.1, X.1.2.1, X.1.2.2.1, X.2.2)).symm
theorem o91 : FnOk Tryz.prog 91 e91 := FnOk.ofIo (fnIo (Γ := g91) (an := n91) (Λ := L91) (base) Tryz.func91 (by kernel_rfl) (hF (by kernel_rfl) (cF k91_2 nF))) (fun x a => by kernel_rfl)
def e35 : GEnt := entIo TFilter true [.data false (.int .i64)] [(false, (.int .i64))] fun x a => Pu.laws_markFilter x a.1
theorem o35 : FnOk Tryz.prog 35 e35 := FnOk.ofIo (fnIo (an := {}) (Λ := Lam.nil) ((base).add o91) Tryz.func35 (by kernel_rfl) (hF (by kernel_rfl) nF)) (fun x a => by kernel_rfl)
def e92 : GEnt := entIo (.sl TRule) false [.data false (.int .i64)] [(false, (.int .i64))] fun x a => Pu.laws_markRuleS x a.1
def g92 : Gam := Gam.nil
def n92 : An := { mask := fun | 2 => [0, 1, 5] | _ => [] }
@[reducible] def d92_2 : SD := ⟨[.data false (.sl (.lio 0 12288036864) TRule),DI,B,B,B,DI,B,B,B,B,B,B,B,B,B,B,B,B,B,B,B,B,B,B,B,B,B,B,B,B,B,B,B,B,B,B,B,B,B,B,B,B,B,B,B,B,B,B,B,B,B,B,B,B,B,B,B,B,B,B,B,B,B,B,B,B,B,B,B,B,B,B,B,B,B,B], [Z,Z,Z,Z,Z,Z,Z,Z,Z,Z,Z,Z,Z,Z,Z,Z,Z,Z,Z,Z,Z,Z,Z,Z,Z,Z,Z,Z,Z,Z,Z,Z,Z,Z,Z,Z,Z,Z,Z,Z,Z,Z,Z,Z,Z,Z,Z,Z,Z,Z,Z,Z,Z,Z,Z,Z,Z,Z,Z,Z,Z,Z,Z,Z,Z,Z,Z,Z,Z,Z,Z,Z,Z,Z,Z,Z], .some (.sl (.own (some 12288036864)) TRule)⟩
def t92_2 {R : Type} (X : SD.D d92_2) (K : Ex → AS → Option R) := Pu.laws_markRuleS_T2 (fun y0 y1 y2 y3 => K (.exit 0) (SD.enc d92_2 ((y0, (y1, (y2, ()))), (), y3))) 
def l92_2 : LEnt := ⟨d92_2, fun X K => iterL (t92_2 X K) fuel (X.1.1, X.1.2.1, X.1.2.2.1, X.2.2)⟩
def L92 : Lam := (Lam.nil).add 2 l92_2
theorem k92_2 : LOk E g92 n92 L92 (loopBody Tryz.f92 0) :=
  lok l92_2 (by kernel_rfl) fuel fun R X K => (loop_iter (σ := (List Pu.Rule) × Int × Int × List Pu.Rule) (fun x => SD.enc d92_2 ((x.1, (x.2.1, (x.2.2.1, ()))), (), x.2.2.2)) (t92_2 X K) (fun m x => by kernel_rfl) fuel (X.1.1, X.1.2.1, X.1.2.2.1, X.2.2)).symm
theorem o92 : FnOk Tryz.prog 92 e92 := FnOk.ofIo (fnIo (Γ := g92) (an := n92) (Λ := L92) (base) Tryz.func92 (by kernel_rfl) (hF (by kernel_rfl) (cF k92_2 nF))) (fun x a => by kernel_rfl)
def e136 : GEnt := entIo (.sl TSlot) false [.data false (.int .i64)] [(false, (.int .i64))] fun x a => Pu.laws_markSlotS x a.1
def g136 : Gam := Gam.nil
def n136 : An := { mask := fun | 2 => [0, 1, 5] | _ => [] }
@[reducible] def d136_2 : SD := ⟨[.data false (.sl (.lio 0 12288036864) TSlot),DI,B,B,B,DI,B,B,B,B,B,B,B,B,B,B,B,B,B,B,B,B,B,B,B,B,B,B,B,B,B,B,B,B,B,B,B,B,B,B,B,B,B,B,B,B,B,B,B,B,B,B,B,B,B,B,B,B,B,B,B,B,B,B,B,B,B], [Z,Z,Z,Z,Z,Z,Z,Z,Z,Z,Z,Z,Z,Z,Z,Z,Z,Z,Z,Z,Z,Z,Z,Z,Z,Z,Z,Z,Z,Z,Z,Z,Z,Z,Z,Z,Z,Z,Z,Z,Z,Z,Z,Z,Z,Z,Z,Z,Z,Z,Z,Z,Z,Z,Z,Z,Z,Z,Z,Z,Z,Z,Z,Z,Z,Z,Z], .some (.sl (.own (some 12288036864)) TSlot)⟩
def t136_2 {R : Type} (X : SD.D d136_2) (K : Ex → AS → Option R) := Pu.laws_markSlotS_T2 (fun y0 y1 y2 y3 => K (.exit 0) (SD.enc d136_2 ((y0, (y1, (y2, ()))), (), y3))) 
def l136_2 : LEnt := ⟨d136_2, fun X K => iterL (t136_2 X K) fuel (X.1.1, X.1.2.1, X.1.2.2.1, X.2.2)⟩
def L136 : Lam := (Lam.nil).add 2 l136_2
theorem k136_2 : LOk E g136 n136 L136 (loopBody Tryz.f136 0) :=
  lok l136_2 (by kernel_rfl) fuel fun R X K => (loop_iter (σ := (List Pu.Slot) × Int × Int × List Pu.Slot) (fun x => SD.enc d136_2 ((x.1, (x.2.1, (x.2.2.1, ()))), (), x.2.2.2)) (t136_2 X K) (fun m x => by kernel_rfl) fuel (X.1.1, X.1.2.1, X.1.2.2.1, X.2.2)).symm
theorem o136 : FnOk Tryz.prog 136 e136 := FnOk.ofIo (fnIo (Γ := g136) (an := n136) (Λ := L136) (base) Tryz.func136 (by kernel_rfl) (hF (by kernel_rfl) (cF k136_2 nF))) (fun x a => by kernel_rfl)
def e93 : GEnt := entIo (.sl TSlot) true [.data false (.int .i64)] [(false, (.int .i64))] fun x a => Pu.laws_markFlowTable x a.1
theorem o93 : FnOk Tryz.prog 93 e93 := FnOk.ofIo (fnIo (an := {}) (Λ := Lam.nil) ((base).add o136) Tryz.func93 (by kernel_rfl) (hF (by kernel_rfl) nF)) (fun x a => by kernel_rfl)
def e94 : GEnt := entIo TSpread true [.data false (.int .i64)] [(false, (.int .i64))] fun x a => Pu.laws_markSpread x a.1
theorem o94 : FnOk Tryz.prog 94 e94 := FnOk.ofIo (fnIo (an := {}) (Λ := Lam.nil) ((base).add o91) Tryz.func94 (by kernel_rfl) (hF (by kernel_rfl) nF)) (fun x a => by kernel_rfl)
def e36 : GEnt := entIo TSteering true [.data false (.int .i64)] [(false, (.int .i64))] fun x a => Pu.laws_markSteering x a.1
theorem o36 : FnOk Tryz.prog 36 e36 := FnOk.ofIo (fnIo (an := {}) (Λ := Lam.nil) ((((base).add o92).add o93).add o94) Tryz.func36 (by kernel_rfl) (hF (by kernel_rfl) nF)) (fun x a => by kernel_rfl)
def e95 : GEnt := entOf [.data false (.int .i64)] [(false, .str)] fun a => Pu.laws_markText a.1
def g95 : Gam := Gam.nil
def n95 : An := { mask := fun | 4 => [0, 3] | _ => [] }
@[reducible] def d95_4 : SD := ⟨[DI,B,B,.data false .str,B,B,B,B,B,B,B,B,B,B,B,B,B,B,B,B], [Z,Z,Z,Z,Z,Z,Z,Z,Z,Z,Z,Z,Z,Z,Z,Z,Z,Z,Z,Z], .none⟩
def t95_4 {R : Type} (X : SD.D d95_4) (K : Ex → AS → Option R) := Pu.laws_markText_T4 (fun y0 y1 => K (.exit 0) (SD.enc d95_4 ((y0, (y1, ())), (), ()))) 
def l95_4 : LEnt := ⟨d95_4, fun X K => iterL (t95_4 X K) fuel (X.1.1, X.1.2.1)⟩
def L95 : Lam := (Lam.nil).add 4 l95_4
theorem k95_4 : LOk E g95 n95 L95 (loopBody Tryz.f95 0) :=
  lok l95_4 (by kernel_rfl) fuel fun R X K => (loop_iter (σ := Int × Pu.Bytes) (fun x => SD.enc d95_4 ((x.1, (x.2, ())), (), ())) (t95_4 X K) (fun m x => by kernel_rfl) fuel (X.1.1, X.1.2.1)).symm
theorem o95 : FnOk Tryz.prog 95 e95 := fk n95 (base) Tryz.func95 (Λ := L95) (cF k95_4 nF)
def e37 : GEnt := entIo (.sl TStream) false [.data false (.int .i64)] [(false, (.int .i64))] fun x a => Pu.laws_markStreamS x a.1
def g37 : Gam := (Gam.nil).add 95 e95
def n37 : An := { mask := fun | 2 => [0, 1, 5] | _ => [] }
@[reducible] def d37_2 : SD := ⟨[.data false (.sl (.lio 0 12288036864) TStream),DI,B,B,B,DI,B,B,B,B,B,B,B,B,B,B,B,B,B,B,B,B,B,B,B,B,B,B,B,B,B,B,B,B,B,B,B,B,B,B,B,B,B,B,B,B,B,B,B,B,B,B,B,B,B,B,B,B,B,B,B,B,B,B,B,B,B,B,B,B,B,B,B,B,B,B,B], [Z,Z,Z,Z,Z,Z,Z,Z,Z,Z,Z,Z,Z,Z,Z,Z,Z,Z,Z,Z,Z,Z,Z,Z,Z,Z,Z,Z,Z,Z,Z,Z,Z,Z,Z,Z,Z,Z,Z,Z,Z,Z,Z,Z,Z,Z,Z,Z,Z,Z,Z,Z,Z,Z,Z,Z,Z,Z,Z,Z,Z,Z,Z,Z,Z,Z,Z,Z,Z,Z,Z,Z,Z,Z,Z,Z,Z], .some (.sl (.own (some 12288036864)) TStream)⟩
def t37_2 {R : Type} (X : SD.D d37_2) (K : Ex → AS → Option R) := Pu.laws_markStreamS_T2 (fun y0 y1 y2 y3 => K (.exit 0) (SD.enc d37_2 ((y0, (y1, (y2, ()))), (), y3))) 
def l37_2 : LEnt := ⟨d37_2, fun X K => iterL (t37_2 X K) fuel (X.1.1, X.1.2.1, X.1.2.2.1, X.2.2)⟩
def L37 : Lam := (Lam.nil).add 2 l37_2
theorem k37_2 : LOk E g37 n37 L37 (loopBody Tryz.f37 0) :=
  lok l37_2 (by kernel_rfl) fuel fun R X K => (loop_iter (σ := (List Pu.Stream) × Int × Int × List Pu.Stream) (fun x => SD.enc d37_2 ((x.1, (x.2.1, (x.2.2.1, ()))), (), x.2.2.2)) (t37_2 X K) (fun m x => by kernel_rfl) fuel (X.1.1, X.1.2.1, X.1.2.2.1, X.2.2)).symm
theorem o37 : FnOk Tryz.prog 37 e37 := FnOk.ofIo (fnIo (Γ := g37) (an := n37) (Λ := L37) ((base).add o95) Tryz.func37 (by kernel_rfl) (hF (by kernel_rfl) (cF k37_2 nF))) (fun x a => by kernel_rfl)
def e38 : GEnt := entIo (.sl .str) false [.data false (.int .i64)] [(false, (.int .i64))] fun x a => Pu.laws_markStringS x a.1
def g38 : Gam := (Gam.nil).add 95 e95
def n38 : An := { mask := fun | 2 => [0, 1, 5] | _ => [] }
@[reducible] def d38_2 : SD := ⟨[.data false (.sl (.lio 0 12288036864) .str),DI,B,B,B,DI,B,B,B,B,B,B,B,B,B,B,B,B,B,B], [Z,Z,Z,Z,Z,Z,Z,Z,Z,Z,Z,Z,Z,Z,Z,Z,Z,Z,Z,Z], .some (.sl (.own (some 12288036864)) .str)⟩
def t38_2 {R : Type} (X : SD.D d38_2) (K : Ex → AS → Option R) := Pu.laws_markStringS_T2 (fun y0 y1 y2 y3 => K (.exit 0) (SD.enc d38_2 ((y0, (y1, (y2, ()))), (), y3))) 
def l38_2 : LEnt := ⟨d38_2, fun X K => iterL (t38_2 X K) fuel (X.1.1, X.1.2.1, X.1.2.2.1, X.2.2)⟩
def L38 : Lam := (Lam.nil).add 2 l38_2
theorem k38_2 : LOk E g38 n38 L38 (loopBody Tryz.f38 0) :=
  lok l38_2 (by kernel_rfl) fuel fun R X K => (loop_iter (σ := (List Pu.Bytes) × Int × Int × List Pu.Bytes) (fun x => SD.enc d38_2 ((x.1, (x.2.1, (x.2.2.1, ()))), (), x.2.2.2)) (t38_2 X K) (fun m x => by kernel_rfl) fuel (X.1.1, X.1.2.1, X.1.2.2.1, X.2.2)).symm
theorem o38 : FnOk Tryz.prog 38 e38 := FnOk.ofIo (fnIo (Γ := g38) (an := n38) (Λ := L38) ((base).add o95) Tryz.func38 (by kernel_rfl) (hF (by kernel_rfl) (cF k38_2 nF))) (fun x a => by kernel_rfl)
def e9 : GEnt := entIo TSoft true [.data false (.int .i64)] [(false, (.int .i64))] fun x a => Pu.laws_markSoft x a.1
theorem o9 : FnOk Tryz.prog 9 e9 := FnOk.ofIo (fnIo (an := {}) (Λ := Lam.nil) (((((base).add o35).add o36).add o37).add o38) Tryz.func9 (by kernel_rfl) (hF (by kernel_rfl) nF)) (fun x a => by kernel_rfl)
def e96 : GEnt := entOf [.data false (.sl (.int .i64)), .data false (.int .i64)] [(false, (.int .i64))] fun a => Pu.laws_heldIntS a.1 a.2.1
def g96 : Gam := Gam.nil
def n96 : An := { mask := fun | 2 => [0, 1, 4, 5] | _ => [] }
@[reducible] def d96_2 : SD := ⟨[.data false (.sl .arg (.int .i64)),DI,B,B,DI,DI,B,B,B,B,B,B,B,B,B,B,B,B,B,B,B], [Z,Z,Z,Z,Z,Z,Z,Z,Z,Z,Z,Z,Z,Z,Z,Z,Z,Z,Z,Z,Z], .none⟩
def t96_2 {R : Type} (X : SD.D d96_2) (K : Ex → AS → Option R) := Pu.laws_heldIntS_T2 (fun y0 y1 => K (.exit 0) (SD.enc d96_2 ((X.1.1, (y0, (X.1.2.2.1, (y1, ())))), (), ()))) (fun y0 y1 y2 => K .ret (SD.enc d96_2 ((X.1.1, (y0, (y1, (y2, ())))), (), ()))) X.1.1 X.1.2.2.1
def l96_2 : LEnt := ⟨d96_2, fun X K => iterL (t96_2 X K) fuel (X.1.2.1, X.1.2.2.2.1)⟩
def L96 : Lam := (Lam.nil).add 2 l96_2
theorem k96_2 : LOk E g96 n96 L96 (loopBody Tryz.f96 0) :=
  lok l96_2 (by kernel_rfl) fuel fun R X K => (loop_iter (σ := Int × Int) (fun x => SD.enc d96_2 ((X.1.1, (x.1, (X.1.2.2.1, (x.2, ())))), (), ())) (t96_2 X K) (fun m x => by kernel_rfl) fuel (X.1.2.1, X.1.2.2.2.1)).symm
theorem o96 : FnOk Tryz.prog 96 e96 := fk n96 (base) Tryz.func96 (Λ := L96) (cF k96_2 nF)
def e39 : GEnt := entOf [.data true TFilter, .data false (.int .i64)] [(false, (.int .i64))] fun a => Pu.laws_heldFilter a.1 a.2.1
theorem o39 : FnOk Tryz.prog 39 e39 := fk {} ((base).add o96) Tryz.func39 (Λ := Lam.nil) nF
def e97 : GEnt := entOf [.data false (.sl TRule), .data false (.int .i64)] [(false, (.int .i64))] fun a => Pu.laws_heldRuleS a.1 a.2.1
def g97 : Gam := Gam.nil
def n97 : An := { mask := fun | 2 => [0, 1, 4, 5] | _ => [] }
@[reducible] def d97_2 : SD := ⟨[.data false (.sl .arg TRule),DI,B,B,DI,DI,B,B,B,B,B,B,B,B,B,B,B,B,B,B,B,B,B,B,B,B,B,B,B,B,B,B,B,B,B,B,B,B,B,B,B,B,B,B,B,B,B,B,B,B,B,B,B,B,B,B,B,B,B,B,B,B,B,B,B,B,B,B,B,B,B,B,B,B,B,B,B,B,B,B,B,B,B,B,B,B,B,B,B,B,B,B,B,B], [Z,Z,Z,Z,Z,Z,Z,Z,Z,Z,Z,Z,Z,Z,Z,Z,Z,Z,Z,Z,Z,Z,Z,Z,Z,Z,Z,Z,Z,Z,Z,Z,Z,Z,Z,Z,Z,Z,Z,Z,Z,Z,Z,Z,Z,Z,Z,Z,Z,Z,Z,Z,Z,Z,Z,Z,Z,Z,Z,Z,Z,Z,Z,Z,Z,Z,Z,Z,Z,Z,Z,Z,Z,Z,Z,Z,Z,Z,Z,Z,Z,Z,Z,Z,Z,Z,Z,Z,Z,Z,Z,Z,Z,Z], .none⟩
def t97_2 {R : Type} (X : SD.D d97_2) (K : Ex → AS → Option R) := Pu.laws_heldRuleS_T2 (fun y0 y1 => K (.exit 0) (SD.enc d97_2 ((X.1.1, (y0, (X.1.2.2.1, (y1, ())))), (), ()))) (fun y0 y1 y2 => K .ret (SD.enc d97_2 ((X.1.1, (y0, (y1, (y2, ())))), (), ()))) X.1.1 X.1.2.2.1
def l97_2 : LEnt := ⟨d97_2, fun X K => iterL (t97_2 X K) fuel (X.1.2.1, X.1.2.2.2.1)⟩
def L97 : Lam := (Lam.nil).add 2 l97_2
theorem k97_2 : LOk E g97 n97 L97 (loopBody Tryz.f97 0) :=
  lok l97_2 (by kernel_rfl) fuel fun R X K => (loop_iter (σ := Int × Int) (fun x => SD.enc d97_2 ((X.1.1, (x.1, (X.1.2.2.1, (x.2, ())))), (), ())) (t97_2 X K) (fun m x => by kernel_rfl) fuel (X.1.2.1, X.1.2.2.2.1)).symm
theorem o97 : FnOk Tryz.prog 97 e97 := fk n97 (base) Tryz.func97 (Λ := L97) (cF k97_2 nF)
def e137 : GEnt := entOf [.data false (.sl TSlot), .data false (.int .i64)] [(false, (.int .i64))] fun a => Pu.laws_heldSlotS a.1 a.2.1
def g137 : Gam := Gam.nil
def n137 : An := { mask := fun | 2 => [0, 1, 4, 5] | _ => [] }
@[reducible] def d137_2 : SD := ⟨[.data false (.sl .arg TSlot),DI,B,B,DI,DI,B,B,B,B,B,B,B,B,B,B,B,B,B,B,B,B,B,B,B,B,B,B,B,B,B,B,B,B,B,B,B,B,B,B,B,B,B,B,B,B,B,B,B,B,B,B,B,B,B,B,B,B,B,B,B,B,B,B,B,B,B,B,B,B,B,B,B,B,B,B,B,B,B,B,B], [Z,Z,Z,Z,Z,Z,Z,Z,Z,Z,Z,Z,Z,Z,Z,Z,Z,Z,Z,Z,Z,Z,Z,Z,Z,Z,Z,Z,Z,Z,Z,Z,Z,Z,Z,Z,Z,Z,Z,Z,Z,Z,Z,Z,Z,Z,Z,Z,Z,Z,Z,Z,Z,Z,Z,Z,Z,Z,Z,Z,Z,Z,Z,Z,Z,Z,Z,Z,Z,Z,Z,Z,Z,Z,Z,Z,Z,Z,Z,Z,Z], .none⟩
def t137_2 {R : Type} (X : SD.D d137_2) (K : Ex → AS → Option R) := Pu.laws_heldSlotS_T2 (fun y0 y1 => K (.exit 0) (SD.enc d137_2 ((X.1.1, (y0, (X.1.2.2.1, (y1, ())))), (), ()))) (fun y0 y1 y2 => K .ret (SD.enc d137_2 ((X.1.1, (y0, (y1, (y2, ())))), (), ()))) X.1.1 X.1.2.2.1
def l137_2 : LEnt := ⟨d137_2, fun X K => iterL (t137_2 X K) fuel (X.1.2.1, X.1.2.2.2.1)⟩
def L137 : Lam := (Lam.nil).add 2 l137_2
theorem k137_2 : LOk E g137 n137 L137 (loopBody Tryz.f137 0) :=
  lok l137_2 (by kernel_rfl) fuel fun R X K => (loop_iter (σ := Int × Int) (fun x => SD.enc d137_2 ((X.1.1, (x.1, (X.1.2.2.1, (x.2, ())))), (), ())) (t137_2 X K) (fun m x => by kernel_rfl) fuel (X.1.2.1, X.1.2.2.2.1)).symm
theorem o137 : FnOk Tryz.prog 137 e137 := fk n137 (base) Tryz.func137 (Λ := L137) (cF k137_2 nF)
def e98 : GEnt := entOf [.data true (.sl TSlot), .data false (.int .i64)] [(false, (.int .i64))] fun a => Pu.laws_heldFlowTable a.1 a.2.1
theorem o98 : FnOk Tryz.prog 98 e98 := fk {} ((base).add o137) Tryz.func98 (Λ := Lam.nil) nF
def e99 : GEnt := entOf [.data true TSpread, .data false (.int .i64)] [(false, (.int .i64))] fun a => Pu.laws_heldSpread a.1 a.2.1
theorem o99 : FnOk Tryz.prog 99 e99 := fk {} ((base).add o96) Tryz.func99 (Λ := Lam.nil) nF
def e40 : GEnt := entOf [.data true TSteering, .data false (.int .i64)] [(false, (.int .i64))] fun a => Pu.laws_heldSteering a.1 a.2.1
theorem o40 : FnOk Tryz.prog 40 e40 := fk {} ((((base).add o97).add o98).add o99) Tryz.func40 (Λ := Lam.nil) nF
def e41 : GEnt := entOf [.data false (.sl TStream), .data false (.int .i64)] [(false, (.int .i64))] fun a => Pu.laws_heldStreamS a.1 a.2.1
def g41 : Gam := (Gam.nil).add 95 e95
def n41 : An := { mask := fun | 2 => [0, 1, 4, 5] | _ => [] }
@[reducible] def d41_2 : SD := ⟨[.data false (.sl .arg TStream),DI,B,B,DI,DI,B,B,B,B,B,B,B,B,B,B,B,B,B,B,B,B,B,B,B,B,B,B,B,B,B,B,B,B,B,B,B,B,B,B,B,B,B,B,B,B,B,B,B,B,B,B,B,B,B,B,B,B,B,B,B,B,B,B,B,B,B,B,B,B,B,B,B,B,B,B,B,B,B,B,B,B,B,B,B,B,B,B,B,B,B,B,B], [Z,Z,Z,Z,Z,Z,Z,Z,Z,Z,Z,Z,Z,Z,Z,Z,Z,Z,Z,Z,Z,Z,Z,Z,Z,Z,Z,Z,Z,Z,Z,Z,Z,Z,Z,Z,Z,Z,Z,Z,Z,Z,Z,Z,Z,Z,Z,Z,Z,Z,Z,Z,Z,Z,Z,Z,Z,Z,Z,Z,Z,Z,Z,Z,Z,Z,Z,Z,Z,Z,Z,Z,Z,Z,Z,Z,Z,Z,Z,Z,Z,Z,Z,Z,Z,Z,Z,Z,Z,Z,Z,Z,Z], .none⟩
def t41_2 {R : Type} (X : SD.D d41_2) (K : Ex → AS → Option R) := Pu.laws_heldStreamS_T2 (fun y0 y1 => K (.exit 0) (SD.enc d41_2 ((X.1.1, (y0, (X.1.2.2.1, (y1, ())))), (), ()))) (fun y0 y1 y2 => K .ret (SD.enc d41_2 ((X.1.1, (y0, (y1, (y2, ())))), (), ()))) X.1.1 X.1.2.2.1
def l41_2 : LEnt := ⟨d41_2, fun X K => iterL (t41_2 X K) fuel (X.1.2.1, X.1.2.2.2.1)⟩
def L41 : Lam := (Lam.nil).add 2 l41_2
theorem k41_2 : LOk E g41 n41 L41 (loopBody Tryz.f41 0) :=
  lok l41_2 (by kernel_rfl) fuel fun R X K => (loop_iter (σ := Int × Int) (fun x => SD.enc d41_2 ((X.1.1, (x.1, (X.1.2.2.1, (x.2, ())))), (), ())) (t41_2 X K) (fun m x => by kernel_rfl) fuel (X.1.2.1, X.1.2.2.2.1)).symm
theorem o41 : FnOk Tryz.prog 41 e41 := fk n41 ((base).add o95) Tryz.func41 (Λ := L41) (cF k41_2 nF)
def e42 : GEnt := entOf [.data false (.sl .str), .data false (.int .i64)] [(false, (.int .i64))] fun a => Pu.laws_heldStringS a.1 a.2.1
def g42 : Gam := (Gam.nil).add 95 e95
def n42 : An := { mask := fun | 2 => [0, 1, 4, 5] | _ => [] }
@[reducible] def d42_2 : SD := ⟨[.data false (.sl .arg .str),DI,B,B,DI,DI,B,B,B,B,B,B,B,B,B,B,B,B,B,B,B,B], [Z,Z,Z,Z,Z,Z,Z,Z,Z,Z,Z,Z,Z,Z,Z,Z,Z,Z,Z,Z,Z,Z], .none⟩
def t42_2 {R : Type} (X : SD.D d42_2) (K : Ex → AS → Option R) := Pu.laws_heldStringS_T2 (fun y0 y1 => K (.exit 0) (SD.enc d42_2 ((X.1.1, (y0, (X.1.2.2.1, (y1, ())))), (), ()))) (fun y0 y1 y2 => K .ret (SD.enc d42_2 ((X.1.1, (y0, (y1, (y2, ())))), (), ()))) X.1.1 X.1.2.2.1
def l42_2 : LEnt := ⟨d42_2, fun X K => iterL (t42_2 X K) fuel (X.1.2.1, X.1.2.2.2.1)⟩
def L42 : Lam := (Lam.nil).add 2 l42_2
theorem k42_2 : LOk E g42 n42 L42 (loopBody Tryz.f42 0) :=
  lok l42_2 (by kernel_rfl) fuel fun R X K => (loop_iter (σ := Int × Int) (fun x => SD.enc d42_2 ((X.1.1, (x.1, (X.1.2.2.1, (x.2, ())))), (), ())) (t42_2 X K) (fun m x => by kernel_rfl) fuel (X.1.2.1, X.1.2.2.2.1)).symm
theorem o42 : FnOk Tryz.prog 42 e42 := fk n42 ((base).add o95) Tryz.func42 (Λ := L42) (cF k42_2 nF)
def e10 : GEnt := entOf [.data true TSoft, .data false (.int .i64)] [(false, (.int .i64))] fun a => Pu.laws_heldSoft a.1 a.2.1
theorem o10 : FnOk Tryz.prog 10 e10 := fk {} (((((base).add o39).add o40).add o41).add o42) Tryz.func10 (Λ := Lam.nil) nF
@[reducible] def s_laws_FnExactSoftReceive : List PS := [.data true TSoft, .data false .str]
def e_laws_FnExactSoftReceive : GEnt := entOf s_laws_FnExactSoftReceive [(false, .bool)] fun a => Pu.laws_FnExactSoftReceive a.1 a.2.1
theorem o_laws_FnExactSoftReceive : FnOk Tryz.prog 3 e_laws_FnExactSoftReceive := fk { merge := fun | 16 => some 49 | _ => none } ((((((((base).add o4).add o5).add o6).add o7).add o8).add o9).add o10) Tryz.func3 (Λ := Lam.nil) nF

end

end Go.Proofs.YtclgaiiidllehaaGreat.Fn
