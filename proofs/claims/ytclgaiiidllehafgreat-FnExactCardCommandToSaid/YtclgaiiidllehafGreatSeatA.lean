import Derived.Test.YtclgaiiidllehafGreatDnSig
import Derived.Test.YtclgaiiidllehafGreatPure
import Derived.Test.YtclgaiiidllehafGreatRows
/- Each function of the program is its pure function (made by gen.py). -/
namespace Go.Proofs.YtclgaiiidllehafGreat.Fn
open Go.Dn
open Go.Pu (TMapping TClock TRing TPool TSent TTxQueue TBucket TCompletionQueue TMessage TPacket TSuper TRxQueue TVector TFilter TRule TFlow TCounters TSlot TSteering TStream THost TVirtualFunction TMailbox TCard TSpread TPort TSegment)
set_option maxRecDepth 100000
noncomputable section
abbrev B : PD := .bot
abbrev DI : PD := .data false (.int .i64)
abbrev DB : PD := .data false .bool
abbrev Z : Option FT := none
theorem nF {p : Code → Prop} : ∀ x ∈ ([] : List Code), p x := fun _ h => nomatch h
theorem cF {p : Code → Prop} {a : Code} {l : List Code} (h : p a) (t : ∀ x ∈ l, p x) : ∀ x ∈ a :: l, p x := List.forall_mem_cons.2 ⟨h, t⟩
theorem hF {p : Code → Prop} {l m : List Code} (e : l = m) (h : ∀ x ∈ m, p x) : ∀ x ∈ l, p x := e ▸ h
theorem fk {P : Program} {E : Env} {Γ : Gam} {s : List PS} {rs : List (Bool × FT)} {F : Args s → Option (resD rs)} {f : Nat} {fn : Func} (an : An) (hS : Sound P E Γ) (hf : P.funcs[f]? = some fn) {Λ : Lam} {l : List Code} (h : ∀ c ∈ l, LOk E Γ an Λ c) (hn : (fn.name == "runtime.NumGoroutine") = false := by kernel_rfl) (hl : loopsOf (fn.body.getD .skip) = l := by kernel_rfl) (hF : ∀ a, evalFn E Γ an Λ fn rs (argsOf s a) = F a := by intro a; kernel_rfl) : FnOk P f (entOf s rs F) := FnOk.of (fnOk hS hf hn (Fn.hF hl h)) hF
def E : Env := { ty := [(3, ⟨false, (.int .i64), []⟩),
  (4, ⟨false, .bool, []⟩),
  (5, ⟨false, (.int .u8), []⟩),
  (9, ⟨false, .str, []⟩),
  (22, ⟨false, (.sl THost), [(134, 0)]⟩),
  (23, ⟨false, (.sl TVirtualFunction), [(158, 0)]⟩),
  (24, ⟨false, (.sl TMailbox), [(137, 0)]⟩),
  (25, ⟨false, (.sl .str), [(9, 0)]⟩),
  (27, ⟨true, (.sl .str), [(0, 1)]⟩),
  (29, ⟨true, TClock, [(0, 1), (1, 1), (2, 1), (3, 1)]⟩),
  (30, ⟨false, (.sl (.int .i64)), [(3, 0)]⟩),
  (32, ⟨true, TCard, [(0, 1), (1, 1), (2, 1), (3, 1), (4, 4), (8, 1), (9, 1)]⟩),
  (34, ⟨true, TBucket, [(0, 1), (1, 1), (2, 1)]⟩),
  (36, ⟨false, (.sl THost), [(92, 0)]⟩),
  (37, ⟨false, (.sl TVirtualFunction), [(151, 0)]⟩),
  (38, ⟨false, (.sl TMailbox), [(65, 0)]⟩),
  (39, ⟨true, (.sl .str), [(0, 1)]⟩),
  (40, ⟨true, TClock, [(0, 1), (1, 1), (2, 1), (3, 1)]⟩),
  (42, ⟨true, TCard, [(0, 1), (1, 1), (2, 1), (3, 1), (4, 4), (8, 1), (9, 1)]⟩),
  (46, ⟨true, TBucket, [(0, 1), (1, 1), (2, 1)]⟩),
  (62, ⟨true, TFilter, [(0, 1), (1, 1), (2, 1)]⟩),
  (65, ⟨true, TMailbox, [(0, 3), (3, 1), (4, 1), (5, 1)]⟩),
  (67, ⟨true, (.sl .str), [(0, 1)]⟩),
  (68, ⟨false, (.sl TMapping), [(248, 0)]⟩),
  (70, ⟨true, TClock, [(0, 1), (1, 1), (2, 1), (3, 1)]⟩),
  (72, ⟨true, TPool, [(0, 1), (1, 1), (2, 1), (3, 1)]⟩),
  (73, ⟨false, (.sl TSent), [(250, 0)]⟩),
  (75, ⟨true, TTxQueue, [(0, 4), (4, 4), (8, 1), (9, 1)]⟩),
  (76, ⟨false, (.sl TRxQueue), [(213, 0)]⟩),
  (77, ⟨false, (.sl TPool), [(72, 0)]⟩),
  (78, ⟨false, (.sl TVector), [(217, 0)]⟩),
  (79, ⟨false, (.sl .bool), [(4, 0)]⟩),
  (80, ⟨false, (.sl TRule), [(252, 0)]⟩),
  (81, ⟨false, (.sl TSlot), [(256, 0)]⟩),
  (83, ⟨true, (.sl TSlot), [(0, 1)]⟩),
  (85, ⟨true, TSpread, [(0, 1), (1, 1)]⟩),
  (87, ⟨true, TSteering, [(0, 1), (1, 1), (2, 2)]⟩),
  (88, ⟨false, (.sl TStream), [(259, 0)]⟩),
  (90, ⟨true, TFlow, [(0, 1), (1, 1), (2, 1), (3, 1), (4, 1)]⟩),
  (92, ⟨true, THost, [(0, 1), (1, 1), (2, 10), (12, 1), (13, 1), (14, 1), (15, 1), (16, 3), (19, 4), (23, 1), (24, 1), (25, 1), (26, 1), (27, 1), (28, 5)]⟩),
  (113, ⟨true, (.sl .str), [(0, 1)]⟩),
  (114, ⟨false, (.sl TMapping), [(293, 0)]⟩),
  (115, ⟨true, TClock, [(0, 1), (1, 1), (2, 1), (3, 1)]⟩),
  (116, ⟨true, TPool, [(0, 1), (1, 1), (2, 1), (3, 1)]⟩),
  (117, ⟨false, (.sl TSent), [(320, 0)]⟩),
  (119, ⟨true, TTxQueue, [(0, 4), (4, 4), (8, 1), (9, 1)]⟩),
  (120, ⟨false, (.sl TRxQueue), [(270, 0)]⟩),
  (121, ⟨false, (.sl TPool), [(116, 0)]⟩),
  (122, ⟨false, (.sl TVector), [(299, 0)]⟩),
  (123, ⟨true, TFilter, [(0, 1), (1, 1), (2, 1)]⟩),
  (124, ⟨false, (.sl TRule), [(334, 0)]⟩),
  (125, ⟨false, (.sl TSlot), [(349, 0)]⟩),
  (127, ⟨true, (.sl TSlot), [(0, 1)]⟩),
  (128, ⟨true, TSpread, [(0, 1), (1, 1)]⟩),
  (130, ⟨true, TSteering, [(0, 1), (1, 1), (2, 2)]⟩),
  (131, ⟨false, (.sl TStream), [(277, 0)]⟩),
  (132, ⟨true, TFlow, [(0, 1), (1, 1), (2, 1), (3, 1), (4, 1)]⟩),
  (134, ⟨true, THost, [(0, 1), (1, 1), (2, 10), (12, 1), (13, 1), (14, 1), (15, 1), (16, 3), (19, 4), (23, 1), (24, 1), (25, 1), (26, 1), (27, 1), (28, 5)]⟩),
  (137, ⟨true, TMailbox, [(0, 3), (3, 1), (4, 1), (5, 1)]⟩),
  (140, ⟨false, (.sl TPort), [(191, 0)]⟩),
  (149, ⟨true, TBucket, [(0, 1), (1, 1), (2, 1)]⟩),
  (151, ⟨true, TVirtualFunction, [(0, 1), (1, 1), (2, 3), (5, 1), (6, 1), (7, 1)]⟩),
  (156, ⟨true, TBucket, [(0, 1), (1, 1), (2, 1)]⟩),
  (158, ⟨true, TVirtualFunction, [(0, 1), (1, 1), (2, 3), (5, 1), (6, 1), (7, 1)]⟩),
  (191, ⟨true, TPort, [(0, 1), (1, 1), (2, 1), (3, 1)]⟩),
  (205, ⟨true, TBucket, [(0, 1), (1, 1), (2, 1)]⟩),
  (207, ⟨true, TSegment, [(0, 1), (1, 1), (2, 1), (3, 1), (4, 1), (5, 1), (6, 1), (7, 1)]⟩),
  (209, ⟨true, TPacket, [(0, 1), (1, 1), (2, 1), (3, 1), (4, 1), (5, 1), (6, 1), (7, 1), (8, 8)]⟩),
  (211, ⟨true, TSuper, [(0, 16), (16, 1), (17, 1)]⟩),
  (213, ⟨true, TRxQueue, [(0, 4), (4, 3), (7, 3), (10, 18), (28, 1), (29, 1)]⟩),
  (217, ⟨true, TVector, [(0, 1), (1, 1), (2, 1), (3, 1), (4, 1), (5, 1)]⟩),
  (248, ⟨true, TMapping, [(0, 1), (1, 1), (2, 1), (3, 1)]⟩),
  (250, ⟨true, TSent, [(0, 1), (1, 1), (2, 1)]⟩),
  (252, ⟨true, TRule, [(0, 1), (1, 1), (2, 1), (3, 1), (4, 1), (5, 1), (6, 1), (7, 1), (8, 1)]⟩),
  (254, ⟨true, TFlow, [(0, 1), (1, 1), (2, 1), (3, 1), (4, 1)]⟩),
  (256, ⟨true, TSlot, [(0, 1), (1, 5), (6, 1)]⟩),
  (257, ⟨false, (.sl (.int .u8)), [(5, 0)]⟩),
  (259, ⟨true, TStream, [(0, 5), (5, 1), (6, 1), (7, 1)]⟩),
  (263, ⟨true, TBucket, [(0, 1), (1, 1), (2, 1)]⟩),
  (264, ⟨true, TSegment, [(0, 1), (1, 1), (2, 1), (3, 1), (4, 1), (5, 1), (6, 1), (7, 1)]⟩),
  (266, ⟨true, TPacket, [(0, 1), (1, 1), (2, 1), (3, 1), (4, 1), (5, 1), (6, 1), (7, 1), (8, 8)]⟩),
  (268, ⟨true, TSuper, [(0, 16), (16, 1), (17, 1)]⟩),
  (270, ⟨true, TRxQueue, [(0, 4), (4, 3), (7, 3), (10, 18), (28, 1), (29, 1)]⟩),
  (275, ⟨true, TFlow, [(0, 1), (1, 1), (2, 1), (3, 1), (4, 1)]⟩),
  (277, ⟨true, TStream, [(0, 5), (5, 1), (6, 1), (7, 1)]⟩),
  (293, ⟨true, TMapping, [(0, 1), (1, 1), (2, 1), (3, 1)]⟩),
  (299, ⟨true, TVector, [(0, 1), (1, 1), (2, 1), (3, 1), (4, 1), (5, 1)]⟩),
  (320, ⟨true, TSent, [(0, 1), (1, 1), (2, 1)]⟩),
  (334, ⟨true, TRule, [(0, 1), (1, 1), (2, 1), (3, 1), (4, 1), (5, 1), (6, 1), (7, 1), (8, 1)]⟩),
  (349, ⟨true, TSlot, [(0, 1), (1, 5), (6, 1)]⟩),
  (351, ⟨false, (.int .u32), []⟩)], eqs := [(211, [.int, .int, .int, .int, .int, .int, .int, .int, .int, .int, .int, .int, .int, .int, .int, .str, .int, .int]), (254, [.int, .int, .int, .int, .int])], fts := [] }
theorem base : Sound Tryz.prog E Gam.nil := Sound.nil (lookE_ok (by kernel_rfl)) (lookQ_ok (by kernel_rfl)) (lookF_ok (by kernel_rfl)) (by kernel_rfl)
def e16 : GEnt := entOf [.data false (.sl (.int .i64)), .data false (.int .i64)] [(false, (.int .i64))] fun a => Pu.laws_szIntS a.1 a.2.1
theorem o16 : FnOk Tryz.prog 16 e16 := fk {} (base) Tryz.func16 (Λ := Lam.nil) nF
def e17 : GEnt := entOf [.data false (.sl .str), .data false (.int .i64)] [(false, (.int .i64))] fun a => Pu.laws_szStringS a.1 a.2.1
def g17 : Gam := Gam.nil
def n17 : An := { mask := fun | 5 => [0, 1, 4, 5] | _ => [] }
@[reducible] def d17_5 : SD := ⟨[.data false (.sl .arg .str),DI,B,B,DI,DI,B,B,B,B,B,B,B,B,B,B,B,B,B,B,B,B,B,B,B,B,B,B], [Z,Z,Z,Z,Z,Z,Z,Z,Z,Z,Z,Z,Z,Z,Z,Z,Z,Z,Z,Z,Z,Z,Z,Z,Z,Z,Z,Z], .none⟩
def t17_5 {R : Type} (X : SD.D d17_5) (K : Ex → AS → Option R) := Pu.laws_szStringS_T5 (fun y0 y1 => K (.exit 0) (SD.enc d17_5 ((X.1.1, (y0, (X.1.2.2.1, (y1, ())))), (), ()))) (fun y0 y1 y2 => K .ret (SD.enc d17_5 ((X.1.1, (y0, (y1, (y2, ())))), (), ()))) X.1.1 X.1.2.2.1
def l17_5 : LEnt := ⟨d17_5, fun X K => iterL (t17_5 X K) fuel (X.1.2.1, X.1.2.2.2.1)⟩
def L17 : Lam := (Lam.nil).add 5 l17_5
theorem k17_5 : LOk E g17 n17 L17 (loopBody Tryz.f17 0) :=
  lok l17_5 (by kernel_rfl) fuel fun R X K => (loop_iter (σ := Int × Int) (fun x => SD.enc d17_5 ((X.1.1, (x.1, (X.1.2.2.1, (x.2, ())))), (), ())) (t17_5 X K) (fun m x => by kernel_rfl) fuel (X.1.2.1, X.1.2.2.2.1)).symm
theorem o17 : FnOk Tryz.prog 17 e17 := fk n17 (base) Tryz.func17 (Λ := L17) (cF k17_5 nF)
def e104 : GEnt := entOf [.data true (.sl .str), .data false (.int .i64)] [(false, (.int .i64))] fun a => Pu.laws_szMemory a.1 a.2.1
theorem o104 : FnOk Tryz.prog 104 e104 := fk {} ((base).add o17) Tryz.func104 (Λ := Lam.nil) nF
def e105 : GEnt := entOf [.data false (.sl TMapping), .data false (.int .i64)] [(false, (.int .i64))] fun a => Pu.laws_szMappingS a.1 a.2.1
theorem o105 : FnOk Tryz.prog 105 e105 := fk {} (base) Tryz.func105 (Λ := Lam.nil) nF
def e182 : GEnt := entOf [.data true TPool, .data false (.int .i64)] [(false, (.int .i64))] fun a => Pu.laws_szPool a.1 a.2.1
theorem o182 : FnOk Tryz.prog 182 e182 := fk {} ((base).add o16) Tryz.func182 (Λ := Lam.nil) nF
def e241 : GEnt := entOf [.data true TSent, .data false (.int .i64)] [(false, (.int .i64))] fun a => Pu.laws_szSent a.1 a.2.1
theorem o241 : FnOk Tryz.prog 241 e241 := fk {} ((base).add o16) Tryz.func241 (Λ := Lam.nil) nF
def e183 : GEnt := entOf [.data false (.sl TSent), .data false (.int .i64)] [(false, (.int .i64))] fun a => Pu.laws_szSentS a.1 a.2.1
def g183 : Gam := (Gam.nil).add 241 e241
def n183 : An := { mask := fun | 5 => [0, 1, 4, 5] | _ => [] }
@[reducible] def d183_5 : SD := ⟨[.data false (.sl .arg TSent),DI,B,B,DI,DI,B,B,B,B,B,B,B,B,B,B,B,B,B,B,B,B,B,B,B,B,B], [Z,Z,Z,Z,Z,Z,Z,Z,Z,Z,Z,Z,Z,Z,Z,Z,Z,Z,Z,Z,Z,Z,Z,Z,Z,Z,Z], .none⟩
def t183_5 {R : Type} (X : SD.D d183_5) (K : Ex → AS → Option R) := Pu.laws_szSentS_T5 (fun y0 y1 => K (.exit 0) (SD.enc d183_5 ((X.1.1, (y0, (X.1.2.2.1, (y1, ())))), (), ()))) (fun y0 y1 y2 => K .ret (SD.enc d183_5 ((X.1.1, (y0, (y1, (y2, ())))), (), ()))) X.1.1 X.1.2.2.1
def l183_5 : LEnt := ⟨d183_5, fun X K => iterL (t183_5 X K) fuel (X.1.2.1, X.1.2.2.2.1)⟩
def L183 : Lam := (Lam.nil).add 5 l183_5
theorem k183_5 : LOk E g183 n183 L183 (loopBody Tryz.f183 0) :=
  lok l183_5 (by kernel_rfl) fuel fun R X K => (loop_iter (σ := Int × Int) (fun x => SD.enc d183_5 ((X.1.1, (x.1, (X.1.2.2.1, (x.2, ())))), (), ())) (t183_5 X K) (fun m x => by kernel_rfl) fuel (X.1.2.1, X.1.2.2.2.1)).symm
theorem o183 : FnOk Tryz.prog 183 e183 := fk n183 ((base).add o241) Tryz.func183 (Λ := L183) (cF k183_5 nF)
def e106 : GEnt := entOf [.data true TTxQueue, .data false (.int .i64)] [(false, (.int .i64))] fun a => Pu.laws_szTxQueue a.1 a.2.1
theorem o106 : FnOk Tryz.prog 106 e106 := fk {} (((base).add o182).add o183) Tryz.func106 (Λ := Lam.nil) nF
def e284 : GEnt := entOf [.data true TSegment, .data false (.int .i64)] [(false, (.int .i64))] fun a => Pu.laws_szSegment a.1 a.2.1
theorem o284 : FnOk Tryz.prog 284 e284 := fk {} (base) Tryz.func284 (Λ := Lam.nil) nF
def e276 : GEnt := entOf [.data true TPacket, .data false (.int .i64)] [(false, (.int .i64))] fun a => Pu.laws_szPacket a.1 a.2.1
theorem o276 : FnOk Tryz.prog 276 e276 := fk {} ((base).add o284) Tryz.func276 (Λ := Lam.nil) nF
def e242 : GEnt := entOf [.data true TSuper, .data false (.int .i64)] [(false, (.int .i64))] fun a => Pu.laws_szSuper a.1 a.2.1
theorem o242 : FnOk Tryz.prog 242 e242 := fk {} ((base).add o276) Tryz.func242 (Λ := Lam.nil) nF
def e184 : GEnt := entOf [.data true TRxQueue, .data false (.int .i64)] [(false, (.int .i64))] fun a => Pu.laws_szRxQueue a.1 a.2.1
theorem o184 : FnOk Tryz.prog 184 e184 := fk {} ((base).add o242) Tryz.func184 (Λ := Lam.nil) nF
def e107 : GEnt := entOf [.data false (.sl TRxQueue), .data false (.int .i64)] [(false, (.int .i64))] fun a => Pu.laws_szRxQueueS a.1 a.2.1
def g107 : Gam := (Gam.nil).add 184 e184
def n107 : An := { mask := fun | 5 => [0, 1, 4, 5] | _ => [] }
@[reducible] def d107_5 : SD := ⟨[.data false (.sl .arg TRxQueue),DI,B,B,DI,DI,B,B,B,B,B,B,B,B,B,B,B,B,B,B,B,B,B,B,B,B,B], [Z,Z,Z,Z,Z,Z,Z,Z,Z,Z,Z,Z,Z,Z,Z,Z,Z,Z,Z,Z,Z,Z,Z,Z,Z,Z,Z], .none⟩
def t107_5 {R : Type} (X : SD.D d107_5) (K : Ex → AS → Option R) := Pu.laws_szRxQueueS_T5 (fun y0 y1 => K (.exit 0) (SD.enc d107_5 ((X.1.1, (y0, (X.1.2.2.1, (y1, ())))), (), ()))) (fun y0 y1 y2 => K .ret (SD.enc d107_5 ((X.1.1, (y0, (y1, (y2, ())))), (), ()))) X.1.1 X.1.2.2.1
def l107_5 : LEnt := ⟨d107_5, fun X K => iterL (t107_5 X K) fuel (X.1.2.1, X.1.2.2.2.1)⟩
def L107 : Lam := (Lam.nil).add 5 l107_5
theorem k107_5 : LOk E g107 n107 L107 (loopBody Tryz.f107 0) :=
  lok l107_5 (by kernel_rfl) fuel fun R X K => (loop_iter (σ := Int × Int) (fun x => SD.enc d107_5 ((X.1.1, (x.1, (X.1.2.2.1, (x.2, ())))), (), ())) (t107_5 X K) (fun m x => by kernel_rfl) fuel (X.1.2.1, X.1.2.2.2.1)).symm
theorem o107 : FnOk Tryz.prog 107 e107 := fk n107 ((base).add o184) Tryz.func107 (Λ := L107) (cF k107_5 nF)
def e108 : GEnt := entOf [.data false (.sl TPool), .data false (.int .i64)] [(false, (.int .i64))] fun a => Pu.laws_szPoolS a.1 a.2.1
def g108 : Gam := (Gam.nil).add 182 e182
def n108 : An := { mask := fun | 5 => [0, 1, 4, 5] | _ => [] }
@[reducible] def d108_5 : SD := ⟨[.data false (.sl .arg TPool),DI,B,B,DI,DI,B,B,B,B,B,B,B,B,B,B,B,B,B,B,B,B,B,B,B,B,B], [Z,Z,Z,Z,Z,Z,Z,Z,Z,Z,Z,Z,Z,Z,Z,Z,Z,Z,Z,Z,Z,Z,Z,Z,Z,Z,Z], .none⟩
def t108_5 {R : Type} (X : SD.D d108_5) (K : Ex → AS → Option R) := Pu.laws_szPoolS_T5 (fun y0 y1 => K (.exit 0) (SD.enc d108_5 ((X.1.1, (y0, (X.1.2.2.1, (y1, ())))), (), ()))) (fun y0 y1 y2 => K .ret (SD.enc d108_5 ((X.1.1, (y0, (y1, (y2, ())))), (), ()))) X.1.1 X.1.2.2.1
def l108_5 : LEnt := ⟨d108_5, fun X K => iterL (t108_5 X K) fuel (X.1.2.1, X.1.2.2.2.1)⟩
def L108 : Lam := (Lam.nil).add 5 l108_5
theorem k108_5 : LOk E g108 n108 L108 (loopBody Tryz.f108 0) :=
  lok l108_5 (by kernel_rfl) fuel fun R X K => (loop_iter (σ := Int × Int) (fun x => SD.enc d108_5 ((X.1.1, (x.1, (X.1.2.2.1, (x.2, ())))), (), ())) (t108_5 X K) (fun m x => by kernel_rfl) fuel (X.1.2.1, X.1.2.2.2.1)).symm
theorem o108 : FnOk Tryz.prog 108 e108 := fk n108 ((base).add o182) Tryz.func108 (Λ := L108) (cF k108_5 nF)
def e109 : GEnt := entOf [.data false (.sl TVector), .data false (.int .i64)] [(false, (.int .i64))] fun a => Pu.laws_szVectorS a.1 a.2.1
theorem o109 : FnOk Tryz.prog 109 e109 := fk {} (base) Tryz.func109 (Λ := Lam.nil) nF
def e110 : GEnt := entOf [.data false (.sl .bool), .data false (.int .i64)] [(false, (.int .i64))] fun a => Pu.laws_szBoolS a.1 a.2.1
theorem o110 : FnOk Tryz.prog 110 e110 := fk {} (base) Tryz.func110 (Λ := Lam.nil) nF
def e111 : GEnt := entOf [.data true TFilter, .data false (.int .i64)] [(false, (.int .i64))] fun a => Pu.laws_szFilter a.1 a.2.1
theorem o111 : FnOk Tryz.prog 111 e111 := fk {} ((base).add o16) Tryz.func111 (Λ := Lam.nil) nF
def e185 : GEnt := entOf [.data false (.sl TRule), .data false (.int .i64)] [(false, (.int .i64))] fun a => Pu.laws_szRuleS a.1 a.2.1
theorem o185 : FnOk Tryz.prog 185 e185 := fk {} (base) Tryz.func185 (Λ := Lam.nil) nF
def e243 : GEnt := entOf [.data false (.sl TSlot), .data false (.int .i64)] [(false, (.int .i64))] fun a => Pu.laws_szSlotS a.1 a.2.1
theorem o243 : FnOk Tryz.prog 243 e243 := fk {} (base) Tryz.func243 (Λ := Lam.nil) nF
def e186 : GEnt := entOf [.data true (.sl TSlot), .data false (.int .i64)] [(false, (.int .i64))] fun a => Pu.laws_szFlowTable a.1 a.2.1
theorem o186 : FnOk Tryz.prog 186 e186 := fk {} ((base).add o243) Tryz.func186 (Λ := Lam.nil) nF
def e187 : GEnt := entOf [.data true TSpread, .data false (.int .i64)] [(false, (.int .i64))] fun a => Pu.laws_szSpread a.1 a.2.1
theorem o187 : FnOk Tryz.prog 187 e187 := fk {} ((base).add o16) Tryz.func187 (Λ := Lam.nil) nF
def e112 : GEnt := entOf [.data true TSteering, .data false (.int .i64)] [(false, (.int .i64))] fun a => Pu.laws_szSteering a.1 a.2.1
theorem o112 : FnOk Tryz.prog 112 e112 := fk {} ((((base).add o185).add o186).add o187) Tryz.func112 (Λ := Lam.nil) nF
def e188 : GEnt := entOf [.data true TStream, .data false (.int .i64)] [(false, (.int .i64))] fun a => Pu.laws_szStream a.1 a.2.1
theorem o188 : FnOk Tryz.prog 188 e188 := fk {} (base) Tryz.func188 (Λ := Lam.nil) nF
def e113 : GEnt := entOf [.data false (.sl TStream), .data false (.int .i64)] [(false, (.int .i64))] fun a => Pu.laws_szStreamS a.1 a.2.1
def g113 : Gam := (Gam.nil).add 188 e188
def n113 : An := { mask := fun | 5 => [0, 1, 4, 5] | _ => [] }
@[reducible] def d113_5 : SD := ⟨[.data false (.sl .arg TStream),DI,B,B,DI,DI,B,B,B,B,B,B,B,B,B,B,B,B,B,B,B,B,B,B,B,B,B], [Z,Z,Z,Z,Z,Z,Z,Z,Z,Z,Z,Z,Z,Z,Z,Z,Z,Z,Z,Z,Z,Z,Z,Z,Z,Z,Z], .none⟩
def t113_5 {R : Type} (X : SD.D d113_5) (K : Ex → AS → Option R) := Pu.laws_szStreamS_T5 (fun y0 y1 => K (.exit 0) (SD.enc d113_5 ((X.1.1, (y0, (X.1.2.2.1, (y1, ())))), (), ()))) (fun y0 y1 y2 => K .ret (SD.enc d113_5 ((X.1.1, (y0, (y1, (y2, ())))), (), ()))) X.1.1 X.1.2.2.1
def l113_5 : LEnt := ⟨d113_5, fun X K => iterL (t113_5 X K) fuel (X.1.2.1, X.1.2.2.2.1)⟩
def L113 : Lam := (Lam.nil).add 5 l113_5
theorem k113_5 : LOk E g113 n113 L113 (loopBody Tryz.f113 0) :=
  lok l113_5 (by kernel_rfl) fuel fun R X K => (loop_iter (σ := Int × Int) (fun x => SD.enc d113_5 ((X.1.1, (x.1, (X.1.2.2.1, (x.2, ())))), (), ())) (t113_5 X K) (fun m x => by kernel_rfl) fuel (X.1.2.1, X.1.2.2.2.1)).symm
theorem o113 : FnOk Tryz.prog 113 e113 := fk n113 ((base).add o188) Tryz.func113 (Λ := L113) (cF k113_5 nF)
def e53 : GEnt := entOf [.data true THost, .data false (.int .i64)] [(false, (.int .i64))] fun a => Pu.laws_szHost a.1 a.2.1
theorem o53 : FnOk Tryz.prog 53 e53 := fk {} (((((((((((((base).add o16).add o17).add o104).add o105).add o106).add o107).add o108).add o109).add o110).add o111).add o112).add o113) Tryz.func53 (Λ := Lam.nil) nF
def e12 : GEnt := entOf [.data false (.sl THost), .data false (.int .i64)] [(false, (.int .i64))] fun a => Pu.laws_szHostS a.1 a.2.1
def g12 : Gam := (Gam.nil).add 53 e53
def n12 : An := { mask := fun | 5 => [0, 1, 4, 5] | _ => [] }
@[reducible] def d12_5 : SD := ⟨[.data false (.sl .arg THost),DI,B,B,DI,DI,B,B,B,B,B,B,B,B,B,B,B,B,B,B,B,B,B,B,B,B,B], [Z,Z,Z,Z,Z,Z,Z,Z,Z,Z,Z,Z,Z,Z,Z,Z,Z,Z,Z,Z,Z,Z,Z,Z,Z,Z,Z], .none⟩
def t12_5 {R : Type} (X : SD.D d12_5) (K : Ex → AS → Option R) := Pu.laws_szHostS_T5 (fun y0 y1 => K (.exit 0) (SD.enc d12_5 ((X.1.1, (y0, (X.1.2.2.1, (y1, ())))), (), ()))) (fun y0 y1 y2 => K .ret (SD.enc d12_5 ((X.1.1, (y0, (y1, (y2, ())))), (), ()))) X.1.1 X.1.2.2.1
def l12_5 : LEnt := ⟨d12_5, fun X K => iterL (t12_5 X K) fuel (X.1.2.1, X.1.2.2.2.1)⟩
def L12 : Lam := (Lam.nil).add 5 l12_5
theorem k12_5 : LOk E g12 n12 L12 (loopBody Tryz.f12 0) :=
  lok l12_5 (by kernel_rfl) fuel fun R X K => (loop_iter (σ := Int × Int) (fun x => SD.enc d12_5 ((X.1.1, (x.1, (X.1.2.2.1, (x.2, ())))), (), ())) (t12_5 X K) (fun m x => by kernel_rfl) fuel (X.1.2.1, X.1.2.2.2.1)).symm
theorem o12 : FnOk Tryz.prog 12 e12 := fk n12 ((base).add o53) Tryz.func12 (Λ := L12) (cF k12_5 nF)
def e13 : GEnt := entOf [.data false (.sl TVirtualFunction), .data false (.int .i64)] [(false, (.int .i64))] fun a => Pu.laws_szVirtualFunctionS a.1 a.2.1
theorem o13 : FnOk Tryz.prog 13 e13 := fk {} (base) Tryz.func13 (Λ := Lam.nil) nF
def e54 : GEnt := entOf [.data true TMailbox, .data false (.int .i64)] [(false, (.int .i64))] fun a => Pu.laws_szMailbox a.1 a.2.1
theorem o54 : FnOk Tryz.prog 54 e54 := fk {} ((base).add o111) Tryz.func54 (Λ := Lam.nil) nF
def e14 : GEnt := entOf [.data false (.sl TMailbox), .data false (.int .i64)] [(false, (.int .i64))] fun a => Pu.laws_szMailboxS a.1 a.2.1
def g14 : Gam := (Gam.nil).add 54 e54
def n14 : An := { mask := fun | 5 => [0, 1, 4, 5] | _ => [] }
@[reducible] def d14_5 : SD := ⟨[.data false (.sl .arg TMailbox),DI,B,B,DI,DI,B,B,B,B,B,B,B,B,B,B,B,B,B,B,B,B,B,B,B,B,B], [Z,Z,Z,Z,Z,Z,Z,Z,Z,Z,Z,Z,Z,Z,Z,Z,Z,Z,Z,Z,Z,Z,Z,Z,Z,Z,Z], .none⟩
def t14_5 {R : Type} (X : SD.D d14_5) (K : Ex → AS → Option R) := Pu.laws_szMailboxS_T5 (fun y0 y1 => K (.exit 0) (SD.enc d14_5 ((X.1.1, (y0, (X.1.2.2.1, (y1, ())))), (), ()))) (fun y0 y1 y2 => K .ret (SD.enc d14_5 ((X.1.1, (y0, (y1, (y2, ())))), (), ()))) X.1.1 X.1.2.2.1
def l14_5 : LEnt := ⟨d14_5, fun X K => iterL (t14_5 X K) fuel (X.1.2.1, X.1.2.2.2.1)⟩
def L14 : Lam := (Lam.nil).add 5 l14_5
theorem k14_5 : LOk E g14 n14 L14 (loopBody Tryz.f14 0) :=
  lok l14_5 (by kernel_rfl) fuel fun R X K => (loop_iter (σ := Int × Int) (fun x => SD.enc d14_5 ((X.1.1, (x.1, (X.1.2.2.1, (x.2, ())))), (), ())) (t14_5 X K) (fun m x => by kernel_rfl) fuel (X.1.2.1, X.1.2.2.2.1)).symm
theorem o14 : FnOk Tryz.prog 14 e14 := fk n14 ((base).add o54) Tryz.func14 (Λ := L14) (cF k14_5 nF)
def e15 : GEnt := entOf [.data true (.sl .str), .data false (.int .i64)] [(false, (.int .i64))] fun a => Pu.laws_szFlash a.1 a.2.1
theorem o15 : FnOk Tryz.prog 15 e15 := fk {} ((base).add o17) Tryz.func15 (Λ := Lam.nil) nF
def e4 : GEnt := entOf [.data true TCard, .data false (.int .i64)] [(false, (.int .i64))] fun a => Pu.laws_szCard a.1 a.2.1
theorem o4 : FnOk Tryz.prog 4 e4 := fk {} (((((((base).add o12).add o13).add o14).add o15).add o16).add o17) Tryz.func4 (Λ := Lam.nil) nF
def e21 : GEnt := entOf [.data true TFilter] [(true, (.pair (.int .i64) (.pair .bool (.sl (.own none) (.int .i64)))))] fun a => Pu.spec_l24Copy a.1
theorem o21 : FnOk Tryz.prog 21 e21 := fk { sb := fun | 2 => some 2 | _ => none } (base) Tryz.func21 (Λ := Lam.nil) nF
def e114 : GEnt := entOf [.data true (.sl .str)] [(true, (.sl (.own none) .str))] fun a => Pu.spec_l16Copy a.1
theorem o114 : FnOk Tryz.prog 114 e114 := fk {} (base) Tryz.func114 (Λ := Lam.nil) nF
def e116 : GEnt := entOf [.data true TPool] [(true, (.pair (.int .i64) (.pair (.int .i64) (.pair (.int .i64) (.sl (.own none) (.int .i64))))))] fun a => Pu.spec_l21Copy a.1
theorem o116 : FnOk Tryz.prog 116 e116 := fk { sb := fun | 2 => some 2 | _ => none } (base) Tryz.func116 (Λ := Lam.nil) nF
def e115 : GEnt := entOf [.data true TTxQueue] [(true, (.pair (.pair (.int .i64) (.pair (.int .i64) (.pair (.int .i64) (.int .i64)))) (.pair (.pair (.int .i64) (.pair (.int .i64) (.pair (.int .i64) (.sl (.own none) (.int .i64))))) (.pair (.sl (.own none) TSent) (.int .i64)))))] fun a => Pu.spec_l22Copy a.1
def g115 : Gam := (Gam.nil).add 116 e116
def n115 : An := { mask := fun | 3 => [1, 2, 3, 4] | _ => [], mv := [27, 40], mb := fun | 27 => some 3 | _ => none, sb := fun | 3 => some 3 | 39 => some 3 | _ => none }
@[reducible] def d115_3 : SD := ⟨[B,.ptr 1 0,.ptr 2 0,.ptr 3 0,DI,B,B,B,B,B,B,B,B,B,B,B,B,B,B,B,B,B,B,B,B,B,B,B,B,B,B,B,B,B,B,B,B,B,B,B,B], [Z,some (.pair (.pair (.int .i64) (.pair (.int .i64) (.pair (.int .i64) (.int .i64)))) (.pair (.pair (.int .i64) (.pair (.int .i64) (.pair (.int .i64) (.sl .arg (.int .i64))))) (.pair (.sl .arg TSent) (.int .i64)))),some (.pair (.pair (.int .i64) (.pair (.int .i64) (.pair (.int .i64) (.int .i64)))) (.pair (.pair (.int .i64) (.pair (.int .i64) (.pair (.int .i64) (.sl (.own (some 24598)) (.int .i64))))) (.pair (.sl (.own (some 24601)) TSent) (.int .i64)))),some (.pair (.pair (.int .i64) (.pair (.int .i64) (.pair (.int .i64) (.int .i64)))) (.pair (.pair (.int .i64) (.pair (.int .i64) (.pair (.int .i64) (.sl (.own (some 36886)) (.int .i64))))) (.pair (.sl (.own (some 36889)) TSent) (.int .i64)))),Z,Z,Z,Z,Z,Z,Z,Z,Z,Z,Z,Z,Z,Z,Z,Z,Z,Z,Z,Z,Z,Z,Z,Z,Z,Z,Z,Z,Z,Z,Z,Z,Z,Z,Z,Z,Z], .none⟩
def t115_3 {R : Type} (X : SD.D d115_3) (K : Ex → AS → Option R) := Pu.spec_l22Copy_T3 (fun y0 y1 => K (.exit 0) (SD.enc d115_3 ((y0, ()), (X.2.1.1, (X.2.1.2.1, (y1, ()))), ()))) X.2.1.1 X.2.1.2.1
def l115_3 : LEnt := ⟨d115_3, fun X K => iterL (t115_3 X K) fuel (X.1.1, X.2.1.2.2.1)⟩
def L115 : Lam := (Lam.nil).add 3 l115_3
theorem k115_3 : LOk E g115 n115 L115 (loopBody Tryz.f115 0) :=
  lok l115_3 (by kernel_rfl) fuel fun R X K => (loop_iter (σ := Int × Pu.TxQueue) (fun x => SD.enc d115_3 ((x.1, ()), (X.2.1.1, (X.2.1.2.1, (x.2, ()))), ())) (t115_3 X K) (fun m x => by kernel_rfl) fuel (X.1.1, X.2.1.2.2.1)).symm
theorem o115 : FnOk Tryz.prog 115 e115 := fk n115 ((base).add o116) Tryz.func115 (Λ := L115) (cF k115_3 nF)
def e189 : GEnt := entOf [.data true (.sl TSlot)] [(true, (.sl (.own none) TSlot))] fun a => Pu.spec_l13Copy a.1
theorem o189 : FnOk Tryz.prog 189 e189 := fk {} (base) Tryz.func189 (Λ := Lam.nil) nF
def e117 : GEnt := entOf [.data true TSteering] [(true, (.pair (.sl (.own none) TRule) (.pair (.sl (.own none) TSlot) (.pair .str (.sl (.own none) (.int .i64))))))] fun a => Pu.spec_l15Copy a.1
theorem o117 : FnOk Tryz.prog 117 e117 := fk { sb := fun | 2 => some 2 | _ => none } ((base).add o189) Tryz.func117 (Λ := Lam.nil) nF
def e55 : GEnt := entOf [.data true THost] [(true, (.pair (.sl (.own none) .str) (.pair (.sl (.own none) TMapping) (.pair (.pair (.pair (.int .i64) (.pair (.int .i64) (.pair (.int .i64) (.int .i64)))) (.pair (.pair (.int .i64) (.pair (.int .i64) (.pair (.int .i64) (.sl (.own none) (.int .i64))))) (.pair (.sl (.own none) TSent) (.int .i64)))) (.pair (.sl (.own none) TRxQueue) (.pair (.sl (.own none) TPool) (.pair (.sl (.own none) TVector) (.pair (.sl (.own none) .bool) (.pair (.pair (.int .i64) (.pair .bool (.sl (.own none) (.int .i64)))) (.pair (.pair (.sl (.own none) TRule) (.pair (.sl (.own none) TSlot) (.pair .str (.sl (.own none) (.int .i64))))) (.pair (.sl (.own none) TStream) (.pair .bool (.pair (.sl (.own none) .str) (.pair (.sl (.own none) (.int .i64)) (.pair (.sl (.own none) (.int .i64)) (.pair (.int .i64) (.pair (.int .i64) (.pair (.int .i64) (.pair (.int .i64) (.int .i64))))))))))))))))))))] fun a => Pu.spec_l37Copy a.1
def g55 : Gam := (((((Gam.nil).add 21 e21).add 114 e114).add 115 e115).add 116 e116).add 117 e117
def n55 : An := { mask := fun | 8 => [1, 2, 3, 4] | _ => [], mv := [34, 82], mb := fun | 34 => some 3 | _ => none, sb := fun | 43 => some 3 | _ => none }
@[reducible] def d55_8 : SD := ⟨[B,.ptr 1 0,.ptr 2 0,.ptr 3 0,DI,B,B,B,B,B,B,B,B,B,B,B,B,B,B,B,B,B,B,B,B,B,B,B,B,B,B,B,B,B,B,B,B,B,B,B,B,B,B,B,B,B,B,B,B,B,B,B,B,B,B,B,B,B,B,B,B,B,B,B,B,B,B,B,B,B,B,B,B,B,B,B,B,B,B,B,B,B,B], [Z,some (.pair (.sl .arg .str) (.pair (.sl .arg TMapping) (.pair (.pair (.pair (.int .i64) (.pair (.int .i64) (.pair (.int .i64) (.int .i64)))) (.pair (.pair (.int .i64) (.pair (.int .i64) (.pair (.int .i64) (.sl .arg (.int .i64))))) (.pair (.sl .arg TSent) (.int .i64)))) (.pair (.sl .arg TRxQueue) (.pair (.sl .arg TPool) (.pair (.sl .arg TVector) (.pair (.sl .arg .bool) (.pair (.pair (.int .i64) (.pair .bool (.sl .arg (.int .i64)))) (.pair (.pair (.sl .arg TRule) (.pair (.sl .arg TSlot) (.pair .str (.sl .arg (.int .i64))))) (.pair (.sl .arg TStream) (.pair .bool (.pair (.sl .arg .str) (.pair (.sl .arg (.int .i64)) (.pair (.sl .arg (.int .i64)) (.pair (.int .i64) (.pair (.int .i64) (.pair (.int .i64) (.pair (.int .i64) (.int .i64))))))))))))))))))),some (.pair (.sl (.own (some 24577)) .str) (.pair (.sl (.own (some 24580)) TMapping) (.pair (.pair (.pair (.int .i64) (.pair (.int .i64) (.pair (.int .i64) (.int .i64)))) (.pair (.pair (.int .i64) (.pair (.int .i64) (.pair (.int .i64) (.sl (.own (some 24604)) (.int .i64))))) (.pair (.sl (.own (some 24607)) TSent) (.int .i64)))) (.pair (.sl (.own (some 24613)) TRxQueue) (.pair (.sl (.own (some 24616)) TPool) (.pair (.sl (.own (some 24619)) TVector) (.pair (.sl (.own (some 24622)) .bool) (.pair (.pair (.int .i64) (.pair .bool (.sl (.own (some 24631)) (.int .i64)))) (.pair (.pair (.sl (.own (some 24634)) TRule) (.pair (.sl (.own (some 24637)) TSlot) (.pair .str (.sl (.own (some 24643)) (.int .i64))))) (.pair (.sl (.own (some 24646)) TStream) (.pair .bool (.pair (.sl (.own (some 24652)) .str) (.pair (.sl (.own (some 24655)) (.int .i64)) (.pair (.sl (.own (some 24658)) (.int .i64)) (.pair (.int .i64) (.pair (.int .i64) (.pair (.int .i64) (.pair (.int .i64) (.int .i64))))))))))))))))))),some (.pair (.sl (.own (some 36865)) .str) (.pair (.sl (.own (some 36868)) TMapping) (.pair (.pair (.pair (.int .i64) (.pair (.int .i64) (.pair (.int .i64) (.int .i64)))) (.pair (.pair (.int .i64) (.pair (.int .i64) (.pair (.int .i64) (.sl (.own (some 36892)) (.int .i64))))) (.pair (.sl (.own (some 36895)) TSent) (.int .i64)))) (.pair (.sl (.own (some 36901)) TRxQueue) (.pair (.sl (.own (some 36904)) TPool) (.pair (.sl .arg TVector) (.pair (.sl .arg .bool) (.pair (.pair (.int .i64) (.pair .bool (.sl .arg (.int .i64)))) (.pair (.pair (.sl .arg TRule) (.pair (.sl .arg TSlot) (.pair .str (.sl .arg (.int .i64))))) (.pair (.sl .arg TStream) (.pair .bool (.pair (.sl .arg .str) (.pair (.sl .arg (.int .i64)) (.pair (.sl .arg (.int .i64)) (.pair (.int .i64) (.pair (.int .i64) (.pair (.int .i64) (.pair (.int .i64) (.int .i64))))))))))))))))))),Z,Z,Z,Z,Z,Z,Z,Z,Z,Z,Z,Z,Z,Z,Z,Z,Z,Z,Z,Z,Z,Z,Z,Z,Z,Z,Z,Z,Z,Z,Z,Z,Z,Z,Z,Z,Z,Z,Z,Z,Z,Z,Z,Z,Z,Z,Z,Z,Z,Z,Z,Z,Z,Z,Z,Z,Z,Z,Z,Z,Z,Z,Z,Z,Z,Z,Z,Z,Z,Z,Z,Z,Z,Z,Z,Z,Z,Z,Z], .none⟩
def t55_8 {R : Type} (X : SD.D d55_8) (K : Ex → AS → Option R) := Pu.spec_l37Copy_T8 (fun y0 y1 => K (.exit 0) (SD.enc d55_8 ((y0, ()), (X.2.1.1, (X.2.1.2.1, (y1, ()))), ()))) X.2.1.1 X.2.1.2.1
def l55_8 : LEnt := ⟨d55_8, fun X K => iterL (t55_8 X K) fuel (X.1.1, X.2.1.2.2.1)⟩
def L55 : Lam := (Lam.nil).add 8 l55_8
theorem k55_8 : LOk E g55 n55 L55 (loopBody Tryz.f55 0) :=
  lok l55_8 (by kernel_rfl) fuel fun R X K => (loop_iter (σ := Int × Pu.Host) (fun x => SD.enc d55_8 ((x.1, ()), (X.2.1.1, (X.2.1.2.1, (x.2, ()))), ())) (t55_8 X K) (fun m x => by kernel_rfl) fuel (X.1.1, X.2.1.2.2.1)).symm
theorem o55 : FnOk Tryz.prog 55 e55 := fk n55 ((((((base).add o21).add o114).add o115).add o116).add o117) Tryz.func55 (Λ := L55) (cF k55_8 nF)
def e56 : GEnt := entOf [.data true TMailbox] [(true, (.pair (.pair (.int .i64) (.pair .bool (.sl (.own none) (.int .i64)))) (.pair (.int .i64) (.pair (.int .i64) (.int .i64)))))] fun a => Pu.spec_l35Copy a.1
theorem o56 : FnOk Tryz.prog 56 e56 := fk { mv := [7] } ((base).add o21) Tryz.func56 (Λ := Lam.nil) nF
def e18 : GEnt := entOf [.data true TCard] [(true, (.pair (.sl (.own none) THost) (.pair (.sl (.own none) TVirtualFunction) (.pair (.sl (.own none) TMailbox) (.pair (.sl (.own none) .str) (.pair (.pair (.int .i64) (.pair (.int .i64) (.pair (.int .i64) (.int .i64)))) (.pair (.sl (.own none) (.int .i64)) (.sl (.own none) .str))))))))] fun a => Pu.spec_l42Copy a.1
def g18 : Gam := ((Gam.nil).add 55 e55).add 56 e56
def n18 : An := { mask := fun | 3 => [1, 2, 3, 4] | 7 => [1, 2, 3, 5] | _ => [], mv := [35, 53, 63], mb := fun | 35 => some 3 | 53 => some 3 | _ => none, sb := fun | 3 => some 3 | 44 => some 3 | 62 => some 3 | _ => none }
@[reducible] def d18_3 : SD := ⟨[B,.ptr 1 0,.ptr 2 0,.ptr 3 0,DI,B,B,B,B,B,B,B,B,B,B,B,B,B,B,B,B,B,B,B,B,B,B,B,B,B,B,B,B,B,B,B,B,B,B,B,B,B,B,B,B,B,B,B,B,B,B,B,B,B,B,B,B,B,B,B,B,B,B,B], [Z,some (.pair (.sl .arg THost) (.pair (.sl .arg TVirtualFunction) (.pair (.sl .arg TMailbox) (.pair (.sl .arg .str) (.pair (.pair (.int .i64) (.pair (.int .i64) (.pair (.int .i64) (.int .i64)))) (.pair (.sl .arg (.int .i64)) (.sl .arg .str))))))),some (.pair (.sl (.own (some 24577)) THost) (.pair (.sl (.own (some 24580)) TVirtualFunction) (.pair (.sl (.own (some 24583)) TMailbox) (.pair (.sl (.own (some 24586)) .str) (.pair (.pair (.int .i64) (.pair (.int .i64) (.pair (.int .i64) (.int .i64)))) (.pair (.sl (.own (some 24601)) (.int .i64)) (.sl (.own (some 24604)) .str))))))),some (.pair (.sl (.own (some 36865)) THost) (.pair (.sl (.own (some 36868)) TVirtualFunction) (.pair (.sl (.own (some 36871)) TMailbox) (.pair (.sl (.own (some 36874)) .str) (.pair (.pair (.int .i64) (.pair (.int .i64) (.pair (.int .i64) (.int .i64)))) (.pair (.sl (.own (some 36889)) (.int .i64)) (.sl (.own (some 36892)) .str))))))),Z,Z,Z,Z,Z,Z,Z,Z,Z,Z,Z,Z,Z,Z,Z,Z,Z,Z,Z,Z,Z,Z,Z,Z,Z,Z,Z,Z,Z,Z,Z,Z,Z,Z,Z,Z,Z,Z,Z,Z,Z,Z,Z,Z,Z,Z,Z,Z,Z,Z,Z,Z,Z,Z,Z,Z,Z,Z,Z,Z], .none⟩
def t18_3 {R : Type} (X : SD.D d18_3) (K : Ex → AS → Option R) := Pu.spec_l42Copy_T3 (fun y0 y1 => K (.exit 0) (SD.enc d18_3 ((y0, ()), (X.2.1.1, (X.2.1.2.1, (y1, ()))), ()))) X.2.1.1 X.2.1.2.1
def l18_3 : LEnt := ⟨d18_3, fun X K => iterL (t18_3 X K) fuel (X.1.1, X.2.1.2.2.1)⟩
@[reducible] def d18_7 : SD := ⟨[B,.ptr 1 0,.ptr 2 0,.ptr 3 0,B,DI,B,B,B,B,B,B,B,B,B,B,B,B,B,B,B,B,B,B,B,B,B,B,B,B,B,B,B,B,B,B,B,B,B,B,B,B,B,B,B,B,B,B,B,B,B,B,B,B,B,B,B,B,B,B,B,B,B,B], [Z,some (.pair (.sl .arg THost) (.pair (.sl .arg TVirtualFunction) (.pair (.sl .arg TMailbox) (.pair (.sl .arg .str) (.pair (.pair (.int .i64) (.pair (.int .i64) (.pair (.int .i64) (.int .i64)))) (.pair (.sl .arg (.int .i64)) (.sl .arg .str))))))),some (.pair (.sl (.own (some 24577)) THost) (.pair (.sl (.own (some 24580)) TVirtualFunction) (.pair (.sl (.own (some 24583)) TMailbox) (.pair (.sl (.own (some 24586)) .str) (.pair (.pair (.int .i64) (.pair (.int .i64) (.pair (.int .i64) (.int .i64)))) (.pair (.sl (.own (some 24601)) (.int .i64)) (.sl (.own (some 24604)) .str))))))),some (.pair (.sl (.own (some 36865)) THost) (.pair (.sl (.own (some 36868)) TVirtualFunction) (.pair (.sl (.own (some 36871)) TMailbox) (.pair (.sl (.own (some 36874)) .str) (.pair (.pair (.int .i64) (.pair (.int .i64) (.pair (.int .i64) (.int .i64)))) (.pair (.sl (.own (some 36889)) (.int .i64)) (.sl (.own (some 36892)) .str))))))),Z,Z,Z,Z,Z,Z,Z,Z,Z,Z,Z,Z,Z,Z,Z,Z,Z,Z,Z,Z,Z,Z,Z,Z,Z,Z,Z,Z,Z,Z,Z,Z,Z,Z,Z,Z,Z,Z,Z,Z,Z,Z,Z,Z,Z,Z,Z,Z,Z,Z,Z,Z,Z,Z,Z,Z,Z,Z,Z,Z], .none⟩
def t18_7 {R : Type} (X : SD.D d18_7) (K : Ex → AS → Option R) := Pu.spec_l42Copy_T7 (fun y0 y1 => K (.exit 2) (SD.enc d18_7 ((y0, ()), (X.2.1.1, (X.2.1.2.1, (y1, ()))), ()))) X.2.1.1 X.2.1.2.1
def l18_7 : LEnt := ⟨d18_7, fun X K => iterL (t18_7 X K) fuel (X.1.1, X.2.1.2.2.1)⟩
def L18 : Lam := ((Lam.nil).add 3 l18_3).add 7 l18_7
theorem k18_3 : LOk E g18 n18 L18 (loopBody Tryz.f18 0) :=
  lok l18_3 (by kernel_rfl) fuel fun R X K => (loop_iter (σ := Int × Pu.Card) (fun x => SD.enc d18_3 ((x.1, ()), (X.2.1.1, (X.2.1.2.1, (x.2, ()))), ())) (t18_3 X K) (fun m x => by kernel_rfl) fuel (X.1.1, X.2.1.2.2.1)).symm
theorem k18_7 : LOk E g18 n18 L18 (loopBody Tryz.f18 1) :=
  lok l18_7 (by kernel_rfl) fuel fun R X K => (loop_iter (σ := Int × Pu.Card) (fun x => SD.enc d18_7 ((x.1, ()), (X.2.1.1, (X.2.1.2.1, (x.2, ()))), ())) (t18_7 X K) (fun m x => by kernel_rfl) fuel (X.1.1, X.2.1.2.2.1)).symm
theorem o18 : FnOk Tryz.prog 18 e18 := fk n18 (((base).add o55).add o56) Tryz.func18 (Λ := L18) (cF k18_3 (cF k18_7 nF))
def e118 : GEnt := entOf [.data false (.int .i64), .data false (.int .i64), .data false (.int .i64)] [(false, .bool)] fun a => Pu.spec_l01In a.1 a.2.1 a.2.2.1
theorem o118 : FnOk Tryz.prog 118 e118 := fk { merge := fun | 1 => some 6 | _ => none } (base) Tryz.func118 (Λ := Lam.nil) nF
def e128 : GEnt := entOf [.data true TFilter] [(false, .bool)] fun a => Pu.spec_FilterOk a.1
def g128 : Gam := (Gam.nil).add 118 e118
def n128 : An := { mask := fun | 2 => [1, 2, 3] | _ => [], merge := fun | 4 => some 35 | 6 => some 2 | _ => none }
@[reducible] def d128_2 : SD := ⟨[B,.ptr 1 0,DB,DI,B,B,B,B,B,B,B,B,B,B,B,B,B,B,B,B,B,B,B,B,B,B,B,B,B,B,B,B,B,B,B,B,B,B,B,B,B,B,B,B,B], [Z,some (.pair (.int .i64) (.pair .bool (.sl .arg (.int .i64)))),Z,Z,Z,Z,Z,Z,Z,Z,Z,Z,Z,Z,Z,Z,Z,Z,Z,Z,Z,Z,Z,Z,Z,Z,Z,Z,Z,Z,Z,Z,Z,Z,Z,Z,Z,Z,Z,Z,Z,Z,Z,Z,Z], .none⟩
def t128_2 {R : Type} (X : SD.D d128_2) (K : Ex → AS → Option R) := Pu.spec_FilterOk_T2 (fun y0 => K (.exit 0) (SD.enc d128_2 ((X.1.1, (y0, ())), (X.2.1.1, ()), ()))) (fun y0 y1 => K .ret (SD.enc d128_2 ((y0, (y1, ())), (X.2.1.1, ()), ()))) X.1.1 X.2.1.1
def l128_2 : LEnt := ⟨d128_2, fun X K => iterL (t128_2 X K) fuel X.1.2.1⟩
def L128 : Lam := (Lam.nil).add 2 l128_2
theorem k128_2 : LOk E g128 n128 L128 (loopBody Tryz.f128 0) :=
  lok l128_2 (by kernel_rfl) fuel fun R X K => (loop_iter (σ := Int) (fun x => SD.enc d128_2 ((X.1.1, (x, ())), (X.2.1.1, ()), ())) (t128_2 X K) (fun m x => by kernel_rfl) fuel X.1.2.1).symm
theorem o128 : FnOk Tryz.prog 128 e128 := fk n128 ((base).add o118) Tryz.func128 (Λ := L128) (cF k128_2 nF)
def e119 : GEnt := entOf [.data true TMailbox] [(false, .bool)] fun a => Pu.spec_MailboxOk a.1
theorem o119 : FnOk Tryz.prog 119 e119 := fk { merge := fun | 1 => some 2 | _ => none } (((base).add o118).add o128) Tryz.func119 (Λ := Lam.nil) nF
def e190 : GEnt := entOf [.data false (.sl (.int .i64)), .data false (.int .i64)] [(false, .bool)] fun a => Pu.spec_l24Has a.1 a.2.1
def g190 : Gam := Gam.nil
def n190 : An := { mask := fun | 2 => [0, 1, 4, 5] | _ => [] }
@[reducible] def d190_2 : SD := ⟨[.data false (.sl .arg (.int .i64)),DI,B,B,DB,DI,B,B,B,B,B,B,B,B,B,B,B,B], [Z,Z,Z,Z,Z,Z,Z,Z,Z,Z,Z,Z,Z,Z,Z,Z,Z,Z], .none⟩
def t190_2 {R : Type} (X : SD.D d190_2) (K : Ex → AS → Option R) := Pu.spec_l24Has_T2 (fun y0 => K (.exit 0) (SD.enc d190_2 ((X.1.1, (X.1.2.1, (X.1.2.2.1, (y0, ())))), (), ()))) (fun y0 y1 => K .ret (SD.enc d190_2 ((X.1.1, (X.1.2.1, (y0, (y1, ())))), (), ()))) X.1.1 X.1.2.1 X.1.2.2.1
def l190_2 : LEnt := ⟨d190_2, fun X K => iterL (t190_2 X K) fuel X.1.2.2.2.1⟩
def L190 : Lam := (Lam.nil).add 2 l190_2
theorem k190_2 : LOk E g190 n190 L190 (loopBody Tryz.f190 0) :=
  lok l190_2 (by kernel_rfl) fuel fun R X K => (loop_iter (σ := Int) (fun x => SD.enc d190_2 ((X.1.1, (X.1.2.1, (X.1.2.2.1, (x, ())))), (), ())) (t190_2 X K) (fun m x => by kernel_rfl) fuel X.1.2.2.2.1).symm
theorem o190 : FnOk Tryz.prog 190 e190 := fk n190 (base) Tryz.func190 (Λ := L190) (cF k190_2 nF)
def e120 : GEnt := entOf [.data false (.sl (.int .i64)), .data false (.sl (.int .i64))] [(false, (.sl (.own none) (.int .i64)))] fun a => Pu.spec_l42Union a.1 a.2.1
def g120 : Gam := (Gam.nil).add 190 e190
def n120 : An := { mask := fun | 3 => [1, 5, 6] | 7 => [1, 5, 6, 7] | _ => [], merge := fun | 7 => some 37 | _ => none, mv := [55] }
@[reducible] def d120_7 : SD := ⟨[B,.data false (.sl .arg (.int .i64)),B,B,B,.data false (.sl (.own (some 61440)) (.int .i64)),DI,DI,B,B,B,B,B,B,B,B,B,B,B,B,B,B,B,B,B,B,B,B,B,B,B,B,B,B,B,B,B,B,B,B,B,B,B,B,B,B,B,B,B,B,B,B,B,B,B,B], [Z,Z,Z,Z,Z,Z,Z,Z,Z,Z,Z,Z,Z,Z,Z,Z,Z,Z,Z,Z,Z,Z,Z,Z,Z,Z,Z,Z,Z,Z,Z,Z,Z,Z,Z,Z,Z,Z,Z,Z,Z,Z,Z,Z,Z,Z,Z,Z,Z,Z,Z,Z,Z,Z,Z,Z], .none⟩
def t120_7 {R : Type} (X : SD.D d120_7) (K : Ex → AS → Option R) := Pu.spec_l42Union_T7 (fun y0 => K (.exit 2) (SD.enc d120_7 ((X.1.1, (X.1.2.1, (X.1.2.2.1, (y0, ())))), (), ()))) X.1.1 X.1.2.1 X.1.2.2.1
def l120_7 : LEnt := ⟨d120_7, fun X K => iterL (t120_7 X K) fuel X.1.2.2.2.1⟩
@[reducible] def d120_3 : SD := ⟨[B,.data false (.sl .arg (.int .i64)),B,B,B,.data false (.sl (.own (some 61440)) (.int .i64)),DI,B,B,B,B,B,B,B,B,B,B,B,B,B,B,B,B,B,B,B,B,B,B,B,B,B,B,B,B,B,B,B,B,B,B,B,B,B,B,B,B,B,B,B,B,B,B,B,B,B], [Z,Z,Z,Z,Z,Z,Z,Z,Z,Z,Z,Z,Z,Z,Z,Z,Z,Z,Z,Z,Z,Z,Z,Z,Z,Z,Z,Z,Z,Z,Z,Z,Z,Z,Z,Z,Z,Z,Z,Z,Z,Z,Z,Z,Z,Z,Z,Z,Z,Z,Z,Z,Z,Z,Z,Z], .none⟩
def t120_3 {R : Type} (X : SD.D d120_3) (K : Ex → AS → Option R) := Pu.spec_l42Union_T3 (fun y0 y1 => K (.exit 0) (SD.enc d120_3 ((X.1.1, (y0, (y1, ()))), (), ()))) X.1.1
def l120_3 : LEnt := ⟨d120_3, fun X K => iterL (t120_3 X K) fuel (X.1.2.1, X.1.2.2.1)⟩
def L120 : Lam := ((Lam.nil).add 7 l120_7).add 3 l120_3
theorem k120_7 : LOk E g120 n120 L120 (loopBody Tryz.f120 1) :=
  lok l120_7 (by kernel_rfl) fuel fun R X K => (loop_iter (σ := Int) (fun x => SD.enc d120_7 ((X.1.1, (X.1.2.1, (X.1.2.2.1, (x, ())))), (), ())) (t120_7 X K) (fun m x => by kernel_rfl) fuel X.1.2.2.2.1).symm
theorem k120_3 : LOk E g120 n120 L120 (loopBody Tryz.f120 0) :=
  lok l120_3 (by kernel_rfl) fuel fun R X K => (loop_iter (σ := (List Int) × Int) (fun x => SD.enc d120_3 ((X.1.1, (x.1, (x.2, ()))), (), ())) (t120_3 X K) (fun m x => by kernel_rfl) fuel (X.1.2.1, X.1.2.2.1)).symm
theorem o120 : FnOk Tryz.prog 120 e120 := fk n120 ((base).add o190) Tryz.func120 (Λ := L120) (cF k120_3 (cF k120_7 nF))
def e121 : GEnt := entOf [.data false (.sl TPort)] [(false, .bool)] fun a => Pu.spec_PortsOk a.1
def g121 : Gam := (((Gam.nil).add 118 e118).add 128 e128).add 190 e190
def n121 : An := { mask := fun | 4 => [0, 2, 3] | 9 => [0, 2, 3, 4] | _ => [] }
@[reducible] def d121_9 : SD := ⟨[.data false (.sl .arg TPort),B,DB,DI,DI,B,B,B,B,B,B,B,B,B,B,B,B,B,B,B,B,B,B,B,B,B,B,B,B,B,B,B,B,B,B,B,B,B,B,B,B,B,B,B,B,B,B,B,B,B,B,B,B,B,B,B,B,B], [Z,Z,Z,Z,Z,Z,Z,Z,Z,Z,Z,Z,Z,Z,Z,Z,Z,Z,Z,Z,Z,Z,Z,Z,Z,Z,Z,Z,Z,Z,Z,Z,Z,Z,Z,Z,Z,Z,Z,Z,Z,Z,Z,Z,Z,Z,Z,Z,Z,Z,Z,Z,Z,Z,Z,Z,Z,Z], .none⟩
def t121_9 {R : Type} (X : SD.D d121_9) (K : Ex → AS → Option R) := Pu.spec_PortsOk_T9 (fun y0 => K (.exit 2) (SD.enc d121_9 ((X.1.1, (X.1.2.1, (X.1.2.2.1, (y0, ())))), (), ()))) (fun y0 y1 => K .ret (SD.enc d121_9 ((X.1.1, (y0, (X.1.2.2.1, (y1, ())))), (), ()))) X.1.1 X.1.2.1 X.1.2.2.1
def l121_9 : LEnt := ⟨d121_9, fun X K => iterL (t121_9 X K) fuel X.1.2.2.2.1⟩
@[reducible] def d121_4 : SD := ⟨[.data false (.sl .arg TPort),B,DB,DI,B,B,B,B,B,B,B,B,B,B,B,B,B,B,B,B,B,B,B,B,B,B,B,B,B,B,B,B,B,B,B,B,B,B,B,B,B,B,B,B,B,B,B,B,B,B,B,B,B,B,B,B,B,B], [Z,Z,Z,Z,Z,Z,Z,Z,Z,Z,Z,Z,Z,Z,Z,Z,Z,Z,Z,Z,Z,Z,Z,Z,Z,Z,Z,Z,Z,Z,Z,Z,Z,Z,Z,Z,Z,Z,Z,Z,Z,Z,Z,Z,Z,Z,Z,Z,Z,Z,Z,Z,Z,Z,Z,Z,Z,Z], .none⟩
def t121_4 {R : Type} (X : SD.D d121_4) (K : Ex → AS → Option R) := Pu.spec_PortsOk_T4 (fun y0 => K (.exit 0) (SD.enc d121_4 ((X.1.1, (X.1.2.1, (y0, ()))), (), ()))) (fun y0 y1 => K .ret (SD.enc d121_4 ((X.1.1, (y0, (y1, ()))), (), ()))) X.1.1 X.1.2.1
def l121_4 : LEnt := ⟨d121_4, fun X K => iterL (t121_4 X K) fuel X.1.2.2.1⟩
def L121 : Lam := ((Lam.nil).add 9 l121_9).add 4 l121_4
theorem k121_9 : LOk E g121 n121 L121 (loopBody Tryz.f121 1) :=
  lok l121_9 (by kernel_rfl) fuel fun R X K => (loop_iter (σ := Int) (fun x => SD.enc d121_9 ((X.1.1, (X.1.2.1, (X.1.2.2.1, (x, ())))), (), ())) (t121_9 X K) (fun m x => by kernel_rfl) fuel X.1.2.2.2.1).symm
theorem k121_4 : LOk E g121 n121 L121 (loopBody Tryz.f121 0) :=
  lok l121_4 (by kernel_rfl) fuel fun R X K => (loop_iter (σ := Int) (fun x => SD.enc d121_4 ((X.1.1, (X.1.2.1, (x, ()))), (), ())) (t121_4 X K) (fun m x => by kernel_rfl) fuel X.1.2.2.1).symm
theorem o121 : FnOk Tryz.prog 121 e121 := fk n121 ((((base).add o118).add o128).add o190) Tryz.func121 (Λ := L121) (cF k121_4 (cF k121_9 nF))
def e57 : GEnt := entOf [.data false (.sl TMailbox)] [(false, (.sl (.own none) TPort)), (false, .bool)] fun a => Pu.spec_PortsOf a.1
def g57 : Gam := ((((Gam.nil).add 118 e118).add 119 e119).add 120 e120).add 121 e121
def n57 : An := { mask := fun | 5 => [0, 2, 3, 4, 5] | _ => [], mv := [41, 63] }
@[reducible] def d57_5 : SD := ⟨[.data false (.sl .arg TMailbox),B,.data false (.sl (.own (some 24576)) TPort),DB,.data false (.sl (.own (some 49152)) TPort),DI,B,B,B,B,B,B,B,B,B,B,B,B,B,B,B,B,B,B,B,B,B,B,B,B,B,B,B,B,B,B,B,B,B,B,B,B,B,B,B,B,B,B,B,B,B,B,B,B,B,B,B,B,B,B,B,B,B,B], [Z,Z,Z,Z,Z,Z,Z,Z,Z,Z,Z,Z,Z,Z,Z,Z,Z,Z,Z,Z,Z,Z,Z,Z,Z,Z,Z,Z,Z,Z,Z,Z,Z,Z,Z,Z,Z,Z,Z,Z,Z,Z,Z,Z,Z,Z,Z,Z,Z,Z,Z,Z,Z,Z,Z,Z,Z,Z,Z,Z,Z,Z,Z,Z], .none⟩
def t57_5 {R : Type} (X : SD.D d57_5) (K : Ex → AS → Option R) := Pu.spec_PortsOf_T5 (fun y0 y1 => K (.exit 0) (SD.enc d57_5 ((X.1.1, (X.1.2.1, (X.1.2.2.1, (y0, (y1, ()))))), (), ()))) (fun y0 y1 y2 y3 => K .ret (SD.enc d57_5 ((X.1.1, (y0, (y1, (y2, (y3, ()))))), (), ()))) X.1.1 X.1.2.1 X.1.2.2.1
def l57_5 : LEnt := ⟨d57_5, fun X K => iterL (t57_5 X K) fuel (X.1.2.2.2.1, X.1.2.2.2.2.1)⟩
def L57 : Lam := (Lam.nil).add 5 l57_5
theorem k57_5 : LOk E g57 n57 L57 (loopBody Tryz.f57 0) :=
  lok l57_5 (by kernel_rfl) fuel fun R X K => (loop_iter (σ := (List Pu.Port) × Int) (fun x => SD.enc d57_5 ((X.1.1, (X.1.2.1, (X.1.2.2.1, (x.1, (x.2, ()))))), (), ())) (t57_5 X K) (fun m x => by kernel_rfl) fuel (X.1.2.2.2.1, X.1.2.2.2.2.1)).symm
theorem o57 : FnOk Tryz.prog 57 e57 := fk n57 (((((base).add o118).add o119).add o120).add o121) Tryz.func57 (Λ := L57) (cF k57_5 nF)
def e122 : GEnt := entOf [.data true TBucket] [(false, .bool)] fun a => Pu.spec_BucketOk a.1
theorem o122 : FnOk Tryz.prog 122 e122 := fk { merge := fun | 1 => some 2 | _ => none } ((base).add o118) Tryz.func122 (Λ := Lam.nil) nF
def e58 : GEnt := entOf [.data false (.sl TVirtualFunction), .data false (.sl TPort)] [(false, .bool)] fun a => Pu.spec_FunctionsOk a.1 a.2.1
def g58 : Gam := (((Gam.nil).add 118 e118).add 121 e121).add 122 e122
def n58 : An := { mask := fun | 4 => [0, 1, 4, 5] | 10 => [0, 1, 4, 5, 6, 7] | _ => [], merge := fun | 7 => some 51 | 12 => some 74 | _ => none }
@[reducible] def d58_10 : SD := ⟨[.data false (.sl .arg TVirtualFunction),.data false (.sl .arg TPort),B,B,DB,DI,.ptr 6 0,DI,B,B,B,B,B,B,B,B,B,B,B,B,B,B,B,B,B,B,B,B,B,B,B,B,B,B,B,B,B,B,B,B,B,B,B,B,B,B,B,B,B,B,B,B,B,B,B,B,B,B,B,B,B,B,B,B,B,B,B,B,B,B,B,B,B,B,B], [Z,Z,Z,Z,Z,Z,some (.pair (.int .i64) (.pair (.int .i64) (.pair (.pair (.int .i64) (.pair (.int .i64) (.int .i64))) (.pair .bool (.pair (.int .i64) (.int .i64)))))),Z,Z,Z,Z,Z,Z,Z,Z,Z,Z,Z,Z,Z,Z,Z,Z,Z,Z,Z,Z,Z,Z,Z,Z,Z,Z,Z,Z,Z,Z,Z,Z,Z,Z,Z,Z,Z,Z,Z,Z,Z,Z,Z,Z,Z,Z,Z,Z,Z,Z,Z,Z,Z,Z,Z,Z,Z,Z,Z,Z,Z,Z,Z,Z,Z,Z,Z,Z], .none⟩
def t58_10 {R : Type} (X : SD.D d58_10) (K : Ex → AS → Option R) := Pu.spec_FunctionsOk_T10 (fun y0 => K (.exit 2) (SD.enc d58_10 ((X.1.1, (X.1.2.1, (X.1.2.2.1, (X.1.2.2.2.1, (y0, ()))))), (X.2.1.1, ()), ()))) (fun y0 y1 => K .ret (SD.enc d58_10 ((X.1.1, (X.1.2.1, (y0, (X.1.2.2.2.1, (y1, ()))))), (X.2.1.1, ()), ()))) X.1.1 X.1.2.1 X.1.2.2.1 X.1.2.2.2.1 X.2.1.1
def l58_10 : LEnt := ⟨d58_10, fun X K => iterL (t58_10 X K) fuel X.1.2.2.2.2.1⟩
@[reducible] def d58_4 : SD := ⟨[.data false (.sl .arg TVirtualFunction),.data false (.sl .arg TPort),B,B,DB,DI,B,B,B,B,B,B,B,B,B,B,B,B,B,B,B,B,B,B,B,B,B,B,B,B,B,B,B,B,B,B,B,B,B,B,B,B,B,B,B,B,B,B,B,B,B,B,B,B,B,B,B,B,B,B,B,B,B,B,B,B,B,B,B,B,B,B,B,B,B], [Z,Z,Z,Z,Z,Z,Z,Z,Z,Z,Z,Z,Z,Z,Z,Z,Z,Z,Z,Z,Z,Z,Z,Z,Z,Z,Z,Z,Z,Z,Z,Z,Z,Z,Z,Z,Z,Z,Z,Z,Z,Z,Z,Z,Z,Z,Z,Z,Z,Z,Z,Z,Z,Z,Z,Z,Z,Z,Z,Z,Z,Z,Z,Z,Z,Z,Z,Z,Z,Z,Z,Z,Z,Z,Z], .none⟩
def t58_4 {R : Type} (X : SD.D d58_4) (K : Ex → AS → Option R) := Pu.spec_FunctionsOk_T4 (fun y0 => K (.exit 0) (SD.enc d58_4 ((X.1.1, (X.1.2.1, (X.1.2.2.1, (y0, ())))), (), ()))) (fun y0 y1 => K .ret (SD.enc d58_4 ((X.1.1, (X.1.2.1, (y0, (y1, ())))), (), ()))) X.1.1 X.1.2.1 X.1.2.2.1
def l58_4 : LEnt := ⟨d58_4, fun X K => iterL (t58_4 X K) fuel X.1.2.2.2.1⟩
def L58 : Lam := ((Lam.nil).add 10 l58_10).add 4 l58_4
theorem k58_10 : LOk E g58 n58 L58 (loopBody Tryz.f58 1) :=
  lok l58_10 (by kernel_rfl) fuel fun R X K => (loop_iter (σ := Int) (fun x => SD.enc d58_10 ((X.1.1, (X.1.2.1, (X.1.2.2.1, (X.1.2.2.2.1, (x, ()))))), (X.2.1.1, ()), ())) (t58_10 X K) (fun m x => by kernel_rfl) fuel X.1.2.2.2.2.1).symm
theorem k58_4 : LOk E g58 n58 L58 (loopBody Tryz.f58 0) :=
  lok l58_4 (by kernel_rfl) fuel fun R X K => (loop_iter (σ := Int) (fun x => SD.enc d58_4 ((X.1.1, (X.1.2.1, (X.1.2.2.1, (x, ())))), (), ())) (t58_4 X K) (fun m x => by kernel_rfl) fuel X.1.2.2.2.1).symm
theorem o58 : FnOk Tryz.prog 58 e58 := fk n58 ((((base).add o118).add o121).add o122) Tryz.func58 (Λ := L58) (cF k58_4 (cF k58_10 nF))
def e123 : GEnt := entOf [.data true (.sl .str)] [(false, .bool)] fun a => Pu.spec_FlashOk a.1
theorem o123 : FnOk Tryz.prog 123 e123 := fk { merge := fun | 1 => some 2 | _ => none } (base) Tryz.func123 (Λ := Lam.nil) nF
def e244 : GEnt := entOf [.data false .str, .data false (.int .i64), .data false (.int .i64)] [(false, .bool)] fun a => Pu.spec_l02Within a.1 a.2.1 a.2.2.1
theorem o244 : FnOk Tryz.prog 244 e244 := fk { merge := fun | 1 => some 6 | _ => none } (base) Tryz.func244 (Λ := Lam.nil) nF
def e245 : GEnt := entOf [.data false .str, .data false (.int .i64)] [(false, (.int .i64))] fun a => Pu.spec_Get16 a.1 a.2.1
theorem o245 : FnOk Tryz.prog 245 e245 := fk {} ((base).add o244) Tryz.func245 (Λ := Lam.nil) nF
def e191 : GEnt := entOf [.data false .str, .data false (.int .i64)] [(false, (.int .i64))] fun a => Pu.spec_Get32 a.1 a.2.1
theorem o191 : FnOk Tryz.prog 191 e191 := fk {} (((base).add o244).add o245) Tryz.func191 (Λ := Lam.nil) nF
def e246 : GEnt := entOf [.data false (.int .i64)] [(false, .str)] fun a => Pu.spec_Word32 a.1
theorem o246 : FnOk Tryz.prog 246 e246 := fk {} ((base).add o118) Tryz.func246 (Λ := Lam.nil) nF
def e247 : GEnt := entOf [.data false .str] [(false, (.int .i64))] fun a => Pu.spec_Crc32 a.1
def g247 : Gam := Gam.nil
def n247 : An := { mask := fun | 3 => [0, 3, 4] | 7 => [0, 3, 4, 5] | _ => [] }
@[reducible] def d247_7 : SD := ⟨[.data false .str,B,B,DI,DI,DI,B,B,B,B,B,B,B,B,B,B,B,B,B,B,B,B,B,B,B,B,B,B,B,B,B,B], [Z,Z,Z,Z,Z,Z,Z,Z,Z,Z,Z,Z,Z,Z,Z,Z,Z,Z,Z,Z,Z,Z,Z,Z,Z,Z,Z,Z,Z,Z,Z,Z], .none⟩
def t247_7 {R : Type} (X : SD.D d247_7) (K : Ex → AS → Option R) := Pu.spec_Crc32_T7 (fun y0 y1 => K (.exit 2) (SD.enc d247_7 ((X.1.1, (y0, (X.1.2.2.1, (y1, ())))), (), ()))) X.1.1 X.1.2.2.1
def l247_7 : LEnt := ⟨d247_7, fun X K => iterL (t247_7 X K) fuel (X.1.2.1, X.1.2.2.2.1)⟩
@[reducible] def d247_3 : SD := ⟨[.data false .str,B,B,DI,DI,B,B,B,B,B,B,B,B,B,B,B,B,B,B,B,B,B,B,B,B,B,B,B,B,B,B,B], [Z,Z,Z,Z,Z,Z,Z,Z,Z,Z,Z,Z,Z,Z,Z,Z,Z,Z,Z,Z,Z,Z,Z,Z,Z,Z,Z,Z,Z,Z,Z,Z], .none⟩
def t247_3 {R : Type} (X : SD.D d247_3) (K : Ex → AS → Option R) := Pu.spec_Crc32_T3 (fun y0 y1 => K (.exit 0) (SD.enc d247_3 ((X.1.1, (y0, (y1, ()))), (), ()))) X.1.1
def l247_3 : LEnt := ⟨d247_3, fun X K => iterL (t247_3 X K) fuel (X.1.2.1, X.1.2.2.1)⟩
def L247 : Lam := ((Lam.nil).add 7 l247_7).add 3 l247_3
theorem k247_7 : LOk E g247 n247 L247 (loopBody Tryz.f247 1) :=
  lok l247_7 (by kernel_rfl) fuel fun R X K => (loop_iter (σ := Int × Int) (fun x => SD.enc d247_7 ((X.1.1, (x.1, (X.1.2.2.1, (x.2, ())))), (), ())) (t247_7 X K) (fun m x => by kernel_rfl) fuel (X.1.2.1, X.1.2.2.2.1)).symm
theorem k247_3 : LOk E g247 n247 L247 (loopBody Tryz.f247 0) :=
  lok l247_3 (by kernel_rfl) fuel fun R X K => (loop_iter (σ := Int × Int) (fun x => SD.enc d247_3 ((X.1.1, (x.1, (x.2, ()))), (), ())) (t247_3 X K) (fun m x => by kernel_rfl) fuel (X.1.2.1, X.1.2.2.1)).symm
theorem o247 : FnOk Tryz.prog 247 e247 := fk n247 (base) Tryz.func247 (Λ := L247) (cF k247_3 (cF k247_7 nF))
def e192 : GEnt := entOf [.data false (.int .i64), .data false .str] [(false, .str), (false, .bool)] fun a => Pu.spec_MakeImage a.1 a.2.1
theorem o192 : FnOk Tryz.prog 192 e192 := fk { merge := fun | 1 => some 15 | _ => none } ((((base).add o118).add o246).add o247) Tryz.func192 (Λ := Lam.nil) nF
def e124 : GEnt := entOf [.data false .str] [(false, (.int .i64))] fun a => Pu.spec_ImageVersion a.1
theorem o124 : FnOk Tryz.prog 124 e124 := fk { merge := fun | 2 => some 17 | 5 => some 37 | _ => none } ((((base).add o118).add o191).add o192) Tryz.func124 (Λ := Lam.nil) nF
def e59 : GEnt := entOf [.data true (.sl .str)] [(false, (.int .i64))] fun a => Pu.spec_BootBank a.1
theorem o59 : FnOk Tryz.prog 59 e59 := fk { merge := fun | 5 => some 23 | _ => none } (((base).add o123).add o124) Tryz.func59 (Λ := Lam.nil) nF
def e60 : GEnt := entOf [.data true TClock] [(false, .bool)] fun a => Pu.spec_ClockOk a.1
theorem o60 : FnOk Tryz.prog 60 e60 := fk { merge := fun | 1 => some 2 | _ => none } ((base).add o118) Tryz.func60 (Λ := Lam.nil) nF
def e125 : GEnt := entOf [.data true (.sl .str)] [(false, .bool)] fun a => Pu.spec_MemoryOk a.1
def g125 : Gam := Gam.nil
def n125 : An := { mask := fun | 2 => [1, 2, 3] | _ => [] }
@[reducible] def d125_2 : SD := ⟨[B,.ptr 1 0,DB,DI,B,B,B,B,B,B,B,B,B,B,B,B,B,B,B,B,B,B], [Z,some (.sl .arg .str),Z,Z,Z,Z,Z,Z,Z,Z,Z,Z,Z,Z,Z,Z,Z,Z,Z,Z,Z,Z], .none⟩
def t125_2 {R : Type} (X : SD.D d125_2) (K : Ex → AS → Option R) := Pu.spec_MemoryOk_T2 (fun y0 => K (.exit 0) (SD.enc d125_2 ((X.1.1, (y0, ())), (X.2.1.1, ()), ()))) (fun y0 y1 => K .ret (SD.enc d125_2 ((y0, (y1, ())), (X.2.1.1, ()), ()))) X.1.1 X.2.1.1
def l125_2 : LEnt := ⟨d125_2, fun X K => iterL (t125_2 X K) fuel X.1.2.1⟩
def L125 : Lam := (Lam.nil).add 2 l125_2
theorem k125_2 : LOk E g125 n125 L125 (loopBody Tryz.f125 0) :=
  lok l125_2 (by kernel_rfl) fuel fun R X K => (loop_iter (σ := Int) (fun x => SD.enc d125_2 ((X.1.1, (x, ())), (X.2.1.1, ()), ())) (t125_2 X K) (fun m x => by kernel_rfl) fuel X.1.2.1).symm
theorem o125 : FnOk Tryz.prog 125 e125 := fk n125 (base) Tryz.func125 (Λ := L125) (cF k125_2 nF)
def e126 : GEnt := entOf [.data false (.sl TMapping)] [(false, .bool)] fun a => Pu.spec_MappingsOk a.1
def g126 : Gam := (Gam.nil).add 118 e118
def n126 : An := { mask := fun | 4 => [0, 2, 3] | 10 => [0, 2, 3, 4, 5] | _ => [], merge := fun | 7 => some 34 | 12 => some 57 | _ => none }
@[reducible] def d126_10 : SD := ⟨[.data false (.sl .arg TMapping),B,DB,DI,.ptr 4 0,DI,B,B,B,B,B,B,B,B,B,B,B,B,B,B,B,B,B,B,B,B,B,B,B,B,B,B,B,B,B,B,B,B,B,B,B,B,B,B,B,B,B,B,B,B,B,B,B,B,B,B,B,B], [Z,Z,Z,Z,some (.pair (.int .i64) (.pair (.int .i64) (.pair (.int .i64) .bool))),Z,Z,Z,Z,Z,Z,Z,Z,Z,Z,Z,Z,Z,Z,Z,Z,Z,Z,Z,Z,Z,Z,Z,Z,Z,Z,Z,Z,Z,Z,Z,Z,Z,Z,Z,Z,Z,Z,Z,Z,Z,Z,Z,Z,Z,Z,Z,Z,Z,Z,Z,Z,Z], .none⟩
def t126_10 {R : Type} (X : SD.D d126_10) (K : Ex → AS → Option R) := Pu.spec_MappingsOk_T10 (fun y0 => K (.exit 2) (SD.enc d126_10 ((X.1.1, (X.1.2.1, (X.1.2.2.1, (y0, ())))), (X.2.1.1, ()), ()))) (fun y0 y1 => K .ret (SD.enc d126_10 ((X.1.1, (y0, (X.1.2.2.1, (y1, ())))), (X.2.1.1, ()), ()))) X.1.1 X.1.2.1 X.1.2.2.1 X.2.1.1
def l126_10 : LEnt := ⟨d126_10, fun X K => iterL (t126_10 X K) fuel X.1.2.2.2.1⟩
@[reducible] def d126_4 : SD := ⟨[.data false (.sl .arg TMapping),B,DB,DI,B,B,B,B,B,B,B,B,B,B,B,B,B,B,B,B,B,B,B,B,B,B,B,B,B,B,B,B,B,B,B,B,B,B,B,B,B,B,B,B,B,B,B,B,B,B,B,B,B,B,B,B,B,B], [Z,Z,Z,Z,Z,Z,Z,Z,Z,Z,Z,Z,Z,Z,Z,Z,Z,Z,Z,Z,Z,Z,Z,Z,Z,Z,Z,Z,Z,Z,Z,Z,Z,Z,Z,Z,Z,Z,Z,Z,Z,Z,Z,Z,Z,Z,Z,Z,Z,Z,Z,Z,Z,Z,Z,Z,Z,Z], .none⟩
def t126_4 {R : Type} (X : SD.D d126_4) (K : Ex → AS → Option R) := Pu.spec_MappingsOk_T4 (fun y0 => K (.exit 0) (SD.enc d126_4 ((X.1.1, (X.1.2.1, (y0, ()))), (), ()))) (fun y0 y1 => K .ret (SD.enc d126_4 ((X.1.1, (y0, (y1, ()))), (), ()))) X.1.1 X.1.2.1
def l126_4 : LEnt := ⟨d126_4, fun X K => iterL (t126_4 X K) fuel X.1.2.2.1⟩
def L126 : Lam := ((Lam.nil).add 10 l126_10).add 4 l126_4
theorem k126_10 : LOk E g126 n126 L126 (loopBody Tryz.f126 1) :=
  lok l126_10 (by kernel_rfl) fuel fun R X K => (loop_iter (σ := Int) (fun x => SD.enc d126_10 ((X.1.1, (X.1.2.1, (X.1.2.2.1, (x, ())))), (X.2.1.1, ()), ())) (t126_10 X K) (fun m x => by kernel_rfl) fuel X.1.2.2.2.1).symm
theorem k126_4 : LOk E g126 n126 L126 (loopBody Tryz.f126 0) :=
  lok l126_4 (by kernel_rfl) fuel fun R X K => (loop_iter (σ := Int) (fun x => SD.enc d126_4 ((X.1.1, (X.1.2.1, (x, ()))), (), ())) (t126_4 X K) (fun m x => by kernel_rfl) fuel X.1.2.2.1).symm
theorem o126 : FnOk Tryz.prog 126 e126 := fk n126 ((base).add o118) Tryz.func126 (Λ := L126) (cF k126_4 (cF k126_10 nF))
def e131 : GEnt := entOf [.data true TPool] [(false, .bool)] fun a => Pu.spec_PoolOk a.1
def g131 : Gam := (Gam.nil).add 118 e118
def n131 : An := { mask := fun | 5 => [1, 2, 3, 4] | _ => [], merge := fun | 1 => some 20 | 7 => some 50 | _ => none }
@[reducible] def d131_5 : SD := ⟨[B,.ptr 1 0,DB,.data false (.sl (.own (some 36864)) .bool),DI,B,B,B,B,B,B,B,B,B,B,B,B,B,B,B,B,B,B,B,B,B,B,B,B,B,B,B,B,B,B,B,B,B,B,B,B,B,B,B,B,B,B,B,B,B,B,B,B,B,B,B,B,B], [Z,some (.pair (.int .i64) (.pair (.int .i64) (.pair (.int .i64) (.sl .arg (.int .i64))))),Z,Z,Z,Z,Z,Z,Z,Z,Z,Z,Z,Z,Z,Z,Z,Z,Z,Z,Z,Z,Z,Z,Z,Z,Z,Z,Z,Z,Z,Z,Z,Z,Z,Z,Z,Z,Z,Z,Z,Z,Z,Z,Z,Z,Z,Z,Z,Z,Z,Z,Z,Z,Z,Z,Z,Z], .none⟩
def t131_5 {R : Type} (X : SD.D d131_5) (K : Ex → AS → Option R) := Pu.spec_PoolOk_T5 (fun y0 y1 => K (.exit 0) (SD.enc d131_5 ((X.1.1, (y0, (y1, ()))), (X.2.1.1, ()), ()))) (fun y0 y1 y2 => K .ret (SD.enc d131_5 ((y0, (y1, (y2, ()))), (X.2.1.1, ()), ()))) X.1.1 X.2.1.1
def l131_5 : LEnt := ⟨d131_5, fun X K => iterL (t131_5 X K) fuel (X.1.2.1, X.1.2.2.1)⟩
def L131 : Lam := (Lam.nil).add 5 l131_5
theorem k131_5 : LOk E g131 n131 L131 (loopBody Tryz.f131 0) :=
  lok l131_5 (by kernel_rfl) fuel fun R X K => (loop_iter (σ := (List Bool) × Int) (fun x => SD.enc d131_5 ((X.1.1, (x.1, (x.2, ()))), (X.2.1.1, ()), ())) (t131_5 X K) (fun m x => by kernel_rfl) fuel (X.1.2.1, X.1.2.2.1)).symm
theorem o131 : FnOk Tryz.prog 131 e131 := fk n131 ((base).add o118) Tryz.func131 (Λ := L131) (cF k131_5 nF)
def e248 : GEnt := entOf [.data false (.int .i64)] [(false, .bool)] fun a => Pu.spec_l20Size a.1
theorem o248 : FnOk Tryz.prog 248 e248 := fk { merge := fun | 1 => some 2 | _ => none } (base) Tryz.func248 (Λ := Lam.nil) nF
def e249 : GEnt := entOf [.data true TClock] [(false, (.int .i64))] fun a => Pu.spec_RingUsed a.1
theorem o249 : FnOk Tryz.prog 249 e249 := fk {} ((base).add o248) Tryz.func249 (Λ := Lam.nil) nF
def e193 : GEnt := entOf [.data true TClock] [(false, .bool)] fun a => Pu.spec_RingOk a.1
theorem o193 : FnOk Tryz.prog 193 e193 := fk { merge := fun | 1 => some 2 | _ => none } ((((base).add o118).add o248).add o249) Tryz.func193 (Λ := Lam.nil) nF
def e194 : GEnt := entOf [.data true TPool, .data false (.sl (.int .i64))] [(true, (.pair (.int .i64) (.pair (.int .i64) (.pair (.int .i64) (.sl (.own none) (.int .i64)))))), (false, .bool)] fun a => Pu.spec_GiveBuffers a.1 a.2.1
theorem o194 : FnOk Tryz.prog 194 e194 := fk { merge := fun | 3 => some 21 | _ => none, mv := [10, 24] } (((base).add o116).add o131) Tryz.func194 (Λ := Lam.nil) nF
def e127 : GEnt := entOf [.data true TTxQueue] [(false, .bool)] fun a => Pu.spec_TxOk a.1
def g127 : Gam := ((((Gam.nil).add 118 e118).add 131 e131).add 193 e193).add 194 e194
def n127 : An := { mask := fun | 6 => [1, 2, 3, 4, 5] | _ => [], merge := fun | 1 => some 24 | 9 => some 50 | 14 => some 2 | _ => none, mv := [55] }
@[reducible] def d127_6 : SD := ⟨[B,.ptr 1 0,DB,DI,.data false (.sl (.own (some 49152)) (.int .i64)),DI,B,B,B,B,B,B,B,B,B,B,B,B,B,B,B,B,B,B,B,B,B,B,B,B,B,B,B,B,B,B,B,B,B,B,B,B,B,B,B,B,B,B,B,B,B,B,B,B,B,B,B,B,B,B,B,B,B,B,B,B,B,B,B,B,B,B,B,B], [Z,some (.pair (.pair (.int .i64) (.pair (.int .i64) (.pair (.int .i64) (.int .i64)))) (.pair (.pair (.int .i64) (.pair (.int .i64) (.pair (.int .i64) (.sl .arg (.int .i64))))) (.pair (.sl .arg TSent) (.int .i64)))),Z,Z,Z,Z,Z,Z,Z,Z,Z,Z,Z,Z,Z,Z,Z,Z,Z,Z,Z,Z,Z,Z,Z,Z,Z,Z,Z,Z,Z,Z,Z,Z,Z,Z,Z,Z,Z,Z,Z,Z,Z,Z,Z,Z,Z,Z,Z,Z,Z,Z,Z,Z,Z,Z,Z,Z,Z,Z,Z,Z,Z,Z,Z,Z,Z,Z,Z,Z,Z,Z,Z,Z], .none⟩
def t127_6 {R : Type} (X : SD.D d127_6) (K : Ex → AS → Option R) := Pu.spec_TxOk_T6 (fun y0 y1 y2 => K (.exit 0) (SD.enc d127_6 ((X.1.1, (y0, (y1, (y2, ())))), (X.2.1.1, ()), ()))) (fun y0 y1 y2 y3 => K .ret (SD.enc d127_6 ((y0, (y1, (y2, (y3, ())))), (X.2.1.1, ()), ()))) X.1.1 X.2.1.1
def l127_6 : LEnt := ⟨d127_6, fun X K => iterL (t127_6 X K) fuel (X.1.2.1, X.1.2.2.1, X.1.2.2.2.1)⟩
def L127 : Lam := (Lam.nil).add 6 l127_6
theorem k127_6 : LOk E g127 n127 L127 (loopBody Tryz.f127 0) :=
  lok l127_6 (by kernel_rfl) fuel fun R X K => (loop_iter (σ := Int × (List Int) × Int) (fun x => SD.enc d127_6 ((X.1.1, (x.1, (x.2.1, (x.2.2, ())))), (X.2.1.1, ()), ())) (t127_6 X K) (fun m x => by kernel_rfl) fuel (X.1.2.1, X.1.2.2.1, X.1.2.2.2.1)).symm
theorem o127 : FnOk Tryz.prog 127 e127 := fk n127 (((((base).add o118).add o131).add o193).add o194) Tryz.func127 (Λ := L127) (cF k127_6 nF)
def e250 : GEnt := entOf [.data true TRule] [(false, .bool)] fun a => Pu.spec_RuleOk a.1
theorem o250 : FnOk Tryz.prog 250 e250 := fk { merge := fun | 1 => some 33 | 3 => some 54 | 5 => some 2 | _ => none } ((base).add o118) Tryz.func250 (Λ := Lam.nil) nF
def e195 : GEnt := entOf [.data false (.sl TRule)] [(false, .bool)] fun a => Pu.spec_RulesOk a.1
def g195 : Gam := (Gam.nil).add 250 e250
def n195 : An := { mask := fun | 2 => [0, 2, 3] | _ => [] }
@[reducible] def d195_2 : SD := ⟨[.data false (.sl .arg TRule),B,DB,DI,B,B,B,B,B,B,B,B,B,B,B,B,B,B,B], [Z,Z,Z,Z,Z,Z,Z,Z,Z,Z,Z,Z,Z,Z,Z,Z,Z,Z,Z], .none⟩
def t195_2 {R : Type} (X : SD.D d195_2) (K : Ex → AS → Option R) := Pu.spec_RulesOk_T2 (fun y0 => K (.exit 0) (SD.enc d195_2 ((X.1.1, (X.1.2.1, (y0, ()))), (), ()))) (fun y0 y1 => K .ret (SD.enc d195_2 ((X.1.1, (y0, (y1, ()))), (), ()))) X.1.1 X.1.2.1
def l195_2 : LEnt := ⟨d195_2, fun X K => iterL (t195_2 X K) fuel X.1.2.2.1⟩
def L195 : Lam := (Lam.nil).add 2 l195_2
theorem k195_2 : LOk E g195 n195 L195 (loopBody Tryz.f195 0) :=
  lok l195_2 (by kernel_rfl) fuel fun R X K => (loop_iter (σ := Int) (fun x => SD.enc d195_2 ((X.1.1, (X.1.2.1, (x, ()))), (), ())) (t195_2 X K) (fun m x => by kernel_rfl) fuel X.1.2.2.1).symm
theorem o195 : FnOk Tryz.prog 195 e195 := fk n195 ((base).add o250) Tryz.func195 (Λ := L195) (cF k195_2 nF)
def e277 : GEnt := entOf [.data true TFlow] [(false, (.int .i64))] fun a => Pu.spec_HomeSlot a.1
def g277 : Gam := Gam.nil
def n277 : An := { mask := fun | 4 => [3, 4, 5] | _ => [] }
@[reducible] def d277_4 : SD := ⟨[B,B,B,DI,.data false (.sl (.own (some 49152)) (.int .i64)),DI,B,B,B,B,B,B,B,B,B,B,B,B,B,B,B,B,B,B,B,B,B,B,B,B,B,B], [Z,Z,Z,Z,Z,Z,Z,Z,Z,Z,Z,Z,Z,Z,Z,Z,Z,Z,Z,Z,Z,Z,Z,Z,Z,Z,Z,Z,Z,Z,Z,Z], .none⟩
def t277_4 {R : Type} (X : SD.D d277_4) (K : Ex → AS → Option R) := Pu.spec_HomeSlot_T4 (fun y0 y1 => K (.exit 0) (SD.enc d277_4 ((y0, (X.1.2.1, (y1, ()))), (), ()))) X.1.2.1
def l277_4 : LEnt := ⟨d277_4, fun X K => iterL (t277_4 X K) fuel (X.1.1, X.1.2.2.1)⟩
def L277 : Lam := (Lam.nil).add 4 l277_4
theorem k277_4 : LOk E g277 n277 L277 (loopBody Tryz.f277 0) :=
  lok l277_4 (by kernel_rfl) fuel fun R X K => (loop_iter (σ := Int × Int) (fun x => SD.enc d277_4 ((x.1, (X.1.2.1, (x.2, ()))), (), ())) (t277_4 X K) (fun m x => by kernel_rfl) fuel (X.1.1, X.1.2.2.1)).symm
theorem o277 : FnOk Tryz.prog 277 e277 := fk n277 (base) Tryz.func277 (Λ := L277) (cF k277_4 nF)
def e251 : GEnt := entOf [.data true (.sl TSlot), .data true TFlow] [(false, (.int .i64))] fun a => Pu.spec_l13Find a.1 a.2.1
def g251 : Gam := (Gam.nil).add 277 e277
def n251 : An := { mask := fun | 2 => [2, 3, 4, 5] | _ => [], merge := fun | 7 => some 39 | _ => none }
@[reducible] def d251_2 : SD := ⟨[B,B,.ptr 2 0,.ptr 3 0,DI,DI,B,B,B,B,B,B,B,B,B,B,B,B,B,B,B,B,B,B,B,B,B,B,B,B,B,B,B,B,B,B,B,B,B,B,B], [Z,Z,some (.sl .arg TSlot),some (.pair (.int .i64) (.pair (.int .i64) (.pair (.int .i64) (.pair (.int .i64) (.int .i64))))),Z,Z,Z,Z,Z,Z,Z,Z,Z,Z,Z,Z,Z,Z,Z,Z,Z,Z,Z,Z,Z,Z,Z,Z,Z,Z,Z,Z,Z,Z,Z,Z,Z,Z,Z,Z,Z], .none⟩
def t251_2 {R : Type} (X : SD.D d251_2) (K : Ex → AS → Option R) := Pu.spec_l13Find_T2 (fun y0 => K (.exit 0) (SD.enc d251_2 ((X.1.1, (y0, ())), (X.2.1.1, (X.2.1.2.1, ())), ()))) (fun y0 y1 => K .ret (SD.enc d251_2 ((y0, (y1, ())), (X.2.1.1, (X.2.1.2.1, ())), ()))) X.1.1 X.2.1.1 X.2.1.2.1
def l251_2 : LEnt := ⟨d251_2, fun X K => iterL (t251_2 X K) fuel X.1.2.1⟩
def L251 : Lam := (Lam.nil).add 2 l251_2
theorem k251_2 : LOk E g251 n251 L251 (loopBody Tryz.f251 0) :=
  lok l251_2 (by kernel_rfl) fuel fun R X K => (loop_iter (σ := Int) (fun x => SD.enc d251_2 ((X.1.1, (x, ())), (X.2.1.1, (X.2.1.2.1, ())), ())) (t251_2 X K) (fun m x => by kernel_rfl) fuel X.1.2.1).symm
theorem o251 : FnOk Tryz.prog 251 e251 := fk n251 ((base).add o277) Tryz.func251 (Λ := L251) (cF k251_2 nF)
def e196 : GEnt := entOf [.data true (.sl TSlot)] [(false, .bool)] fun a => Pu.spec_TableOk a.1
def g196 : Gam := ((Gam.nil).add 118 e118).add 251 e251
def n196 : An := { mask := fun | 4 => [1, 2, 3] | _ => [], merge := fun | 7 => some 30 | 10 => some 42 | _ => none }
@[reducible] def d196_4 : SD := ⟨[B,.ptr 1 0,DB,DI,B,B,B,B,B,B,B,B,B,B,B,B,B,B,B,B,B,B,B,B,B,B,B,B,B,B,B,B,B,B,B,B,B,B,B,B,B,B,B,B,B,B,B,B,B], [Z,some (.sl .arg TSlot),Z,Z,Z,Z,Z,Z,Z,Z,Z,Z,Z,Z,Z,Z,Z,Z,Z,Z,Z,Z,Z,Z,Z,Z,Z,Z,Z,Z,Z,Z,Z,Z,Z,Z,Z,Z,Z,Z,Z,Z,Z,Z,Z,Z,Z,Z,Z], .none⟩
def t196_4 {R : Type} (X : SD.D d196_4) (K : Ex → AS → Option R) := Pu.spec_TableOk_T4 (fun y0 => K (.exit 0) (SD.enc d196_4 ((X.1.1, (y0, ())), (X.2.1.1, ()), ()))) (fun y0 y1 => K .ret (SD.enc d196_4 ((y0, (y1, ())), (X.2.1.1, ()), ()))) X.1.1 X.2.1.1
def l196_4 : LEnt := ⟨d196_4, fun X K => iterL (t196_4 X K) fuel X.1.2.1⟩
def L196 : Lam := (Lam.nil).add 4 l196_4
theorem k196_4 : LOk E g196 n196 L196 (loopBody Tryz.f196 0) :=
  lok l196_4 (by kernel_rfl) fuel fun R X K => (loop_iter (σ := Int) (fun x => SD.enc d196_4 ((X.1.1, (x, ())), (X.2.1.1, ()), ())) (t196_4 X K) (fun m x => by kernel_rfl) fuel X.1.2.1).symm
theorem o196 : FnOk Tryz.prog 196 e196 := fk n196 (((base).add o118).add o251) Tryz.func196 (Λ := L196) (cF k196_4 nF)
def e252 : GEnt := entOf [.data false (.int .i64)] [(false, .bool)] fun a => Pu.spec_l12Size a.1
theorem o252 : FnOk Tryz.prog 252 e252 := fk { merge := fun | 1 => some 2 | _ => none } (base) Tryz.func252 (Λ := Lam.nil) nF
def e197 : GEnt := entOf [.data true TSpread, .data false (.int .i64)] [(false, .bool)] fun a => Pu.spec_SpreadOk a.1 a.2.1
def g197 : Gam := ((Gam.nil).add 118 e118).add 252 e252
def n197 : An := { mask := fun | 4 => [1, 2, 4, 5] | _ => [], merge := fun | 1 => some 21 | _ => none }
@[reducible] def d197_4 : SD := ⟨[B,DI,.ptr 2 0,B,DB,DI,B,B,B,B,B,B,B,B,B,B,B,B,B,B,B,B,B,B,B,B,B,B,B,B,B,B,B,B,B,B,B,B], [Z,Z,some (.pair .str (.sl .arg (.int .i64))),Z,Z,Z,Z,Z,Z,Z,Z,Z,Z,Z,Z,Z,Z,Z,Z,Z,Z,Z,Z,Z,Z,Z,Z,Z,Z,Z,Z,Z,Z,Z,Z,Z,Z,Z], .none⟩
def t197_4 {R : Type} (X : SD.D d197_4) (K : Ex → AS → Option R) := Pu.spec_SpreadOk_T4 (fun y0 => K (.exit 0) (SD.enc d197_4 ((X.1.1, (X.1.2.1, (y0, ()))), (X.2.1.1, ()), ()))) (fun y0 y1 => K .ret (SD.enc d197_4 ((X.1.1, (y0, (y1, ()))), (X.2.1.1, ()), ()))) X.1.1 X.1.2.1 X.2.1.1
def l197_4 : LEnt := ⟨d197_4, fun X K => iterL (t197_4 X K) fuel X.1.2.2.1⟩
def L197 : Lam := (Lam.nil).add 4 l197_4
theorem k197_4 : LOk E g197 n197 L197 (loopBody Tryz.f197 0) :=
  lok l197_4 (by kernel_rfl) fuel fun R X K => (loop_iter (σ := Int) (fun x => SD.enc d197_4 ((X.1.1, (X.1.2.1, (x, ()))), (X.2.1.1, ()), ())) (t197_4 X K) (fun m x => by kernel_rfl) fuel X.1.2.2.1).symm
theorem o197 : FnOk Tryz.prog 197 e197 := fk n197 (((base).add o118).add o252) Tryz.func197 (Λ := L197) (cF k197_4 nF)
def e129 : GEnt := entOf [.data true TSteering, .data false (.int .i64)] [(false, .bool)] fun a => Pu.spec_SteeringOk a.1 a.2.1
def g129 : Gam := (((Gam.nil).add 195 e195).add 196 e196).add 197 e197
def n129 : An := { mask := fun | 4 => [1, 2, 4, 5] | 9 => [1, 2, 4, 6] | _ => [], merge := fun | 1 => some 23 | _ => none }
@[reducible] def d129_4 : SD := ⟨[B,DI,.ptr 2 0,B,DB,DI,B,B,B,B,B,B,B,B,B,B,B,B,B,B,B,B,B,B,B,B,B,B,B,B,B,B,B,B,B,B,B,B,B,B,B,B,B,B,B,B,B,B,B,B,B,B,B,B,B,B], [Z,Z,some (.pair (.sl .arg TRule) (.pair (.sl .arg TSlot) (.pair .str (.sl .arg (.int .i64))))),Z,Z,Z,Z,Z,Z,Z,Z,Z,Z,Z,Z,Z,Z,Z,Z,Z,Z,Z,Z,Z,Z,Z,Z,Z,Z,Z,Z,Z,Z,Z,Z,Z,Z,Z,Z,Z,Z,Z,Z,Z,Z,Z,Z,Z,Z,Z,Z,Z,Z,Z,Z,Z], .none⟩
def t129_4 {R : Type} (X : SD.D d129_4) (K : Ex → AS → Option R) := Pu.spec_SteeringOk_T4 (fun y0 => K (.exit 0) (SD.enc d129_4 ((X.1.1, (X.1.2.1, (y0, ()))), (X.2.1.1, ()), ()))) (fun y0 y1 => K .ret (SD.enc d129_4 ((X.1.1, (y0, (y1, ()))), (X.2.1.1, ()), ()))) X.1.1 X.1.2.1 X.2.1.1
def l129_4 : LEnt := ⟨d129_4, fun X K => iterL (t129_4 X K) fuel X.1.2.2.1⟩
@[reducible] def d129_9 : SD := ⟨[B,DI,.ptr 2 0,B,DB,B,DI,B,B,B,B,B,B,B,B,B,B,B,B,B,B,B,B,B,B,B,B,B,B,B,B,B,B,B,B,B,B,B,B,B,B,B,B,B,B,B,B,B,B,B,B,B,B,B,B,B], [Z,Z,some (.pair (.sl .arg TRule) (.pair (.sl .arg TSlot) (.pair .str (.sl .arg (.int .i64))))),Z,Z,Z,Z,Z,Z,Z,Z,Z,Z,Z,Z,Z,Z,Z,Z,Z,Z,Z,Z,Z,Z,Z,Z,Z,Z,Z,Z,Z,Z,Z,Z,Z,Z,Z,Z,Z,Z,Z,Z,Z,Z,Z,Z,Z,Z,Z,Z,Z,Z,Z,Z,Z], .none⟩
def t129_9 {R : Type} (X : SD.D d129_9) (K : Ex → AS → Option R) := Pu.spec_SteeringOk_T9 (fun y0 => K (.exit 2) (SD.enc d129_9 ((X.1.1, (X.1.2.1, (y0, ()))), (X.2.1.1, ()), ()))) (fun y0 y1 => K .ret (SD.enc d129_9 ((X.1.1, (y0, (y1, ()))), (X.2.1.1, ()), ()))) X.1.1 X.1.2.1 X.2.1.1
def l129_9 : LEnt := ⟨d129_9, fun X K => iterL (t129_9 X K) fuel X.1.2.2.1⟩
def L129 : Lam := ((Lam.nil).add 4 l129_4).add 9 l129_9
theorem k129_4 : LOk E g129 n129 L129 (loopBody Tryz.f129 0) :=
  lok l129_4 (by kernel_rfl) fuel fun R X K => (loop_iter (σ := Int) (fun x => SD.enc d129_4 ((X.1.1, (X.1.2.1, (x, ()))), (X.2.1.1, ()), ())) (t129_4 X K) (fun m x => by kernel_rfl) fuel X.1.2.2.1).symm
theorem k129_9 : LOk E g129 n129 L129 (loopBody Tryz.f129 1) :=
  lok l129_9 (by kernel_rfl) fuel fun R X K => (loop_iter (σ := Int) (fun x => SD.enc d129_9 ((X.1.1, (X.1.2.1, (x, ()))), (X.2.1.1, ()), ())) (t129_9 X K) (fun m x => by kernel_rfl) fuel X.1.2.2.1).symm
theorem o129 : FnOk Tryz.prog 129 e129 := fk n129 ((((base).add o195).add o196).add o197) Tryz.func129 (Λ := L129) (cF k129_4 (cF k129_9 nF))
def e198 : GEnt := entOf [.data true TBucket] [(false, .bool)] fun a => Pu.spec_QueueOk a.1
theorem o198 : FnOk Tryz.prog 198 e198 := fk { merge := fun | 1 => some 2 | _ => none } (((base).add o118).add o248) Tryz.func198 (Λ := Lam.nil) nF
def e253 : GEnt := entOf [.data true TSegment] [(false, .bool)] fun a => Pu.spec_SegmentOk a.1
theorem o253 : FnOk Tryz.prog 253 e253 := fk { merge := fun | 1 => some 18 | 4 => some 2 | 5 => some 2 | _ => none } ((base).add o118) Tryz.func253 (Λ := Lam.nil) nF
def e199 : GEnt := entOf [.data true TPacket] [(false, .bool)] fun a => Pu.spec_SuperOk a.1
theorem o199 : FnOk Tryz.prog 199 e199 := fk { merge := fun | 1 => some 55 | 3 => some 3 | 4 => some 2 | _ => none } (((base).add o118).add o253) Tryz.func199 (Λ := Lam.nil) nF
def e130 : GEnt := entOf [.data true TRxQueue] [(false, .bool)] fun a => Pu.spec_RxOk a.1
theorem o130 : FnOk Tryz.prog 130 e130 := fk { merge := fun | 1 => some 42 | 5 => some 2 | _ => none } (((((base).add o118).add o193).add o198).add o199) Tryz.func130 (Λ := Lam.nil) nF
def e200 : GEnt := entOf [.data true TVector] [(false, .bool)] fun a => Pu.spec_l28Due a.1
theorem o200 : FnOk Tryz.prog 200 e200 := fk { merge := fun | 1 => some 2 | _ => none } (base) Tryz.func200 (Λ := Lam.nil) nF
def e132 : GEnt := entOf [.data true TVector] [(false, .bool)] fun a => Pu.spec_VectorOk a.1
theorem o132 : FnOk Tryz.prog 132 e132 := fk { merge := fun | 1 => some 24 | 3 => some 2 | _ => none } (((base).add o118).add o200) Tryz.func132 (Λ := Lam.nil) nF
def e61 : GEnt := entOf [.data true THost] [(false, .bool)] fun a => Pu.spec_HostOk a.1
def g61 : Gam := (((((((((Gam.nil).add 118 e118).add 125 e125).add 126 e126).add 127 e127).add 128 e128).add 129 e129).add 130 e130).add 131 e131).add 132 e132
def n61 : An := { mask := fun | 5 => [1, 2, 3, 4] | 11 => [2, 5, 6] | _ => [], merge := fun | 2 => some 64 | 7 => some 94 | _ => none }
@[reducible] def d61_5 : SD := ⟨[B,.ptr 1 0,DB,DI,DI,B,B,B,B,B,B,B,B,B,B,B,B,B,B,B,B,B,B,B,B,B,B,B,B,B,B,B,B,B,B,B,B,B,B,B,B,B,B,B,B,B,B,B,B,B,B,B,B,B,B,B,B,B,B,B,B,B,B,B,B,B,B,B,B,B,B,B,B,B,B,B,B,B,B,B,B,B,B,B,B,B,B,B,B,B,B,B,B,B,B,B,B,B,B,B,B,B,B,B,B,B,B,B,B,B,B,B,B,B,B,B,B,B,B,B,B,B,B], [Z,some (.pair (.sl .arg .str) (.pair (.sl .arg TMapping) (.pair (.pair (.pair (.int .i64) (.pair (.int .i64) (.pair (.int .i64) (.int .i64)))) (.pair (.pair (.int .i64) (.pair (.int .i64) (.pair (.int .i64) (.sl .arg (.int .i64))))) (.pair (.sl .arg TSent) (.int .i64)))) (.pair (.sl .arg TRxQueue) (.pair (.sl .arg TPool) (.pair (.sl .arg TVector) (.pair (.sl .arg .bool) (.pair (.pair (.int .i64) (.pair .bool (.sl .arg (.int .i64)))) (.pair (.pair (.sl .arg TRule) (.pair (.sl .arg TSlot) (.pair .str (.sl .arg (.int .i64))))) (.pair (.sl .arg TStream) (.pair .bool (.pair (.sl .arg .str) (.pair (.sl .arg (.int .i64)) (.pair (.sl .arg (.int .i64)) (.pair (.int .i64) (.pair (.int .i64) (.pair (.int .i64) (.pair (.int .i64) (.int .i64))))))))))))))))))),Z,Z,Z,Z,Z,Z,Z,Z,Z,Z,Z,Z,Z,Z,Z,Z,Z,Z,Z,Z,Z,Z,Z,Z,Z,Z,Z,Z,Z,Z,Z,Z,Z,Z,Z,Z,Z,Z,Z,Z,Z,Z,Z,Z,Z,Z,Z,Z,Z,Z,Z,Z,Z,Z,Z,Z,Z,Z,Z,Z,Z,Z,Z,Z,Z,Z,Z,Z,Z,Z,Z,Z,Z,Z,Z,Z,Z,Z,Z,Z,Z,Z,Z,Z,Z,Z,Z,Z,Z,Z,Z,Z,Z,Z,Z,Z,Z,Z,Z,Z,Z,Z,Z,Z,Z,Z,Z,Z,Z,Z,Z,Z,Z,Z,Z,Z,Z,Z,Z,Z,Z], .none⟩
def t61_5 {R : Type} (X : SD.D d61_5) (K : Ex → AS → Option R) := Pu.spec_HostOk_T5 (fun y0 => K (.exit 0) (SD.enc d61_5 ((X.1.1, (X.1.2.1, (y0, ()))), (X.2.1.1, ()), ()))) (fun y0 y1 => K .ret (SD.enc d61_5 ((y0, (X.1.2.1, (y1, ()))), (X.2.1.1, ()), ()))) X.1.1 X.1.2.1 X.2.1.1
def l61_5 : LEnt := ⟨d61_5, fun X K => iterL (t61_5 X K) fuel X.1.2.2.1⟩
@[reducible] def d61_11 : SD := ⟨[B,B,DB,B,B,.data false (.sl (.own (some 61440)) (.int .i64)),DI,B,B,B,B,B,B,B,B,B,B,B,B,B,B,B,B,B,B,B,B,B,B,B,B,B,B,B,B,B,B,B,B,B,B,B,B,B,B,B,B,B,B,B,B,B,B,B,B,B,B,B,B,B,B,B,B,B,B,B,B,B,B,B,B,B,B,B,B,B,B,B,B,B,B,B,B,B,B,B,B,B,B,B,B,B,B,B,B,B,B,B,B,B,B,B,B,B,B,B,B,B,B,B,B,B,B,B,B,B,B,B,B,B,B,B,B], [Z,Z,Z,Z,Z,Z,Z,Z,Z,Z,Z,Z,Z,Z,Z,Z,Z,Z,Z,Z,Z,Z,Z,Z,Z,Z,Z,Z,Z,Z,Z,Z,Z,Z,Z,Z,Z,Z,Z,Z,Z,Z,Z,Z,Z,Z,Z,Z,Z,Z,Z,Z,Z,Z,Z,Z,Z,Z,Z,Z,Z,Z,Z,Z,Z,Z,Z,Z,Z,Z,Z,Z,Z,Z,Z,Z,Z,Z,Z,Z,Z,Z,Z,Z,Z,Z,Z,Z,Z,Z,Z,Z,Z,Z,Z,Z,Z,Z,Z,Z,Z,Z,Z,Z,Z,Z,Z,Z,Z,Z,Z,Z,Z,Z,Z,Z,Z,Z,Z,Z,Z,Z,Z], .none⟩
def t61_11 {R : Type} (X : SD.D d61_11) (K : Ex → AS → Option R) := Pu.spec_HostOk_T11 (fun y0 => K (.exit 2) (SD.enc d61_11 ((X.1.1, (X.1.2.1, (y0, ()))), (), ()))) (fun y0 y1 => K .ret (SD.enc d61_11 ((y0, (X.1.2.1, (y1, ()))), (), ()))) X.1.1 X.1.2.1
def l61_11 : LEnt := ⟨d61_11, fun X K => iterL (t61_11 X K) fuel X.1.2.2.1⟩
def L61 : Lam := ((Lam.nil).add 5 l61_5).add 11 l61_11
theorem k61_5 : LOk E g61 n61 L61 (loopBody Tryz.f61 0) :=
  lok l61_5 (by kernel_rfl) fuel fun R X K => (loop_iter (σ := Int) (fun x => SD.enc d61_5 ((X.1.1, (X.1.2.1, (x, ()))), (X.2.1.1, ()), ())) (t61_5 X K) (fun m x => by kernel_rfl) fuel X.1.2.2.1).symm
theorem k61_11 : LOk E g61 n61 L61 (loopBody Tryz.f61 1) :=
  lok l61_11 (by kernel_rfl) fuel fun R X K => (loop_iter (σ := Int) (fun x => SD.enc d61_11 ((X.1.1, (X.1.2.1, (x, ()))), (), ())) (t61_11 X K) (fun m x => by kernel_rfl) fuel X.1.2.2.1).symm
theorem o61 : FnOk Tryz.prog 61 e61 := fk n61 ((((((((((base).add o118).add o125).add o126).add o127).add o128).add o129).add o130).add o131).add o132) Tryz.func61 (Λ := L61) (cF k61_5 (cF k61_11 nF))
def e133 : GEnt := entOf [.data false (.sl (.int .i64)), .data false (.sl (.int .i64))] [(false, .bool)] fun a => Pu.spec_l39Ints a.1 a.2.1
def g133 : Gam := Gam.nil
def n133 : An := { mask := fun | 4 => [0, 1, 4, 5] | _ => [] }
@[reducible] def d133_4 : SD := ⟨[.data false (.sl .arg (.int .i64)),.data false (.sl .arg (.int .i64)),B,B,DB,DI,B,B,B,B,B,B,B,B,B,B,B,B,B,B,B,B,B,B,B,B], [Z,Z,Z,Z,Z,Z,Z,Z,Z,Z,Z,Z,Z,Z,Z,Z,Z,Z,Z,Z,Z,Z,Z,Z,Z,Z], .none⟩
def t133_4 {R : Type} (X : SD.D d133_4) (K : Ex → AS → Option R) := Pu.spec_l39Ints_T4 (fun y0 => K (.exit 0) (SD.enc d133_4 ((X.1.1, (X.1.2.1, (X.1.2.2.1, (y0, ())))), (), ()))) (fun y0 y1 => K .ret (SD.enc d133_4 ((X.1.1, (X.1.2.1, (y0, (y1, ())))), (), ()))) X.1.1 X.1.2.1 X.1.2.2.1
def l133_4 : LEnt := ⟨d133_4, fun X K => iterL (t133_4 X K) fuel X.1.2.2.2.1⟩
def L133 : Lam := (Lam.nil).add 4 l133_4
theorem k133_4 : LOk E g133 n133 L133 (loopBody Tryz.f133 0) :=
  lok l133_4 (by kernel_rfl) fuel fun R X K => (loop_iter (σ := Int) (fun x => SD.enc d133_4 ((X.1.1, (X.1.2.1, (X.1.2.2.1, (x, ())))), (), ())) (t133_4 X K) (fun m x => by kernel_rfl) fuel X.1.2.2.2.1).symm
theorem o133 : FnOk Tryz.prog 133 e133 := fk n133 (base) Tryz.func133 (Λ := L133) (cF k133_4 nF)
def e62 : GEnt := entOf [.data true TFilter, .data true TFilter] [(false, .bool)] fun a => Pu.spec_l42SameFilter a.1 a.2.1
theorem o62 : FnOk Tryz.prog 62 e62 := fk { merge := fun | 1 => some 4 | _ => none } ((base).add o133) Tryz.func62 (Λ := Lam.nil) nF
def e19 : GEnt := entOf [.data true TCard] [(false, .bool)] fun a => Pu.spec_CardOk a.1
def g19 : Gam := ((((((Gam.nil).add 57 e57).add 58 e58).add 59 e59).add 60 e60).add 61 e61).add 62 e62
def n19 : An := { mask := fun | 6 => [1, 2, 5, 6] | _ => [], merge := fun | 3 => some 50 | 8 => some 99 | _ => none }
@[reducible] def d19_6 : SD := ⟨[B,.ptr 1 0,DB,B,B,DI,DI,B,B,B,B,B,B,B,B,B,B,B,B,B,B,B,B,B,B,B,B,B,B,B,B,B,B,B,B,B,B,B,B,B,B,B,B,B,B,B,B,B,B,B,B,B,B,B,B,B,B,B,B,B,B,B,B,B,B,B,B,B,B,B,B,B,B,B,B,B,B,B,B,B,B,B,B,B,B,B,B,B,B,B,B,B,B,B,B,B,B,B,B,B], [Z,some (.pair (.sl .arg THost) (.pair (.sl .arg TVirtualFunction) (.pair (.sl .arg TMailbox) (.pair (.sl .arg .str) (.pair (.pair (.int .i64) (.pair (.int .i64) (.pair (.int .i64) (.int .i64)))) (.pair (.sl .arg (.int .i64)) (.sl .arg .str))))))),Z,Z,Z,Z,Z,Z,Z,Z,Z,Z,Z,Z,Z,Z,Z,Z,Z,Z,Z,Z,Z,Z,Z,Z,Z,Z,Z,Z,Z,Z,Z,Z,Z,Z,Z,Z,Z,Z,Z,Z,Z,Z,Z,Z,Z,Z,Z,Z,Z,Z,Z,Z,Z,Z,Z,Z,Z,Z,Z,Z,Z,Z,Z,Z,Z,Z,Z,Z,Z,Z,Z,Z,Z,Z,Z,Z,Z,Z,Z,Z,Z,Z,Z,Z,Z,Z,Z,Z,Z,Z,Z,Z,Z,Z,Z,Z,Z,Z], .none⟩
def t19_6 {R : Type} (X : SD.D d19_6) (K : Ex → AS → Option R) := Pu.spec_CardOk_T6 (fun y0 => K (.exit 0) (SD.enc d19_6 ((X.1.1, (X.1.2.1, (y0, ()))), (X.2.1.1, ()), ()))) (fun y0 y1 => K .ret (SD.enc d19_6 ((y0, (X.1.2.1, (y1, ()))), (X.2.1.1, ()), ()))) X.1.1 X.1.2.1 X.2.1.1
def l19_6 : LEnt := ⟨d19_6, fun X K => iterL (t19_6 X K) fuel X.1.2.2.1⟩
def L19 : Lam := (Lam.nil).add 6 l19_6
theorem k19_6 : LOk E g19 n19 L19 (loopBody Tryz.f19 0) :=
  lok l19_6 (by kernel_rfl) fuel fun R X K => (loop_iter (σ := Int) (fun x => SD.enc d19_6 ((X.1.1, (X.1.2.1, (x, ()))), (X.2.1.1, ()), ())) (t19_6 X K) (fun m x => by kernel_rfl) fuel X.1.2.2.1).symm
theorem o19 : FnOk Tryz.prog 19 e19 := fk n19 (((((((base).add o57).add o58).add o59).add o60).add o61).add o62) Tryz.func19 (Λ := L19) (cF k19_6 nF)
def e201 : GEnt := entOf [.data true TFilter, .data false (.int .i64)] [(true, (.pair (.int .i64) (.pair .bool (.sl (.own none) (.int .i64))))), (false, .bool)] fun a => Pu.spec_AddVlan a.1 a.2.1
def g201 : Gam := ((Gam.nil).add 21 e21).add 128 e128
def n201 : An := { mask := fun | 3 => [1, 2, 4, 6, 7] | _ => [], merge := fun | 3 => some 23 | 6 => some 48 | _ => none, mv := [51], sb := fun | 40 => some 6 | _ => none }
@[reducible] def d201_3 : SD := ⟨[B,DI,.ptr 2 0,B,.ptr 4 0,B,.ptr 6 0,DI,B,B,B,B,B,B,B,B,B,B,B,B,B,B,B,B,B,B,B,B,B,B,B,B,B,B,B,B,B,B,B,B,B,B,B,B,B,B,B,B,B,B,B,B], [Z,Z,some (.pair (.int .i64) (.pair .bool (.sl .arg (.int .i64)))),Z,some (.pair (.int .i64) (.pair .bool (.sl (.own (some 49159)) (.int .i64)))),Z,some (.pair (.int .i64) (.pair .bool (.sl (.own (some 73735)) (.int .i64)))),Z,Z,Z,Z,Z,Z,Z,Z,Z,Z,Z,Z,Z,Z,Z,Z,Z,Z,Z,Z,Z,Z,Z,Z,Z,Z,Z,Z,Z,Z,Z,Z,Z,Z,Z,Z,Z,Z,Z,Z,Z,Z,Z,Z,Z], .none⟩
def t201_3 {R : Type} (X : SD.D d201_3) (K : Ex → AS → Option R) := Pu.spec_AddVlan_T3 (fun y0 => K (.exit 0) (SD.enc d201_3 ((X.1.1, (y0, ())), (X.2.1.1, (X.2.1.2.1, (X.2.1.2.2.1, ()))), ()))) X.1.1 X.2.1.1 X.2.1.2.1 X.2.1.2.2.1
def l201_3 : LEnt := ⟨d201_3, fun X K => iterL (t201_3 X K) fuel X.1.2.1⟩
def L201 : Lam := (Lam.nil).add 3 l201_3
theorem k201_3 : LOk E g201 n201 L201 (loopBody Tryz.f201 0) :=
  lok l201_3 (by kernel_rfl) fuel fun R X K => (loop_iter (σ := Int) (fun x => SD.enc d201_3 ((X.1.1, (x, ())), (X.2.1.1, (X.2.1.2.1, (X.2.1.2.2.1, ()))), ())) (t201_3 X K) (fun m x => by kernel_rfl) fuel X.1.2.1).symm
theorem o201 : FnOk Tryz.prog 201 e201 := fk n201 (((base).add o21).add o128) Tryz.func201 (Λ := L201) (cF k201_3 nF)
def e202 : GEnt := entOf [.data true TFilter, .data false (.int .i64)] [(true, (.pair (.int .i64) (.pair .bool (.sl (.own none) (.int .i64))))), (false, .bool)] fun a => Pu.spec_DropVlan a.1 a.2.1
def g202 : Gam := (((Gam.nil).add 21 e21).add 128 e128).add 190 e190
def n202 : An := { mask := fun | 6 => [1, 2, 4, 6, 7] | _ => [], merge := fun | 2 => some 19 | _ => none, mv := [20, 38, 47], mb := fun | 38 => some 6 | _ => none, sb := fun | 46 => some 6 | _ => none }
@[reducible] def d202_6 : SD := ⟨[B,DI,.ptr 2 0,B,.ptr 4 0,B,.ptr 6 0,DI,B,B,B,B,B,B,B,B,B,B,B,B,B,B,B,B,B,B,B,B,B,B,B,B,B,B,B,B,B,B,B,B,B,B,B,B,B,B,B,B], [Z,Z,some (.pair (.int .i64) (.pair .bool (.sl .arg (.int .i64)))),Z,some (.pair (.int .i64) (.pair .bool (.sl (.own (some 49159)) (.int .i64)))),Z,some (.pair (.int .i64) (.pair .bool (.sl (.own (some 73735)) (.int .i64)))),Z,Z,Z,Z,Z,Z,Z,Z,Z,Z,Z,Z,Z,Z,Z,Z,Z,Z,Z,Z,Z,Z,Z,Z,Z,Z,Z,Z,Z,Z,Z,Z,Z,Z,Z,Z,Z,Z,Z,Z,Z], .none⟩
def t202_6 {R : Type} (X : SD.D d202_6) (K : Ex → AS → Option R) := Pu.spec_DropVlan_T6 (fun y0 y1 => K (.exit 0) (SD.enc d202_6 ((X.1.1, (y0, ())), (X.2.1.1, (X.2.1.2.1, (y1, ()))), ()))) X.1.1 X.2.1.1 X.2.1.2.1
def l202_6 : LEnt := ⟨d202_6, fun X K => iterL (t202_6 X K) fuel (X.1.2.1, X.2.1.2.2.1)⟩
def L202 : Lam := (Lam.nil).add 6 l202_6
theorem k202_6 : LOk E g202 n202 L202 (loopBody Tryz.f202 0) :=
  lok l202_6 (by kernel_rfl) fuel fun R X K => (loop_iter (σ := Int × Pu.Filter) (fun x => SD.enc d202_6 ((X.1.1, (x.1, ())), (X.2.1.1, (X.2.1.2.1, (x.2, ()))), ())) (t202_6 X K) (fun m x => by kernel_rfl) fuel (X.1.2.1, X.2.1.2.2.1)).symm
theorem o202 : FnOk Tryz.prog 202 e202 := fk n202 ((((base).add o21).add o128).add o190) Tryz.func202 (Λ := L202) (cF k202_6 nF)
def e134 : GEnt := entOf [.data true TFilter, .data true TBucket] [(true, (.pair (.int .i64) (.pair .bool (.sl (.own none) (.int .i64))))), (false, (.int .i64))] fun a => Pu.spec_l35Perform a.1 a.2.1
theorem o134 : FnOk Tryz.prog 134 e134 := fk { mv := [21, 30, 39, 46], mb := fun | 39 => some 6 | _ => none, sb := fun | 4 => some 4 | _ => none } (((((base).add o21).add o128).add o201).add o202) Tryz.func134 (Λ := Lam.nil) nF
def e63 : GEnt := entOf [.data true TMailbox, .data true TBucket] [(true, (.pair (.pair (.int .i64) (.pair .bool (.sl (.own none) (.int .i64)))) (.pair (.int .i64) (.pair (.int .i64) (.int .i64))))), (false, (.int .i64))] fun a => Pu.spec_HandleMessage a.1 a.2.1
theorem o63 : FnOk Tryz.prog 63 e63 := fk { merge := fun | 6 => some 33 | _ => none, mv := [12, 18, 34, 35, 51], mb := fun | 18 => some 6 | 51 => some 6 | _ => none, sb := fun | 4 => some 4 | _ => none, fm := [53] } ((((base).add o56).add o119).add o134) Tryz.func63 (Λ := Lam.nil) nF
def e20 : GEnt := entOf [.data false (.sl TMailbox), .data false (.int .i64), .data true TBucket] [(false, (.sl (.own none) TMailbox)), (false, (.int .i64))] fun a => Pu.spec_l42Command a.1 a.2.1 a.2.2.1
def g20 : Gam := (((Gam.nil).add 56 e56).add 57 e57).add 63 e63
def n20 : An := { mask := fun | 3 => [0, 1, 5, 8, 9] | _ => [], mv := [21, 29, 36, 40, 48, 78], sb := fun | 10 => some 10 | _ => none }
@[reducible] def d20_3 : SD := ⟨[.data false (.sl .arg TMailbox),DI,B,B,B,.ptr 5 0,B,B,.data false (.sl (.own (some 98304)) TMailbox),DI,B,B,B,B,B,B,B,B,B,B,B,B,B,B,B,B,B,B,B,B,B,B,B,B,B,B,B,B,B,B,B,B,B,B,B,B,B,B,B,B,B,B,B,B,B,B,B,B,B,B,B,B,B,B,B,B,B,B,B,B,B,B,B,B,B,B,B,B,B], [Z,Z,Z,Z,Z,some (.pair (.int .i64) (.pair (.int .i64) (.int .i64))),Z,Z,Z,Z,Z,Z,Z,Z,Z,Z,Z,Z,Z,Z,Z,Z,Z,Z,Z,Z,Z,Z,Z,Z,Z,Z,Z,Z,Z,Z,Z,Z,Z,Z,Z,Z,Z,Z,Z,Z,Z,Z,Z,Z,Z,Z,Z,Z,Z,Z,Z,Z,Z,Z,Z,Z,Z,Z,Z,Z,Z,Z,Z,Z,Z,Z,Z,Z,Z,Z,Z,Z,Z], .none⟩
def t20_3 {R : Type} (X : SD.D d20_3) (K : Ex → AS → Option R) := Pu.spec_l42Command_T3 (fun y0 y1 => K (.exit 0) (SD.enc d20_3 ((X.1.1, (X.1.2.1, (y0, (y1, ())))), (X.2.1.1, ()), ()))) X.1.1 X.1.2.1 X.2.1.1
def l20_3 : LEnt := ⟨d20_3, fun X K => iterL (t20_3 X K) fuel (X.1.2.2.1, X.1.2.2.2.1)⟩
def L20 : Lam := (Lam.nil).add 3 l20_3
theorem k20_3 : LOk E g20 n20 L20 (loopBody Tryz.f20 0) :=
  lok l20_3 (by kernel_rfl) fuel fun R X K => (loop_iter (σ := (List Pu.Mailbox) × Int) (fun x => SD.enc d20_3 ((X.1.1, (X.1.2.1, (x.1, (x.2, ())))), (X.2.1.1, ()), ())) (t20_3 X K) (fun m x => by kernel_rfl) fuel (X.1.2.2.1, X.1.2.2.2.1)).symm
theorem o20 : FnOk Tryz.prog 20 e20 := fk n20 ((((base).add o56).add o57).add o63) Tryz.func20 (Λ := L20) (cF k20_3 nF)
def e5 : GEnt := entOf [.data true TCard, .data false (.int .i64), .data true TBucket] [(true, (.pair (.sl (.own none) THost) (.pair (.sl (.own none) TVirtualFunction) (.pair (.sl (.own none) TMailbox) (.pair (.sl (.own none) .str) (.pair (.pair (.int .i64) (.pair (.int .i64) (.pair (.int .i64) (.int .i64)))) (.pair (.sl (.own none) (.int .i64)) (.sl (.own none) .str)))))))), (false, (.int .i64))] fun a => Pu.spec_CardCommandTo a.1 a.2.1 a.2.2.1
theorem o5 : FnOk Tryz.prog 5 e5 := fk { merge := fun | 2 => some 26 | _ => none, mv := [27, 28, 36, 49] } (((((base).add o18).add o19).add o20).add o21) Tryz.func5 (Λ := Lam.nil) nF
def e27 : GEnt := entOf [.data false (.sl (.int .i64))] [(false, (.sl (.own none) (.int .i64)))] fun a => Pu.laws_toIntS a.1
def g27 : Gam := Gam.nil
def n27 : An := { mask := fun | 3 => [0, 3, 4] | _ => [], mv := [21] }
@[reducible] def d27_3 : SD := ⟨[.data false (.sl .arg (.int .i64)),B,B,.data false (.sl (.own (some 36864)) (.int .i64)),DI,B,B,B,B,B,B,B,B,B,B,B,B,B,B,B,B,B], [Z,Z,Z,Z,Z,Z,Z,Z,Z,Z,Z,Z,Z,Z,Z,Z,Z,Z,Z,Z,Z,Z], .none⟩
def t27_3 {R : Type} (X : SD.D d27_3) (K : Ex → AS → Option R) := Pu.laws_toIntS_T3 (fun y0 y1 => K (.exit 0) (SD.enc d27_3 ((X.1.1, (y0, (y1, ()))), (), ()))) X.1.1
def l27_3 : LEnt := ⟨d27_3, fun X K => iterL (t27_3 X K) fuel (X.1.2.1, X.1.2.2.1)⟩
def L27 : Lam := (Lam.nil).add 3 l27_3
theorem k27_3 : LOk E g27 n27 L27 (loopBody Tryz.f27 0) :=
  lok l27_3 (by kernel_rfl) fuel fun R X K => (loop_iter (σ := (List Int) × Int) (fun x => SD.enc d27_3 ((X.1.1, (x.1, (x.2, ()))), (), ())) (t27_3 X K) (fun m x => by kernel_rfl) fuel (X.1.2.1, X.1.2.2.1)).symm
theorem o27 : FnOk Tryz.prog 27 e27 := fk n27 (base) Tryz.func27 (Λ := L27) (cF k27_3 nF)
def e28 : GEnt := entOf [.data false (.sl .str)] [(false, (.sl (.own none) .str))] fun a => Pu.laws_toStringS a.1
def g28 : Gam := Gam.nil
def n28 : An := { mask := fun | 3 => [0, 3, 4] | _ => [], mv := [21] }
@[reducible] def d28_3 : SD := ⟨[.data false (.sl .arg .str),B,B,.data false (.sl (.own (some 36864)) .str),DI,B,B,B,B,B,B,B,B,B,B,B,B,B,B,B,B,B], [Z,Z,Z,Z,Z,Z,Z,Z,Z,Z,Z,Z,Z,Z,Z,Z,Z,Z,Z,Z,Z,Z], .none⟩
def t28_3 {R : Type} (X : SD.D d28_3) (K : Ex → AS → Option R) := Pu.laws_toStringS_T3 (fun y0 y1 => K (.exit 0) (SD.enc d28_3 ((X.1.1, (y0, (y1, ()))), (), ()))) X.1.1
def l28_3 : LEnt := ⟨d28_3, fun X K => iterL (t28_3 X K) fuel (X.1.2.1, X.1.2.2.1)⟩
def L28 : Lam := (Lam.nil).add 3 l28_3
theorem k28_3 : LOk E g28 n28 L28 (loopBody Tryz.f28 0) :=
  lok l28_3 (by kernel_rfl) fuel fun R X K => (loop_iter (σ := (List Pu.Bytes) × Int) (fun x => SD.enc d28_3 ((X.1.1, (x.1, (x.2, ()))), (), ())) (t28_3 X K) (fun m x => by kernel_rfl) fuel (X.1.2.1, X.1.2.2.1)).symm
theorem o28 : FnOk Tryz.prog 28 e28 := fk n28 (base) Tryz.func28 (Λ := L28) (cF k28_3 nF)
def e135 : GEnt := entOf [.data true (.sl .str)] [(true, (.sl (.own none) .str))] fun a => Pu.laws_toMemory a.1
theorem o135 : FnOk Tryz.prog 135 e135 := fk { mv := [8] } ((base).add o28) Tryz.func135 (Λ := Lam.nil) nF
def e203 : GEnt := entOf [.data true TMapping] [(true, (.pair (.int .i64) (.pair (.int .i64) (.pair (.int .i64) .bool))))] fun a => Pu.laws_toMapping a.1
theorem o203 : FnOk Tryz.prog 203 e203 := fk {} (base) Tryz.func203 (Λ := Lam.nil) nF
def e136 : GEnt := entOf [.data false (.sl TMapping)] [(false, (.sl (.own none) TMapping))] fun a => Pu.laws_toMappingS a.1
def g136 : Gam := (Gam.nil).add 203 e203
def n136 : An := { mask := fun | 3 => [0, 3, 4] | _ => [], mv := [22] }
@[reducible] def d136_3 : SD := ⟨[.data false (.sl .arg TMapping),B,B,.data false (.sl (.own (some 36864)) TMapping),DI,B,B,B,B,B,B,B,B,B,B,B,B,B,B,B,B,B,B], [Z,Z,Z,Z,Z,Z,Z,Z,Z,Z,Z,Z,Z,Z,Z,Z,Z,Z,Z,Z,Z,Z,Z], .none⟩
def t136_3 {R : Type} (X : SD.D d136_3) (K : Ex → AS → Option R) := Pu.laws_toMappingS_T3 (fun y0 y1 => K (.exit 0) (SD.enc d136_3 ((X.1.1, (y0, (y1, ()))), (), ()))) X.1.1
def l136_3 : LEnt := ⟨d136_3, fun X K => iterL (t136_3 X K) fuel (X.1.2.1, X.1.2.2.1)⟩
def L136 : Lam := (Lam.nil).add 3 l136_3
theorem k136_3 : LOk E g136 n136 L136 (loopBody Tryz.f136 0) :=
  lok l136_3 (by kernel_rfl) fuel fun R X K => (loop_iter (σ := (List Pu.Mapping) × Int) (fun x => SD.enc d136_3 ((X.1.1, (x.1, (x.2, ()))), (), ())) (t136_3 X K) (fun m x => by kernel_rfl) fuel (X.1.2.1, X.1.2.2.1)).symm
theorem o136 : FnOk Tryz.prog 136 e136 := fk n136 ((base).add o203) Tryz.func136 (Λ := L136) (cF k136_3 nF)
def e204 : GEnt := entOf [.data true TClock] [(true, (.pair (.int .i64) (.pair (.int .i64) (.pair (.int .i64) (.int .i64)))))] fun a => Pu.laws_toRing a.1
theorem o204 : FnOk Tryz.prog 204 e204 := fk {} (base) Tryz.func204 (Λ := Lam.nil) nF
def e205 : GEnt := entOf [.data true TPool] [(true, (.pair (.int .i64) (.pair (.int .i64) (.pair (.int .i64) (.sl (.own none) (.int .i64))))))] fun a => Pu.laws_toPool a.1
theorem o205 : FnOk Tryz.prog 205 e205 := fk { mv := [17] } ((base).add o27) Tryz.func205 (Λ := Lam.nil) nF
def e254 : GEnt := entOf [.data true TSent] [(true, (.pair (.int .i64) (.pair (.int .i64) (.sl (.own none) (.int .i64)))))] fun a => Pu.laws_toSent a.1
theorem o254 : FnOk Tryz.prog 254 e254 := fk { mv := [14] } ((base).add o27) Tryz.func254 (Λ := Lam.nil) nF
def e206 : GEnt := entOf [.data false (.sl TSent)] [(false, (.sl (.own none) TSent))] fun a => Pu.laws_toSentS a.1
def g206 : Gam := (Gam.nil).add 254 e254
def n206 : An := { mask := fun | 3 => [0, 3, 4] | _ => [], mv := [22] }
@[reducible] def d206_3 : SD := ⟨[.data false (.sl .arg TSent),B,B,.data false (.sl (.own (some 36864)) TSent),DI,B,B,B,B,B,B,B,B,B,B,B,B,B,B,B,B,B,B], [Z,Z,Z,Z,Z,Z,Z,Z,Z,Z,Z,Z,Z,Z,Z,Z,Z,Z,Z,Z,Z,Z,Z], .none⟩
def t206_3 {R : Type} (X : SD.D d206_3) (K : Ex → AS → Option R) := Pu.laws_toSentS_T3 (fun y0 y1 => K (.exit 0) (SD.enc d206_3 ((X.1.1, (y0, (y1, ()))), (), ()))) X.1.1
def l206_3 : LEnt := ⟨d206_3, fun X K => iterL (t206_3 X K) fuel (X.1.2.1, X.1.2.2.1)⟩
def L206 : Lam := (Lam.nil).add 3 l206_3
theorem k206_3 : LOk E g206 n206 L206 (loopBody Tryz.f206 0) :=
  lok l206_3 (by kernel_rfl) fuel fun R X K => (loop_iter (σ := (List Pu.Sent) × Int) (fun x => SD.enc d206_3 ((X.1.1, (x.1, (x.2, ()))), (), ())) (t206_3 X K) (fun m x => by kernel_rfl) fuel (X.1.2.1, X.1.2.2.1)).symm
theorem o206 : FnOk Tryz.prog 206 e206 := fk n206 ((base).add o254) Tryz.func206 (Λ := L206) (cF k206_3 nF)
def e137 : GEnt := entOf [.data true TTxQueue] [(true, (.pair (.pair (.int .i64) (.pair (.int .i64) (.pair (.int .i64) (.int .i64)))) (.pair (.pair (.int .i64) (.pair (.int .i64) (.pair (.int .i64) (.sl (.own none) (.int .i64))))) (.pair (.sl (.own none) TSent) (.int .i64)))))] fun a => Pu.laws_toTxQueue a.1
theorem o137 : FnOk Tryz.prog 137 e137 := fk { mv := [19] } ((((base).add o204).add o205).add o206) Tryz.func137 (Λ := Lam.nil) nF
def e255 : GEnt := entOf [.data true TBucket] [(true, (.pair (.int .i64) (.pair (.int .i64) (.int .i64))))] fun a => Pu.laws_toCompletionQueue a.1
theorem o255 : FnOk Tryz.prog 255 e255 := fk {} (base) Tryz.func255 (Λ := Lam.nil) nF
def e285 : GEnt := entOf [.data true TSegment] [(true, (.pair (.int .i64) (.pair (.int .i64) (.pair (.int .i64) (.pair (.int .i64) (.pair (.int .i64) (.pair (.int .i64) (.pair (.int .i64) .str))))))))] fun a => Pu.laws_toSegment a.1
theorem o285 : FnOk Tryz.prog 285 e285 := fk {} (base) Tryz.func285 (Λ := Lam.nil) nF
def e278 : GEnt := entOf [.data true TPacket] [(true, (.pair (.int .i64) (.pair (.int .i64) (.pair (.int .i64) (.pair (.int .i64) (.pair (.int .i64) (.pair (.int .i64) (.pair (.int .i64) (.pair (.int .i64) (.pair (.int .i64) (.pair (.int .i64) (.pair (.int .i64) (.pair (.int .i64) (.pair (.int .i64) (.pair (.int .i64) (.pair (.int .i64) .str))))))))))))))))] fun a => Pu.laws_toPacket a.1
theorem o278 : FnOk Tryz.prog 278 e278 := fk {} ((base).add o285) Tryz.func278 (Λ := Lam.nil) nF
def e256 : GEnt := entOf [.data true TSuper] [(true, (.pair (.pair (.int .i64) (.pair (.int .i64) (.pair (.int .i64) (.pair (.int .i64) (.pair (.int .i64) (.pair (.int .i64) (.pair (.int .i64) (.pair (.int .i64) (.pair (.int .i64) (.pair (.int .i64) (.pair (.int .i64) (.pair (.int .i64) (.pair (.int .i64) (.pair (.int .i64) (.pair (.int .i64) .str))))))))))))))) (.pair (.int .i64) (.int .i64))))] fun a => Pu.laws_toSuper a.1
theorem o256 : FnOk Tryz.prog 256 e256 := fk {} ((base).add o278) Tryz.func256 (Λ := Lam.nil) nF
def e207 : GEnt := entOf [.data true TRxQueue] [(true, (.pair (.pair (.int .i64) (.pair (.int .i64) (.pair (.int .i64) (.int .i64)))) (.pair (.pair (.int .i64) (.pair (.int .i64) (.int .i64))) (.pair (.pair (.int .i64) (.pair (.int .i64) (.int .i64))) (.pair (.pair (.pair (.int .i64) (.pair (.int .i64) (.pair (.int .i64) (.pair (.int .i64) (.pair (.int .i64) (.pair (.int .i64) (.pair (.int .i64) (.pair (.int .i64) (.pair (.int .i64) (.pair (.int .i64) (.pair (.int .i64) (.pair (.int .i64) (.pair (.int .i64) (.pair (.int .i64) (.pair (.int .i64) .str))))))))))))))) (.pair (.int .i64) (.int .i64))) (.pair .bool (.int .i64)))))))] fun a => Pu.laws_toRxQueue a.1
theorem o207 : FnOk Tryz.prog 207 e207 := fk {} ((((base).add o204).add o255).add o256) Tryz.func207 (Λ := Lam.nil) nF
def e138 : GEnt := entOf [.data false (.sl TRxQueue)] [(false, (.sl (.own none) TRxQueue))] fun a => Pu.laws_toRxQueueS a.1
def g138 : Gam := (Gam.nil).add 207 e207
def n138 : An := { mask := fun | 3 => [0, 3, 4] | _ => [], mv := [22] }
@[reducible] def d138_3 : SD := ⟨[.data false (.sl .arg TRxQueue),B,B,.data false (.sl (.own (some 36864)) TRxQueue),DI,B,B,B,B,B,B,B,B,B,B,B,B,B,B,B,B,B,B], [Z,Z,Z,Z,Z,Z,Z,Z,Z,Z,Z,Z,Z,Z,Z,Z,Z,Z,Z,Z,Z,Z,Z], .none⟩
def t138_3 {R : Type} (X : SD.D d138_3) (K : Ex → AS → Option R) := Pu.laws_toRxQueueS_T3 (fun y0 y1 => K (.exit 0) (SD.enc d138_3 ((X.1.1, (y0, (y1, ()))), (), ()))) X.1.1
def l138_3 : LEnt := ⟨d138_3, fun X K => iterL (t138_3 X K) fuel (X.1.2.1, X.1.2.2.1)⟩
def L138 : Lam := (Lam.nil).add 3 l138_3
theorem k138_3 : LOk E g138 n138 L138 (loopBody Tryz.f138 0) :=
  lok l138_3 (by kernel_rfl) fuel fun R X K => (loop_iter (σ := (List Pu.RxQueue) × Int) (fun x => SD.enc d138_3 ((X.1.1, (x.1, (x.2, ()))), (), ())) (t138_3 X K) (fun m x => by kernel_rfl) fuel (X.1.2.1, X.1.2.2.1)).symm
theorem o138 : FnOk Tryz.prog 138 e138 := fk n138 ((base).add o207) Tryz.func138 (Λ := L138) (cF k138_3 nF)
def e139 : GEnt := entOf [.data false (.sl TPool)] [(false, (.sl (.own none) TPool))] fun a => Pu.laws_toPoolS a.1
def g139 : Gam := (Gam.nil).add 205 e205
def n139 : An := { mask := fun | 3 => [0, 3, 4] | _ => [], mv := [22] }
@[reducible] def d139_3 : SD := ⟨[.data false (.sl .arg TPool),B,B,.data false (.sl (.own (some 36864)) TPool),DI,B,B,B,B,B,B,B,B,B,B,B,B,B,B,B,B,B,B], [Z,Z,Z,Z,Z,Z,Z,Z,Z,Z,Z,Z,Z,Z,Z,Z,Z,Z,Z,Z,Z,Z,Z], .none⟩
def t139_3 {R : Type} (X : SD.D d139_3) (K : Ex → AS → Option R) := Pu.laws_toPoolS_T3 (fun y0 y1 => K (.exit 0) (SD.enc d139_3 ((X.1.1, (y0, (y1, ()))), (), ()))) X.1.1
def l139_3 : LEnt := ⟨d139_3, fun X K => iterL (t139_3 X K) fuel (X.1.2.1, X.1.2.2.1)⟩
def L139 : Lam := (Lam.nil).add 3 l139_3
theorem k139_3 : LOk E g139 n139 L139 (loopBody Tryz.f139 0) :=
  lok l139_3 (by kernel_rfl) fuel fun R X K => (loop_iter (σ := (List Pu.Pool) × Int) (fun x => SD.enc d139_3 ((X.1.1, (x.1, (x.2, ()))), (), ())) (t139_3 X K) (fun m x => by kernel_rfl) fuel (X.1.2.1, X.1.2.2.1)).symm
theorem o139 : FnOk Tryz.prog 139 e139 := fk n139 ((base).add o205) Tryz.func139 (Λ := L139) (cF k139_3 nF)
def e208 : GEnt := entOf [.data true TVector] [(true, (.pair (.int .i64) (.pair (.int .i64) (.pair (.int .i64) (.pair (.int .i64) (.pair .bool .bool))))))] fun a => Pu.laws_toVector a.1
theorem o208 : FnOk Tryz.prog 208 e208 := fk {} (base) Tryz.func208 (Λ := Lam.nil) nF
def e140 : GEnt := entOf [.data false (.sl TVector)] [(false, (.sl (.own none) TVector))] fun a => Pu.laws_toVectorS a.1
def g140 : Gam := (Gam.nil).add 208 e208
def n140 : An := { mask := fun | 3 => [0, 3, 4] | _ => [], mv := [22] }
@[reducible] def d140_3 : SD := ⟨[.data false (.sl .arg TVector),B,B,.data false (.sl (.own (some 36864)) TVector),DI,B,B,B,B,B,B,B,B,B,B,B,B,B,B,B,B,B,B], [Z,Z,Z,Z,Z,Z,Z,Z,Z,Z,Z,Z,Z,Z,Z,Z,Z,Z,Z,Z,Z,Z,Z], .none⟩
def t140_3 {R : Type} (X : SD.D d140_3) (K : Ex → AS → Option R) := Pu.laws_toVectorS_T3 (fun y0 y1 => K (.exit 0) (SD.enc d140_3 ((X.1.1, (y0, (y1, ()))), (), ()))) X.1.1
def l140_3 : LEnt := ⟨d140_3, fun X K => iterL (t140_3 X K) fuel (X.1.2.1, X.1.2.2.1)⟩
def L140 : Lam := (Lam.nil).add 3 l140_3
theorem k140_3 : LOk E g140 n140 L140 (loopBody Tryz.f140 0) :=
  lok l140_3 (by kernel_rfl) fuel fun R X K => (loop_iter (σ := (List Pu.Vector) × Int) (fun x => SD.enc d140_3 ((X.1.1, (x.1, (x.2, ()))), (), ())) (t140_3 X K) (fun m x => by kernel_rfl) fuel (X.1.2.1, X.1.2.2.1)).symm
theorem o140 : FnOk Tryz.prog 140 e140 := fk n140 ((base).add o208) Tryz.func140 (Λ := L140) (cF k140_3 nF)
def e141 : GEnt := entOf [.data false (.sl .bool)] [(false, (.sl (.own none) .bool))] fun a => Pu.laws_toBoolS a.1
def g141 : Gam := Gam.nil
def n141 : An := { mask := fun | 3 => [0, 3, 4] | _ => [], mv := [21] }
@[reducible] def d141_3 : SD := ⟨[.data false (.sl .arg .bool),B,B,.data false (.sl (.own (some 36864)) .bool),DI,B,B,B,B,B,B,B,B,B,B,B,B,B,B,B,B,B], [Z,Z,Z,Z,Z,Z,Z,Z,Z,Z,Z,Z,Z,Z,Z,Z,Z,Z,Z,Z,Z,Z], .none⟩
def t141_3 {R : Type} (X : SD.D d141_3) (K : Ex → AS → Option R) := Pu.laws_toBoolS_T3 (fun y0 y1 => K (.exit 0) (SD.enc d141_3 ((X.1.1, (y0, (y1, ()))), (), ()))) X.1.1
def l141_3 : LEnt := ⟨d141_3, fun X K => iterL (t141_3 X K) fuel (X.1.2.1, X.1.2.2.1)⟩
def L141 : Lam := (Lam.nil).add 3 l141_3
theorem k141_3 : LOk E g141 n141 L141 (loopBody Tryz.f141 0) :=
  lok l141_3 (by kernel_rfl) fuel fun R X K => (loop_iter (σ := (List Bool) × Int) (fun x => SD.enc d141_3 ((X.1.1, (x.1, (x.2, ()))), (), ())) (t141_3 X K) (fun m x => by kernel_rfl) fuel (X.1.2.1, X.1.2.2.1)).symm
theorem o141 : FnOk Tryz.prog 141 e141 := fk n141 (base) Tryz.func141 (Λ := L141) (cF k141_3 nF)
def e142 : GEnt := entOf [.data true TFilter] [(true, (.pair (.int .i64) (.pair .bool (.sl (.own none) (.int .i64)))))] fun a => Pu.laws_toFilter a.1
theorem o142 : FnOk Tryz.prog 142 e142 := fk { mv := [14] } ((base).add o27) Tryz.func142 (Λ := Lam.nil) nF
def e257 : GEnt := entOf [.data true TRule] [(true, (.pair (.int .i64) (.pair (.int .i64) (.pair (.int .i64) (.pair (.int .i64) (.pair (.int .i64) (.pair (.int .i64) (.pair (.int .i64) (.pair (.int .i64) (.int .i64))))))))))] fun a => Pu.laws_toRule a.1
theorem o257 : FnOk Tryz.prog 257 e257 := fk {} (base) Tryz.func257 (Λ := Lam.nil) nF
def e209 : GEnt := entOf [.data false (.sl TRule)] [(false, (.sl (.own none) TRule))] fun a => Pu.laws_toRuleS a.1
def g209 : Gam := (Gam.nil).add 257 e257
def n209 : An := { mask := fun | 3 => [0, 3, 4] | _ => [], mv := [22] }
@[reducible] def d209_3 : SD := ⟨[.data false (.sl .arg TRule),B,B,.data false (.sl (.own (some 36864)) TRule),DI,B,B,B,B,B,B,B,B,B,B,B,B,B,B,B,B,B,B], [Z,Z,Z,Z,Z,Z,Z,Z,Z,Z,Z,Z,Z,Z,Z,Z,Z,Z,Z,Z,Z,Z,Z], .none⟩
def t209_3 {R : Type} (X : SD.D d209_3) (K : Ex → AS → Option R) := Pu.laws_toRuleS_T3 (fun y0 y1 => K (.exit 0) (SD.enc d209_3 ((X.1.1, (y0, (y1, ()))), (), ()))) X.1.1
def l209_3 : LEnt := ⟨d209_3, fun X K => iterL (t209_3 X K) fuel (X.1.2.1, X.1.2.2.1)⟩
def L209 : Lam := (Lam.nil).add 3 l209_3
theorem k209_3 : LOk E g209 n209 L209 (loopBody Tryz.f209 0) :=
  lok l209_3 (by kernel_rfl) fuel fun R X K => (loop_iter (σ := (List Pu.Rule) × Int) (fun x => SD.enc d209_3 ((X.1.1, (x.1, (x.2, ()))), (), ())) (t209_3 X K) (fun m x => by kernel_rfl) fuel (X.1.2.1, X.1.2.2.1)).symm
theorem o209 : FnOk Tryz.prog 209 e209 := fk n209 ((base).add o257) Tryz.func209 (Λ := L209) (cF k209_3 nF)
def e259 : GEnt := entOf [.data true TFlow] [(true, (.pair (.int .i64) (.pair (.int .i64) (.pair (.int .i64) (.pair (.int .i64) (.int .i64))))))] fun a => Pu.laws_toFlow a.1
theorem o259 : FnOk Tryz.prog 259 e259 := fk {} (base) Tryz.func259 (Λ := Lam.nil) nF
def e279 : GEnt := entOf [.data true TSlot] [(true, (.pair (.int .i64) (.pair (.pair (.int .i64) (.pair (.int .i64) (.pair (.int .i64) (.pair (.int .i64) (.int .i64))))) (.int .i64))))] fun a => Pu.laws_toSlot a.1
theorem o279 : FnOk Tryz.prog 279 e279 := fk {} ((base).add o259) Tryz.func279 (Λ := Lam.nil) nF
def e258 : GEnt := entOf [.data false (.sl TSlot)] [(false, (.sl (.own none) TSlot))] fun a => Pu.laws_toSlotS a.1
def g258 : Gam := (Gam.nil).add 279 e279
def n258 : An := { mask := fun | 3 => [0, 3, 4] | _ => [], mv := [22] }
@[reducible] def d258_3 : SD := ⟨[.data false (.sl .arg TSlot),B,B,.data false (.sl (.own (some 36864)) TSlot),DI,B,B,B,B,B,B,B,B,B,B,B,B,B,B,B,B,B,B], [Z,Z,Z,Z,Z,Z,Z,Z,Z,Z,Z,Z,Z,Z,Z,Z,Z,Z,Z,Z,Z,Z,Z], .none⟩
def t258_3 {R : Type} (X : SD.D d258_3) (K : Ex → AS → Option R) := Pu.laws_toSlotS_T3 (fun y0 y1 => K (.exit 0) (SD.enc d258_3 ((X.1.1, (y0, (y1, ()))), (), ()))) X.1.1
def l258_3 : LEnt := ⟨d258_3, fun X K => iterL (t258_3 X K) fuel (X.1.2.1, X.1.2.2.1)⟩
def L258 : Lam := (Lam.nil).add 3 l258_3
theorem k258_3 : LOk E g258 n258 L258 (loopBody Tryz.f258 0) :=
  lok l258_3 (by kernel_rfl) fuel fun R X K => (loop_iter (σ := (List Pu.Slot) × Int) (fun x => SD.enc d258_3 ((X.1.1, (x.1, (x.2, ()))), (), ())) (t258_3 X K) (fun m x => by kernel_rfl) fuel (X.1.2.1, X.1.2.2.1)).symm
theorem o258 : FnOk Tryz.prog 258 e258 := fk n258 ((base).add o279) Tryz.func258 (Λ := L258) (cF k258_3 nF)
def e210 : GEnt := entOf [.data true (.sl TSlot)] [(true, (.sl (.own none) TSlot))] fun a => Pu.laws_toFlowTable a.1
theorem o210 : FnOk Tryz.prog 210 e210 := fk { mv := [8] } ((base).add o258) Tryz.func210 (Λ := Lam.nil) nF
def e211 : GEnt := entOf [.data true TSpread] [(true, (.pair .str (.sl (.own none) (.int .i64))))] fun a => Pu.laws_toSpread a.1
theorem o211 : FnOk Tryz.prog 211 e211 := fk { mv := [11] } ((base).add o27) Tryz.func211 (Λ := Lam.nil) nF
def e143 : GEnt := entOf [.data true TSteering] [(true, (.pair (.sl (.own none) TRule) (.pair (.sl (.own none) TSlot) (.pair .str (.sl (.own none) (.int .i64))))))] fun a => Pu.laws_toSteering a.1
theorem o143 : FnOk Tryz.prog 143 e143 := fk { mv := [16] } ((((base).add o209).add o210).add o211) Tryz.func143 (Λ := Lam.nil) nF
def e212 : GEnt := entOf [.data true TStream] [(true, (.pair (.pair (.int .i64) (.pair (.int .i64) (.pair (.int .i64) (.pair (.int .i64) (.int .i64))))) (.pair (.int .i64) (.pair .str .bool))))] fun a => Pu.laws_toStream a.1
theorem o212 : FnOk Tryz.prog 212 e212 := fk {} ((base).add o259) Tryz.func212 (Λ := Lam.nil) nF
def e144 : GEnt := entOf [.data false (.sl TStream)] [(false, (.sl (.own none) TStream))] fun a => Pu.laws_toStreamS a.1
def g144 : Gam := (Gam.nil).add 212 e212
def n144 : An := { mask := fun | 3 => [0, 3, 4] | _ => [], mv := [22] }
@[reducible] def d144_3 : SD := ⟨[.data false (.sl .arg TStream),B,B,.data false (.sl (.own (some 36864)) TStream),DI,B,B,B,B,B,B,B,B,B,B,B,B,B,B,B,B,B,B], [Z,Z,Z,Z,Z,Z,Z,Z,Z,Z,Z,Z,Z,Z,Z,Z,Z,Z,Z,Z,Z,Z,Z], .none⟩
def t144_3 {R : Type} (X : SD.D d144_3) (K : Ex → AS → Option R) := Pu.laws_toStreamS_T3 (fun y0 y1 => K (.exit 0) (SD.enc d144_3 ((X.1.1, (y0, (y1, ()))), (), ()))) X.1.1
def l144_3 : LEnt := ⟨d144_3, fun X K => iterL (t144_3 X K) fuel (X.1.2.1, X.1.2.2.1)⟩
def L144 : Lam := (Lam.nil).add 3 l144_3
theorem k144_3 : LOk E g144 n144 L144 (loopBody Tryz.f144 0) :=
  lok l144_3 (by kernel_rfl) fuel fun R X K => (loop_iter (σ := (List Pu.Stream) × Int) (fun x => SD.enc d144_3 ((X.1.1, (x.1, (x.2, ()))), (), ())) (t144_3 X K) (fun m x => by kernel_rfl) fuel (X.1.2.1, X.1.2.2.1)).symm
theorem o144 : FnOk Tryz.prog 144 e144 := fk n144 ((base).add o212) Tryz.func144 (Λ := L144) (cF k144_3 nF)
def e145 : GEnt := entOf [.data true TFlow] [(true, (.pair (.int .i64) (.pair (.int .i64) (.pair (.int .i64) (.pair (.int .i64) (.int .i64))))))] fun a => Pu.laws_toCounters a.1
theorem o145 : FnOk Tryz.prog 145 e145 := fk {} (base) Tryz.func145 (Λ := Lam.nil) nF
def e64 : GEnt := entOf [.data true THost] [(true, (.pair (.sl (.own none) .str) (.pair (.sl (.own none) TMapping) (.pair (.pair (.pair (.int .i64) (.pair (.int .i64) (.pair (.int .i64) (.int .i64)))) (.pair (.pair (.int .i64) (.pair (.int .i64) (.pair (.int .i64) (.sl (.own none) (.int .i64))))) (.pair (.sl (.own none) TSent) (.int .i64)))) (.pair (.sl (.own none) TRxQueue) (.pair (.sl (.own none) TPool) (.pair (.sl (.own none) TVector) (.pair (.sl (.own none) .bool) (.pair (.pair (.int .i64) (.pair .bool (.sl (.own none) (.int .i64)))) (.pair (.pair (.sl (.own none) TRule) (.pair (.sl (.own none) TSlot) (.pair .str (.sl (.own none) (.int .i64))))) (.pair (.sl (.own none) TStream) (.pair .bool (.pair (.sl (.own none) .str) (.pair (.sl (.own none) (.int .i64)) (.pair (.sl (.own none) (.int .i64)) (.pair (.int .i64) (.pair (.int .i64) (.pair (.int .i64) (.pair (.int .i64) (.int .i64))))))))))))))))))))] fun a => Pu.laws_toHost a.1
theorem o64 : FnOk Tryz.prog 64 e64 := fk { mv := [63] } ((((((((((((((base).add o27).add o28).add o135).add o136).add o137).add o138).add o139).add o140).add o141).add o142).add o143).add o144).add o145) Tryz.func64 (Λ := Lam.nil) nF
def e22 : GEnt := entOf [.data false (.sl THost)] [(false, (.sl (.own none) THost))] fun a => Pu.laws_toHostS a.1
def g22 : Gam := (Gam.nil).add 64 e64
def n22 : An := { mask := fun | 3 => [0, 3, 4] | _ => [], mv := [22] }
@[reducible] def d22_3 : SD := ⟨[.data false (.sl .arg THost),B,B,.data false (.sl (.own (some 36864)) THost),DI,B,B,B,B,B,B,B,B,B,B,B,B,B,B,B,B,B,B], [Z,Z,Z,Z,Z,Z,Z,Z,Z,Z,Z,Z,Z,Z,Z,Z,Z,Z,Z,Z,Z,Z,Z], .none⟩
def t22_3 {R : Type} (X : SD.D d22_3) (K : Ex → AS → Option R) := Pu.laws_toHostS_T3 (fun y0 y1 => K (.exit 0) (SD.enc d22_3 ((X.1.1, (y0, (y1, ()))), (), ()))) X.1.1
def l22_3 : LEnt := ⟨d22_3, fun X K => iterL (t22_3 X K) fuel (X.1.2.1, X.1.2.2.1)⟩
def L22 : Lam := (Lam.nil).add 3 l22_3
theorem k22_3 : LOk E g22 n22 L22 (loopBody Tryz.f22 0) :=
  lok l22_3 (by kernel_rfl) fuel fun R X K => (loop_iter (σ := (List Pu.Host) × Int) (fun x => SD.enc d22_3 ((X.1.1, (x.1, (x.2, ()))), (), ())) (t22_3 X K) (fun m x => by kernel_rfl) fuel (X.1.2.1, X.1.2.2.1)).symm
theorem o22 : FnOk Tryz.prog 22 e22 := fk n22 ((base).add o64) Tryz.func22 (Λ := L22) (cF k22_3 nF)
def e146 : GEnt := entOf [.data true TBucket] [(true, (.pair (.int .i64) (.pair (.int .i64) (.int .i64))))] fun a => Pu.laws_toBucket a.1
theorem o146 : FnOk Tryz.prog 146 e146 := fk {} (base) Tryz.func146 (Λ := Lam.nil) nF
def e65 : GEnt := entOf [.data true TVirtualFunction] [(true, (.pair (.int .i64) (.pair (.int .i64) (.pair (.pair (.int .i64) (.pair (.int .i64) (.int .i64))) (.pair .bool (.pair (.int .i64) (.int .i64)))))))] fun a => Pu.laws_toVirtualFunction a.1
theorem o65 : FnOk Tryz.prog 65 e65 := fk {} ((base).add o146) Tryz.func65 (Λ := Lam.nil) nF
def e23 : GEnt := entOf [.data false (.sl TVirtualFunction)] [(false, (.sl (.own none) TVirtualFunction))] fun a => Pu.laws_toVirtualFunctionS a.1
def g23 : Gam := (Gam.nil).add 65 e65
def n23 : An := { mask := fun | 3 => [0, 3, 4] | _ => [], mv := [22] }
@[reducible] def d23_3 : SD := ⟨[.data false (.sl .arg TVirtualFunction),B,B,.data false (.sl (.own (some 36864)) TVirtualFunction),DI,B,B,B,B,B,B,B,B,B,B,B,B,B,B,B,B,B,B], [Z,Z,Z,Z,Z,Z,Z,Z,Z,Z,Z,Z,Z,Z,Z,Z,Z,Z,Z,Z,Z,Z,Z], .none⟩
def t23_3 {R : Type} (X : SD.D d23_3) (K : Ex → AS → Option R) := Pu.laws_toVirtualFunctionS_T3 (fun y0 y1 => K (.exit 0) (SD.enc d23_3 ((X.1.1, (y0, (y1, ()))), (), ()))) X.1.1
def l23_3 : LEnt := ⟨d23_3, fun X K => iterL (t23_3 X K) fuel (X.1.2.1, X.1.2.2.1)⟩
def L23 : Lam := (Lam.nil).add 3 l23_3
theorem k23_3 : LOk E g23 n23 L23 (loopBody Tryz.f23 0) :=
  lok l23_3 (by kernel_rfl) fuel fun R X K => (loop_iter (σ := (List Pu.VirtualFunction) × Int) (fun x => SD.enc d23_3 ((X.1.1, (x.1, (x.2, ()))), (), ())) (t23_3 X K) (fun m x => by kernel_rfl) fuel (X.1.2.1, X.1.2.2.1)).symm
theorem o23 : FnOk Tryz.prog 23 e23 := fk n23 ((base).add o65) Tryz.func23 (Λ := L23) (cF k23_3 nF)
def e66 : GEnt := entOf [.data true TMailbox] [(true, (.pair (.pair (.int .i64) (.pair .bool (.sl (.own none) (.int .i64)))) (.pair (.int .i64) (.pair (.int .i64) (.int .i64)))))] fun a => Pu.laws_toMailbox a.1
theorem o66 : FnOk Tryz.prog 66 e66 := fk { mv := [17] } ((base).add o142) Tryz.func66 (Λ := Lam.nil) nF
def e24 : GEnt := entOf [.data false (.sl TMailbox)] [(false, (.sl (.own none) TMailbox))] fun a => Pu.laws_toMailboxS a.1
def g24 : Gam := (Gam.nil).add 66 e66
def n24 : An := { mask := fun | 3 => [0, 3, 4] | _ => [], mv := [22] }
@[reducible] def d24_3 : SD := ⟨[.data false (.sl .arg TMailbox),B,B,.data false (.sl (.own (some 36864)) TMailbox),DI,B,B,B,B,B,B,B,B,B,B,B,B,B,B,B,B,B,B], [Z,Z,Z,Z,Z,Z,Z,Z,Z,Z,Z,Z,Z,Z,Z,Z,Z,Z,Z,Z,Z,Z,Z], .none⟩
def t24_3 {R : Type} (X : SD.D d24_3) (K : Ex → AS → Option R) := Pu.laws_toMailboxS_T3 (fun y0 y1 => K (.exit 0) (SD.enc d24_3 ((X.1.1, (y0, (y1, ()))), (), ()))) X.1.1
def l24_3 : LEnt := ⟨d24_3, fun X K => iterL (t24_3 X K) fuel (X.1.2.1, X.1.2.2.1)⟩
def L24 : Lam := (Lam.nil).add 3 l24_3
theorem k24_3 : LOk E g24 n24 L24 (loopBody Tryz.f24 0) :=
  lok l24_3 (by kernel_rfl) fuel fun R X K => (loop_iter (σ := (List Pu.Mailbox) × Int) (fun x => SD.enc d24_3 ((X.1.1, (x.1, (x.2, ()))), (), ())) (t24_3 X K) (fun m x => by kernel_rfl) fuel (X.1.2.1, X.1.2.2.1)).symm
theorem o24 : FnOk Tryz.prog 24 e24 := fk n24 ((base).add o66) Tryz.func24 (Λ := L24) (cF k24_3 nF)
def e25 : GEnt := entOf [.data true (.sl .str)] [(true, (.sl (.own none) .str))] fun a => Pu.laws_toFlash a.1
theorem o25 : FnOk Tryz.prog 25 e25 := fk { mv := [8] } ((base).add o28) Tryz.func25 (Λ := Lam.nil) nF
def e26 : GEnt := entOf [.data true TClock] [(true, (.pair (.int .i64) (.pair (.int .i64) (.pair (.int .i64) (.int .i64)))))] fun a => Pu.laws_toClock a.1
theorem o26 : FnOk Tryz.prog 26 e26 := fk {} (base) Tryz.func26 (Λ := Lam.nil) nF
def e6 : GEnt := entOf [.data true TCard] [(true, (.pair (.sl (.own none) THost) (.pair (.sl (.own none) TVirtualFunction) (.pair (.sl (.own none) TMailbox) (.pair (.sl (.own none) .str) (.pair (.pair (.int .i64) (.pair (.int .i64) (.pair (.int .i64) (.int .i64)))) (.pair (.sl (.own none) (.int .i64)) (.sl (.own none) .str))))))))] fun a => Pu.laws_toCard a.1
theorem o6 : FnOk Tryz.prog 6 e6 := fk { mv := [32] } ((((((((base).add o22).add o23).add o24).add o25).add o26).add o27).add o28) Tryz.func6 (Λ := Lam.nil) nF
def e7 : GEnt := entOf [.data true TBucket] [(true, (.pair (.int .i64) (.pair (.int .i64) (.int .i64))))] fun a => Pu.laws_toMessage a.1
theorem o7 : FnOk Tryz.prog 7 e7 := fk {} (base) Tryz.func7 (Λ := Lam.nil) nF
def e67 : GEnt := entOf [.data false (.sl TVirtualFunction)] [(false, (.sl (.own none) TVirtualFunction))] fun a => Pu.impl_copyFunctions a.1
theorem o67 : FnOk Tryz.prog 67 e67 := fk {} (base) Tryz.func67 (Λ := Lam.nil) nF
def e70 : GEnt := entOf [.data false (.sl (.int .i64))] [(false, (.sl (.own none) (.int .i64)))] fun a => Pu.impl_copyInts a.1
theorem o70 : FnOk Tryz.prog 70 e70 := fk {} (base) Tryz.func70 (Λ := Lam.nil) nF
def e33 : GEnt := entOf [.data true TFilter] [(true, (.pair (.int .i64) (.pair .bool (.sl (.own none) (.int .i64)))))] fun a => Pu.impl_copyFilter a.1
theorem o33 : FnOk Tryz.prog 33 e33 := fk { mv := [7] } ((base).add o70) Tryz.func33 (Λ := Lam.nil) nF
def e81 : GEnt := entOf [.data true TMailbox] [(true, (.pair (.pair (.int .i64) (.pair .bool (.sl (.own none) (.int .i64)))) (.pair (.int .i64) (.pair (.int .i64) (.int .i64)))))] fun a => Pu.impl_copyMailbox a.1
theorem o81 : FnOk Tryz.prog 81 e81 := fk { mv := [7] } ((base).add o33) Tryz.func81 (Λ := Lam.nil) nF
def e68 : GEnt := entOf [.data false (.sl TMailbox)] [(false, (.sl (.own none) TMailbox))] fun a => Pu.impl_copyBoxes a.1
def g68 : Gam := (Gam.nil).add 81 e81
def n68 : An := { mask := fun | 3 => [3, 7, 8, 9] | _ => [], mv := [13, 19] }
@[reducible] def d68_3 : SD := ⟨[B,B,B,.data false (.sl (.own (some 36864)) TMailbox),B,B,B,.data false (.sl .arg TMailbox),DI,DI,B,B,B,B,B,B,B,B,B,B], [Z,Z,Z,Z,Z,Z,Z,Z,Z,Z,Z,Z,Z,Z,Z,Z,Z,Z,Z,Z], .none⟩
def t68_3 {R : Type} (X : SD.D d68_3) (K : Ex → AS → Option R) := Pu.impl_copyBoxes_T3 (fun y0 y1 => K (.exit 0) (SD.enc d68_3 ((y0, (X.1.2.1, (X.1.2.2.1, (y1, ())))), (), ()))) X.1.2.1 X.1.2.2.1
def l68_3 : LEnt := ⟨d68_3, fun X K => iterL (t68_3 X K) fuel (X.1.1, X.1.2.2.2.1)⟩
def L68 : Lam := (Lam.nil).add 3 l68_3
theorem k68_3 : LOk E g68 n68 L68 (loopBody Tryz.f68 0) :=
  lok l68_3 (by kernel_rfl) fuel fun R X K => (loop_iter (σ := (List Pu.Mailbox) × Int) (fun x => SD.enc d68_3 ((x.1, (X.1.2.1, (X.1.2.2.1, (x.2, ())))), (), ())) (t68_3 X K) (fun m x => by kernel_rfl) fuel (X.1.1, X.1.2.2.2.1)).symm
theorem o68 : FnOk Tryz.prog 68 e68 := fk n68 ((base).add o81) Tryz.func68 (Λ := L68) (cF k68_3 nF)
def e71 : GEnt := entOf [.data false (.sl .str)] [(false, (.sl (.own none) .str))] fun a => Pu.impl_copyStrings a.1
theorem o71 : FnOk Tryz.prog 71 e71 := fk {} (base) Tryz.func71 (Λ := Lam.nil) nF
def e69 : GEnt := entOf [.data true (.sl .str)] [(true, (.sl (.own none) .str))] fun a => Pu.impl_copyFlash a.1
theorem o69 : FnOk Tryz.prog 69 e69 := fk {} ((base).add o71) Tryz.func69 (Λ := Lam.nil) nF
def e147 : GEnt := entOf [.data true (.sl .str)] [(true, (.sl (.own none) .str))] fun a => Pu.impl_copyMemory a.1
theorem o147 : FnOk Tryz.prog 147 e147 := fk {} ((base).add o71) Tryz.func147 (Λ := Lam.nil) nF
def e148 : GEnt := entOf [.data false (.sl TMapping)] [(false, (.sl (.own none) TMapping))] fun a => Pu.impl_copyMappings a.1
theorem o148 : FnOk Tryz.prog 148 e148 := fk {} (base) Tryz.func148 (Λ := Lam.nil) nF
def e150 : GEnt := entOf [.data true TPool] [(true, (.pair (.int .i64) (.pair (.int .i64) (.pair (.int .i64) (.sl (.own none) (.int .i64))))))] fun a => Pu.impl_copyPool a.1
theorem o150 : FnOk Tryz.prog 150 e150 := fk { mv := [7] } ((base).add o70) Tryz.func150 (Λ := Lam.nil) nF
def e213 : GEnt := entOf [.data false (.sl TSent)] [(false, (.sl (.own none) TSent))] fun a => Pu.impl_copySent a.1
def g213 : Gam := (Gam.nil).add 70 e70
def n213 : An := { mask := fun | 3 => [3, 7, 8, 9] | _ => [], mv := [13, 25] }
@[reducible] def d213_3 : SD := ⟨[B,B,B,.data false (.sl (.own (some 36864)) TSent),B,B,B,.data false (.sl .arg TSent),DI,DI,B,B,B,B,B,B,B,B,B,B,B,B,B,B,B,B], [Z,Z,Z,Z,Z,Z,Z,Z,Z,Z,Z,Z,Z,Z,Z,Z,Z,Z,Z,Z,Z,Z,Z,Z,Z,Z], .none⟩
def t213_3 {R : Type} (X : SD.D d213_3) (K : Ex → AS → Option R) := Pu.impl_copySent_T3 (fun y0 y1 => K (.exit 0) (SD.enc d213_3 ((y0, (X.1.2.1, (X.1.2.2.1, (y1, ())))), (), ()))) X.1.2.1 X.1.2.2.1
def l213_3 : LEnt := ⟨d213_3, fun X K => iterL (t213_3 X K) fuel (X.1.1, X.1.2.2.2.1)⟩
def L213 : Lam := (Lam.nil).add 3 l213_3
theorem k213_3 : LOk E g213 n213 L213 (loopBody Tryz.f213 0) :=
  lok l213_3 (by kernel_rfl) fuel fun R X K => (loop_iter (σ := (List Pu.Sent) × Int) (fun x => SD.enc d213_3 ((x.1, (X.1.2.1, (X.1.2.2.1, (x.2, ())))), (), ())) (t213_3 X K) (fun m x => by kernel_rfl) fuel (X.1.1, X.1.2.2.2.1)).symm
theorem o213 : FnOk Tryz.prog 213 e213 := fk n213 ((base).add o70) Tryz.func213 (Λ := L213) (cF k213_3 nF)
def e149 : GEnt := entOf [.data true TTxQueue] [(true, (.pair (.pair (.int .i64) (.pair (.int .i64) (.pair (.int .i64) (.int .i64)))) (.pair (.pair (.int .i64) (.pair (.int .i64) (.pair (.int .i64) (.sl (.own none) (.int .i64))))) (.pair (.sl (.own none) TSent) (.int .i64)))))] fun a => Pu.impl_copyTx a.1
theorem o149 : FnOk Tryz.prog 149 e149 := fk { sb := fun | 2 => some 2 | _ => none } (((base).add o150).add o213) Tryz.func149 (Λ := Lam.nil) nF
def e214 : GEnt := entOf [.data true (.sl TSlot)] [(true, (.sl (.own none) TSlot))] fun a => Pu.impl_copyTable a.1
theorem o214 : FnOk Tryz.prog 214 e214 := fk {} (base) Tryz.func214 (Λ := Lam.nil) nF
def e215 : GEnt := entOf [.data true TSpread] [(true, (.pair .str (.sl (.own none) (.int .i64))))] fun a => Pu.impl_copySpread a.1
theorem o215 : FnOk Tryz.prog 215 e215 := fk { sb := fun | 2 => some 2 | _ => none } ((base).add o70) Tryz.func215 (Λ := Lam.nil) nF
def e151 : GEnt := entOf [.data true TSteering] [(true, (.pair (.sl (.own none) TRule) (.pair (.sl (.own none) TSlot) (.pair .str (.sl (.own none) (.int .i64))))))] fun a => Pu.impl_copySteering a.1
theorem o151 : FnOk Tryz.prog 151 e151 := fk { sb := fun | 2 => some 2 | _ => none } (((base).add o214).add o215) Tryz.func151 (Λ := Lam.nil) nF
def e152 : GEnt := entOf [.data false (.sl TStream)] [(false, (.sl (.own none) TStream))] fun a => Pu.impl_copyStreams a.1
theorem o152 : FnOk Tryz.prog 152 e152 := fk {} (base) Tryz.func152 (Λ := Lam.nil) nF
def e72 : GEnt := entOf [.data true THost] [(true, (.pair (.sl (.own none) .str) (.pair (.sl (.own none) TMapping) (.pair (.pair (.pair (.int .i64) (.pair (.int .i64) (.pair (.int .i64) (.int .i64)))) (.pair (.pair (.int .i64) (.pair (.int .i64) (.pair (.int .i64) (.sl (.own none) (.int .i64))))) (.pair (.sl (.own none) TSent) (.int .i64)))) (.pair (.sl (.own none) TRxQueue) (.pair (.sl (.own none) TPool) (.pair (.sl (.own none) TVector) (.pair (.sl (.own none) .bool) (.pair (.pair (.int .i64) (.pair .bool (.sl (.own none) (.int .i64)))) (.pair (.pair (.sl (.own none) TRule) (.pair (.sl (.own none) TSlot) (.pair .str (.sl (.own none) (.int .i64))))) (.pair (.sl (.own none) TStream) (.pair .bool (.pair (.sl (.own none) .str) (.pair (.sl (.own none) (.int .i64)) (.pair (.sl (.own none) (.int .i64)) (.pair (.int .i64) (.pair (.int .i64) (.pair (.int .i64) (.pair (.int .i64) (.int .i64))))))))))))))))))))] fun a => Pu.impl_copyHost a.1
def g72 : Gam := (((((((((Gam.nil).add 33 e33).add 70 e70).add 71 e71).add 147 e147).add 148 e148).add 149 e149).add 150 e150).add 151 e151).add 152 e152
def n72 : An := { mask := fun | 8 => [1, 2, 3, 27, 28, 29] | _ => [], mv := [34, 75], mb := fun | 34 => some 3 | _ => none, sb := fun | 39 => some 3 | _ => none }
@[reducible] def d72_8 : SD := ⟨[B,.ptr 1 0,.ptr 2 0,.ptr 3 0,B,B,B,B,B,B,B,B,B,B,B,B,B,B,B,B,B,B,B,B,B,B,B,.data false (.sl .arg TPool),DI,DI,B,B,B,B,B,B,B,B,B,B,B,B,B,B,B,B,B,B,B,B,B,B,B,B,B,B,B,B,B,B,B,B,B,B,B,B,B,B,B,B,B,B,B,B,B,B], [Z,some (.pair (.sl .arg .str) (.pair (.sl .arg TMapping) (.pair (.pair (.pair (.int .i64) (.pair (.int .i64) (.pair (.int .i64) (.int .i64)))) (.pair (.pair (.int .i64) (.pair (.int .i64) (.pair (.int .i64) (.sl .arg (.int .i64))))) (.pair (.sl .arg TSent) (.int .i64)))) (.pair (.sl .arg TRxQueue) (.pair (.sl .arg TPool) (.pair (.sl .arg TVector) (.pair (.sl .arg .bool) (.pair (.pair (.int .i64) (.pair .bool (.sl .arg (.int .i64)))) (.pair (.pair (.sl .arg TRule) (.pair (.sl .arg TSlot) (.pair .str (.sl .arg (.int .i64))))) (.pair (.sl .arg TStream) (.pair .bool (.pair (.sl .arg .str) (.pair (.sl .arg (.int .i64)) (.pair (.sl .arg (.int .i64)) (.pair (.int .i64) (.pair (.int .i64) (.pair (.int .i64) (.pair (.int .i64) (.int .i64))))))))))))))))))),some (.pair (.sl (.own (some 24577)) .str) (.pair (.sl (.own (some 24580)) TMapping) (.pair (.pair (.pair (.int .i64) (.pair (.int .i64) (.pair (.int .i64) (.int .i64)))) (.pair (.pair (.int .i64) (.pair (.int .i64) (.pair (.int .i64) (.sl (.own (some 24604)) (.int .i64))))) (.pair (.sl (.own (some 24607)) TSent) (.int .i64)))) (.pair (.sl (.own (some 24613)) TRxQueue) (.pair (.sl (.own (some 24616)) TPool) (.pair (.sl (.own (some 24619)) TVector) (.pair (.sl (.own (some 24622)) .bool) (.pair (.pair (.int .i64) (.pair .bool (.sl (.own (some 24631)) (.int .i64)))) (.pair (.pair (.sl (.own (some 24634)) TRule) (.pair (.sl (.own (some 24637)) TSlot) (.pair .str (.sl (.own (some 24643)) (.int .i64))))) (.pair (.sl (.own (some 24646)) TStream) (.pair .bool (.pair (.sl (.own (some 24652)) .str) (.pair (.sl (.own (some 24655)) (.int .i64)) (.pair (.sl (.own (some 24658)) (.int .i64)) (.pair (.int .i64) (.pair (.int .i64) (.pair (.int .i64) (.pair (.int .i64) (.int .i64))))))))))))))))))),some (.pair (.sl (.own (some 36865)) .str) (.pair (.sl (.own (some 36868)) TMapping) (.pair (.pair (.pair (.int .i64) (.pair (.int .i64) (.pair (.int .i64) (.int .i64)))) (.pair (.pair (.int .i64) (.pair (.int .i64) (.pair (.int .i64) (.sl (.own (some 36892)) (.int .i64))))) (.pair (.sl (.own (some 36895)) TSent) (.int .i64)))) (.pair (.sl (.own (some 36901)) TRxQueue) (.pair (.sl (.own (some 36904)) TPool) (.pair (.sl .arg TVector) (.pair (.sl .arg .bool) (.pair (.pair (.int .i64) (.pair .bool (.sl .arg (.int .i64)))) (.pair (.pair (.sl .arg TRule) (.pair (.sl .arg TSlot) (.pair .str (.sl .arg (.int .i64))))) (.pair (.sl .arg TStream) (.pair .bool (.pair (.sl .arg .str) (.pair (.sl .arg (.int .i64)) (.pair (.sl .arg (.int .i64)) (.pair (.int .i64) (.pair (.int .i64) (.pair (.int .i64) (.pair (.int .i64) (.int .i64))))))))))))))))))),Z,Z,Z,Z,Z,Z,Z,Z,Z,Z,Z,Z,Z,Z,Z,Z,Z,Z,Z,Z,Z,Z,Z,Z,Z,Z,Z,Z,Z,Z,Z,Z,Z,Z,Z,Z,Z,Z,Z,Z,Z,Z,Z,Z,Z,Z,Z,Z,Z,Z,Z,Z,Z,Z,Z,Z,Z,Z,Z,Z,Z,Z,Z,Z,Z,Z,Z,Z,Z,Z,Z,Z], .none⟩
def t72_8 {R : Type} (X : SD.D d72_8) (K : Ex → AS → Option R) := Pu.impl_copyHost_T8 (fun y0 y1 => K (.exit 0) (SD.enc d72_8 ((X.1.1, (X.1.2.1, (y0, ()))), (X.2.1.1, (X.2.1.2.1, (y1, ()))), ()))) X.1.1 X.1.2.1 X.2.1.1 X.2.1.2.1
def l72_8 : LEnt := ⟨d72_8, fun X K => iterL (t72_8 X K) fuel (X.1.2.2.1, X.2.1.2.2.1)⟩
def L72 : Lam := (Lam.nil).add 8 l72_8
theorem k72_8 : LOk E g72 n72 L72 (loopBody Tryz.f72 0) :=
  lok l72_8 (by kernel_rfl) fuel fun R X K => (loop_iter (σ := Int × Pu.Host) (fun x => SD.enc d72_8 ((X.1.1, (X.1.2.1, (x.1, ()))), (X.2.1.1, (X.2.1.2.1, (x.2, ()))), ())) (t72_8 X K) (fun m x => by kernel_rfl) fuel (X.1.2.2.1, X.2.1.2.2.1)).symm
theorem o72 : FnOk Tryz.prog 72 e72 := fk n72 ((((((((((base).add o33).add o70).add o71).add o147).add o148).add o149).add o150).add o151).add o152) Tryz.func72 (Λ := L72) (cF k72_8 nF)
def e29 : GEnt := entOf [.data true TCard] [(true, (.pair (.sl (.own none) THost) (.pair (.sl (.own none) TVirtualFunction) (.pair (.sl (.own none) TMailbox) (.pair (.sl (.own none) .str) (.pair (.pair (.int .i64) (.pair (.int .i64) (.pair (.int .i64) (.int .i64)))) (.pair (.sl (.own none) (.int .i64)) (.sl (.own none) .str))))))))] fun a => Pu.impl_copyCard a.1
def g29 : Gam := ((((((Gam.nil).add 67 e67).add 68 e68).add 69 e69).add 70 e70).add 71 e71).add 72 e72
def n29 : An := { mask := fun | 3 => [2, 3, 25, 26, 27] | _ => [], mv := [32, 39], mb := fun | 32 => some 3 | _ => none, sb := fun | 3 => some 3 | 37 => some 3 | _ => none }
@[reducible] def d29_3 : SD := ⟨[B,B,.ptr 2 0,.ptr 3 0,B,B,B,B,B,B,B,B,B,B,B,B,B,B,B,B,B,B,B,B,B,.data false (.sl .arg THost),DI,DI,B,B,B,B,B,B,B,B,B,B,B,B], [Z,Z,some (.pair (.sl (.own (some 24577)) THost) (.pair (.sl (.own (some 24580)) TVirtualFunction) (.pair (.sl (.own (some 24583)) TMailbox) (.pair (.sl (.own (some 24586)) .str) (.pair (.pair (.int .i64) (.pair (.int .i64) (.pair (.int .i64) (.int .i64)))) (.pair (.sl (.own (some 24601)) (.int .i64)) (.sl (.own (some 24604)) .str))))))),some (.pair (.sl (.own (some 36865)) THost) (.pair (.sl (.own (some 36868)) TVirtualFunction) (.pair (.sl (.own (some 36871)) TMailbox) (.pair (.sl (.own (some 36874)) .str) (.pair (.pair (.int .i64) (.pair (.int .i64) (.pair (.int .i64) (.int .i64)))) (.pair (.sl (.own (some 36889)) (.int .i64)) (.sl (.own (some 36892)) .str))))))),Z,Z,Z,Z,Z,Z,Z,Z,Z,Z,Z,Z,Z,Z,Z,Z,Z,Z,Z,Z,Z,Z,Z,Z,Z,Z,Z,Z,Z,Z,Z,Z,Z,Z,Z,Z], .none⟩
def t29_3 {R : Type} (X : SD.D d29_3) (K : Ex → AS → Option R) := Pu.impl_copyCard_T3 (fun y0 y1 => K (.exit 0) (SD.enc d29_3 ((X.1.1, (X.1.2.1, (y0, ()))), (X.2.1.1, (y1, ())), ()))) X.1.1 X.1.2.1 X.2.1.1
def l29_3 : LEnt := ⟨d29_3, fun X K => iterL (t29_3 X K) fuel (X.1.2.2.1, X.2.1.2.1)⟩
def L29 : Lam := (Lam.nil).add 3 l29_3
theorem k29_3 : LOk E g29 n29 L29 (loopBody Tryz.f29 0) :=
  lok l29_3 (by kernel_rfl) fuel fun R X K => (loop_iter (σ := Int × Pu.Card) (fun x => SD.enc d29_3 ((X.1.1, (X.1.2.1, (x.1, ()))), (X.2.1.1, (x.2, ())), ())) (t29_3 X K) (fun m x => by kernel_rfl) fuel (X.1.2.2.1, X.2.1.2.1)).symm
theorem o29 : FnOk Tryz.prog 29 e29 := fk n29 (((((((base).add o67).add o68).add o69).add o70).add o71).add o72) Tryz.func29 (Λ := L29) (cF k29_3 nF)
def e31 : GEnt := entOf [.data false (.int .i64), .data false (.int .i64), .data false (.int .i64)] [(false, .bool)] fun a => Pu.impl_between a.1 a.2.1 a.2.2.1
theorem o31 : FnOk Tryz.prog 31 e31 := fk { merge := fun | 1 => some 6 | _ => none } (base) Tryz.func31 (Λ := Lam.nil) nF
def e160 : GEnt := entOf [.data true TFilter] [(false, .bool)] fun a => Pu.impl_FilterOk a.1
def g160 : Gam := (Gam.nil).add 31 e31
def n160 : An := { mask := fun | 2 => [1, 2, 6, 7, 8] | _ => [], merge := fun | 4 => some 29 | 7 => some 2 | _ => none }
@[reducible] def d160_2 : SD := ⟨[B,.ptr 1 0,DB,B,B,B,.data false (.sl .arg (.int .i64)),DI,DI,B,B,B,B,B,B,B,B,B,B,B,B,B,B,B,B,B,B,B,B,B,B,B,B,B,B,B,B,B,B,B], [Z,some (.pair (.int .i64) (.pair .bool (.sl .arg (.int .i64)))),Z,Z,Z,Z,Z,Z,Z,Z,Z,Z,Z,Z,Z,Z,Z,Z,Z,Z,Z,Z,Z,Z,Z,Z,Z,Z,Z,Z,Z,Z,Z,Z,Z,Z,Z,Z,Z,Z], .none⟩
def t160_2 {R : Type} (X : SD.D d160_2) (K : Ex → AS → Option R) := Pu.impl_FilterOk_T2 (fun y0 => K (.exit 0) (SD.enc d160_2 ((X.1.1, (X.1.2.1, (X.1.2.2.1, (y0, ())))), (X.2.1.1, ()), ()))) (fun y0 y1 => K .ret (SD.enc d160_2 ((y0, (X.1.2.1, (X.1.2.2.1, (y1, ())))), (X.2.1.1, ()), ()))) X.1.1 X.1.2.1 X.1.2.2.1 X.2.1.1
def l160_2 : LEnt := ⟨d160_2, fun X K => iterL (t160_2 X K) fuel X.1.2.2.2.1⟩
def L160 : Lam := (Lam.nil).add 2 l160_2
theorem k160_2 : LOk E g160 n160 L160 (loopBody Tryz.f160 0) :=
  lok l160_2 (by kernel_rfl) fuel fun R X K => (loop_iter (σ := Int) (fun x => SD.enc d160_2 ((X.1.1, (X.1.2.1, (X.1.2.2.1, (x, ())))), (X.2.1.1, ()), ())) (t160_2 X K) (fun m x => by kernel_rfl) fuel X.1.2.2.2.1).symm
theorem o160 : FnOk Tryz.prog 160 e160 := fk n160 ((base).add o31) Tryz.func160 (Λ := L160) (cF k160_2 nF)
def e153 : GEnt := entOf [.data true TMailbox] [(false, .bool)] fun a => Pu.impl_MailboxOk a.1
theorem o153 : FnOk Tryz.prog 153 e153 := fk { merge := fun | 1 => some 2 | _ => none } (((base).add o31).add o160) Tryz.func153 (Λ := Lam.nil) nF
def e154 : GEnt := entOf [.data false (.sl (.int .i64)), .data false (.int .i64)] [(false, .bool)] fun a => Pu.impl_hasInt a.1 a.2.1
def g154 : Gam := Gam.nil
def n154 : An := { mask := fun | 2 => [1, 4, 7, 8, 9] | _ => [] }
@[reducible] def d154_2 : SD := ⟨[B,DI,B,B,DB,B,B,.data false (.sl .arg (.int .i64)),DI,DI,B,B,B,B,B,B,B], [Z,Z,Z,Z,Z,Z,Z,Z,Z,Z,Z,Z,Z,Z,Z,Z,Z], .none⟩
def t154_2 {R : Type} (X : SD.D d154_2) (K : Ex → AS → Option R) := Pu.impl_hasInt_T2 (fun y0 => K (.exit 0) (SD.enc d154_2 ((X.1.1, (X.1.2.1, (X.1.2.2.1, (X.1.2.2.2.1, (y0, ()))))), (), ()))) (fun y0 y1 => K .ret (SD.enc d154_2 ((X.1.1, (y0, (X.1.2.2.1, (X.1.2.2.2.1, (y1, ()))))), (), ()))) X.1.1 X.1.2.1 X.1.2.2.1 X.1.2.2.2.1
def l154_2 : LEnt := ⟨d154_2, fun X K => iterL (t154_2 X K) fuel X.1.2.2.2.2.1⟩
def L154 : Lam := (Lam.nil).add 2 l154_2
theorem k154_2 : LOk E g154 n154 L154 (loopBody Tryz.f154 0) :=
  lok l154_2 (by kernel_rfl) fuel fun R X K => (loop_iter (σ := Int) (fun x => SD.enc d154_2 ((X.1.1, (X.1.2.1, (X.1.2.2.1, (X.1.2.2.2.1, (x, ()))))), (), ())) (t154_2 X K) (fun m x => by kernel_rfl) fuel X.1.2.2.2.2.1).symm
theorem o154 : FnOk Tryz.prog 154 e154 := fk n154 (base) Tryz.func154 (Λ := L154) (cF k154_2 nF)
def e155 : GEnt := entOf [.data false (.sl (.int .i64)), .data false (.int .i64)] [(false, (.sl (.own none) (.int .i64)))] fun a => Pu.impl_addOrdered a.1 a.2.1
def g155 : Gam := Gam.nil
def n155 : An := { mask := fun | 4 => [1, 5, 6, 10, 11, 12] | _ => [], merge := fun | 6 => some 22 | _ => none, mv := [23, 27, 34, 38] }
@[reducible] def d155_4 : SD := ⟨[B,DI,B,B,B,.data false (.sl (.own (some 61440)) (.int .i64)),DB,B,B,B,.data false (.sl .arg (.int .i64)),DI,DI,B,B,B,B,B,B,B,B,B,B,B,B,B,B,B,B,B,B,B,B,B,B,B,B,B,B], [Z,Z,Z,Z,Z,Z,Z,Z,Z,Z,Z,Z,Z,Z,Z,Z,Z,Z,Z,Z,Z,Z,Z,Z,Z,Z,Z,Z,Z,Z,Z,Z,Z,Z,Z,Z,Z,Z,Z], .none⟩
def t155_4 {R : Type} (X : SD.D d155_4) (K : Ex → AS → Option R) := Pu.impl_addOrdered_T4 (fun y0 y1 y2 => K (.exit 0) (SD.enc d155_4 ((X.1.1, (y0, (y1, (X.1.2.2.2.1, (X.1.2.2.2.2.1, (y2, ())))))), (), ()))) X.1.1 X.1.2.2.2.1 X.1.2.2.2.2.1
def l155_4 : LEnt := ⟨d155_4, fun X K => iterL (t155_4 X K) fuel (X.1.2.1, X.1.2.2.1, X.1.2.2.2.2.2.1)⟩
def L155 : Lam := (Lam.nil).add 4 l155_4
theorem k155_4 : LOk E g155 n155 L155 (loopBody Tryz.f155 0) :=
  lok l155_4 (by kernel_rfl) fuel fun R X K => (loop_iter (σ := (List Int) × Bool × Int) (fun x => SD.enc d155_4 ((X.1.1, (x.1, (x.2.1, (X.1.2.2.2.1, (X.1.2.2.2.2.1, (x.2.2, ())))))), (), ())) (t155_4 X K) (fun m x => by kernel_rfl) fuel (X.1.2.1, X.1.2.2.1, X.1.2.2.2.2.2.1)).symm
theorem o155 : FnOk Tryz.prog 155 e155 := fk n155 (base) Tryz.func155 (Λ := L155) (cF k155_4 nF)
def e216 : GEnt := entOf [.data true TPort] [(true, (.pair (.int .i64) (.pair .bool (.sl .arg (.int .i64)))))] fun a => Pu.impl_filterOf a.1
theorem o216 : FnOk Tryz.prog 216 e216 := fk {} (base) Tryz.func216 (Λ := Lam.nil) nF
def e217 : GEnt := entOf [.data false (.sl TPort), .data false (.int .i64)] [(false, (.int .i64))] fun a => Pu.impl_portWith a.1 a.2.1
def g217 : Gam := Gam.nil
def n217 : An := { mask := fun | 2 => [1, 4, 7, 8, 9] | _ => [], merge := fun | 4 => some 21 | _ => none }
@[reducible] def d217_2 : SD := ⟨[B,DI,B,B,DI,B,B,.data false (.sl .arg TPort),DI,DI,B,B,B,B,B,B,B,B,B,B,B,B,B,B], [Z,Z,Z,Z,Z,Z,Z,Z,Z,Z,Z,Z,Z,Z,Z,Z,Z,Z,Z,Z,Z,Z,Z,Z], .none⟩
def t217_2 {R : Type} (X : SD.D d217_2) (K : Ex → AS → Option R) := Pu.impl_portWith_T2 (fun y0 => K (.exit 0) (SD.enc d217_2 ((X.1.1, (X.1.2.1, (X.1.2.2.1, (X.1.2.2.2.1, (y0, ()))))), (), ()))) (fun y0 y1 => K .ret (SD.enc d217_2 ((X.1.1, (y0, (X.1.2.2.1, (X.1.2.2.2.1, (y1, ()))))), (), ()))) X.1.1 X.1.2.1 X.1.2.2.1 X.1.2.2.2.1
def l217_2 : LEnt := ⟨d217_2, fun X K => iterL (t217_2 X K) fuel X.1.2.2.2.2.1⟩
def L217 : Lam := (Lam.nil).add 2 l217_2
theorem k217_2 : LOk E g217 n217 L217 (loopBody Tryz.f217 0) :=
  lok l217_2 (by kernel_rfl) fuel fun R X K => (loop_iter (σ := Int) (fun x => SD.enc d217_2 ((X.1.1, (X.1.2.1, (X.1.2.2.1, (X.1.2.2.2.1, (x, ()))))), (), ())) (t217_2 X K) (fun m x => by kernel_rfl) fuel X.1.2.2.2.2.1).symm
theorem o217 : FnOk Tryz.prog 217 e217 := fk n217 (base) Tryz.func217 (Λ := L217) (cF k217_2 nF)
def e156 : GEnt := entOf [.data false (.sl TPort)] [(false, .bool)] fun a => Pu.impl_PortsOk a.1
def g156 : Gam := (((((Gam.nil).add 31 e31).add 154 e154).add 160 e160).add 216 e216).add 217 e217
def n156 : An := { mask := fun | 4 => [0, 2, 9, 10, 11] | _ => [], merge := fun | 6 => some 27 | 8 => some 37 | _ => none }
@[reducible] def d156_4 : SD := ⟨[.data false (.sl .arg TPort),B,DB,B,B,B,B,B,B,.data false (.sl .arg TPort),DI,DI,B,B,B,B,B,B,B,B,B,B,B,B,B,B,B,B,B,B,B,B,B,B,B,B,B,B,B], [Z,Z,Z,Z,Z,Z,Z,Z,Z,Z,Z,Z,Z,Z,Z,Z,Z,Z,Z,Z,Z,Z,Z,Z,Z,Z,Z,Z,Z,Z,Z,Z,Z,Z,Z,Z,Z,Z,Z], .none⟩
def t156_4 {R : Type} (X : SD.D d156_4) (K : Ex → AS → Option R) := Pu.impl_PortsOk_T4 (fun y0 => K (.exit 0) (SD.enc d156_4 ((X.1.1, (X.1.2.1, (X.1.2.2.1, (X.1.2.2.2.1, (y0, ()))))), (), ()))) (fun y0 y1 => K .ret (SD.enc d156_4 ((X.1.1, (y0, (X.1.2.2.1, (X.1.2.2.2.1, (y1, ()))))), (), ()))) X.1.1 X.1.2.1 X.1.2.2.1 X.1.2.2.2.1
def l156_4 : LEnt := ⟨d156_4, fun X K => iterL (t156_4 X K) fuel X.1.2.2.2.2.1⟩
def L156 : Lam := (Lam.nil).add 4 l156_4
theorem k156_4 : LOk E g156 n156 L156 (loopBody Tryz.f156 0) :=
  lok l156_4 (by kernel_rfl) fuel fun R X K => (loop_iter (σ := Int) (fun x => SD.enc d156_4 ((X.1.1, (X.1.2.1, (X.1.2.2.1, (X.1.2.2.2.1, (x, ()))))), (), ())) (t156_4 X K) (fun m x => by kernel_rfl) fuel X.1.2.2.2.2.1).symm
theorem o156 : FnOk Tryz.prog 156 e156 := fk n156 ((((((base).add o31).add o154).add o160).add o216).add o217) Tryz.func156 (Λ := L156) (cF k156_4 nF)
def e73 : GEnt := entOf [.data false (.sl TMailbox)] [(false, (.sl (.own none) TPort)), (false, .bool)] fun a => Pu.impl_PortsOf a.1
def g73 : Gam := (((((Gam.nil).add 31 e31).add 153 e153).add 154 e154).add 155 e155).add 156 e156
def n73 : An := { mask := fun | 6 => [2, 3, 4, 5, 18, 19, 20] | 12 => [2, 3, 4, 5, 7, 8, 18, 19, 20, 32, 33, 34] | _ => [], mv := [53, 57, 63, 69] }
@[reducible] def d73_12 : SD := ⟨[B,B,.data false (.sl (.own (some 24576)) TPort),DB,.data false (.sl (.own (some 49152)) TPort),.data false (.sl (.own (some 61440)) (.int .i64)),B,.ptr 7 0,.data false (.sl (.own (some 98304)) (.int .i64)),B,B,B,B,B,B,B,B,B,.data false (.sl .arg TMailbox),DI,DI,B,B,B,B,B,B,B,B,B,B,B,.data false (.sl (.own (some 393216)) (.int .i64)),DI,DI,B,B,B,B,B,B,B,B,B,B,B,B,B,B,B,B,B,B,B,B,B,B,B,B,B,B,B,B,B,B,B,B,B,B,B], [Z,Z,Z,Z,Z,Z,Z,some (.pair (.pair (.int .i64) (.pair .bool (.sl .arg (.int .i64)))) (.pair (.int .i64) (.pair (.int .i64) (.int .i64)))),Z,Z,Z,Z,Z,Z,Z,Z,Z,Z,Z,Z,Z,Z,Z,Z,Z,Z,Z,Z,Z,Z,Z,Z,Z,Z,Z,Z,Z,Z,Z,Z,Z,Z,Z,Z,Z,Z,Z,Z,Z,Z,Z,Z,Z,Z,Z,Z,Z,Z,Z,Z,Z,Z,Z,Z,Z,Z,Z,Z,Z,Z], .none⟩
def t73_12 {R : Type} (X : SD.D d73_12) (K : Ex → AS → Option R) := Pu.impl_PortsOf_T12 (fun y0 y1 y2 => K (.exit 2) (SD.enc d73_12 ((X.1.1, (X.1.2.1, (X.1.2.2.1, (y0, (y1, (X.1.2.2.2.2.2.1, (X.1.2.2.2.2.2.2.1, (X.1.2.2.2.2.2.2.2.1, (X.1.2.2.2.2.2.2.2.2.1, (X.1.2.2.2.2.2.2.2.2.2.1, (y2, ()))))))))))), (X.2.1.1, ()), ()))) X.1.1 X.1.2.1 X.1.2.2.1 X.1.2.2.2.2.2.1 X.1.2.2.2.2.2.2.1 X.1.2.2.2.2.2.2.2.1 X.1.2.2.2.2.2.2.2.2.1 X.1.2.2.2.2.2.2.2.2.2.1 X.2.1.1
def l73_12 : LEnt := ⟨d73_12, fun X K => iterL (t73_12 X K) fuel (X.1.2.2.2.1, X.1.2.2.2.2.1, X.1.2.2.2.2.2.2.2.2.2.2.1)⟩
@[reducible] def d73_6 : SD := ⟨[B,B,.data false (.sl (.own (some 24576)) TPort),DB,.data false (.sl (.own (some 49152)) TPort),.data false (.sl (.own (some 61440)) (.int .i64)),B,B,B,B,B,B,B,B,B,B,B,B,.data false (.sl .arg TMailbox),DI,DI,B,B,B,B,B,B,B,B,B,B,B,B,B,B,B,B,B,B,B,B,B,B,B,B,B,B,B,B,B,B,B,B,B,B,B,B,B,B,B,B,B,B,B,B,B,B,B,B,B], [Z,Z,Z,Z,Z,Z,Z,Z,Z,Z,Z,Z,Z,Z,Z,Z,Z,Z,Z,Z,Z,Z,Z,Z,Z,Z,Z,Z,Z,Z,Z,Z,Z,Z,Z,Z,Z,Z,Z,Z,Z,Z,Z,Z,Z,Z,Z,Z,Z,Z,Z,Z,Z,Z,Z,Z,Z,Z,Z,Z,Z,Z,Z,Z,Z,Z,Z,Z,Z,Z], .none⟩
def t73_6 {R : Type} (X : SD.D d73_6) (K : Ex → AS → Option R) := Pu.impl_PortsOf_T6 (fun y0 y1 y2 => K (.exit 0) (SD.enc d73_6 ((X.1.1, (X.1.2.1, (y0, (y1, (X.1.2.2.2.2.1, (X.1.2.2.2.2.2.1, (y2, ()))))))), (), ()))) (fun y0 y1 y2 y3 y4 => K .ret (SD.enc d73_6 ((y0, (y1, (y2, (y3, (X.1.2.2.2.2.1, (X.1.2.2.2.2.2.1, (y4, ()))))))), (), ()))) X.1.1 X.1.2.1 X.1.2.2.2.2.1 X.1.2.2.2.2.2.1
def l73_6 : LEnt := ⟨d73_6, fun X K => iterL (t73_6 X K) fuel (X.1.2.2.1, X.1.2.2.2.1, X.1.2.2.2.2.2.2.1)⟩
def L73 : Lam := ((Lam.nil).add 12 l73_12).add 6 l73_6
theorem k73_12 : LOk E g73 n73 L73 (loopBody Tryz.f73 1) :=
  lok l73_12 (by kernel_rfl) fuel fun R X K => (loop_iter (σ := (List Int) × (List Int) × Int) (fun x => SD.enc d73_12 ((X.1.1, (X.1.2.1, (X.1.2.2.1, (x.1, (x.2.1, (X.1.2.2.2.2.2.1, (X.1.2.2.2.2.2.2.1, (X.1.2.2.2.2.2.2.2.1, (X.1.2.2.2.2.2.2.2.2.1, (X.1.2.2.2.2.2.2.2.2.2.1, (x.2.2, ()))))))))))), (X.2.1.1, ()), ())) (t73_12 X K) (fun m x => by kernel_rfl) fuel (X.1.2.2.2.1, X.1.2.2.2.2.1, X.1.2.2.2.2.2.2.2.2.2.2.1)).symm
theorem k73_6 : LOk E g73 n73 L73 (loopBody Tryz.f73 0) :=
  lok l73_6 (by kernel_rfl) fuel fun R X K => (loop_iter (σ := (List Pu.Port) × (List Int) × Int) (fun x => SD.enc d73_6 ((X.1.1, (X.1.2.1, (x.1, (x.2.1, (X.1.2.2.2.2.1, (X.1.2.2.2.2.2.1, (x.2.2, ()))))))), (), ())) (t73_6 X K) (fun m x => by kernel_rfl) fuel (X.1.2.2.1, X.1.2.2.2.1, X.1.2.2.2.2.2.2.1)).symm
theorem o73 : FnOk Tryz.prog 73 e73 := fk n73 ((((((base).add o31).add o153).add o154).add o155).add o156) Tryz.func73 (Λ := L73) (cF k73_6 (cF k73_12 nF))
def e157 : GEnt := entOf [.data true (.sl .str)] [(false, .bool)] fun a => Pu.impl_MemoryOk a.1
def g157 : Gam := Gam.nil
def n157 : An := { mask := fun | 2 => [1, 2, 6, 7, 8] | _ => [] }
@[reducible] def d157_2 : SD := ⟨[B,.ptr 1 0,DB,B,B,B,.data false (.sl .arg .str),DI,DI,B,B,B,B,B,B,B,B,B,B,B], [Z,some (.sl .arg .str),Z,Z,Z,Z,Z,Z,Z,Z,Z,Z,Z,Z,Z,Z,Z,Z,Z,Z], .none⟩
def t157_2 {R : Type} (X : SD.D d157_2) (K : Ex → AS → Option R) := Pu.impl_MemoryOk_T2 (fun y0 => K (.exit 0) (SD.enc d157_2 ((X.1.1, (X.1.2.1, (X.1.2.2.1, (y0, ())))), (X.2.1.1, ()), ()))) (fun y0 y1 => K .ret (SD.enc d157_2 ((y0, (X.1.2.1, (X.1.2.2.1, (y1, ())))), (X.2.1.1, ()), ()))) X.1.1 X.1.2.1 X.1.2.2.1 X.2.1.1
def l157_2 : LEnt := ⟨d157_2, fun X K => iterL (t157_2 X K) fuel X.1.2.2.2.1⟩
def L157 : Lam := (Lam.nil).add 2 l157_2
theorem k157_2 : LOk E g157 n157 L157 (loopBody Tryz.f157 0) :=
  lok l157_2 (by kernel_rfl) fuel fun R X K => (loop_iter (σ := Int) (fun x => SD.enc d157_2 ((X.1.1, (X.1.2.1, (X.1.2.2.1, (x, ())))), (X.2.1.1, ()), ())) (t157_2 X K) (fun m x => by kernel_rfl) fuel X.1.2.2.2.1).symm
theorem o157 : FnOk Tryz.prog 157 e157 := fk n157 (base) Tryz.func157 (Λ := L157) (cF k157_2 nF)
def e218 : GEnt := entOf [.data false (.sl TMapping), .data false (.int .i64), .data false (.int .i64)] [(false, (.int .i64))] fun a => Pu.impl_pageMapping a.1 a.2.1 a.2.2.1
def g218 : Gam := Gam.nil
def n218 : An := { mask := fun | 2 => [1, 2, 6, 9, 10, 11] | _ => [], merge := fun | 4 => some 25 | _ => none }
@[reducible] def d218_2 : SD := ⟨[B,DI,DI,B,B,B,DI,B,B,.data false (.sl .arg TMapping),DI,DI,B,B,B,B,B,B,B,B,B,B,B,B,B,B,B,B], [Z,Z,Z,Z,Z,Z,Z,Z,Z,Z,Z,Z,Z,Z,Z,Z,Z,Z,Z,Z,Z,Z,Z,Z,Z,Z,Z,Z], .none⟩
def t218_2 {R : Type} (X : SD.D d218_2) (K : Ex → AS → Option R) := Pu.impl_pageMapping_T2 (fun y0 => K (.exit 0) (SD.enc d218_2 ((X.1.1, (X.1.2.1, (X.1.2.2.1, (X.1.2.2.2.1, (X.1.2.2.2.2.1, (y0, ())))))), (), ()))) (fun y0 y1 => K .ret (SD.enc d218_2 ((X.1.1, (X.1.2.1, (y0, (X.1.2.2.2.1, (X.1.2.2.2.2.1, (y1, ())))))), (), ()))) X.1.1 X.1.2.1 X.1.2.2.1 X.1.2.2.2.1 X.1.2.2.2.2.1
def l218_2 : LEnt := ⟨d218_2, fun X K => iterL (t218_2 X K) fuel X.1.2.2.2.2.2.1⟩
def L218 : Lam := (Lam.nil).add 2 l218_2
theorem k218_2 : LOk E g218 n218 L218 (loopBody Tryz.f218 0) :=
  lok l218_2 (by kernel_rfl) fuel fun R X K => (loop_iter (σ := Int) (fun x => SD.enc d218_2 ((X.1.1, (X.1.2.1, (X.1.2.2.1, (X.1.2.2.2.1, (X.1.2.2.2.2.1, (x, ())))))), (), ())) (t218_2 X K) (fun m x => by kernel_rfl) fuel X.1.2.2.2.2.2.1).symm
theorem o218 : FnOk Tryz.prog 218 e218 := fk n218 (base) Tryz.func218 (Λ := L218) (cF k218_2 nF)
def e158 : GEnt := entOf [.data false (.sl TMapping)] [(false, .bool)] fun a => Pu.impl_MappingsOk a.1
def g158 : Gam := ((Gam.nil).add 31 e31).add 218 e218
def n158 : An := { mask := fun | 2 => [0, 2, 5, 6, 7] | _ => [], merge := fun | 4 => some 37 | _ => none }
@[reducible] def d158_2 : SD := ⟨[.data false (.sl .arg TMapping),B,DB,B,B,.data false (.sl .arg TMapping),DI,DI,B,B,B,B,B,B,B,B,B,B,B,B,B,B,B,B,B,B,B,B,B,B,B,B,B,B,B,B,B,B,B,B,B,B], [Z,Z,Z,Z,Z,Z,Z,Z,Z,Z,Z,Z,Z,Z,Z,Z,Z,Z,Z,Z,Z,Z,Z,Z,Z,Z,Z,Z,Z,Z,Z,Z,Z,Z,Z,Z,Z,Z,Z,Z,Z,Z], .none⟩
def t158_2 {R : Type} (X : SD.D d158_2) (K : Ex → AS → Option R) := Pu.impl_MappingsOk_T2 (fun y0 => K (.exit 0) (SD.enc d158_2 ((X.1.1, (X.1.2.1, (X.1.2.2.1, (X.1.2.2.2.1, (y0, ()))))), (), ()))) (fun y0 y1 => K .ret (SD.enc d158_2 ((X.1.1, (y0, (X.1.2.2.1, (X.1.2.2.2.1, (y1, ()))))), (), ()))) X.1.1 X.1.2.1 X.1.2.2.1 X.1.2.2.2.1
def l158_2 : LEnt := ⟨d158_2, fun X K => iterL (t158_2 X K) fuel X.1.2.2.2.2.1⟩
def L158 : Lam := (Lam.nil).add 2 l158_2
theorem k158_2 : LOk E g158 n158 L158 (loopBody Tryz.f158 0) :=
  lok l158_2 (by kernel_rfl) fuel fun R X K => (loop_iter (σ := Int) (fun x => SD.enc d158_2 ((X.1.1, (X.1.2.1, (X.1.2.2.1, (X.1.2.2.2.1, (x, ()))))), (), ())) (t158_2 X K) (fun m x => by kernel_rfl) fuel X.1.2.2.2.2.1).symm
theorem o158 : FnOk Tryz.prog 158 e158 := fk n158 (((base).add o31).add o218) Tryz.func158 (Λ := L158) (cF k158_2 nF)
def e162 : GEnt := entOf [.data true TPool] [(false, .bool)] fun a => Pu.impl_PoolOk a.1
def g162 : Gam := (Gam.nil).add 31 e31
def n162 : An := { mask := fun | 5 => [1, 2, 3, 26, 27, 28] | _ => [], merge := fun | 1 => some 21 | 7 => some 43 | _ => none }
@[reducible] def d162_5 : SD := ⟨[B,.ptr 1 0,DB,.data false (.sl (.own (some 36864)) .bool),B,B,B,B,B,B,B,B,B,B,B,B,B,B,B,B,B,B,B,B,B,B,.data false (.sl .arg (.int .i64)),DI,DI,B,B,B,B,B,B,B,B,B,B,B,B,B,B,B,B,B,B,B], [Z,some (.pair (.int .i64) (.pair (.int .i64) (.pair (.int .i64) (.sl .arg (.int .i64))))),Z,Z,Z,Z,Z,Z,Z,Z,Z,Z,Z,Z,Z,Z,Z,Z,Z,Z,Z,Z,Z,Z,Z,Z,Z,Z,Z,Z,Z,Z,Z,Z,Z,Z,Z,Z,Z,Z,Z,Z,Z,Z,Z,Z,Z,Z], .none⟩
def t162_5 {R : Type} (X : SD.D d162_5) (K : Ex → AS → Option R) := Pu.impl_PoolOk_T5 (fun y0 y1 => K (.exit 0) (SD.enc d162_5 ((X.1.1, (y0, (X.1.2.2.1, (X.1.2.2.2.1, (y1, ()))))), (X.2.1.1, ()), ()))) (fun y0 y1 y2 => K .ret (SD.enc d162_5 ((y0, (y1, (X.1.2.2.1, (X.1.2.2.2.1, (y2, ()))))), (X.2.1.1, ()), ()))) X.1.1 X.1.2.2.1 X.1.2.2.2.1 X.2.1.1
def l162_5 : LEnt := ⟨d162_5, fun X K => iterL (t162_5 X K) fuel (X.1.2.1, X.1.2.2.2.2.1)⟩
def L162 : Lam := (Lam.nil).add 5 l162_5
theorem k162_5 : LOk E g162 n162 L162 (loopBody Tryz.f162 0) :=
  lok l162_5 (by kernel_rfl) fuel fun R X K => (loop_iter (σ := (List Bool) × Int) (fun x => SD.enc d162_5 ((X.1.1, (x.1, (X.1.2.2.1, (X.1.2.2.2.1, (x.2, ()))))), (X.2.1.1, ()), ())) (t162_5 X K) (fun m x => by kernel_rfl) fuel (X.1.2.1, X.1.2.2.2.2.1)).symm
theorem o162 : FnOk Tryz.prog 162 e162 := fk n162 ((base).add o31) Tryz.func162 (Λ := L162) (cF k162_5 nF)
def e260 : GEnt := entOf [.data false (.int .i64)] [(false, .bool)] fun a => Pu.impl_ringSize a.1
theorem o260 : FnOk Tryz.prog 260 e260 := fk { merge := fun | 1 => some 2 | _ => none } (base) Tryz.func260 (Λ := Lam.nil) nF
def e280 : GEnt := entOf [.data false (.int .i64), .data false (.int .i64)] [(false, (.int .i64))] fun a => Pu.impl_modulo a.1 a.2.1
theorem o280 : FnOk Tryz.prog 280 e280 := fk {} (base) Tryz.func280 (Λ := Lam.nil) nF
def e261 : GEnt := entOf [.data true TClock] [(false, (.int .i64))] fun a => Pu.impl_RingUsed a.1
theorem o261 : FnOk Tryz.prog 261 e261 := fk {} (((base).add o260).add o280) Tryz.func261 (Λ := Lam.nil) nF
def e219 : GEnt := entOf [.data true TClock] [(false, .bool)] fun a => Pu.impl_RingOk a.1
theorem o219 : FnOk Tryz.prog 219 e219 := fk { merge := fun | 1 => some 2 | _ => none } ((((base).add o31).add o260).add o261) Tryz.func219 (Λ := Lam.nil) nF
def e220 : GEnt := entOf [.data true TPool, .data false (.sl (.int .i64))] [(true, (.pair (.int .i64) (.pair (.int .i64) (.pair (.int .i64) (.sl (.own none) (.int .i64)))))), (false, .bool)] fun a => Pu.impl_GiveBuffers a.1 a.2.1
theorem o220 : FnOk Tryz.prog 220 e220 := fk { merge := fun | 3 => some 21 | _ => none, mv := [10, 24] } (((base).add o150).add o162) Tryz.func220 (Λ := Lam.nil) nF
def e159 : GEnt := entOf [.data true TTxQueue] [(false, .bool)] fun a => Pu.impl_TxOk a.1
def g159 : Gam := ((((Gam.nil).add 31 e31).add 162 e162).add 219 e219).add 220 e220
def n159 : An := { mask := fun | 6 => [1, 2, 3, 4, 30, 31, 32] | _ => [], merge := fun | 1 => some 24 | 8 => some 50 | _ => none, mv := [55] }
@[reducible] def d159_6 : SD := ⟨[B,.ptr 1 0,DB,DI,.data false (.sl (.own (some 49152)) (.int .i64)),B,B,B,B,B,B,B,B,B,B,B,B,B,B,B,B,B,B,B,B,B,B,B,B,B,.data false (.sl .arg TSent),DI,DI,B,B,B,B,B,B,B,B,B,B,B,B,B,B,B,B,B,B,B,B,B,B,B,B,B,B,B,B,B,B,B,B,B,B,B], [Z,some (.pair (.pair (.int .i64) (.pair (.int .i64) (.pair (.int .i64) (.int .i64)))) (.pair (.pair (.int .i64) (.pair (.int .i64) (.pair (.int .i64) (.sl .arg (.int .i64))))) (.pair (.sl .arg TSent) (.int .i64)))),Z,Z,Z,Z,Z,Z,Z,Z,Z,Z,Z,Z,Z,Z,Z,Z,Z,Z,Z,Z,Z,Z,Z,Z,Z,Z,Z,Z,Z,Z,Z,Z,Z,Z,Z,Z,Z,Z,Z,Z,Z,Z,Z,Z,Z,Z,Z,Z,Z,Z,Z,Z,Z,Z,Z,Z,Z,Z,Z,Z,Z,Z,Z,Z,Z,Z], .none⟩
def t159_6 {R : Type} (X : SD.D d159_6) (K : Ex → AS → Option R) := Pu.impl_TxOk_T6 (fun y0 y1 y2 => K (.exit 0) (SD.enc d159_6 ((X.1.1, (y0, (y1, (X.1.2.2.2.1, (X.1.2.2.2.2.1, (y2, ())))))), (X.2.1.1, ()), ()))) (fun y0 y1 y2 y3 => K .ret (SD.enc d159_6 ((y0, (y1, (y2, (X.1.2.2.2.1, (X.1.2.2.2.2.1, (y3, ())))))), (X.2.1.1, ()), ()))) X.1.1 X.1.2.2.2.1 X.1.2.2.2.2.1 X.2.1.1
def l159_6 : LEnt := ⟨d159_6, fun X K => iterL (t159_6 X K) fuel (X.1.2.1, X.1.2.2.1, X.1.2.2.2.2.2.1)⟩
def L159 : Lam := (Lam.nil).add 6 l159_6
theorem k159_6 : LOk E g159 n159 L159 (loopBody Tryz.f159 0) :=
  lok l159_6 (by kernel_rfl) fuel fun R X K => (loop_iter (σ := Int × (List Int) × Int) (fun x => SD.enc d159_6 ((X.1.1, (x.1, (x.2.1, (X.1.2.2.2.1, (X.1.2.2.2.2.1, (x.2.2, ())))))), (X.2.1.1, ()), ())) (t159_6 X K) (fun m x => by kernel_rfl) fuel (X.1.2.1, X.1.2.2.1, X.1.2.2.2.2.2.1)).symm
theorem o159 : FnOk Tryz.prog 159 e159 := fk n159 (((((base).add o31).add o162).add o219).add o220) Tryz.func159 (Λ := L159) (cF k159_6 nF)
def e221 : GEnt := entOf [.data true TBucket] [(false, .bool)] fun a => Pu.impl_QueueOk a.1
theorem o221 : FnOk Tryz.prog 221 e221 := fk { merge := fun | 1 => some 2 | _ => none } (((base).add o31).add o260) Tryz.func221 (Λ := Lam.nil) nF
def e262 : GEnt := entOf [.data true TSegment] [(false, .bool)] fun a => Pu.impl_SegmentOk a.1
theorem o262 : FnOk Tryz.prog 262 e262 := fk { merge := fun | 1 => some 18 | 5 => some 2 | 7 => some 2 | _ => none } ((base).add o31) Tryz.func262 (Λ := Lam.nil) nF
def e263 : GEnt := entOf [.data false (.int .i64)] [(false, .bool)] fun a => Pu.impl_streaming a.1
theorem o263 : FnOk Tryz.prog 263 e263 := fk { merge := fun | 1 => some 2 | _ => none } (base) Tryz.func263 (Λ := Lam.nil) nF
def e222 : GEnt := entOf [.data true TPacket] [(false, .bool)] fun a => Pu.impl_SuperOk a.1
theorem o222 : FnOk Tryz.prog 222 e222 := fk { merge := fun | 1 => some 2 | _ => none } ((((base).add o31).add o262).add o263) Tryz.func222 (Λ := Lam.nil) nF
def e161 : GEnt := entOf [.data true TRxQueue] [(false, .bool)] fun a => Pu.impl_RxOk a.1
theorem o161 : FnOk Tryz.prog 161 e161 := fk { merge := fun | 1 => some 42 | 5 => some 2 | _ => none } (((((base).add o31).add o219).add o221).add o222) Tryz.func161 (Λ := Lam.nil) nF
def e223 : GEnt := entOf [.data true TVector] [(false, .bool)] fun a => Pu.impl_due a.1
theorem o223 : FnOk Tryz.prog 223 e223 := fk { merge := fun | 1 => some 2 | _ => none } (base) Tryz.func223 (Λ := Lam.nil) nF
def e163 : GEnt := entOf [.data true TVector] [(false, .bool)] fun a => Pu.impl_VectorOk a.1
theorem o163 : FnOk Tryz.prog 163 e163 := fk { merge := fun | 1 => some 24 | 3 => some 2 | _ => none } (((base).add o31).add o223) Tryz.func163 (Λ := Lam.nil) nF
def e264 : GEnt := entOf [.data true TRule] [(false, .bool)] fun a => Pu.impl_RuleOk a.1
theorem o264 : FnOk Tryz.prog 264 e264 := fk { merge := fun | 1 => some 33 | 3 => some 54 | 5 => some 2 | _ => none } ((base).add o31) Tryz.func264 (Λ := Lam.nil) nF
def e224 : GEnt := entOf [.data false (.sl TRule)] [(false, .bool)] fun a => Pu.impl_RulesOk a.1
def g224 : Gam := (Gam.nil).add 264 e264
def n224 : An := { mask := fun | 2 => [0, 2, 5, 6, 7] | _ => [] }
@[reducible] def d224_2 : SD := ⟨[.data false (.sl .arg TRule),B,DB,B,B,.data false (.sl .arg TRule),DI,DI,B,B,B,B,B,B,B,B,B,B], [Z,Z,Z,Z,Z,Z,Z,Z,Z,Z,Z,Z,Z,Z,Z,Z,Z,Z], .none⟩
def t224_2 {R : Type} (X : SD.D d224_2) (K : Ex → AS → Option R) := Pu.impl_RulesOk_T2 (fun y0 => K (.exit 0) (SD.enc d224_2 ((X.1.1, (X.1.2.1, (X.1.2.2.1, (X.1.2.2.2.1, (y0, ()))))), (), ()))) (fun y0 y1 => K .ret (SD.enc d224_2 ((X.1.1, (y0, (X.1.2.2.1, (X.1.2.2.2.1, (y1, ()))))), (), ()))) X.1.1 X.1.2.1 X.1.2.2.1 X.1.2.2.2.1
def l224_2 : LEnt := ⟨d224_2, fun X K => iterL (t224_2 X K) fuel X.1.2.2.2.2.1⟩
def L224 : Lam := (Lam.nil).add 2 l224_2
theorem k224_2 : LOk E g224 n224 L224 (loopBody Tryz.f224 0) :=
  lok l224_2 (by kernel_rfl) fuel fun R X K => (loop_iter (σ := Int) (fun x => SD.enc d224_2 ((X.1.1, (X.1.2.1, (X.1.2.2.1, (X.1.2.2.2.1, (x, ()))))), (), ())) (t224_2 X K) (fun m x => by kernel_rfl) fuel X.1.2.2.2.2.1).symm
theorem o224 : FnOk Tryz.prog 224 e224 := fk n224 ((base).add o264) Tryz.func224 (Λ := L224) (cF k224_2 nF)
def e265 : GEnt := entOf [.data true (.sl TSlot), .data true TFlow] [(false, (.int .i64))] fun a => Pu.impl_slotOf a.1 a.2.1
def g265 : Gam := Gam.nil
def n265 : An := { mask := fun | 2 => [3, 4, 8, 9, 10] | _ => [], merge := fun | 4 => some 23 | _ => none }
@[reducible] def d265_2 : SD := ⟨[B,B,B,.ptr 3 0,DI,B,B,B,.data false (.sl .arg TSlot),DI,DI,B,B,B,B,B,B,B,B,B,B,B,B,B,B,B], [Z,Z,Z,some (.pair (.int .i64) (.pair (.int .i64) (.pair (.int .i64) (.pair (.int .i64) (.int .i64))))),Z,Z,Z,Z,Z,Z,Z,Z,Z,Z,Z,Z,Z,Z,Z,Z,Z,Z,Z,Z,Z,Z], .none⟩
def t265_2 {R : Type} (X : SD.D d265_2) (K : Ex → AS → Option R) := Pu.impl_slotOf_T2 (fun y0 => K (.exit 0) (SD.enc d265_2 ((X.1.1, (X.1.2.1, (X.1.2.2.1, (y0, ())))), (X.2.1.1, ()), ()))) (fun y0 y1 => K .ret (SD.enc d265_2 ((y0, (X.1.2.1, (X.1.2.2.1, (y1, ())))), (X.2.1.1, ()), ()))) X.1.1 X.1.2.1 X.1.2.2.1 X.2.1.1
def l265_2 : LEnt := ⟨d265_2, fun X K => iterL (t265_2 X K) fuel X.1.2.2.2.1⟩
def L265 : Lam := (Lam.nil).add 2 l265_2
theorem k265_2 : LOk E g265 n265 L265 (loopBody Tryz.f265 0) :=
  lok l265_2 (by kernel_rfl) fuel fun R X K => (loop_iter (σ := Int) (fun x => SD.enc d265_2 ((X.1.1, (X.1.2.1, (X.1.2.2.1, (x, ())))), (X.2.1.1, ()), ())) (t265_2 X K) (fun m x => by kernel_rfl) fuel X.1.2.2.2.1).symm
theorem o265 : FnOk Tryz.prog 265 e265 := fk n265 (base) Tryz.func265 (Λ := L265) (cF k265_2 nF)
def e281 : GEnt := entOf [.data true TFlow] [(false, (.int .i64))] fun a => Pu.impl_HomeSlot a.1
def g281 : Gam := (Gam.nil).add 280 e280
def n281 : An := { mask := fun | 3 => [3, 16, 17, 18] | _ => [] }
@[reducible] def d281_3 : SD := ⟨[B,B,B,DI,B,B,B,B,B,B,B,B,B,B,B,B,.data false (.sl (.own (some 196608)) (.int .i64)),DI,DI,B,B,B,B,B,B,B,B,B,B], [Z,Z,Z,Z,Z,Z,Z,Z,Z,Z,Z,Z,Z,Z,Z,Z,Z,Z,Z,Z,Z,Z,Z,Z,Z,Z,Z,Z,Z], .none⟩
def t281_3 {R : Type} (X : SD.D d281_3) (K : Ex → AS → Option R) := Pu.impl_HomeSlot_T3 (fun y0 y1 => K (.exit 0) (SD.enc d281_3 ((y0, (X.1.2.1, (X.1.2.2.1, (y1, ())))), (), ()))) X.1.2.1 X.1.2.2.1
def l281_3 : LEnt := ⟨d281_3, fun X K => iterL (t281_3 X K) fuel (X.1.1, X.1.2.2.2.1)⟩
def L281 : Lam := (Lam.nil).add 3 l281_3
theorem k281_3 : LOk E g281 n281 L281 (loopBody Tryz.f281 0) :=
  lok l281_3 (by kernel_rfl) fuel fun R X K => (loop_iter (σ := Int × Int) (fun x => SD.enc d281_3 ((x.1, (X.1.2.1, (X.1.2.2.1, (x.2, ())))), (), ())) (t281_3 X K) (fun m x => by kernel_rfl) fuel (X.1.1, X.1.2.2.2.1)).symm
theorem o281 : FnOk Tryz.prog 281 e281 := fk n281 ((base).add o280) Tryz.func281 (Λ := L281) (cF k281_3 nF)
def e266 : GEnt := entOf [.data true TFlow] [(false, (.sl (.own none) (.int .i64)))] fun a => Pu.impl_wayOf a.1
def g266 : Gam := (Gam.nil).add 281 e281
def n266 : An := { mask := fun | 3 => [1, 3, 4] | _ => [], mv := [10, 18] }
@[reducible] def d266_3 : SD := ⟨[B,.ptr 1 0,B,.data false (.sl (.own (some 36864)) (.int .i64)),DI,B,B,B,B,B,B,B,B,B,B,B,B,B,B], [Z,some (.pair (.int .i64) (.pair (.int .i64) (.pair (.int .i64) (.pair (.int .i64) (.int .i64))))),Z,Z,Z,Z,Z,Z,Z,Z,Z,Z,Z,Z,Z,Z,Z,Z,Z], .none⟩
def t266_3 {R : Type} (X : SD.D d266_3) (K : Ex → AS → Option R) := Pu.impl_wayOf_T3 (fun y0 y1 => K (.exit 0) (SD.enc d266_3 ((y0, (y1, ())), (X.2.1.1, ()), ()))) X.2.1.1
def l266_3 : LEnt := ⟨d266_3, fun X K => iterL (t266_3 X K) fuel (X.1.1, X.1.2.1)⟩
def L266 : Lam := (Lam.nil).add 3 l266_3
theorem k266_3 : LOk E g266 n266 L266 (loopBody Tryz.f266 0) :=
  lok l266_3 (by kernel_rfl) fuel fun R X K => (loop_iter (σ := (List Int) × Int) (fun x => SD.enc d266_3 ((x.1, (x.2, ())), (X.2.1.1, ()), ())) (t266_3 X K) (fun m x => by kernel_rfl) fuel (X.1.1, X.1.2.1)).symm
theorem o266 : FnOk Tryz.prog 266 e266 := fk n266 ((base).add o281) Tryz.func266 (Λ := L266) (cF k266_3 nF)
def e225 : GEnt := entOf [.data true (.sl TSlot)] [(false, .bool)] fun a => Pu.impl_TableOk a.1
def g225 : Gam := (((Gam.nil).add 31 e31).add 265 e265).add 266 e266
def n225 : An := { mask := fun | 4 => [1, 2, 12, 13, 14] | 14 => [1, 2, 3, 12, 13, 14, 49, 50, 51] | _ => [], merge := fun | 6 => some 28 | 9 => some 40 | _ => none }
@[reducible] def d225_14 : SD := ⟨[B,.ptr 1 0,DB,DI,B,B,B,B,B,B,B,B,.data false (.sl .arg TSlot),DI,DI,B,B,B,B,B,B,B,B,B,B,B,B,B,B,B,B,B,B,B,B,B,B,B,B,B,B,B,B,B,B,B,B,B,B,.data false (.sl (.own (some 602112)) (.int .i64)),DI,DI,B,B,B,B,B,B,B,B,B,B,B,B,B,B,B], [Z,some (.sl .arg TSlot),Z,Z,Z,Z,Z,Z,Z,Z,Z,Z,Z,Z,Z,Z,Z,Z,Z,Z,Z,Z,Z,Z,Z,Z,Z,Z,Z,Z,Z,Z,Z,Z,Z,Z,Z,Z,Z,Z,Z,Z,Z,Z,Z,Z,Z,Z,Z,Z,Z,Z,Z,Z,Z,Z,Z,Z,Z,Z,Z,Z,Z,Z,Z,Z,Z], .none⟩
def t225_14 {R : Type} (X : SD.D d225_14) (K : Ex → AS → Option R) := Pu.impl_TableOk_T14 (fun y0 => K (.exit 2) (SD.enc d225_14 ((X.1.1, (X.1.2.1, (X.1.2.2.1, (X.1.2.2.2.1, (X.1.2.2.2.2.1, (X.1.2.2.2.2.2.1, (X.1.2.2.2.2.2.2.1, (y0, ())))))))), (X.2.1.1, ()), ()))) (fun y0 y1 => K .ret (SD.enc d225_14 ((y0, (X.1.2.1, (X.1.2.2.1, (X.1.2.2.2.1, (X.1.2.2.2.2.1, (X.1.2.2.2.2.2.1, (X.1.2.2.2.2.2.2.1, (y1, ())))))))), (X.2.1.1, ()), ()))) X.1.1 X.1.2.1 X.1.2.2.1 X.1.2.2.2.1 X.1.2.2.2.2.1 X.1.2.2.2.2.2.1 X.1.2.2.2.2.2.2.1 X.2.1.1
def l225_14 : LEnt := ⟨d225_14, fun X K => iterL (t225_14 X K) fuel X.1.2.2.2.2.2.2.2.1⟩
@[reducible] def d225_4 : SD := ⟨[B,.ptr 1 0,DB,B,B,B,B,B,B,B,B,B,.data false (.sl .arg TSlot),DI,DI,B,B,B,B,B,B,B,B,B,B,B,B,B,B,B,B,B,B,B,B,B,B,B,B,B,B,B,B,B,B,B,B,B,B,B,B,B,B,B,B,B,B,B,B,B,B,B,B,B,B,B,B], [Z,some (.sl .arg TSlot),Z,Z,Z,Z,Z,Z,Z,Z,Z,Z,Z,Z,Z,Z,Z,Z,Z,Z,Z,Z,Z,Z,Z,Z,Z,Z,Z,Z,Z,Z,Z,Z,Z,Z,Z,Z,Z,Z,Z,Z,Z,Z,Z,Z,Z,Z,Z,Z,Z,Z,Z,Z,Z,Z,Z,Z,Z,Z,Z,Z,Z,Z,Z,Z,Z], .none⟩
def t225_4 {R : Type} (X : SD.D d225_4) (K : Ex → AS → Option R) := Pu.impl_TableOk_T4 (fun y0 => K (.exit 0) (SD.enc d225_4 ((X.1.1, (X.1.2.1, (X.1.2.2.1, (y0, ())))), (X.2.1.1, ()), ()))) (fun y0 y1 => K .ret (SD.enc d225_4 ((y0, (X.1.2.1, (X.1.2.2.1, (y1, ())))), (X.2.1.1, ()), ()))) X.1.1 X.1.2.1 X.1.2.2.1 X.2.1.1
def l225_4 : LEnt := ⟨d225_4, fun X K => iterL (t225_4 X K) fuel X.1.2.2.2.1⟩
def L225 : Lam := ((Lam.nil).add 14 l225_14).add 4 l225_4
theorem k225_14 : LOk E g225 n225 L225 (loopBody Tryz.f225 1) :=
  lok l225_14 (by kernel_rfl) fuel fun R X K => (loop_iter (σ := Int) (fun x => SD.enc d225_14 ((X.1.1, (X.1.2.1, (X.1.2.2.1, (X.1.2.2.2.1, (X.1.2.2.2.2.1, (X.1.2.2.2.2.2.1, (X.1.2.2.2.2.2.2.1, (x, ())))))))), (X.2.1.1, ()), ())) (t225_14 X K) (fun m x => by kernel_rfl) fuel X.1.2.2.2.2.2.2.2.1).symm
theorem k225_4 : LOk E g225 n225 L225 (loopBody Tryz.f225 0) :=
  lok l225_4 (by kernel_rfl) fuel fun R X K => (loop_iter (σ := Int) (fun x => SD.enc d225_4 ((X.1.1, (X.1.2.1, (X.1.2.2.1, (x, ())))), (X.2.1.1, ()), ())) (t225_4 X K) (fun m x => by kernel_rfl) fuel X.1.2.2.2.1).symm
theorem o225 : FnOk Tryz.prog 225 e225 := fk n225 ((((base).add o31).add o265).add o266) Tryz.func225 (Λ := L225) (cF k225_4 (cF k225_14 nF))
def e267 : GEnt := entOf [.data false (.int .i64)] [(false, .bool)] fun a => Pu.impl_tableSize a.1
theorem o267 : FnOk Tryz.prog 267 e267 := fk { merge := fun | 1 => some 2 | _ => none } (base) Tryz.func267 (Λ := Lam.nil) nF
def e226 : GEnt := entOf [.data true TSpread, .data false (.int .i64)] [(false, .bool)] fun a => Pu.impl_SpreadOk a.1 a.2.1
def g226 : Gam := ((Gam.nil).add 31 e31).add 267 e267
def n226 : An := { mask := fun | 4 => [1, 4, 24, 25, 26] | _ => [], merge := fun | 1 => some 22 | _ => none }
@[reducible] def d226_4 : SD := ⟨[B,DI,B,B,DB,B,B,B,B,B,B,B,B,B,B,B,B,B,B,B,B,B,B,B,.data false (.sl .arg (.int .i64)),DI,DI,B,B,B,B,B,B,B,B,B], [Z,Z,Z,Z,Z,Z,Z,Z,Z,Z,Z,Z,Z,Z,Z,Z,Z,Z,Z,Z,Z,Z,Z,Z,Z,Z,Z,Z,Z,Z,Z,Z,Z,Z,Z,Z], .none⟩
def t226_4 {R : Type} (X : SD.D d226_4) (K : Ex → AS → Option R) := Pu.impl_SpreadOk_T4 (fun y0 => K (.exit 0) (SD.enc d226_4 ((X.1.1, (X.1.2.1, (X.1.2.2.1, (X.1.2.2.2.1, (y0, ()))))), (), ()))) (fun y0 y1 => K .ret (SD.enc d226_4 ((X.1.1, (y0, (X.1.2.2.1, (X.1.2.2.2.1, (y1, ()))))), (), ()))) X.1.1 X.1.2.1 X.1.2.2.1 X.1.2.2.2.1
def l226_4 : LEnt := ⟨d226_4, fun X K => iterL (t226_4 X K) fuel X.1.2.2.2.2.1⟩
def L226 : Lam := (Lam.nil).add 4 l226_4
theorem k226_4 : LOk E g226 n226 L226 (loopBody Tryz.f226 0) :=
  lok l226_4 (by kernel_rfl) fuel fun R X K => (loop_iter (σ := Int) (fun x => SD.enc d226_4 ((X.1.1, (X.1.2.1, (X.1.2.2.1, (X.1.2.2.2.1, (x, ()))))), (), ())) (t226_4 X K) (fun m x => by kernel_rfl) fuel X.1.2.2.2.2.1).symm
theorem o226 : FnOk Tryz.prog 226 e226 := fk n226 (((base).add o31).add o267) Tryz.func226 (Λ := L226) (cF k226_4 nF)
def e164 : GEnt := entOf [.data true TSteering, .data false (.int .i64)] [(false, .bool)] fun a => Pu.impl_SteeringOk a.1 a.2.1
def g164 : Gam := (((Gam.nil).add 224 e224).add 225 e225).add 226 e226
def n164 : An := { mask := fun | 4 => [1, 2, 4, 27, 28, 29] | 10 => [1, 4, 45, 46, 47] | _ => [], merge := fun | 1 => some 25 | 6 => some 41 | 12 => some 59 | _ => none }
@[reducible] def d164_4 : SD := ⟨[B,DI,.ptr 2 0,B,DB,B,B,B,B,B,B,B,B,B,B,B,B,B,B,B,B,B,B,B,B,B,B,.data false (.sl .arg TRule),DI,DI,B,B,B,B,B,B,B,B,B,B,B,B,B,B,B,B,B,B,B,B,B,B,B,B,B,B,B,B,B,B,B], [Z,Z,some (.pair (.sl .arg TRule) (.pair (.sl .arg TSlot) (.pair .str (.sl .arg (.int .i64))))),Z,Z,Z,Z,Z,Z,Z,Z,Z,Z,Z,Z,Z,Z,Z,Z,Z,Z,Z,Z,Z,Z,Z,Z,Z,Z,Z,Z,Z,Z,Z,Z,Z,Z,Z,Z,Z,Z,Z,Z,Z,Z,Z,Z,Z,Z,Z,Z,Z,Z,Z,Z,Z,Z,Z,Z,Z,Z], .none⟩
def t164_4 {R : Type} (X : SD.D d164_4) (K : Ex → AS → Option R) := Pu.impl_SteeringOk_T4 (fun y0 => K (.exit 0) (SD.enc d164_4 ((X.1.1, (X.1.2.1, (X.1.2.2.1, (X.1.2.2.2.1, (y0, ()))))), (X.2.1.1, ()), ()))) (fun y0 y1 => K .ret (SD.enc d164_4 ((X.1.1, (y0, (X.1.2.2.1, (X.1.2.2.2.1, (y1, ()))))), (X.2.1.1, ()), ()))) X.1.1 X.1.2.1 X.1.2.2.1 X.1.2.2.2.1 X.2.1.1
def l164_4 : LEnt := ⟨d164_4, fun X K => iterL (t164_4 X K) fuel X.1.2.2.2.2.1⟩
@[reducible] def d164_10 : SD := ⟨[B,DI,B,B,DB,B,B,B,B,B,B,B,B,B,B,B,B,B,B,B,B,B,B,B,B,B,B,B,B,B,B,B,B,B,B,B,B,B,B,B,B,B,B,B,B,.data false (.sl .arg TSlot),DI,DI,B,B,B,B,B,B,B,B,B,B,B,B,B], [Z,Z,Z,Z,Z,Z,Z,Z,Z,Z,Z,Z,Z,Z,Z,Z,Z,Z,Z,Z,Z,Z,Z,Z,Z,Z,Z,Z,Z,Z,Z,Z,Z,Z,Z,Z,Z,Z,Z,Z,Z,Z,Z,Z,Z,Z,Z,Z,Z,Z,Z,Z,Z,Z,Z,Z,Z,Z,Z,Z,Z], .none⟩
def t164_10 {R : Type} (X : SD.D d164_10) (K : Ex → AS → Option R) := Pu.impl_SteeringOk_T10 (fun y0 => K (.exit 2) (SD.enc d164_10 ((X.1.1, (X.1.2.1, (X.1.2.2.1, (X.1.2.2.2.1, (y0, ()))))), (), ()))) (fun y0 y1 => K .ret (SD.enc d164_10 ((X.1.1, (y0, (X.1.2.2.1, (X.1.2.2.2.1, (y1, ()))))), (), ()))) X.1.1 X.1.2.1 X.1.2.2.1 X.1.2.2.2.1
def l164_10 : LEnt := ⟨d164_10, fun X K => iterL (t164_10 X K) fuel X.1.2.2.2.2.1⟩
def L164 : Lam := ((Lam.nil).add 4 l164_4).add 10 l164_10
theorem k164_4 : LOk E g164 n164 L164 (loopBody Tryz.f164 0) :=
  lok l164_4 (by kernel_rfl) fuel fun R X K => (loop_iter (σ := Int) (fun x => SD.enc d164_4 ((X.1.1, (X.1.2.1, (X.1.2.2.1, (X.1.2.2.2.1, (x, ()))))), (X.2.1.1, ()), ())) (t164_4 X K) (fun m x => by kernel_rfl) fuel X.1.2.2.2.2.1).symm
theorem k164_10 : LOk E g164 n164 L164 (loopBody Tryz.f164 1) :=
  lok l164_10 (by kernel_rfl) fuel fun R X K => (loop_iter (σ := Int) (fun x => SD.enc d164_10 ((X.1.1, (X.1.2.1, (X.1.2.2.1, (X.1.2.2.2.1, (x, ()))))), (), ())) (t164_10 X K) (fun m x => by kernel_rfl) fuel X.1.2.2.2.2.1).symm
theorem o164 : FnOk Tryz.prog 164 e164 := fk n164 ((((base).add o224).add o225).add o226) Tryz.func164 (Λ := L164) (cF k164_4 (cF k164_10 nF))
def e74 : GEnt := entOf [.data true THost] [(false, .bool)] fun a => Pu.impl_HostOk a.1
def g74 : Gam := (((((((((Gam.nil).add 31 e31).add 157 e157).add 158 e158).add 159 e159).add 160 e160).add 161 e161).add 162 e162).add 163 e163).add 164 e164
def n74 : An := { mask := fun | 5 => [1, 2, 3, 61, 62] | 12 => [1, 2, 3, 103, 104, 105] | _ => [], merge := fun | 2 => some 58 | 7 => some 89 | _ => none }
@[reducible] def d74_5 : SD := ⟨[B,.ptr 1 0,DB,DI,B,B,B,B,B,B,B,B,B,B,B,B,B,B,B,B,B,B,B,B,B,B,B,B,B,B,B,B,B,B,B,B,B,B,B,B,B,B,B,B,B,B,B,B,B,B,B,B,B,B,B,B,B,B,B,B,B,DI,DI,B,B,B,B,B,B,B,B,B,B,B,B,B,B,B,B,B,B,B,B,B,B,B,B,B,B,B,B,B,B,B,B,B,B,B,B,B,B,B,B,B,B,B,B,B,B,B,B,B,B,B,B,B,B], [Z,some (.pair (.sl .arg .str) (.pair (.sl .arg TMapping) (.pair (.pair (.pair (.int .i64) (.pair (.int .i64) (.pair (.int .i64) (.int .i64)))) (.pair (.pair (.int .i64) (.pair (.int .i64) (.pair (.int .i64) (.sl .arg (.int .i64))))) (.pair (.sl .arg TSent) (.int .i64)))) (.pair (.sl .arg TRxQueue) (.pair (.sl .arg TPool) (.pair (.sl .arg TVector) (.pair (.sl .arg .bool) (.pair (.pair (.int .i64) (.pair .bool (.sl .arg (.int .i64)))) (.pair (.pair (.sl .arg TRule) (.pair (.sl .arg TSlot) (.pair .str (.sl .arg (.int .i64))))) (.pair (.sl .arg TStream) (.pair .bool (.pair (.sl .arg .str) (.pair (.sl .arg (.int .i64)) (.pair (.sl .arg (.int .i64)) (.pair (.int .i64) (.pair (.int .i64) (.pair (.int .i64) (.pair (.int .i64) (.int .i64))))))))))))))))))),Z,Z,Z,Z,Z,Z,Z,Z,Z,Z,Z,Z,Z,Z,Z,Z,Z,Z,Z,Z,Z,Z,Z,Z,Z,Z,Z,Z,Z,Z,Z,Z,Z,Z,Z,Z,Z,Z,Z,Z,Z,Z,Z,Z,Z,Z,Z,Z,Z,Z,Z,Z,Z,Z,Z,Z,Z,Z,Z,Z,Z,Z,Z,Z,Z,Z,Z,Z,Z,Z,Z,Z,Z,Z,Z,Z,Z,Z,Z,Z,Z,Z,Z,Z,Z,Z,Z,Z,Z,Z,Z,Z,Z,Z,Z,Z,Z,Z,Z,Z,Z,Z,Z,Z,Z,Z,Z,Z,Z,Z,Z,Z,Z,Z,Z], .none⟩
def t74_5 {R : Type} (X : SD.D d74_5) (K : Ex → AS → Option R) := Pu.impl_HostOk_T5 (fun y0 => K (.exit 0) (SD.enc d74_5 ((X.1.1, (X.1.2.1, (X.1.2.2.1, (y0, ())))), (X.2.1.1, ()), ()))) (fun y0 y1 => K .ret (SD.enc d74_5 ((y0, (X.1.2.1, (X.1.2.2.1, (y1, ())))), (X.2.1.1, ()), ()))) X.1.1 X.1.2.1 X.1.2.2.1 X.2.1.1
def l74_5 : LEnt := ⟨d74_5, fun X K => iterL (t74_5 X K) fuel X.1.2.2.2.1⟩
@[reducible] def d74_12 : SD := ⟨[B,.ptr 1 0,DB,DI,B,B,B,B,B,B,B,B,B,B,B,B,B,B,B,B,B,B,B,B,B,B,B,B,B,B,B,B,B,B,B,B,B,B,B,B,B,B,B,B,B,B,B,B,B,B,B,B,B,B,B,B,B,B,B,B,B,B,B,B,B,B,B,B,B,B,B,B,B,B,B,B,B,B,B,B,B,B,B,B,B,B,B,B,B,B,B,B,B,B,B,B,B,B,B,B,B,B,B,.data false (.sl (.own (some 1265664)) (.int .i64)),DI,DI,B,B,B,B,B,B,B,B,B,B,B], [Z,some (.pair (.sl .arg .str) (.pair (.sl .arg TMapping) (.pair (.pair (.pair (.int .i64) (.pair (.int .i64) (.pair (.int .i64) (.int .i64)))) (.pair (.pair (.int .i64) (.pair (.int .i64) (.pair (.int .i64) (.sl .arg (.int .i64))))) (.pair (.sl .arg TSent) (.int .i64)))) (.pair (.sl .arg TRxQueue) (.pair (.sl .arg TPool) (.pair (.sl .arg TVector) (.pair (.sl .arg .bool) (.pair (.pair (.int .i64) (.pair .bool (.sl .arg (.int .i64)))) (.pair (.pair (.sl .arg TRule) (.pair (.sl .arg TSlot) (.pair .str (.sl .arg (.int .i64))))) (.pair (.sl .arg TStream) (.pair .bool (.pair (.sl .arg .str) (.pair (.sl .arg (.int .i64)) (.pair (.sl .arg (.int .i64)) (.pair (.int .i64) (.pair (.int .i64) (.pair (.int .i64) (.pair (.int .i64) (.int .i64))))))))))))))))))),Z,Z,Z,Z,Z,Z,Z,Z,Z,Z,Z,Z,Z,Z,Z,Z,Z,Z,Z,Z,Z,Z,Z,Z,Z,Z,Z,Z,Z,Z,Z,Z,Z,Z,Z,Z,Z,Z,Z,Z,Z,Z,Z,Z,Z,Z,Z,Z,Z,Z,Z,Z,Z,Z,Z,Z,Z,Z,Z,Z,Z,Z,Z,Z,Z,Z,Z,Z,Z,Z,Z,Z,Z,Z,Z,Z,Z,Z,Z,Z,Z,Z,Z,Z,Z,Z,Z,Z,Z,Z,Z,Z,Z,Z,Z,Z,Z,Z,Z,Z,Z,Z,Z,Z,Z,Z,Z,Z,Z,Z,Z,Z,Z,Z,Z], .none⟩
def t74_12 {R : Type} (X : SD.D d74_12) (K : Ex → AS → Option R) := Pu.impl_HostOk_T12 (fun y0 => K (.exit 2) (SD.enc d74_12 ((X.1.1, (X.1.2.1, (X.1.2.2.1, (X.1.2.2.2.1, (y0, ()))))), (X.2.1.1, ()), ()))) (fun y0 y1 => K .ret (SD.enc d74_12 ((y0, (X.1.2.1, (X.1.2.2.1, (X.1.2.2.2.1, (y1, ()))))), (X.2.1.1, ()), ()))) X.1.1 X.1.2.1 X.1.2.2.1 X.1.2.2.2.1 X.2.1.1
def l74_12 : LEnt := ⟨d74_12, fun X K => iterL (t74_12 X K) fuel X.1.2.2.2.2.1⟩
def L74 : Lam := ((Lam.nil).add 5 l74_5).add 12 l74_12
theorem k74_5 : LOk E g74 n74 L74 (loopBody Tryz.f74 0) :=
  lok l74_5 (by kernel_rfl) fuel fun R X K => (loop_iter (σ := Int) (fun x => SD.enc d74_5 ((X.1.1, (X.1.2.1, (X.1.2.2.1, (x, ())))), (X.2.1.1, ()), ())) (t74_5 X K) (fun m x => by kernel_rfl) fuel X.1.2.2.2.1).symm
theorem k74_12 : LOk E g74 n74 L74 (loopBody Tryz.f74 1) :=
  lok l74_12 (by kernel_rfl) fuel fun R X K => (loop_iter (σ := Int) (fun x => SD.enc d74_12 ((X.1.1, (X.1.2.1, (X.1.2.2.1, (X.1.2.2.2.1, (x, ()))))), (X.2.1.1, ()), ())) (t74_12 X K) (fun m x => by kernel_rfl) fuel X.1.2.2.2.2.1).symm
theorem o74 : FnOk Tryz.prog 74 e74 := fk n74 ((((((((((base).add o31).add o157).add o158).add o159).add o160).add o161).add o162).add o163).add o164) Tryz.func74 (Λ := L74) (cF k74_5 (cF k74_12 nF))
def e165 : GEnt := entOf [.data false (.sl (.int .i64)), .data false (.sl (.int .i64))] [(false, .bool)] fun a => Pu.slices_Equal_int a.1 a.2.1
def g165 : Gam := Gam.nil
def n165 : An := { mask := fun | 4 => [0, 1, 4, 12, 13] | _ => [] }
@[reducible] def d165_4 : SD := ⟨[.data false (.sl .arg (.int .i64)),.data false (.sl .arg (.int .i64)),B,B,DB,B,B,B,B,B,B,B,DI,DI,B,B,B,B,B,B,B,B,B,B,B,B], [Z,Z,Z,Z,Z,Z,Z,Z,Z,Z,Z,Z,Z,Z,Z,Z,Z,Z,Z,Z,Z,Z,Z,Z,Z,Z], .none⟩
def t165_4 {R : Type} (X : SD.D d165_4) (K : Ex → AS → Option R) := Pu.slices_Equal_int_T4 (fun y0 => K (.exit 0) (SD.enc d165_4 ((X.1.1, (X.1.2.1, (X.1.2.2.1, (X.1.2.2.2.1, (y0, ()))))), (), ()))) (fun y0 y1 => K .ret (SD.enc d165_4 ((X.1.1, (X.1.2.1, (y0, (X.1.2.2.2.1, (y1, ()))))), (), ()))) X.1.1 X.1.2.1 X.1.2.2.1 X.1.2.2.2.1
def l165_4 : LEnt := ⟨d165_4, fun X K => iterL (t165_4 X K) fuel X.1.2.2.2.2.1⟩
def L165 : Lam := (Lam.nil).add 4 l165_4
theorem k165_4 : LOk E g165 n165 L165 (loopBody Tryz.f165 0) :=
  lok l165_4 (by kernel_rfl) fuel fun R X K => (loop_iter (σ := Int) (fun x => SD.enc d165_4 ((X.1.1, (X.1.2.1, (X.1.2.2.1, (X.1.2.2.2.1, (x, ()))))), (), ())) (t165_4 X K) (fun m x => by kernel_rfl) fuel X.1.2.2.2.2.1).symm
theorem o165 : FnOk Tryz.prog 165 e165 := fk n165 (base) Tryz.func165 (Λ := L165) (cF k165_4 nF)
def e75 : GEnt := entOf [.data true TFilter, .data true TFilter] [(false, .bool)] fun a => Pu.impl_sameFilter a.1 a.2.1
theorem o75 : FnOk Tryz.prog 75 e75 := fk { merge := fun | 1 => some 4 | _ => none } ((base).add o165) Tryz.func75 (Λ := Lam.nil) nF
def e166 : GEnt := entOf [.data true TBucket] [(false, .bool)] fun a => Pu.impl_BucketOk a.1
theorem o166 : FnOk Tryz.prog 166 e166 := fk { merge := fun | 1 => some 2 | _ => none } ((base).add o31) Tryz.func166 (Λ := Lam.nil) nF
def e76 : GEnt := entOf [.data false (.sl TVirtualFunction), .data false (.sl TPort)] [(false, .bool)] fun a => Pu.impl_FunctionsOk a.1 a.2.1
def g76 : Gam := (((Gam.nil).add 31 e31).add 156 e156).add 166 e166
def n76 : An := { mask := fun | 4 => [0, 1, 4, 12, 13, 14] | 9 => [0, 1, 4, 6, 12, 13, 14, 52, 53, 54] | _ => [], merge := fun | 6 => some 49 | 11 => some 69 | _ => none }
@[reducible] def d76_9 : SD := ⟨[.data false (.sl .arg TVirtualFunction),.data false (.sl .arg TPort),B,B,DB,B,.ptr 6 0,B,B,B,B,B,.data false (.sl .arg TVirtualFunction),DI,DI,B,B,B,B,B,B,B,B,B,B,B,B,B,B,B,B,B,B,B,B,B,B,B,B,B,B,B,B,B,B,B,B,B,B,B,B,B,.data false (.sl .arg TVirtualFunction),DI,DI,B,B,B,B,B,B,B,B,B,B,B,B,B,B,B,B,B], [Z,Z,Z,Z,Z,Z,some (.pair (.int .i64) (.pair (.int .i64) (.pair (.pair (.int .i64) (.pair (.int .i64) (.int .i64))) (.pair .bool (.pair (.int .i64) (.int .i64)))))),Z,Z,Z,Z,Z,Z,Z,Z,Z,Z,Z,Z,Z,Z,Z,Z,Z,Z,Z,Z,Z,Z,Z,Z,Z,Z,Z,Z,Z,Z,Z,Z,Z,Z,Z,Z,Z,Z,Z,Z,Z,Z,Z,Z,Z,Z,Z,Z,Z,Z,Z,Z,Z,Z,Z,Z,Z,Z,Z,Z,Z,Z,Z,Z,Z], .none⟩
def t76_9 {R : Type} (X : SD.D d76_9) (K : Ex → AS → Option R) := Pu.impl_FunctionsOk_T9 (fun y0 => K (.exit 2) (SD.enc d76_9 ((X.1.1, (X.1.2.1, (X.1.2.2.1, (X.1.2.2.2.1, (X.1.2.2.2.2.1, (X.1.2.2.2.2.2.1, (X.1.2.2.2.2.2.2.1, (X.1.2.2.2.2.2.2.2.1, (y0, ()))))))))), (X.2.1.1, ()), ()))) (fun y0 y1 => K .ret (SD.enc d76_9 ((X.1.1, (X.1.2.1, (y0, (X.1.2.2.2.1, (X.1.2.2.2.2.1, (X.1.2.2.2.2.2.1, (X.1.2.2.2.2.2.2.1, (X.1.2.2.2.2.2.2.2.1, (y1, ()))))))))), (X.2.1.1, ()), ()))) X.1.1 X.1.2.1 X.1.2.2.1 X.1.2.2.2.1 X.1.2.2.2.2.1 X.1.2.2.2.2.2.1 X.1.2.2.2.2.2.2.1 X.1.2.2.2.2.2.2.2.1 X.2.1.1
def l76_9 : LEnt := ⟨d76_9, fun X K => iterL (t76_9 X K) fuel X.1.2.2.2.2.2.2.2.2.1⟩
@[reducible] def d76_4 : SD := ⟨[.data false (.sl .arg TVirtualFunction),.data false (.sl .arg TPort),B,B,DB,B,B,B,B,B,B,B,.data false (.sl .arg TVirtualFunction),DI,DI,B,B,B,B,B,B,B,B,B,B,B,B,B,B,B,B,B,B,B,B,B,B,B,B,B,B,B,B,B,B,B,B,B,B,B,B,B,B,B,B,B,B,B,B,B,B,B,B,B,B,B,B,B,B,B,B,B], [Z,Z,Z,Z,Z,Z,Z,Z,Z,Z,Z,Z,Z,Z,Z,Z,Z,Z,Z,Z,Z,Z,Z,Z,Z,Z,Z,Z,Z,Z,Z,Z,Z,Z,Z,Z,Z,Z,Z,Z,Z,Z,Z,Z,Z,Z,Z,Z,Z,Z,Z,Z,Z,Z,Z,Z,Z,Z,Z,Z,Z,Z,Z,Z,Z,Z,Z,Z,Z,Z,Z,Z], .none⟩
def t76_4 {R : Type} (X : SD.D d76_4) (K : Ex → AS → Option R) := Pu.impl_FunctionsOk_T4 (fun y0 => K (.exit 0) (SD.enc d76_4 ((X.1.1, (X.1.2.1, (X.1.2.2.1, (X.1.2.2.2.1, (X.1.2.2.2.2.1, (y0, ())))))), (), ()))) (fun y0 y1 => K .ret (SD.enc d76_4 ((X.1.1, (X.1.2.1, (y0, (X.1.2.2.2.1, (X.1.2.2.2.2.1, (y1, ())))))), (), ()))) X.1.1 X.1.2.1 X.1.2.2.1 X.1.2.2.2.1 X.1.2.2.2.2.1
def l76_4 : LEnt := ⟨d76_4, fun X K => iterL (t76_4 X K) fuel X.1.2.2.2.2.2.1⟩
def L76 : Lam := ((Lam.nil).add 9 l76_9).add 4 l76_4
theorem k76_9 : LOk E g76 n76 L76 (loopBody Tryz.f76 1) :=
  lok l76_9 (by kernel_rfl) fuel fun R X K => (loop_iter (σ := Int) (fun x => SD.enc d76_9 ((X.1.1, (X.1.2.1, (X.1.2.2.1, (X.1.2.2.2.1, (X.1.2.2.2.2.1, (X.1.2.2.2.2.2.1, (X.1.2.2.2.2.2.2.1, (X.1.2.2.2.2.2.2.2.1, (x, ()))))))))), (X.2.1.1, ()), ())) (t76_9 X K) (fun m x => by kernel_rfl) fuel X.1.2.2.2.2.2.2.2.2.1).symm
theorem k76_4 : LOk E g76 n76 L76 (loopBody Tryz.f76 0) :=
  lok l76_4 (by kernel_rfl) fuel fun R X K => (loop_iter (σ := Int) (fun x => SD.enc d76_4 ((X.1.1, (X.1.2.1, (X.1.2.2.1, (X.1.2.2.2.1, (X.1.2.2.2.2.1, (x, ())))))), (), ())) (t76_4 X K) (fun m x => by kernel_rfl) fuel X.1.2.2.2.2.2.1).symm
theorem o76 : FnOk Tryz.prog 76 e76 := fk n76 ((((base).add o31).add o156).add o166) Tryz.func76 (Λ := L76) (cF k76_4 (cF k76_9 nF))
def e77 : GEnt := entOf [.data false (.sl TVirtualFunction)] [(false, .bool)] fun a => Pu.impl_ownPlaces a.1
def g77 : Gam := Gam.nil
def n77 : An := { mask := fun | 2 => [2, 5, 6, 7] | _ => [], merge := fun | 4 => some 22 | _ => none }
@[reducible] def d77_2 : SD := ⟨[B,B,DB,B,B,.data false (.sl .arg TVirtualFunction),DI,DI,B,B,B,B,B,B,B,B,B,B,B,B,B,B,B,B], [Z,Z,Z,Z,Z,Z,Z,Z,Z,Z,Z,Z,Z,Z,Z,Z,Z,Z,Z,Z,Z,Z,Z,Z], .none⟩
def t77_2 {R : Type} (X : SD.D d77_2) (K : Ex → AS → Option R) := Pu.impl_ownPlaces_T2 (fun y0 => K (.exit 0) (SD.enc d77_2 ((X.1.1, (X.1.2.1, (X.1.2.2.1, (y0, ())))), (), ()))) (fun y0 y1 => K .ret (SD.enc d77_2 ((y0, (X.1.2.1, (X.1.2.2.1, (y1, ())))), (), ()))) X.1.1 X.1.2.1 X.1.2.2.1
def l77_2 : LEnt := ⟨d77_2, fun X K => iterL (t77_2 X K) fuel X.1.2.2.2.1⟩
def L77 : Lam := (Lam.nil).add 2 l77_2
theorem k77_2 : LOk E g77 n77 L77 (loopBody Tryz.f77 0) :=
  lok l77_2 (by kernel_rfl) fuel fun R X K => (loop_iter (σ := Int) (fun x => SD.enc d77_2 ((X.1.1, (X.1.2.1, (X.1.2.2.1, (x, ())))), (), ())) (t77_2 X K) (fun m x => by kernel_rfl) fuel X.1.2.2.2.1).symm
theorem o77 : FnOk Tryz.prog 77 e77 := fk n77 (base) Tryz.func77 (Λ := L77) (cF k77_2 nF)
def e167 : GEnt := entOf [.data true (.sl .str)] [(false, .bool)] fun a => Pu.impl_FlashOk a.1
theorem o167 : FnOk Tryz.prog 167 e167 := fk { merge := fun | 1 => some 2 | _ => none } (base) Tryz.func167 (Λ := Lam.nil) nF
def e227 : GEnt := entOf [.data false .str, .data false (.int .i64)] [(false, (.int .i64))] fun a => Pu.impl_Get32 a.1 a.2.1
theorem o227 : FnOk Tryz.prog 227 e227 := fk { merge := fun | 1 => some 13 | _ => none } (base) Tryz.func227 (Λ := Lam.nil) nF
def e268 : GEnt := entOf [.data false (.int .i64)] [(false, .str)] fun a => Pu.impl_Word32 a.1
theorem o268 : FnOk Tryz.prog 268 e268 := fk {} ((base).add o31) Tryz.func268 (Λ := Lam.nil) nF
def e269 : GEnt := entOf [.data false .str] [(false, (.int .i64))] fun a => Pu.impl_Crc32 a.1
def g269 : Gam := Gam.nil
def n269 : An := { mask := fun | 3 => [0, 3, 4] | 7 => [0, 3, 4, 5] | _ => [] }
@[reducible] def d269_7 : SD := ⟨[.data false .str,B,B,.data false (.int .u32),DI,DI,B,B,B,B,B,B,B,B,B,B,B,B,B,B,B,B,B,B,B,B,B,B,B,B,B,B,B,B], [Z,Z,Z,Z,Z,Z,Z,Z,Z,Z,Z,Z,Z,Z,Z,Z,Z,Z,Z,Z,Z,Z,Z,Z,Z,Z,Z,Z,Z,Z,Z,Z,Z,Z], .none⟩
def t269_7 {R : Type} (X : SD.D d269_7) (K : Ex → AS → Option R) := Pu.impl_Crc32_T7 (fun y0 y1 => K (.exit 2) (SD.enc d269_7 ((X.1.1, (y0, (X.1.2.2.1, (y1, ())))), (), ()))) X.1.1 X.1.2.2.1
def l269_7 : LEnt := ⟨d269_7, fun X K => iterL (t269_7 X K) fuel (X.1.2.1, X.1.2.2.2.1)⟩
@[reducible] def d269_3 : SD := ⟨[.data false .str,B,B,.data false (.int .u32),DI,B,B,B,B,B,B,B,B,B,B,B,B,B,B,B,B,B,B,B,B,B,B,B,B,B,B,B,B,B], [Z,Z,Z,Z,Z,Z,Z,Z,Z,Z,Z,Z,Z,Z,Z,Z,Z,Z,Z,Z,Z,Z,Z,Z,Z,Z,Z,Z,Z,Z,Z,Z,Z,Z], .none⟩
def t269_3 {R : Type} (X : SD.D d269_3) (K : Ex → AS → Option R) := Pu.impl_Crc32_T3 (fun y0 y1 => K (.exit 0) (SD.enc d269_3 ((X.1.1, (y0, (y1, ()))), (), ()))) X.1.1
def l269_3 : LEnt := ⟨d269_3, fun X K => iterL (t269_3 X K) fuel (X.1.2.1, X.1.2.2.1)⟩
def L269 : Lam := ((Lam.nil).add 7 l269_7).add 3 l269_3
theorem k269_7 : LOk E g269 n269 L269 (loopBody Tryz.f269 1) :=
  lok l269_7 (by kernel_rfl) fuel fun R X K => (loop_iter (σ := Int × Int) (fun x => SD.enc d269_7 ((X.1.1, (x.1, (X.1.2.2.1, (x.2, ())))), (), ())) (t269_7 X K) (fun m x => by kernel_rfl) fuel (X.1.2.1, X.1.2.2.2.1)).symm
theorem k269_3 : LOk E g269 n269 L269 (loopBody Tryz.f269 0) :=
  lok l269_3 (by kernel_rfl) fuel fun R X K => (loop_iter (σ := Int × Int) (fun x => SD.enc d269_3 ((X.1.1, (x.1, (x.2, ()))), (), ())) (t269_3 X K) (fun m x => by kernel_rfl) fuel (X.1.2.1, X.1.2.2.1)).symm
theorem o269 : FnOk Tryz.prog 269 e269 := fk n269 (base) Tryz.func269 (Λ := L269) (cF k269_3 (cF k269_7 nF))
def e228 : GEnt := entOf [.data false (.int .i64), .data false .str] [(false, .str), (false, .bool)] fun a => Pu.impl_MakeImage a.1 a.2.1
theorem o228 : FnOk Tryz.prog 228 e228 := fk { merge := fun | 1 => some 15 | _ => none } ((((base).add o31).add o268).add o269) Tryz.func228 (Λ := Lam.nil) nF
def e168 : GEnt := entOf [.data false .str] [(false, (.int .i64))] fun a => Pu.impl_ImageVersion a.1
theorem o168 : FnOk Tryz.prog 168 e168 := fk { merge := fun | 2 => some 19 | 5 => some 38 | _ => none } (((base).add o227).add o228) Tryz.func168 (Λ := Lam.nil) nF
def e78 : GEnt := entOf [.data true (.sl .str)] [(false, (.int .i64))] fun a => Pu.impl_BootBank a.1
theorem o78 : FnOk Tryz.prog 78 e78 := fk { merge := fun | 4 => some 18 | _ => none } (((base).add o167).add o168) Tryz.func78 (Λ := Lam.nil) nF
def e79 : GEnt := entOf [.data true TClock] [(false, .bool)] fun a => Pu.impl_ClockOk a.1
theorem o79 : FnOk Tryz.prog 79 e79 := fk { merge := fun | 1 => some 2 | _ => none } ((base).add o31) Tryz.func79 (Λ := Lam.nil) nF
def e30 : GEnt := entOf [.data true TCard] [(false, .bool)] fun a => Pu.impl_CardOk a.1
def g30 : Gam := (((((((Gam.nil).add 73 e73).add 74 e74).add 75 e75).add 76 e76).add 77 e77).add 78 e78).add 79 e79
def n30 : An := { mask := fun | 5 => [1, 2, 3, 34, 35, 36] | _ => [], merge := fun | 2 => some 32 | 7 => some 55 | 10 => some 2 | _ => none }
@[reducible] def d30_5 : SD := ⟨[B,.ptr 1 0,DB,.data false (.sl .loc TPort),B,B,B,B,B,B,B,B,B,B,B,B,B,B,B,B,B,B,B,B,B,B,B,B,B,B,B,B,B,B,.data false (.sl .arg THost),DI,DI,B,B,B,B,B,B,B,B,B,B,B,B,B,B,B,B,B,B,B,B,B,B,B,B,B,B,B,B,B,B,B,B,B,B,B,B,B,B,B,B], [Z,some (.pair (.sl .arg THost) (.pair (.sl .arg TVirtualFunction) (.pair (.sl .arg TMailbox) (.pair (.sl .arg .str) (.pair (.pair (.int .i64) (.pair (.int .i64) (.pair (.int .i64) (.int .i64)))) (.pair (.sl .arg (.int .i64)) (.sl .arg .str))))))),Z,Z,Z,Z,Z,Z,Z,Z,Z,Z,Z,Z,Z,Z,Z,Z,Z,Z,Z,Z,Z,Z,Z,Z,Z,Z,Z,Z,Z,Z,Z,Z,Z,Z,Z,Z,Z,Z,Z,Z,Z,Z,Z,Z,Z,Z,Z,Z,Z,Z,Z,Z,Z,Z,Z,Z,Z,Z,Z,Z,Z,Z,Z,Z,Z,Z,Z,Z,Z,Z,Z,Z,Z,Z,Z], .none⟩
def t30_5 {R : Type} (X : SD.D d30_5) (K : Ex → AS → Option R) := Pu.impl_CardOk_T5 (fun y0 => K (.exit 0) (SD.enc d30_5 ((X.1.1, (X.1.2.1, (X.1.2.2.1, (X.1.2.2.2.1, (y0, ()))))), (X.2.1.1, ()), ()))) (fun y0 y1 => K .ret (SD.enc d30_5 ((y0, (X.1.2.1, (X.1.2.2.1, (X.1.2.2.2.1, (y1, ()))))), (X.2.1.1, ()), ()))) X.1.1 X.1.2.1 X.1.2.2.1 X.1.2.2.2.1 X.2.1.1
def l30_5 : LEnt := ⟨d30_5, fun X K => iterL (t30_5 X K) fuel X.1.2.2.2.2.1⟩
def L30 : Lam := (Lam.nil).add 5 l30_5
theorem k30_5 : LOk E g30 n30 L30 (loopBody Tryz.f30 0) :=
  lok l30_5 (by kernel_rfl) fuel fun R X K => (loop_iter (σ := Int) (fun x => SD.enc d30_5 ((X.1.1, (X.1.2.1, (X.1.2.2.1, (X.1.2.2.2.1, (x, ()))))), (X.2.1.1, ()), ())) (t30_5 X K) (fun m x => by kernel_rfl) fuel X.1.2.2.2.2.1).symm
theorem o30 : FnOk Tryz.prog 30 e30 := fk n30 ((((((((base).add o73).add o74).add o75).add o76).add o77).add o78).add o79) Tryz.func30 (Λ := L30) (cF k30_5 nF)
def e229 : GEnt := entOf [.data true TFilter, .data false (.int .i64)] [(true, (.pair (.int .i64) (.pair .bool (.sl (.own none) (.int .i64))))), (false, .bool)] fun a => Pu.impl_AddVlan a.1 a.2.1
theorem o229 : FnOk Tryz.prog 229 e229 := fk { merge := fun | 2 => some 17 | _ => none, mv := [18, 29] } (((((base).add o33).add o154).add o155).add o160) Tryz.func229 (Λ := Lam.nil) nF
def e230 : GEnt := entOf [.data true TFilter, .data false (.int .i64)] [(true, (.pair (.int .i64) (.pair .bool (.sl (.own none) (.int .i64))))), (false, .bool)] fun a => Pu.impl_DropVlan a.1 a.2.1
def g230 : Gam := (((Gam.nil).add 33 e33).add 154 e154).add 160 e160
def n230 : An := { mask := fun | 6 => [1, 4, 6, 25, 26, 27] | _ => [], merge := fun | 2 => some 20 | _ => none, mv := [21, 35, 41] }
@[reducible] def d230_6 : SD := ⟨[B,DI,B,B,.ptr 4 0,B,.ptr 6 0,B,B,B,B,B,B,B,B,B,B,B,B,B,B,B,B,B,B,.data false (.sl .arg (.int .i64)),DI,DI,B,B,B,B,B,B,B,B,B,B,B,B,B,B], [Z,Z,Z,Z,some (.pair (.int .i64) (.pair .bool (.sl (.own (some 49159)) (.int .i64)))),Z,some (.pair (.int .i64) (.pair .bool (.sl (.own (some 73735)) (.int .i64)))),Z,Z,Z,Z,Z,Z,Z,Z,Z,Z,Z,Z,Z,Z,Z,Z,Z,Z,Z,Z,Z,Z,Z,Z,Z,Z,Z,Z,Z,Z,Z,Z,Z,Z,Z], .none⟩
def t230_6 {R : Type} (X : SD.D d230_6) (K : Ex → AS → Option R) := Pu.impl_DropVlan_T6 (fun y0 y1 => K (.exit 0) (SD.enc d230_6 ((X.1.1, (X.1.2.1, (X.1.2.2.1, (y0, ())))), (X.2.1.1, (y1, ())), ()))) X.1.1 X.1.2.1 X.1.2.2.1 X.2.1.1
def l230_6 : LEnt := ⟨d230_6, fun X K => iterL (t230_6 X K) fuel (X.1.2.2.2.1, X.2.1.2.1)⟩
def L230 : Lam := (Lam.nil).add 6 l230_6
theorem k230_6 : LOk E g230 n230 L230 (loopBody Tryz.f230 0) :=
  lok l230_6 (by kernel_rfl) fuel fun R X K => (loop_iter (σ := Int × Pu.Filter) (fun x => SD.enc d230_6 ((X.1.1, (X.1.2.1, (X.1.2.2.1, (x.1, ())))), (X.2.1.1, (x.2, ())), ())) (t230_6 X K) (fun m x => by kernel_rfl) fuel (X.1.2.2.2.1, X.2.1.2.1)).symm
theorem o230 : FnOk Tryz.prog 230 e230 := fk n230 ((((base).add o33).add o154).add o160) Tryz.func230 (Λ := L230) (cF k230_6 nF)
def e169 : GEnt := entOf [.data true TFilter, .data true TBucket] [(true, (.pair (.int .i64) (.pair .bool (.sl (.own none) (.int .i64))))), (false, (.int .i64))] fun a => Pu.impl_command a.1 a.2.1
theorem o169 : FnOk Tryz.prog 169 e169 := fk { mv := [21, 30, 39, 46], mb := fun | 39 => some 6 | _ => none, sb := fun | 4 => some 4 | _ => none } (((((base).add o33).add o160).add o229).add o230) Tryz.func169 (Λ := Lam.nil) nF
def e80 : GEnt := entOf [.data true TMailbox, .data true TBucket] [(true, (.pair (.pair (.int .i64) (.pair .bool (.sl (.own none) (.int .i64)))) (.pair (.int .i64) (.pair (.int .i64) (.int .i64))))), (false, (.int .i64))] fun a => Pu.impl_HandleMessage a.1 a.2.1
theorem o80 : FnOk Tryz.prog 80 e80 := fk { mv := [13, 20, 30, 31, 47], mb := fun | 20 => some 6 | 47 => some 6 | _ => none, sb := fun | 4 => some 4 | _ => none, fm := [49] } ((((base).add o81).add o153).add o169) Tryz.func80 (Λ := Lam.nil) nF
def e32 : GEnt := entOf [.data false (.sl TMailbox), .data false (.int .i64), .data true TBucket] [(false, (.sl (.own none) TMailbox)), (false, (.int .i64))] fun a => Pu.impl_commandBoxes a.1 a.2.1 a.2.2.1
theorem o32 : FnOk Tryz.prog 32 e32 := fk { mv := [14, 23, 32, 60], es := fun | 25 => some 8 | _ => none } (((((base).add o68).add o73).add o80).add o81) Tryz.func32 (Λ := Lam.nil) nF
def e8 : GEnt := entOf [.data true TCard, .data false (.int .i64), .data true TBucket] [(true, (.pair (.sl (.own none) THost) (.pair (.sl (.own none) TVirtualFunction) (.pair (.sl (.own none) TMailbox) (.pair (.sl (.own none) .str) (.pair (.pair (.int .i64) (.pair (.int .i64) (.pair (.int .i64) (.int .i64)))) (.pair (.sl (.own none) (.int .i64)) (.sl (.own none) .str)))))))), (false, (.int .i64))] fun a => Pu.impl_CardCommandTo a.1 a.2.1 a.2.2.1
theorem o8 : FnOk Tryz.prog 8 e8 := fk { merge := fun | 2 => some 24 | _ => none, mv := [25, 26, 34, 47] } ((((((base).add o29).add o30).add o31).add o32).add o33) Tryz.func8 (Λ := Lam.nil) nF
def e39 : GEnt := entOf [.data false (.sl (.int .i64)), .data false (.sl (.int .i64))] [(false, .bool)] fun a => Pu.laws_eqIntS a.1 a.2.1
def g39 : Gam := Gam.nil
def n39 : An := { mask := fun | 4 => [0, 1, 4, 5] | _ => [] }
@[reducible] def d39_4 : SD := ⟨[.data false (.sl .arg (.int .i64)),.data false (.sl .arg (.int .i64)),B,B,DB,DI,B,B,B,B,B,B,B,B,B,B,B,B,B,B,B,B,B,B,B,B], [Z,Z,Z,Z,Z,Z,Z,Z,Z,Z,Z,Z,Z,Z,Z,Z,Z,Z,Z,Z,Z,Z,Z,Z,Z,Z], .none⟩
def t39_4 {R : Type} (X : SD.D d39_4) (K : Ex → AS → Option R) := Pu.laws_eqIntS_T4 (fun y0 => K (.exit 0) (SD.enc d39_4 ((X.1.1, (X.1.2.1, (X.1.2.2.1, (y0, ())))), (), ()))) (fun y0 y1 => K .ret (SD.enc d39_4 ((X.1.1, (X.1.2.1, (y0, (y1, ())))), (), ()))) X.1.1 X.1.2.1 X.1.2.2.1
def l39_4 : LEnt := ⟨d39_4, fun X K => iterL (t39_4 X K) fuel X.1.2.2.2.1⟩
def L39 : Lam := (Lam.nil).add 4 l39_4
theorem k39_4 : LOk E g39 n39 L39 (loopBody Tryz.f39 0) :=
  lok l39_4 (by kernel_rfl) fuel fun R X K => (loop_iter (σ := Int) (fun x => SD.enc d39_4 ((X.1.1, (X.1.2.1, (X.1.2.2.1, (x, ())))), (), ())) (t39_4 X K) (fun m x => by kernel_rfl) fuel X.1.2.2.2.1).symm
theorem o39 : FnOk Tryz.prog 39 e39 := fk n39 (base) Tryz.func39 (Λ := L39) (cF k39_4 nF)
def e40 : GEnt := entOf [.data false (.sl .str), .data false (.sl .str)] [(false, .bool)] fun a => Pu.laws_eqStringS a.1 a.2.1
def g40 : Gam := Gam.nil
def n40 : An := { mask := fun | 4 => [0, 1, 4, 5] | _ => [] }
@[reducible] def d40_4 : SD := ⟨[.data false (.sl .arg .str),.data false (.sl .arg .str),B,B,DB,DI,B,B,B,B,B,B,B,B,B,B,B,B,B,B,B,B,B,B,B,B], [Z,Z,Z,Z,Z,Z,Z,Z,Z,Z,Z,Z,Z,Z,Z,Z,Z,Z,Z,Z,Z,Z,Z,Z,Z,Z], .none⟩
def t40_4 {R : Type} (X : SD.D d40_4) (K : Ex → AS → Option R) := Pu.laws_eqStringS_T4 (fun y0 => K (.exit 0) (SD.enc d40_4 ((X.1.1, (X.1.2.1, (X.1.2.2.1, (y0, ())))), (), ()))) (fun y0 y1 => K .ret (SD.enc d40_4 ((X.1.1, (X.1.2.1, (y0, (y1, ())))), (), ()))) X.1.1 X.1.2.1 X.1.2.2.1
def l40_4 : LEnt := ⟨d40_4, fun X K => iterL (t40_4 X K) fuel X.1.2.2.2.1⟩
def L40 : Lam := (Lam.nil).add 4 l40_4
theorem k40_4 : LOk E g40 n40 L40 (loopBody Tryz.f40 0) :=
  lok l40_4 (by kernel_rfl) fuel fun R X K => (loop_iter (σ := Int) (fun x => SD.enc d40_4 ((X.1.1, (X.1.2.1, (X.1.2.2.1, (x, ())))), (), ())) (t40_4 X K) (fun m x => by kernel_rfl) fuel X.1.2.2.2.1).symm
theorem o40 : FnOk Tryz.prog 40 e40 := fk n40 (base) Tryz.func40 (Λ := L40) (cF k40_4 nF)
def e170 : GEnt := entOf [.data true (.sl .str), .data true (.sl .str)] [(false, .bool)] fun a => Pu.laws_eqMemory a.1 a.2.1
theorem o170 : FnOk Tryz.prog 170 e170 := fk {} ((base).add o40) Tryz.func170 (Λ := Lam.nil) nF
def e231 : GEnt := entOf [.data true TMapping, .data true TMapping] [(false, .bool)] fun a => Pu.laws_eqMapping a.1 a.2.1
theorem o231 : FnOk Tryz.prog 231 e231 := fk {} (base) Tryz.func231 (Λ := Lam.nil) nF
def e171 : GEnt := entOf [.data false (.sl TMapping), .data false (.sl TMapping)] [(false, .bool)] fun a => Pu.laws_eqMappingS a.1 a.2.1
def g171 : Gam := (Gam.nil).add 231 e231
def n171 : An := { mask := fun | 4 => [0, 1, 4, 5] | _ => [] }
@[reducible] def d171_4 : SD := ⟨[.data false (.sl .arg TMapping),.data false (.sl .arg TMapping),B,B,DB,DI,B,B,B,B,B,B,B,B,B,B,B,B,B,B,B,B,B,B,B,B,B], [Z,Z,Z,Z,Z,Z,Z,Z,Z,Z,Z,Z,Z,Z,Z,Z,Z,Z,Z,Z,Z,Z,Z,Z,Z,Z,Z], .none⟩
def t171_4 {R : Type} (X : SD.D d171_4) (K : Ex → AS → Option R) := Pu.laws_eqMappingS_T4 (fun y0 => K (.exit 0) (SD.enc d171_4 ((X.1.1, (X.1.2.1, (X.1.2.2.1, (y0, ())))), (), ()))) (fun y0 y1 => K .ret (SD.enc d171_4 ((X.1.1, (X.1.2.1, (y0, (y1, ())))), (), ()))) X.1.1 X.1.2.1 X.1.2.2.1
def l171_4 : LEnt := ⟨d171_4, fun X K => iterL (t171_4 X K) fuel X.1.2.2.2.1⟩
def L171 : Lam := (Lam.nil).add 4 l171_4
theorem k171_4 : LOk E g171 n171 L171 (loopBody Tryz.f171 0) :=
  lok l171_4 (by kernel_rfl) fuel fun R X K => (loop_iter (σ := Int) (fun x => SD.enc d171_4 ((X.1.1, (X.1.2.1, (X.1.2.2.1, (x, ())))), (), ())) (t171_4 X K) (fun m x => by kernel_rfl) fuel X.1.2.2.2.1).symm
theorem o171 : FnOk Tryz.prog 171 e171 := fk n171 ((base).add o231) Tryz.func171 (Λ := L171) (cF k171_4 nF)
def e232 : GEnt := entOf [.data true TClock, .data true TClock] [(false, .bool)] fun a => Pu.laws_eqRing a.1 a.2.1
theorem o232 : FnOk Tryz.prog 232 e232 := fk {} (base) Tryz.func232 (Λ := Lam.nil) nF
def e233 : GEnt := entOf [.data true TPool, .data true TPool] [(false, .bool)] fun a => Pu.laws_eqPool a.1 a.2.1
theorem o233 : FnOk Tryz.prog 233 e233 := fk {} ((base).add o39) Tryz.func233 (Λ := Lam.nil) nF
def e270 : GEnt := entOf [.data true TSent, .data true TSent] [(false, .bool)] fun a => Pu.laws_eqSent a.1 a.2.1
theorem o270 : FnOk Tryz.prog 270 e270 := fk {} ((base).add o39) Tryz.func270 (Λ := Lam.nil) nF
def e234 : GEnt := entOf [.data false (.sl TSent), .data false (.sl TSent)] [(false, .bool)] fun a => Pu.laws_eqSentS a.1 a.2.1
def g234 : Gam := (Gam.nil).add 270 e270
def n234 : An := { mask := fun | 4 => [0, 1, 4, 5] | _ => [] }
@[reducible] def d234_4 : SD := ⟨[.data false (.sl .arg TSent),.data false (.sl .arg TSent),B,B,DB,DI,B,B,B,B,B,B,B,B,B,B,B,B,B,B,B,B,B,B,B,B,B], [Z,Z,Z,Z,Z,Z,Z,Z,Z,Z,Z,Z,Z,Z,Z,Z,Z,Z,Z,Z,Z,Z,Z,Z,Z,Z,Z], .none⟩
def t234_4 {R : Type} (X : SD.D d234_4) (K : Ex → AS → Option R) := Pu.laws_eqSentS_T4 (fun y0 => K (.exit 0) (SD.enc d234_4 ((X.1.1, (X.1.2.1, (X.1.2.2.1, (y0, ())))), (), ()))) (fun y0 y1 => K .ret (SD.enc d234_4 ((X.1.1, (X.1.2.1, (y0, (y1, ())))), (), ()))) X.1.1 X.1.2.1 X.1.2.2.1
def l234_4 : LEnt := ⟨d234_4, fun X K => iterL (t234_4 X K) fuel X.1.2.2.2.1⟩
def L234 : Lam := (Lam.nil).add 4 l234_4
theorem k234_4 : LOk E g234 n234 L234 (loopBody Tryz.f234 0) :=
  lok l234_4 (by kernel_rfl) fuel fun R X K => (loop_iter (σ := Int) (fun x => SD.enc d234_4 ((X.1.1, (X.1.2.1, (X.1.2.2.1, (x, ())))), (), ())) (t234_4 X K) (fun m x => by kernel_rfl) fuel X.1.2.2.2.1).symm
theorem o234 : FnOk Tryz.prog 234 e234 := fk n234 ((base).add o270) Tryz.func234 (Λ := L234) (cF k234_4 nF)
def e172 : GEnt := entOf [.data true TTxQueue, .data true TTxQueue] [(false, .bool)] fun a => Pu.laws_eqTxQueue a.1 a.2.1
theorem o172 : FnOk Tryz.prog 172 e172 := fk {} ((((base).add o232).add o233).add o234) Tryz.func172 (Λ := Lam.nil) nF
def e271 : GEnt := entOf [.data true TBucket, .data true TBucket] [(false, .bool)] fun a => Pu.laws_eqCompletionQueue a.1 a.2.1
theorem o271 : FnOk Tryz.prog 271 e271 := fk {} (base) Tryz.func271 (Λ := Lam.nil) nF
def e286 : GEnt := entOf [.data true TSegment, .data true TSegment] [(false, .bool)] fun a => Pu.laws_eqSegment a.1 a.2.1
theorem o286 : FnOk Tryz.prog 286 e286 := fk {} (base) Tryz.func286 (Λ := Lam.nil) nF
def e282 : GEnt := entOf [.data true TPacket, .data true TPacket] [(false, .bool)] fun a => Pu.laws_eqPacket a.1 a.2.1
theorem o282 : FnOk Tryz.prog 282 e282 := fk {} ((base).add o286) Tryz.func282 (Λ := Lam.nil) nF
def e272 : GEnt := entOf [.data true TSuper, .data true TSuper] [(false, .bool)] fun a => Pu.laws_eqSuper a.1 a.2.1
theorem o272 : FnOk Tryz.prog 272 e272 := fk {} ((base).add o282) Tryz.func272 (Λ := Lam.nil) nF
def e235 : GEnt := entOf [.data true TRxQueue, .data true TRxQueue] [(false, .bool)] fun a => Pu.laws_eqRxQueue a.1 a.2.1
theorem o235 : FnOk Tryz.prog 235 e235 := fk {} ((((base).add o232).add o271).add o272) Tryz.func235 (Λ := Lam.nil) nF
def e173 : GEnt := entOf [.data false (.sl TRxQueue), .data false (.sl TRxQueue)] [(false, .bool)] fun a => Pu.laws_eqRxQueueS a.1 a.2.1
def g173 : Gam := (Gam.nil).add 235 e235
def n173 : An := { mask := fun | 4 => [0, 1, 4, 5] | _ => [] }
@[reducible] def d173_4 : SD := ⟨[.data false (.sl .arg TRxQueue),.data false (.sl .arg TRxQueue),B,B,DB,DI,B,B,B,B,B,B,B,B,B,B,B,B,B,B,B,B,B,B,B,B,B], [Z,Z,Z,Z,Z,Z,Z,Z,Z,Z,Z,Z,Z,Z,Z,Z,Z,Z,Z,Z,Z,Z,Z,Z,Z,Z,Z], .none⟩
def t173_4 {R : Type} (X : SD.D d173_4) (K : Ex → AS → Option R) := Pu.laws_eqRxQueueS_T4 (fun y0 => K (.exit 0) (SD.enc d173_4 ((X.1.1, (X.1.2.1, (X.1.2.2.1, (y0, ())))), (), ()))) (fun y0 y1 => K .ret (SD.enc d173_4 ((X.1.1, (X.1.2.1, (y0, (y1, ())))), (), ()))) X.1.1 X.1.2.1 X.1.2.2.1
def l173_4 : LEnt := ⟨d173_4, fun X K => iterL (t173_4 X K) fuel X.1.2.2.2.1⟩
def L173 : Lam := (Lam.nil).add 4 l173_4
theorem k173_4 : LOk E g173 n173 L173 (loopBody Tryz.f173 0) :=
  lok l173_4 (by kernel_rfl) fuel fun R X K => (loop_iter (σ := Int) (fun x => SD.enc d173_4 ((X.1.1, (X.1.2.1, (X.1.2.2.1, (x, ())))), (), ())) (t173_4 X K) (fun m x => by kernel_rfl) fuel X.1.2.2.2.1).symm
theorem o173 : FnOk Tryz.prog 173 e173 := fk n173 ((base).add o235) Tryz.func173 (Λ := L173) (cF k173_4 nF)
def e174 : GEnt := entOf [.data false (.sl TPool), .data false (.sl TPool)] [(false, .bool)] fun a => Pu.laws_eqPoolS a.1 a.2.1
def g174 : Gam := (Gam.nil).add 233 e233
def n174 : An := { mask := fun | 4 => [0, 1, 4, 5] | _ => [] }
@[reducible] def d174_4 : SD := ⟨[.data false (.sl .arg TPool),.data false (.sl .arg TPool),B,B,DB,DI,B,B,B,B,B,B,B,B,B,B,B,B,B,B,B,B,B,B,B,B,B], [Z,Z,Z,Z,Z,Z,Z,Z,Z,Z,Z,Z,Z,Z,Z,Z,Z,Z,Z,Z,Z,Z,Z,Z,Z,Z,Z], .none⟩
def t174_4 {R : Type} (X : SD.D d174_4) (K : Ex → AS → Option R) := Pu.laws_eqPoolS_T4 (fun y0 => K (.exit 0) (SD.enc d174_4 ((X.1.1, (X.1.2.1, (X.1.2.2.1, (y0, ())))), (), ()))) (fun y0 y1 => K .ret (SD.enc d174_4 ((X.1.1, (X.1.2.1, (y0, (y1, ())))), (), ()))) X.1.1 X.1.2.1 X.1.2.2.1
def l174_4 : LEnt := ⟨d174_4, fun X K => iterL (t174_4 X K) fuel X.1.2.2.2.1⟩
def L174 : Lam := (Lam.nil).add 4 l174_4
theorem k174_4 : LOk E g174 n174 L174 (loopBody Tryz.f174 0) :=
  lok l174_4 (by kernel_rfl) fuel fun R X K => (loop_iter (σ := Int) (fun x => SD.enc d174_4 ((X.1.1, (X.1.2.1, (X.1.2.2.1, (x, ())))), (), ())) (t174_4 X K) (fun m x => by kernel_rfl) fuel X.1.2.2.2.1).symm
theorem o174 : FnOk Tryz.prog 174 e174 := fk n174 ((base).add o233) Tryz.func174 (Λ := L174) (cF k174_4 nF)
def e236 : GEnt := entOf [.data true TVector, .data true TVector] [(false, .bool)] fun a => Pu.laws_eqVector a.1 a.2.1
theorem o236 : FnOk Tryz.prog 236 e236 := fk {} (base) Tryz.func236 (Λ := Lam.nil) nF
def e175 : GEnt := entOf [.data false (.sl TVector), .data false (.sl TVector)] [(false, .bool)] fun a => Pu.laws_eqVectorS a.1 a.2.1
def g175 : Gam := (Gam.nil).add 236 e236
def n175 : An := { mask := fun | 4 => [0, 1, 4, 5] | _ => [] }
@[reducible] def d175_4 : SD := ⟨[.data false (.sl .arg TVector),.data false (.sl .arg TVector),B,B,DB,DI,B,B,B,B,B,B,B,B,B,B,B,B,B,B,B,B,B,B,B,B,B], [Z,Z,Z,Z,Z,Z,Z,Z,Z,Z,Z,Z,Z,Z,Z,Z,Z,Z,Z,Z,Z,Z,Z,Z,Z,Z,Z], .none⟩
def t175_4 {R : Type} (X : SD.D d175_4) (K : Ex → AS → Option R) := Pu.laws_eqVectorS_T4 (fun y0 => K (.exit 0) (SD.enc d175_4 ((X.1.1, (X.1.2.1, (X.1.2.2.1, (y0, ())))), (), ()))) (fun y0 y1 => K .ret (SD.enc d175_4 ((X.1.1, (X.1.2.1, (y0, (y1, ())))), (), ()))) X.1.1 X.1.2.1 X.1.2.2.1
def l175_4 : LEnt := ⟨d175_4, fun X K => iterL (t175_4 X K) fuel X.1.2.2.2.1⟩
def L175 : Lam := (Lam.nil).add 4 l175_4
theorem k175_4 : LOk E g175 n175 L175 (loopBody Tryz.f175 0) :=
  lok l175_4 (by kernel_rfl) fuel fun R X K => (loop_iter (σ := Int) (fun x => SD.enc d175_4 ((X.1.1, (X.1.2.1, (X.1.2.2.1, (x, ())))), (), ())) (t175_4 X K) (fun m x => by kernel_rfl) fuel X.1.2.2.2.1).symm
theorem o175 : FnOk Tryz.prog 175 e175 := fk n175 ((base).add o236) Tryz.func175 (Λ := L175) (cF k175_4 nF)
def e176 : GEnt := entOf [.data false (.sl .bool), .data false (.sl .bool)] [(false, .bool)] fun a => Pu.laws_eqBoolS a.1 a.2.1
def g176 : Gam := Gam.nil
def n176 : An := { mask := fun | 4 => [0, 1, 4, 5] | _ => [] }
@[reducible] def d176_4 : SD := ⟨[.data false (.sl .arg .bool),.data false (.sl .arg .bool),B,B,DB,DI,B,B,B,B,B,B,B,B,B,B,B,B,B,B,B,B,B,B,B,B], [Z,Z,Z,Z,Z,Z,Z,Z,Z,Z,Z,Z,Z,Z,Z,Z,Z,Z,Z,Z,Z,Z,Z,Z,Z,Z], .none⟩
def t176_4 {R : Type} (X : SD.D d176_4) (K : Ex → AS → Option R) := Pu.laws_eqBoolS_T4 (fun y0 => K (.exit 0) (SD.enc d176_4 ((X.1.1, (X.1.2.1, (X.1.2.2.1, (y0, ())))), (), ()))) (fun y0 y1 => K .ret (SD.enc d176_4 ((X.1.1, (X.1.2.1, (y0, (y1, ())))), (), ()))) X.1.1 X.1.2.1 X.1.2.2.1
def l176_4 : LEnt := ⟨d176_4, fun X K => iterL (t176_4 X K) fuel X.1.2.2.2.1⟩
def L176 : Lam := (Lam.nil).add 4 l176_4
theorem k176_4 : LOk E g176 n176 L176 (loopBody Tryz.f176 0) :=
  lok l176_4 (by kernel_rfl) fuel fun R X K => (loop_iter (σ := Int) (fun x => SD.enc d176_4 ((X.1.1, (X.1.2.1, (X.1.2.2.1, (x, ())))), (), ())) (t176_4 X K) (fun m x => by kernel_rfl) fuel X.1.2.2.2.1).symm
theorem o176 : FnOk Tryz.prog 176 e176 := fk n176 (base) Tryz.func176 (Λ := L176) (cF k176_4 nF)
def e177 : GEnt := entOf [.data true TFilter, .data true TFilter] [(false, .bool)] fun a => Pu.laws_eqFilter a.1 a.2.1
theorem o177 : FnOk Tryz.prog 177 e177 := fk {} ((base).add o39) Tryz.func177 (Λ := Lam.nil) nF
def e273 : GEnt := entOf [.data true TRule, .data true TRule] [(false, .bool)] fun a => Pu.laws_eqRule a.1 a.2.1
theorem o273 : FnOk Tryz.prog 273 e273 := fk {} (base) Tryz.func273 (Λ := Lam.nil) nF
def e237 : GEnt := entOf [.data false (.sl TRule), .data false (.sl TRule)] [(false, .bool)] fun a => Pu.laws_eqRuleS a.1 a.2.1
def g237 : Gam := (Gam.nil).add 273 e273
def n237 : An := { mask := fun | 4 => [0, 1, 4, 5] | _ => [] }
@[reducible] def d237_4 : SD := ⟨[.data false (.sl .arg TRule),.data false (.sl .arg TRule),B,B,DB,DI,B,B,B,B,B,B,B,B,B,B,B,B,B,B,B,B,B,B,B,B,B], [Z,Z,Z,Z,Z,Z,Z,Z,Z,Z,Z,Z,Z,Z,Z,Z,Z,Z,Z,Z,Z,Z,Z,Z,Z,Z,Z], .none⟩
def t237_4 {R : Type} (X : SD.D d237_4) (K : Ex → AS → Option R) := Pu.laws_eqRuleS_T4 (fun y0 => K (.exit 0) (SD.enc d237_4 ((X.1.1, (X.1.2.1, (X.1.2.2.1, (y0, ())))), (), ()))) (fun y0 y1 => K .ret (SD.enc d237_4 ((X.1.1, (X.1.2.1, (y0, (y1, ())))), (), ()))) X.1.1 X.1.2.1 X.1.2.2.1
def l237_4 : LEnt := ⟨d237_4, fun X K => iterL (t237_4 X K) fuel X.1.2.2.2.1⟩
def L237 : Lam := (Lam.nil).add 4 l237_4
theorem k237_4 : LOk E g237 n237 L237 (loopBody Tryz.f237 0) :=
  lok l237_4 (by kernel_rfl) fuel fun R X K => (loop_iter (σ := Int) (fun x => SD.enc d237_4 ((X.1.1, (X.1.2.1, (X.1.2.2.1, (x, ())))), (), ())) (t237_4 X K) (fun m x => by kernel_rfl) fuel X.1.2.2.2.1).symm
theorem o237 : FnOk Tryz.prog 237 e237 := fk n237 ((base).add o273) Tryz.func237 (Λ := L237) (cF k237_4 nF)
def e275 : GEnt := entOf [.data true TFlow, .data true TFlow] [(false, .bool)] fun a => Pu.laws_eqFlow a.1 a.2.1
theorem o275 : FnOk Tryz.prog 275 e275 := fk {} (base) Tryz.func275 (Λ := Lam.nil) nF
def e283 : GEnt := entOf [.data true TSlot, .data true TSlot] [(false, .bool)] fun a => Pu.laws_eqSlot a.1 a.2.1
theorem o283 : FnOk Tryz.prog 283 e283 := fk {} ((base).add o275) Tryz.func283 (Λ := Lam.nil) nF
def e274 : GEnt := entOf [.data false (.sl TSlot), .data false (.sl TSlot)] [(false, .bool)] fun a => Pu.laws_eqSlotS a.1 a.2.1
def g274 : Gam := (Gam.nil).add 283 e283
def n274 : An := { mask := fun | 4 => [0, 1, 4, 5] | _ => [] }
@[reducible] def d274_4 : SD := ⟨[.data false (.sl .arg TSlot),.data false (.sl .arg TSlot),B,B,DB,DI,B,B,B,B,B,B,B,B,B,B,B,B,B,B,B,B,B,B,B,B,B], [Z,Z,Z,Z,Z,Z,Z,Z,Z,Z,Z,Z,Z,Z,Z,Z,Z,Z,Z,Z,Z,Z,Z,Z,Z,Z,Z], .none⟩
def t274_4 {R : Type} (X : SD.D d274_4) (K : Ex → AS → Option R) := Pu.laws_eqSlotS_T4 (fun y0 => K (.exit 0) (SD.enc d274_4 ((X.1.1, (X.1.2.1, (X.1.2.2.1, (y0, ())))), (), ()))) (fun y0 y1 => K .ret (SD.enc d274_4 ((X.1.1, (X.1.2.1, (y0, (y1, ())))), (), ()))) X.1.1 X.1.2.1 X.1.2.2.1
def l274_4 : LEnt := ⟨d274_4, fun X K => iterL (t274_4 X K) fuel X.1.2.2.2.1⟩
def L274 : Lam := (Lam.nil).add 4 l274_4
theorem k274_4 : LOk E g274 n274 L274 (loopBody Tryz.f274 0) :=
  lok l274_4 (by kernel_rfl) fuel fun R X K => (loop_iter (σ := Int) (fun x => SD.enc d274_4 ((X.1.1, (X.1.2.1, (X.1.2.2.1, (x, ())))), (), ())) (t274_4 X K) (fun m x => by kernel_rfl) fuel X.1.2.2.2.1).symm
theorem o274 : FnOk Tryz.prog 274 e274 := fk n274 ((base).add o283) Tryz.func274 (Λ := L274) (cF k274_4 nF)
def e238 : GEnt := entOf [.data true (.sl TSlot), .data true (.sl TSlot)] [(false, .bool)] fun a => Pu.laws_eqFlowTable a.1 a.2.1
theorem o238 : FnOk Tryz.prog 238 e238 := fk {} ((base).add o274) Tryz.func238 (Λ := Lam.nil) nF
def e239 : GEnt := entOf [.data true TSpread, .data true TSpread] [(false, .bool)] fun a => Pu.laws_eqSpread a.1 a.2.1
theorem o239 : FnOk Tryz.prog 239 e239 := fk {} ((base).add o39) Tryz.func239 (Λ := Lam.nil) nF
def e178 : GEnt := entOf [.data true TSteering, .data true TSteering] [(false, .bool)] fun a => Pu.laws_eqSteering a.1 a.2.1
theorem o178 : FnOk Tryz.prog 178 e178 := fk {} ((((base).add o237).add o238).add o239) Tryz.func178 (Λ := Lam.nil) nF
def e240 : GEnt := entOf [.data true TStream, .data true TStream] [(false, .bool)] fun a => Pu.laws_eqStream a.1 a.2.1
theorem o240 : FnOk Tryz.prog 240 e240 := fk {} ((base).add o275) Tryz.func240 (Λ := Lam.nil) nF
def e179 : GEnt := entOf [.data false (.sl TStream), .data false (.sl TStream)] [(false, .bool)] fun a => Pu.laws_eqStreamS a.1 a.2.1
def g179 : Gam := (Gam.nil).add 240 e240
def n179 : An := { mask := fun | 4 => [0, 1, 4, 5] | _ => [] }
@[reducible] def d179_4 : SD := ⟨[.data false (.sl .arg TStream),.data false (.sl .arg TStream),B,B,DB,DI,B,B,B,B,B,B,B,B,B,B,B,B,B,B,B,B,B,B,B,B,B], [Z,Z,Z,Z,Z,Z,Z,Z,Z,Z,Z,Z,Z,Z,Z,Z,Z,Z,Z,Z,Z,Z,Z,Z,Z,Z,Z], .none⟩
def t179_4 {R : Type} (X : SD.D d179_4) (K : Ex → AS → Option R) := Pu.laws_eqStreamS_T4 (fun y0 => K (.exit 0) (SD.enc d179_4 ((X.1.1, (X.1.2.1, (X.1.2.2.1, (y0, ())))), (), ()))) (fun y0 y1 => K .ret (SD.enc d179_4 ((X.1.1, (X.1.2.1, (y0, (y1, ())))), (), ()))) X.1.1 X.1.2.1 X.1.2.2.1
def l179_4 : LEnt := ⟨d179_4, fun X K => iterL (t179_4 X K) fuel X.1.2.2.2.1⟩
def L179 : Lam := (Lam.nil).add 4 l179_4
theorem k179_4 : LOk E g179 n179 L179 (loopBody Tryz.f179 0) :=
  lok l179_4 (by kernel_rfl) fuel fun R X K => (loop_iter (σ := Int) (fun x => SD.enc d179_4 ((X.1.1, (X.1.2.1, (X.1.2.2.1, (x, ())))), (), ())) (t179_4 X K) (fun m x => by kernel_rfl) fuel X.1.2.2.2.1).symm
theorem o179 : FnOk Tryz.prog 179 e179 := fk n179 ((base).add o240) Tryz.func179 (Λ := L179) (cF k179_4 nF)
def e180 : GEnt := entOf [.data true TFlow, .data true TFlow] [(false, .bool)] fun a => Pu.laws_eqCounters a.1 a.2.1
theorem o180 : FnOk Tryz.prog 180 e180 := fk {} (base) Tryz.func180 (Λ := Lam.nil) nF
def e82 : GEnt := entOf [.data true THost, .data true THost] [(false, .bool)] fun a => Pu.laws_eqHost a.1 a.2.1
theorem o82 : FnOk Tryz.prog 82 e82 := fk {} ((((((((((((((base).add o39).add o40).add o170).add o171).add o172).add o173).add o174).add o175).add o176).add o177).add o178).add o179).add o180) Tryz.func82 (Λ := Lam.nil) nF
def e34 : GEnt := entOf [.data false (.sl THost), .data false (.sl THost)] [(false, .bool)] fun a => Pu.laws_eqHostS a.1 a.2.1
def g34 : Gam := (Gam.nil).add 82 e82
def n34 : An := { mask := fun | 4 => [0, 1, 4, 5] | _ => [] }
@[reducible] def d34_4 : SD := ⟨[.data false (.sl .arg THost),.data false (.sl .arg THost),B,B,DB,DI,B,B,B,B,B,B,B,B,B,B,B,B,B,B,B,B,B,B,B,B,B], [Z,Z,Z,Z,Z,Z,Z,Z,Z,Z,Z,Z,Z,Z,Z,Z,Z,Z,Z,Z,Z,Z,Z,Z,Z,Z,Z], .none⟩
def t34_4 {R : Type} (X : SD.D d34_4) (K : Ex → AS → Option R) := Pu.laws_eqHostS_T4 (fun y0 => K (.exit 0) (SD.enc d34_4 ((X.1.1, (X.1.2.1, (X.1.2.2.1, (y0, ())))), (), ()))) (fun y0 y1 => K .ret (SD.enc d34_4 ((X.1.1, (X.1.2.1, (y0, (y1, ())))), (), ()))) X.1.1 X.1.2.1 X.1.2.2.1
def l34_4 : LEnt := ⟨d34_4, fun X K => iterL (t34_4 X K) fuel X.1.2.2.2.1⟩
def L34 : Lam := (Lam.nil).add 4 l34_4
theorem k34_4 : LOk E g34 n34 L34 (loopBody Tryz.f34 0) :=
  lok l34_4 (by kernel_rfl) fuel fun R X K => (loop_iter (σ := Int) (fun x => SD.enc d34_4 ((X.1.1, (X.1.2.1, (X.1.2.2.1, (x, ())))), (), ())) (t34_4 X K) (fun m x => by kernel_rfl) fuel X.1.2.2.2.1).symm
theorem o34 : FnOk Tryz.prog 34 e34 := fk n34 ((base).add o82) Tryz.func34 (Λ := L34) (cF k34_4 nF)
def e181 : GEnt := entOf [.data true TBucket, .data true TBucket] [(false, .bool)] fun a => Pu.laws_eqBucket a.1 a.2.1
theorem o181 : FnOk Tryz.prog 181 e181 := fk {} (base) Tryz.func181 (Λ := Lam.nil) nF
def e83 : GEnt := entOf [.data true TVirtualFunction, .data true TVirtualFunction] [(false, .bool)] fun a => Pu.laws_eqVirtualFunction a.1 a.2.1
theorem o83 : FnOk Tryz.prog 83 e83 := fk {} ((base).add o181) Tryz.func83 (Λ := Lam.nil) nF
def e35 : GEnt := entOf [.data false (.sl TVirtualFunction), .data false (.sl TVirtualFunction)] [(false, .bool)] fun a => Pu.laws_eqVirtualFunctionS a.1 a.2.1
def g35 : Gam := (Gam.nil).add 83 e83
def n35 : An := { mask := fun | 4 => [0, 1, 4, 5] | _ => [] }
@[reducible] def d35_4 : SD := ⟨[.data false (.sl .arg TVirtualFunction),.data false (.sl .arg TVirtualFunction),B,B,DB,DI,B,B,B,B,B,B,B,B,B,B,B,B,B,B,B,B,B,B,B,B,B], [Z,Z,Z,Z,Z,Z,Z,Z,Z,Z,Z,Z,Z,Z,Z,Z,Z,Z,Z,Z,Z,Z,Z,Z,Z,Z,Z], .none⟩
def t35_4 {R : Type} (X : SD.D d35_4) (K : Ex → AS → Option R) := Pu.laws_eqVirtualFunctionS_T4 (fun y0 => K (.exit 0) (SD.enc d35_4 ((X.1.1, (X.1.2.1, (X.1.2.2.1, (y0, ())))), (), ()))) (fun y0 y1 => K .ret (SD.enc d35_4 ((X.1.1, (X.1.2.1, (y0, (y1, ())))), (), ()))) X.1.1 X.1.2.1 X.1.2.2.1
def l35_4 : LEnt := ⟨d35_4, fun X K => iterL (t35_4 X K) fuel X.1.2.2.2.1⟩
def L35 : Lam := (Lam.nil).add 4 l35_4
theorem k35_4 : LOk E g35 n35 L35 (loopBody Tryz.f35 0) :=
  lok l35_4 (by kernel_rfl) fuel fun R X K => (loop_iter (σ := Int) (fun x => SD.enc d35_4 ((X.1.1, (X.1.2.1, (X.1.2.2.1, (x, ())))), (), ())) (t35_4 X K) (fun m x => by kernel_rfl) fuel X.1.2.2.2.1).symm
theorem o35 : FnOk Tryz.prog 35 e35 := fk n35 ((base).add o83) Tryz.func35 (Λ := L35) (cF k35_4 nF)
def e84 : GEnt := entOf [.data true TMailbox, .data true TMailbox] [(false, .bool)] fun a => Pu.laws_eqMailbox a.1 a.2.1
theorem o84 : FnOk Tryz.prog 84 e84 := fk {} ((base).add o177) Tryz.func84 (Λ := Lam.nil) nF
def e36 : GEnt := entOf [.data false (.sl TMailbox), .data false (.sl TMailbox)] [(false, .bool)] fun a => Pu.laws_eqMailboxS a.1 a.2.1
def g36 : Gam := (Gam.nil).add 84 e84
def n36 : An := { mask := fun | 4 => [0, 1, 4, 5] | _ => [] }
@[reducible] def d36_4 : SD := ⟨[.data false (.sl .arg TMailbox),.data false (.sl .arg TMailbox),B,B,DB,DI,B,B,B,B,B,B,B,B,B,B,B,B,B,B,B,B,B,B,B,B,B], [Z,Z,Z,Z,Z,Z,Z,Z,Z,Z,Z,Z,Z,Z,Z,Z,Z,Z,Z,Z,Z,Z,Z,Z,Z,Z,Z], .none⟩
def t36_4 {R : Type} (X : SD.D d36_4) (K : Ex → AS → Option R) := Pu.laws_eqMailboxS_T4 (fun y0 => K (.exit 0) (SD.enc d36_4 ((X.1.1, (X.1.2.1, (X.1.2.2.1, (y0, ())))), (), ()))) (fun y0 y1 => K .ret (SD.enc d36_4 ((X.1.1, (X.1.2.1, (y0, (y1, ())))), (), ()))) X.1.1 X.1.2.1 X.1.2.2.1
def l36_4 : LEnt := ⟨d36_4, fun X K => iterL (t36_4 X K) fuel X.1.2.2.2.1⟩
def L36 : Lam := (Lam.nil).add 4 l36_4
theorem k36_4 : LOk E g36 n36 L36 (loopBody Tryz.f36 0) :=
  lok l36_4 (by kernel_rfl) fuel fun R X K => (loop_iter (σ := Int) (fun x => SD.enc d36_4 ((X.1.1, (X.1.2.1, (X.1.2.2.1, (x, ())))), (), ())) (t36_4 X K) (fun m x => by kernel_rfl) fuel X.1.2.2.2.1).symm
theorem o36 : FnOk Tryz.prog 36 e36 := fk n36 ((base).add o84) Tryz.func36 (Λ := L36) (cF k36_4 nF)
def e37 : GEnt := entOf [.data true (.sl .str), .data true (.sl .str)] [(false, .bool)] fun a => Pu.laws_eqFlash a.1 a.2.1
theorem o37 : FnOk Tryz.prog 37 e37 := fk {} ((base).add o40) Tryz.func37 (Λ := Lam.nil) nF
def e38 : GEnt := entOf [.data true TClock, .data true TClock] [(false, .bool)] fun a => Pu.laws_eqClock a.1 a.2.1
theorem o38 : FnOk Tryz.prog 38 e38 := fk {} (base) Tryz.func38 (Λ := Lam.nil) nF
def e9 : GEnt := entOf [.data true TCard, .data true TCard] [(false, .bool)] fun a => Pu.laws_eqCard a.1 a.2.1
theorem o9 : FnOk Tryz.prog 9 e9 := fk {} ((((((((base).add o34).add o35).add o36).add o37).add o38).add o39).add o40) Tryz.func9 (Λ := Lam.nil) nF
def e45 : GEnt := entIo (.sl (.int .i64)) false [.data false (.int .i64)] [(false, (.int .i64))] fun x a => Pu.laws_markIntS x a.1
def g45 : Gam := Gam.nil
def n45 : An := { mask := fun | 2 => [0, 1, 5] | _ => [] }
@[reducible] def d45_2 : SD := ⟨[.data false (.sl (.lio 0 12288036864) (.int .i64)),DI,B,B,B,DI,B,B,B,B,B,B,B,B,B,B,B,B,B], [Z,Z,Z,Z,Z,Z,Z,Z,Z,Z,Z,Z,Z,Z,Z,Z,Z,Z,Z], .some (.sl (.own (some 12288036864)) (.int .i64))⟩
def t45_2 {R : Type} (X : SD.D d45_2) (K : Ex → AS → Option R) := Pu.laws_markIntS_T2 (fun y0 y1 y2 y3 => K (.exit 0) (SD.enc d45_2 ((y0, (y1, (y2, ()))), (), y3))) 
def l45_2 : LEnt := ⟨d45_2, fun X K => iterL (t45_2 X K) fuel (X.1.1, X.1.2.1, X.1.2.2.1, X.2.2)⟩
def L45 : Lam := (Lam.nil).add 2 l45_2
theorem k45_2 : LOk E g45 n45 L45 (loopBody Tryz.f45 0) :=
  lok l45_2 (by kernel_rfl) fuel fun R X K => (loop_iter (σ := (List Int) × Int × Int × List Int) (fun x => SD.enc d45_2 ((x.1, (x.2.1, (x.2.2.1, ()))), (), x.2.2.2)) (t45_2 X K) (fun m x => by kernel_rfl) fuel (X.1.1, X.1.2.1, X.1.2.2.1, X.2.2)).symm
theorem o45 : FnOk Tryz.prog 45 e45 := FnOk.ofIo (fnIo (Γ := g45) (an := n45) (Λ := L45) (base) Tryz.func45 (by kernel_rfl) (hF (by kernel_rfl) (cF k45_2 nF))) (fun x a => by kernel_rfl)
def e93 : GEnt := entOf [.data false (.int .i64)] [(false, .str)] fun a => Pu.laws_markText a.1
def g93 : Gam := Gam.nil
def n93 : An := { mask := fun | 4 => [0, 3] | _ => [] }
@[reducible] def d93_4 : SD := ⟨[DI,B,B,.data false .str,B,B,B,B,B,B,B,B,B,B,B,B,B,B,B,B], [Z,Z,Z,Z,Z,Z,Z,Z,Z,Z,Z,Z,Z,Z,Z,Z,Z,Z,Z,Z], .none⟩
def t93_4 {R : Type} (X : SD.D d93_4) (K : Ex → AS → Option R) := Pu.laws_markText_T4 (fun y0 y1 => K (.exit 0) (SD.enc d93_4 ((y0, (y1, ())), (), ()))) 
def l93_4 : LEnt := ⟨d93_4, fun X K => iterL (t93_4 X K) fuel (X.1.1, X.1.2.1)⟩
def L93 : Lam := (Lam.nil).add 4 l93_4
theorem k93_4 : LOk E g93 n93 L93 (loopBody Tryz.f93 0) :=
  lok l93_4 (by kernel_rfl) fuel fun R X K => (loop_iter (σ := Int × Pu.Bytes) (fun x => SD.enc d93_4 ((x.1, (x.2, ())), (), ())) (t93_4 X K) (fun m x => by kernel_rfl) fuel (X.1.1, X.1.2.1)).symm
theorem o93 : FnOk Tryz.prog 93 e93 := fk n93 (base) Tryz.func93 (Λ := L93) (cF k93_4 nF)
def e46 : GEnt := entIo (.sl .str) false [.data false (.int .i64)] [(false, (.int .i64))] fun x a => Pu.laws_markStringS x a.1
def g46 : Gam := (Gam.nil).add 93 e93
def n46 : An := { mask := fun | 2 => [0, 1, 5] | _ => [] }
@[reducible] def d46_2 : SD := ⟨[.data false (.sl (.lio 0 12288036864) .str),DI,B,B,B,DI,B,B,B,B,B,B,B,B,B,B,B,B,B,B], [Z,Z,Z,Z,Z,Z,Z,Z,Z,Z,Z,Z,Z,Z,Z,Z,Z,Z,Z,Z], .some (.sl (.own (some 12288036864)) .str)⟩
def t46_2 {R : Type} (X : SD.D d46_2) (K : Ex → AS → Option R) := Pu.laws_markStringS_T2 (fun y0 y1 y2 y3 => K (.exit 0) (SD.enc d46_2 ((y0, (y1, (y2, ()))), (), y3))) 
def l46_2 : LEnt := ⟨d46_2, fun X K => iterL (t46_2 X K) fuel (X.1.1, X.1.2.1, X.1.2.2.1, X.2.2)⟩
def L46 : Lam := (Lam.nil).add 2 l46_2
theorem k46_2 : LOk E g46 n46 L46 (loopBody Tryz.f46 0) :=
  lok l46_2 (by kernel_rfl) fuel fun R X K => (loop_iter (σ := (List Pu.Bytes) × Int × Int × List Pu.Bytes) (fun x => SD.enc d46_2 ((x.1, (x.2.1, (x.2.2.1, ()))), (), x.2.2.2)) (t46_2 X K) (fun m x => by kernel_rfl) fuel (X.1.1, X.1.2.1, X.1.2.2.1, X.2.2)).symm
theorem o46 : FnOk Tryz.prog 46 e46 := FnOk.ofIo (fnIo (Γ := g46) (an := n46) (Λ := L46) ((base).add o93) Tryz.func46 (by kernel_rfl) (hF (by kernel_rfl) (cF k46_2 nF))) (fun x a => by kernel_rfl)
def e85 : GEnt := entIo (.sl TMapping) false [.data false (.int .i64)] [(false, (.int .i64))] fun x a => Pu.laws_markMappingS x a.1
def g85 : Gam := Gam.nil
def n85 : An := { mask := fun | 2 => [0, 1, 5] | _ => [] }
@[reducible] def d85_2 : SD := ⟨[.data false (.sl (.lio 0 12288036864) TMapping),DI,B,B,B,DI,B,B,B,B,B,B,B,B,B,B,B,B,B,B,B,B,B,B,B,B,B,B,B,B,B,B,B,B,B,B,B,B,B,B,B,B,B], [Z,Z,Z,Z,Z,Z,Z,Z,Z,Z,Z,Z,Z,Z,Z,Z,Z,Z,Z,Z,Z,Z,Z,Z,Z,Z,Z,Z,Z,Z,Z,Z,Z,Z,Z,Z,Z,Z,Z,Z,Z,Z,Z], .some (.sl (.own (some 12288036864)) TMapping)⟩
def t85_2 {R : Type} (X : SD.D d85_2) (K : Ex → AS → Option R) := Pu.laws_markMappingS_T2 (fun y0 y1 y2 y3 => K (.exit 0) (SD.enc d85_2 ((y0, (y1, (y2, ()))), (), y3))) 
def l85_2 : LEnt := ⟨d85_2, fun X K => iterL (t85_2 X K) fuel (X.1.1, X.1.2.1, X.1.2.2.1, X.2.2)⟩
def L85 : Lam := (Lam.nil).add 2 l85_2
theorem k85_2 : LOk E g85 n85 L85 (loopBody Tryz.f85 0) :=
  lok l85_2 (by kernel_rfl) fuel fun R X K => (loop_iter (σ := (List Pu.Mapping) × Int × Int × List Pu.Mapping) (fun x => SD.enc d85_2 ((x.1, (x.2.1, (x.2.2.1, ()))), (), x.2.2.2)) (t85_2 X K) (fun m x => by kernel_rfl) fuel (X.1.1, X.1.2.1, X.1.2.2.1, X.2.2)).symm
theorem o85 : FnOk Tryz.prog 85 e85 := FnOk.ofIo (fnIo (Γ := g85) (an := n85) (Λ := L85) (base) Tryz.func85 (by kernel_rfl) (hF (by kernel_rfl) (cF k85_2 nF))) (fun x a => by kernel_rfl)
def e86 : GEnt := entIo (.sl TSent) false [.data false (.int .i64)] [(false, (.int .i64))] fun x a => Pu.laws_markSentS x a.1
def g86 : Gam := (Gam.nil).add 45 e45
def n86 : An := { mask := fun | 2 => [0, 1, 5] | _ => [], nest := [30] }
@[reducible] def d86_2 : SD := ⟨[.data false (.sl (.lio 0 12288036864) TSent),DI,B,B,B,DI,B,B,B,B,B,B,B,B,B,B,B,B,B,B,B,B,B,B,B,B,B,B,B,B,B,B,B,B], [Z,Z,Z,Z,Z,Z,Z,Z,Z,Z,Z,Z,Z,Z,Z,Z,Z,Z,Z,Z,Z,Z,Z,Z,Z,Z,Z,Z,Z,Z,Z,Z,Z,Z], .some (.sl (.own (some 12288036864)) TSent)⟩
def t86_2 {R : Type} (X : SD.D d86_2) (K : Ex → AS → Option R) := Pu.laws_markSentS_T2 (fun y0 y1 y2 y3 => K (.exit 0) (SD.enc d86_2 ((y0, (y1, (y2, ()))), (), y3))) 
def l86_2 : LEnt := ⟨d86_2, fun X K => iterL (t86_2 X K) fuel (X.1.1, X.1.2.1, X.1.2.2.1, X.2.2)⟩
def L86 : Lam := (Lam.nil).add 2 l86_2
theorem k86_2 : LOk E g86 n86 L86 (loopBody Tryz.f86 0) :=
  lok l86_2 (by kernel_rfl) fuel fun R X K => (loop_iter (σ := (List Pu.Sent) × Int × Int × List Pu.Sent) (fun x => SD.enc d86_2 ((x.1, (x.2.1, (x.2.2.1, ()))), (), x.2.2.2)) (t86_2 X K) (fun m x => by kernel_rfl) fuel (X.1.1, X.1.2.1, X.1.2.2.1, X.2.2)).symm
theorem o86 : FnOk Tryz.prog 86 e86 := FnOk.ofIo (fnIo (Γ := g86) (an := n86) (Λ := L86) ((base).add o45) Tryz.func86 (by kernel_rfl) (hF (by kernel_rfl) (cF k86_2 nF))) (fun x a => by kernel_rfl)
def e87 : GEnt := entIo (.sl TRxQueue) false [.data false (.int .i64)] [(false, (.int .i64))] fun x a => Pu.laws_markRxQueueS x a.1
def g87 : Gam := (Gam.nil).add 93 e93
def n87 : An := { mask := fun | 2 => [0, 1, 5] | _ => [] }
@[reducible] def d87_2 : SD := ⟨[.data false (.sl (.lio 0 12288036864) TRxQueue),DI,B,B,B,DI,B,B,B,B,B,B,B,B,B,B,B,B,B,B,B,B,B,B,B,B,B,B,B,B,B,B,B,B,B,B,B,B,B,B,B,B,B,B,B,B,B,B,B,B,B,B,B,B,B,B,B,B,B,B,B,B,B,B,B,B,B,B,B,B,B,B,B,B,B,B,B,B,B,B,B,B,B,B,B,B,B,B,B,B,B,B,B,B,B,B,B,B,B,B,B,B,B,B,B,B,B,B,B,B,B,B,B,B,B,B,B,B,B,B,B,B,B,B,B,B,B,B,B,B,B,B,B,B,B,B,B,B,B,B,B,B,B,B,B,B,B,B,B,B,B,B,B,B,B,B,B,B,B,B,B,B,B,B,B,B,B,B,B,B,B,B,B,B,B,B,B,B,B,B,B,B,B,B,B,B,B,B,B,B,B,B,B,B,B,B,B,B,B,B,B,B,B,B,B,B,B,B,B,B,B,B,B,B,B,B,B,B,B,B,B,B,B,B,B,B,B,B,B,B,B,B,B,B,B,B,B,B,B,B,B,B,B,B,B,B,B,B,B,B,B,B,B,B,B,B,B,B,B,B,B,B,B,B,B,B,B,B,B,B,B,B,B,B,B,B,B,B], [Z,Z,Z,Z,Z,Z,Z,Z,Z,Z,Z,Z,Z,Z,Z,Z,Z,Z,Z,Z,Z,Z,Z,Z,Z,Z,Z,Z,Z,Z,Z,Z,Z,Z,Z,Z,Z,Z,Z,Z,Z,Z,Z,Z,Z,Z,Z,Z,Z,Z,Z,Z,Z,Z,Z,Z,Z,Z,Z,Z,Z,Z,Z,Z,Z,Z,Z,Z,Z,Z,Z,Z,Z,Z,Z,Z,Z,Z,Z,Z,Z,Z,Z,Z,Z,Z,Z,Z,Z,Z,Z,Z,Z,Z,Z,Z,Z,Z,Z,Z,Z,Z,Z,Z,Z,Z,Z,Z,Z,Z,Z,Z,Z,Z,Z,Z,Z,Z,Z,Z,Z,Z,Z,Z,Z,Z,Z,Z,Z,Z,Z,Z,Z,Z,Z,Z,Z,Z,Z,Z,Z,Z,Z,Z,Z,Z,Z,Z,Z,Z,Z,Z,Z,Z,Z,Z,Z,Z,Z,Z,Z,Z,Z,Z,Z,Z,Z,Z,Z,Z,Z,Z,Z,Z,Z,Z,Z,Z,Z,Z,Z,Z,Z,Z,Z,Z,Z,Z,Z,Z,Z,Z,Z,Z,Z,Z,Z,Z,Z,Z,Z,Z,Z,Z,Z,Z,Z,Z,Z,Z,Z,Z,Z,Z,Z,Z,Z,Z,Z,Z,Z,Z,Z,Z,Z,Z,Z,Z,Z,Z,Z,Z,Z,Z,Z,Z,Z,Z,Z,Z,Z,Z,Z,Z,Z,Z,Z,Z,Z,Z,Z,Z,Z,Z,Z,Z,Z,Z,Z,Z,Z,Z,Z,Z,Z,Z,Z,Z,Z,Z,Z,Z,Z,Z,Z,Z,Z,Z], .some (.sl (.own (some 12288036864)) TRxQueue)⟩
def t87_2 {R : Type} (X : SD.D d87_2) (K : Ex → AS → Option R) := Pu.laws_markRxQueueS_T2 (fun y0 y1 y2 y3 => K (.exit 0) (SD.enc d87_2 ((y0, (y1, (y2, ()))), (), y3))) 
def l87_2 : LEnt := ⟨d87_2, fun X K => iterL (t87_2 X K) fuel (X.1.1, X.1.2.1, X.1.2.2.1, X.2.2)⟩
def L87 : Lam := (Lam.nil).add 2 l87_2
theorem k87_2 : LOk E g87 n87 L87 (loopBody Tryz.f87 0) :=
  lok l87_2 (by kernel_rfl) fuel fun R X K => (loop_iter (σ := (List Pu.RxQueue) × Int × Int × List Pu.RxQueue) (fun x => SD.enc d87_2 ((x.1, (x.2.1, (x.2.2.1, ()))), (), x.2.2.2)) (t87_2 X K) (fun m x => by kernel_rfl) fuel (X.1.1, X.1.2.1, X.1.2.2.1, X.2.2)).symm
theorem o87 : FnOk Tryz.prog 87 e87 := FnOk.ofIo (fnIo (Γ := g87) (an := n87) (Λ := L87) ((base).add o93) Tryz.func87 (by kernel_rfl) (hF (by kernel_rfl) (cF k87_2 nF))) (fun x a => by kernel_rfl)
def e88 : GEnt := entIo (.sl TPool) false [.data false (.int .i64)] [(false, (.int .i64))] fun x a => Pu.laws_markPoolS x a.1
def g88 : Gam := (Gam.nil).add 45 e45
def n88 : An := { mask := fun | 2 => [0, 1, 5] | _ => [], nest := [37] }
@[reducible] def d88_2 : SD := ⟨[.data false (.sl (.lio 0 12288036864) TPool),DI,B,B,B,DI,B,B,B,B,B,B,B,B,B,B,B,B,B,B,B,B,B,B,B,B,B,B,B,B,B,B,B,B,B,B,B,B,B,B,B], [Z,Z,Z,Z,Z,Z,Z,Z,Z,Z,Z,Z,Z,Z,Z,Z,Z,Z,Z,Z,Z,Z,Z,Z,Z,Z,Z,Z,Z,Z,Z,Z,Z,Z,Z,Z,Z,Z,Z,Z,Z], .some (.sl (.own (some 12288036864)) TPool)⟩
def t88_2 {R : Type} (X : SD.D d88_2) (K : Ex → AS → Option R) := Pu.laws_markPoolS_T2 (fun y0 y1 y2 y3 => K (.exit 0) (SD.enc d88_2 ((y0, (y1, (y2, ()))), (), y3))) 
def l88_2 : LEnt := ⟨d88_2, fun X K => iterL (t88_2 X K) fuel (X.1.1, X.1.2.1, X.1.2.2.1, X.2.2)⟩
def L88 : Lam := (Lam.nil).add 2 l88_2
theorem k88_2 : LOk E g88 n88 L88 (loopBody Tryz.f88 0) :=
  lok l88_2 (by kernel_rfl) fuel fun R X K => (loop_iter (σ := (List Pu.Pool) × Int × Int × List Pu.Pool) (fun x => SD.enc d88_2 ((x.1, (x.2.1, (x.2.2.1, ()))), (), x.2.2.2)) (t88_2 X K) (fun m x => by kernel_rfl) fuel (X.1.1, X.1.2.1, X.1.2.2.1, X.2.2)).symm
theorem o88 : FnOk Tryz.prog 88 e88 := FnOk.ofIo (fnIo (Γ := g88) (an := n88) (Λ := L88) ((base).add o45) Tryz.func88 (by kernel_rfl) (hF (by kernel_rfl) (cF k88_2 nF))) (fun x a => by kernel_rfl)
def e89 : GEnt := entIo (.sl TVector) false [.data false (.int .i64)] [(false, (.int .i64))] fun x a => Pu.laws_markVectorS x a.1
def g89 : Gam := Gam.nil
def n89 : An := { mask := fun | 2 => [0, 1, 5] | _ => [] }
@[reducible] def d89_2 : SD := ⟨[.data false (.sl (.lio 0 12288036864) TVector),DI,B,B,B,DI,B,B,B,B,B,B,B,B,B,B,B,B,B,B,B,B,B,B,B,B,B,B,B,B,B,B,B,B,B,B,B,B,B,B,B,B,B,B,B,B,B,B,B,B,B,B,B,B,B,B,B,B,B], [Z,Z,Z,Z,Z,Z,Z,Z,Z,Z,Z,Z,Z,Z,Z,Z,Z,Z,Z,Z,Z,Z,Z,Z,Z,Z,Z,Z,Z,Z,Z,Z,Z,Z,Z,Z,Z,Z,Z,Z,Z,Z,Z,Z,Z,Z,Z,Z,Z,Z,Z,Z,Z,Z,Z,Z,Z,Z,Z], .some (.sl (.own (some 12288036864)) TVector)⟩
def t89_2 {R : Type} (X : SD.D d89_2) (K : Ex → AS → Option R) := Pu.laws_markVectorS_T2 (fun y0 y1 y2 y3 => K (.exit 0) (SD.enc d89_2 ((y0, (y1, (y2, ()))), (), y3))) 
def l89_2 : LEnt := ⟨d89_2, fun X K => iterL (t89_2 X K) fuel (X.1.1, X.1.2.1, X.1.2.2.1, X.2.2)⟩
def L89 : Lam := (Lam.nil).add 2 l89_2
theorem k89_2 : LOk E g89 n89 L89 (loopBody Tryz.f89 0) :=
  lok l89_2 (by kernel_rfl) fuel fun R X K => (loop_iter (σ := (List Pu.Vector) × Int × Int × List Pu.Vector) (fun x => SD.enc d89_2 ((x.1, (x.2.1, (x.2.2.1, ()))), (), x.2.2.2)) (t89_2 X K) (fun m x => by kernel_rfl) fuel (X.1.1, X.1.2.1, X.1.2.2.1, X.2.2)).symm
theorem o89 : FnOk Tryz.prog 89 e89 := FnOk.ofIo (fnIo (Γ := g89) (an := n89) (Λ := L89) (base) Tryz.func89 (by kernel_rfl) (hF (by kernel_rfl) (cF k89_2 nF))) (fun x a => by kernel_rfl)
def e90 : GEnt := entIo (.sl .bool) false [.data false (.int .i64)] [(false, (.int .i64))] fun x a => Pu.laws_markBoolS x a.1
def g90 : Gam := Gam.nil
def n90 : An := { mask := fun | 2 => [0, 1, 5] | _ => [] }
@[reducible] def d90_2 : SD := ⟨[.data false (.sl (.lio 0 12288036864) .bool),DI,B,B,B,DI,B,B,B,B,B,B,B,B,B,B,B,B,B,B,B], [Z,Z,Z,Z,Z,Z,Z,Z,Z,Z,Z,Z,Z,Z,Z,Z,Z,Z,Z,Z,Z], .some (.sl (.own (some 12288036864)) .bool)⟩
def t90_2 {R : Type} (X : SD.D d90_2) (K : Ex → AS → Option R) := Pu.laws_markBoolS_T2 (fun y0 y1 y2 y3 => K (.exit 0) (SD.enc d90_2 ((y0, (y1, (y2, ()))), (), y3))) 
def l90_2 : LEnt := ⟨d90_2, fun X K => iterL (t90_2 X K) fuel (X.1.1, X.1.2.1, X.1.2.2.1, X.2.2)⟩
def L90 : Lam := (Lam.nil).add 2 l90_2
theorem k90_2 : LOk E g90 n90 L90 (loopBody Tryz.f90 0) :=
  lok l90_2 (by kernel_rfl) fuel fun R X K => (loop_iter (σ := (List Bool) × Int × Int × List Bool) (fun x => SD.enc d90_2 ((x.1, (x.2.1, (x.2.2.1, ()))), (), x.2.2.2)) (t90_2 X K) (fun m x => by kernel_rfl) fuel (X.1.1, X.1.2.1, X.1.2.2.1, X.2.2)).symm
theorem o90 : FnOk Tryz.prog 90 e90 := FnOk.ofIo (fnIo (Γ := g90) (an := n90) (Λ := L90) (base) Tryz.func90 (by kernel_rfl) (hF (by kernel_rfl) (cF k90_2 nF))) (fun x a => by kernel_rfl)
def e91 : GEnt := entIo (.sl TRule) false [.data false (.int .i64)] [(false, (.int .i64))] fun x a => Pu.laws_markRuleS x a.1
def g91 : Gam := Gam.nil
def n91 : An := { mask := fun | 2 => [0, 1, 5] | _ => [] }
@[reducible] def d91_2 : SD := ⟨[.data false (.sl (.lio 0 12288036864) TRule),DI,B,B,B,DI,B,B,B,B,B,B,B,B,B,B,B,B,B,B,B,B,B,B,B,B,B,B,B,B,B,B,B,B,B,B,B,B,B,B,B,B,B,B,B,B,B,B,B,B,B,B,B,B,B,B,B,B,B,B,B,B,B,B,B,B,B,B,B,B,B,B,B,B,B,B], [Z,Z,Z,Z,Z,Z,Z,Z,Z,Z,Z,Z,Z,Z,Z,Z,Z,Z,Z,Z,Z,Z,Z,Z,Z,Z,Z,Z,Z,Z,Z,Z,Z,Z,Z,Z,Z,Z,Z,Z,Z,Z,Z,Z,Z,Z,Z,Z,Z,Z,Z,Z,Z,Z,Z,Z,Z,Z,Z,Z,Z,Z,Z,Z,Z,Z,Z,Z,Z,Z,Z,Z,Z,Z,Z,Z], .some (.sl (.own (some 12288036864)) TRule)⟩
def t91_2 {R : Type} (X : SD.D d91_2) (K : Ex → AS → Option R) := Pu.laws_markRuleS_T2 (fun y0 y1 y2 y3 => K (.exit 0) (SD.enc d91_2 ((y0, (y1, (y2, ()))), (), y3))) 
def l91_2 : LEnt := ⟨d91_2, fun X K => iterL (t91_2 X K) fuel (X.1.1, X.1.2.1, X.1.2.2.1, X.2.2)⟩
def L91 : Lam := (Lam.nil).add 2 l91_2
theorem k91_2 : LOk E g91 n91 L91 (loopBody Tryz.f91 0) :=
  lok l91_2 (by kernel_rfl) fuel fun R X K => (loop_iter (σ := (List Pu.Rule) × Int × Int × List Pu.Rule) (fun x => SD.enc d91_2 ((x.1, (x.2.1, (x.2.2.1, ()))), (), x.2.2.2)) (t91_2 X K) (fun m x => by kernel_rfl) fuel (X.1.1, X.1.2.1, X.1.2.2.1, X.2.2)).symm
theorem o91 : FnOk Tryz.prog 91 e91 := FnOk.ofIo (fnIo (Γ := g91) (an := n91) (Λ := L91) (base) Tryz.func91 (by kernel_rfl) (hF (by kernel_rfl) (cF k91_2 nF))) (fun x a => by kernel_rfl)
def e92 : GEnt := entIo (.sl TSlot) false [.data false (.int .i64)] [(false, (.int .i64))] fun x a => Pu.laws_markSlotS x a.1
def g92 : Gam := Gam.nil
def n92 : An := { mask := fun | 2 => [0, 1, 5] | _ => [] }
@[reducible] def d92_2 : SD := ⟨[.data false (.sl (.lio 0 12288036864) TSlot),DI,B,B,B,DI,B,B,B,B,B,B,B,B,B,B,B,B,B,B,B,B,B,B,B,B,B,B,B,B,B,B,B,B,B,B,B,B,B,B,B,B,B,B,B,B,B,B,B,B,B,B,B,B,B,B,B,B,B,B,B,B,B,B,B,B,B], [Z,Z,Z,Z,Z,Z,Z,Z,Z,Z,Z,Z,Z,Z,Z,Z,Z,Z,Z,Z,Z,Z,Z,Z,Z,Z,Z,Z,Z,Z,Z,Z,Z,Z,Z,Z,Z,Z,Z,Z,Z,Z,Z,Z,Z,Z,Z,Z,Z,Z,Z,Z,Z,Z,Z,Z,Z,Z,Z,Z,Z,Z,Z,Z,Z,Z,Z], .some (.sl (.own (some 12288036864)) TSlot)⟩
def t92_2 {R : Type} (X : SD.D d92_2) (K : Ex → AS → Option R) := Pu.laws_markSlotS_T2 (fun y0 y1 y2 y3 => K (.exit 0) (SD.enc d92_2 ((y0, (y1, (y2, ()))), (), y3))) 
def l92_2 : LEnt := ⟨d92_2, fun X K => iterL (t92_2 X K) fuel (X.1.1, X.1.2.1, X.1.2.2.1, X.2.2)⟩
def L92 : Lam := (Lam.nil).add 2 l92_2
theorem k92_2 : LOk E g92 n92 L92 (loopBody Tryz.f92 0) :=
  lok l92_2 (by kernel_rfl) fuel fun R X K => (loop_iter (σ := (List Pu.Slot) × Int × Int × List Pu.Slot) (fun x => SD.enc d92_2 ((x.1, (x.2.1, (x.2.2.1, ()))), (), x.2.2.2)) (t92_2 X K) (fun m x => by kernel_rfl) fuel (X.1.1, X.1.2.1, X.1.2.2.1, X.2.2)).symm
theorem o92 : FnOk Tryz.prog 92 e92 := FnOk.ofIo (fnIo (Γ := g92) (an := n92) (Λ := L92) (base) Tryz.func92 (by kernel_rfl) (hF (by kernel_rfl) (cF k92_2 nF))) (fun x a => by kernel_rfl)
def e94 : GEnt := entIo (.sl TStream) false [.data false (.int .i64)] [(false, (.int .i64))] fun x a => Pu.laws_markStreamS x a.1
def g94 : Gam := (Gam.nil).add 93 e93
def n94 : An := { mask := fun | 2 => [0, 1, 5] | _ => [] }
@[reducible] def d94_2 : SD := ⟨[.data false (.sl (.lio 0 12288036864) TStream),DI,B,B,B,DI,B,B,B,B,B,B,B,B,B,B,B,B,B,B,B,B,B,B,B,B,B,B,B,B,B,B,B,B,B,B,B,B,B,B,B,B,B,B,B,B,B,B,B,B,B,B,B,B,B,B,B,B,B,B,B,B,B,B,B,B,B,B,B,B,B,B,B,B,B,B,B], [Z,Z,Z,Z,Z,Z,Z,Z,Z,Z,Z,Z,Z,Z,Z,Z,Z,Z,Z,Z,Z,Z,Z,Z,Z,Z,Z,Z,Z,Z,Z,Z,Z,Z,Z,Z,Z,Z,Z,Z,Z,Z,Z,Z,Z,Z,Z,Z,Z,Z,Z,Z,Z,Z,Z,Z,Z,Z,Z,Z,Z,Z,Z,Z,Z,Z,Z,Z,Z,Z,Z,Z,Z,Z,Z,Z,Z], .some (.sl (.own (some 12288036864)) TStream)⟩
def t94_2 {R : Type} (X : SD.D d94_2) (K : Ex → AS → Option R) := Pu.laws_markStreamS_T2 (fun y0 y1 y2 y3 => K (.exit 0) (SD.enc d94_2 ((y0, (y1, (y2, ()))), (), y3))) 
def l94_2 : LEnt := ⟨d94_2, fun X K => iterL (t94_2 X K) fuel (X.1.1, X.1.2.1, X.1.2.2.1, X.2.2)⟩
def L94 : Lam := (Lam.nil).add 2 l94_2
theorem k94_2 : LOk E g94 n94 L94 (loopBody Tryz.f94 0) :=
  lok l94_2 (by kernel_rfl) fuel fun R X K => (loop_iter (σ := (List Pu.Stream) × Int × Int × List Pu.Stream) (fun x => SD.enc d94_2 ((x.1, (x.2.1, (x.2.2.1, ()))), (), x.2.2.2)) (t94_2 X K) (fun m x => by kernel_rfl) fuel (X.1.1, X.1.2.1, X.1.2.2.1, X.2.2)).symm
theorem o94 : FnOk Tryz.prog 94 e94 := FnOk.ofIo (fnIo (Γ := g94) (an := n94) (Λ := L94) ((base).add o93) Tryz.func94 (by kernel_rfl) (hF (by kernel_rfl) (cF k94_2 nF))) (fun x a => by kernel_rfl)
def e41 : GEnt := entIo (.sl THost) false [.data false (.int .i64)] [(false, (.int .i64))] fun x a => Pu.laws_markHostS x a.1
def g41 : Gam := ((((((((((((Gam.nil).add 45 e45).add 46 e46).add 85 e85).add 86 e86).add 87 e87).add 88 e88).add 89 e89).add 90 e90).add 91 e91).add 92 e92).add 93 e93).add 94 e94
def n41 : An := { mask := fun | 2 => [0, 1, 5] | _ => [], nest := [17, 24, 96, 104, 119, 126, 133, 140, 166, 174, 183, 202, 209, 225, 232, 239] }
@[reducible] def d41_2 : SD := ⟨[.data false (.sl (.lio 0 12288036864) THost),DI,B,B,B,DI,B,B,B,B,B,B,B,B,B,B,B,B,B,B,B,B,B,B,B,B,B,B,B,B,B,B,B,B,B,B,B,B,B,B,B,B,B,B,B,B,B,B,B,B,B,B,B,B,B,B,B,B,B,B,B,B,B,B,B,B,B,B,B,B,B,B,B,B,B,B,B,B,B,B,B,B,B,B,B,B,B,B,B,B,B,B,B,B,B,B,B,B,B,B,B,B,B,B,B,B,B,B,B,B,B,B,B,B,B,B,B,B,B,B,B,B,B,B,B,B,B,B,B,B,B,B,B,B,B,B,B,B,B,B,B,B,B,B,B,B,B,B,B,B,B,B,B,B,B,B,B,B,B,B,B,B,B,B,B,B,B,B,B,B,B,B,B,B,B,B,B,B,B,B,B,B,B,B,B,B,B,B,B,B,B,B,B,B,B,B,B,B,B,B,B,B,B,B,B,B,B,B,B,B,B,B,B,B,B,B,B,B,B,B,B,B,B,B,B,B,B,B,B,B,B,B,B,B,B,B,B,B,B,B,B,B,B,B,B,B,B,B,B,B,B,B,B,B,B,B,B,B,B,B,B,B,B,B,B,B,B,B,B,B,B,B,B,B,B,B,B,B,B,B,B,B,B], [Z,Z,Z,Z,Z,Z,Z,Z,Z,Z,Z,Z,Z,Z,Z,Z,Z,Z,Z,Z,Z,Z,Z,Z,Z,Z,Z,Z,Z,Z,Z,Z,Z,Z,Z,Z,Z,Z,Z,Z,Z,Z,Z,Z,Z,Z,Z,Z,Z,Z,Z,Z,Z,Z,Z,Z,Z,Z,Z,Z,Z,Z,Z,Z,Z,Z,Z,Z,Z,Z,Z,Z,Z,Z,Z,Z,Z,Z,Z,Z,Z,Z,Z,Z,Z,Z,Z,Z,Z,Z,Z,Z,Z,Z,Z,Z,Z,Z,Z,Z,Z,Z,Z,Z,Z,Z,Z,Z,Z,Z,Z,Z,Z,Z,Z,Z,Z,Z,Z,Z,Z,Z,Z,Z,Z,Z,Z,Z,Z,Z,Z,Z,Z,Z,Z,Z,Z,Z,Z,Z,Z,Z,Z,Z,Z,Z,Z,Z,Z,Z,Z,Z,Z,Z,Z,Z,Z,Z,Z,Z,Z,Z,Z,Z,Z,Z,Z,Z,Z,Z,Z,Z,Z,Z,Z,Z,Z,Z,Z,Z,Z,Z,Z,Z,Z,Z,Z,Z,Z,Z,Z,Z,Z,Z,Z,Z,Z,Z,Z,Z,Z,Z,Z,Z,Z,Z,Z,Z,Z,Z,Z,Z,Z,Z,Z,Z,Z,Z,Z,Z,Z,Z,Z,Z,Z,Z,Z,Z,Z,Z,Z,Z,Z,Z,Z,Z,Z,Z,Z,Z,Z,Z,Z,Z,Z,Z,Z,Z,Z,Z,Z,Z,Z,Z,Z,Z,Z,Z,Z,Z,Z,Z,Z,Z,Z,Z,Z,Z,Z,Z,Z,Z,Z,Z,Z,Z,Z,Z,Z,Z,Z,Z,Z], .some (.sl (.own (some 12288036864)) THost)⟩
def t41_2 {R : Type} (X : SD.D d41_2) (K : Ex → AS → Option R) := Pu.laws_markHostS_T2 (fun y0 y1 y2 y3 => K (.exit 0) (SD.enc d41_2 ((y0, (y1, (y2, ()))), (), y3))) 
def l41_2 : LEnt := ⟨d41_2, fun X K => iterL (t41_2 X K) fuel (X.1.1, X.1.2.1, X.1.2.2.1, X.2.2)⟩
def L41 : Lam := (Lam.nil).add 2 l41_2
theorem k41_2 : LOk E g41 n41 L41 (loopBody Tryz.f41 0) :=
  lok l41_2 (by kernel_rfl) fuel fun R X K => (loop_iter (σ := (List Pu.Host) × Int × Int × List Pu.Host) (fun x => SD.enc d41_2 ((x.1, (x.2.1, (x.2.2.1, ()))), (), x.2.2.2)) (t41_2 X K) (fun m x => by kernel_rfl) fuel (X.1.1, X.1.2.1, X.1.2.2.1, X.2.2)).symm
theorem o41 : FnOk Tryz.prog 41 e41 := FnOk.ofIo (fnIo (Γ := g41) (an := n41) (Λ := L41) (((((((((((((base).add o45).add o46).add o85).add o86).add o87).add o88).add o89).add o90).add o91).add o92).add o93).add o94) Tryz.func41 (by kernel_rfl) (hF (by kernel_rfl) (cF k41_2 nF))) (fun x a => by kernel_rfl)
def e42 : GEnt := entIo (.sl TVirtualFunction) false [.data false (.int .i64)] [(false, (.int .i64))] fun x a => Pu.laws_markVirtualFunctionS x a.1
def g42 : Gam := Gam.nil
def n42 : An := { mask := fun | 2 => [0, 1, 5] | _ => [] }
@[reducible] def d42_2 : SD := ⟨[.data false (.sl (.lio 0 12288036864) TVirtualFunction),DI,B,B,B,DI,B,B,B,B,B,B,B,B,B,B,B,B,B,B,B,B,B,B,B,B,B,B,B,B,B,B,B,B,B,B,B,B,B,B,B,B,B,B,B,B,B,B,B,B,B,B,B,B,B,B,B,B,B,B,B,B,B,B,B,B,B,B,B,B,B,B,B,B], [Z,Z,Z,Z,Z,Z,Z,Z,Z,Z,Z,Z,Z,Z,Z,Z,Z,Z,Z,Z,Z,Z,Z,Z,Z,Z,Z,Z,Z,Z,Z,Z,Z,Z,Z,Z,Z,Z,Z,Z,Z,Z,Z,Z,Z,Z,Z,Z,Z,Z,Z,Z,Z,Z,Z,Z,Z,Z,Z,Z,Z,Z,Z,Z,Z,Z,Z,Z,Z,Z,Z,Z,Z,Z], .some (.sl (.own (some 12288036864)) TVirtualFunction)⟩
def t42_2 {R : Type} (X : SD.D d42_2) (K : Ex → AS → Option R) := Pu.laws_markVirtualFunctionS_T2 (fun y0 y1 y2 y3 => K (.exit 0) (SD.enc d42_2 ((y0, (y1, (y2, ()))), (), y3))) 
def l42_2 : LEnt := ⟨d42_2, fun X K => iterL (t42_2 X K) fuel (X.1.1, X.1.2.1, X.1.2.2.1, X.2.2)⟩
def L42 : Lam := (Lam.nil).add 2 l42_2
theorem k42_2 : LOk E g42 n42 L42 (loopBody Tryz.f42 0) :=
  lok l42_2 (by kernel_rfl) fuel fun R X K => (loop_iter (σ := (List Pu.VirtualFunction) × Int × Int × List Pu.VirtualFunction) (fun x => SD.enc d42_2 ((x.1, (x.2.1, (x.2.2.1, ()))), (), x.2.2.2)) (t42_2 X K) (fun m x => by kernel_rfl) fuel (X.1.1, X.1.2.1, X.1.2.2.1, X.2.2)).symm
theorem o42 : FnOk Tryz.prog 42 e42 := FnOk.ofIo (fnIo (Γ := g42) (an := n42) (Λ := L42) (base) Tryz.func42 (by kernel_rfl) (hF (by kernel_rfl) (cF k42_2 nF))) (fun x a => by kernel_rfl)
def e43 : GEnt := entIo (.sl TMailbox) false [.data false (.int .i64)] [(false, (.int .i64))] fun x a => Pu.laws_markMailboxS x a.1
def g43 : Gam := (Gam.nil).add 45 e45
def n43 : An := { mask := fun | 2 => [0, 1, 5] | _ => [], nest := [35] }
@[reducible] def d43_2 : SD := ⟨[.data false (.sl (.lio 0 12288036864) TMailbox),DI,B,B,B,DI,B,B,B,B,B,B,B,B,B,B,B,B,B,B,B,B,B,B,B,B,B,B,B,B,B,B,B,B,B,B,B,B,B,B,B,B,B,B,B,B,B,B,B,B,B,B,B,B,B,B,B,B,B,B], [Z,Z,Z,Z,Z,Z,Z,Z,Z,Z,Z,Z,Z,Z,Z,Z,Z,Z,Z,Z,Z,Z,Z,Z,Z,Z,Z,Z,Z,Z,Z,Z,Z,Z,Z,Z,Z,Z,Z,Z,Z,Z,Z,Z,Z,Z,Z,Z,Z,Z,Z,Z,Z,Z,Z,Z,Z,Z,Z,Z], .some (.sl (.own (some 12288036864)) TMailbox)⟩
def t43_2 {R : Type} (X : SD.D d43_2) (K : Ex → AS → Option R) := Pu.laws_markMailboxS_T2 (fun y0 y1 y2 y3 => K (.exit 0) (SD.enc d43_2 ((y0, (y1, (y2, ()))), (), y3))) 
def l43_2 : LEnt := ⟨d43_2, fun X K => iterL (t43_2 X K) fuel (X.1.1, X.1.2.1, X.1.2.2.1, X.2.2)⟩
def L43 : Lam := (Lam.nil).add 2 l43_2
theorem k43_2 : LOk E g43 n43 L43 (loopBody Tryz.f43 0) :=
  lok l43_2 (by kernel_rfl) fuel fun R X K => (loop_iter (σ := (List Pu.Mailbox) × Int × Int × List Pu.Mailbox) (fun x => SD.enc d43_2 ((x.1, (x.2.1, (x.2.2.1, ()))), (), x.2.2.2)) (t43_2 X K) (fun m x => by kernel_rfl) fuel (X.1.1, X.1.2.1, X.1.2.2.1, X.2.2)).symm
theorem o43 : FnOk Tryz.prog 43 e43 := FnOk.ofIo (fnIo (Γ := g43) (an := n43) (Λ := L43) ((base).add o45) Tryz.func43 (by kernel_rfl) (hF (by kernel_rfl) (cF k43_2 nF))) (fun x a => by kernel_rfl)
def e44 : GEnt := entIo (.sl .str) true [.data false (.int .i64)] [(false, (.int .i64))] fun x a => Pu.laws_markFlash x a.1
theorem o44 : FnOk Tryz.prog 44 e44 := FnOk.ofIo (fnIo (an := {}) (Λ := Lam.nil) ((base).add o46) Tryz.func44 (by kernel_rfl) (hF (by kernel_rfl) nF)) (fun x a => by kernel_rfl)
def e10 : GEnt := entIo TCard true [.data false (.int .i64)] [(false, (.int .i64))] fun x a => Pu.laws_markCard x a.1
theorem o10 : FnOk Tryz.prog 10 e10 := FnOk.ofIo (fnIo (an := {}) (Λ := Lam.nil) (((((((base).add o41).add o42).add o43).add o44).add o45).add o46) Tryz.func10 (by kernel_rfl) (hF (by kernel_rfl) nF)) (fun x a => by kernel_rfl)
def e51 : GEnt := entOf [.data false (.sl (.int .i64)), .data false (.int .i64)] [(false, (.int .i64))] fun a => Pu.laws_heldIntS a.1 a.2.1
def g51 : Gam := Gam.nil
def n51 : An := { mask := fun | 2 => [0, 1, 4, 5] | _ => [] }
@[reducible] def d51_2 : SD := ⟨[.data false (.sl .arg (.int .i64)),DI,B,B,DI,DI,B,B,B,B,B,B,B,B,B,B,B,B,B,B,B], [Z,Z,Z,Z,Z,Z,Z,Z,Z,Z,Z,Z,Z,Z,Z,Z,Z,Z,Z,Z,Z], .none⟩
def t51_2 {R : Type} (X : SD.D d51_2) (K : Ex → AS → Option R) := Pu.laws_heldIntS_T2 (fun y0 y1 => K (.exit 0) (SD.enc d51_2 ((X.1.1, (y0, (X.1.2.2.1, (y1, ())))), (), ()))) (fun y0 y1 y2 => K .ret (SD.enc d51_2 ((X.1.1, (y0, (y1, (y2, ())))), (), ()))) X.1.1 X.1.2.2.1
def l51_2 : LEnt := ⟨d51_2, fun X K => iterL (t51_2 X K) fuel (X.1.2.1, X.1.2.2.2.1)⟩
def L51 : Lam := (Lam.nil).add 2 l51_2
theorem k51_2 : LOk E g51 n51 L51 (loopBody Tryz.f51 0) :=
  lok l51_2 (by kernel_rfl) fuel fun R X K => (loop_iter (σ := Int × Int) (fun x => SD.enc d51_2 ((X.1.1, (x.1, (X.1.2.2.1, (x.2, ())))), (), ())) (t51_2 X K) (fun m x => by kernel_rfl) fuel (X.1.2.1, X.1.2.2.2.1)).symm
theorem o51 : FnOk Tryz.prog 51 e51 := fk n51 (base) Tryz.func51 (Λ := L51) (cF k51_2 nF)
def e52 : GEnt := entOf [.data false (.sl .str), .data false (.int .i64)] [(false, (.int .i64))] fun a => Pu.laws_heldStringS a.1 a.2.1
def g52 : Gam := (Gam.nil).add 93 e93
def n52 : An := { mask := fun | 2 => [0, 1, 4, 5] | _ => [] }
@[reducible] def d52_2 : SD := ⟨[.data false (.sl .arg .str),DI,B,B,DI,DI,B,B,B,B,B,B,B,B,B,B,B,B,B,B,B,B], [Z,Z,Z,Z,Z,Z,Z,Z,Z,Z,Z,Z,Z,Z,Z,Z,Z,Z,Z,Z,Z,Z], .none⟩
def t52_2 {R : Type} (X : SD.D d52_2) (K : Ex → AS → Option R) := Pu.laws_heldStringS_T2 (fun y0 y1 => K (.exit 0) (SD.enc d52_2 ((X.1.1, (y0, (X.1.2.2.1, (y1, ())))), (), ()))) (fun y0 y1 y2 => K .ret (SD.enc d52_2 ((X.1.1, (y0, (y1, (y2, ())))), (), ()))) X.1.1 X.1.2.2.1
def l52_2 : LEnt := ⟨d52_2, fun X K => iterL (t52_2 X K) fuel (X.1.2.1, X.1.2.2.2.1)⟩
def L52 : Lam := (Lam.nil).add 2 l52_2
theorem k52_2 : LOk E g52 n52 L52 (loopBody Tryz.f52 0) :=
  lok l52_2 (by kernel_rfl) fuel fun R X K => (loop_iter (σ := Int × Int) (fun x => SD.enc d52_2 ((X.1.1, (x.1, (X.1.2.2.1, (x.2, ())))), (), ())) (t52_2 X K) (fun m x => by kernel_rfl) fuel (X.1.2.1, X.1.2.2.2.1)).symm
theorem o52 : FnOk Tryz.prog 52 e52 := fk n52 ((base).add o93) Tryz.func52 (Λ := L52) (cF k52_2 nF)
def e95 : GEnt := entOf [.data false (.sl TMapping), .data false (.int .i64)] [(false, (.int .i64))] fun a => Pu.laws_heldMappingS a.1 a.2.1
def g95 : Gam := Gam.nil
def n95 : An := { mask := fun | 2 => [0, 1, 4, 5] | _ => [] }
@[reducible] def d95_2 : SD := ⟨[.data false (.sl .arg TMapping),DI,B,B,DI,DI,B,B,B,B,B,B,B,B,B,B,B,B,B,B,B,B,B,B,B,B,B,B,B,B,B,B,B,B,B,B,B,B,B,B,B,B,B,B,B,B,B,B,B,B,B], [Z,Z,Z,Z,Z,Z,Z,Z,Z,Z,Z,Z,Z,Z,Z,Z,Z,Z,Z,Z,Z,Z,Z,Z,Z,Z,Z,Z,Z,Z,Z,Z,Z,Z,Z,Z,Z,Z,Z,Z,Z,Z,Z,Z,Z,Z,Z,Z,Z,Z,Z], .none⟩
def t95_2 {R : Type} (X : SD.D d95_2) (K : Ex → AS → Option R) := Pu.laws_heldMappingS_T2 (fun y0 y1 => K (.exit 0) (SD.enc d95_2 ((X.1.1, (y0, (X.1.2.2.1, (y1, ())))), (), ()))) (fun y0 y1 y2 => K .ret (SD.enc d95_2 ((X.1.1, (y0, (y1, (y2, ())))), (), ()))) X.1.1 X.1.2.2.1
def l95_2 : LEnt := ⟨d95_2, fun X K => iterL (t95_2 X K) fuel (X.1.2.1, X.1.2.2.2.1)⟩
def L95 : Lam := (Lam.nil).add 2 l95_2
theorem k95_2 : LOk E g95 n95 L95 (loopBody Tryz.f95 0) :=
  lok l95_2 (by kernel_rfl) fuel fun R X K => (loop_iter (σ := Int × Int) (fun x => SD.enc d95_2 ((X.1.1, (x.1, (X.1.2.2.1, (x.2, ())))), (), ())) (t95_2 X K) (fun m x => by kernel_rfl) fuel (X.1.2.1, X.1.2.2.2.1)).symm
theorem o95 : FnOk Tryz.prog 95 e95 := fk n95 (base) Tryz.func95 (Λ := L95) (cF k95_2 nF)
def e96 : GEnt := entOf [.data false (.sl TSent), .data false (.int .i64)] [(false, (.int .i64))] fun a => Pu.laws_heldSentS a.1 a.2.1
def g96 : Gam := (Gam.nil).add 51 e51
def n96 : An := { mask := fun | 2 => [0, 1, 4, 5] | _ => [] }
@[reducible] def d96_2 : SD := ⟨[.data false (.sl .arg TSent),DI,B,B,DI,DI,B,B,B,B,B,B,B,B,B,B,B,B,B,B,B,B,B,B,B,B,B,B,B,B,B,B,B,B,B,B,B,B,B,B], [Z,Z,Z,Z,Z,Z,Z,Z,Z,Z,Z,Z,Z,Z,Z,Z,Z,Z,Z,Z,Z,Z,Z,Z,Z,Z,Z,Z,Z,Z,Z,Z,Z,Z,Z,Z,Z,Z,Z,Z], .none⟩
def t96_2 {R : Type} (X : SD.D d96_2) (K : Ex → AS → Option R) := Pu.laws_heldSentS_T2 (fun y0 y1 => K (.exit 0) (SD.enc d96_2 ((X.1.1, (y0, (X.1.2.2.1, (y1, ())))), (), ()))) (fun y0 y1 y2 => K .ret (SD.enc d96_2 ((X.1.1, (y0, (y1, (y2, ())))), (), ()))) X.1.1 X.1.2.2.1
def l96_2 : LEnt := ⟨d96_2, fun X K => iterL (t96_2 X K) fuel (X.1.2.1, X.1.2.2.2.1)⟩
def L96 : Lam := (Lam.nil).add 2 l96_2
theorem k96_2 : LOk E g96 n96 L96 (loopBody Tryz.f96 0) :=
  lok l96_2 (by kernel_rfl) fuel fun R X K => (loop_iter (σ := Int × Int) (fun x => SD.enc d96_2 ((X.1.1, (x.1, (X.1.2.2.1, (x.2, ())))), (), ())) (t96_2 X K) (fun m x => by kernel_rfl) fuel (X.1.2.1, X.1.2.2.2.1)).symm
theorem o96 : FnOk Tryz.prog 96 e96 := fk n96 ((base).add o51) Tryz.func96 (Λ := L96) (cF k96_2 nF)
def e97 : GEnt := entOf [.data false (.sl TRxQueue), .data false (.int .i64)] [(false, (.int .i64))] fun a => Pu.laws_heldRxQueueS a.1 a.2.1
def g97 : Gam := (Gam.nil).add 93 e93
def n97 : An := { mask := fun | 2 => [0, 1, 4, 5] | _ => [] }
@[reducible] def d97_2 : SD := ⟨[.data false (.sl .arg TRxQueue),DI,B,B,DI,DI,B,B,B,B,B,B,B,B,B,B,B,B,B,B,B,B,B,B,B,B,B,B,B,B,B,B,B,B,B,B,B,B,B,B,B,B,B,B,B,B,B,B,B,B,B,B,B,B,B,B,B,B,B,B,B,B,B,B,B,B,B,B,B,B,B,B,B,B,B,B,B,B,B,B,B,B,B,B,B,B,B,B,B,B,B,B,B,B,B,B,B,B,B,B,B,B,B,B,B,B,B,B,B,B,B,B,B,B,B,B,B,B,B,B,B,B,B,B,B,B,B,B,B,B,B,B,B,B,B,B,B,B,B,B,B,B,B,B,B,B,B,B,B,B,B,B,B,B,B,B,B,B,B,B,B,B,B,B,B,B,B,B,B,B,B,B,B,B,B,B,B,B,B,B,B,B,B,B,B,B,B,B,B,B,B,B,B,B,B,B,B,B,B,B,B,B,B,B,B,B,B,B,B,B,B,B,B,B,B,B,B,B,B,B,B,B,B,B,B,B,B,B,B,B,B,B,B,B,B,B,B,B,B,B,B,B,B,B,B,B,B,B,B,B,B,B,B,B,B,B,B,B,B,B,B,B,B,B,B,B,B,B,B,B,B,B,B,B,B,B,B,B,B,B,B,B,B,B,B,B,B,B,B,B,B,B,B,B,B,B,B,B,B,B,B,B,B,B,B,B,B,B,B,B,B,B,B,B,B,B,B,B,B,B,B,B,B,B,B,B,B,B,B,B,B,B,B,B,B,B,B,B], [Z,Z,Z,Z,Z,Z,Z,Z,Z,Z,Z,Z,Z,Z,Z,Z,Z,Z,Z,Z,Z,Z,Z,Z,Z,Z,Z,Z,Z,Z,Z,Z,Z,Z,Z,Z,Z,Z,Z,Z,Z,Z,Z,Z,Z,Z,Z,Z,Z,Z,Z,Z,Z,Z,Z,Z,Z,Z,Z,Z,Z,Z,Z,Z,Z,Z,Z,Z,Z,Z,Z,Z,Z,Z,Z,Z,Z,Z,Z,Z,Z,Z,Z,Z,Z,Z,Z,Z,Z,Z,Z,Z,Z,Z,Z,Z,Z,Z,Z,Z,Z,Z,Z,Z,Z,Z,Z,Z,Z,Z,Z,Z,Z,Z,Z,Z,Z,Z,Z,Z,Z,Z,Z,Z,Z,Z,Z,Z,Z,Z,Z,Z,Z,Z,Z,Z,Z,Z,Z,Z,Z,Z,Z,Z,Z,Z,Z,Z,Z,Z,Z,Z,Z,Z,Z,Z,Z,Z,Z,Z,Z,Z,Z,Z,Z,Z,Z,Z,Z,Z,Z,Z,Z,Z,Z,Z,Z,Z,Z,Z,Z,Z,Z,Z,Z,Z,Z,Z,Z,Z,Z,Z,Z,Z,Z,Z,Z,Z,Z,Z,Z,Z,Z,Z,Z,Z,Z,Z,Z,Z,Z,Z,Z,Z,Z,Z,Z,Z,Z,Z,Z,Z,Z,Z,Z,Z,Z,Z,Z,Z,Z,Z,Z,Z,Z,Z,Z,Z,Z,Z,Z,Z,Z,Z,Z,Z,Z,Z,Z,Z,Z,Z,Z,Z,Z,Z,Z,Z,Z,Z,Z,Z,Z,Z,Z,Z,Z,Z,Z,Z,Z,Z,Z,Z,Z,Z,Z,Z,Z,Z,Z,Z,Z,Z,Z,Z,Z,Z,Z,Z,Z,Z,Z,Z,Z,Z,Z,Z,Z,Z,Z,Z,Z,Z,Z,Z,Z,Z,Z,Z,Z,Z,Z,Z,Z,Z,Z,Z,Z,Z,Z,Z,Z,Z,Z,Z,Z,Z,Z,Z,Z,Z,Z,Z,Z,Z,Z,Z], .none⟩
def t97_2 {R : Type} (X : SD.D d97_2) (K : Ex → AS → Option R) := Pu.laws_heldRxQueueS_T2 (fun y0 y1 => K (.exit 0) (SD.enc d97_2 ((X.1.1, (y0, (X.1.2.2.1, (y1, ())))), (), ()))) (fun y0 y1 y2 => K .ret (SD.enc d97_2 ((X.1.1, (y0, (y1, (y2, ())))), (), ()))) X.1.1 X.1.2.2.1
def l97_2 : LEnt := ⟨d97_2, fun X K => iterL (t97_2 X K) fuel (X.1.2.1, X.1.2.2.2.1)⟩
def L97 : Lam := (Lam.nil).add 2 l97_2
theorem k97_2 : LOk E g97 n97 L97 (loopBody Tryz.f97 0) :=
  lok l97_2 (by kernel_rfl) fuel fun R X K => (loop_iter (σ := Int × Int) (fun x => SD.enc d97_2 ((X.1.1, (x.1, (X.1.2.2.1, (x.2, ())))), (), ())) (t97_2 X K) (fun m x => by kernel_rfl) fuel (X.1.2.1, X.1.2.2.2.1)).symm
theorem o97 : FnOk Tryz.prog 97 e97 := fk n97 ((base).add o93) Tryz.func97 (Λ := L97) (cF k97_2 nF)
def e98 : GEnt := entOf [.data false (.sl TPool), .data false (.int .i64)] [(false, (.int .i64))] fun a => Pu.laws_heldPoolS a.1 a.2.1
def g98 : Gam := (Gam.nil).add 51 e51
def n98 : An := { mask := fun | 2 => [0, 1, 4, 5] | _ => [] }
@[reducible] def d98_2 : SD := ⟨[.data false (.sl .arg TPool),DI,B,B,DI,DI,B,B,B,B,B,B,B,B,B,B,B,B,B,B,B,B,B,B,B,B,B,B,B,B,B,B,B,B,B,B,B,B,B,B,B,B,B,B,B,B,B,B,B], [Z,Z,Z,Z,Z,Z,Z,Z,Z,Z,Z,Z,Z,Z,Z,Z,Z,Z,Z,Z,Z,Z,Z,Z,Z,Z,Z,Z,Z,Z,Z,Z,Z,Z,Z,Z,Z,Z,Z,Z,Z,Z,Z,Z,Z,Z,Z,Z,Z], .none⟩
def t98_2 {R : Type} (X : SD.D d98_2) (K : Ex → AS → Option R) := Pu.laws_heldPoolS_T2 (fun y0 y1 => K (.exit 0) (SD.enc d98_2 ((X.1.1, (y0, (X.1.2.2.1, (y1, ())))), (), ()))) (fun y0 y1 y2 => K .ret (SD.enc d98_2 ((X.1.1, (y0, (y1, (y2, ())))), (), ()))) X.1.1 X.1.2.2.1
def l98_2 : LEnt := ⟨d98_2, fun X K => iterL (t98_2 X K) fuel (X.1.2.1, X.1.2.2.2.1)⟩
def L98 : Lam := (Lam.nil).add 2 l98_2
theorem k98_2 : LOk E g98 n98 L98 (loopBody Tryz.f98 0) :=
  lok l98_2 (by kernel_rfl) fuel fun R X K => (loop_iter (σ := Int × Int) (fun x => SD.enc d98_2 ((X.1.1, (x.1, (X.1.2.2.1, (x.2, ())))), (), ())) (t98_2 X K) (fun m x => by kernel_rfl) fuel (X.1.2.1, X.1.2.2.2.1)).symm
theorem o98 : FnOk Tryz.prog 98 e98 := fk n98 ((base).add o51) Tryz.func98 (Λ := L98) (cF k98_2 nF)
def e99 : GEnt := entOf [.data false (.sl TVector), .data false (.int .i64)] [(false, (.int .i64))] fun a => Pu.laws_heldVectorS a.1 a.2.1
def g99 : Gam := Gam.nil
def n99 : An := { mask := fun | 2 => [0, 1, 4, 5] | _ => [] }
@[reducible] def d99_2 : SD := ⟨[.data false (.sl .arg TVector),DI,B,B,DI,DI,B,B,B,B,B,B,B,B,B,B,B,B,B,B,B,B,B,B,B,B,B,B,B,B,B,B,B,B,B,B,B,B,B,B,B,B,B,B,B,B,B,B,B,B,B,B,B,B,B,B,B,B,B,B,B,B,B,B,B,B,B,B,B,B,B], [Z,Z,Z,Z,Z,Z,Z,Z,Z,Z,Z,Z,Z,Z,Z,Z,Z,Z,Z,Z,Z,Z,Z,Z,Z,Z,Z,Z,Z,Z,Z,Z,Z,Z,Z,Z,Z,Z,Z,Z,Z,Z,Z,Z,Z,Z,Z,Z,Z,Z,Z,Z,Z,Z,Z,Z,Z,Z,Z,Z,Z,Z,Z,Z,Z,Z,Z,Z,Z,Z,Z], .none⟩
def t99_2 {R : Type} (X : SD.D d99_2) (K : Ex → AS → Option R) := Pu.laws_heldVectorS_T2 (fun y0 y1 => K (.exit 0) (SD.enc d99_2 ((X.1.1, (y0, (X.1.2.2.1, (y1, ())))), (), ()))) (fun y0 y1 y2 => K .ret (SD.enc d99_2 ((X.1.1, (y0, (y1, (y2, ())))), (), ()))) X.1.1 X.1.2.2.1
def l99_2 : LEnt := ⟨d99_2, fun X K => iterL (t99_2 X K) fuel (X.1.2.1, X.1.2.2.2.1)⟩
def L99 : Lam := (Lam.nil).add 2 l99_2
theorem k99_2 : LOk E g99 n99 L99 (loopBody Tryz.f99 0) :=
  lok l99_2 (by kernel_rfl) fuel fun R X K => (loop_iter (σ := Int × Int) (fun x => SD.enc d99_2 ((X.1.1, (x.1, (X.1.2.2.1, (x.2, ())))), (), ())) (t99_2 X K) (fun m x => by kernel_rfl) fuel (X.1.2.1, X.1.2.2.2.1)).symm
theorem o99 : FnOk Tryz.prog 99 e99 := fk n99 (base) Tryz.func99 (Λ := L99) (cF k99_2 nF)
def e100 : GEnt := entOf [.data false (.sl .bool), .data false (.int .i64)] [(false, (.int .i64))] fun a => Pu.laws_heldBoolS a.1 a.2.1
def g100 : Gam := Gam.nil
def n100 : An := { mask := fun | 2 => [0, 1, 4, 5] | _ => [] }
@[reducible] def d100_2 : SD := ⟨[.data false (.sl .arg .bool),DI,B,B,DI,DI,B,B,B,B,B,B,B,B,B,B,B,B,B,B,B,B,B], [Z,Z,Z,Z,Z,Z,Z,Z,Z,Z,Z,Z,Z,Z,Z,Z,Z,Z,Z,Z,Z,Z,Z], .none⟩
def t100_2 {R : Type} (X : SD.D d100_2) (K : Ex → AS → Option R) := Pu.laws_heldBoolS_T2 (fun y0 y1 => K (.exit 0) (SD.enc d100_2 ((X.1.1, (y0, (X.1.2.2.1, (y1, ())))), (), ()))) (fun y0 y1 y2 => K .ret (SD.enc d100_2 ((X.1.1, (y0, (y1, (y2, ())))), (), ()))) X.1.1 X.1.2.2.1
def l100_2 : LEnt := ⟨d100_2, fun X K => iterL (t100_2 X K) fuel (X.1.2.1, X.1.2.2.2.1)⟩
def L100 : Lam := (Lam.nil).add 2 l100_2
theorem k100_2 : LOk E g100 n100 L100 (loopBody Tryz.f100 0) :=
  lok l100_2 (by kernel_rfl) fuel fun R X K => (loop_iter (σ := Int × Int) (fun x => SD.enc d100_2 ((X.1.1, (x.1, (X.1.2.2.1, (x.2, ())))), (), ())) (t100_2 X K) (fun m x => by kernel_rfl) fuel (X.1.2.1, X.1.2.2.2.1)).symm
theorem o100 : FnOk Tryz.prog 100 e100 := fk n100 (base) Tryz.func100 (Λ := L100) (cF k100_2 nF)
def e101 : GEnt := entOf [.data false (.sl TRule), .data false (.int .i64)] [(false, (.int .i64))] fun a => Pu.laws_heldRuleS a.1 a.2.1
def g101 : Gam := Gam.nil
def n101 : An := { mask := fun | 2 => [0, 1, 4, 5] | _ => [] }
@[reducible] def d101_2 : SD := ⟨[.data false (.sl .arg TRule),DI,B,B,DI,DI,B,B,B,B,B,B,B,B,B,B,B,B,B,B,B,B,B,B,B,B,B,B,B,B,B,B,B,B,B,B,B,B,B,B,B,B,B,B,B,B,B,B,B,B,B,B,B,B,B,B,B,B,B,B,B,B,B,B,B,B,B,B,B,B,B,B,B,B,B,B,B,B,B,B,B,B,B,B,B,B,B,B,B,B,B,B,B,B], [Z,Z,Z,Z,Z,Z,Z,Z,Z,Z,Z,Z,Z,Z,Z,Z,Z,Z,Z,Z,Z,Z,Z,Z,Z,Z,Z,Z,Z,Z,Z,Z,Z,Z,Z,Z,Z,Z,Z,Z,Z,Z,Z,Z,Z,Z,Z,Z,Z,Z,Z,Z,Z,Z,Z,Z,Z,Z,Z,Z,Z,Z,Z,Z,Z,Z,Z,Z,Z,Z,Z,Z,Z,Z,Z,Z,Z,Z,Z,Z,Z,Z,Z,Z,Z,Z,Z,Z,Z,Z,Z,Z,Z,Z], .none⟩
def t101_2 {R : Type} (X : SD.D d101_2) (K : Ex → AS → Option R) := Pu.laws_heldRuleS_T2 (fun y0 y1 => K (.exit 0) (SD.enc d101_2 ((X.1.1, (y0, (X.1.2.2.1, (y1, ())))), (), ()))) (fun y0 y1 y2 => K .ret (SD.enc d101_2 ((X.1.1, (y0, (y1, (y2, ())))), (), ()))) X.1.1 X.1.2.2.1
def l101_2 : LEnt := ⟨d101_2, fun X K => iterL (t101_2 X K) fuel (X.1.2.1, X.1.2.2.2.1)⟩
def L101 : Lam := (Lam.nil).add 2 l101_2
theorem k101_2 : LOk E g101 n101 L101 (loopBody Tryz.f101 0) :=
  lok l101_2 (by kernel_rfl) fuel fun R X K => (loop_iter (σ := Int × Int) (fun x => SD.enc d101_2 ((X.1.1, (x.1, (X.1.2.2.1, (x.2, ())))), (), ())) (t101_2 X K) (fun m x => by kernel_rfl) fuel (X.1.2.1, X.1.2.2.2.1)).symm
theorem o101 : FnOk Tryz.prog 101 e101 := fk n101 (base) Tryz.func101 (Λ := L101) (cF k101_2 nF)
def e102 : GEnt := entOf [.data false (.sl TSlot), .data false (.int .i64)] [(false, (.int .i64))] fun a => Pu.laws_heldSlotS a.1 a.2.1
def g102 : Gam := Gam.nil
def n102 : An := { mask := fun | 2 => [0, 1, 4, 5] | _ => [] }
@[reducible] def d102_2 : SD := ⟨[.data false (.sl .arg TSlot),DI,B,B,DI,DI,B,B,B,B,B,B,B,B,B,B,B,B,B,B,B,B,B,B,B,B,B,B,B,B,B,B,B,B,B,B,B,B,B,B,B,B,B,B,B,B,B,B,B,B,B,B,B,B,B,B,B,B,B,B,B,B,B,B,B,B,B,B,B,B,B,B,B,B,B,B,B,B,B,B,B], [Z,Z,Z,Z,Z,Z,Z,Z,Z,Z,Z,Z,Z,Z,Z,Z,Z,Z,Z,Z,Z,Z,Z,Z,Z,Z,Z,Z,Z,Z,Z,Z,Z,Z,Z,Z,Z,Z,Z,Z,Z,Z,Z,Z,Z,Z,Z,Z,Z,Z,Z,Z,Z,Z,Z,Z,Z,Z,Z,Z,Z,Z,Z,Z,Z,Z,Z,Z,Z,Z,Z,Z,Z,Z,Z,Z,Z,Z,Z,Z,Z], .none⟩
def t102_2 {R : Type} (X : SD.D d102_2) (K : Ex → AS → Option R) := Pu.laws_heldSlotS_T2 (fun y0 y1 => K (.exit 0) (SD.enc d102_2 ((X.1.1, (y0, (X.1.2.2.1, (y1, ())))), (), ()))) (fun y0 y1 y2 => K .ret (SD.enc d102_2 ((X.1.1, (y0, (y1, (y2, ())))), (), ()))) X.1.1 X.1.2.2.1
def l102_2 : LEnt := ⟨d102_2, fun X K => iterL (t102_2 X K) fuel (X.1.2.1, X.1.2.2.2.1)⟩
def L102 : Lam := (Lam.nil).add 2 l102_2
theorem k102_2 : LOk E g102 n102 L102 (loopBody Tryz.f102 0) :=
  lok l102_2 (by kernel_rfl) fuel fun R X K => (loop_iter (σ := Int × Int) (fun x => SD.enc d102_2 ((X.1.1, (x.1, (X.1.2.2.1, (x.2, ())))), (), ())) (t102_2 X K) (fun m x => by kernel_rfl) fuel (X.1.2.1, X.1.2.2.2.1)).symm
theorem o102 : FnOk Tryz.prog 102 e102 := fk n102 (base) Tryz.func102 (Λ := L102) (cF k102_2 nF)
def e103 : GEnt := entOf [.data false (.sl TStream), .data false (.int .i64)] [(false, (.int .i64))] fun a => Pu.laws_heldStreamS a.1 a.2.1
def g103 : Gam := (Gam.nil).add 93 e93
def n103 : An := { mask := fun | 2 => [0, 1, 4, 5] | _ => [] }
@[reducible] def d103_2 : SD := ⟨[.data false (.sl .arg TStream),DI,B,B,DI,DI,B,B,B,B,B,B,B,B,B,B,B,B,B,B,B,B,B,B,B,B,B,B,B,B,B,B,B,B,B,B,B,B,B,B,B,B,B,B,B,B,B,B,B,B,B,B,B,B,B,B,B,B,B,B,B,B,B,B,B,B,B,B,B,B,B,B,B,B,B,B,B,B,B,B,B,B,B,B,B,B,B,B,B,B,B,B,B], [Z,Z,Z,Z,Z,Z,Z,Z,Z,Z,Z,Z,Z,Z,Z,Z,Z,Z,Z,Z,Z,Z,Z,Z,Z,Z,Z,Z,Z,Z,Z,Z,Z,Z,Z,Z,Z,Z,Z,Z,Z,Z,Z,Z,Z,Z,Z,Z,Z,Z,Z,Z,Z,Z,Z,Z,Z,Z,Z,Z,Z,Z,Z,Z,Z,Z,Z,Z,Z,Z,Z,Z,Z,Z,Z,Z,Z,Z,Z,Z,Z,Z,Z,Z,Z,Z,Z,Z,Z,Z,Z,Z,Z], .none⟩
def t103_2 {R : Type} (X : SD.D d103_2) (K : Ex → AS → Option R) := Pu.laws_heldStreamS_T2 (fun y0 y1 => K (.exit 0) (SD.enc d103_2 ((X.1.1, (y0, (X.1.2.2.1, (y1, ())))), (), ()))) (fun y0 y1 y2 => K .ret (SD.enc d103_2 ((X.1.1, (y0, (y1, (y2, ())))), (), ()))) X.1.1 X.1.2.2.1
def l103_2 : LEnt := ⟨d103_2, fun X K => iterL (t103_2 X K) fuel (X.1.2.1, X.1.2.2.2.1)⟩
def L103 : Lam := (Lam.nil).add 2 l103_2
theorem k103_2 : LOk E g103 n103 L103 (loopBody Tryz.f103 0) :=
  lok l103_2 (by kernel_rfl) fuel fun R X K => (loop_iter (σ := Int × Int) (fun x => SD.enc d103_2 ((X.1.1, (x.1, (X.1.2.2.1, (x.2, ())))), (), ())) (t103_2 X K) (fun m x => by kernel_rfl) fuel (X.1.2.1, X.1.2.2.2.1)).symm
theorem o103 : FnOk Tryz.prog 103 e103 := fk n103 ((base).add o93) Tryz.func103 (Λ := L103) (cF k103_2 nF)
def e47 : GEnt := entOf [.data false (.sl THost), .data false (.int .i64)] [(false, (.int .i64))] fun a => Pu.laws_heldHostS a.1 a.2.1
def g47 : Gam := ((((((((((((Gam.nil).add 51 e51).add 52 e52).add 93 e93).add 95 e95).add 96 e96).add 97 e97).add 98 e98).add 99 e99).add 100 e100).add 101 e101).add 102 e102).add 103 e103
def n47 : An := { mask := fun | 2 => [0, 1, 4, 5] | _ => [] }
@[reducible] def d47_2 : SD := ⟨[.data false (.sl .arg THost),DI,B,B,DI,DI,B,B,B,B,B,B,B,B,B,B,B,B,B,B,B,B,B,B,B,B,B,B,B,B,B,B,B,B,B,B,B,B,B,B,B,B,B,B,B,B,B,B,B,B,B,B,B,B,B,B,B,B,B,B,B,B,B,B,B,B,B,B,B,B,B,B,B,B,B,B,B,B,B,B,B,B,B,B,B,B,B,B,B,B,B,B,B,B,B,B,B,B,B,B,B,B,B,B,B,B,B,B,B,B,B,B,B,B,B,B,B,B,B,B,B,B,B,B,B,B,B,B,B,B,B,B,B,B,B,B,B,B,B,B,B,B,B,B,B,B,B,B,B,B,B,B,B,B,B,B,B,B,B,B,B,B,B,B,B,B,B,B,B,B,B,B,B,B,B,B,B,B,B,B,B,B,B,B,B,B,B,B,B,B,B,B,B,B,B,B,B,B,B,B,B,B,B,B,B,B,B,B,B,B,B,B,B,B,B,B,B,B,B,B,B,B,B,B,B,B,B,B,B,B,B,B,B,B,B,B,B,B,B,B,B,B,B,B,B,B,B,B,B,B,B,B,B,B,B,B,B,B,B,B,B,B,B,B,B,B,B,B,B,B,B,B,B,B,B,B,B,B,B,B,B,B,B,B,B,B,B,B,B,B,B,B,B,B,B,B,B,B,B,B,B,B,B,B,B,B,B,B,B,B,B,B,B,B,B,B,B,B,B,B,B,B,B,B,B,B,B,B,B,B,B,B,B,B,B,B,B,B,B,B,B,B,B,B,B,B,B,B,B], [Z,Z,Z,Z,Z,Z,Z,Z,Z,Z,Z,Z,Z,Z,Z,Z,Z,Z,Z,Z,Z,Z,Z,Z,Z,Z,Z,Z,Z,Z,Z,Z,Z,Z,Z,Z,Z,Z,Z,Z,Z,Z,Z,Z,Z,Z,Z,Z,Z,Z,Z,Z,Z,Z,Z,Z,Z,Z,Z,Z,Z,Z,Z,Z,Z,Z,Z,Z,Z,Z,Z,Z,Z,Z,Z,Z,Z,Z,Z,Z,Z,Z,Z,Z,Z,Z,Z,Z,Z,Z,Z,Z,Z,Z,Z,Z,Z,Z,Z,Z,Z,Z,Z,Z,Z,Z,Z,Z,Z,Z,Z,Z,Z,Z,Z,Z,Z,Z,Z,Z,Z,Z,Z,Z,Z,Z,Z,Z,Z,Z,Z,Z,Z,Z,Z,Z,Z,Z,Z,Z,Z,Z,Z,Z,Z,Z,Z,Z,Z,Z,Z,Z,Z,Z,Z,Z,Z,Z,Z,Z,Z,Z,Z,Z,Z,Z,Z,Z,Z,Z,Z,Z,Z,Z,Z,Z,Z,Z,Z,Z,Z,Z,Z,Z,Z,Z,Z,Z,Z,Z,Z,Z,Z,Z,Z,Z,Z,Z,Z,Z,Z,Z,Z,Z,Z,Z,Z,Z,Z,Z,Z,Z,Z,Z,Z,Z,Z,Z,Z,Z,Z,Z,Z,Z,Z,Z,Z,Z,Z,Z,Z,Z,Z,Z,Z,Z,Z,Z,Z,Z,Z,Z,Z,Z,Z,Z,Z,Z,Z,Z,Z,Z,Z,Z,Z,Z,Z,Z,Z,Z,Z,Z,Z,Z,Z,Z,Z,Z,Z,Z,Z,Z,Z,Z,Z,Z,Z,Z,Z,Z,Z,Z,Z,Z,Z,Z,Z,Z,Z,Z,Z,Z,Z,Z,Z,Z,Z,Z,Z,Z,Z,Z,Z,Z,Z,Z,Z,Z,Z,Z,Z,Z,Z,Z,Z,Z,Z,Z,Z,Z,Z,Z,Z,Z,Z,Z,Z,Z,Z,Z,Z,Z,Z,Z,Z,Z,Z,Z,Z,Z,Z,Z,Z,Z,Z,Z,Z,Z,Z], .none⟩
def t47_2 {R : Type} (X : SD.D d47_2) (K : Ex → AS → Option R) := Pu.laws_heldHostS_T2 (fun y0 y1 => K (.exit 0) (SD.enc d47_2 ((X.1.1, (y0, (X.1.2.2.1, (y1, ())))), (), ()))) (fun y0 y1 y2 => K .ret (SD.enc d47_2 ((X.1.1, (y0, (y1, (y2, ())))), (), ()))) X.1.1 X.1.2.2.1
def l47_2 : LEnt := ⟨d47_2, fun X K => iterL (t47_2 X K) fuel (X.1.2.1, X.1.2.2.2.1)⟩
def L47 : Lam := (Lam.nil).add 2 l47_2
theorem k47_2 : LOk E g47 n47 L47 (loopBody Tryz.f47 0) :=
  lok l47_2 (by kernel_rfl) fuel fun R X K => (loop_iter (σ := Int × Int) (fun x => SD.enc d47_2 ((X.1.1, (x.1, (X.1.2.2.1, (x.2, ())))), (), ())) (t47_2 X K) (fun m x => by kernel_rfl) fuel (X.1.2.1, X.1.2.2.2.1)).symm
theorem o47 : FnOk Tryz.prog 47 e47 := fk n47 (((((((((((((base).add o51).add o52).add o93).add o95).add o96).add o97).add o98).add o99).add o100).add o101).add o102).add o103) Tryz.func47 (Λ := L47) (cF k47_2 nF)
def e48 : GEnt := entOf [.data false (.sl TVirtualFunction), .data false (.int .i64)] [(false, (.int .i64))] fun a => Pu.laws_heldVirtualFunctionS a.1 a.2.1
def g48 : Gam := Gam.nil
def n48 : An := { mask := fun | 2 => [0, 1, 4, 5] | _ => [] }
@[reducible] def d48_2 : SD := ⟨[.data false (.sl .arg TVirtualFunction),DI,B,B,DI,DI,B,B,B,B,B,B,B,B,B,B,B,B,B,B,B,B,B,B,B,B,B,B,B,B,B,B,B,B,B,B,B,B,B,B,B,B,B,B,B,B,B,B,B,B,B,B,B,B,B,B,B,B,B,B,B,B,B,B,B,B,B,B,B,B,B,B,B,B,B,B,B,B,B,B,B,B,B,B,B,B,B,B,B,B], [Z,Z,Z,Z,Z,Z,Z,Z,Z,Z,Z,Z,Z,Z,Z,Z,Z,Z,Z,Z,Z,Z,Z,Z,Z,Z,Z,Z,Z,Z,Z,Z,Z,Z,Z,Z,Z,Z,Z,Z,Z,Z,Z,Z,Z,Z,Z,Z,Z,Z,Z,Z,Z,Z,Z,Z,Z,Z,Z,Z,Z,Z,Z,Z,Z,Z,Z,Z,Z,Z,Z,Z,Z,Z,Z,Z,Z,Z,Z,Z,Z,Z,Z,Z,Z,Z,Z,Z,Z,Z], .none⟩
def t48_2 {R : Type} (X : SD.D d48_2) (K : Ex → AS → Option R) := Pu.laws_heldVirtualFunctionS_T2 (fun y0 y1 => K (.exit 0) (SD.enc d48_2 ((X.1.1, (y0, (X.1.2.2.1, (y1, ())))), (), ()))) (fun y0 y1 y2 => K .ret (SD.enc d48_2 ((X.1.1, (y0, (y1, (y2, ())))), (), ()))) X.1.1 X.1.2.2.1
def l48_2 : LEnt := ⟨d48_2, fun X K => iterL (t48_2 X K) fuel (X.1.2.1, X.1.2.2.2.1)⟩
def L48 : Lam := (Lam.nil).add 2 l48_2
theorem k48_2 : LOk E g48 n48 L48 (loopBody Tryz.f48 0) :=
  lok l48_2 (by kernel_rfl) fuel fun R X K => (loop_iter (σ := Int × Int) (fun x => SD.enc d48_2 ((X.1.1, (x.1, (X.1.2.2.1, (x.2, ())))), (), ())) (t48_2 X K) (fun m x => by kernel_rfl) fuel (X.1.2.1, X.1.2.2.2.1)).symm
theorem o48 : FnOk Tryz.prog 48 e48 := fk n48 (base) Tryz.func48 (Λ := L48) (cF k48_2 nF)
def e49 : GEnt := entOf [.data false (.sl TMailbox), .data false (.int .i64)] [(false, (.int .i64))] fun a => Pu.laws_heldMailboxS a.1 a.2.1
def g49 : Gam := (Gam.nil).add 51 e51
def n49 : An := { mask := fun | 2 => [0, 1, 4, 5] | _ => [] }
@[reducible] def d49_2 : SD := ⟨[.data false (.sl .arg TMailbox),DI,B,B,DI,DI,B,B,B,B,B,B,B,B,B,B,B,B,B,B,B,B,B,B,B,B,B,B,B,B,B,B,B,B,B,B,B,B,B,B,B,B,B,B,B,B,B,B,B,B,B,B,B,B,B,B,B,B,B,B,B,B,B,B,B,B,B,B,B,B,B,B], [Z,Z,Z,Z,Z,Z,Z,Z,Z,Z,Z,Z,Z,Z,Z,Z,Z,Z,Z,Z,Z,Z,Z,Z,Z,Z,Z,Z,Z,Z,Z,Z,Z,Z,Z,Z,Z,Z,Z,Z,Z,Z,Z,Z,Z,Z,Z,Z,Z,Z,Z,Z,Z,Z,Z,Z,Z,Z,Z,Z,Z,Z,Z,Z,Z,Z,Z,Z,Z,Z,Z,Z], .none⟩
def t49_2 {R : Type} (X : SD.D d49_2) (K : Ex → AS → Option R) := Pu.laws_heldMailboxS_T2 (fun y0 y1 => K (.exit 0) (SD.enc d49_2 ((X.1.1, (y0, (X.1.2.2.1, (y1, ())))), (), ()))) (fun y0 y1 y2 => K .ret (SD.enc d49_2 ((X.1.1, (y0, (y1, (y2, ())))), (), ()))) X.1.1 X.1.2.2.1
def l49_2 : LEnt := ⟨d49_2, fun X K => iterL (t49_2 X K) fuel (X.1.2.1, X.1.2.2.2.1)⟩
def L49 : Lam := (Lam.nil).add 2 l49_2
theorem k49_2 : LOk E g49 n49 L49 (loopBody Tryz.f49 0) :=
  lok l49_2 (by kernel_rfl) fuel fun R X K => (loop_iter (σ := Int × Int) (fun x => SD.enc d49_2 ((X.1.1, (x.1, (X.1.2.2.1, (x.2, ())))), (), ())) (t49_2 X K) (fun m x => by kernel_rfl) fuel (X.1.2.1, X.1.2.2.2.1)).symm
theorem o49 : FnOk Tryz.prog 49 e49 := fk n49 ((base).add o51) Tryz.func49 (Λ := L49) (cF k49_2 nF)
def e50 : GEnt := entOf [.data true (.sl .str), .data false (.int .i64)] [(false, (.int .i64))] fun a => Pu.laws_heldFlash a.1 a.2.1
theorem o50 : FnOk Tryz.prog 50 e50 := fk {} ((base).add o52) Tryz.func50 (Λ := Lam.nil) nF
def e11 : GEnt := entOf [.data true TCard, .data false (.int .i64)] [(false, (.int .i64))] fun a => Pu.laws_heldCard a.1 a.2.1
theorem o11 : FnOk Tryz.prog 11 e11 := fk {} (((((((base).add o47).add o48).add o49).add o50).add o51).add o52) Tryz.func11 (Λ := Lam.nil) nF

end

end Go.Proofs.YtclgaiiidllehafGreat.Fn
