import Derived.Test.YtjilbinhppledaaDnSig
import Derived.Test.YtjilbinhppledaaPure
import Derived.Test.YtjilbinhppledaaRows
/- Each function of the program is its pure function (made by gen.py). -/
namespace Go.Proofs.Ytjilbinhppledaa.Fn
open Go.Dn
open Go.Pu (TSegment TPacket TAct TFlow TStream TMove)
def E : Env := { ty := [(3, ⟨false, (.int .i64), []⟩),
  (4, ⟨false, .bool, []⟩),
  (5, ⟨false, (.int .u8), []⟩),
  (9, ⟨false, .str, []⟩),
  (23, ⟨true, TSegment, [(0, 1), (1, 1), (2, 1), (3, 1), (4, 1), (5, 1), (6, 1), (7, 1)]⟩),
  (25, ⟨true, TPacket, [(0, 1), (1, 1), (2, 1), (3, 1), (4, 1), (5, 1), (6, 1), (7, 1), (8, 8)]⟩),
  (27, ⟨true, TAct, [(0, 1), (1, 16), (17, 1), (18, 1), (19, 1), (20, 1)]⟩),
  (30, ⟨true, TSegment, [(0, 1), (1, 1), (2, 1), (3, 1), (4, 1), (5, 1), (6, 1), (7, 1)]⟩),
  (32, ⟨true, TPacket, [(0, 1), (1, 1), (2, 1), (3, 1), (4, 1), (5, 1), (6, 1), (7, 1), (8, 8)]⟩),
  (34, ⟨true, TAct, [(0, 1), (1, 16), (17, 1), (18, 1), (19, 1), (20, 1)]⟩),
  (37, ⟨false, (.sl TStream), [(80, 0)]⟩),
  (40, ⟨false, (.sl TStream), [(83, 0)]⟩),
  (43, ⟨false, (.sl .str), [(9, 0)]⟩),
  (45, ⟨true, (.sl .str), [(0, 1)]⟩),
  (47, ⟨true, (.sl .str), [(0, 1)]⟩),
  (48, ⟨false, (.sl (.int .i64)), [(3, 0)]⟩),
  (50, ⟨true, TMove, [(0, 1), (1, 1), (2, 1)]⟩),
  (59, ⟨true, TMove, [(0, 1), (1, 1), (2, 1)]⟩),
  (64, ⟨false, (.sl TAct), [(27, 0)]⟩),
  (67, ⟨false, (.sl TAct), [(34, 0)]⟩),
  (78, ⟨true, TFlow, [(0, 1), (1, 1), (2, 1), (3, 1), (4, 1)]⟩),
  (80, ⟨true, TStream, [(0, 5), (5, 1), (6, 1), (7, 1)]⟩),
  (81, ⟨true, TFlow, [(0, 1), (1, 1), (2, 1), (3, 1), (4, 1)]⟩),
  (83, ⟨true, TStream, [(0, 5), (5, 1), (6, 1), (7, 1)]⟩),
  (106, ⟨false, (.sl (.int .u8)), [(5, 0)]⟩)], eqs := [(32, [.int, .int, .int, .int, .int, .int, .int, .int, .int, .int, .int, .int, .int, .int, .int, .str]), (81, [.int, .int, .int, .int, .int]), (83, [.int, .int, .int, .int, .int, .int, .str, .bool])] }
set_option maxRecDepth 100000
theorem base : Sound Try.prog E Gam.nil := Sound.nil (lookE_ok (by kernel_rfl)) (lookQ_ok (by kernel_rfl)) (by kernel_rfl)
@[reducible] def s_laws_szStream : List PS := [.data true TStream, .data false (.int .i64)]
@[reducible] def r_laws_szStream : List (Bool × FT) := [(false, (.int .i64))]
noncomputable def F_laws_szStream (a : Args s_laws_szStream) : Option (resD r_laws_szStream) := Pu.laws_szStream a.1 a.2.1
noncomputable def e_laws_szStream : GEnt := entOf s_laws_szStream r_laws_szStream F_laws_szStream
noncomputable def g_laws_szStream : Gam := Gam.nil
theorem S_laws_szStream : Sound Try.prog E g_laws_szStream := base
def n_laws_szStream : An := {  }
noncomputable def L_laws_szStream : Lam := Lam.nil
theorem h_laws_szStream : ∀ c ∈ loopsOf (Try.f42.body.getD .skip), LOk E g_laws_szStream n_laws_szStream L_laws_szStream c := by
  have e : loopsOf (Try.f42.body.getD .skip) = [] := by kernel_rfl
  rw [e]; simp
theorem ok_laws_szStream : FnOk Try.prog 42 e_laws_szStream := FnOk.of (fnOk S_laws_szStream Try.func42 (by kernel_rfl) h_laws_szStream) (fun a => by kernel_rfl)
@[reducible] def s_laws_szStreamS : List PS := [.data false (.sl TStream), .data false (.int .i64)]
@[reducible] def r_laws_szStreamS : List (Bool × FT) := [(false, (.int .i64))]
noncomputable def F_laws_szStreamS (a : Args s_laws_szStreamS) : Option (resD r_laws_szStreamS) := Pu.laws_szStreamS a.1 a.2.1
noncomputable def e_laws_szStreamS : GEnt := entOf s_laws_szStreamS r_laws_szStreamS F_laws_szStreamS
noncomputable def g_laws_szStreamS : Gam := (Gam.nil).add 42 e_laws_szStream
theorem S_laws_szStreamS : Sound Try.prog E g_laws_szStreamS := (base).add ok_laws_szStream
def n_laws_szStreamS : An := { mask := fun | 5 => [0, 1, 4, 5] | _ => [] }
@[reducible] def d_laws_szStreamS_5 : SD := ⟨[.data false (.sl .arg TStream), .data false (.int .i64), .bot, .bot, .data false (.int .i64), .data false (.int .i64), .bot, .bot, .bot, .bot, .bot, .bot, .bot, .bot, .bot, .bot, .bot, .bot, .bot, .bot, .bot, .bot, .bot, .bot, .bot, .bot, .bot], [none, none, none, none, none, none, none, none, none, none, none, none, none, none, none, none, none, none, none, none, none, none, none, none, none, none, none], none⟩
@[reducible] def d_laws_szStreamS_5_x0 : SD := ⟨[.data false (.sl .arg TStream), .data false (.int .i64), .bot, .bot, .data false (.int .i64), .data false (.int .i64), .bot, .bot, .bot, .bot, .bot, .bot, .bot, .bot, .bot, .bot, .bot, .bot, .bot, .bot, .bot, .bot, .bot, .bot, .bot, .bot, .bot], [none, none, none, none, none, none, none, none, none, none, none, none, none, none, none, none, none, none, none, none, none, none, none, none, none, none, none], none⟩
@[reducible] def d_laws_szStreamS_5_ret : SD := ⟨[.data false (.sl .arg TStream), .data false (.int .i64), .bot, .bot, .data false (.int .i64), .data false (.int .i64), .bot, .bot, .bot, .bot, .bot, .bot, .bot, .bot, .bot, .bot, .bot, .bot, .bot, .bot, .bot, .bot, .bot, .bot, .bot, .bot, .bot], [none, none, none, none, none, none, none, none, none, none, none, none, none, none, none, none, none, none, none, none, none, none, none, none, none, none, none], none⟩
noncomputable def l_laws_szStreamS_5 : LEnt := ⟨d_laws_szStreamS_5, fun X K => iterL (Pu.laws_szStreamS_T5 (fun y0 y1 => K (.exit 0) (SD.enc d_laws_szStreamS_5_x0 (((X.1.1), (y0, ((X.1.2.2.1), (y1, ())))), (), ()))) (fun y0 y1 y2 => K .ret (SD.enc d_laws_szStreamS_5_ret (((X.1.1), (y0, (y1, (y2, ())))), (), ()))) X.1.1 X.1.2.2.1) fuel (X.1.2.1, X.1.2.2.2.1)⟩
noncomputable def L_laws_szStreamS : Lam := (Lam.nil).add 5 l_laws_szStreamS_5
theorem lok_laws_szStreamS_5 : LOk E g_laws_szStreamS n_laws_szStreamS L_laws_szStreamS (loopBody Try.f13 0) :=
  lok l_laws_szStreamS_5 (by kernel_rfl) fuel fun R X K => (loop_iter (σ := Int × Int) (fun x => SD.enc d_laws_szStreamS_5 ((X.1.1, (x.1, (X.1.2.2.1, (x.2, ())))), (), ())) (Pu.laws_szStreamS_T5 (fun y0 y1 => K (.exit 0) (SD.enc d_laws_szStreamS_5_x0 (((X.1.1), (y0, ((X.1.2.2.1), (y1, ())))), (), ()))) (fun y0 y1 y2 => K .ret (SD.enc d_laws_szStreamS_5_ret (((X.1.1), (y0, (y1, (y2, ())))), (), ()))) X.1.1 X.1.2.2.1) (fun m x => by kernel_rfl) fuel (X.1.2.1, X.1.2.2.2.1)).symm
theorem h_laws_szStreamS : ∀ c ∈ loopsOf (Try.f13.body.getD .skip), LOk E g_laws_szStreamS n_laws_szStreamS L_laws_szStreamS c := by
  have e : loopsOf (Try.f13.body.getD .skip) = [loopBody Try.f13 0] := by kernel_rfl
  rw [e]; simp only [List.forall_mem_cons]; exact ⟨lok_laws_szStreamS_5, by simp⟩
theorem ok_laws_szStreamS : FnOk Try.prog 13 e_laws_szStreamS := FnOk.of (fnOk S_laws_szStreamS Try.func13 (by kernel_rfl) h_laws_szStreamS) (fun a => by kernel_rfl)
@[reducible] def s_spec_StreamIndex : List PS := [.data false (.sl TStream), .data true TFlow]
@[reducible] def r_spec_StreamIndex : List (Bool × FT) := [(false, (.int .i64))]
noncomputable def F_spec_StreamIndex (a : Args s_spec_StreamIndex) : Option (resD r_spec_StreamIndex) := Pu.spec_StreamIndex a.1 a.2.1
noncomputable def e_spec_StreamIndex : GEnt := entOf s_spec_StreamIndex r_spec_StreamIndex F_spec_StreamIndex
noncomputable def g_spec_StreamIndex : Gam := Gam.nil
theorem S_spec_StreamIndex : Sound Try.prog E g_spec_StreamIndex := base
def n_spec_StreamIndex : An := { mask := fun | 2 => [0, 3, 4, 5] | _ => [] }
@[reducible] def d_spec_StreamIndex_2 : SD := ⟨[.data false (.sl .arg TStream), .bot, .bot, .ptr 3 0, .data false (.int .i64), .data false (.int .i64), .bot, .bot, .bot, .bot, .bot, .bot, .bot, .bot, .bot, .bot, .bot, .bot, .bot, .bot], [none, none, none, some (.pair (.int .i64) (.pair (.int .i64) (.pair (.int .i64) (.pair (.int .i64) (.int .i64))))), none, none, none, none, none, none, none, none, none, none, none, none, none, none, none, none], none⟩
@[reducible] def d_spec_StreamIndex_2_x0 : SD := ⟨[.data false (.sl .arg TStream), .bot, .bot, .ptr 3 0, .data false (.int .i64), .data false (.int .i64), .bot, .bot, .bot, .bot, .bot, .bot, .bot, .bot, .bot, .bot, .bot, .bot, .bot, .bot], [none, none, none, some (.pair (.int .i64) (.pair (.int .i64) (.pair (.int .i64) (.pair (.int .i64) (.int .i64))))), none, none, none, none, none, none, none, none, none, none, none, none, none, none, none, none], none⟩
@[reducible] def d_spec_StreamIndex_2_ret : SD := ⟨[.data false (.sl .arg TStream), .bot, .bot, .ptr 3 0, .data false (.int .i64), .data false (.int .i64), .bot, .bot, .bot, .bot, .bot, .bot, .bot, .bot, .bot, .bot, .bot, .bot, .bot, .bot], [none, none, none, some (.pair (.int .i64) (.pair (.int .i64) (.pair (.int .i64) (.pair (.int .i64) (.int .i64))))), none, none, none, none, none, none, none, none, none, none, none, none, none, none, none, none], none⟩
noncomputable def l_spec_StreamIndex_2 : LEnt := ⟨d_spec_StreamIndex_2, fun X K => iterL (Pu.spec_StreamIndex_T2 (fun y0 => K (.exit 0) (SD.enc d_spec_StreamIndex_2_x0 (((X.1.1), ((X.1.2.1), (y0, ()))), ((X.2.1.1), ()), ()))) (fun y0 y1 => K .ret (SD.enc d_spec_StreamIndex_2_ret (((X.1.1), (y0, (y1, ()))), ((X.2.1.1), ()), ()))) X.1.1 X.1.2.1 X.2.1.1) fuel X.1.2.2.1⟩
noncomputable def L_spec_StreamIndex : Lam := (Lam.nil).add 2 l_spec_StreamIndex_2
theorem lok_spec_StreamIndex_2 : LOk E g_spec_StreamIndex n_spec_StreamIndex L_spec_StreamIndex (loopBody Try.f69 0) :=
  lok l_spec_StreamIndex_2 (by kernel_rfl) fuel fun R X K => (loop_iter (σ := Int) (fun x => SD.enc d_spec_StreamIndex_2 ((X.1.1, (X.1.2.1, (x, ()))), (X.2.1.1, ()), ())) (Pu.spec_StreamIndex_T2 (fun y0 => K (.exit 0) (SD.enc d_spec_StreamIndex_2_x0 (((X.1.1), ((X.1.2.1), (y0, ()))), ((X.2.1.1), ()), ()))) (fun y0 y1 => K .ret (SD.enc d_spec_StreamIndex_2_ret (((X.1.1), (y0, (y1, ()))), ((X.2.1.1), ()), ()))) X.1.1 X.1.2.1 X.2.1.1) (fun m x => by kernel_rfl) fuel X.1.2.2.1).symm
theorem h_spec_StreamIndex : ∀ c ∈ loopsOf (Try.f69.body.getD .skip), LOk E g_spec_StreamIndex n_spec_StreamIndex L_spec_StreamIndex c := by
  have e : loopsOf (Try.f69.body.getD .skip) = [loopBody Try.f69 0] := by kernel_rfl
  rw [e]; simp only [List.forall_mem_cons]; exact ⟨lok_spec_StreamIndex_2, by simp⟩
theorem ok_spec_StreamIndex : FnOk Try.prog 69 e_spec_StreamIndex := FnOk.of (fnOk S_spec_StreamIndex Try.func69 (by kernel_rfl) h_spec_StreamIndex) (fun a => by kernel_rfl)
@[reducible] def s_spec_l40Within : List PS := [.data false (.sl TStream), .data false (.sl TStream)]
@[reducible] def r_spec_l40Within : List (Bool × FT) := [(false, .bool)]
noncomputable def F_spec_l40Within (a : Args s_spec_l40Within) : Option (resD r_spec_l40Within) := Pu.spec_l40Within a.1 a.2.1
noncomputable def e_spec_l40Within : GEnt := entOf s_spec_l40Within r_spec_l40Within F_spec_l40Within
noncomputable def g_spec_l40Within : Gam := (Gam.nil).add 69 e_spec_StreamIndex
theorem S_spec_l40Within : Sound Try.prog E g_spec_l40Within := (base).add ok_spec_StreamIndex
def n_spec_l40Within : An := { mask := fun | 2 => [0, 1, 4, 5] | _ => [], merge := fun | 6 => some 40 | _ => none }
@[reducible] def d_spec_l40Within_2 : SD := ⟨[.data false (.sl .arg TStream), .data false (.sl .arg TStream), .bot, .bot, .data false .bool, .data false (.int .i64), .bot, .bot, .bot, .bot, .bot, .bot, .bot, .bot, .bot, .bot, .bot, .bot, .bot, .bot, .bot, .bot, .bot, .bot, .bot, .bot, .bot, .bot, .bot, .bot, .bot, .bot, .bot, .bot, .bot, .bot, .bot, .bot, .bot, .bot, .bot], [none, none, none, none, none, none, none, none, none, none, none, none, none, none, none, none, none, none, none, none, none, none, none, none, none, none, none, none, none, none, none, none, none, none, none, none, none, none, none, none, none], none⟩
@[reducible] def d_spec_l40Within_2_x0 : SD := ⟨[.data false (.sl .arg TStream), .data false (.sl .arg TStream), .bot, .bot, .data false .bool, .data false (.int .i64), .bot, .bot, .bot, .bot, .bot, .bot, .bot, .bot, .bot, .bot, .bot, .bot, .bot, .bot, .bot, .bot, .bot, .bot, .bot, .bot, .bot, .bot, .bot, .bot, .bot, .bot, .bot, .bot, .bot, .bot, .bot, .bot, .bot, .bot, .bot], [none, none, none, none, none, none, none, none, none, none, none, none, none, none, none, none, none, none, none, none, none, none, none, none, none, none, none, none, none, none, none, none, none, none, none, none, none, none, none, none, none], none⟩
@[reducible] def d_spec_l40Within_2_ret : SD := ⟨[.data false (.sl .arg TStream), .data false (.sl .arg TStream), .bot, .bot, .data false .bool, .data false (.int .i64), .bot, .bot, .bot, .bot, .bot, .bot, .bot, .bot, .bot, .bot, .bot, .bot, .bot, .bot, .bot, .bot, .bot, .bot, .bot, .bot, .bot, .bot, .bot, .bot, .bot, .bot, .bot, .bot, .bot, .bot, .bot, .bot, .bot, .bot, .bot], [none, none, none, none, none, none, none, none, none, none, none, none, none, none, none, none, none, none, none, none, none, none, none, none, none, none, none, none, none, none, none, none, none, none, none, none, none, none, none, none, none], none⟩
noncomputable def l_spec_l40Within_2 : LEnt := ⟨d_spec_l40Within_2, fun X K => iterL (Pu.spec_l40Within_T2 (fun y0 => K (.exit 0) (SD.enc d_spec_l40Within_2_x0 (((X.1.1), ((X.1.2.1), ((X.1.2.2.1), (y0, ())))), (), ()))) (fun y0 y1 => K .ret (SD.enc d_spec_l40Within_2_ret (((X.1.1), ((X.1.2.1), (y0, (y1, ())))), (), ()))) X.1.1 X.1.2.1 X.1.2.2.1) fuel X.1.2.2.2.1⟩
noncomputable def L_spec_l40Within : Lam := (Lam.nil).add 2 l_spec_l40Within_2
theorem lok_spec_l40Within_2 : LOk E g_spec_l40Within n_spec_l40Within L_spec_l40Within (loopBody Try.f43 0) :=
  lok l_spec_l40Within_2 (by kernel_rfl) fuel fun R X K => (loop_iter (σ := Int) (fun x => SD.enc d_spec_l40Within_2 ((X.1.1, (X.1.2.1, (X.1.2.2.1, (x, ())))), (), ())) (Pu.spec_l40Within_T2 (fun y0 => K (.exit 0) (SD.enc d_spec_l40Within_2_x0 (((X.1.1), ((X.1.2.1), ((X.1.2.2.1), (y0, ())))), (), ()))) (fun y0 y1 => K .ret (SD.enc d_spec_l40Within_2_ret (((X.1.1), ((X.1.2.1), (y0, (y1, ())))), (), ()))) X.1.1 X.1.2.1 X.1.2.2.1) (fun m x => by kernel_rfl) fuel X.1.2.2.2.1).symm
theorem h_spec_l40Within : ∀ c ∈ loopsOf (Try.f43.body.getD .skip), LOk E g_spec_l40Within n_spec_l40Within L_spec_l40Within c := by
  have e : loopsOf (Try.f43.body.getD .skip) = [loopBody Try.f43 0] := by kernel_rfl
  rw [e]; simp only [List.forall_mem_cons]; exact ⟨lok_spec_l40Within_2, by simp⟩
theorem ok_spec_l40Within : FnOk Try.prog 43 e_spec_l40Within := FnOk.of (fnOk S_spec_l40Within Try.func43 (by kernel_rfl) h_spec_l40Within) (fun a => by kernel_rfl)
@[reducible] def s_spec_SameData : List PS := [.data false (.sl TStream), .data false (.sl TStream)]
@[reducible] def r_spec_SameData : List (Bool × FT) := [(false, .bool)]
noncomputable def F_spec_SameData (a : Args s_spec_SameData) : Option (resD r_spec_SameData) := Pu.spec_SameData a.1 a.2.1
noncomputable def e_spec_SameData : GEnt := entOf s_spec_SameData r_spec_SameData F_spec_SameData
noncomputable def g_spec_SameData : Gam := (Gam.nil).add 43 e_spec_l40Within
theorem S_spec_SameData : Sound Try.prog E g_spec_SameData := (base).add ok_spec_l40Within
def n_spec_SameData : An := { merge := fun | 1 => some 4 | _ => none }
noncomputable def L_spec_SameData : Lam := Lam.nil
theorem h_spec_SameData : ∀ c ∈ loopsOf (Try.f14.body.getD .skip), LOk E g_spec_SameData n_spec_SameData L_spec_SameData c := by
  have e : loopsOf (Try.f14.body.getD .skip) = [] := by kernel_rfl
  rw [e]; simp
theorem ok_spec_SameData : FnOk Try.prog 14 e_spec_SameData := FnOk.of (fnOk S_spec_SameData Try.func14 (by kernel_rfl) h_spec_SameData) (fun a => by kernel_rfl)
@[reducible] def s_laws_toFlow : List PS := [.data true TFlow]
@[reducible] def r_laws_toFlow : List (Bool × FT) := [(true, (.pair (.int .i64) (.pair (.int .i64) (.pair (.int .i64) (.pair (.int .i64) (.int .i64))))))]
noncomputable def F_laws_toFlow (a : Args s_laws_toFlow) : Option (resD r_laws_toFlow) := Pu.laws_toFlow a.1
noncomputable def e_laws_toFlow : GEnt := entOf s_laws_toFlow r_laws_toFlow F_laws_toFlow
noncomputable def g_laws_toFlow : Gam := Gam.nil
theorem S_laws_toFlow : Sound Try.prog E g_laws_toFlow := base
def n_laws_toFlow : An := {  }
noncomputable def L_laws_toFlow : Lam := Lam.nil
theorem h_laws_toFlow : ∀ c ∈ loopsOf (Try.f70.body.getD .skip), LOk E g_laws_toFlow n_laws_toFlow L_laws_toFlow c := by
  have e : loopsOf (Try.f70.body.getD .skip) = [] := by kernel_rfl
  rw [e]; simp
theorem ok_laws_toFlow : FnOk Try.prog 70 e_laws_toFlow := FnOk.of (fnOk S_laws_toFlow Try.func70 (by kernel_rfl) h_laws_toFlow) (fun a => by kernel_rfl)
@[reducible] def s_laws_toStream : List PS := [.data true TStream]
@[reducible] def r_laws_toStream : List (Bool × FT) := [(true, (.pair (.pair (.int .i64) (.pair (.int .i64) (.pair (.int .i64) (.pair (.int .i64) (.int .i64))))) (.pair (.int .i64) (.pair .str .bool))))]
noncomputable def F_laws_toStream (a : Args s_laws_toStream) : Option (resD r_laws_toStream) := Pu.laws_toStream a.1
noncomputable def e_laws_toStream : GEnt := entOf s_laws_toStream r_laws_toStream F_laws_toStream
noncomputable def g_laws_toStream : Gam := (Gam.nil).add 70 e_laws_toFlow
theorem S_laws_toStream : Sound Try.prog E g_laws_toStream := (base).add ok_laws_toFlow
def n_laws_toStream : An := {  }
noncomputable def L_laws_toStream : Lam := Lam.nil
theorem h_laws_toStream : ∀ c ∈ loopsOf (Try.f44.body.getD .skip), LOk E g_laws_toStream n_laws_toStream L_laws_toStream c := by
  have e : loopsOf (Try.f44.body.getD .skip) = [] := by kernel_rfl
  rw [e]; simp
theorem ok_laws_toStream : FnOk Try.prog 44 e_laws_toStream := FnOk.of (fnOk S_laws_toStream Try.func44 (by kernel_rfl) h_laws_toStream) (fun a => by kernel_rfl)
@[reducible] def s_laws_toStreamS : List PS := [.data false (.sl TStream)]
@[reducible] def r_laws_toStreamS : List (Bool × FT) := [(false, (.sl (.own none) TStream))]
noncomputable def F_laws_toStreamS (a : Args s_laws_toStreamS) : Option (resD r_laws_toStreamS) := Pu.laws_toStreamS a.1
noncomputable def e_laws_toStreamS : GEnt := entOf s_laws_toStreamS r_laws_toStreamS F_laws_toStreamS
noncomputable def g_laws_toStreamS : Gam := (Gam.nil).add 44 e_laws_toStream
theorem S_laws_toStreamS : Sound Try.prog E g_laws_toStreamS := (base).add ok_laws_toStream
def n_laws_toStreamS : An := { mask := fun | 3 => [0, 3, 4] | _ => [], mv := [22] }
@[reducible] def d_laws_toStreamS_3 : SD := ⟨[.data false (.sl .arg TStream), .bot, .bot, .data false (.sl (.own (some 36864)) TStream), .data false (.int .i64), .bot, .bot, .bot, .bot, .bot, .bot, .bot, .bot, .bot, .bot, .bot, .bot, .bot, .bot, .bot, .bot, .bot, .bot], [none, none, none, none, none, none, none, none, none, none, none, none, none, none, none, none, none, none, none, none, none, none, none], none⟩
@[reducible] def d_laws_toStreamS_3_x0 : SD := ⟨[.data false (.sl .arg TStream), .bot, .bot, .data false (.sl (.own (some 36864)) TStream), .data false (.int .i64), .bot, .bot, .bot, .bot, .bot, .bot, .bot, .bot, .bot, .bot, .bot, .bot, .bot, .bot, .bot, .bot, .bot, .bot], [none, none, none, none, none, none, none, none, none, none, none, none, none, none, none, none, none, none, none, none, none, none, none], none⟩
noncomputable def l_laws_toStreamS_3 : LEnt := ⟨d_laws_toStreamS_3, fun X K => iterL (Pu.laws_toStreamS_T3 (fun y0 y1 => K (.exit 0) (SD.enc d_laws_toStreamS_3_x0 (((X.1.1), (y0, (y1, ()))), (), ()))) X.1.1) fuel (X.1.2.1, X.1.2.2.1)⟩
noncomputable def L_laws_toStreamS : Lam := (Lam.nil).add 3 l_laws_toStreamS_3
theorem lok_laws_toStreamS_3 : LOk E g_laws_toStreamS n_laws_toStreamS L_laws_toStreamS (loopBody Try.f15 0) :=
  lok l_laws_toStreamS_3 (by kernel_rfl) fuel fun R X K => (loop_iter (σ := (List Pu.Stream) × Int) (fun x => SD.enc d_laws_toStreamS_3 ((X.1.1, (x.1, (x.2, ()))), (), ())) (Pu.laws_toStreamS_T3 (fun y0 y1 => K (.exit 0) (SD.enc d_laws_toStreamS_3_x0 (((X.1.1), (y0, (y1, ()))), (), ()))) X.1.1) (fun m x => by kernel_rfl) fuel (X.1.2.1, X.1.2.2.1)).symm
theorem h_laws_toStreamS : ∀ c ∈ loopsOf (Try.f15.body.getD .skip), LOk E g_laws_toStreamS n_laws_toStreamS L_laws_toStreamS c := by
  have e : loopsOf (Try.f15.body.getD .skip) = [loopBody Try.f15 0] := by kernel_rfl
  rw [e]; simp only [List.forall_mem_cons]; exact ⟨lok_laws_toStreamS_3, by simp⟩
theorem ok_laws_toStreamS : FnOk Try.prog 15 e_laws_toStreamS := FnOk.of (fnOk S_laws_toStreamS Try.func15 (by kernel_rfl) h_laws_toStreamS) (fun a => by kernel_rfl)
@[reducible] def s_impl_StreamIndex : List PS := [.data false (.sl TStream), .data true TFlow]
@[reducible] def r_impl_StreamIndex : List (Bool × FT) := [(false, (.int .i64))]
noncomputable def F_impl_StreamIndex (a : Args s_impl_StreamIndex) : Option (resD r_impl_StreamIndex) := Pu.impl_StreamIndex a.1 a.2.1
noncomputable def e_impl_StreamIndex : GEnt := entOf s_impl_StreamIndex r_impl_StreamIndex F_impl_StreamIndex
noncomputable def g_impl_StreamIndex : Gam := Gam.nil
theorem S_impl_StreamIndex : Sound Try.prog E g_impl_StreamIndex := base
def n_impl_StreamIndex : An := { mask := fun | 2 => [3, 4, 7, 8, 9] | _ => [] }
@[reducible] def d_impl_StreamIndex_2 : SD := ⟨[.bot, .bot, .bot, .ptr 3 0, .data false (.int .i64), .bot, .bot, .data false (.sl .arg TStream), .data false (.int .i64), .data false (.int .i64), .bot, .bot, .bot, .bot, .bot, .bot, .bot, .bot, .bot, .bot], [none, none, none, some (.pair (.int .i64) (.pair (.int .i64) (.pair (.int .i64) (.pair (.int .i64) (.int .i64))))), none, none, none, none, none, none, none, none, none, none, none, none, none, none, none, none], none⟩
@[reducible] def d_impl_StreamIndex_2_x0 : SD := ⟨[.bot, .bot, .bot, .ptr 3 0, .data false (.int .i64), .bot, .bot, .data false (.sl .arg TStream), .data false (.int .i64), .data false (.int .i64), .bot, .bot, .bot, .bot, .bot, .bot, .bot, .bot, .bot, .bot], [none, none, none, some (.pair (.int .i64) (.pair (.int .i64) (.pair (.int .i64) (.pair (.int .i64) (.int .i64))))), none, none, none, none, none, none, none, none, none, none, none, none, none, none, none, none], none⟩
@[reducible] def d_impl_StreamIndex_2_ret : SD := ⟨[.bot, .bot, .bot, .ptr 3 0, .data false (.int .i64), .bot, .bot, .data false (.sl .arg TStream), .data false (.int .i64), .data false (.int .i64), .bot, .bot, .bot, .bot, .bot, .bot, .bot, .bot, .bot, .bot], [none, none, none, some (.pair (.int .i64) (.pair (.int .i64) (.pair (.int .i64) (.pair (.int .i64) (.int .i64))))), none, none, none, none, none, none, none, none, none, none, none, none, none, none, none, none], none⟩
noncomputable def l_impl_StreamIndex_2 : LEnt := ⟨d_impl_StreamIndex_2, fun X K => iterL (Pu.impl_StreamIndex_T2 (fun y0 => K (.exit 0) (SD.enc d_impl_StreamIndex_2_x0 (((X.1.1), ((X.1.2.1), ((X.1.2.2.1), (y0, ())))), ((X.2.1.1), ()), ()))) (fun y0 y1 => K .ret (SD.enc d_impl_StreamIndex_2_ret ((y0, ((X.1.2.1), ((X.1.2.2.1), (y1, ())))), ((X.2.1.1), ()), ()))) X.1.1 X.1.2.1 X.1.2.2.1 X.2.1.1) fuel X.1.2.2.2.1⟩
noncomputable def L_impl_StreamIndex : Lam := (Lam.nil).add 2 l_impl_StreamIndex_2
theorem lok_impl_StreamIndex_2 : LOk E g_impl_StreamIndex n_impl_StreamIndex L_impl_StreamIndex (loopBody Try.f71 0) :=
  lok l_impl_StreamIndex_2 (by kernel_rfl) fuel fun R X K => (loop_iter (σ := Int) (fun x => SD.enc d_impl_StreamIndex_2 ((X.1.1, (X.1.2.1, (X.1.2.2.1, (x, ())))), (X.2.1.1, ()), ())) (Pu.impl_StreamIndex_T2 (fun y0 => K (.exit 0) (SD.enc d_impl_StreamIndex_2_x0 (((X.1.1), ((X.1.2.1), ((X.1.2.2.1), (y0, ())))), ((X.2.1.1), ()), ()))) (fun y0 y1 => K .ret (SD.enc d_impl_StreamIndex_2_ret ((y0, ((X.1.2.1), ((X.1.2.2.1), (y1, ())))), ((X.2.1.1), ()), ()))) X.1.1 X.1.2.1 X.1.2.2.1 X.2.1.1) (fun m x => by kernel_rfl) fuel X.1.2.2.2.1).symm
theorem h_impl_StreamIndex : ∀ c ∈ loopsOf (Try.f71.body.getD .skip), LOk E g_impl_StreamIndex n_impl_StreamIndex L_impl_StreamIndex c := by
  have e : loopsOf (Try.f71.body.getD .skip) = [loopBody Try.f71 0] := by kernel_rfl
  rw [e]; simp only [List.forall_mem_cons]; exact ⟨lok_impl_StreamIndex_2, by simp⟩
theorem ok_impl_StreamIndex : FnOk Try.prog 71 e_impl_StreamIndex := FnOk.of (fnOk S_impl_StreamIndex Try.func71 (by kernel_rfl) h_impl_StreamIndex) (fun a => by kernel_rfl)
@[reducible] def s_impl_sameFirst : List PS := [.data false (.sl TStream), .data false (.sl TStream), .data true TFlow]
@[reducible] def r_impl_sameFirst : List (Bool × FT) := [(false, .bool)]
noncomputable def F_impl_sameFirst (a : Args s_impl_sameFirst) : Option (resD r_impl_sameFirst) := Pu.impl_sameFirst a.1 a.2.1 a.2.2.1
noncomputable def e_impl_sameFirst : GEnt := entOf s_impl_sameFirst r_impl_sameFirst F_impl_sameFirst
noncomputable def g_impl_sameFirst : Gam := (Gam.nil).add 71 e_impl_StreamIndex
theorem S_impl_sameFirst : Sound Try.prog E g_impl_sameFirst := (base).add ok_impl_StreamIndex
def n_impl_sameFirst : An := { merge := fun | 2 => some 6 | _ => none }
noncomputable def L_impl_sameFirst : Lam := Lam.nil
theorem h_impl_sameFirst : ∀ c ∈ loopsOf (Try.f45.body.getD .skip), LOk E g_impl_sameFirst n_impl_sameFirst L_impl_sameFirst c := by
  have e : loopsOf (Try.f45.body.getD .skip) = [] := by kernel_rfl
  rw [e]; simp
theorem ok_impl_sameFirst : FnOk Try.prog 45 e_impl_sameFirst := FnOk.of (fnOk S_impl_sameFirst Try.func45 (by kernel_rfl) h_impl_sameFirst) (fun a => by kernel_rfl)
@[reducible] def s_impl_SameData : List PS := [.data false (.sl TStream), .data false (.sl TStream)]
@[reducible] def r_impl_SameData : List (Bool × FT) := [(false, .bool)]
noncomputable def F_impl_SameData (a : Args s_impl_SameData) : Option (resD r_impl_SameData) := Pu.impl_SameData a.1 a.2.1
noncomputable def e_impl_SameData : GEnt := entOf s_impl_SameData r_impl_SameData F_impl_SameData
noncomputable def g_impl_SameData : Gam := (Gam.nil).add 45 e_impl_sameFirst
theorem S_impl_SameData : Sound Try.prog E g_impl_SameData := (base).add ok_impl_sameFirst
def n_impl_SameData : An := { mask := fun | 2 => [0, 1, 4, 9, 10, 11] | 8 => [0, 1, 4, 22, 23, 24] | _ => [] }
@[reducible] def d_impl_SameData_2 : SD := ⟨[.data false (.sl .arg TStream), .data false (.sl .arg TStream), .bot, .bot, .data false .bool, .bot, .bot, .bot, .bot, .data false (.sl .arg TStream), .data false (.int .i64), .data false (.int .i64), .bot, .bot, .bot, .bot, .bot, .bot, .bot, .bot, .bot, .bot, .bot, .bot, .bot, .bot, .bot, .bot, .bot, .bot, .bot, .bot, .bot, .bot, .bot], [none, none, none, none, none, none, none, none, none, none, none, none, none, none, none, none, none, none, none, none, none, none, none, none, none, none, none, none, none, none, none, none, none, none, none], none⟩
@[reducible] def d_impl_SameData_2_x0 : SD := ⟨[.data false (.sl .arg TStream), .data false (.sl .arg TStream), .bot, .bot, .data false .bool, .bot, .bot, .bot, .bot, .data false (.sl .arg TStream), .data false (.int .i64), .data false (.int .i64), .bot, .bot, .bot, .bot, .bot, .bot, .bot, .bot, .bot, .bot, .bot, .bot, .bot, .bot, .bot, .bot, .bot, .bot, .bot, .bot, .bot, .bot, .bot], [none, none, none, none, none, none, none, none, none, none, none, none, none, none, none, none, none, none, none, none, none, none, none, none, none, none, none, none, none, none, none, none, none, none, none], none⟩
@[reducible] def d_impl_SameData_2_ret : SD := ⟨[.data false (.sl .arg TStream), .data false (.sl .arg TStream), .bot, .bot, .data false .bool, .bot, .bot, .bot, .bot, .data false (.sl .arg TStream), .data false (.int .i64), .data false (.int .i64), .bot, .bot, .bot, .bot, .bot, .bot, .bot, .bot, .bot, .bot, .bot, .bot, .bot, .bot, .bot, .bot, .bot, .bot, .bot, .bot, .bot, .bot, .bot], [none, none, none, none, none, none, none, none, none, none, none, none, none, none, none, none, none, none, none, none, none, none, none, none, none, none, none, none, none, none, none, none, none, none, none], none⟩
noncomputable def l_impl_SameData_2 : LEnt := ⟨d_impl_SameData_2, fun X K => iterL (Pu.impl_SameData_T2 (fun y0 => K (.exit 0) (SD.enc d_impl_SameData_2_x0 (((X.1.1), ((X.1.2.1), ((X.1.2.2.1), ((X.1.2.2.2.1), ((X.1.2.2.2.2.1), (y0, ())))))), (), ()))) (fun y0 y1 => K .ret (SD.enc d_impl_SameData_2_ret (((X.1.1), ((X.1.2.1), (y0, ((X.1.2.2.2.1), ((X.1.2.2.2.2.1), (y1, ())))))), (), ()))) X.1.1 X.1.2.1 X.1.2.2.1 X.1.2.2.2.1 X.1.2.2.2.2.1) fuel X.1.2.2.2.2.2.1⟩
@[reducible] def d_impl_SameData_8 : SD := ⟨[.data false (.sl .arg TStream), .data false (.sl .arg TStream), .bot, .bot, .data false .bool, .bot, .bot, .bot, .bot, .bot, .bot, .bot, .bot, .bot, .bot, .bot, .bot, .bot, .bot, .bot, .bot, .bot, .data false (.sl .arg TStream), .data false (.int .i64), .data false (.int .i64), .bot, .bot, .bot, .bot, .bot, .bot, .bot, .bot, .bot, .bot], [none, none, none, none, none, none, none, none, none, none, none, none, none, none, none, none, none, none, none, none, none, none, none, none, none, none, none, none, none, none, none, none, none, none, none], none⟩
@[reducible] def d_impl_SameData_8_x2 : SD := ⟨[.data false (.sl .arg TStream), .data false (.sl .arg TStream), .bot, .bot, .data false .bool, .bot, .bot, .bot, .bot, .bot, .bot, .bot, .bot, .bot, .bot, .bot, .bot, .bot, .bot, .bot, .bot, .bot, .data false (.sl .arg TStream), .data false (.int .i64), .data false (.int .i64), .bot, .bot, .bot, .bot, .bot, .bot, .bot, .bot, .bot, .bot], [none, none, none, none, none, none, none, none, none, none, none, none, none, none, none, none, none, none, none, none, none, none, none, none, none, none, none, none, none, none, none, none, none, none, none], none⟩
@[reducible] def d_impl_SameData_8_ret : SD := ⟨[.data false (.sl .arg TStream), .data false (.sl .arg TStream), .bot, .bot, .data false .bool, .bot, .bot, .bot, .bot, .bot, .bot, .bot, .bot, .bot, .bot, .bot, .bot, .bot, .bot, .bot, .bot, .bot, .data false (.sl .arg TStream), .data false (.int .i64), .data false (.int .i64), .bot, .bot, .bot, .bot, .bot, .bot, .bot, .bot, .bot, .bot], [none, none, none, none, none, none, none, none, none, none, none, none, none, none, none, none, none, none, none, none, none, none, none, none, none, none, none, none, none, none, none, none, none, none, none], none⟩
noncomputable def l_impl_SameData_8 : LEnt := ⟨d_impl_SameData_8, fun X K => iterL (Pu.impl_SameData_T8 (fun y0 => K (.exit 2) (SD.enc d_impl_SameData_8_x2 (((X.1.1), ((X.1.2.1), ((X.1.2.2.1), ((X.1.2.2.2.1), ((X.1.2.2.2.2.1), (y0, ())))))), (), ()))) (fun y0 y1 => K .ret (SD.enc d_impl_SameData_8_ret (((X.1.1), ((X.1.2.1), (y0, ((X.1.2.2.2.1), ((X.1.2.2.2.2.1), (y1, ())))))), (), ()))) X.1.1 X.1.2.1 X.1.2.2.1 X.1.2.2.2.1 X.1.2.2.2.2.1) fuel X.1.2.2.2.2.2.1⟩
noncomputable def L_impl_SameData : Lam := ((Lam.nil).add 2 l_impl_SameData_2).add 8 l_impl_SameData_8
theorem lok_impl_SameData_2 : LOk E g_impl_SameData n_impl_SameData L_impl_SameData (loopBody Try.f16 0) :=
  lok l_impl_SameData_2 (by kernel_rfl) fuel fun R X K => (loop_iter (σ := Int) (fun x => SD.enc d_impl_SameData_2 ((X.1.1, (X.1.2.1, (X.1.2.2.1, (X.1.2.2.2.1, (X.1.2.2.2.2.1, (x, ())))))), (), ())) (Pu.impl_SameData_T2 (fun y0 => K (.exit 0) (SD.enc d_impl_SameData_2_x0 (((X.1.1), ((X.1.2.1), ((X.1.2.2.1), ((X.1.2.2.2.1), ((X.1.2.2.2.2.1), (y0, ())))))), (), ()))) (fun y0 y1 => K .ret (SD.enc d_impl_SameData_2_ret (((X.1.1), ((X.1.2.1), (y0, ((X.1.2.2.2.1), ((X.1.2.2.2.2.1), (y1, ())))))), (), ()))) X.1.1 X.1.2.1 X.1.2.2.1 X.1.2.2.2.1 X.1.2.2.2.2.1) (fun m x => by kernel_rfl) fuel X.1.2.2.2.2.2.1).symm
theorem lok_impl_SameData_8 : LOk E g_impl_SameData n_impl_SameData L_impl_SameData (loopBody Try.f16 1) :=
  lok l_impl_SameData_8 (by kernel_rfl) fuel fun R X K => (loop_iter (σ := Int) (fun x => SD.enc d_impl_SameData_8 ((X.1.1, (X.1.2.1, (X.1.2.2.1, (X.1.2.2.2.1, (X.1.2.2.2.2.1, (x, ())))))), (), ())) (Pu.impl_SameData_T8 (fun y0 => K (.exit 2) (SD.enc d_impl_SameData_8_x2 (((X.1.1), ((X.1.2.1), ((X.1.2.2.1), ((X.1.2.2.2.1), ((X.1.2.2.2.2.1), (y0, ())))))), (), ()))) (fun y0 y1 => K .ret (SD.enc d_impl_SameData_8_ret (((X.1.1), ((X.1.2.1), (y0, ((X.1.2.2.2.1), ((X.1.2.2.2.2.1), (y1, ())))))), (), ()))) X.1.1 X.1.2.1 X.1.2.2.1 X.1.2.2.2.1 X.1.2.2.2.2.1) (fun m x => by kernel_rfl) fuel X.1.2.2.2.2.2.1).symm
theorem h_impl_SameData : ∀ c ∈ loopsOf (Try.f16.body.getD .skip), LOk E g_impl_SameData n_impl_SameData L_impl_SameData c := by
  have e : loopsOf (Try.f16.body.getD .skip) = [loopBody Try.f16 0, loopBody Try.f16 1] := by kernel_rfl
  rw [e]; simp only [List.forall_mem_cons]; exact ⟨lok_impl_SameData_2, lok_impl_SameData_8, by simp⟩
theorem ok_impl_SameData : FnOk Try.prog 16 e_impl_SameData := FnOk.of (fnOk S_impl_SameData Try.func16 (by kernel_rfl) h_impl_SameData) (fun a => by kernel_rfl)
@[reducible] def s_laws_eqFlow : List PS := [.data true TFlow, .data true TFlow]
@[reducible] def r_laws_eqFlow : List (Bool × FT) := [(false, .bool)]
noncomputable def F_laws_eqFlow (a : Args s_laws_eqFlow) : Option (resD r_laws_eqFlow) := Pu.laws_eqFlow a.1 a.2.1
noncomputable def e_laws_eqFlow : GEnt := entOf s_laws_eqFlow r_laws_eqFlow F_laws_eqFlow
noncomputable def g_laws_eqFlow : Gam := Gam.nil
theorem S_laws_eqFlow : Sound Try.prog E g_laws_eqFlow := base
def n_laws_eqFlow : An := {  }
noncomputable def L_laws_eqFlow : Lam := Lam.nil
theorem h_laws_eqFlow : ∀ c ∈ loopsOf (Try.f72.body.getD .skip), LOk E g_laws_eqFlow n_laws_eqFlow L_laws_eqFlow c := by
  have e : loopsOf (Try.f72.body.getD .skip) = [] := by kernel_rfl
  rw [e]; simp
theorem ok_laws_eqFlow : FnOk Try.prog 72 e_laws_eqFlow := FnOk.of (fnOk S_laws_eqFlow Try.func72 (by kernel_rfl) h_laws_eqFlow) (fun a => by kernel_rfl)
@[reducible] def s_laws_eqStream : List PS := [.data true TStream, .data true TStream]
@[reducible] def r_laws_eqStream : List (Bool × FT) := [(false, .bool)]
noncomputable def F_laws_eqStream (a : Args s_laws_eqStream) : Option (resD r_laws_eqStream) := Pu.laws_eqStream a.1 a.2.1
noncomputable def e_laws_eqStream : GEnt := entOf s_laws_eqStream r_laws_eqStream F_laws_eqStream
noncomputable def g_laws_eqStream : Gam := (Gam.nil).add 72 e_laws_eqFlow
theorem S_laws_eqStream : Sound Try.prog E g_laws_eqStream := (base).add ok_laws_eqFlow
def n_laws_eqStream : An := {  }
noncomputable def L_laws_eqStream : Lam := Lam.nil
theorem h_laws_eqStream : ∀ c ∈ loopsOf (Try.f46.body.getD .skip), LOk E g_laws_eqStream n_laws_eqStream L_laws_eqStream c := by
  have e : loopsOf (Try.f46.body.getD .skip) = [] := by kernel_rfl
  rw [e]; simp
theorem ok_laws_eqStream : FnOk Try.prog 46 e_laws_eqStream := FnOk.of (fnOk S_laws_eqStream Try.func46 (by kernel_rfl) h_laws_eqStream) (fun a => by kernel_rfl)
@[reducible] def s_laws_eqStreamS : List PS := [.data false (.sl TStream), .data false (.sl TStream)]
@[reducible] def r_laws_eqStreamS : List (Bool × FT) := [(false, .bool)]
noncomputable def F_laws_eqStreamS (a : Args s_laws_eqStreamS) : Option (resD r_laws_eqStreamS) := Pu.laws_eqStreamS a.1 a.2.1
noncomputable def e_laws_eqStreamS : GEnt := entOf s_laws_eqStreamS r_laws_eqStreamS F_laws_eqStreamS
noncomputable def g_laws_eqStreamS : Gam := (Gam.nil).add 46 e_laws_eqStream
theorem S_laws_eqStreamS : Sound Try.prog E g_laws_eqStreamS := (base).add ok_laws_eqStream
def n_laws_eqStreamS : An := { mask := fun | 4 => [0, 1, 4, 5] | _ => [] }
@[reducible] def d_laws_eqStreamS_4 : SD := ⟨[.data false (.sl .arg TStream), .data false (.sl .arg TStream), .bot, .bot, .data false .bool, .data false (.int .i64), .bot, .bot, .bot, .bot, .bot, .bot, .bot, .bot, .bot, .bot, .bot, .bot, .bot, .bot, .bot, .bot, .bot, .bot, .bot, .bot, .bot], [none, none, none, none, none, none, none, none, none, none, none, none, none, none, none, none, none, none, none, none, none, none, none, none, none, none, none], none⟩
@[reducible] def d_laws_eqStreamS_4_x0 : SD := ⟨[.data false (.sl .arg TStream), .data false (.sl .arg TStream), .bot, .bot, .data false .bool, .data false (.int .i64), .bot, .bot, .bot, .bot, .bot, .bot, .bot, .bot, .bot, .bot, .bot, .bot, .bot, .bot, .bot, .bot, .bot, .bot, .bot, .bot, .bot], [none, none, none, none, none, none, none, none, none, none, none, none, none, none, none, none, none, none, none, none, none, none, none, none, none, none, none], none⟩
@[reducible] def d_laws_eqStreamS_4_ret : SD := ⟨[.data false (.sl .arg TStream), .data false (.sl .arg TStream), .bot, .bot, .data false .bool, .data false (.int .i64), .bot, .bot, .bot, .bot, .bot, .bot, .bot, .bot, .bot, .bot, .bot, .bot, .bot, .bot, .bot, .bot, .bot, .bot, .bot, .bot, .bot], [none, none, none, none, none, none, none, none, none, none, none, none, none, none, none, none, none, none, none, none, none, none, none, none, none, none, none], none⟩
noncomputable def l_laws_eqStreamS_4 : LEnt := ⟨d_laws_eqStreamS_4, fun X K => iterL (Pu.laws_eqStreamS_T4 (fun y0 => K (.exit 0) (SD.enc d_laws_eqStreamS_4_x0 (((X.1.1), ((X.1.2.1), ((X.1.2.2.1), (y0, ())))), (), ()))) (fun y0 y1 => K .ret (SD.enc d_laws_eqStreamS_4_ret (((X.1.1), ((X.1.2.1), (y0, (y1, ())))), (), ()))) X.1.1 X.1.2.1 X.1.2.2.1) fuel X.1.2.2.2.1⟩
noncomputable def L_laws_eqStreamS : Lam := (Lam.nil).add 4 l_laws_eqStreamS_4
theorem lok_laws_eqStreamS_4 : LOk E g_laws_eqStreamS n_laws_eqStreamS L_laws_eqStreamS (loopBody Try.f17 0) :=
  lok l_laws_eqStreamS_4 (by kernel_rfl) fuel fun R X K => (loop_iter (σ := Int) (fun x => SD.enc d_laws_eqStreamS_4 ((X.1.1, (X.1.2.1, (X.1.2.2.1, (x, ())))), (), ())) (Pu.laws_eqStreamS_T4 (fun y0 => K (.exit 0) (SD.enc d_laws_eqStreamS_4_x0 (((X.1.1), ((X.1.2.1), ((X.1.2.2.1), (y0, ())))), (), ()))) (fun y0 y1 => K .ret (SD.enc d_laws_eqStreamS_4_ret (((X.1.1), ((X.1.2.1), (y0, (y1, ())))), (), ()))) X.1.1 X.1.2.1 X.1.2.2.1) (fun m x => by kernel_rfl) fuel X.1.2.2.2.1).symm
theorem h_laws_eqStreamS : ∀ c ∈ loopsOf (Try.f17.body.getD .skip), LOk E g_laws_eqStreamS n_laws_eqStreamS L_laws_eqStreamS c := by
  have e : loopsOf (Try.f17.body.getD .skip) = [loopBody Try.f17 0] := by kernel_rfl
  rw [e]; simp only [List.forall_mem_cons]; exact ⟨lok_laws_eqStreamS_4, by simp⟩
theorem ok_laws_eqStreamS : FnOk Try.prog 17 e_laws_eqStreamS := FnOk.of (fnOk S_laws_eqStreamS Try.func17 (by kernel_rfl) h_laws_eqStreamS) (fun a => by kernel_rfl)
@[reducible] def s_laws_FnExactSameData : List PS := [.data false (.sl TStream), .data false (.sl TStream)]
@[reducible] def r_laws_FnExactSameData : List (Bool × FT) := [(false, .bool)]
noncomputable def F_laws_FnExactSameData (a : Args s_laws_FnExactSameData) : Option (resD r_laws_FnExactSameData) := Pu.laws_FnExactSameData a.1 a.2.1
noncomputable def e_laws_FnExactSameData : GEnt := entOf s_laws_FnExactSameData r_laws_FnExactSameData F_laws_FnExactSameData
noncomputable def g_laws_FnExactSameData : Gam := (((((Gam.nil).add 13 e_laws_szStreamS).add 14 e_spec_SameData).add 15 e_laws_toStreamS).add 16 e_impl_SameData).add 17 e_laws_eqStreamS
theorem S_laws_FnExactSameData : Sound Try.prog E g_laws_FnExactSameData := (((((base).add ok_laws_szStreamS).add ok_spec_SameData).add ok_laws_toStreamS).add ok_impl_SameData).add ok_laws_eqStreamS
def n_laws_FnExactSameData : An := {  }
noncomputable def L_laws_FnExactSameData : Lam := Lam.nil
theorem h_laws_FnExactSameData : ∀ c ∈ loopsOf (Try.f4.body.getD .skip), LOk E g_laws_FnExactSameData n_laws_FnExactSameData L_laws_FnExactSameData c := by
  have e : loopsOf (Try.f4.body.getD .skip) = [] := by kernel_rfl
  rw [e]; simp
theorem ok_laws_FnExactSameData : FnOk Try.prog 4 e_laws_FnExactSameData := FnOk.of (fnOk S_laws_FnExactSameData Try.func4 (by kernel_rfl) h_laws_FnExactSameData) (fun a => by kernel_rfl)
@[reducible] def s_laws_szSegment : List PS := [.data true TSegment, .data false (.int .i64)]
@[reducible] def r_laws_szSegment : List (Bool × FT) := [(false, (.int .i64))]
noncomputable def F_laws_szSegment (a : Args s_laws_szSegment) : Option (resD r_laws_szSegment) := Pu.laws_szSegment a.1 a.2.1
noncomputable def e_laws_szSegment : GEnt := entOf s_laws_szSegment r_laws_szSegment F_laws_szSegment
noncomputable def g_laws_szSegment : Gam := Gam.nil
theorem S_laws_szSegment : Sound Try.prog E g_laws_szSegment := base
def n_laws_szSegment : An := {  }
noncomputable def L_laws_szSegment : Lam := Lam.nil
theorem h_laws_szSegment : ∀ c ∈ loopsOf (Try.f67.body.getD .skip), LOk E g_laws_szSegment n_laws_szSegment L_laws_szSegment c := by
  have e : loopsOf (Try.f67.body.getD .skip) = [] := by kernel_rfl
  rw [e]; simp
theorem ok_laws_szSegment : FnOk Try.prog 67 e_laws_szSegment := FnOk.of (fnOk S_laws_szSegment Try.func67 (by kernel_rfl) h_laws_szSegment) (fun a => by kernel_rfl)
@[reducible] def s_laws_szPacket : List PS := [.data true TPacket, .data false (.int .i64)]
@[reducible] def r_laws_szPacket : List (Bool × FT) := [(false, (.int .i64))]
noncomputable def F_laws_szPacket (a : Args s_laws_szPacket) : Option (resD r_laws_szPacket) := Pu.laws_szPacket a.1 a.2.1
noncomputable def e_laws_szPacket : GEnt := entOf s_laws_szPacket r_laws_szPacket F_laws_szPacket
noncomputable def g_laws_szPacket : Gam := (Gam.nil).add 67 e_laws_szSegment
theorem S_laws_szPacket : Sound Try.prog E g_laws_szPacket := (base).add ok_laws_szSegment
def n_laws_szPacket : An := {  }
noncomputable def L_laws_szPacket : Lam := Lam.nil
theorem h_laws_szPacket : ∀ c ∈ loopsOf (Try.f38.body.getD .skip), LOk E g_laws_szPacket n_laws_szPacket L_laws_szPacket c := by
  have e : loopsOf (Try.f38.body.getD .skip) = [] := by kernel_rfl
  rw [e]; simp
theorem ok_laws_szPacket : FnOk Try.prog 38 e_laws_szPacket := FnOk.of (fnOk S_laws_szPacket Try.func38 (by kernel_rfl) h_laws_szPacket) (fun a => by kernel_rfl)
@[reducible] def s_laws_szAct : List PS := [.data true TAct, .data false (.int .i64)]
@[reducible] def r_laws_szAct : List (Bool × FT) := [(false, (.int .i64))]
noncomputable def F_laws_szAct (a : Args s_laws_szAct) : Option (resD r_laws_szAct) := Pu.laws_szAct a.1 a.2.1
noncomputable def e_laws_szAct : GEnt := entOf s_laws_szAct r_laws_szAct F_laws_szAct
noncomputable def g_laws_szAct : Gam := (Gam.nil).add 38 e_laws_szPacket
theorem S_laws_szAct : Sound Try.prog E g_laws_szAct := (base).add ok_laws_szPacket
def n_laws_szAct : An := {  }
noncomputable def L_laws_szAct : Lam := Lam.nil
theorem h_laws_szAct : ∀ c ∈ loopsOf (Try.f9.body.getD .skip), LOk E g_laws_szAct n_laws_szAct L_laws_szAct c := by
  have e : loopsOf (Try.f9.body.getD .skip) = [] := by kernel_rfl
  rw [e]; simp
theorem ok_laws_szAct : FnOk Try.prog 9 e_laws_szAct := FnOk.of (fnOk S_laws_szAct Try.func9 (by kernel_rfl) h_laws_szAct) (fun a => by kernel_rfl)
@[reducible] def s_laws_szActS : List PS := [.data false (.sl TAct), .data false (.int .i64)]
@[reducible] def r_laws_szActS : List (Bool × FT) := [(false, (.int .i64))]
noncomputable def F_laws_szActS (a : Args s_laws_szActS) : Option (resD r_laws_szActS) := Pu.laws_szActS a.1 a.2.1
noncomputable def e_laws_szActS : GEnt := entOf s_laws_szActS r_laws_szActS F_laws_szActS
noncomputable def g_laws_szActS : Gam := (Gam.nil).add 9 e_laws_szAct
theorem S_laws_szActS : Sound Try.prog E g_laws_szActS := (base).add ok_laws_szAct
def n_laws_szActS : An := { mask := fun | 5 => [0, 1, 4, 5] | _ => [] }
@[reducible] def d_laws_szActS_5 : SD := ⟨[.data false (.sl .arg TAct), .data false (.int .i64), .bot, .bot, .data false (.int .i64), .data false (.int .i64), .bot, .bot, .bot, .bot, .bot, .bot, .bot, .bot, .bot, .bot, .bot, .bot, .bot, .bot, .bot, .bot, .bot, .bot, .bot, .bot, .bot], [none, none, none, none, none, none, none, none, none, none, none, none, none, none, none, none, none, none, none, none, none, none, none, none, none, none, none], none⟩
@[reducible] def d_laws_szActS_5_x0 : SD := ⟨[.data false (.sl .arg TAct), .data false (.int .i64), .bot, .bot, .data false (.int .i64), .data false (.int .i64), .bot, .bot, .bot, .bot, .bot, .bot, .bot, .bot, .bot, .bot, .bot, .bot, .bot, .bot, .bot, .bot, .bot, .bot, .bot, .bot, .bot], [none, none, none, none, none, none, none, none, none, none, none, none, none, none, none, none, none, none, none, none, none, none, none, none, none, none, none], none⟩
@[reducible] def d_laws_szActS_5_ret : SD := ⟨[.data false (.sl .arg TAct), .data false (.int .i64), .bot, .bot, .data false (.int .i64), .data false (.int .i64), .bot, .bot, .bot, .bot, .bot, .bot, .bot, .bot, .bot, .bot, .bot, .bot, .bot, .bot, .bot, .bot, .bot, .bot, .bot, .bot, .bot], [none, none, none, none, none, none, none, none, none, none, none, none, none, none, none, none, none, none, none, none, none, none, none, none, none, none, none], none⟩
noncomputable def l_laws_szActS_5 : LEnt := ⟨d_laws_szActS_5, fun X K => iterL (Pu.laws_szActS_T5 (fun y0 y1 => K (.exit 0) (SD.enc d_laws_szActS_5_x0 (((X.1.1), (y0, ((X.1.2.2.1), (y1, ())))), (), ()))) (fun y0 y1 y2 => K .ret (SD.enc d_laws_szActS_5_ret (((X.1.1), (y0, (y1, (y2, ())))), (), ()))) X.1.1 X.1.2.2.1) fuel (X.1.2.1, X.1.2.2.2.1)⟩
noncomputable def L_laws_szActS : Lam := (Lam.nil).add 5 l_laws_szActS_5
theorem lok_laws_szActS_5 : LOk E g_laws_szActS n_laws_szActS L_laws_szActS (loopBody Try.f31 0) :=
  lok l_laws_szActS_5 (by kernel_rfl) fuel fun R X K => (loop_iter (σ := Int × Int) (fun x => SD.enc d_laws_szActS_5 ((X.1.1, (x.1, (X.1.2.2.1, (x.2, ())))), (), ())) (Pu.laws_szActS_T5 (fun y0 y1 => K (.exit 0) (SD.enc d_laws_szActS_5_x0 (((X.1.1), (y0, ((X.1.2.2.1), (y1, ())))), (), ()))) (fun y0 y1 y2 => K .ret (SD.enc d_laws_szActS_5_ret (((X.1.1), (y0, (y1, (y2, ())))), (), ()))) X.1.1 X.1.2.2.1) (fun m x => by kernel_rfl) fuel (X.1.2.1, X.1.2.2.2.1)).symm
theorem h_laws_szActS : ∀ c ∈ loopsOf (Try.f31.body.getD .skip), LOk E g_laws_szActS n_laws_szActS L_laws_szActS c := by
  have e : loopsOf (Try.f31.body.getD .skip) = [loopBody Try.f31 0] := by kernel_rfl
  rw [e]; simp only [List.forall_mem_cons]; exact ⟨lok_laws_szActS_5, by simp⟩
theorem ok_laws_szActS : FnOk Try.prog 31 e_laws_szActS := FnOk.of (fnOk S_laws_szActS Try.func31 (by kernel_rfl) h_laws_szActS) (fun a => by kernel_rfl)
@[reducible] def s_spec_l01In : List PS := [.data false (.int .i64), .data false (.int .i64), .data false (.int .i64)]
@[reducible] def r_spec_l01In : List (Bool × FT) := [(false, .bool)]
noncomputable def F_spec_l01In (a : Args s_spec_l01In) : Option (resD r_spec_l01In) := Pu.spec_l01In a.1 a.2.1 a.2.2.1
noncomputable def e_spec_l01In : GEnt := entOf s_spec_l01In r_spec_l01In F_spec_l01In
noncomputable def g_spec_l01In : Gam := Gam.nil
theorem S_spec_l01In : Sound Try.prog E g_spec_l01In := base
def n_spec_l01In : An := { merge := fun | 1 => some 6 | _ => none }
noncomputable def L_spec_l01In : Lam := Lam.nil
theorem h_spec_l01In : ∀ c ∈ loopsOf (Try.f39.body.getD .skip), LOk E g_spec_l01In n_spec_l01In L_spec_l01In c := by
  have e : loopsOf (Try.f39.body.getD .skip) = [] := by kernel_rfl
  rw [e]; simp
theorem ok_spec_l01In : FnOk Try.prog 39 e_spec_l01In := FnOk.of (fnOk S_spec_l01In Try.func39 (by kernel_rfl) h_spec_l01In) (fun a => by kernel_rfl)
@[reducible] def s_spec_ActOk : List PS := [.data true TAct]
@[reducible] def r_spec_ActOk : List (Bool × FT) := [(false, .bool)]
noncomputable def F_spec_ActOk (a : Args s_spec_ActOk) : Option (resD r_spec_ActOk) := Pu.spec_ActOk a.1
noncomputable def e_spec_ActOk : GEnt := entOf s_spec_ActOk r_spec_ActOk F_spec_ActOk
noncomputable def g_spec_ActOk : Gam := (Gam.nil).add 39 e_spec_l01In
theorem S_spec_ActOk : Sound Try.prog E g_spec_ActOk := (base).add ok_spec_l01In
def n_spec_ActOk : An := { merge := fun | 1 => some 12 | 3 => some 31 | 5 => some 2 | _ => none }
noncomputable def L_spec_ActOk : Lam := Lam.nil
theorem h_spec_ActOk : ∀ c ∈ loopsOf (Try.f10.body.getD .skip), LOk E g_spec_ActOk n_spec_ActOk L_spec_ActOk c := by
  have e : loopsOf (Try.f10.body.getD .skip) = [] := by kernel_rfl
  rw [e]; simp
theorem ok_spec_ActOk : FnOk Try.prog 10 e_spec_ActOk := FnOk.of (fnOk S_spec_ActOk Try.func10 (by kernel_rfl) h_spec_ActOk) (fun a => by kernel_rfl)
@[reducible] def s_spec_HasReset : List PS := [.data false (.sl TAct)]
@[reducible] def r_spec_HasReset : List (Bool × FT) := [(false, .bool)]
noncomputable def F_spec_HasReset (a : Args s_spec_HasReset) : Option (resD r_spec_HasReset) := Pu.spec_HasReset a.1
noncomputable def e_spec_HasReset : GEnt := entOf s_spec_HasReset r_spec_HasReset F_spec_HasReset
noncomputable def g_spec_HasReset : Gam := (Gam.nil).add 10 e_spec_ActOk
theorem S_spec_HasReset : Sound Try.prog E g_spec_HasReset := (base).add ok_spec_ActOk
def n_spec_HasReset : An := { mask := fun | 2 => [0, 2, 3] | _ => [], merge := fun | 4 => some 22 | _ => none }
@[reducible] def d_spec_HasReset_2 : SD := ⟨[.data false (.sl .arg TAct), .bot, .data false .bool, .data false (.int .i64), .bot, .bot, .bot, .bot, .bot, .bot, .bot, .bot, .bot, .bot, .bot, .bot, .bot, .bot, .bot, .bot, .bot, .bot, .bot], [none, none, none, none, none, none, none, none, none, none, none, none, none, none, none, none, none, none, none, none, none, none, none], none⟩
@[reducible] def d_spec_HasReset_2_x0 : SD := ⟨[.data false (.sl .arg TAct), .bot, .data false .bool, .data false (.int .i64), .bot, .bot, .bot, .bot, .bot, .bot, .bot, .bot, .bot, .bot, .bot, .bot, .bot, .bot, .bot, .bot, .bot, .bot, .bot], [none, none, none, none, none, none, none, none, none, none, none, none, none, none, none, none, none, none, none, none, none, none, none], none⟩
@[reducible] def d_spec_HasReset_2_ret : SD := ⟨[.data false (.sl .arg TAct), .bot, .data false .bool, .data false (.int .i64), .bot, .bot, .bot, .bot, .bot, .bot, .bot, .bot, .bot, .bot, .bot, .bot, .bot, .bot, .bot, .bot, .bot, .bot, .bot], [none, none, none, none, none, none, none, none, none, none, none, none, none, none, none, none, none, none, none, none, none, none, none], none⟩
noncomputable def l_spec_HasReset_2 : LEnt := ⟨d_spec_HasReset_2, fun X K => iterL (Pu.spec_HasReset_T2 (fun y0 => K (.exit 0) (SD.enc d_spec_HasReset_2_x0 (((X.1.1), ((X.1.2.1), (y0, ()))), (), ()))) (fun y0 y1 => K .ret (SD.enc d_spec_HasReset_2_ret (((X.1.1), (y0, (y1, ()))), (), ()))) X.1.1 X.1.2.1) fuel X.1.2.2.1⟩
noncomputable def L_spec_HasReset : Lam := (Lam.nil).add 2 l_spec_HasReset_2
theorem lok_spec_HasReset_2 : LOk E g_spec_HasReset n_spec_HasReset L_spec_HasReset (loopBody Try.f32 0) :=
  lok l_spec_HasReset_2 (by kernel_rfl) fuel fun R X K => (loop_iter (σ := Int) (fun x => SD.enc d_spec_HasReset_2 ((X.1.1, (X.1.2.1, (x, ()))), (), ())) (Pu.spec_HasReset_T2 (fun y0 => K (.exit 0) (SD.enc d_spec_HasReset_2_x0 (((X.1.1), ((X.1.2.1), (y0, ()))), (), ()))) (fun y0 y1 => K .ret (SD.enc d_spec_HasReset_2_ret (((X.1.1), (y0, (y1, ()))), (), ()))) X.1.1 X.1.2.1) (fun m x => by kernel_rfl) fuel X.1.2.2.1).symm
theorem h_spec_HasReset : ∀ c ∈ loopsOf (Try.f32.body.getD .skip), LOk E g_spec_HasReset n_spec_HasReset L_spec_HasReset c := by
  have e : loopsOf (Try.f32.body.getD .skip) = [loopBody Try.f32 0] := by kernel_rfl
  rw [e]; simp only [List.forall_mem_cons]; exact ⟨lok_spec_HasReset_2, by simp⟩
theorem ok_spec_HasReset : FnOk Try.prog 32 e_spec_HasReset := FnOk.of (fnOk S_spec_HasReset Try.func32 (by kernel_rfl) h_spec_HasReset) (fun a => by kernel_rfl)
@[reducible] def s_laws_toSegment : List PS := [.data true TSegment]
@[reducible] def r_laws_toSegment : List (Bool × FT) := [(true, (.pair (.int .i64) (.pair (.int .i64) (.pair (.int .i64) (.pair (.int .i64) (.pair (.int .i64) (.pair (.int .i64) (.pair (.int .i64) .str))))))))]
noncomputable def F_laws_toSegment (a : Args s_laws_toSegment) : Option (resD r_laws_toSegment) := Pu.laws_toSegment a.1
noncomputable def e_laws_toSegment : GEnt := entOf s_laws_toSegment r_laws_toSegment F_laws_toSegment
noncomputable def g_laws_toSegment : Gam := Gam.nil
theorem S_laws_toSegment : Sound Try.prog E g_laws_toSegment := base
def n_laws_toSegment : An := {  }
noncomputable def L_laws_toSegment : Lam := Lam.nil
theorem h_laws_toSegment : ∀ c ∈ loopsOf (Try.f68.body.getD .skip), LOk E g_laws_toSegment n_laws_toSegment L_laws_toSegment c := by
  have e : loopsOf (Try.f68.body.getD .skip) = [] := by kernel_rfl
  rw [e]; simp
theorem ok_laws_toSegment : FnOk Try.prog 68 e_laws_toSegment := FnOk.of (fnOk S_laws_toSegment Try.func68 (by kernel_rfl) h_laws_toSegment) (fun a => by kernel_rfl)
@[reducible] def s_laws_toPacket : List PS := [.data true TPacket]
@[reducible] def r_laws_toPacket : List (Bool × FT) := [(true, (.pair (.int .i64) (.pair (.int .i64) (.pair (.int .i64) (.pair (.int .i64) (.pair (.int .i64) (.pair (.int .i64) (.pair (.int .i64) (.pair (.int .i64) (.pair (.int .i64) (.pair (.int .i64) (.pair (.int .i64) (.pair (.int .i64) (.pair (.int .i64) (.pair (.int .i64) (.pair (.int .i64) .str))))))))))))))))]
noncomputable def F_laws_toPacket (a : Args s_laws_toPacket) : Option (resD r_laws_toPacket) := Pu.laws_toPacket a.1
noncomputable def e_laws_toPacket : GEnt := entOf s_laws_toPacket r_laws_toPacket F_laws_toPacket
noncomputable def g_laws_toPacket : Gam := (Gam.nil).add 68 e_laws_toSegment
theorem S_laws_toPacket : Sound Try.prog E g_laws_toPacket := (base).add ok_laws_toSegment
def n_laws_toPacket : An := {  }
noncomputable def L_laws_toPacket : Lam := Lam.nil
theorem h_laws_toPacket : ∀ c ∈ loopsOf (Try.f40.body.getD .skip), LOk E g_laws_toPacket n_laws_toPacket L_laws_toPacket c := by
  have e : loopsOf (Try.f40.body.getD .skip) = [] := by kernel_rfl
  rw [e]; simp
theorem ok_laws_toPacket : FnOk Try.prog 40 e_laws_toPacket := FnOk.of (fnOk S_laws_toPacket Try.func40 (by kernel_rfl) h_laws_toPacket) (fun a => by kernel_rfl)
@[reducible] def s_laws_toAct : List PS := [.data true TAct]
@[reducible] def r_laws_toAct : List (Bool × FT) := [(true, (.pair (.int .i64) (.pair (.pair (.int .i64) (.pair (.int .i64) (.pair (.int .i64) (.pair (.int .i64) (.pair (.int .i64) (.pair (.int .i64) (.pair (.int .i64) (.pair (.int .i64) (.pair (.int .i64) (.pair (.int .i64) (.pair (.int .i64) (.pair (.int .i64) (.pair (.int .i64) (.pair (.int .i64) (.pair (.int .i64) .str))))))))))))))) (.pair (.int .i64) (.pair (.int .i64) (.pair .str (.int .i64)))))))]
noncomputable def F_laws_toAct (a : Args s_laws_toAct) : Option (resD r_laws_toAct) := Pu.laws_toAct a.1
noncomputable def e_laws_toAct : GEnt := entOf s_laws_toAct r_laws_toAct F_laws_toAct
noncomputable def g_laws_toAct : Gam := (Gam.nil).add 40 e_laws_toPacket
theorem S_laws_toAct : Sound Try.prog E g_laws_toAct := (base).add ok_laws_toPacket
def n_laws_toAct : An := {  }
noncomputable def L_laws_toAct : Lam := Lam.nil
theorem h_laws_toAct : ∀ c ∈ loopsOf (Try.f11.body.getD .skip), LOk E g_laws_toAct n_laws_toAct L_laws_toAct c := by
  have e : loopsOf (Try.f11.body.getD .skip) = [] := by kernel_rfl
  rw [e]; simp
theorem ok_laws_toAct : FnOk Try.prog 11 e_laws_toAct := FnOk.of (fnOk S_laws_toAct Try.func11 (by kernel_rfl) h_laws_toAct) (fun a => by kernel_rfl)
@[reducible] def s_laws_toActS : List PS := [.data false (.sl TAct)]
@[reducible] def r_laws_toActS : List (Bool × FT) := [(false, (.sl (.own none) TAct))]
noncomputable def F_laws_toActS (a : Args s_laws_toActS) : Option (resD r_laws_toActS) := Pu.laws_toActS a.1
noncomputable def e_laws_toActS : GEnt := entOf s_laws_toActS r_laws_toActS F_laws_toActS
noncomputable def g_laws_toActS : Gam := (Gam.nil).add 11 e_laws_toAct
theorem S_laws_toActS : Sound Try.prog E g_laws_toActS := (base).add ok_laws_toAct
def n_laws_toActS : An := { mask := fun | 3 => [0, 3, 4] | _ => [], mv := [22] }
@[reducible] def d_laws_toActS_3 : SD := ⟨[.data false (.sl .arg TAct), .bot, .bot, .data false (.sl (.own (some 36864)) TAct), .data false (.int .i64), .bot, .bot, .bot, .bot, .bot, .bot, .bot, .bot, .bot, .bot, .bot, .bot, .bot, .bot, .bot, .bot, .bot, .bot], [none, none, none, none, none, none, none, none, none, none, none, none, none, none, none, none, none, none, none, none, none, none, none], none⟩
@[reducible] def d_laws_toActS_3_x0 : SD := ⟨[.data false (.sl .arg TAct), .bot, .bot, .data false (.sl (.own (some 36864)) TAct), .data false (.int .i64), .bot, .bot, .bot, .bot, .bot, .bot, .bot, .bot, .bot, .bot, .bot, .bot, .bot, .bot, .bot, .bot, .bot, .bot], [none, none, none, none, none, none, none, none, none, none, none, none, none, none, none, none, none, none, none, none, none, none, none], none⟩
noncomputable def l_laws_toActS_3 : LEnt := ⟨d_laws_toActS_3, fun X K => iterL (Pu.laws_toActS_T3 (fun y0 y1 => K (.exit 0) (SD.enc d_laws_toActS_3_x0 (((X.1.1), (y0, (y1, ()))), (), ()))) X.1.1) fuel (X.1.2.1, X.1.2.2.1)⟩
noncomputable def L_laws_toActS : Lam := (Lam.nil).add 3 l_laws_toActS_3
theorem lok_laws_toActS_3 : LOk E g_laws_toActS n_laws_toActS L_laws_toActS (loopBody Try.f33 0) :=
  lok l_laws_toActS_3 (by kernel_rfl) fuel fun R X K => (loop_iter (σ := (List Pu.Act) × Int) (fun x => SD.enc d_laws_toActS_3 ((X.1.1, (x.1, (x.2, ()))), (), ())) (Pu.laws_toActS_T3 (fun y0 y1 => K (.exit 0) (SD.enc d_laws_toActS_3_x0 (((X.1.1), (y0, (y1, ()))), (), ()))) X.1.1) (fun m x => by kernel_rfl) fuel (X.1.2.1, X.1.2.2.1)).symm
theorem h_laws_toActS : ∀ c ∈ loopsOf (Try.f33.body.getD .skip), LOk E g_laws_toActS n_laws_toActS L_laws_toActS c := by
  have e : loopsOf (Try.f33.body.getD .skip) = [loopBody Try.f33 0] := by kernel_rfl
  rw [e]; simp only [List.forall_mem_cons]; exact ⟨lok_laws_toActS_3, by simp⟩
theorem ok_laws_toActS : FnOk Try.prog 33 e_laws_toActS := FnOk.of (fnOk S_laws_toActS Try.func33 (by kernel_rfl) h_laws_toActS) (fun a => by kernel_rfl)
@[reducible] def s_impl_between : List PS := [.data false (.int .i64), .data false (.int .i64), .data false (.int .i64)]
@[reducible] def r_impl_between : List (Bool × FT) := [(false, .bool)]
noncomputable def F_impl_between (a : Args s_impl_between) : Option (resD r_impl_between) := Pu.impl_between a.1 a.2.1 a.2.2.1
noncomputable def e_impl_between : GEnt := entOf s_impl_between r_impl_between F_impl_between
noncomputable def g_impl_between : Gam := Gam.nil
theorem S_impl_between : Sound Try.prog E g_impl_between := base
def n_impl_between : An := { merge := fun | 1 => some 6 | _ => none }
noncomputable def L_impl_between : Lam := Lam.nil
theorem h_impl_between : ∀ c ∈ loopsOf (Try.f41.body.getD .skip), LOk E g_impl_between n_impl_between L_impl_between c := by
  have e : loopsOf (Try.f41.body.getD .skip) = [] := by kernel_rfl
  rw [e]; simp
theorem ok_impl_between : FnOk Try.prog 41 e_impl_between := FnOk.of (fnOk S_impl_between Try.func41 (by kernel_rfl) h_impl_between) (fun a => by kernel_rfl)
@[reducible] def s_impl_ActOk : List PS := [.data true TAct]
@[reducible] def r_impl_ActOk : List (Bool × FT) := [(false, .bool)]
noncomputable def F_impl_ActOk (a : Args s_impl_ActOk) : Option (resD r_impl_ActOk) := Pu.impl_ActOk a.1
noncomputable def e_impl_ActOk : GEnt := entOf s_impl_ActOk r_impl_ActOk F_impl_ActOk
noncomputable def g_impl_ActOk : Gam := (Gam.nil).add 41 e_impl_between
theorem S_impl_ActOk : Sound Try.prog E g_impl_ActOk := (base).add ok_impl_between
def n_impl_ActOk : An := { merge := fun | 1 => some 12 | 3 => some 31 | 5 => some 2 | _ => none }
noncomputable def L_impl_ActOk : Lam := Lam.nil
theorem h_impl_ActOk : ∀ c ∈ loopsOf (Try.f12.body.getD .skip), LOk E g_impl_ActOk n_impl_ActOk L_impl_ActOk c := by
  have e : loopsOf (Try.f12.body.getD .skip) = [] := by kernel_rfl
  rw [e]; simp
theorem ok_impl_ActOk : FnOk Try.prog 12 e_impl_ActOk := FnOk.of (fnOk S_impl_ActOk Try.func12 (by kernel_rfl) h_impl_ActOk) (fun a => by kernel_rfl)
@[reducible] def s_impl_HasReset : List PS := [.data false (.sl TAct)]
@[reducible] def r_impl_HasReset : List (Bool × FT) := [(false, .bool)]
noncomputable def F_impl_HasReset (a : Args s_impl_HasReset) : Option (resD r_impl_HasReset) := Pu.impl_HasReset a.1
noncomputable def e_impl_HasReset : GEnt := entOf s_impl_HasReset r_impl_HasReset F_impl_HasReset
noncomputable def g_impl_HasReset : Gam := (Gam.nil).add 12 e_impl_ActOk
theorem S_impl_HasReset : Sound Try.prog E g_impl_HasReset := (base).add ok_impl_ActOk
def n_impl_HasReset : An := { mask := fun | 2 => [2, 5, 6, 7] | _ => [], merge := fun | 4 => some 17 | _ => none }
@[reducible] def d_impl_HasReset_2 : SD := ⟨[.bot, .bot, .data false .bool, .bot, .bot, .data false (.sl .arg TAct), .data false (.int .i64), .data false (.int .i64), .bot, .bot, .bot, .bot, .bot, .bot, .bot, .bot, .bot, .bot, .bot], [none, none, none, none, none, none, none, none, none, none, none, none, none, none, none, none, none, none, none], none⟩
@[reducible] def d_impl_HasReset_2_x0 : SD := ⟨[.bot, .bot, .data false .bool, .bot, .bot, .data false (.sl .arg TAct), .data false (.int .i64), .data false (.int .i64), .bot, .bot, .bot, .bot, .bot, .bot, .bot, .bot, .bot, .bot, .bot], [none, none, none, none, none, none, none, none, none, none, none, none, none, none, none, none, none, none, none], none⟩
@[reducible] def d_impl_HasReset_2_ret : SD := ⟨[.bot, .bot, .data false .bool, .bot, .bot, .data false (.sl .arg TAct), .data false (.int .i64), .data false (.int .i64), .bot, .bot, .bot, .bot, .bot, .bot, .bot, .bot, .bot, .bot, .bot], [none, none, none, none, none, none, none, none, none, none, none, none, none, none, none, none, none, none, none], none⟩
noncomputable def l_impl_HasReset_2 : LEnt := ⟨d_impl_HasReset_2, fun X K => iterL (Pu.impl_HasReset_T2 (fun y0 => K (.exit 0) (SD.enc d_impl_HasReset_2_x0 (((X.1.1), ((X.1.2.1), ((X.1.2.2.1), (y0, ())))), (), ()))) (fun y0 y1 => K .ret (SD.enc d_impl_HasReset_2_ret ((y0, ((X.1.2.1), ((X.1.2.2.1), (y1, ())))), (), ()))) X.1.1 X.1.2.1 X.1.2.2.1) fuel X.1.2.2.2.1⟩
noncomputable def L_impl_HasReset : Lam := (Lam.nil).add 2 l_impl_HasReset_2
theorem lok_impl_HasReset_2 : LOk E g_impl_HasReset n_impl_HasReset L_impl_HasReset (loopBody Try.f34 0) :=
  lok l_impl_HasReset_2 (by kernel_rfl) fuel fun R X K => (loop_iter (σ := Int) (fun x => SD.enc d_impl_HasReset_2 ((X.1.1, (X.1.2.1, (X.1.2.2.1, (x, ())))), (), ())) (Pu.impl_HasReset_T2 (fun y0 => K (.exit 0) (SD.enc d_impl_HasReset_2_x0 (((X.1.1), ((X.1.2.1), ((X.1.2.2.1), (y0, ())))), (), ()))) (fun y0 y1 => K .ret (SD.enc d_impl_HasReset_2_ret ((y0, ((X.1.2.1), ((X.1.2.2.1), (y1, ())))), (), ()))) X.1.1 X.1.2.1 X.1.2.2.1) (fun m x => by kernel_rfl) fuel X.1.2.2.2.1).symm
theorem h_impl_HasReset : ∀ c ∈ loopsOf (Try.f34.body.getD .skip), LOk E g_impl_HasReset n_impl_HasReset L_impl_HasReset c := by
  have e : loopsOf (Try.f34.body.getD .skip) = [loopBody Try.f34 0] := by kernel_rfl
  rw [e]; simp only [List.forall_mem_cons]; exact ⟨lok_impl_HasReset_2, by simp⟩
theorem ok_impl_HasReset : FnOk Try.prog 34 e_impl_HasReset := FnOk.of (fnOk S_impl_HasReset Try.func34 (by kernel_rfl) h_impl_HasReset) (fun a => by kernel_rfl)
@[reducible] def s_laws_eqSegment : List PS := [.data true TSegment, .data true TSegment]
@[reducible] def r_laws_eqSegment : List (Bool × FT) := [(false, .bool)]
noncomputable def F_laws_eqSegment (a : Args s_laws_eqSegment) : Option (resD r_laws_eqSegment) := Pu.laws_eqSegment a.1 a.2.1
noncomputable def e_laws_eqSegment : GEnt := entOf s_laws_eqSegment r_laws_eqSegment F_laws_eqSegment
noncomputable def g_laws_eqSegment : Gam := Gam.nil
theorem S_laws_eqSegment : Sound Try.prog E g_laws_eqSegment := base
def n_laws_eqSegment : An := {  }
noncomputable def L_laws_eqSegment : Lam := Lam.nil
theorem h_laws_eqSegment : ∀ c ∈ loopsOf (Try.f77.body.getD .skip), LOk E g_laws_eqSegment n_laws_eqSegment L_laws_eqSegment c := by
  have e : loopsOf (Try.f77.body.getD .skip) = [] := by kernel_rfl
  rw [e]; simp
theorem ok_laws_eqSegment : FnOk Try.prog 77 e_laws_eqSegment := FnOk.of (fnOk S_laws_eqSegment Try.func77 (by kernel_rfl) h_laws_eqSegment) (fun a => by kernel_rfl)
@[reducible] def s_laws_eqPacket : List PS := [.data true TPacket, .data true TPacket]
@[reducible] def r_laws_eqPacket : List (Bool × FT) := [(false, .bool)]
noncomputable def F_laws_eqPacket (a : Args s_laws_eqPacket) : Option (resD r_laws_eqPacket) := Pu.laws_eqPacket a.1 a.2.1
noncomputable def e_laws_eqPacket : GEnt := entOf s_laws_eqPacket r_laws_eqPacket F_laws_eqPacket
noncomputable def g_laws_eqPacket : Gam := (Gam.nil).add 77 e_laws_eqSegment
theorem S_laws_eqPacket : Sound Try.prog E g_laws_eqPacket := (base).add ok_laws_eqSegment
def n_laws_eqPacket : An := {  }
noncomputable def L_laws_eqPacket : Lam := Lam.nil
theorem h_laws_eqPacket : ∀ c ∈ loopsOf (Try.f76.body.getD .skip), LOk E g_laws_eqPacket n_laws_eqPacket L_laws_eqPacket c := by
  have e : loopsOf (Try.f76.body.getD .skip) = [] := by kernel_rfl
  rw [e]; simp
theorem ok_laws_eqPacket : FnOk Try.prog 76 e_laws_eqPacket := FnOk.of (fnOk S_laws_eqPacket Try.func76 (by kernel_rfl) h_laws_eqPacket) (fun a => by kernel_rfl)
@[reducible] def s_laws_eqAct : List PS := [.data true TAct, .data true TAct]
@[reducible] def r_laws_eqAct : List (Bool × FT) := [(false, .bool)]
noncomputable def F_laws_eqAct (a : Args s_laws_eqAct) : Option (resD r_laws_eqAct) := Pu.laws_eqAct a.1 a.2.1
noncomputable def e_laws_eqAct : GEnt := entOf s_laws_eqAct r_laws_eqAct F_laws_eqAct
noncomputable def g_laws_eqAct : Gam := (Gam.nil).add 76 e_laws_eqPacket
theorem S_laws_eqAct : Sound Try.prog E g_laws_eqAct := (base).add ok_laws_eqPacket
def n_laws_eqAct : An := {  }
noncomputable def L_laws_eqAct : Lam := Lam.nil
theorem h_laws_eqAct : ∀ c ∈ loopsOf (Try.f60.body.getD .skip), LOk E g_laws_eqAct n_laws_eqAct L_laws_eqAct c := by
  have e : loopsOf (Try.f60.body.getD .skip) = [] := by kernel_rfl
  rw [e]; simp
theorem ok_laws_eqAct : FnOk Try.prog 60 e_laws_eqAct := FnOk.of (fnOk S_laws_eqAct Try.func60 (by kernel_rfl) h_laws_eqAct) (fun a => by kernel_rfl)
@[reducible] def s_laws_eqActS : List PS := [.data false (.sl TAct), .data false (.sl TAct)]
@[reducible] def r_laws_eqActS : List (Bool × FT) := [(false, .bool)]
noncomputable def F_laws_eqActS (a : Args s_laws_eqActS) : Option (resD r_laws_eqActS) := Pu.laws_eqActS a.1 a.2.1
noncomputable def e_laws_eqActS : GEnt := entOf s_laws_eqActS r_laws_eqActS F_laws_eqActS
noncomputable def g_laws_eqActS : Gam := (Gam.nil).add 60 e_laws_eqAct
theorem S_laws_eqActS : Sound Try.prog E g_laws_eqActS := (base).add ok_laws_eqAct
def n_laws_eqActS : An := { mask := fun | 4 => [0, 1, 4, 5] | _ => [] }
@[reducible] def d_laws_eqActS_4 : SD := ⟨[.data false (.sl .arg TAct), .data false (.sl .arg TAct), .bot, .bot, .data false .bool, .data false (.int .i64), .bot, .bot, .bot, .bot, .bot, .bot, .bot, .bot, .bot, .bot, .bot, .bot, .bot, .bot, .bot, .bot, .bot, .bot, .bot, .bot, .bot], [none, none, none, none, none, none, none, none, none, none, none, none, none, none, none, none, none, none, none, none, none, none, none, none, none, none, none], none⟩
@[reducible] def d_laws_eqActS_4_x0 : SD := ⟨[.data false (.sl .arg TAct), .data false (.sl .arg TAct), .bot, .bot, .data false .bool, .data false (.int .i64), .bot, .bot, .bot, .bot, .bot, .bot, .bot, .bot, .bot, .bot, .bot, .bot, .bot, .bot, .bot, .bot, .bot, .bot, .bot, .bot, .bot], [none, none, none, none, none, none, none, none, none, none, none, none, none, none, none, none, none, none, none, none, none, none, none, none, none, none, none], none⟩
@[reducible] def d_laws_eqActS_4_ret : SD := ⟨[.data false (.sl .arg TAct), .data false (.sl .arg TAct), .bot, .bot, .data false .bool, .data false (.int .i64), .bot, .bot, .bot, .bot, .bot, .bot, .bot, .bot, .bot, .bot, .bot, .bot, .bot, .bot, .bot, .bot, .bot, .bot, .bot, .bot, .bot], [none, none, none, none, none, none, none, none, none, none, none, none, none, none, none, none, none, none, none, none, none, none, none, none, none, none, none], none⟩
noncomputable def l_laws_eqActS_4 : LEnt := ⟨d_laws_eqActS_4, fun X K => iterL (Pu.laws_eqActS_T4 (fun y0 => K (.exit 0) (SD.enc d_laws_eqActS_4_x0 (((X.1.1), ((X.1.2.1), ((X.1.2.2.1), (y0, ())))), (), ()))) (fun y0 y1 => K .ret (SD.enc d_laws_eqActS_4_ret (((X.1.1), ((X.1.2.1), (y0, (y1, ())))), (), ()))) X.1.1 X.1.2.1 X.1.2.2.1) fuel X.1.2.2.2.1⟩
noncomputable def L_laws_eqActS : Lam := (Lam.nil).add 4 l_laws_eqActS_4
theorem lok_laws_eqActS_4 : LOk E g_laws_eqActS n_laws_eqActS L_laws_eqActS (loopBody Try.f35 0) :=
  lok l_laws_eqActS_4 (by kernel_rfl) fuel fun R X K => (loop_iter (σ := Int) (fun x => SD.enc d_laws_eqActS_4 ((X.1.1, (X.1.2.1, (X.1.2.2.1, (x, ())))), (), ())) (Pu.laws_eqActS_T4 (fun y0 => K (.exit 0) (SD.enc d_laws_eqActS_4_x0 (((X.1.1), ((X.1.2.1), ((X.1.2.2.1), (y0, ())))), (), ()))) (fun y0 y1 => K .ret (SD.enc d_laws_eqActS_4_ret (((X.1.1), ((X.1.2.1), (y0, (y1, ())))), (), ()))) X.1.1 X.1.2.1 X.1.2.2.1) (fun m x => by kernel_rfl) fuel X.1.2.2.2.1).symm
theorem h_laws_eqActS : ∀ c ∈ loopsOf (Try.f35.body.getD .skip), LOk E g_laws_eqActS n_laws_eqActS L_laws_eqActS c := by
  have e : loopsOf (Try.f35.body.getD .skip) = [loopBody Try.f35 0] := by kernel_rfl
  rw [e]; simp only [List.forall_mem_cons]; exact ⟨lok_laws_eqActS_4, by simp⟩
theorem ok_laws_eqActS : FnOk Try.prog 35 e_laws_eqActS := FnOk.of (fnOk S_laws_eqActS Try.func35 (by kernel_rfl) h_laws_eqActS) (fun a => by kernel_rfl)
@[reducible] def s_laws_FnExactHasReset : List PS := [.data false (.sl TAct)]
@[reducible] def r_laws_FnExactHasReset : List (Bool × FT) := [(false, .bool)]
noncomputable def F_laws_FnExactHasReset (a : Args s_laws_FnExactHasReset) : Option (resD r_laws_FnExactHasReset) := Pu.laws_FnExactHasReset a.1
noncomputable def e_laws_FnExactHasReset : GEnt := entOf s_laws_FnExactHasReset r_laws_FnExactHasReset F_laws_FnExactHasReset
noncomputable def g_laws_FnExactHasReset : Gam := (((((Gam.nil).add 31 e_laws_szActS).add 32 e_spec_HasReset).add 33 e_laws_toActS).add 34 e_impl_HasReset).add 35 e_laws_eqActS
theorem S_laws_FnExactHasReset : Sound Try.prog E g_laws_FnExactHasReset := (((((base).add ok_laws_szActS).add ok_spec_HasReset).add ok_laws_toActS).add ok_impl_HasReset).add ok_laws_eqActS
def n_laws_FnExactHasReset : An := {  }
noncomputable def L_laws_FnExactHasReset : Lam := Lam.nil
theorem h_laws_FnExactHasReset : ∀ c ∈ loopsOf (Try.f7.body.getD .skip), LOk E g_laws_FnExactHasReset n_laws_FnExactHasReset L_laws_FnExactHasReset c := by
  have e : loopsOf (Try.f7.body.getD .skip) = [] := by kernel_rfl
  rw [e]; simp
theorem ok_laws_FnExactHasReset : FnOk Try.prog 7 e_laws_FnExactHasReset := FnOk.of (fnOk S_laws_FnExactHasReset Try.func7 (by kernel_rfl) h_laws_FnExactHasReset) (fun a => by kernel_rfl)
@[reducible] def s_laws_FnExactActOk : List PS := [.data true TAct]
@[reducible] def r_laws_FnExactActOk : List (Bool × FT) := [(false, .bool)]
noncomputable def F_laws_FnExactActOk (a : Args s_laws_FnExactActOk) : Option (resD r_laws_FnExactActOk) := Pu.laws_FnExactActOk a.1
noncomputable def e_laws_FnExactActOk : GEnt := entOf s_laws_FnExactActOk r_laws_FnExactActOk F_laws_FnExactActOk
noncomputable def g_laws_FnExactActOk : Gam := ((((Gam.nil).add 9 e_laws_szAct).add 10 e_spec_ActOk).add 11 e_laws_toAct).add 12 e_impl_ActOk
theorem S_laws_FnExactActOk : Sound Try.prog E g_laws_FnExactActOk := ((((base).add ok_laws_szAct).add ok_spec_ActOk).add ok_laws_toAct).add ok_impl_ActOk
def n_laws_FnExactActOk : An := {  }
noncomputable def L_laws_FnExactActOk : Lam := Lam.nil
theorem h_laws_FnExactActOk : ∀ c ∈ loopsOf (Try.f3.body.getD .skip), LOk E g_laws_FnExactActOk n_laws_FnExactActOk L_laws_FnExactActOk c := by
  have e : loopsOf (Try.f3.body.getD .skip) = [] := by kernel_rfl
  rw [e]; simp
theorem ok_laws_FnExactActOk : FnOk Try.prog 3 e_laws_FnExactActOk := FnOk.of (fnOk S_laws_FnExactActOk Try.func3 (by kernel_rfl) h_laws_FnExactActOk) (fun a => by kernel_rfl)
@[reducible] def s_laws_szStringS : List PS := [.data false (.sl .str), .data false (.int .i64)]
@[reducible] def r_laws_szStringS : List (Bool × FT) := [(false, (.int .i64))]
noncomputable def F_laws_szStringS (a : Args s_laws_szStringS) : Option (resD r_laws_szStringS) := Pu.laws_szStringS a.1 a.2.1
noncomputable def e_laws_szStringS : GEnt := entOf s_laws_szStringS r_laws_szStringS F_laws_szStringS
noncomputable def g_laws_szStringS : Gam := Gam.nil
theorem S_laws_szStringS : Sound Try.prog E g_laws_szStringS := base
def n_laws_szStringS : An := { mask := fun | 5 => [0, 1, 4, 5] | _ => [] }
@[reducible] def d_laws_szStringS_5 : SD := ⟨[.data false (.sl .arg .str), .data false (.int .i64), .bot, .bot, .data false (.int .i64), .data false (.int .i64), .bot, .bot, .bot, .bot, .bot, .bot, .bot, .bot, .bot, .bot, .bot, .bot, .bot, .bot, .bot, .bot, .bot, .bot, .bot, .bot, .bot, .bot], [none, none, none, none, none, none, none, none, none, none, none, none, none, none, none, none, none, none, none, none, none, none, none, none, none, none, none, none], none⟩
@[reducible] def d_laws_szStringS_5_x0 : SD := ⟨[.data false (.sl .arg .str), .data false (.int .i64), .bot, .bot, .data false (.int .i64), .data false (.int .i64), .bot, .bot, .bot, .bot, .bot, .bot, .bot, .bot, .bot, .bot, .bot, .bot, .bot, .bot, .bot, .bot, .bot, .bot, .bot, .bot, .bot, .bot], [none, none, none, none, none, none, none, none, none, none, none, none, none, none, none, none, none, none, none, none, none, none, none, none, none, none, none, none], none⟩
@[reducible] def d_laws_szStringS_5_ret : SD := ⟨[.data false (.sl .arg .str), .data false (.int .i64), .bot, .bot, .data false (.int .i64), .data false (.int .i64), .bot, .bot, .bot, .bot, .bot, .bot, .bot, .bot, .bot, .bot, .bot, .bot, .bot, .bot, .bot, .bot, .bot, .bot, .bot, .bot, .bot, .bot], [none, none, none, none, none, none, none, none, none, none, none, none, none, none, none, none, none, none, none, none, none, none, none, none, none, none, none, none], none⟩
noncomputable def l_laws_szStringS_5 : LEnt := ⟨d_laws_szStringS_5, fun X K => iterL (Pu.laws_szStringS_T5 (fun y0 y1 => K (.exit 0) (SD.enc d_laws_szStringS_5_x0 (((X.1.1), (y0, ((X.1.2.2.1), (y1, ())))), (), ()))) (fun y0 y1 y2 => K .ret (SD.enc d_laws_szStringS_5_ret (((X.1.1), (y0, (y1, (y2, ())))), (), ()))) X.1.1 X.1.2.2.1) fuel (X.1.2.1, X.1.2.2.2.1)⟩
noncomputable def L_laws_szStringS : Lam := (Lam.nil).add 5 l_laws_szStringS_5
theorem lok_laws_szStringS_5 : LOk E g_laws_szStringS n_laws_szStringS L_laws_szStringS (loopBody Try.f47 0) :=
  lok l_laws_szStringS_5 (by kernel_rfl) fuel fun R X K => (loop_iter (σ := Int × Int) (fun x => SD.enc d_laws_szStringS_5 ((X.1.1, (x.1, (X.1.2.2.1, (x.2, ())))), (), ())) (Pu.laws_szStringS_T5 (fun y0 y1 => K (.exit 0) (SD.enc d_laws_szStringS_5_x0 (((X.1.1), (y0, ((X.1.2.2.1), (y1, ())))), (), ()))) (fun y0 y1 y2 => K .ret (SD.enc d_laws_szStringS_5_ret (((X.1.1), (y0, (y1, (y2, ())))), (), ()))) X.1.1 X.1.2.2.1) (fun m x => by kernel_rfl) fuel (X.1.2.1, X.1.2.2.2.1)).symm
theorem h_laws_szStringS : ∀ c ∈ loopsOf (Try.f47.body.getD .skip), LOk E g_laws_szStringS n_laws_szStringS L_laws_szStringS c := by
  have e : loopsOf (Try.f47.body.getD .skip) = [loopBody Try.f47 0] := by kernel_rfl
  rw [e]; simp only [List.forall_mem_cons]; exact ⟨lok_laws_szStringS_5, by simp⟩
theorem ok_laws_szStringS : FnOk Try.prog 47 e_laws_szStringS := FnOk.of (fnOk S_laws_szStringS Try.func47 (by kernel_rfl) h_laws_szStringS) (fun a => by kernel_rfl)
@[reducible] def s_laws_szMemory : List PS := [.data true (.sl .str), .data false (.int .i64)]
@[reducible] def r_laws_szMemory : List (Bool × FT) := [(false, (.int .i64))]
noncomputable def F_laws_szMemory (a : Args s_laws_szMemory) : Option (resD r_laws_szMemory) := Pu.laws_szMemory a.1 a.2.1
noncomputable def e_laws_szMemory : GEnt := entOf s_laws_szMemory r_laws_szMemory F_laws_szMemory
noncomputable def g_laws_szMemory : Gam := (Gam.nil).add 47 e_laws_szStringS
theorem S_laws_szMemory : Sound Try.prog E g_laws_szMemory := (base).add ok_laws_szStringS
def n_laws_szMemory : An := {  }
noncomputable def L_laws_szMemory : Lam := Lam.nil
theorem h_laws_szMemory : ∀ c ∈ loopsOf (Try.f18.body.getD .skip), LOk E g_laws_szMemory n_laws_szMemory L_laws_szMemory c := by
  have e : loopsOf (Try.f18.body.getD .skip) = [] := by kernel_rfl
  rw [e]; simp
theorem ok_laws_szMemory : FnOk Try.prog 18 e_laws_szMemory := FnOk.of (fnOk S_laws_szMemory Try.func18 (by kernel_rfl) h_laws_szMemory) (fun a => by kernel_rfl)
@[reducible] def s_spec_l16Copy : List PS := [.data true (.sl .str)]
@[reducible] def r_spec_l16Copy : List (Bool × FT) := [(true, (.sl (.own none) .str))]
noncomputable def F_spec_l16Copy (a : Args s_spec_l16Copy) : Option (resD r_spec_l16Copy) := Pu.spec_l16Copy a.1
noncomputable def e_spec_l16Copy : GEnt := entOf s_spec_l16Copy r_spec_l16Copy F_spec_l16Copy
noncomputable def g_spec_l16Copy : Gam := Gam.nil
theorem S_spec_l16Copy : Sound Try.prog E g_spec_l16Copy := base
def n_spec_l16Copy : An := {  }
noncomputable def L_spec_l16Copy : Lam := Lam.nil
theorem h_spec_l16Copy : ∀ c ∈ loopsOf (Try.f48.body.getD .skip), LOk E g_spec_l16Copy n_spec_l16Copy L_spec_l16Copy c := by
  have e : loopsOf (Try.f48.body.getD .skip) = [] := by kernel_rfl
  rw [e]; simp
theorem ok_spec_l16Copy : FnOk Try.prog 48 e_spec_l16Copy := FnOk.of (fnOk S_spec_l16Copy Try.func48 (by kernel_rfl) h_spec_l16Copy) (fun a => by kernel_rfl)
@[reducible] def s_spec_StartMove : List PS := [.data true (.sl .str)]
@[reducible] def r_spec_StartMove : List (Bool × FT) := [(true, (.pair (.sl (.own none) .str) (.pair (.sl (.own none) (.int .i64)) (.int .i64))))]
noncomputable def F_spec_StartMove (a : Args s_spec_StartMove) : Option (resD r_spec_StartMove) := Pu.spec_StartMove a.1
noncomputable def e_spec_StartMove : GEnt := entOf s_spec_StartMove r_spec_StartMove F_spec_StartMove
noncomputable def g_spec_StartMove : Gam := (Gam.nil).add 48 e_spec_l16Copy
theorem S_spec_StartMove : Sound Try.prog E g_spec_StartMove := (base).add ok_spec_l16Copy
def n_spec_StartMove : An := {  }
noncomputable def L_spec_StartMove : Lam := Lam.nil
theorem h_spec_StartMove : ∀ c ∈ loopsOf (Try.f19.body.getD .skip), LOk E g_spec_StartMove n_spec_StartMove L_spec_StartMove c := by
  have e : loopsOf (Try.f19.body.getD .skip) = [] := by kernel_rfl
  rw [e]; simp
theorem ok_spec_StartMove : FnOk Try.prog 19 e_spec_StartMove := FnOk.of (fnOk S_spec_StartMove Try.func19 (by kernel_rfl) h_spec_StartMove) (fun a => by kernel_rfl)
@[reducible] def s_laws_toStringS : List PS := [.data false (.sl .str)]
@[reducible] def r_laws_toStringS : List (Bool × FT) := [(false, (.sl (.own none) .str))]
noncomputable def F_laws_toStringS (a : Args s_laws_toStringS) : Option (resD r_laws_toStringS) := Pu.laws_toStringS a.1
noncomputable def e_laws_toStringS : GEnt := entOf s_laws_toStringS r_laws_toStringS F_laws_toStringS
noncomputable def g_laws_toStringS : Gam := Gam.nil
theorem S_laws_toStringS : Sound Try.prog E g_laws_toStringS := base
def n_laws_toStringS : An := { mask := fun | 3 => [0, 3, 4] | _ => [], mv := [21] }
@[reducible] def d_laws_toStringS_3 : SD := ⟨[.data false (.sl .arg .str), .bot, .bot, .data false (.sl (.own (some 36864)) .str), .data false (.int .i64), .bot, .bot, .bot, .bot, .bot, .bot, .bot, .bot, .bot, .bot, .bot, .bot, .bot, .bot, .bot, .bot, .bot], [none, none, none, none, none, none, none, none, none, none, none, none, none, none, none, none, none, none, none, none, none, none], none⟩
@[reducible] def d_laws_toStringS_3_x0 : SD := ⟨[.data false (.sl .arg .str), .bot, .bot, .data false (.sl (.own (some 36864)) .str), .data false (.int .i64), .bot, .bot, .bot, .bot, .bot, .bot, .bot, .bot, .bot, .bot, .bot, .bot, .bot, .bot, .bot, .bot, .bot], [none, none, none, none, none, none, none, none, none, none, none, none, none, none, none, none, none, none, none, none, none, none], none⟩
noncomputable def l_laws_toStringS_3 : LEnt := ⟨d_laws_toStringS_3, fun X K => iterL (Pu.laws_toStringS_T3 (fun y0 y1 => K (.exit 0) (SD.enc d_laws_toStringS_3_x0 (((X.1.1), (y0, (y1, ()))), (), ()))) X.1.1) fuel (X.1.2.1, X.1.2.2.1)⟩
noncomputable def L_laws_toStringS : Lam := (Lam.nil).add 3 l_laws_toStringS_3
theorem lok_laws_toStringS_3 : LOk E g_laws_toStringS n_laws_toStringS L_laws_toStringS (loopBody Try.f49 0) :=
  lok l_laws_toStringS_3 (by kernel_rfl) fuel fun R X K => (loop_iter (σ := (List Pu.Bytes) × Int) (fun x => SD.enc d_laws_toStringS_3 ((X.1.1, (x.1, (x.2, ()))), (), ())) (Pu.laws_toStringS_T3 (fun y0 y1 => K (.exit 0) (SD.enc d_laws_toStringS_3_x0 (((X.1.1), (y0, (y1, ()))), (), ()))) X.1.1) (fun m x => by kernel_rfl) fuel (X.1.2.1, X.1.2.2.1)).symm
theorem h_laws_toStringS : ∀ c ∈ loopsOf (Try.f49.body.getD .skip), LOk E g_laws_toStringS n_laws_toStringS L_laws_toStringS c := by
  have e : loopsOf (Try.f49.body.getD .skip) = [loopBody Try.f49 0] := by kernel_rfl
  rw [e]; simp only [List.forall_mem_cons]; exact ⟨lok_laws_toStringS_3, by simp⟩
theorem ok_laws_toStringS : FnOk Try.prog 49 e_laws_toStringS := FnOk.of (fnOk S_laws_toStringS Try.func49 (by kernel_rfl) h_laws_toStringS) (fun a => by kernel_rfl)
@[reducible] def s_laws_toMemory : List PS := [.data true (.sl .str)]
@[reducible] def r_laws_toMemory : List (Bool × FT) := [(true, (.sl (.own none) .str))]
noncomputable def F_laws_toMemory (a : Args s_laws_toMemory) : Option (resD r_laws_toMemory) := Pu.laws_toMemory a.1
noncomputable def e_laws_toMemory : GEnt := entOf s_laws_toMemory r_laws_toMemory F_laws_toMemory
noncomputable def g_laws_toMemory : Gam := (Gam.nil).add 49 e_laws_toStringS
theorem S_laws_toMemory : Sound Try.prog E g_laws_toMemory := (base).add ok_laws_toStringS
def n_laws_toMemory : An := { mv := [8] }
noncomputable def L_laws_toMemory : Lam := Lam.nil
theorem h_laws_toMemory : ∀ c ∈ loopsOf (Try.f20.body.getD .skip), LOk E g_laws_toMemory n_laws_toMemory L_laws_toMemory c := by
  have e : loopsOf (Try.f20.body.getD .skip) = [] := by kernel_rfl
  rw [e]; simp
theorem ok_laws_toMemory : FnOk Try.prog 20 e_laws_toMemory := FnOk.of (fnOk S_laws_toMemory Try.func20 (by kernel_rfl) h_laws_toMemory) (fun a => by kernel_rfl)
@[reducible] def s_impl_copyStrings : List PS := [.data false (.sl .str)]
@[reducible] def r_impl_copyStrings : List (Bool × FT) := [(false, (.sl (.own none) .str))]
noncomputable def F_impl_copyStrings (a : Args s_impl_copyStrings) : Option (resD r_impl_copyStrings) := Pu.impl_copyStrings a.1
noncomputable def e_impl_copyStrings : GEnt := entOf s_impl_copyStrings r_impl_copyStrings F_impl_copyStrings
noncomputable def g_impl_copyStrings : Gam := Gam.nil
theorem S_impl_copyStrings : Sound Try.prog E g_impl_copyStrings := base
def n_impl_copyStrings : An := {  }
noncomputable def L_impl_copyStrings : Lam := Lam.nil
theorem h_impl_copyStrings : ∀ c ∈ loopsOf (Try.f73.body.getD .skip), LOk E g_impl_copyStrings n_impl_copyStrings L_impl_copyStrings c := by
  have e : loopsOf (Try.f73.body.getD .skip) = [] := by kernel_rfl
  rw [e]; simp
theorem ok_impl_copyStrings : FnOk Try.prog 73 e_impl_copyStrings := FnOk.of (fnOk S_impl_copyStrings Try.func73 (by kernel_rfl) h_impl_copyStrings) (fun a => by kernel_rfl)
@[reducible] def s_impl_copyMemory : List PS := [.data true (.sl .str)]
@[reducible] def r_impl_copyMemory : List (Bool × FT) := [(true, (.sl (.own none) .str))]
noncomputable def F_impl_copyMemory (a : Args s_impl_copyMemory) : Option (resD r_impl_copyMemory) := Pu.impl_copyMemory a.1
noncomputable def e_impl_copyMemory : GEnt := entOf s_impl_copyMemory r_impl_copyMemory F_impl_copyMemory
noncomputable def g_impl_copyMemory : Gam := (Gam.nil).add 73 e_impl_copyStrings
theorem S_impl_copyMemory : Sound Try.prog E g_impl_copyMemory := (base).add ok_impl_copyStrings
def n_impl_copyMemory : An := {  }
noncomputable def L_impl_copyMemory : Lam := Lam.nil
theorem h_impl_copyMemory : ∀ c ∈ loopsOf (Try.f50.body.getD .skip), LOk E g_impl_copyMemory n_impl_copyMemory L_impl_copyMemory c := by
  have e : loopsOf (Try.f50.body.getD .skip) = [] := by kernel_rfl
  rw [e]; simp
theorem ok_impl_copyMemory : FnOk Try.prog 50 e_impl_copyMemory := FnOk.of (fnOk S_impl_copyMemory Try.func50 (by kernel_rfl) h_impl_copyMemory) (fun a => by kernel_rfl)
@[reducible] def s_impl_StartMove : List PS := [.data true (.sl .str)]
@[reducible] def r_impl_StartMove : List (Bool × FT) := [(true, (.pair (.sl (.own none) .str) (.pair (.sl (.own none) (.int .i64)) (.int .i64))))]
noncomputable def F_impl_StartMove (a : Args s_impl_StartMove) : Option (resD r_impl_StartMove) := Pu.impl_StartMove a.1
noncomputable def e_impl_StartMove : GEnt := entOf s_impl_StartMove r_impl_StartMove F_impl_StartMove
noncomputable def g_impl_StartMove : Gam := (Gam.nil).add 50 e_impl_copyMemory
theorem S_impl_StartMove : Sound Try.prog E g_impl_StartMove := (base).add ok_impl_copyMemory
def n_impl_StartMove : An := {  }
noncomputable def L_impl_StartMove : Lam := Lam.nil
theorem h_impl_StartMove : ∀ c ∈ loopsOf (Try.f21.body.getD .skip), LOk E g_impl_StartMove n_impl_StartMove L_impl_StartMove c := by
  have e : loopsOf (Try.f21.body.getD .skip) = [] := by kernel_rfl
  rw [e]; simp
theorem ok_impl_StartMove : FnOk Try.prog 21 e_impl_StartMove := FnOk.of (fnOk S_impl_StartMove Try.func21 (by kernel_rfl) h_impl_StartMove) (fun a => by kernel_rfl)
@[reducible] def s_laws_eqStringS : List PS := [.data false (.sl .str), .data false (.sl .str)]
@[reducible] def r_laws_eqStringS : List (Bool × FT) := [(false, .bool)]
noncomputable def F_laws_eqStringS (a : Args s_laws_eqStringS) : Option (resD r_laws_eqStringS) := Pu.laws_eqStringS a.1 a.2.1
noncomputable def e_laws_eqStringS : GEnt := entOf s_laws_eqStringS r_laws_eqStringS F_laws_eqStringS
noncomputable def g_laws_eqStringS : Gam := Gam.nil
theorem S_laws_eqStringS : Sound Try.prog E g_laws_eqStringS := base
def n_laws_eqStringS : An := { mask := fun | 4 => [0, 1, 4, 5] | _ => [] }
@[reducible] def d_laws_eqStringS_4 : SD := ⟨[.data false (.sl .arg .str), .data false (.sl .arg .str), .bot, .bot, .data false .bool, .data false (.int .i64), .bot, .bot, .bot, .bot, .bot, .bot, .bot, .bot, .bot, .bot, .bot, .bot, .bot, .bot, .bot, .bot, .bot, .bot, .bot, .bot], [none, none, none, none, none, none, none, none, none, none, none, none, none, none, none, none, none, none, none, none, none, none, none, none, none, none], none⟩
@[reducible] def d_laws_eqStringS_4_x0 : SD := ⟨[.data false (.sl .arg .str), .data false (.sl .arg .str), .bot, .bot, .data false .bool, .data false (.int .i64), .bot, .bot, .bot, .bot, .bot, .bot, .bot, .bot, .bot, .bot, .bot, .bot, .bot, .bot, .bot, .bot, .bot, .bot, .bot, .bot], [none, none, none, none, none, none, none, none, none, none, none, none, none, none, none, none, none, none, none, none, none, none, none, none, none, none], none⟩
@[reducible] def d_laws_eqStringS_4_ret : SD := ⟨[.data false (.sl .arg .str), .data false (.sl .arg .str), .bot, .bot, .data false .bool, .data false (.int .i64), .bot, .bot, .bot, .bot, .bot, .bot, .bot, .bot, .bot, .bot, .bot, .bot, .bot, .bot, .bot, .bot, .bot, .bot, .bot, .bot], [none, none, none, none, none, none, none, none, none, none, none, none, none, none, none, none, none, none, none, none, none, none, none, none, none, none], none⟩
noncomputable def l_laws_eqStringS_4 : LEnt := ⟨d_laws_eqStringS_4, fun X K => iterL (Pu.laws_eqStringS_T4 (fun y0 => K (.exit 0) (SD.enc d_laws_eqStringS_4_x0 (((X.1.1), ((X.1.2.1), ((X.1.2.2.1), (y0, ())))), (), ()))) (fun y0 y1 => K .ret (SD.enc d_laws_eqStringS_4_ret (((X.1.1), ((X.1.2.1), (y0, (y1, ())))), (), ()))) X.1.1 X.1.2.1 X.1.2.2.1) fuel X.1.2.2.2.1⟩
noncomputable def L_laws_eqStringS : Lam := (Lam.nil).add 4 l_laws_eqStringS_4
theorem lok_laws_eqStringS_4 : LOk E g_laws_eqStringS n_laws_eqStringS L_laws_eqStringS (loopBody Try.f52 0) :=
  lok l_laws_eqStringS_4 (by kernel_rfl) fuel fun R X K => (loop_iter (σ := Int) (fun x => SD.enc d_laws_eqStringS_4 ((X.1.1, (X.1.2.1, (X.1.2.2.1, (x, ())))), (), ())) (Pu.laws_eqStringS_T4 (fun y0 => K (.exit 0) (SD.enc d_laws_eqStringS_4_x0 (((X.1.1), ((X.1.2.1), ((X.1.2.2.1), (y0, ())))), (), ()))) (fun y0 y1 => K .ret (SD.enc d_laws_eqStringS_4_ret (((X.1.1), ((X.1.2.1), (y0, (y1, ())))), (), ()))) X.1.1 X.1.2.1 X.1.2.2.1) (fun m x => by kernel_rfl) fuel X.1.2.2.2.1).symm
theorem h_laws_eqStringS : ∀ c ∈ loopsOf (Try.f52.body.getD .skip), LOk E g_laws_eqStringS n_laws_eqStringS L_laws_eqStringS c := by
  have e : loopsOf (Try.f52.body.getD .skip) = [loopBody Try.f52 0] := by kernel_rfl
  rw [e]; simp only [List.forall_mem_cons]; exact ⟨lok_laws_eqStringS_4, by simp⟩
theorem ok_laws_eqStringS : FnOk Try.prog 52 e_laws_eqStringS := FnOk.of (fnOk S_laws_eqStringS Try.func52 (by kernel_rfl) h_laws_eqStringS) (fun a => by kernel_rfl)
@[reducible] def s_laws_eqMemory : List PS := [.data true (.sl .str), .data true (.sl .str)]
@[reducible] def r_laws_eqMemory : List (Bool × FT) := [(false, .bool)]
noncomputable def F_laws_eqMemory (a : Args s_laws_eqMemory) : Option (resD r_laws_eqMemory) := Pu.laws_eqMemory a.1 a.2.1
noncomputable def e_laws_eqMemory : GEnt := entOf s_laws_eqMemory r_laws_eqMemory F_laws_eqMemory
noncomputable def g_laws_eqMemory : Gam := (Gam.nil).add 52 e_laws_eqStringS
theorem S_laws_eqMemory : Sound Try.prog E g_laws_eqMemory := (base).add ok_laws_eqStringS
def n_laws_eqMemory : An := {  }
noncomputable def L_laws_eqMemory : Lam := Lam.nil
theorem h_laws_eqMemory : ∀ c ∈ loopsOf (Try.f23.body.getD .skip), LOk E g_laws_eqMemory n_laws_eqMemory L_laws_eqMemory c := by
  have e : loopsOf (Try.f23.body.getD .skip) = [] := by kernel_rfl
  rw [e]; simp
theorem ok_laws_eqMemory : FnOk Try.prog 23 e_laws_eqMemory := FnOk.of (fnOk S_laws_eqMemory Try.func23 (by kernel_rfl) h_laws_eqMemory) (fun a => by kernel_rfl)
@[reducible] def s_laws_eqIntS : List PS := [.data false (.sl (.int .i64)), .data false (.sl (.int .i64))]
@[reducible] def r_laws_eqIntS : List (Bool × FT) := [(false, .bool)]
noncomputable def F_laws_eqIntS (a : Args s_laws_eqIntS) : Option (resD r_laws_eqIntS) := Pu.laws_eqIntS a.1 a.2.1
noncomputable def e_laws_eqIntS : GEnt := entOf s_laws_eqIntS r_laws_eqIntS F_laws_eqIntS
noncomputable def g_laws_eqIntS : Gam := Gam.nil
theorem S_laws_eqIntS : Sound Try.prog E g_laws_eqIntS := base
def n_laws_eqIntS : An := { mask := fun | 4 => [0, 1, 4, 5] | _ => [] }
@[reducible] def d_laws_eqIntS_4 : SD := ⟨[.data false (.sl .arg (.int .i64)), .data false (.sl .arg (.int .i64)), .bot, .bot, .data false .bool, .data false (.int .i64), .bot, .bot, .bot, .bot, .bot, .bot, .bot, .bot, .bot, .bot, .bot, .bot, .bot, .bot, .bot, .bot, .bot, .bot, .bot, .bot], [none, none, none, none, none, none, none, none, none, none, none, none, none, none, none, none, none, none, none, none, none, none, none, none, none, none], none⟩
@[reducible] def d_laws_eqIntS_4_x0 : SD := ⟨[.data false (.sl .arg (.int .i64)), .data false (.sl .arg (.int .i64)), .bot, .bot, .data false .bool, .data false (.int .i64), .bot, .bot, .bot, .bot, .bot, .bot, .bot, .bot, .bot, .bot, .bot, .bot, .bot, .bot, .bot, .bot, .bot, .bot, .bot, .bot], [none, none, none, none, none, none, none, none, none, none, none, none, none, none, none, none, none, none, none, none, none, none, none, none, none, none], none⟩
@[reducible] def d_laws_eqIntS_4_ret : SD := ⟨[.data false (.sl .arg (.int .i64)), .data false (.sl .arg (.int .i64)), .bot, .bot, .data false .bool, .data false (.int .i64), .bot, .bot, .bot, .bot, .bot, .bot, .bot, .bot, .bot, .bot, .bot, .bot, .bot, .bot, .bot, .bot, .bot, .bot, .bot, .bot], [none, none, none, none, none, none, none, none, none, none, none, none, none, none, none, none, none, none, none, none, none, none, none, none, none, none], none⟩
noncomputable def l_laws_eqIntS_4 : LEnt := ⟨d_laws_eqIntS_4, fun X K => iterL (Pu.laws_eqIntS_T4 (fun y0 => K (.exit 0) (SD.enc d_laws_eqIntS_4_x0 (((X.1.1), ((X.1.2.1), ((X.1.2.2.1), (y0, ())))), (), ()))) (fun y0 y1 => K .ret (SD.enc d_laws_eqIntS_4_ret (((X.1.1), ((X.1.2.1), (y0, (y1, ())))), (), ()))) X.1.1 X.1.2.1 X.1.2.2.1) fuel X.1.2.2.2.1⟩
noncomputable def L_laws_eqIntS : Lam := (Lam.nil).add 4 l_laws_eqIntS_4
theorem lok_laws_eqIntS_4 : LOk E g_laws_eqIntS n_laws_eqIntS L_laws_eqIntS (loopBody Try.f51 0) :=
  lok l_laws_eqIntS_4 (by kernel_rfl) fuel fun R X K => (loop_iter (σ := Int) (fun x => SD.enc d_laws_eqIntS_4 ((X.1.1, (X.1.2.1, (X.1.2.2.1, (x, ())))), (), ())) (Pu.laws_eqIntS_T4 (fun y0 => K (.exit 0) (SD.enc d_laws_eqIntS_4_x0 (((X.1.1), ((X.1.2.1), ((X.1.2.2.1), (y0, ())))), (), ()))) (fun y0 y1 => K .ret (SD.enc d_laws_eqIntS_4_ret (((X.1.1), ((X.1.2.1), (y0, (y1, ())))), (), ()))) X.1.1 X.1.2.1 X.1.2.2.1) (fun m x => by kernel_rfl) fuel X.1.2.2.2.1).symm
theorem h_laws_eqIntS : ∀ c ∈ loopsOf (Try.f51.body.getD .skip), LOk E g_laws_eqIntS n_laws_eqIntS L_laws_eqIntS c := by
  have e : loopsOf (Try.f51.body.getD .skip) = [loopBody Try.f51 0] := by kernel_rfl
  rw [e]; simp only [List.forall_mem_cons]; exact ⟨lok_laws_eqIntS_4, by simp⟩
theorem ok_laws_eqIntS : FnOk Try.prog 51 e_laws_eqIntS := FnOk.of (fnOk S_laws_eqIntS Try.func51 (by kernel_rfl) h_laws_eqIntS) (fun a => by kernel_rfl)
@[reducible] def s_laws_eqMove : List PS := [.data true TMove, .data true TMove]
@[reducible] def r_laws_eqMove : List (Bool × FT) := [(false, .bool)]
noncomputable def F_laws_eqMove (a : Args s_laws_eqMove) : Option (resD r_laws_eqMove) := Pu.laws_eqMove a.1 a.2.1
noncomputable def e_laws_eqMove : GEnt := entOf s_laws_eqMove r_laws_eqMove F_laws_eqMove
noncomputable def g_laws_eqMove : Gam := ((Gam.nil).add 23 e_laws_eqMemory).add 51 e_laws_eqIntS
theorem S_laws_eqMove : Sound Try.prog E g_laws_eqMove := ((base).add ok_laws_eqMemory).add ok_laws_eqIntS
def n_laws_eqMove : An := {  }
noncomputable def L_laws_eqMove : Lam := Lam.nil
theorem h_laws_eqMove : ∀ c ∈ loopsOf (Try.f22.body.getD .skip), LOk E g_laws_eqMove n_laws_eqMove L_laws_eqMove c := by
  have e : loopsOf (Try.f22.body.getD .skip) = [] := by kernel_rfl
  rw [e]; simp
theorem ok_laws_eqMove : FnOk Try.prog 22 e_laws_eqMove := FnOk.of (fnOk S_laws_eqMove Try.func22 (by kernel_rfl) h_laws_eqMove) (fun a => by kernel_rfl)
@[reducible] def s_laws_markText : List PS := [.data false (.int .i64)]
@[reducible] def r_laws_markText : List (Bool × FT) := [(false, .str)]
noncomputable def F_laws_markText (a : Args s_laws_markText) : Option (resD r_laws_markText) := Pu.laws_markText a.1
noncomputable def e_laws_markText : GEnt := entOf s_laws_markText r_laws_markText F_laws_markText
noncomputable def g_laws_markText : Gam := Gam.nil
theorem S_laws_markText : Sound Try.prog E g_laws_markText := base
def n_laws_markText : An := { mask := fun | 4 => [0, 3] | _ => [] }
@[reducible] def d_laws_markText_4 : SD := ⟨[.data false (.int .i64), .bot, .bot, .data false .str, .bot, .bot, .bot, .bot, .bot, .bot, .bot, .bot, .bot, .bot, .bot, .bot, .bot, .bot, .bot, .bot], [none, none, none, none, none, none, none, none, none, none, none, none, none, none, none, none, none, none, none, none], none⟩
@[reducible] def d_laws_markText_4_x0 : SD := ⟨[.data false (.int .i64), .bot, .bot, .data false .str, .bot, .bot, .bot, .bot, .bot, .bot, .bot, .bot, .bot, .bot, .bot, .bot, .bot, .bot, .bot, .bot], [none, none, none, none, none, none, none, none, none, none, none, none, none, none, none, none, none, none, none, none], none⟩
noncomputable def l_laws_markText_4 : LEnt := ⟨d_laws_markText_4, fun X K => iterL (Pu.laws_markText_T4 (fun y0 y1 => K (.exit 0) (SD.enc d_laws_markText_4_x0 ((y0, (y1, ())), (), ()))) ) fuel (X.1.1, X.1.2.1)⟩
noncomputable def L_laws_markText : Lam := (Lam.nil).add 4 l_laws_markText_4
theorem lok_laws_markText_4 : LOk E g_laws_markText n_laws_markText L_laws_markText (loopBody Try.f74 0) :=
  lok l_laws_markText_4 (by kernel_rfl) fuel fun R X K => (loop_iter (σ := Int × Pu.Bytes) (fun x => SD.enc d_laws_markText_4 ((x.1, (x.2, ())), (), ())) (Pu.laws_markText_T4 (fun y0 y1 => K (.exit 0) (SD.enc d_laws_markText_4_x0 ((y0, (y1, ())), (), ()))) ) (fun m x => by kernel_rfl) fuel (X.1.1, X.1.2.1)).symm
theorem h_laws_markText : ∀ c ∈ loopsOf (Try.f74.body.getD .skip), LOk E g_laws_markText n_laws_markText L_laws_markText c := by
  have e : loopsOf (Try.f74.body.getD .skip) = [loopBody Try.f74 0] := by kernel_rfl
  rw [e]; simp only [List.forall_mem_cons]; exact ⟨lok_laws_markText_4, by simp⟩
theorem ok_laws_markText : FnOk Try.prog 74 e_laws_markText := FnOk.of (fnOk S_laws_markText Try.func74 (by kernel_rfl) h_laws_markText) (fun a => by kernel_rfl)
@[reducible] def s_laws_markStringS : List PS := [.data false (.int .i64)]
@[reducible] def r_laws_markStringS : List (Bool × FT) := [(false, (.int .i64))]
noncomputable def F_laws_markStringS (x : ((.sl .str) : CT).D) (a : Args s_laws_markStringS) : Option (resD r_laws_markStringS × ((.sl .str) : CT).D) := Pu.laws_markStringS x a.1
noncomputable def e_laws_markStringS : GEnt := entIo (.sl .str) false s_laws_markStringS r_laws_markStringS F_laws_markStringS
noncomputable def g_laws_markStringS : Gam := (Gam.nil).add 74 e_laws_markText
theorem S_laws_markStringS : Sound Try.prog E g_laws_markStringS := (base).add ok_laws_markText
def n_laws_markStringS : An := { mask := fun | 2 => [0, 1, 5] | _ => [] }
@[reducible] def d_laws_markStringS_2 : SD := ⟨[.data false (.sl (.lio 0 12288036864) .str), .data false (.int .i64), .bot, .bot, .bot, .data false (.int .i64), .bot, .bot, .bot, .bot, .bot, .bot, .bot, .bot, .bot, .bot, .bot, .bot, .bot, .bot], [none, none, none, none, none, none, none, none, none, none, none, none, none, none, none, none, none, none, none, none], some (.sl (.own (some 12288036864)) .str)⟩
@[reducible] def d_laws_markStringS_2_x0 : SD := ⟨[.data false (.sl (.lio 0 12288036864) .str), .data false (.int .i64), .bot, .bot, .bot, .data false (.int .i64), .bot, .bot, .bot, .bot, .bot, .bot, .bot, .bot, .bot, .bot, .bot, .bot, .bot, .bot], [none, none, none, none, none, none, none, none, none, none, none, none, none, none, none, none, none, none, none, none], some (.sl (.own (some 12288036864)) .str)⟩
noncomputable def l_laws_markStringS_2 : LEnt := ⟨d_laws_markStringS_2, fun X K => iterL (Pu.laws_markStringS_T2 (fun y0 y1 y2 y3 => K (.exit 0) (SD.enc d_laws_markStringS_2_x0 ((y0, (y1, (y2, ()))), (), y3))) ) fuel (X.1.1, X.1.2.1, X.1.2.2.1, X.2.2)⟩
noncomputable def L_laws_markStringS : Lam := (Lam.nil).add 2 l_laws_markStringS_2
theorem lok_laws_markStringS_2 : LOk E g_laws_markStringS n_laws_markStringS L_laws_markStringS (loopBody Try.f53 0) :=
  lok l_laws_markStringS_2 (by kernel_rfl) fuel fun R X K => (loop_iter (σ := (List Pu.Bytes) × Int × Int × List Pu.Bytes) (fun x => SD.enc d_laws_markStringS_2 ((x.1, (x.2.1, (x.2.2.1, ()))), (), x.2.2.2)) (Pu.laws_markStringS_T2 (fun y0 y1 y2 y3 => K (.exit 0) (SD.enc d_laws_markStringS_2_x0 ((y0, (y1, (y2, ()))), (), y3))) ) (fun m x => by kernel_rfl) fuel (X.1.1, X.1.2.1, X.1.2.2.1, X.2.2)).symm
theorem h_laws_markStringS : ∀ c ∈ loopsOf (Try.f53.body.getD .skip), LOk E g_laws_markStringS n_laws_markStringS L_laws_markStringS c := by
  have e : loopsOf (Try.f53.body.getD .skip) = [loopBody Try.f53 0] := by kernel_rfl
  rw [e]; simp only [List.forall_mem_cons]; exact ⟨lok_laws_markStringS_2, by simp⟩
theorem ok_laws_markStringS : FnOk Try.prog 53 e_laws_markStringS := FnOk.ofIo (fnIo S_laws_markStringS Try.func53 (by kernel_rfl) h_laws_markStringS) (fun x a => by kernel_rfl)
@[reducible] def s_laws_markMemory : List PS := [.data false (.int .i64)]
@[reducible] def r_laws_markMemory : List (Bool × FT) := [(false, (.int .i64))]
noncomputable def F_laws_markMemory (x : ((.sl .str) : CT).D) (a : Args s_laws_markMemory) : Option (resD r_laws_markMemory × ((.sl .str) : CT).D) := Pu.laws_markMemory x a.1
noncomputable def e_laws_markMemory : GEnt := entIo (.sl .str) true s_laws_markMemory r_laws_markMemory F_laws_markMemory
noncomputable def g_laws_markMemory : Gam := (Gam.nil).add 53 e_laws_markStringS
theorem S_laws_markMemory : Sound Try.prog E g_laws_markMemory := (base).add ok_laws_markStringS
def n_laws_markMemory : An := {  }
noncomputable def L_laws_markMemory : Lam := Lam.nil
theorem h_laws_markMemory : ∀ c ∈ loopsOf (Try.f24.body.getD .skip), LOk E g_laws_markMemory n_laws_markMemory L_laws_markMemory c := by
  have e : loopsOf (Try.f24.body.getD .skip) = [] := by kernel_rfl
  rw [e]; simp
theorem ok_laws_markMemory : FnOk Try.prog 24 e_laws_markMemory := FnOk.ofIo (fnIo S_laws_markMemory Try.func24 (by kernel_rfl) h_laws_markMemory) (fun x a => by kernel_rfl)
@[reducible] def s_laws_markIntS : List PS := [.data false (.int .i64)]
@[reducible] def r_laws_markIntS : List (Bool × FT) := [(false, (.int .i64))]
noncomputable def F_laws_markIntS (x : ((.sl (.int .i64)) : CT).D) (a : Args s_laws_markIntS) : Option (resD r_laws_markIntS × ((.sl (.int .i64)) : CT).D) := Pu.laws_markIntS x a.1
noncomputable def e_laws_markIntS : GEnt := entIo (.sl (.int .i64)) false s_laws_markIntS r_laws_markIntS F_laws_markIntS
noncomputable def g_laws_markIntS : Gam := Gam.nil
theorem S_laws_markIntS : Sound Try.prog E g_laws_markIntS := base
def n_laws_markIntS : An := { mask := fun | 2 => [0, 1, 5] | _ => [] }
@[reducible] def d_laws_markIntS_2 : SD := ⟨[.data false (.sl (.lio 0 12288036864) (.int .i64)), .data false (.int .i64), .bot, .bot, .bot, .data false (.int .i64), .bot, .bot, .bot, .bot, .bot, .bot, .bot, .bot, .bot, .bot, .bot, .bot, .bot], [none, none, none, none, none, none, none, none, none, none, none, none, none, none, none, none, none, none, none], some (.sl (.own (some 12288036864)) (.int .i64))⟩
@[reducible] def d_laws_markIntS_2_x0 : SD := ⟨[.data false (.sl (.lio 0 12288036864) (.int .i64)), .data false (.int .i64), .bot, .bot, .bot, .data false (.int .i64), .bot, .bot, .bot, .bot, .bot, .bot, .bot, .bot, .bot, .bot, .bot, .bot, .bot], [none, none, none, none, none, none, none, none, none, none, none, none, none, none, none, none, none, none, none], some (.sl (.own (some 12288036864)) (.int .i64))⟩
noncomputable def l_laws_markIntS_2 : LEnt := ⟨d_laws_markIntS_2, fun X K => iterL (Pu.laws_markIntS_T2 (fun y0 y1 y2 y3 => K (.exit 0) (SD.enc d_laws_markIntS_2_x0 ((y0, (y1, (y2, ()))), (), y3))) ) fuel (X.1.1, X.1.2.1, X.1.2.2.1, X.2.2)⟩
noncomputable def L_laws_markIntS : Lam := (Lam.nil).add 2 l_laws_markIntS_2
theorem lok_laws_markIntS_2 : LOk E g_laws_markIntS n_laws_markIntS L_laws_markIntS (loopBody Try.f54 0) :=
  lok l_laws_markIntS_2 (by kernel_rfl) fuel fun R X K => (loop_iter (σ := (List Int) × Int × Int × List Int) (fun x => SD.enc d_laws_markIntS_2 ((x.1, (x.2.1, (x.2.2.1, ()))), (), x.2.2.2)) (Pu.laws_markIntS_T2 (fun y0 y1 y2 y3 => K (.exit 0) (SD.enc d_laws_markIntS_2_x0 ((y0, (y1, (y2, ()))), (), y3))) ) (fun m x => by kernel_rfl) fuel (X.1.1, X.1.2.1, X.1.2.2.1, X.2.2)).symm
theorem h_laws_markIntS : ∀ c ∈ loopsOf (Try.f54.body.getD .skip), LOk E g_laws_markIntS n_laws_markIntS L_laws_markIntS c := by
  have e : loopsOf (Try.f54.body.getD .skip) = [loopBody Try.f54 0] := by kernel_rfl
  rw [e]; simp only [List.forall_mem_cons]; exact ⟨lok_laws_markIntS_2, by simp⟩
theorem ok_laws_markIntS : FnOk Try.prog 54 e_laws_markIntS := FnOk.ofIo (fnIo S_laws_markIntS Try.func54 (by kernel_rfl) h_laws_markIntS) (fun x a => by kernel_rfl)
@[reducible] def s_laws_markMove : List PS := [.data false (.int .i64)]
@[reducible] def r_laws_markMove : List (Bool × FT) := [(false, (.int .i64))]
noncomputable def F_laws_markMove (x : (TMove : CT).D) (a : Args s_laws_markMove) : Option (resD r_laws_markMove × (TMove : CT).D) := Pu.laws_markMove x a.1
noncomputable def e_laws_markMove : GEnt := entIo TMove true s_laws_markMove r_laws_markMove F_laws_markMove
noncomputable def g_laws_markMove : Gam := ((Gam.nil).add 24 e_laws_markMemory).add 54 e_laws_markIntS
theorem S_laws_markMove : Sound Try.prog E g_laws_markMove := ((base).add ok_laws_markMemory).add ok_laws_markIntS
def n_laws_markMove : An := {  }
noncomputable def L_laws_markMove : Lam := Lam.nil
theorem h_laws_markMove : ∀ c ∈ loopsOf (Try.f25.body.getD .skip), LOk E g_laws_markMove n_laws_markMove L_laws_markMove c := by
  have e : loopsOf (Try.f25.body.getD .skip) = [] := by kernel_rfl
  rw [e]; simp
theorem ok_laws_markMove : FnOk Try.prog 25 e_laws_markMove := FnOk.ofIo (fnIo S_laws_markMove Try.func25 (by kernel_rfl) h_laws_markMove) (fun x a => by kernel_rfl)
@[reducible] def s_laws_heldStringS : List PS := [.data false (.sl .str), .data false (.int .i64)]
@[reducible] def r_laws_heldStringS : List (Bool × FT) := [(false, (.int .i64))]
noncomputable def F_laws_heldStringS (a : Args s_laws_heldStringS) : Option (resD r_laws_heldStringS) := Pu.laws_heldStringS a.1 a.2.1
noncomputable def e_laws_heldStringS : GEnt := entOf s_laws_heldStringS r_laws_heldStringS F_laws_heldStringS
noncomputable def g_laws_heldStringS : Gam := (Gam.nil).add 74 e_laws_markText
theorem S_laws_heldStringS : Sound Try.prog E g_laws_heldStringS := (base).add ok_laws_markText
def n_laws_heldStringS : An := { mask := fun | 2 => [0, 1, 4, 5] | _ => [] }
@[reducible] def d_laws_heldStringS_2 : SD := ⟨[.data false (.sl .arg .str), .data false (.int .i64), .bot, .bot, .data false (.int .i64), .data false (.int .i64), .bot, .bot, .bot, .bot, .bot, .bot, .bot, .bot, .bot, .bot, .bot, .bot, .bot, .bot, .bot, .bot], [none, none, none, none, none, none, none, none, none, none, none, none, none, none, none, none, none, none, none, none, none, none], none⟩
@[reducible] def d_laws_heldStringS_2_x0 : SD := ⟨[.data false (.sl .arg .str), .data false (.int .i64), .bot, .bot, .data false (.int .i64), .data false (.int .i64), .bot, .bot, .bot, .bot, .bot, .bot, .bot, .bot, .bot, .bot, .bot, .bot, .bot, .bot, .bot, .bot], [none, none, none, none, none, none, none, none, none, none, none, none, none, none, none, none, none, none, none, none, none, none], none⟩
@[reducible] def d_laws_heldStringS_2_ret : SD := ⟨[.data false (.sl .arg .str), .data false (.int .i64), .bot, .bot, .data false (.int .i64), .data false (.int .i64), .bot, .bot, .bot, .bot, .bot, .bot, .bot, .bot, .bot, .bot, .bot, .bot, .bot, .bot, .bot, .bot], [none, none, none, none, none, none, none, none, none, none, none, none, none, none, none, none, none, none, none, none, none, none], none⟩
noncomputable def l_laws_heldStringS_2 : LEnt := ⟨d_laws_heldStringS_2, fun X K => iterL (Pu.laws_heldStringS_T2 (fun y0 y1 => K (.exit 0) (SD.enc d_laws_heldStringS_2_x0 (((X.1.1), (y0, ((X.1.2.2.1), (y1, ())))), (), ()))) (fun y0 y1 y2 => K .ret (SD.enc d_laws_heldStringS_2_ret (((X.1.1), (y0, (y1, (y2, ())))), (), ()))) X.1.1 X.1.2.2.1) fuel (X.1.2.1, X.1.2.2.2.1)⟩
noncomputable def L_laws_heldStringS : Lam := (Lam.nil).add 2 l_laws_heldStringS_2
theorem lok_laws_heldStringS_2 : LOk E g_laws_heldStringS n_laws_heldStringS L_laws_heldStringS (loopBody Try.f75 0) :=
  lok l_laws_heldStringS_2 (by kernel_rfl) fuel fun R X K => (loop_iter (σ := Int × Int) (fun x => SD.enc d_laws_heldStringS_2 ((X.1.1, (x.1, (X.1.2.2.1, (x.2, ())))), (), ())) (Pu.laws_heldStringS_T2 (fun y0 y1 => K (.exit 0) (SD.enc d_laws_heldStringS_2_x0 (((X.1.1), (y0, ((X.1.2.2.1), (y1, ())))), (), ()))) (fun y0 y1 y2 => K .ret (SD.enc d_laws_heldStringS_2_ret (((X.1.1), (y0, (y1, (y2, ())))), (), ()))) X.1.1 X.1.2.2.1) (fun m x => by kernel_rfl) fuel (X.1.2.1, X.1.2.2.2.1)).symm
theorem h_laws_heldStringS : ∀ c ∈ loopsOf (Try.f75.body.getD .skip), LOk E g_laws_heldStringS n_laws_heldStringS L_laws_heldStringS c := by
  have e : loopsOf (Try.f75.body.getD .skip) = [loopBody Try.f75 0] := by kernel_rfl
  rw [e]; simp only [List.forall_mem_cons]; exact ⟨lok_laws_heldStringS_2, by simp⟩
theorem ok_laws_heldStringS : FnOk Try.prog 75 e_laws_heldStringS := FnOk.of (fnOk S_laws_heldStringS Try.func75 (by kernel_rfl) h_laws_heldStringS) (fun a => by kernel_rfl)
@[reducible] def s_laws_heldMemory : List PS := [.data true (.sl .str), .data false (.int .i64)]
@[reducible] def r_laws_heldMemory : List (Bool × FT) := [(false, (.int .i64))]
noncomputable def F_laws_heldMemory (a : Args s_laws_heldMemory) : Option (resD r_laws_heldMemory) := Pu.laws_heldMemory a.1 a.2.1
noncomputable def e_laws_heldMemory : GEnt := entOf s_laws_heldMemory r_laws_heldMemory F_laws_heldMemory
noncomputable def g_laws_heldMemory : Gam := (Gam.nil).add 75 e_laws_heldStringS
theorem S_laws_heldMemory : Sound Try.prog E g_laws_heldMemory := (base).add ok_laws_heldStringS
def n_laws_heldMemory : An := {  }
noncomputable def L_laws_heldMemory : Lam := Lam.nil
theorem h_laws_heldMemory : ∀ c ∈ loopsOf (Try.f55.body.getD .skip), LOk E g_laws_heldMemory n_laws_heldMemory L_laws_heldMemory c := by
  have e : loopsOf (Try.f55.body.getD .skip) = [] := by kernel_rfl
  rw [e]; simp
theorem ok_laws_heldMemory : FnOk Try.prog 55 e_laws_heldMemory := FnOk.of (fnOk S_laws_heldMemory Try.func55 (by kernel_rfl) h_laws_heldMemory) (fun a => by kernel_rfl)
@[reducible] def s_laws_heldIntS : List PS := [.data false (.sl (.int .i64)), .data false (.int .i64)]
@[reducible] def r_laws_heldIntS : List (Bool × FT) := [(false, (.int .i64))]
noncomputable def F_laws_heldIntS (a : Args s_laws_heldIntS) : Option (resD r_laws_heldIntS) := Pu.laws_heldIntS a.1 a.2.1
noncomputable def e_laws_heldIntS : GEnt := entOf s_laws_heldIntS r_laws_heldIntS F_laws_heldIntS
noncomputable def g_laws_heldIntS : Gam := Gam.nil
theorem S_laws_heldIntS : Sound Try.prog E g_laws_heldIntS := base
def n_laws_heldIntS : An := { mask := fun | 2 => [0, 1, 4, 5] | _ => [] }
@[reducible] def d_laws_heldIntS_2 : SD := ⟨[.data false (.sl .arg (.int .i64)), .data false (.int .i64), .bot, .bot, .data false (.int .i64), .data false (.int .i64), .bot, .bot, .bot, .bot, .bot, .bot, .bot, .bot, .bot, .bot, .bot, .bot, .bot, .bot, .bot], [none, none, none, none, none, none, none, none, none, none, none, none, none, none, none, none, none, none, none, none, none], none⟩
@[reducible] def d_laws_heldIntS_2_x0 : SD := ⟨[.data false (.sl .arg (.int .i64)), .data false (.int .i64), .bot, .bot, .data false (.int .i64), .data false (.int .i64), .bot, .bot, .bot, .bot, .bot, .bot, .bot, .bot, .bot, .bot, .bot, .bot, .bot, .bot, .bot], [none, none, none, none, none, none, none, none, none, none, none, none, none, none, none, none, none, none, none, none, none], none⟩
@[reducible] def d_laws_heldIntS_2_ret : SD := ⟨[.data false (.sl .arg (.int .i64)), .data false (.int .i64), .bot, .bot, .data false (.int .i64), .data false (.int .i64), .bot, .bot, .bot, .bot, .bot, .bot, .bot, .bot, .bot, .bot, .bot, .bot, .bot, .bot, .bot], [none, none, none, none, none, none, none, none, none, none, none, none, none, none, none, none, none, none, none, none, none], none⟩
noncomputable def l_laws_heldIntS_2 : LEnt := ⟨d_laws_heldIntS_2, fun X K => iterL (Pu.laws_heldIntS_T2 (fun y0 y1 => K (.exit 0) (SD.enc d_laws_heldIntS_2_x0 (((X.1.1), (y0, ((X.1.2.2.1), (y1, ())))), (), ()))) (fun y0 y1 y2 => K .ret (SD.enc d_laws_heldIntS_2_ret (((X.1.1), (y0, (y1, (y2, ())))), (), ()))) X.1.1 X.1.2.2.1) fuel (X.1.2.1, X.1.2.2.2.1)⟩
noncomputable def L_laws_heldIntS : Lam := (Lam.nil).add 2 l_laws_heldIntS_2
theorem lok_laws_heldIntS_2 : LOk E g_laws_heldIntS n_laws_heldIntS L_laws_heldIntS (loopBody Try.f56 0) :=
  lok l_laws_heldIntS_2 (by kernel_rfl) fuel fun R X K => (loop_iter (σ := Int × Int) (fun x => SD.enc d_laws_heldIntS_2 ((X.1.1, (x.1, (X.1.2.2.1, (x.2, ())))), (), ())) (Pu.laws_heldIntS_T2 (fun y0 y1 => K (.exit 0) (SD.enc d_laws_heldIntS_2_x0 (((X.1.1), (y0, ((X.1.2.2.1), (y1, ())))), (), ()))) (fun y0 y1 y2 => K .ret (SD.enc d_laws_heldIntS_2_ret (((X.1.1), (y0, (y1, (y2, ())))), (), ()))) X.1.1 X.1.2.2.1) (fun m x => by kernel_rfl) fuel (X.1.2.1, X.1.2.2.2.1)).symm
theorem h_laws_heldIntS : ∀ c ∈ loopsOf (Try.f56.body.getD .skip), LOk E g_laws_heldIntS n_laws_heldIntS L_laws_heldIntS c := by
  have e : loopsOf (Try.f56.body.getD .skip) = [loopBody Try.f56 0] := by kernel_rfl
  rw [e]; simp only [List.forall_mem_cons]; exact ⟨lok_laws_heldIntS_2, by simp⟩
theorem ok_laws_heldIntS : FnOk Try.prog 56 e_laws_heldIntS := FnOk.of (fnOk S_laws_heldIntS Try.func56 (by kernel_rfl) h_laws_heldIntS) (fun a => by kernel_rfl)
@[reducible] def s_laws_heldMove : List PS := [.data true TMove, .data false (.int .i64)]
@[reducible] def r_laws_heldMove : List (Bool × FT) := [(false, (.int .i64))]
noncomputable def F_laws_heldMove (a : Args s_laws_heldMove) : Option (resD r_laws_heldMove) := Pu.laws_heldMove a.1 a.2.1
noncomputable def e_laws_heldMove : GEnt := entOf s_laws_heldMove r_laws_heldMove F_laws_heldMove
noncomputable def g_laws_heldMove : Gam := ((Gam.nil).add 55 e_laws_heldMemory).add 56 e_laws_heldIntS
theorem S_laws_heldMove : Sound Try.prog E g_laws_heldMove := ((base).add ok_laws_heldMemory).add ok_laws_heldIntS
def n_laws_heldMove : An := {  }
noncomputable def L_laws_heldMove : Lam := Lam.nil
theorem h_laws_heldMove : ∀ c ∈ loopsOf (Try.f26.body.getD .skip), LOk E g_laws_heldMove n_laws_heldMove L_laws_heldMove c := by
  have e : loopsOf (Try.f26.body.getD .skip) = [] := by kernel_rfl
  rw [e]; simp
theorem ok_laws_heldMove : FnOk Try.prog 26 e_laws_heldMove := FnOk.of (fnOk S_laws_heldMove Try.func26 (by kernel_rfl) h_laws_heldMove) (fun a => by kernel_rfl)
@[reducible] def s_laws_FnExactStartMove : List PS := [.data true (.sl .str)]
@[reducible] def r_laws_FnExactStartMove : List (Bool × FT) := [(false, .bool)]
noncomputable def F_laws_FnExactStartMove (a : Args s_laws_FnExactStartMove) : Option (resD r_laws_FnExactStartMove) := Pu.laws_FnExactStartMove a.1
noncomputable def e_laws_FnExactStartMove : GEnt := entOf s_laws_FnExactStartMove r_laws_FnExactStartMove F_laws_FnExactStartMove
noncomputable def g_laws_FnExactStartMove : Gam := (((((((((Gam.nil).add 18 e_laws_szMemory).add 19 e_spec_StartMove).add 20 e_laws_toMemory).add 21 e_impl_StartMove).add 22 e_laws_eqMove).add 23 e_laws_eqMemory).add 24 e_laws_markMemory).add 25 e_laws_markMove).add 26 e_laws_heldMove
theorem S_laws_FnExactStartMove : Sound Try.prog E g_laws_FnExactStartMove := (((((((((base).add ok_laws_szMemory).add ok_spec_StartMove).add ok_laws_toMemory).add ok_impl_StartMove).add ok_laws_eqMove).add ok_laws_eqMemory).add ok_laws_markMemory).add ok_laws_markMove).add ok_laws_heldMove
def n_laws_FnExactStartMove : An := { merge := fun | 14 => some 42 | _ => none }
noncomputable def L_laws_FnExactStartMove : Lam := Lam.nil
theorem h_laws_FnExactStartMove : ∀ c ∈ loopsOf (Try.f5.body.getD .skip), LOk E g_laws_FnExactStartMove n_laws_FnExactStartMove L_laws_FnExactStartMove c := by
  have e : loopsOf (Try.f5.body.getD .skip) = [] := by kernel_rfl
  rw [e]; simp
theorem ok_laws_FnExactStartMove : FnOk Try.prog 5 e_laws_FnExactStartMove := FnOk.of (fnOk S_laws_FnExactStartMove Try.func5 (by kernel_rfl) h_laws_FnExactStartMove) (fun a => by kernel_rfl)
@[reducible] def s_laws_szIntS : List PS := [.data false (.sl (.int .i64)), .data false (.int .i64)]
@[reducible] def r_laws_szIntS : List (Bool × FT) := [(false, (.int .i64))]
noncomputable def F_laws_szIntS (a : Args s_laws_szIntS) : Option (resD r_laws_szIntS) := Pu.laws_szIntS a.1 a.2.1
noncomputable def e_laws_szIntS : GEnt := entOf s_laws_szIntS r_laws_szIntS F_laws_szIntS
noncomputable def g_laws_szIntS : Gam := Gam.nil
theorem S_laws_szIntS : Sound Try.prog E g_laws_szIntS := base
def n_laws_szIntS : An := {  }
noncomputable def L_laws_szIntS : Lam := Lam.nil
theorem h_laws_szIntS : ∀ c ∈ loopsOf (Try.f57.body.getD .skip), LOk E g_laws_szIntS n_laws_szIntS L_laws_szIntS c := by
  have e : loopsOf (Try.f57.body.getD .skip) = [] := by kernel_rfl
  rw [e]; simp
theorem ok_laws_szIntS : FnOk Try.prog 57 e_laws_szIntS := FnOk.of (fnOk S_laws_szIntS Try.func57 (by kernel_rfl) h_laws_szIntS) (fun a => by kernel_rfl)
@[reducible] def s_laws_szMove : List PS := [.data true TMove, .data false (.int .i64)]
@[reducible] def r_laws_szMove : List (Bool × FT) := [(false, (.int .i64))]
noncomputable def F_laws_szMove (a : Args s_laws_szMove) : Option (resD r_laws_szMove) := Pu.laws_szMove a.1 a.2.1
noncomputable def e_laws_szMove : GEnt := entOf s_laws_szMove r_laws_szMove F_laws_szMove
noncomputable def g_laws_szMove : Gam := ((Gam.nil).add 18 e_laws_szMemory).add 57 e_laws_szIntS
theorem S_laws_szMove : Sound Try.prog E g_laws_szMove := ((base).add ok_laws_szMemory).add ok_laws_szIntS
def n_laws_szMove : An := {  }
noncomputable def L_laws_szMove : Lam := Lam.nil
theorem h_laws_szMove : ∀ c ∈ loopsOf (Try.f27.body.getD .skip), LOk E g_laws_szMove n_laws_szMove L_laws_szMove c := by
  have e : loopsOf (Try.f27.body.getD .skip) = [] := by kernel_rfl
  rw [e]; simp
theorem ok_laws_szMove : FnOk Try.prog 27 e_laws_szMove := FnOk.of (fnOk S_laws_szMove Try.func27 (by kernel_rfl) h_laws_szMove) (fun a => by kernel_rfl)
@[reducible] def s_spec_l39Copy : List PS := [.data true TMove]
@[reducible] def r_spec_l39Copy : List (Bool × FT) := [(true, (.pair (.sl (.own none) .str) (.pair (.sl (.own none) (.int .i64)) (.int .i64))))]
noncomputable def F_spec_l39Copy (a : Args s_spec_l39Copy) : Option (resD r_spec_l39Copy) := Pu.spec_l39Copy a.1
noncomputable def e_spec_l39Copy : GEnt := entOf s_spec_l39Copy r_spec_l39Copy F_spec_l39Copy
noncomputable def g_spec_l39Copy : Gam := (Gam.nil).add 48 e_spec_l16Copy
theorem S_spec_l39Copy : Sound Try.prog E g_spec_l39Copy := (base).add ok_spec_l16Copy
def n_spec_l39Copy : An := {  }
noncomputable def L_spec_l39Copy : Lam := Lam.nil
theorem h_spec_l39Copy : ∀ c ∈ loopsOf (Try.f58.body.getD .skip), LOk E g_spec_l39Copy n_spec_l39Copy L_spec_l39Copy c := by
  have e : loopsOf (Try.f58.body.getD .skip) = [] := by kernel_rfl
  rw [e]; simp
theorem ok_spec_l39Copy : FnOk Try.prog 58 e_spec_l39Copy := FnOk.of (fnOk S_spec_l39Copy Try.func58 (by kernel_rfl) h_spec_l39Copy) (fun a => by kernel_rfl)
@[reducible] def s_spec_CopyRound : List PS := [.data true TMove, .data true (.sl .str)]
@[reducible] def r_spec_CopyRound : List (Bool × FT) := [(true, (.pair (.sl (.own none) .str) (.pair (.sl (.own none) (.int .i64)) (.int .i64))))]
noncomputable def F_spec_CopyRound (a : Args s_spec_CopyRound) : Option (resD r_spec_CopyRound) := Pu.spec_CopyRound a.1 a.2.1
noncomputable def e_spec_CopyRound : GEnt := entOf s_spec_CopyRound r_spec_CopyRound F_spec_CopyRound
noncomputable def g_spec_CopyRound : Gam := (Gam.nil).add 58 e_spec_l39Copy
theorem S_spec_CopyRound : Sound Try.prog E g_spec_CopyRound := (base).add ok_spec_l39Copy
def n_spec_CopyRound : An := { mask := fun | 3 => [2, 3, 4, 5, 6] | _ => [], merge := fun | 6 => some 38 | _ => none, mv := [55] }
@[reducible] def d_spec_CopyRound_3 : SD := ⟨[.bot, .bot, .ptr 2 0, .ptr 3 0, .ptr 4 0, .ptr 5 0, .data false (.int .i64), .bot, .bot, .bot, .bot, .bot, .bot, .bot, .bot, .bot, .bot, .bot, .bot, .bot, .bot, .bot, .bot, .bot, .bot, .bot, .bot, .bot, .bot, .bot, .bot, .bot, .bot, .bot, .bot, .bot, .bot, .bot, .bot, .bot, .bot, .bot, .bot, .bot, .bot, .bot, .bot, .bot, .bot, .bot, .bot, .bot, .bot, .bot, .bot, .bot], [none, none, some (.pair (.sl .arg .str) (.pair (.sl .arg (.int .i64)) (.int .i64))), some (.sl .arg .str), some (.pair (.sl (.own (some 49153)) .str) (.pair (.sl (.own (some 49156)) (.int .i64)) (.int .i64))), some (.pair (.sl (.own (some 61441)) .str) (.pair (.sl (.own (some 61444)) (.int .i64)) (.int .i64))), none, none, none, none, none, none, none, none, none, none, none, none, none, none, none, none, none, none, none, none, none, none, none, none, none, none, none, none, none, none, none, none, none, none, none, none, none, none, none, none, none, none, none, none, none, none, none, none, none, none], none⟩
@[reducible] def d_spec_CopyRound_3_x0 : SD := ⟨[.bot, .bot, .ptr 2 0, .ptr 3 0, .ptr 4 0, .ptr 5 0, .data false (.int .i64), .bot, .bot, .bot, .bot, .bot, .bot, .bot, .bot, .bot, .bot, .bot, .bot, .bot, .bot, .bot, .bot, .bot, .bot, .bot, .bot, .bot, .bot, .bot, .bot, .bot, .bot, .bot, .bot, .bot, .bot, .bot, .bot, .bot, .bot, .bot, .bot, .bot, .bot, .bot, .bot, .bot, .bot, .bot, .bot, .bot, .bot, .bot, .bot, .bot], [none, none, some (.pair (.sl .arg .str) (.pair (.sl .arg (.int .i64)) (.int .i64))), some (.sl .arg .str), some (.pair (.sl (.own (some 49153)) .str) (.pair (.sl (.own (some 49156)) (.int .i64)) (.int .i64))), some (.pair (.sl (.own (some 61441)) .str) (.pair (.sl (.own (some 61444)) (.int .i64)) (.int .i64))), none, none, none, none, none, none, none, none, none, none, none, none, none, none, none, none, none, none, none, none, none, none, none, none, none, none, none, none, none, none, none, none, none, none, none, none, none, none, none, none, none, none, none, none, none, none, none, none, none, none], none⟩
noncomputable def l_spec_CopyRound_3 : LEnt := ⟨d_spec_CopyRound_3, fun X K => iterL (Pu.spec_CopyRound_T3 (fun y0 y1 => K (.exit 0) (SD.enc d_spec_CopyRound_3_x0 ((y0, ()), ((X.2.1.1), ((X.2.1.2.1), ((X.2.1.2.2.1), (y1, ())))), ()))) X.2.1.1 X.2.1.2.1 X.2.1.2.2.1) fuel (X.1.1, X.2.1.2.2.2.1)⟩
noncomputable def L_spec_CopyRound : Lam := (Lam.nil).add 3 l_spec_CopyRound_3
theorem lok_spec_CopyRound_3 : LOk E g_spec_CopyRound n_spec_CopyRound L_spec_CopyRound (loopBody Try.f28 0) :=
  lok l_spec_CopyRound_3 (by kernel_rfl) fuel fun R X K => (loop_iter (σ := Int × Pu.Move) (fun x => SD.enc d_spec_CopyRound_3 ((x.1, ()), (X.2.1.1, (X.2.1.2.1, (X.2.1.2.2.1, (x.2, ())))), ())) (Pu.spec_CopyRound_T3 (fun y0 y1 => K (.exit 0) (SD.enc d_spec_CopyRound_3_x0 ((y0, ()), ((X.2.1.1), ((X.2.1.2.1), ((X.2.1.2.2.1), (y1, ())))), ()))) X.2.1.1 X.2.1.2.1 X.2.1.2.2.1) (fun m x => by kernel_rfl) fuel (X.1.1, X.2.1.2.2.2.1)).symm
theorem h_spec_CopyRound : ∀ c ∈ loopsOf (Try.f28.body.getD .skip), LOk E g_spec_CopyRound n_spec_CopyRound L_spec_CopyRound c := by
  have e : loopsOf (Try.f28.body.getD .skip) = [loopBody Try.f28 0] := by kernel_rfl
  rw [e]; simp only [List.forall_mem_cons]; exact ⟨lok_spec_CopyRound_3, by simp⟩
theorem ok_spec_CopyRound : FnOk Try.prog 28 e_spec_CopyRound := FnOk.of (fnOk S_spec_CopyRound Try.func28 (by kernel_rfl) h_spec_CopyRound) (fun a => by kernel_rfl)
@[reducible] def s_laws_toIntS : List PS := [.data false (.sl (.int .i64))]
@[reducible] def r_laws_toIntS : List (Bool × FT) := [(false, (.sl (.own none) (.int .i64)))]
noncomputable def F_laws_toIntS (a : Args s_laws_toIntS) : Option (resD r_laws_toIntS) := Pu.laws_toIntS a.1
noncomputable def e_laws_toIntS : GEnt := entOf s_laws_toIntS r_laws_toIntS F_laws_toIntS
noncomputable def g_laws_toIntS : Gam := Gam.nil
theorem S_laws_toIntS : Sound Try.prog E g_laws_toIntS := base
def n_laws_toIntS : An := { mask := fun | 3 => [0, 3, 4] | _ => [], mv := [21] }
@[reducible] def d_laws_toIntS_3 : SD := ⟨[.data false (.sl .arg (.int .i64)), .bot, .bot, .data false (.sl (.own (some 36864)) (.int .i64)), .data false (.int .i64), .bot, .bot, .bot, .bot, .bot, .bot, .bot, .bot, .bot, .bot, .bot, .bot, .bot, .bot, .bot, .bot, .bot], [none, none, none, none, none, none, none, none, none, none, none, none, none, none, none, none, none, none, none, none, none, none], none⟩
@[reducible] def d_laws_toIntS_3_x0 : SD := ⟨[.data false (.sl .arg (.int .i64)), .bot, .bot, .data false (.sl (.own (some 36864)) (.int .i64)), .data false (.int .i64), .bot, .bot, .bot, .bot, .bot, .bot, .bot, .bot, .bot, .bot, .bot, .bot, .bot, .bot, .bot, .bot, .bot], [none, none, none, none, none, none, none, none, none, none, none, none, none, none, none, none, none, none, none, none, none, none], none⟩
noncomputable def l_laws_toIntS_3 : LEnt := ⟨d_laws_toIntS_3, fun X K => iterL (Pu.laws_toIntS_T3 (fun y0 y1 => K (.exit 0) (SD.enc d_laws_toIntS_3_x0 (((X.1.1), (y0, (y1, ()))), (), ()))) X.1.1) fuel (X.1.2.1, X.1.2.2.1)⟩
noncomputable def L_laws_toIntS : Lam := (Lam.nil).add 3 l_laws_toIntS_3
theorem lok_laws_toIntS_3 : LOk E g_laws_toIntS n_laws_toIntS L_laws_toIntS (loopBody Try.f59 0) :=
  lok l_laws_toIntS_3 (by kernel_rfl) fuel fun R X K => (loop_iter (σ := (List Int) × Int) (fun x => SD.enc d_laws_toIntS_3 ((X.1.1, (x.1, (x.2, ()))), (), ())) (Pu.laws_toIntS_T3 (fun y0 y1 => K (.exit 0) (SD.enc d_laws_toIntS_3_x0 (((X.1.1), (y0, (y1, ()))), (), ()))) X.1.1) (fun m x => by kernel_rfl) fuel (X.1.2.1, X.1.2.2.1)).symm
theorem h_laws_toIntS : ∀ c ∈ loopsOf (Try.f59.body.getD .skip), LOk E g_laws_toIntS n_laws_toIntS L_laws_toIntS c := by
  have e : loopsOf (Try.f59.body.getD .skip) = [loopBody Try.f59 0] := by kernel_rfl
  rw [e]; simp only [List.forall_mem_cons]; exact ⟨lok_laws_toIntS_3, by simp⟩
theorem ok_laws_toIntS : FnOk Try.prog 59 e_laws_toIntS := FnOk.of (fnOk S_laws_toIntS Try.func59 (by kernel_rfl) h_laws_toIntS) (fun a => by kernel_rfl)
@[reducible] def s_laws_toMove : List PS := [.data true TMove]
@[reducible] def r_laws_toMove : List (Bool × FT) := [(true, (.pair (.sl (.own none) .str) (.pair (.sl (.own none) (.int .i64)) (.int .i64))))]
noncomputable def F_laws_toMove (a : Args s_laws_toMove) : Option (resD r_laws_toMove) := Pu.laws_toMove a.1
noncomputable def e_laws_toMove : GEnt := entOf s_laws_toMove r_laws_toMove F_laws_toMove
noncomputable def g_laws_toMove : Gam := ((Gam.nil).add 20 e_laws_toMemory).add 59 e_laws_toIntS
theorem S_laws_toMove : Sound Try.prog E g_laws_toMove := ((base).add ok_laws_toMemory).add ok_laws_toIntS
def n_laws_toMove : An := { mv := [15] }
noncomputable def L_laws_toMove : Lam := Lam.nil
theorem h_laws_toMove : ∀ c ∈ loopsOf (Try.f29.body.getD .skip), LOk E g_laws_toMove n_laws_toMove L_laws_toMove c := by
  have e : loopsOf (Try.f29.body.getD .skip) = [] := by kernel_rfl
  rw [e]; simp
theorem ok_laws_toMove : FnOk Try.prog 29 e_laws_toMove := FnOk.of (fnOk S_laws_toMove Try.func29 (by kernel_rfl) h_laws_toMove) (fun a => by kernel_rfl)
@[reducible] def s_impl_CopyRound : List PS := [.data true TMove, .data true (.sl .str)]
@[reducible] def r_impl_CopyRound : List (Bool × FT) := [(true, (.pair (.sl (.own none) .str) (.pair (.sl (.own none) (.int .i64)) (.int .i64))))]
noncomputable def F_impl_CopyRound (a : Args s_impl_CopyRound) : Option (resD r_impl_CopyRound) := Pu.impl_CopyRound a.1 a.2.1
noncomputable def e_impl_CopyRound : GEnt := entOf s_impl_CopyRound r_impl_CopyRound F_impl_CopyRound
noncomputable def g_impl_CopyRound : Gam := (Gam.nil).add 50 e_impl_copyMemory
theorem S_impl_CopyRound : Sound Try.prog E g_impl_CopyRound := (base).add ok_impl_copyMemory
def n_impl_CopyRound : An := { mask := fun | 3 => [3, 4, 5, 15, 16, 17] | _ => [], merge := fun | 5 => some 37 | _ => none, mv := [53] }
@[reducible] def d_impl_CopyRound_3 : SD := ⟨[.bot, .bot, .bot, .ptr 3 0, .ptr 4 0, .ptr 5 0, .bot, .bot, .bot, .bot, .bot, .bot, .bot, .bot, .bot, .data false (.sl .arg (.int .i64)), .data false (.int .i64), .data false (.int .i64), .bot, .bot, .bot, .bot, .bot, .bot, .bot, .bot, .bot, .bot, .bot, .bot, .bot, .bot, .bot, .bot, .bot, .bot, .bot, .bot, .bot, .bot, .bot, .bot, .bot, .bot, .bot, .bot, .bot, .bot, .bot, .bot, .bot, .bot, .bot, .bot], [none, none, none, some (.sl .arg .str), some (.pair (.sl (.own (some 49153)) .str) (.pair (.sl (.own (some 49156)) (.int .i64)) (.int .i64))), some (.pair (.sl (.own (some 61441)) .str) (.pair (.sl (.own (some 61444)) (.int .i64)) (.int .i64))), none, none, none, none, none, none, none, none, none, none, none, none, none, none, none, none, none, none, none, none, none, none, none, none, none, none, none, none, none, none, none, none, none, none, none, none, none, none, none, none, none, none, none, none, none, none, none, none], none⟩
@[reducible] def d_impl_CopyRound_3_x0 : SD := ⟨[.bot, .bot, .bot, .ptr 3 0, .ptr 4 0, .ptr 5 0, .bot, .bot, .bot, .bot, .bot, .bot, .bot, .bot, .bot, .data false (.sl .arg (.int .i64)), .data false (.int .i64), .data false (.int .i64), .bot, .bot, .bot, .bot, .bot, .bot, .bot, .bot, .bot, .bot, .bot, .bot, .bot, .bot, .bot, .bot, .bot, .bot, .bot, .bot, .bot, .bot, .bot, .bot, .bot, .bot, .bot, .bot, .bot, .bot, .bot, .bot, .bot, .bot, .bot, .bot], [none, none, none, some (.sl .arg .str), some (.pair (.sl (.own (some 49153)) .str) (.pair (.sl (.own (some 49156)) (.int .i64)) (.int .i64))), some (.pair (.sl (.own (some 61441)) .str) (.pair (.sl (.own (some 61444)) (.int .i64)) (.int .i64))), none, none, none, none, none, none, none, none, none, none, none, none, none, none, none, none, none, none, none, none, none, none, none, none, none, none, none, none, none, none, none, none, none, none, none, none, none, none, none, none, none, none, none, none, none, none, none, none], none⟩
noncomputable def l_impl_CopyRound_3 : LEnt := ⟨d_impl_CopyRound_3, fun X K => iterL (Pu.impl_CopyRound_T3 (fun y0 y1 => K (.exit 0) (SD.enc d_impl_CopyRound_3_x0 (((X.1.1), ((X.1.2.1), (y0, ()))), ((X.2.1.1), ((X.2.1.2.1), (y1, ()))), ()))) X.1.1 X.1.2.1 X.2.1.1 X.2.1.2.1) fuel (X.1.2.2.1, X.2.1.2.2.1)⟩
noncomputable def L_impl_CopyRound : Lam := (Lam.nil).add 3 l_impl_CopyRound_3
theorem lok_impl_CopyRound_3 : LOk E g_impl_CopyRound n_impl_CopyRound L_impl_CopyRound (loopBody Try.f30 0) :=
  lok l_impl_CopyRound_3 (by kernel_rfl) fuel fun R X K => (loop_iter (σ := Int × Pu.Move) (fun x => SD.enc d_impl_CopyRound_3 ((X.1.1, (X.1.2.1, (x.1, ()))), (X.2.1.1, (X.2.1.2.1, (x.2, ()))), ())) (Pu.impl_CopyRound_T3 (fun y0 y1 => K (.exit 0) (SD.enc d_impl_CopyRound_3_x0 (((X.1.1), ((X.1.2.1), (y0, ()))), ((X.2.1.1), ((X.2.1.2.1), (y1, ()))), ()))) X.1.1 X.1.2.1 X.2.1.1 X.2.1.2.1) (fun m x => by kernel_rfl) fuel (X.1.2.2.1, X.2.1.2.2.1)).symm
theorem h_impl_CopyRound : ∀ c ∈ loopsOf (Try.f30.body.getD .skip), LOk E g_impl_CopyRound n_impl_CopyRound L_impl_CopyRound c := by
  have e : loopsOf (Try.f30.body.getD .skip) = [loopBody Try.f30 0] := by kernel_rfl
  rw [e]; simp only [List.forall_mem_cons]; exact ⟨lok_impl_CopyRound_3, by simp⟩
theorem ok_impl_CopyRound : FnOk Try.prog 30 e_impl_CopyRound := FnOk.of (fnOk S_impl_CopyRound Try.func30 (by kernel_rfl) h_impl_CopyRound) (fun a => by kernel_rfl)
@[reducible] def s_laws_FnExactCopyRound : List PS := [.data true TMove, .data true (.sl .str)]
@[reducible] def r_laws_FnExactCopyRound : List (Bool × FT) := [(false, .bool)]
noncomputable def F_laws_FnExactCopyRound (a : Args s_laws_FnExactCopyRound) : Option (resD r_laws_FnExactCopyRound) := Pu.laws_FnExactCopyRound a.1 a.2.1
noncomputable def e_laws_FnExactCopyRound : GEnt := entOf s_laws_FnExactCopyRound r_laws_FnExactCopyRound F_laws_FnExactCopyRound
noncomputable def g_laws_FnExactCopyRound : Gam := (((((((((((Gam.nil).add 18 e_laws_szMemory).add 20 e_laws_toMemory).add 22 e_laws_eqMove).add 23 e_laws_eqMemory).add 24 e_laws_markMemory).add 25 e_laws_markMove).add 26 e_laws_heldMove).add 27 e_laws_szMove).add 28 e_spec_CopyRound).add 29 e_laws_toMove).add 30 e_impl_CopyRound
theorem S_laws_FnExactCopyRound : Sound Try.prog E g_laws_FnExactCopyRound := (((((((((((base).add ok_laws_szMemory).add ok_laws_toMemory).add ok_laws_eqMove).add ok_laws_eqMemory).add ok_laws_markMemory).add ok_laws_markMove).add ok_laws_heldMove).add ok_laws_szMove).add ok_spec_CopyRound).add ok_laws_toMove).add ok_impl_CopyRound
def n_laws_FnExactCopyRound : An := { merge := fun | 21 => some 63 | _ => none }
noncomputable def L_laws_FnExactCopyRound : Lam := Lam.nil
theorem h_laws_FnExactCopyRound : ∀ c ∈ loopsOf (Try.f6.body.getD .skip), LOk E g_laws_FnExactCopyRound n_laws_FnExactCopyRound L_laws_FnExactCopyRound c := by
  have e : loopsOf (Try.f6.body.getD .skip) = [] := by kernel_rfl
  rw [e]; simp
theorem ok_laws_FnExactCopyRound : FnOk Try.prog 6 e_laws_FnExactCopyRound := FnOk.of (fnOk S_laws_FnExactCopyRound Try.func6 (by kernel_rfl) h_laws_FnExactCopyRound) (fun a => by kernel_rfl)
@[reducible] def s_spec_ChangedPages : List PS := [.data true (.sl .str), .data true (.sl .str)]
@[reducible] def r_spec_ChangedPages : List (Bool × FT) := [(false, (.sl (.own none) (.int .i64)))]
noncomputable def F_spec_ChangedPages (a : Args s_spec_ChangedPages) : Option (resD r_spec_ChangedPages) := Pu.spec_ChangedPages a.1 a.2.1
noncomputable def e_spec_ChangedPages : GEnt := entOf s_spec_ChangedPages r_spec_ChangedPages F_spec_ChangedPages
noncomputable def g_spec_ChangedPages : Gam := Gam.nil
theorem S_spec_ChangedPages : Sound Try.prog E g_spec_ChangedPages := base
def n_spec_ChangedPages : An := { mask := fun | 3 => [2, 3, 5, 6] | _ => [], merge := fun | 5 => some 32 | _ => none, mv := [33, 37] }
@[reducible] def d_spec_ChangedPages_3 : SD := ⟨[.bot, .bot, .ptr 2 0, .ptr 3 0, .bot, .data false (.sl (.own (some 61440)) (.int .i64)), .data false (.int .i64), .bot, .bot, .bot, .bot, .bot, .bot, .bot, .bot, .bot, .bot, .bot, .bot, .bot, .bot, .bot, .bot, .bot, .bot, .bot, .bot, .bot, .bot, .bot, .bot, .bot, .bot, .bot, .bot, .bot, .bot, .bot], [none, none, some (.sl .arg .str), some (.sl .arg .str), none, none, none, none, none, none, none, none, none, none, none, none, none, none, none, none, none, none, none, none, none, none, none, none, none, none, none, none, none, none, none, none, none, none], none⟩
@[reducible] def d_spec_ChangedPages_3_x0 : SD := ⟨[.bot, .bot, .ptr 2 0, .ptr 3 0, .bot, .data false (.sl (.own (some 61440)) (.int .i64)), .data false (.int .i64), .bot, .bot, .bot, .bot, .bot, .bot, .bot, .bot, .bot, .bot, .bot, .bot, .bot, .bot, .bot, .bot, .bot, .bot, .bot, .bot, .bot, .bot, .bot, .bot, .bot, .bot, .bot, .bot, .bot, .bot, .bot], [none, none, some (.sl .arg .str), some (.sl .arg .str), none, none, none, none, none, none, none, none, none, none, none, none, none, none, none, none, none, none, none, none, none, none, none, none, none, none, none, none, none, none, none, none, none, none], none⟩
noncomputable def l_spec_ChangedPages_3 : LEnt := ⟨d_spec_ChangedPages_3, fun X K => iterL (Pu.spec_ChangedPages_T3 (fun y0 y1 => K (.exit 0) (SD.enc d_spec_ChangedPages_3_x0 ((y0, (y1, ())), ((X.2.1.1), ((X.2.1.2.1), ())), ()))) X.2.1.1 X.2.1.2.1) fuel (X.1.1, X.1.2.1)⟩
noncomputable def L_spec_ChangedPages : Lam := (Lam.nil).add 3 l_spec_ChangedPages_3
theorem lok_spec_ChangedPages_3 : LOk E g_spec_ChangedPages n_spec_ChangedPages L_spec_ChangedPages (loopBody Try.f61 0) :=
  lok l_spec_ChangedPages_3 (by kernel_rfl) fuel fun R X K => (loop_iter (σ := (List Int) × Int) (fun x => SD.enc d_spec_ChangedPages_3 ((x.1, (x.2, ())), (X.2.1.1, (X.2.1.2.1, ())), ())) (Pu.spec_ChangedPages_T3 (fun y0 y1 => K (.exit 0) (SD.enc d_spec_ChangedPages_3_x0 ((y0, (y1, ())), ((X.2.1.1), ((X.2.1.2.1), ())), ()))) X.2.1.1 X.2.1.2.1) (fun m x => by kernel_rfl) fuel (X.1.1, X.1.2.1)).symm
theorem h_spec_ChangedPages : ∀ c ∈ loopsOf (Try.f61.body.getD .skip), LOk E g_spec_ChangedPages n_spec_ChangedPages L_spec_ChangedPages c := by
  have e : loopsOf (Try.f61.body.getD .skip) = [loopBody Try.f61 0] := by kernel_rfl
  rw [e]; simp only [List.forall_mem_cons]; exact ⟨lok_spec_ChangedPages_3, by simp⟩
theorem ok_spec_ChangedPages : FnOk Try.prog 61 e_spec_ChangedPages := FnOk.of (fnOk S_spec_ChangedPages Try.func61 (by kernel_rfl) h_spec_ChangedPages) (fun a => by kernel_rfl)
@[reducible] def s_spec_l24Has : List PS := [.data false (.sl (.int .i64)), .data false (.int .i64)]
@[reducible] def r_spec_l24Has : List (Bool × FT) := [(false, .bool)]
noncomputable def F_spec_l24Has (a : Args s_spec_l24Has) : Option (resD r_spec_l24Has) := Pu.spec_l24Has a.1 a.2.1
noncomputable def e_spec_l24Has : GEnt := entOf s_spec_l24Has r_spec_l24Has F_spec_l24Has
noncomputable def g_spec_l24Has : Gam := Gam.nil
theorem S_spec_l24Has : Sound Try.prog E g_spec_l24Has := base
def n_spec_l24Has : An := { mask := fun | 2 => [0, 1, 4, 5] | _ => [] }
@[reducible] def d_spec_l24Has_2 : SD := ⟨[.data false (.sl .arg (.int .i64)), .data false (.int .i64), .bot, .bot, .data false .bool, .data false (.int .i64), .bot, .bot, .bot, .bot, .bot, .bot, .bot, .bot, .bot, .bot, .bot, .bot], [none, none, none, none, none, none, none, none, none, none, none, none, none, none, none, none, none, none], none⟩
@[reducible] def d_spec_l24Has_2_x0 : SD := ⟨[.data false (.sl .arg (.int .i64)), .data false (.int .i64), .bot, .bot, .data false .bool, .data false (.int .i64), .bot, .bot, .bot, .bot, .bot, .bot, .bot, .bot, .bot, .bot, .bot, .bot], [none, none, none, none, none, none, none, none, none, none, none, none, none, none, none, none, none, none], none⟩
@[reducible] def d_spec_l24Has_2_ret : SD := ⟨[.data false (.sl .arg (.int .i64)), .data false (.int .i64), .bot, .bot, .data false .bool, .data false (.int .i64), .bot, .bot, .bot, .bot, .bot, .bot, .bot, .bot, .bot, .bot, .bot, .bot], [none, none, none, none, none, none, none, none, none, none, none, none, none, none, none, none, none, none], none⟩
noncomputable def l_spec_l24Has_2 : LEnt := ⟨d_spec_l24Has_2, fun X K => iterL (Pu.spec_l24Has_T2 (fun y0 => K (.exit 0) (SD.enc d_spec_l24Has_2_x0 (((X.1.1), ((X.1.2.1), ((X.1.2.2.1), (y0, ())))), (), ()))) (fun y0 y1 => K .ret (SD.enc d_spec_l24Has_2_ret (((X.1.1), ((X.1.2.1), (y0, (y1, ())))), (), ()))) X.1.1 X.1.2.1 X.1.2.2.1) fuel X.1.2.2.2.1⟩
noncomputable def L_spec_l24Has : Lam := (Lam.nil).add 2 l_spec_l24Has_2
theorem lok_spec_l24Has_2 : LOk E g_spec_l24Has n_spec_l24Has L_spec_l24Has (loopBody Try.f62 0) :=
  lok l_spec_l24Has_2 (by kernel_rfl) fuel fun R X K => (loop_iter (σ := Int) (fun x => SD.enc d_spec_l24Has_2 ((X.1.1, (X.1.2.1, (X.1.2.2.1, (x, ())))), (), ())) (Pu.spec_l24Has_T2 (fun y0 => K (.exit 0) (SD.enc d_spec_l24Has_2_x0 (((X.1.1), ((X.1.2.1), ((X.1.2.2.1), (y0, ())))), (), ()))) (fun y0 y1 => K .ret (SD.enc d_spec_l24Has_2_ret (((X.1.1), ((X.1.2.1), (y0, (y1, ())))), (), ()))) X.1.1 X.1.2.1 X.1.2.2.1) (fun m x => by kernel_rfl) fuel X.1.2.2.2.1).symm
theorem h_spec_l24Has : ∀ c ∈ loopsOf (Try.f62.body.getD .skip), LOk E g_spec_l24Has n_spec_l24Has L_spec_l24Has c := by
  have e : loopsOf (Try.f62.body.getD .skip) = [loopBody Try.f62 0] := by kernel_rfl
  rw [e]; simp only [List.forall_mem_cons]; exact ⟨lok_spec_l24Has_2, by simp⟩
theorem ok_spec_l24Has : FnOk Try.prog 62 e_spec_l24Has := FnOk.of (fnOk S_spec_l24Has Try.func62 (by kernel_rfl) h_spec_l24Has) (fun a => by kernel_rfl)
@[reducible] def s_spec_NoteChanges : List PS := [.data true TMove, .data true (.sl .str), .data true (.sl .str)]
@[reducible] def r_spec_NoteChanges : List (Bool × FT) := [(true, (.pair (.sl (.own none) .str) (.pair (.sl (.own none) (.int .i64)) (.int .i64))))]
noncomputable def F_spec_NoteChanges (a : Args s_spec_NoteChanges) : Option (resD r_spec_NoteChanges) := Pu.spec_NoteChanges a.1 a.2.1 a.2.2.1
noncomputable def e_spec_NoteChanges : GEnt := entOf s_spec_NoteChanges r_spec_NoteChanges F_spec_NoteChanges
noncomputable def g_spec_NoteChanges : Gam := (((Gam.nil).add 58 e_spec_l39Copy).add 61 e_spec_ChangedPages).add 62 e_spec_l24Has
theorem S_spec_NoteChanges : Sound Try.prog E g_spec_NoteChanges := (((base).add ok_spec_l39Copy).add ok_spec_ChangedPages).add ok_spec_l24Has
def n_spec_NoteChanges : An := { mask := fun | 4 => [6, 7, 8, 9] | 8 => [6, 7, 8, 9, 10] | _ => [], merge := fun | 8 => some 45 | _ => none, mv := [66] }
@[reducible] def d_spec_NoteChanges_8 : SD := ⟨[.bot, .bot, .bot, .bot, .bot, .bot, .ptr 6 0, .ptr 7 0, .data false (.sl (.own (some 98304)) (.int .i64)), .data false (.int .i64), .data false (.int .i64), .bot, .bot, .bot, .bot, .bot, .bot, .bot, .bot, .bot, .bot, .bot, .bot, .bot, .bot, .bot, .bot, .bot, .bot, .bot, .bot, .bot, .bot, .bot, .bot, .bot, .bot, .bot, .bot, .bot, .bot, .bot, .bot, .bot, .bot, .bot, .bot, .bot, .bot, .bot, .bot, .bot, .bot, .bot, .bot, .bot, .bot, .bot, .bot, .bot, .bot, .bot, .bot, .bot, .bot, .bot, .bot], [none, none, none, none, none, none, some (.pair (.sl (.own (some 73729)) .str) (.pair (.sl (.own (some 73732)) (.int .i64)) (.int .i64))), some (.pair (.sl (.own (some 86017)) .str) (.pair (.sl (.own (some 86020)) (.int .i64)) (.int .i64))), none, none, none, none, none, none, none, none, none, none, none, none, none, none, none, none, none, none, none, none, none, none, none, none, none, none, none, none, none, none, none, none, none, none, none, none, none, none, none, none, none, none, none, none, none, none, none, none, none, none, none, none, none, none, none, none, none, none, none], none⟩
@[reducible] def d_spec_NoteChanges_8_x2 : SD := ⟨[.bot, .bot, .bot, .bot, .bot, .bot, .ptr 6 0, .ptr 7 0, .data false (.sl (.own (some 98304)) (.int .i64)), .data false (.int .i64), .data false (.int .i64), .bot, .bot, .bot, .bot, .bot, .bot, .bot, .bot, .bot, .bot, .bot, .bot, .bot, .bot, .bot, .bot, .bot, .bot, .bot, .bot, .bot, .bot, .bot, .bot, .bot, .bot, .bot, .bot, .bot, .bot, .bot, .bot, .bot, .bot, .bot, .bot, .bot, .bot, .bot, .bot, .bot, .bot, .bot, .bot, .bot, .bot, .bot, .bot, .bot, .bot, .bot, .bot, .bot, .bot, .bot, .bot], [none, none, none, none, none, none, some (.pair (.sl (.own (some 73729)) .str) (.pair (.sl (.own (some 73732)) (.int .i64)) (.int .i64))), some (.pair (.sl (.own (some 86017)) .str) (.pair (.sl (.own (some 86020)) (.int .i64)) (.int .i64))), none, none, none, none, none, none, none, none, none, none, none, none, none, none, none, none, none, none, none, none, none, none, none, none, none, none, none, none, none, none, none, none, none, none, none, none, none, none, none, none, none, none, none, none, none, none, none, none, none, none, none, none, none, none, none, none, none, none, none], none⟩
noncomputable def l_spec_NoteChanges_8 : LEnt := ⟨d_spec_NoteChanges_8, fun X K => iterL (Pu.spec_NoteChanges_T8 (fun y0 => K (.exit 2) (SD.enc d_spec_NoteChanges_8_x2 (((X.1.1), ((X.1.2.1), (y0, ()))), ((X.2.1.1), ((X.2.1.2.1), ())), ()))) X.1.1 X.1.2.1 X.2.1.1 X.2.1.2.1) fuel X.1.2.2.1⟩
@[reducible] def d_spec_NoteChanges_4 : SD := ⟨[.bot, .bot, .bot, .bot, .bot, .bot, .ptr 6 0, .ptr 7 0, .data false (.sl (.own (some 98304)) (.int .i64)), .data false (.int .i64), .bot, .bot, .bot, .bot, .bot, .bot, .bot, .bot, .bot, .bot, .bot, .bot, .bot, .bot, .bot, .bot, .bot, .bot, .bot, .bot, .bot, .bot, .bot, .bot, .bot, .bot, .bot, .bot, .bot, .bot, .bot, .bot, .bot, .bot, .bot, .bot, .bot, .bot, .bot, .bot, .bot, .bot, .bot, .bot, .bot, .bot, .bot, .bot, .bot, .bot, .bot, .bot, .bot, .bot, .bot, .bot, .bot], [none, none, none, none, none, none, some (.pair (.sl (.own (some 73729)) .str) (.pair (.sl (.own (some 73732)) (.int .i64)) (.int .i64))), some (.pair (.sl (.own (some 86017)) .str) (.pair (.sl (.own (some 86020)) (.int .i64)) (.int .i64))), none, none, none, none, none, none, none, none, none, none, none, none, none, none, none, none, none, none, none, none, none, none, none, none, none, none, none, none, none, none, none, none, none, none, none, none, none, none, none, none, none, none, none, none, none, none, none, none, none, none, none, none, none, none, none, none, none, none, none], none⟩
@[reducible] def d_spec_NoteChanges_4_x0 : SD := ⟨[.bot, .bot, .bot, .bot, .bot, .bot, .ptr 6 0, .ptr 7 0, .data false (.sl (.own (some 98304)) (.int .i64)), .data false (.int .i64), .bot, .bot, .bot, .bot, .bot, .bot, .bot, .bot, .bot, .bot, .bot, .bot, .bot, .bot, .bot, .bot, .bot, .bot, .bot, .bot, .bot, .bot, .bot, .bot, .bot, .bot, .bot, .bot, .bot, .bot, .bot, .bot, .bot, .bot, .bot, .bot, .bot, .bot, .bot, .bot, .bot, .bot, .bot, .bot, .bot, .bot, .bot, .bot, .bot, .bot, .bot, .bot, .bot, .bot, .bot, .bot, .bot], [none, none, none, none, none, none, some (.pair (.sl (.own (some 73729)) .str) (.pair (.sl (.own (some 73732)) (.int .i64)) (.int .i64))), some (.pair (.sl (.own (some 86017)) .str) (.pair (.sl (.own (some 86020)) (.int .i64)) (.int .i64))), none, none, none, none, none, none, none, none, none, none, none, none, none, none, none, none, none, none, none, none, none, none, none, none, none, none, none, none, none, none, none, none, none, none, none, none, none, none, none, none, none, none, none, none, none, none, none, none, none, none, none, none, none, none, none, none, none, none, none], none⟩
noncomputable def l_spec_NoteChanges_4 : LEnt := ⟨d_spec_NoteChanges_4, fun X K => iterL (Pu.spec_NoteChanges_T4 (fun y0 y1 => K (.exit 0) (SD.enc d_spec_NoteChanges_4_x0 (((X.1.1), (y0, ())), ((X.2.1.1), (y1, ())), ()))) X.1.1 X.2.1.1) fuel (X.1.2.1, X.2.1.2.1)⟩
noncomputable def L_spec_NoteChanges : Lam := ((Lam.nil).add 8 l_spec_NoteChanges_8).add 4 l_spec_NoteChanges_4
theorem lok_spec_NoteChanges_8 : LOk E g_spec_NoteChanges n_spec_NoteChanges L_spec_NoteChanges (loopBody Try.f36 1) :=
  lok l_spec_NoteChanges_8 (by kernel_rfl) fuel fun R X K => (loop_iter (σ := Int) (fun x => SD.enc d_spec_NoteChanges_8 ((X.1.1, (X.1.2.1, (x, ()))), (X.2.1.1, (X.2.1.2.1, ())), ())) (Pu.spec_NoteChanges_T8 (fun y0 => K (.exit 2) (SD.enc d_spec_NoteChanges_8_x2 (((X.1.1), ((X.1.2.1), (y0, ()))), ((X.2.1.1), ((X.2.1.2.1), ())), ()))) X.1.1 X.1.2.1 X.2.1.1 X.2.1.2.1) (fun m x => by kernel_rfl) fuel X.1.2.2.1).symm
theorem lok_spec_NoteChanges_4 : LOk E g_spec_NoteChanges n_spec_NoteChanges L_spec_NoteChanges (loopBody Try.f36 0) :=
  lok l_spec_NoteChanges_4 (by kernel_rfl) fuel fun R X K => (loop_iter (σ := Int × Pu.Move) (fun x => SD.enc d_spec_NoteChanges_4 ((X.1.1, (x.1, ())), (X.2.1.1, (x.2, ())), ())) (Pu.spec_NoteChanges_T4 (fun y0 y1 => K (.exit 0) (SD.enc d_spec_NoteChanges_4_x0 (((X.1.1), (y0, ())), ((X.2.1.1), (y1, ())), ()))) X.1.1 X.2.1.1) (fun m x => by kernel_rfl) fuel (X.1.2.1, X.2.1.2.1)).symm
theorem h_spec_NoteChanges : ∀ c ∈ loopsOf (Try.f36.body.getD .skip), LOk E g_spec_NoteChanges n_spec_NoteChanges L_spec_NoteChanges c := by
  have e : loopsOf (Try.f36.body.getD .skip) = [loopBody Try.f36 0, loopBody Try.f36 1] := by kernel_rfl
  rw [e]; simp only [List.forall_mem_cons]; exact ⟨lok_spec_NoteChanges_4, lok_spec_NoteChanges_8, by simp⟩
theorem ok_spec_NoteChanges : FnOk Try.prog 36 e_spec_NoteChanges := FnOk.of (fnOk S_spec_NoteChanges Try.func36 (by kernel_rfl) h_spec_NoteChanges) (fun a => by kernel_rfl)
@[reducible] def s_impl_copyInts : List PS := [.data false (.sl (.int .i64))]
@[reducible] def r_impl_copyInts : List (Bool × FT) := [(false, (.sl (.own none) (.int .i64)))]
noncomputable def F_impl_copyInts (a : Args s_impl_copyInts) : Option (resD r_impl_copyInts) := Pu.impl_copyInts a.1
noncomputable def e_impl_copyInts : GEnt := entOf s_impl_copyInts r_impl_copyInts F_impl_copyInts
noncomputable def g_impl_copyInts : Gam := Gam.nil
theorem S_impl_copyInts : Sound Try.prog E g_impl_copyInts := base
def n_impl_copyInts : An := {  }
noncomputable def L_impl_copyInts : Lam := Lam.nil
theorem h_impl_copyInts : ∀ c ∈ loopsOf (Try.f63.body.getD .skip), LOk E g_impl_copyInts n_impl_copyInts L_impl_copyInts c := by
  have e : loopsOf (Try.f63.body.getD .skip) = [] := by kernel_rfl
  rw [e]; simp
theorem ok_impl_copyInts : FnOk Try.prog 63 e_impl_copyInts := FnOk.of (fnOk S_impl_copyInts Try.func63 (by kernel_rfl) h_impl_copyInts) (fun a => by kernel_rfl)
@[reducible] def s_impl_ChangedPages : List PS := [.data true (.sl .str), .data true (.sl .str)]
@[reducible] def r_impl_ChangedPages : List (Bool × FT) := [(false, (.sl (.own none) (.int .i64)))]
noncomputable def F_impl_ChangedPages (a : Args s_impl_ChangedPages) : Option (resD r_impl_ChangedPages) := Pu.impl_ChangedPages a.1 a.2.1
noncomputable def e_impl_ChangedPages : GEnt := entOf s_impl_ChangedPages r_impl_ChangedPages F_impl_ChangedPages
noncomputable def g_impl_ChangedPages : Gam := Gam.nil
theorem S_impl_ChangedPages : Sound Try.prog E g_impl_ChangedPages := base
def n_impl_ChangedPages : An := { mask := fun | 3 => [2, 5, 10, 11, 12] | _ => [], merge := fun | 5 => some 30 | _ => none, mv := [31, 36] }
@[reducible] def d_impl_ChangedPages_3 : SD := ⟨[.bot, .bot, .ptr 2 0, .bot, .bot, .data false (.sl (.own (some 61440)) (.int .i64)), .bot, .bot, .bot, .bot, .data false (.sl .arg .str), .data false (.int .i64), .data false (.int .i64), .bot, .bot, .bot, .bot, .bot, .bot, .bot, .bot, .bot, .bot, .bot, .bot, .bot, .bot, .bot, .bot, .bot, .bot, .bot, .bot, .bot, .bot, .bot, .bot], [none, none, some (.sl .arg .str), none, none, none, none, none, none, none, none, none, none, none, none, none, none, none, none, none, none, none, none, none, none, none, none, none, none, none, none, none, none, none, none, none, none], none⟩
@[reducible] def d_impl_ChangedPages_3_x0 : SD := ⟨[.bot, .bot, .ptr 2 0, .bot, .bot, .data false (.sl (.own (some 61440)) (.int .i64)), .bot, .bot, .bot, .bot, .data false (.sl .arg .str), .data false (.int .i64), .data false (.int .i64), .bot, .bot, .bot, .bot, .bot, .bot, .bot, .bot, .bot, .bot, .bot, .bot, .bot, .bot, .bot, .bot, .bot, .bot, .bot, .bot, .bot, .bot, .bot, .bot], [none, none, some (.sl .arg .str), none, none, none, none, none, none, none, none, none, none, none, none, none, none, none, none, none, none, none, none, none, none, none, none, none, none, none, none, none, none, none, none, none, none], none⟩
noncomputable def l_impl_ChangedPages_3 : LEnt := ⟨d_impl_ChangedPages_3, fun X K => iterL (Pu.impl_ChangedPages_T3 (fun y0 y1 => K (.exit 0) (SD.enc d_impl_ChangedPages_3_x0 ((y0, ((X.1.2.1), ((X.1.2.2.1), (y1, ())))), ((X.2.1.1), ()), ()))) X.1.2.1 X.1.2.2.1 X.2.1.1) fuel (X.1.1, X.1.2.2.2.1)⟩
noncomputable def L_impl_ChangedPages : Lam := (Lam.nil).add 3 l_impl_ChangedPages_3
theorem lok_impl_ChangedPages_3 : LOk E g_impl_ChangedPages n_impl_ChangedPages L_impl_ChangedPages (loopBody Try.f64 0) :=
  lok l_impl_ChangedPages_3 (by kernel_rfl) fuel fun R X K => (loop_iter (σ := (List Int) × Int) (fun x => SD.enc d_impl_ChangedPages_3 ((x.1, (X.1.2.1, (X.1.2.2.1, (x.2, ())))), (X.2.1.1, ()), ())) (Pu.impl_ChangedPages_T3 (fun y0 y1 => K (.exit 0) (SD.enc d_impl_ChangedPages_3_x0 ((y0, ((X.1.2.1), ((X.1.2.2.1), (y1, ())))), ((X.2.1.1), ()), ()))) X.1.2.1 X.1.2.2.1 X.2.1.1) (fun m x => by kernel_rfl) fuel (X.1.1, X.1.2.2.2.1)).symm
theorem h_impl_ChangedPages : ∀ c ∈ loopsOf (Try.f64.body.getD .skip), LOk E g_impl_ChangedPages n_impl_ChangedPages L_impl_ChangedPages c := by
  have e : loopsOf (Try.f64.body.getD .skip) = [loopBody Try.f64 0] := by kernel_rfl
  rw [e]; simp only [List.forall_mem_cons]; exact ⟨lok_impl_ChangedPages_3, by simp⟩
theorem ok_impl_ChangedPages : FnOk Try.prog 64 e_impl_ChangedPages := FnOk.of (fnOk S_impl_ChangedPages Try.func64 (by kernel_rfl) h_impl_ChangedPages) (fun a => by kernel_rfl)
@[reducible] def s_impl_hasInt : List PS := [.data false (.sl (.int .i64)), .data false (.int .i64)]
@[reducible] def r_impl_hasInt : List (Bool × FT) := [(false, .bool)]
noncomputable def F_impl_hasInt (a : Args s_impl_hasInt) : Option (resD r_impl_hasInt) := Pu.impl_hasInt a.1 a.2.1
noncomputable def e_impl_hasInt : GEnt := entOf s_impl_hasInt r_impl_hasInt F_impl_hasInt
noncomputable def g_impl_hasInt : Gam := Gam.nil
theorem S_impl_hasInt : Sound Try.prog E g_impl_hasInt := base
def n_impl_hasInt : An := { mask := fun | 2 => [1, 4, 7, 8, 9] | _ => [] }
@[reducible] def d_impl_hasInt_2 : SD := ⟨[.bot, .data false (.int .i64), .bot, .bot, .data false .bool, .bot, .bot, .data false (.sl .arg (.int .i64)), .data false (.int .i64), .data false (.int .i64), .bot, .bot, .bot, .bot, .bot, .bot, .bot], [none, none, none, none, none, none, none, none, none, none, none, none, none, none, none, none, none], none⟩
@[reducible] def d_impl_hasInt_2_x0 : SD := ⟨[.bot, .data false (.int .i64), .bot, .bot, .data false .bool, .bot, .bot, .data false (.sl .arg (.int .i64)), .data false (.int .i64), .data false (.int .i64), .bot, .bot, .bot, .bot, .bot, .bot, .bot], [none, none, none, none, none, none, none, none, none, none, none, none, none, none, none, none, none], none⟩
@[reducible] def d_impl_hasInt_2_ret : SD := ⟨[.bot, .data false (.int .i64), .bot, .bot, .data false .bool, .bot, .bot, .data false (.sl .arg (.int .i64)), .data false (.int .i64), .data false (.int .i64), .bot, .bot, .bot, .bot, .bot, .bot, .bot], [none, none, none, none, none, none, none, none, none, none, none, none, none, none, none, none, none], none⟩
noncomputable def l_impl_hasInt_2 : LEnt := ⟨d_impl_hasInt_2, fun X K => iterL (Pu.impl_hasInt_T2 (fun y0 => K (.exit 0) (SD.enc d_impl_hasInt_2_x0 (((X.1.1), ((X.1.2.1), ((X.1.2.2.1), ((X.1.2.2.2.1), (y0, ()))))), (), ()))) (fun y0 y1 => K .ret (SD.enc d_impl_hasInt_2_ret (((X.1.1), (y0, ((X.1.2.2.1), ((X.1.2.2.2.1), (y1, ()))))), (), ()))) X.1.1 X.1.2.1 X.1.2.2.1 X.1.2.2.2.1) fuel X.1.2.2.2.2.1⟩
noncomputable def L_impl_hasInt : Lam := (Lam.nil).add 2 l_impl_hasInt_2
theorem lok_impl_hasInt_2 : LOk E g_impl_hasInt n_impl_hasInt L_impl_hasInt (loopBody Try.f65 0) :=
  lok l_impl_hasInt_2 (by kernel_rfl) fuel fun R X K => (loop_iter (σ := Int) (fun x => SD.enc d_impl_hasInt_2 ((X.1.1, (X.1.2.1, (X.1.2.2.1, (X.1.2.2.2.1, (x, ()))))), (), ())) (Pu.impl_hasInt_T2 (fun y0 => K (.exit 0) (SD.enc d_impl_hasInt_2_x0 (((X.1.1), ((X.1.2.1), ((X.1.2.2.1), ((X.1.2.2.2.1), (y0, ()))))), (), ()))) (fun y0 y1 => K .ret (SD.enc d_impl_hasInt_2_ret (((X.1.1), (y0, ((X.1.2.2.1), ((X.1.2.2.2.1), (y1, ()))))), (), ()))) X.1.1 X.1.2.1 X.1.2.2.1 X.1.2.2.2.1) (fun m x => by kernel_rfl) fuel X.1.2.2.2.2.1).symm
theorem h_impl_hasInt : ∀ c ∈ loopsOf (Try.f65.body.getD .skip), LOk E g_impl_hasInt n_impl_hasInt L_impl_hasInt c := by
  have e : loopsOf (Try.f65.body.getD .skip) = [loopBody Try.f65 0] := by kernel_rfl
  rw [e]; simp only [List.forall_mem_cons]; exact ⟨lok_impl_hasInt_2, by simp⟩
theorem ok_impl_hasInt : FnOk Try.prog 65 e_impl_hasInt := FnOk.of (fnOk S_impl_hasInt Try.func65 (by kernel_rfl) h_impl_hasInt) (fun a => by kernel_rfl)
@[reducible] def s_impl_addOrdered : List PS := [.data false (.sl (.int .i64)), .data false (.int .i64)]
@[reducible] def r_impl_addOrdered : List (Bool × FT) := [(false, (.sl (.own none) (.int .i64)))]
noncomputable def F_impl_addOrdered (a : Args s_impl_addOrdered) : Option (resD r_impl_addOrdered) := Pu.impl_addOrdered a.1 a.2.1
noncomputable def e_impl_addOrdered : GEnt := entOf s_impl_addOrdered r_impl_addOrdered F_impl_addOrdered
noncomputable def g_impl_addOrdered : Gam := Gam.nil
theorem S_impl_addOrdered : Sound Try.prog E g_impl_addOrdered := base
def n_impl_addOrdered : An := { mask := fun | 4 => [1, 5, 6, 10, 11, 12] | _ => [], merge := fun | 6 => some 22 | _ => none, mv := [23, 27, 34, 38] }
@[reducible] def d_impl_addOrdered_4 : SD := ⟨[.bot, .data false (.int .i64), .bot, .bot, .bot, .data false (.sl (.own (some 61440)) (.int .i64)), .data false .bool, .bot, .bot, .bot, .data false (.sl .arg (.int .i64)), .data false (.int .i64), .data false (.int .i64), .bot, .bot, .bot, .bot, .bot, .bot, .bot, .bot, .bot, .bot, .bot, .bot, .bot, .bot, .bot, .bot, .bot, .bot, .bot, .bot, .bot, .bot, .bot, .bot, .bot, .bot], [none, none, none, none, none, none, none, none, none, none, none, none, none, none, none, none, none, none, none, none, none, none, none, none, none, none, none, none, none, none, none, none, none, none, none, none, none, none, none], none⟩
@[reducible] def d_impl_addOrdered_4_x0 : SD := ⟨[.bot, .data false (.int .i64), .bot, .bot, .bot, .data false (.sl (.own (some 61440)) (.int .i64)), .data false .bool, .bot, .bot, .bot, .data false (.sl .arg (.int .i64)), .data false (.int .i64), .data false (.int .i64), .bot, .bot, .bot, .bot, .bot, .bot, .bot, .bot, .bot, .bot, .bot, .bot, .bot, .bot, .bot, .bot, .bot, .bot, .bot, .bot, .bot, .bot, .bot, .bot, .bot, .bot], [none, none, none, none, none, none, none, none, none, none, none, none, none, none, none, none, none, none, none, none, none, none, none, none, none, none, none, none, none, none, none, none, none, none, none, none, none, none, none], none⟩
noncomputable def l_impl_addOrdered_4 : LEnt := ⟨d_impl_addOrdered_4, fun X K => iterL (Pu.impl_addOrdered_T4 (fun y0 y1 y2 => K (.exit 0) (SD.enc d_impl_addOrdered_4_x0 (((X.1.1), (y0, (y1, ((X.1.2.2.2.1), ((X.1.2.2.2.2.1), (y2, ())))))), (), ()))) X.1.1 X.1.2.2.2.1 X.1.2.2.2.2.1) fuel (X.1.2.1, X.1.2.2.1, X.1.2.2.2.2.2.1)⟩
noncomputable def L_impl_addOrdered : Lam := (Lam.nil).add 4 l_impl_addOrdered_4
theorem lok_impl_addOrdered_4 : LOk E g_impl_addOrdered n_impl_addOrdered L_impl_addOrdered (loopBody Try.f66 0) :=
  lok l_impl_addOrdered_4 (by kernel_rfl) fuel fun R X K => (loop_iter (σ := (List Int) × Bool × Int) (fun x => SD.enc d_impl_addOrdered_4 ((X.1.1, (x.1, (x.2.1, (X.1.2.2.2.1, (X.1.2.2.2.2.1, (x.2.2, ())))))), (), ())) (Pu.impl_addOrdered_T4 (fun y0 y1 y2 => K (.exit 0) (SD.enc d_impl_addOrdered_4_x0 (((X.1.1), (y0, (y1, ((X.1.2.2.2.1), ((X.1.2.2.2.2.1), (y2, ())))))), (), ()))) X.1.1 X.1.2.2.2.1 X.1.2.2.2.2.1) (fun m x => by kernel_rfl) fuel (X.1.2.1, X.1.2.2.1, X.1.2.2.2.2.2.1)).symm
theorem h_impl_addOrdered : ∀ c ∈ loopsOf (Try.f66.body.getD .skip), LOk E g_impl_addOrdered n_impl_addOrdered L_impl_addOrdered c := by
  have e : loopsOf (Try.f66.body.getD .skip) = [loopBody Try.f66 0] := by kernel_rfl
  rw [e]; simp only [List.forall_mem_cons]; exact ⟨lok_impl_addOrdered_4, by simp⟩
theorem ok_impl_addOrdered : FnOk Try.prog 66 e_impl_addOrdered := FnOk.of (fnOk S_impl_addOrdered Try.func66 (by kernel_rfl) h_impl_addOrdered) (fun a => by kernel_rfl)
@[reducible] def s_impl_NoteChanges : List PS := [.data true TMove, .data true (.sl .str), .data true (.sl .str)]
@[reducible] def r_impl_NoteChanges : List (Bool × FT) := [(true, (.pair (.sl (.own none) .str) (.pair (.sl (.own none) (.int .i64)) (.int .i64))))]
noncomputable def F_impl_NoteChanges (a : Args s_impl_NoteChanges) : Option (resD r_impl_NoteChanges) := Pu.impl_NoteChanges a.1 a.2.1 a.2.2.1
noncomputable def e_impl_NoteChanges : GEnt := entOf s_impl_NoteChanges r_impl_NoteChanges F_impl_NoteChanges
noncomputable def g_impl_NoteChanges : Gam := (((((Gam.nil).add 50 e_impl_copyMemory).add 63 e_impl_copyInts).add 64 e_impl_ChangedPages).add 65 e_impl_hasInt).add 66 e_impl_addOrdered
theorem S_impl_NoteChanges : Sound Try.prog E g_impl_NoteChanges := (((((base).add ok_impl_copyMemory).add ok_impl_copyInts).add ok_impl_ChangedPages).add ok_impl_hasInt).add ok_impl_addOrdered
def n_impl_NoteChanges : An := { mask := fun | 3 => [6, 7, 21, 22, 23] | _ => [], mv := [38] }
@[reducible] def d_impl_NoteChanges_3 : SD := ⟨[.bot, .bot, .bot, .bot, .bot, .bot, .ptr 6 0, .ptr 7 0, .bot, .bot, .bot, .bot, .bot, .bot, .bot, .bot, .bot, .bot, .bot, .bot, .bot, .data false (.sl (.own (some 258048)) (.int .i64)), .data false (.int .i64), .data false (.int .i64), .bot, .bot, .bot, .bot, .bot, .bot, .bot, .bot, .bot, .bot, .bot, .bot, .bot, .bot, .bot], [none, none, none, none, none, none, some (.pair (.sl (.own (some 73729)) .str) (.pair (.sl (.own (some 73732)) (.int .i64)) (.int .i64))), some (.pair (.sl (.own (some 86017)) .str) (.pair (.sl (.own (some 86020)) (.int .i64)) (.int .i64))), none, none, none, none, none, none, none, none, none, none, none, none, none, none, none, none, none, none, none, none, none, none, none, none, none, none, none, none, none, none, none], none⟩
@[reducible] def d_impl_NoteChanges_3_x0 : SD := ⟨[.bot, .bot, .bot, .bot, .bot, .bot, .ptr 6 0, .ptr 7 0, .bot, .bot, .bot, .bot, .bot, .bot, .bot, .bot, .bot, .bot, .bot, .bot, .bot, .data false (.sl (.own (some 258048)) (.int .i64)), .data false (.int .i64), .data false (.int .i64), .bot, .bot, .bot, .bot, .bot, .bot, .bot, .bot, .bot, .bot, .bot, .bot, .bot, .bot, .bot], [none, none, none, none, none, none, some (.pair (.sl (.own (some 73729)) .str) (.pair (.sl (.own (some 73732)) (.int .i64)) (.int .i64))), some (.pair (.sl (.own (some 86017)) .str) (.pair (.sl (.own (some 86020)) (.int .i64)) (.int .i64))), none, none, none, none, none, none, none, none, none, none, none, none, none, none, none, none, none, none, none, none, none, none, none, none, none, none, none, none, none, none, none], none⟩
noncomputable def l_impl_NoteChanges_3 : LEnt := ⟨d_impl_NoteChanges_3, fun X K => iterL (Pu.impl_NoteChanges_T3 (fun y0 y1 => K (.exit 0) (SD.enc d_impl_NoteChanges_3_x0 (((X.1.1), ((X.1.2.1), (y0, ()))), ((X.2.1.1), (y1, ())), ()))) X.1.1 X.1.2.1 X.2.1.1) fuel (X.1.2.2.1, X.2.1.2.1)⟩
noncomputable def L_impl_NoteChanges : Lam := (Lam.nil).add 3 l_impl_NoteChanges_3
theorem lok_impl_NoteChanges_3 : LOk E g_impl_NoteChanges n_impl_NoteChanges L_impl_NoteChanges (loopBody Try.f37 0) :=
  lok l_impl_NoteChanges_3 (by kernel_rfl) fuel fun R X K => (loop_iter (σ := Int × Pu.Move) (fun x => SD.enc d_impl_NoteChanges_3 ((X.1.1, (X.1.2.1, (x.1, ()))), (X.2.1.1, (x.2, ())), ())) (Pu.impl_NoteChanges_T3 (fun y0 y1 => K (.exit 0) (SD.enc d_impl_NoteChanges_3_x0 (((X.1.1), ((X.1.2.1), (y0, ()))), ((X.2.1.1), (y1, ())), ()))) X.1.1 X.1.2.1 X.2.1.1) (fun m x => by kernel_rfl) fuel (X.1.2.2.1, X.2.1.2.1)).symm
theorem h_impl_NoteChanges : ∀ c ∈ loopsOf (Try.f37.body.getD .skip), LOk E g_impl_NoteChanges n_impl_NoteChanges L_impl_NoteChanges c := by
  have e : loopsOf (Try.f37.body.getD .skip) = [loopBody Try.f37 0] := by kernel_rfl
  rw [e]; simp only [List.forall_mem_cons]; exact ⟨lok_impl_NoteChanges_3, by simp⟩
theorem ok_impl_NoteChanges : FnOk Try.prog 37 e_impl_NoteChanges := FnOk.of (fnOk S_impl_NoteChanges Try.func37 (by kernel_rfl) h_impl_NoteChanges) (fun a => by kernel_rfl)
@[reducible] def s_laws_FnExactNoteChanges : List PS := [.data true TMove, .data true (.sl .str), .data true (.sl .str)]
@[reducible] def r_laws_FnExactNoteChanges : List (Bool × FT) := [(false, .bool)]
noncomputable def F_laws_FnExactNoteChanges (a : Args s_laws_FnExactNoteChanges) : Option (resD r_laws_FnExactNoteChanges) := Pu.laws_FnExactNoteChanges a.1 a.2.1 a.2.2.1
noncomputable def e_laws_FnExactNoteChanges : GEnt := entOf s_laws_FnExactNoteChanges r_laws_FnExactNoteChanges F_laws_FnExactNoteChanges
noncomputable def g_laws_FnExactNoteChanges : Gam := (((((((((((Gam.nil).add 18 e_laws_szMemory).add 20 e_laws_toMemory).add 22 e_laws_eqMove).add 23 e_laws_eqMemory).add 24 e_laws_markMemory).add 25 e_laws_markMove).add 26 e_laws_heldMove).add 27 e_laws_szMove).add 29 e_laws_toMove).add 36 e_spec_NoteChanges).add 37 e_impl_NoteChanges
theorem S_laws_FnExactNoteChanges : Sound Try.prog E g_laws_FnExactNoteChanges := (((((((((((base).add ok_laws_szMemory).add ok_laws_toMemory).add ok_laws_eqMove).add ok_laws_eqMemory).add ok_laws_markMemory).add ok_laws_markMove).add ok_laws_heldMove).add ok_laws_szMove).add ok_laws_toMove).add ok_spec_NoteChanges).add ok_impl_NoteChanges
def n_laws_FnExactNoteChanges : An := { merge := fun | 28 => some 84 | _ => none }
noncomputable def L_laws_FnExactNoteChanges : Lam := Lam.nil
theorem h_laws_FnExactNoteChanges : ∀ c ∈ loopsOf (Try.f8.body.getD .skip), LOk E g_laws_FnExactNoteChanges n_laws_FnExactNoteChanges L_laws_FnExactNoteChanges c := by
  have e : loopsOf (Try.f8.body.getD .skip) = [] := by kernel_rfl
  rw [e]; simp
theorem ok_laws_FnExactNoteChanges : FnOk Try.prog 8 e_laws_FnExactNoteChanges := FnOk.of (fnOk S_laws_FnExactNoteChanges Try.func8 (by kernel_rfl) h_laws_FnExactNoteChanges) (fun a => by kernel_rfl)

end Go.Proofs.Ytjilbinhppledaa.Fn
