import Derived.Test.YtjilbinhppledaaDnSig
import Derived.Test.YtjilbinhppledaaPure
import Derived.Test.YtjilbinhppledaaRows
/- Each function of the program is its pure function (made by gen.py). -/
namespace Go.Proofs.Ytjilbinhppledaa.Fn
open Go.Dn
open Go.Pu (TSegment TPacket TAct TFlow TStream)
def E : Env := { ty := [(3, ⟨false, (.int .i64), []⟩),
  (4, ⟨false, .bool, []⟩),
  (9, ⟨false, .str, []⟩),
  (23, ⟨true, TSegment, [(0, 1), (1, 1), (2, 1), (3, 1), (4, 1), (5, 1), (6, 1), (7, 1)]⟩),
  (25, ⟨true, TPacket, [(0, 1), (1, 1), (2, 1), (3, 1), (4, 1), (5, 1), (6, 1), (7, 1), (8, 8)]⟩),
  (27, ⟨true, TAct, [(0, 1), (1, 16), (17, 1), (18, 1), (19, 1), (20, 1)]⟩),
  (30, ⟨true, TSegment, [(0, 1), (1, 1), (2, 1), (3, 1), (4, 1), (5, 1), (6, 1), (7, 1)]⟩),
  (32, ⟨true, TPacket, [(0, 1), (1, 1), (2, 1), (3, 1), (4, 1), (5, 1), (6, 1), (7, 1), (8, 8)]⟩),
  (34, ⟨true, TAct, [(0, 1), (1, 16), (17, 1), (18, 1), (19, 1), (20, 1)]⟩),
  (37, ⟨false, (.sl TStream), [(80, 0)]⟩),
  (40, ⟨false, (.sl TStream), [(83, 0)]⟩),
  (64, ⟨false, (.sl TAct), [(27, 0)]⟩),
  (67, ⟨false, (.sl TAct), [(34, 0)]⟩),
  (78, ⟨true, TFlow, [(0, 1), (1, 1), (2, 1), (3, 1), (4, 1)]⟩),
  (80, ⟨true, TStream, [(0, 5), (5, 1), (6, 1), (7, 1)]⟩),
  (81, ⟨true, TFlow, [(0, 1), (1, 1), (2, 1), (3, 1), (4, 1)]⟩),
  (83, ⟨true, TStream, [(0, 5), (5, 1), (6, 1), (7, 1)]⟩)], eqs := [(32, [.int, .int, .int, .int, .int, .int, .int, .int, .int, .int, .int, .int, .int, .int, .int, .str]), (81, [.int, .int, .int, .int, .int]), (83, [.int, .int, .int, .int, .int, .int, .str, .bool])] }
set_option maxRecDepth 100000
theorem base : Sound Try.prog E Gam.nil := Sound.nil (lookE_ok (by kernel_rfl)) (lookQ_ok (by kernel_rfl)) (by kernel_rfl)
@[reducible] def s_laws_szStream : List PS := [.data true TStream, .data false (.int .i64)]
@[reducible] def r_laws_szStream : List (Bool × FT) := [(false, (.int .i64))]
noncomputable def F_laws_szStream (a : Args s_laws_szStream) : Option (resD r_laws_szStream) := Pu.laws_szStream a.1 a.2.1
noncomputable def e_laws_szStream : GEnt := entOf s_laws_szStream r_laws_szStream F_laws_szStream
noncomputable def g_laws_szStream : Gam := Gam.nil
theorem S_laws_szStream : Sound Try.prog E g_laws_szStream := base
def n_laws_szStream : An := {  }
noncomputable def L_laws_szStream : Lam := Lam.nil
theorem h_laws_szStream : ∀ c ∈ loopsOf (Try.f42.body.getD .skip), LOk E g_laws_szStream n_laws_szStream L_laws_szStream c := by
  have e : loopsOf (Try.f42.body.getD .skip) = [] := by kernel_rfl
  rw [e]; simp
theorem ok_laws_szStream : FnOk Try.prog 42 e_laws_szStream := FnOk.of (fnOk S_laws_szStream Try.func42 (by kernel_rfl) h_laws_szStream) (fun a => by kernel_rfl)
@[reducible] def s_laws_szStreamS : List PS := [.data false (.sl TStream), .data false (.int .i64)]
@[reducible] def r_laws_szStreamS : List (Bool × FT) := [(false, (.int .i64))]
noncomputable def F_laws_szStreamS (a : Args s_laws_szStreamS) : Option (resD r_laws_szStreamS) := Pu.laws_szStreamS a.1 a.2.1
noncomputable def e_laws_szStreamS : GEnt := entOf s_laws_szStreamS r_laws_szStreamS F_laws_szStreamS
noncomputable def g_laws_szStreamS : Gam := (Gam.nil).add 42 e_laws_szStream
theorem S_laws_szStreamS : Sound Try.prog E g_laws_szStreamS := (base).add ok_laws_szStream
def n_laws_szStreamS : An := { mask := fun | 5 => [0, 1, 4, 5] | _ => [] }
@[reducible] def d_laws_szStreamS_5 : SD := ⟨[.data false (.sl .arg TStream), .data false (.int .i64), .bot, .bot, .data false (.int .i64), .data false (.int .i64), .bot, .bot, .bot, .bot, .bot, .bot, .bot, .bot, .bot, .bot, .bot, .bot, .bot, .bot, .bot, .bot, .bot, .bot, .bot, .bot, .bot], [none, none, none, none, none, none, none, none, none, none, none, none, none, none, none, none, none, none, none, none, none, none, none, none, none, none, none]⟩
@[reducible] def d_laws_szStreamS_5_x0 : SD := ⟨[.data false (.sl .arg TStream), .data false (.int .i64), .bot, .bot, .data false (.int .i64), .data false (.int .i64), .bot, .bot, .bot, .bot, .bot, .bot, .bot, .bot, .bot, .bot, .bot, .bot, .bot, .bot, .bot, .bot, .bot, .bot, .bot, .bot, .bot], [none, none, none, none, none, none, none, none, none, none, none, none, none, none, none, none, none, none, none, none, none, none, none, none, none, none, none]⟩
@[reducible] def d_laws_szStreamS_5_ret : SD := ⟨[.data false (.sl .arg TStream), .data false (.int .i64), .bot, .bot, .data false (.int .i64), .data false (.int .i64), .bot, .bot, .bot, .bot, .bot, .bot, .bot, .bot, .bot, .bot, .bot, .bot, .bot, .bot, .bot, .bot, .bot, .bot, .bot, .bot, .bot], [none, none, none, none, none, none, none, none, none, none, none, none, none, none, none, none, none, none, none, none, none, none, none, none, none, none, none]⟩
noncomputable def l_laws_szStreamS_5 : LEnt := ⟨d_laws_szStreamS_5, fun X K => iterL (Pu.laws_szStreamS_T5 (fun y0 y1 => K (.exit 0) (SD.enc d_laws_szStreamS_5_x0 (((X.1.1), (y0, ((X.1.2.2.1), (y1, ())))), ()))) (fun y0 y1 y2 => K .ret (SD.enc d_laws_szStreamS_5_ret (((X.1.1), (y0, (y1, (y2, ())))), ()))) X.1.1 X.1.2.2.1) fuel (X.1.2.1, X.1.2.2.2.1)⟩
noncomputable def L_laws_szStreamS : Lam := (Lam.nil).add 5 l_laws_szStreamS_5
theorem lok_laws_szStreamS_5 : LOk E g_laws_szStreamS n_laws_szStreamS L_laws_szStreamS (loopBody Try.f13 0) :=
  lok l_laws_szStreamS_5 (by kernel_rfl) fuel fun R X K => (loop_iter (σ := Int × Int) (fun x => SD.enc d_laws_szStreamS_5 ((X.1.1, (x.1, (X.1.2.2.1, (x.2, ())))), ())) (Pu.laws_szStreamS_T5 (fun y0 y1 => K (.exit 0) (SD.enc d_laws_szStreamS_5_x0 (((X.1.1), (y0, ((X.1.2.2.1), (y1, ())))), ()))) (fun y0 y1 y2 => K .ret (SD.enc d_laws_szStreamS_5_ret (((X.1.1), (y0, (y1, (y2, ())))), ()))) X.1.1 X.1.2.2.1) (fun m x => by kernel_rfl) fuel (X.1.2.1, X.1.2.2.2.1)).symm
theorem h_laws_szStreamS : ∀ c ∈ loopsOf (Try.f13.body.getD .skip), LOk E g_laws_szStreamS n_laws_szStreamS L_laws_szStreamS c := by
  have e : loopsOf (Try.f13.body.getD .skip) = [loopBody Try.f13 0] := by kernel_rfl
  rw [e]; simp only [List.forall_mem_cons]; exact ⟨lok_laws_szStreamS_5, by simp⟩
theorem ok_laws_szStreamS : FnOk Try.prog 13 e_laws_szStreamS := FnOk.of (fnOk S_laws_szStreamS Try.func13 (by kernel_rfl) h_laws_szStreamS) (fun a => by kernel_rfl)
@[reducible] def s_spec_StreamIndex : List PS := [.data false (.sl TStream), .data true TFlow]
@[reducible] def r_spec_StreamIndex : List (Bool × FT) := [(false, (.int .i64))]
noncomputable def F_spec_StreamIndex (a : Args s_spec_StreamIndex) : Option (resD r_spec_StreamIndex) := Pu.spec_StreamIndex a.1 a.2.1
noncomputable def e_spec_StreamIndex : GEnt := entOf s_spec_StreamIndex r_spec_StreamIndex F_spec_StreamIndex
noncomputable def g_spec_StreamIndex : Gam := Gam.nil
theorem S_spec_StreamIndex : Sound Try.prog E g_spec_StreamIndex := base
def n_spec_StreamIndex : An := { mask := fun | 2 => [0, 3, 4, 5] | _ => [] }
@[reducible] def d_spec_StreamIndex_2 : SD := ⟨[.data false (.sl .arg TStream), .bot, .bot, .ptr 3 0, .data false (.int .i64), .data false (.int .i64), .bot, .bot, .bot, .bot, .bot, .bot, .bot, .bot, .bot, .bot, .bot, .bot, .bot, .bot], [none, none, none, some (.pair (.int .i64) (.pair (.int .i64) (.pair (.int .i64) (.pair (.int .i64) (.int .i64))))), none, none, none, none, none, none, none, none, none, none, none, none, none, none, none, none]⟩
@[reducible] def d_spec_StreamIndex_2_x0 : SD := ⟨[.data false (.sl .arg TStream), .bot, .bot, .ptr 3 0, .data false (.int .i64), .data false (.int .i64), .bot, .bot, .bot, .bot, .bot, .bot, .bot, .bot, .bot, .bot, .bot, .bot, .bot, .bot], [none, none, none, some (.pair (.int .i64) (.pair (.int .i64) (.pair (.int .i64) (.pair (.int .i64) (.int .i64))))), none, none, none, none, none, none, none, none, none, none, none, none, none, none, none, none]⟩
@[reducible] def d_spec_StreamIndex_2_ret : SD := ⟨[.data false (.sl .arg TStream), .bot, .bot, .ptr 3 0, .data false (.int .i64), .data false (.int .i64), .bot, .bot, .bot, .bot, .bot, .bot, .bot, .bot, .bot, .bot, .bot, .bot, .bot, .bot], [none, none, none, some (.pair (.int .i64) (.pair (.int .i64) (.pair (.int .i64) (.pair (.int .i64) (.int .i64))))), none, none, none, none, none, none, none, none, none, none, none, none, none, none, none, none]⟩
noncomputable def l_spec_StreamIndex_2 : LEnt := ⟨d_spec_StreamIndex_2, fun X K => iterL (Pu.spec_StreamIndex_T2 (fun y0 => K (.exit 0) (SD.enc d_spec_StreamIndex_2_x0 (((X.1.1), ((X.1.2.1), (y0, ()))), ((X.2.1), ())))) (fun y0 y1 => K .ret (SD.enc d_spec_StreamIndex_2_ret (((X.1.1), (y0, (y1, ()))), ((X.2.1), ())))) X.1.1 X.1.2.1 X.2.1) fuel X.1.2.2.1⟩
noncomputable def L_spec_StreamIndex : Lam := (Lam.nil).add 2 l_spec_StreamIndex_2
theorem lok_spec_StreamIndex_2 : LOk E g_spec_StreamIndex n_spec_StreamIndex L_spec_StreamIndex (loopBody Try.f69 0) :=
  lok l_spec_StreamIndex_2 (by kernel_rfl) fuel fun R X K => (loop_iter (σ := Int) (fun x => SD.enc d_spec_StreamIndex_2 ((X.1.1, (X.1.2.1, (x, ()))), (X.2.1, ()))) (Pu.spec_StreamIndex_T2 (fun y0 => K (.exit 0) (SD.enc d_spec_StreamIndex_2_x0 (((X.1.1), ((X.1.2.1), (y0, ()))), ((X.2.1), ())))) (fun y0 y1 => K .ret (SD.enc d_spec_StreamIndex_2_ret (((X.1.1), (y0, (y1, ()))), ((X.2.1), ())))) X.1.1 X.1.2.1 X.2.1) (fun m x => by kernel_rfl) fuel X.1.2.2.1).symm
theorem h_spec_StreamIndex : ∀ c ∈ loopsOf (Try.f69.body.getD .skip), LOk E g_spec_StreamIndex n_spec_StreamIndex L_spec_StreamIndex c := by
  have e : loopsOf (Try.f69.body.getD .skip) = [loopBody Try.f69 0] := by kernel_rfl
  rw [e]; simp only [List.forall_mem_cons]; exact ⟨lok_spec_StreamIndex_2, by simp⟩
theorem ok_spec_StreamIndex : FnOk Try.prog 69 e_spec_StreamIndex := FnOk.of (fnOk S_spec_StreamIndex Try.func69 (by kernel_rfl) h_spec_StreamIndex) (fun a => by kernel_rfl)
@[reducible] def s_spec_l40Within : List PS := [.data false (.sl TStream), .data false (.sl TStream)]
@[reducible] def r_spec_l40Within : List (Bool × FT) := [(false, .bool)]
noncomputable def F_spec_l40Within (a : Args s_spec_l40Within) : Option (resD r_spec_l40Within) := Pu.spec_l40Within a.1 a.2.1
noncomputable def e_spec_l40Within : GEnt := entOf s_spec_l40Within r_spec_l40Within F_spec_l40Within
noncomputable def g_spec_l40Within : Gam := (Gam.nil).add 69 e_spec_StreamIndex
theorem S_spec_l40Within : Sound Try.prog E g_spec_l40Within := (base).add ok_spec_StreamIndex
def n_spec_l40Within : An := { mask := fun | 2 => [0, 1, 4, 5] | _ => [], merge := fun | 6 => some 40 | _ => none }
@[reducible] def d_spec_l40Within_2 : SD := ⟨[.data false (.sl .arg TStream), .data false (.sl .arg TStream), .bot, .bot, .data false .bool, .data false (.int .i64), .bot, .bot, .bot, .bot, .bot, .bot, .bot, .bot, .bot, .bot, .bot, .bot, .bot, .bot, .bot, .bot, .bot, .bot, .bot, .bot, .bot, .bot, .bot, .bot, .bot, .bot, .bot, .bot, .bot, .bot, .bot, .bot, .bot, .bot, .bot], [none, none, none, none, none, none, none, none, none, none, none, none, none, none, none, none, none, none, none, none, none, none, none, none, none, none, none, none, none, none, none, none, none, none, none, none, none, none, none, none, none]⟩
@[reducible] def d_spec_l40Within_2_x0 : SD := ⟨[.data false (.sl .arg TStream), .data false (.sl .arg TStream), .bot, .bot, .data false .bool, .data false (.int .i64), .bot, .bot, .bot, .bot, .bot, .bot, .bot, .bot, .bot, .bot, .bot, .bot, .bot, .bot, .bot, .bot, .bot, .bot, .bot, .bot, .bot, .bot, .bot, .bot, .bot, .bot, .bot, .bot, .bot, .bot, .bot, .bot, .bot, .bot, .bot], [none, none, none, none, none, none, none, none, none, none, none, none, none, none, none, none, none, none, none, none, none, none, none, none, none, none, none, none, none, none, none, none, none, none, none, none, none, none, none, none, none]⟩
@[reducible] def d_spec_l40Within_2_ret : SD := ⟨[.data false (.sl .arg TStream), .data false (.sl .arg TStream), .bot, .bot, .data false .bool, .data false (.int .i64), .bot, .bot, .bot, .bot, .bot, .bot, .bot, .bot, .bot, .bot, .bot, .bot, .bot, .bot, .bot, .bot, .bot, .bot, .bot, .bot, .bot, .bot, .bot, .bot, .bot, .bot, .bot, .bot, .bot, .bot, .bot, .bot, .bot, .bot, .bot], [none, none, none, none, none, none, none, none, none, none, none, none, none, none, none, none, none, none, none, none, none, none, none, none, none, none, none, none, none, none, none, none, none, none, none, none, none, none, none, none, none]⟩
noncomputable def l_spec_l40Within_2 : LEnt := ⟨d_spec_l40Within_2, fun X K => iterL (Pu.spec_l40Within_T2 (fun y0 => K (.exit 0) (SD.enc d_spec_l40Within_2_x0 (((X.1.1), ((X.1.2.1), ((X.1.2.2.1), (y0, ())))), ()))) (fun y0 y1 => K .ret (SD.enc d_spec_l40Within_2_ret (((X.1.1), ((X.1.2.1), (y0, (y1, ())))), ()))) X.1.1 X.1.2.1 X.1.2.2.1) fuel X.1.2.2.2.1⟩
noncomputable def L_spec_l40Within : Lam := (Lam.nil).add 2 l_spec_l40Within_2
theorem lok_spec_l40Within_2 : LOk E g_spec_l40Within n_spec_l40Within L_spec_l40Within (loopBody Try.f43 0) :=
  lok l_spec_l40Within_2 (by kernel_rfl) fuel fun R X K => (loop_iter (σ := Int) (fun x => SD.enc d_spec_l40Within_2 ((X.1.1, (X.1.2.1, (X.1.2.2.1, (x, ())))), ())) (Pu.spec_l40Within_T2 (fun y0 => K (.exit 0) (SD.enc d_spec_l40Within_2_x0 (((X.1.1), ((X.1.2.1), ((X.1.2.2.1), (y0, ())))), ()))) (fun y0 y1 => K .ret (SD.enc d_spec_l40Within_2_ret (((X.1.1), ((X.1.2.1), (y0, (y1, ())))), ()))) X.1.1 X.1.2.1 X.1.2.2.1) (fun m x => by kernel_rfl) fuel X.1.2.2.2.1).symm
theorem h_spec_l40Within : ∀ c ∈ loopsOf (Try.f43.body.getD .skip), LOk E g_spec_l40Within n_spec_l40Within L_spec_l40Within c := by
  have e : loopsOf (Try.f43.body.getD .skip) = [loopBody Try.f43 0] := by kernel_rfl
  rw [e]; simp only [List.forall_mem_cons]; exact ⟨lok_spec_l40Within_2, by simp⟩
theorem ok_spec_l40Within : FnOk Try.prog 43 e_spec_l40Within := FnOk.of (fnOk S_spec_l40Within Try.func43 (by kernel_rfl) h_spec_l40Within) (fun a => by kernel_rfl)
@[reducible] def s_spec_SameData : List PS := [.data false (.sl TStream), .data false (.sl TStream)]
@[reducible] def r_spec_SameData : List (Bool × FT) := [(false, .bool)]
noncomputable def F_spec_SameData (a : Args s_spec_SameData) : Option (resD r_spec_SameData) := Pu.spec_SameData a.1 a.2.1
noncomputable def e_spec_SameData : GEnt := entOf s_spec_SameData r_spec_SameData F_spec_SameData
noncomputable def g_spec_SameData : Gam := (Gam.nil).add 43 e_spec_l40Within
theorem S_spec_SameData : Sound Try.prog E g_spec_SameData := (base).add ok_spec_l40Within
def n_spec_SameData : An := { merge := fun | 1 => some 4 | _ => none }
noncomputable def L_spec_SameData : Lam := Lam.nil
theorem h_spec_SameData : ∀ c ∈ loopsOf (Try.f14.body.getD .skip), LOk E g_spec_SameData n_spec_SameData L_spec_SameData c := by
  have e : loopsOf (Try.f14.body.getD .skip) = [] := by kernel_rfl
  rw [e]; simp
theorem ok_spec_SameData : FnOk Try.prog 14 e_spec_SameData := FnOk.of (fnOk S_spec_SameData Try.func14 (by kernel_rfl) h_spec_SameData) (fun a => by kernel_rfl)
@[reducible] def s_laws_toFlow : List PS := [.data true TFlow]
@[reducible] def r_laws_toFlow : List (Bool × FT) := [(true, (.pair (.int .i64) (.pair (.int .i64) (.pair (.int .i64) (.pair (.int .i64) (.int .i64))))))]
noncomputable def F_laws_toFlow (a : Args s_laws_toFlow) : Option (resD r_laws_toFlow) := Pu.laws_toFlow a.1
noncomputable def e_laws_toFlow : GEnt := entOf s_laws_toFlow r_laws_toFlow F_laws_toFlow
noncomputable def g_laws_toFlow : Gam := Gam.nil
theorem S_laws_toFlow : Sound Try.prog E g_laws_toFlow := base
def n_laws_toFlow : An := {  }
noncomputable def L_laws_toFlow : Lam := Lam.nil
theorem h_laws_toFlow : ∀ c ∈ loopsOf (Try.f70.body.getD .skip), LOk E g_laws_toFlow n_laws_toFlow L_laws_toFlow c := by
  have e : loopsOf (Try.f70.body.getD .skip) = [] := by kernel_rfl
  rw [e]; simp
theorem ok_laws_toFlow : FnOk Try.prog 70 e_laws_toFlow := FnOk.of (fnOk S_laws_toFlow Try.func70 (by kernel_rfl) h_laws_toFlow) (fun a => by kernel_rfl)
@[reducible] def s_laws_toStream : List PS := [.data true TStream]
@[reducible] def r_laws_toStream : List (Bool × FT) := [(true, (.pair (.pair (.int .i64) (.pair (.int .i64) (.pair (.int .i64) (.pair (.int .i64) (.int .i64))))) (.pair (.int .i64) (.pair .str .bool))))]
noncomputable def F_laws_toStream (a : Args s_laws_toStream) : Option (resD r_laws_toStream) := Pu.laws_toStream a.1
noncomputable def e_laws_toStream : GEnt := entOf s_laws_toStream r_laws_toStream F_laws_toStream
noncomputable def g_laws_toStream : Gam := (Gam.nil).add 70 e_laws_toFlow
theorem S_laws_toStream : Sound Try.prog E g_laws_toStream := (base).add ok_laws_toFlow
def n_laws_toStream : An := {  }
noncomputable def L_laws_toStream : Lam := Lam.nil
theorem h_laws_toStream : ∀ c ∈ loopsOf (Try.f44.body.getD .skip), LOk E g_laws_toStream n_laws_toStream L_laws_toStream c := by
  have e : loopsOf (Try.f44.body.getD .skip) = [] := by kernel_rfl
  rw [e]; simp
theorem ok_laws_toStream : FnOk Try.prog 44 e_laws_toStream := FnOk.of (fnOk S_laws_toStream Try.func44 (by kernel_rfl) h_laws_toStream) (fun a => by kernel_rfl)
@[reducible] def s_laws_toStreamS : List PS := [.data false (.sl TStream)]
@[reducible] def r_laws_toStreamS : List (Bool × FT) := [(false, (.sl (.own none) TStream))]
noncomputable def F_laws_toStreamS (a : Args s_laws_toStreamS) : Option (resD r_laws_toStreamS) := Pu.laws_toStreamS a.1
noncomputable def e_laws_toStreamS : GEnt := entOf s_laws_toStreamS r_laws_toStreamS F_laws_toStreamS
noncomputable def g_laws_toStreamS : Gam := (Gam.nil).add 44 e_laws_toStream
theorem S_laws_toStreamS : Sound Try.prog E g_laws_toStreamS := (base).add ok_laws_toStream
def n_laws_toStreamS : An := { mask := fun | 3 => [0, 3, 4] | _ => [], mv := [22] }
@[reducible] def d_laws_toStreamS_3 : SD := ⟨[.data false (.sl .arg TStream), .bot, .bot, .data false (.sl (.own (some 36864)) TStream), .data false (.int .i64), .bot, .bot, .bot, .bot, .bot, .bot, .bot, .bot, .bot, .bot, .bot, .bot, .bot, .bot, .bot, .bot, .bot, .bot], [none, none, none, none, none, none, none, none, none, none, none, none, none, none, none, none, none, none, none, none, none, none, none]⟩
@[reducible] def d_laws_toStreamS_3_x0 : SD := ⟨[.data false (.sl .arg TStream), .bot, .bot, .data false (.sl (.own (some 36864)) TStream), .data false (.int .i64), .bot, .bot, .bot, .bot, .bot, .bot, .bot, .bot, .bot, .bot, .bot, .bot, .bot, .bot, .bot, .bot, .bot, .bot], [none, none, none, none, none, none, none, none, none, none, none, none, none, none, none, none, none, none, none, none, none, none, none]⟩
noncomputable def l_laws_toStreamS_3 : LEnt := ⟨d_laws_toStreamS_3, fun X K => iterL (Pu.laws_toStreamS_T3 (fun y0 y1 => K (.exit 0) (SD.enc d_laws_toStreamS_3_x0 (((X.1.1), (y0, (y1, ()))), ()))) X.1.1) fuel (X.1.2.1, X.1.2.2.1)⟩
noncomputable def L_laws_toStreamS : Lam := (Lam.nil).add 3 l_laws_toStreamS_3
theorem lok_laws_toStreamS_3 : LOk E g_laws_toStreamS n_laws_toStreamS L_laws_toStreamS (loopBody Try.f15 0) :=
  lok l_laws_toStreamS_3 (by kernel_rfl) fuel fun R X K => (loop_iter (σ := (List Pu.Stream) × Int) (fun x => SD.enc d_laws_toStreamS_3 ((X.1.1, (x.1, (x.2, ()))), ())) (Pu.laws_toStreamS_T3 (fun y0 y1 => K (.exit 0) (SD.enc d_laws_toStreamS_3_x0 (((X.1.1), (y0, (y1, ()))), ()))) X.1.1) (fun m x => by kernel_rfl) fuel (X.1.2.1, X.1.2.2.1)).symm
theorem h_laws_toStreamS : ∀ c ∈ loopsOf (Try.f15.body.getD .skip), LOk E g_laws_toStreamS n_laws_toStreamS L_laws_toStreamS c := by
  have e : loopsOf (Try.f15.body.getD .skip) = [loopBody Try.f15 0] := by kernel_rfl
  rw [e]; simp only [List.forall_mem_cons]; exact ⟨lok_laws_toStreamS_3, by simp⟩
theorem ok_laws_toStreamS : FnOk Try.prog 15 e_laws_toStreamS := FnOk.of (fnOk S_laws_toStreamS Try.func15 (by kernel_rfl) h_laws_toStreamS) (fun a => by kernel_rfl)
@[reducible] def s_impl_StreamIndex : List PS := [.data false (.sl TStream), .data true TFlow]
@[reducible] def r_impl_StreamIndex : List (Bool × FT) := [(false, (.int .i64))]
noncomputable def F_impl_StreamIndex (a : Args s_impl_StreamIndex) : Option (resD r_impl_StreamIndex) := Pu.impl_StreamIndex a.1 a.2.1
noncomputable def e_impl_StreamIndex : GEnt := entOf s_impl_StreamIndex r_impl_StreamIndex F_impl_StreamIndex
noncomputable def g_impl_StreamIndex : Gam := Gam.nil
theorem S_impl_StreamIndex : Sound Try.prog E g_impl_StreamIndex := base
def n_impl_StreamIndex : An := { mask := fun | 2 => [3, 4, 7, 8, 9] | _ => [] }
@[reducible] def d_impl_StreamIndex_2 : SD := ⟨[.bot, .bot, .bot, .ptr 3 0, .data false (.int .i64), .bot, .bot, .data false (.sl .arg TStream), .data false (.int .i64), .data false (.int .i64), .bot, .bot, .bot, .bot, .bot, .bot, .bot, .bot, .bot, .bot], [none, none, none, some (.pair (.int .i64) (.pair (.int .i64) (.pair (.int .i64) (.pair (.int .i64) (.int .i64))))), none, none, none, none, none, none, none, none, none, none, none, none, none, none, none, none]⟩
@[reducible] def d_impl_StreamIndex_2_x0 : SD := ⟨[.bot, .bot, .bot, .ptr 3 0, .data false (.int .i64), .bot, .bot, .data false (.sl .arg TStream), .data false (.int .i64), .data false (.int .i64), .bot, .bot, .bot, .bot, .bot, .bot, .bot, .bot, .bot, .bot], [none, none, none, some (.pair (.int .i64) (.pair (.int .i64) (.pair (.int .i64) (.pair (.int .i64) (.int .i64))))), none, none, none, none, none, none, none, none, none, none, none, none, none, none, none, none]⟩
@[reducible] def d_impl_StreamIndex_2_ret : SD := ⟨[.bot, .bot, .bot, .ptr 3 0, .data false (.int .i64), .bot, .bot, .data false (.sl .arg TStream), .data false (.int .i64), .data false (.int .i64), .bot, .bot, .bot, .bot, .bot, .bot, .bot, .bot, .bot, .bot], [none, none, none, some (.pair (.int .i64) (.pair (.int .i64) (.pair (.int .i64) (.pair (.int .i64) (.int .i64))))), none, none, none, none, none, none, none, none, none, none, none, none, none, none, none, none]⟩
noncomputable def l_impl_StreamIndex_2 : LEnt := ⟨d_impl_StreamIndex_2, fun X K => iterL (Pu.impl_StreamIndex_T2 (fun y0 => K (.exit 0) (SD.enc d_impl_StreamIndex_2_x0 (((X.1.1), ((X.1.2.1), ((X.1.2.2.1), (y0, ())))), ((X.2.1), ())))) (fun y0 y1 => K .ret (SD.enc d_impl_StreamIndex_2_ret ((y0, ((X.1.2.1), ((X.1.2.2.1), (y1, ())))), ((X.2.1), ())))) X.1.1 X.1.2.1 X.1.2.2.1 X.2.1) fuel X.1.2.2.2.1⟩
noncomputable def L_impl_StreamIndex : Lam := (Lam.nil).add 2 l_impl_StreamIndex_2
theorem lok_impl_StreamIndex_2 : LOk E g_impl_StreamIndex n_impl_StreamIndex L_impl_StreamIndex (loopBody Try.f71 0) :=
  lok l_impl_StreamIndex_2 (by kernel_rfl) fuel fun R X K => (loop_iter (σ := Int) (fun x => SD.enc d_impl_StreamIndex_2 ((X.1.1, (X.1.2.1, (X.1.2.2.1, (x, ())))), (X.2.1, ()))) (Pu.impl_StreamIndex_T2 (fun y0 => K (.exit 0) (SD.enc d_impl_StreamIndex_2_x0 (((X.1.1), ((X.1.2.1), ((X.1.2.2.1), (y0, ())))), ((X.2.1), ())))) (fun y0 y1 => K .ret (SD.enc d_impl_StreamIndex_2_ret ((y0, ((X.1.2.1), ((X.1.2.2.1), (y1, ())))), ((X.2.1), ())))) X.1.1 X.1.2.1 X.1.2.2.1 X.2.1) (fun m x => by kernel_rfl) fuel X.1.2.2.2.1).symm
theorem h_impl_StreamIndex : ∀ c ∈ loopsOf (Try.f71.body.getD .skip), LOk E g_impl_StreamIndex n_impl_StreamIndex L_impl_StreamIndex c := by
  have e : loopsOf (Try.f71.body.getD .skip) = [loopBody Try.f71 0] := by kernel_rfl
  rw [e]; simp only [List.forall_mem_cons]; exact ⟨lok_impl_StreamIndex_2, by simp⟩
theorem ok_impl_StreamIndex : FnOk Try.prog 71 e_impl_StreamIndex := FnOk.of (fnOk S_impl_StreamIndex Try.func71 (by kernel_rfl) h_impl_StreamIndex) (fun a => by kernel_rfl)
@[reducible] def s_impl_sameFirst : List PS := [.data false (.sl TStream), .data false (.sl TStream), .data true TFlow]
@[reducible] def r_impl_sameFirst : List (Bool × FT) := [(false, .bool)]
noncomputable def F_impl_sameFirst (a : Args s_impl_sameFirst) : Option (resD r_impl_sameFirst) := Pu.impl_sameFirst a.1 a.2.1 a.2.2.1
noncomputable def e_impl_sameFirst : GEnt := entOf s_impl_sameFirst r_impl_sameFirst F_impl_sameFirst
noncomputable def g_impl_sameFirst : Gam := (Gam.nil).add 71 e_impl_StreamIndex
theorem S_impl_sameFirst : Sound Try.prog E g_impl_sameFirst := (base).add ok_impl_StreamIndex
def n_impl_sameFirst : An := { merge := fun | 2 => some 6 | _ => none }
noncomputable def L_impl_sameFirst : Lam := Lam.nil
theorem h_impl_sameFirst : ∀ c ∈ loopsOf (Try.f45.body.getD .skip), LOk E g_impl_sameFirst n_impl_sameFirst L_impl_sameFirst c := by
  have e : loopsOf (Try.f45.body.getD .skip) = [] := by kernel_rfl
  rw [e]; simp
theorem ok_impl_sameFirst : FnOk Try.prog 45 e_impl_sameFirst := FnOk.of (fnOk S_impl_sameFirst Try.func45 (by kernel_rfl) h_impl_sameFirst) (fun a => by kernel_rfl)
@[reducible] def s_impl_SameData : List PS := [.data false (.sl TStream), .data false (.sl TStream)]
@[reducible] def r_impl_SameData : List (Bool × FT) := [(false, .bool)]
noncomputable def F_impl_SameData (a : Args s_impl_SameData) : Option (resD r_impl_SameData) := Pu.impl_SameData a.1 a.2.1
noncomputable def e_impl_SameData : GEnt := entOf s_impl_SameData r_impl_SameData F_impl_SameData
noncomputable def g_impl_SameData : Gam := (Gam.nil).add 45 e_impl_sameFirst
theorem S_impl_SameData : Sound Try.prog E g_impl_SameData := (base).add ok_impl_sameFirst
def n_impl_SameData : An := { mask := fun | 2 => [0, 1, 4, 9, 10, 11] | 8 => [0, 1, 4, 22, 23, 24] | _ => [] }
@[reducible] def d_impl_SameData_2 : SD := ⟨[.data false (.sl .arg TStream), .data false (.sl .arg TStream), .bot, .bot, .data false .bool, .bot, .bot, .bot, .bot, .data false (.sl .arg TStream), .data false (.int .i64), .data false (.int .i64), .bot, .bot, .bot, .bot, .bot, .bot, .bot, .bot, .bot, .bot, .bot, .bot, .bot, .bot, .bot, .bot, .bot, .bot, .bot, .bot, .bot, .bot, .bot], [none, none, none, none, none, none, none, none, none, none, none, none, none, none, none, none, none, none, none, none, none, none, none, none, none, none, none, none, none, none, none, none, none, none, none]⟩
@[reducible] def d_impl_SameData_2_x0 : SD := ⟨[.data false (.sl .arg TStream), .data false (.sl .arg TStream), .bot, .bot, .data false .bool, .bot, .bot, .bot, .bot, .data false (.sl .arg TStream), .data false (.int .i64), .data false (.int .i64), .bot, .bot, .bot, .bot, .bot, .bot, .bot, .bot, .bot, .bot, .bot, .bot, .bot, .bot, .bot, .bot, .bot, .bot, .bot, .bot, .bot, .bot, .bot], [none, none, none, none, none, none, none, none, none, none, none, none, none, none, none, none, none, none, none, none, none, none, none, none, none, none, none, none, none, none, none, none, none, none, none]⟩
@[reducible] def d_impl_SameData_2_ret : SD := ⟨[.data false (.sl .arg TStream), .data false (.sl .arg TStream), .bot, .bot, .data false .bool, .bot, .bot, .bot, .bot, .data false (.sl .arg TStream), .data false (.int .i64), .data false (.int .i64), .bot, .bot, .bot, .bot, .bot, .bot, .bot, .bot, .bot, .bot, .bot, .bot, .bot, .bot, .bot, .bot, .bot, .bot, .bot, .bot, .bot, .bot, .bot], [none, none, none, none, none, none, none, none, none, none, none, none, none, none, none, none, none, none, none, none, none, none, none, none, none, none, none, none, none, none, none, none, none, none, none]⟩
noncomputable def l_impl_SameData_2 : LEnt := ⟨d_impl_SameData_2, fun X K => iterL (Pu.impl_SameData_T2 (fun y0 => K (.exit 0) (SD.enc d_impl_SameData_2_x0 (((X.1.1), ((X.1.2.1), ((X.1.2.2.1), ((X.1.2.2.2.1), ((X.1.2.2.2.2.1), (y0, ())))))), ()))) (fun y0 y1 => K .ret (SD.enc d_impl_SameData_2_ret (((X.1.1), ((X.1.2.1), (y0, ((X.1.2.2.2.1), ((X.1.2.2.2.2.1), (y1, ())))))), ()))) X.1.1 X.1.2.1 X.1.2.2.1 X.1.2.2.2.1 X.1.2.2.2.2.1) fuel X.1.2.2.2.2.2.1⟩
@[reducible] def d_impl_SameData_8 : SD := ⟨[.data false (.sl .arg TStream), .data false (.sl .arg TStream), .bot, .bot, .data false .bool, .bot, .bot, .bot, .bot, .bot, .bot, .bot, .bot, .bot, .bot, .bot, .bot, .bot, .bot, .bot, .bot, .bot, .data false (.sl .arg TStream), .data false (.int .i64), .data false (.int .i64), .bot, .bot, .bot, .bot, .bot, .bot, .bot, .bot, .bot, .bot], [none, none, none, none, none, none, none, none, none, none, none, none, none, none, none, none, none, none, none, none, none, none, none, none, none, none, none, none, none, none, none, none, none, none, none]⟩
@[reducible] def d_impl_SameData_8_x2 : SD := ⟨[.data false (.sl .arg TStream), .data false (.sl .arg TStream), .bot, .bot, .data false .bool, .bot, .bot, .bot, .bot, .bot, .bot, .bot, .bot, .bot, .bot, .bot, .bot, .bot, .bot, .bot, .bot, .bot, .data false (.sl .arg TStream), .data false (.int .i64), .data false (.int .i64), .bot, .bot, .bot, .bot, .bot, .bot, .bot, .bot, .bot, .bot], [none, none, none, none, none, none, none, none, none, none, none, none, none, none, none, none, none, none, none, none, none, none, none, none, none, none, none, none, none, none, none, none, none, none, none]⟩
@[reducible] def d_impl_SameData_8_ret : SD := ⟨[.data false (.sl .arg TStream), .data false (.sl .arg TStream), .bot, .bot, .data false .bool, .bot, .bot, .bot, .bot, .bot, .bot, .bot, .bot, .bot, .bot, .bot, .bot, .bot, .bot, .bot, .bot, .bot, .data false (.sl .arg TStream), .data false (.int .i64), .data false (.int .i64), .bot, .bot, .bot, .bot, .bot, .bot, .bot, .bot, .bot, .bot], [none, none, none, none, none, none, none, none, none, none, none, none, none, none, none, none, none, none, none, none, none, none, none, none, none, none, none, none, none, none, none, none, none, none, none]⟩
noncomputable def l_impl_SameData_8 : LEnt := ⟨d_impl_SameData_8, fun X K => iterL (Pu.impl_SameData_T8 (fun y0 => K (.exit 2) (SD.enc d_impl_SameData_8_x2 (((X.1.1), ((X.1.2.1), ((X.1.2.2.1), ((X.1.2.2.2.1), ((X.1.2.2.2.2.1), (y0, ())))))), ()))) (fun y0 y1 => K .ret (SD.enc d_impl_SameData_8_ret (((X.1.1), ((X.1.2.1), (y0, ((X.1.2.2.2.1), ((X.1.2.2.2.2.1), (y1, ())))))), ()))) X.1.1 X.1.2.1 X.1.2.2.1 X.1.2.2.2.1 X.1.2.2.2.2.1) fuel X.1.2.2.2.2.2.1⟩
noncomputable def L_impl_SameData : Lam := ((Lam.nil).add 2 l_impl_SameData_2).add 8 l_impl_SameData_8
theorem lok_impl_SameData_2 : LOk E g_impl_SameData n_impl_SameData L_impl_SameData (loopBody Try.f16 0) :=
  lok l_impl_SameData_2 (by kernel_rfl) fuel fun R X K => (loop_iter (σ := Int) (fun x => SD.enc d_impl_SameData_2 ((X.1.1, (X.1.2.1, (X.1.2.2.1, (X.1.2.2.2.1, (X.1.2.2.2.2.1, (x, ())))))), ())) (Pu.impl_SameData_T2 (fun y0 => K (.exit 0) (SD.enc d_impl_SameData_2_x0 (((X.1.1), ((X.1.2.1), ((X.1.2.2.1), ((X.1.2.2.2.1), ((X.1.2.2.2.2.1), (y0, ())))))), ()))) (fun y0 y1 => K .ret (SD.enc d_impl_SameData_2_ret (((X.1.1), ((X.1.2.1), (y0, ((X.1.2.2.2.1), ((X.1.2.2.2.2.1), (y1, ())))))), ()))) X.1.1 X.1.2.1 X.1.2.2.1 X.1.2.2.2.1 X.1.2.2.2.2.1) (fun m x => by kernel_rfl) fuel X.1.2.2.2.2.2.1).symm
theorem lok_impl_SameData_8 : LOk E g_impl_SameData n_impl_SameData L_impl_SameData (loopBody Try.f16 1) :=
  lok l_impl_SameData_8 (by kernel_rfl) fuel fun R X K => (loop_iter (σ := Int) (fun x => SD.enc d_impl_SameData_8 ((X.1.1, (X.1.2.1, (X.1.2.2.1, (X.1.2.2.2.1, (X.1.2.2.2.2.1, (x, ())))))), ())) (Pu.impl_SameData_T8 (fun y0 => K (.exit 2) (SD.enc d_impl_SameData_8_x2 (((X.1.1), ((X.1.2.1), ((X.1.2.2.1), ((X.1.2.2.2.1), ((X.1.2.2.2.2.1), (y0, ())))))), ()))) (fun y0 y1 => K .ret (SD.enc d_impl_SameData_8_ret (((X.1.1), ((X.1.2.1), (y0, ((X.1.2.2.2.1), ((X.1.2.2.2.2.1), (y1, ())))))), ()))) X.1.1 X.1.2.1 X.1.2.2.1 X.1.2.2.2.1 X.1.2.2.2.2.1) (fun m x => by kernel_rfl) fuel X.1.2.2.2.2.2.1).symm
theorem h_impl_SameData : ∀ c ∈ loopsOf (Try.f16.body.getD .skip), LOk E g_impl_SameData n_impl_SameData L_impl_SameData c := by
  have e : loopsOf (Try.f16.body.getD .skip) = [loopBody Try.f16 0, loopBody Try.f16 1] := by kernel_rfl
  rw [e]; simp only [List.forall_mem_cons]; exact ⟨lok_impl_SameData_2, lok_impl_SameData_8, by simp⟩
theorem ok_impl_SameData : FnOk Try.prog 16 e_impl_SameData := FnOk.of (fnOk S_impl_SameData Try.func16 (by kernel_rfl) h_impl_SameData) (fun a => by kernel_rfl)
@[reducible] def s_laws_eqFlow : List PS := [.data true TFlow, .data true TFlow]
@[reducible] def r_laws_eqFlow : List (Bool × FT) := [(false, .bool)]
noncomputable def F_laws_eqFlow (a : Args s_laws_eqFlow) : Option (resD r_laws_eqFlow) := Pu.laws_eqFlow a.1 a.2.1
noncomputable def e_laws_eqFlow : GEnt := entOf s_laws_eqFlow r_laws_eqFlow F_laws_eqFlow
noncomputable def g_laws_eqFlow : Gam := Gam.nil
theorem S_laws_eqFlow : Sound Try.prog E g_laws_eqFlow := base
def n_laws_eqFlow : An := {  }
noncomputable def L_laws_eqFlow : Lam := Lam.nil
theorem h_laws_eqFlow : ∀ c ∈ loopsOf (Try.f72.body.getD .skip), LOk E g_laws_eqFlow n_laws_eqFlow L_laws_eqFlow c := by
  have e : loopsOf (Try.f72.body.getD .skip) = [] := by kernel_rfl
  rw [e]; simp
theorem ok_laws_eqFlow : FnOk Try.prog 72 e_laws_eqFlow := FnOk.of (fnOk S_laws_eqFlow Try.func72 (by kernel_rfl) h_laws_eqFlow) (fun a => by kernel_rfl)
@[reducible] def s_laws_eqStream : List PS := [.data true TStream, .data true TStream]
@[reducible] def r_laws_eqStream : List (Bool × FT) := [(false, .bool)]
noncomputable def F_laws_eqStream (a : Args s_laws_eqStream) : Option (resD r_laws_eqStream) := Pu.laws_eqStream a.1 a.2.1
noncomputable def e_laws_eqStream : GEnt := entOf s_laws_eqStream r_laws_eqStream F_laws_eqStream
noncomputable def g_laws_eqStream : Gam := (Gam.nil).add 72 e_laws_eqFlow
theorem S_laws_eqStream : Sound Try.prog E g_laws_eqStream := (base).add ok_laws_eqFlow
def n_laws_eqStream : An := {  }
noncomputable def L_laws_eqStream : Lam := Lam.nil
theorem h_laws_eqStream : ∀ c ∈ loopsOf (Try.f46.body.getD .skip), LOk E g_laws_eqStream n_laws_eqStream L_laws_eqStream c := by
  have e : loopsOf (Try.f46.body.getD .skip) = [] := by kernel_rfl
  rw [e]; simp
theorem ok_laws_eqStream : FnOk Try.prog 46 e_laws_eqStream := FnOk.of (fnOk S_laws_eqStream Try.func46 (by kernel_rfl) h_laws_eqStream) (fun a => by kernel_rfl)
@[reducible] def s_laws_eqStreamS : List PS := [.data false (.sl TStream), .data false (.sl TStream)]
@[reducible] def r_laws_eqStreamS : List (Bool × FT) := [(false, .bool)]
noncomputable def F_laws_eqStreamS (a : Args s_laws_eqStreamS) : Option (resD r_laws_eqStreamS) := Pu.laws_eqStreamS a.1 a.2.1
noncomputable def e_laws_eqStreamS : GEnt := entOf s_laws_eqStreamS r_laws_eqStreamS F_laws_eqStreamS
noncomputable def g_laws_eqStreamS : Gam := (Gam.nil).add 46 e_laws_eqStream
theorem S_laws_eqStreamS : Sound Try.prog E g_laws_eqStreamS := (base).add ok_laws_eqStream
def n_laws_eqStreamS : An := { mask := fun | 4 => [0, 1, 4, 5] | _ => [] }
@[reducible] def d_laws_eqStreamS_4 : SD := ⟨[.data false (.sl .arg TStream), .data false (.sl .arg TStream), .bot, .bot, .data false .bool, .data false (.int .i64), .bot, .bot, .bot, .bot, .bot, .bot, .bot, .bot, .bot, .bot, .bot, .bot, .bot, .bot, .bot, .bot, .bot, .bot, .bot, .bot, .bot], [none, none, none, none, none, none, none, none, none, none, none, none, none, none, none, none, none, none, none, none, none, none, none, none, none, none, none]⟩
@[reducible] def d_laws_eqStreamS_4_x0 : SD := ⟨[.data false (.sl .arg TStream), .data false (.sl .arg TStream), .bot, .bot, .data false .bool, .data false (.int .i64), .bot, .bot, .bot, .bot, .bot, .bot, .bot, .bot, .bot, .bot, .bot, .bot, .bot, .bot, .bot, .bot, .bot, .bot, .bot, .bot, .bot], [none, none, none, none, none, none, none, none, none, none, none, none, none, none, none, none, none, none, none, none, none, none, none, none, none, none, none]⟩
@[reducible] def d_laws_eqStreamS_4_ret : SD := ⟨[.data false (.sl .arg TStream), .data false (.sl .arg TStream), .bot, .bot, .data false .bool, .data false (.int .i64), .bot, .bot, .bot, .bot, .bot, .bot, .bot, .bot, .bot, .bot, .bot, .bot, .bot, .bot, .bot, .bot, .bot, .bot, .bot, .bot, .bot], [none, none, none, none, none, none, none, none, none, none, none, none, none, none, none, none, none, none, none, none, none, none, none, none, none, none, none]⟩
noncomputable def l_laws_eqStreamS_4 : LEnt := ⟨d_laws_eqStreamS_4, fun X K => iterL (Pu.laws_eqStreamS_T4 (fun y0 => K (.exit 0) (SD.enc d_laws_eqStreamS_4_x0 (((X.1.1), ((X.1.2.1), ((X.1.2.2.1), (y0, ())))), ()))) (fun y0 y1 => K .ret (SD.enc d_laws_eqStreamS_4_ret (((X.1.1), ((X.1.2.1), (y0, (y1, ())))), ()))) X.1.1 X.1.2.1 X.1.2.2.1) fuel X.1.2.2.2.1⟩
noncomputable def L_laws_eqStreamS : Lam := (Lam.nil).add 4 l_laws_eqStreamS_4
theorem lok_laws_eqStreamS_4 : LOk E g_laws_eqStreamS n_laws_eqStreamS L_laws_eqStreamS (loopBody Try.f17 0) :=
  lok l_laws_eqStreamS_4 (by kernel_rfl) fuel fun R X K => (loop_iter (σ := Int) (fun x => SD.enc d_laws_eqStreamS_4 ((X.1.1, (X.1.2.1, (X.1.2.2.1, (x, ())))), ())) (Pu.laws_eqStreamS_T4 (fun y0 => K (.exit 0) (SD.enc d_laws_eqStreamS_4_x0 (((X.1.1), ((X.1.2.1), ((X.1.2.2.1), (y0, ())))), ()))) (fun y0 y1 => K .ret (SD.enc d_laws_eqStreamS_4_ret (((X.1.1), ((X.1.2.1), (y0, (y1, ())))), ()))) X.1.1 X.1.2.1 X.1.2.2.1) (fun m x => by kernel_rfl) fuel X.1.2.2.2.1).symm
theorem h_laws_eqStreamS : ∀ c ∈ loopsOf (Try.f17.body.getD .skip), LOk E g_laws_eqStreamS n_laws_eqStreamS L_laws_eqStreamS c := by
  have e : loopsOf (Try.f17.body.getD .skip) = [loopBody Try.f17 0] := by kernel_rfl
  rw [e]; simp only [List.forall_mem_cons]; exact ⟨lok_laws_eqStreamS_4, by simp⟩
theorem ok_laws_eqStreamS : FnOk Try.prog 17 e_laws_eqStreamS := FnOk.of (fnOk S_laws_eqStreamS Try.func17 (by kernel_rfl) h_laws_eqStreamS) (fun a => by kernel_rfl)
@[reducible] def s_laws_FnExactSameData : List PS := [.data false (.sl TStream), .data false (.sl TStream)]
@[reducible] def r_laws_FnExactSameData : List (Bool × FT) := [(false, .bool)]
noncomputable def F_laws_FnExactSameData (a : Args s_laws_FnExactSameData) : Option (resD r_laws_FnExactSameData) := Pu.laws_FnExactSameData a.1 a.2.1
noncomputable def e_laws_FnExactSameData : GEnt := entOf s_laws_FnExactSameData r_laws_FnExactSameData F_laws_FnExactSameData
noncomputable def g_laws_FnExactSameData : Gam := (((((Gam.nil).add 13 e_laws_szStreamS).add 14 e_spec_SameData).add 15 e_laws_toStreamS).add 16 e_impl_SameData).add 17 e_laws_eqStreamS
theorem S_laws_FnExactSameData : Sound Try.prog E g_laws_FnExactSameData := (((((base).add ok_laws_szStreamS).add ok_spec_SameData).add ok_laws_toStreamS).add ok_impl_SameData).add ok_laws_eqStreamS
def n_laws_FnExactSameData : An := {  }
noncomputable def L_laws_FnExactSameData : Lam := Lam.nil
theorem h_laws_FnExactSameData : ∀ c ∈ loopsOf (Try.f4.body.getD .skip), LOk E g_laws_FnExactSameData n_laws_FnExactSameData L_laws_FnExactSameData c := by
  have e : loopsOf (Try.f4.body.getD .skip) = [] := by kernel_rfl
  rw [e]; simp
theorem ok_laws_FnExactSameData : FnOk Try.prog 4 e_laws_FnExactSameData := FnOk.of (fnOk S_laws_FnExactSameData Try.func4 (by kernel_rfl) h_laws_FnExactSameData) (fun a => by kernel_rfl)
@[reducible] def s_laws_szSegment : List PS := [.data true TSegment, .data false (.int .i64)]
@[reducible] def r_laws_szSegment : List (Bool × FT) := [(false, (.int .i64))]
noncomputable def F_laws_szSegment (a : Args s_laws_szSegment) : Option (resD r_laws_szSegment) := Pu.laws_szSegment a.1 a.2.1
noncomputable def e_laws_szSegment : GEnt := entOf s_laws_szSegment r_laws_szSegment F_laws_szSegment
noncomputable def g_laws_szSegment : Gam := Gam.nil
theorem S_laws_szSegment : Sound Try.prog E g_laws_szSegment := base
def n_laws_szSegment : An := {  }
noncomputable def L_laws_szSegment : Lam := Lam.nil
theorem h_laws_szSegment : ∀ c ∈ loopsOf (Try.f67.body.getD .skip), LOk E g_laws_szSegment n_laws_szSegment L_laws_szSegment c := by
  have e : loopsOf (Try.f67.body.getD .skip) = [] := by kernel_rfl
  rw [e]; simp
theorem ok_laws_szSegment : FnOk Try.prog 67 e_laws_szSegment := FnOk.of (fnOk S_laws_szSegment Try.func67 (by kernel_rfl) h_laws_szSegment) (fun a => by kernel_rfl)
@[reducible] def s_laws_szPacket : List PS := [.data true TPacket, .data false (.int .i64)]
@[reducible] def r_laws_szPacket : List (Bool × FT) := [(false, (.int .i64))]
noncomputable def F_laws_szPacket (a : Args s_laws_szPacket) : Option (resD r_laws_szPacket) := Pu.laws_szPacket a.1 a.2.1
noncomputable def e_laws_szPacket : GEnt := entOf s_laws_szPacket r_laws_szPacket F_laws_szPacket
noncomputable def g_laws_szPacket : Gam := (Gam.nil).add 67 e_laws_szSegment
theorem S_laws_szPacket : Sound Try.prog E g_laws_szPacket := (base).add ok_laws_szSegment
def n_laws_szPacket : An := {  }
noncomputable def L_laws_szPacket : Lam := Lam.nil
theorem h_laws_szPacket : ∀ c ∈ loopsOf (Try.f38.body.getD .skip), LOk E g_laws_szPacket n_laws_szPacket L_laws_szPacket c := by
  have e : loopsOf (Try.f38.body.getD .skip) = [] := by kernel_rfl
  rw [e]; simp
theorem ok_laws_szPacket : FnOk Try.prog 38 e_laws_szPacket := FnOk.of (fnOk S_laws_szPacket Try.func38 (by kernel_rfl) h_laws_szPacket) (fun a => by kernel_rfl)
@[reducible] def s_laws_szAct : List PS := [.data true TAct, .data false (.int .i64)]
@[reducible] def r_laws_szAct : List (Bool × FT) := [(false, (.int .i64))]
noncomputable def F_laws_szAct (a : Args s_laws_szAct) : Option (resD r_laws_szAct) := Pu.laws_szAct a.1 a.2.1
noncomputable def e_laws_szAct : GEnt := entOf s_laws_szAct r_laws_szAct F_laws_szAct
noncomputable def g_laws_szAct : Gam := (Gam.nil).add 38 e_laws_szPacket
theorem S_laws_szAct : Sound Try.prog E g_laws_szAct := (base).add ok_laws_szPacket
def n_laws_szAct : An := {  }
noncomputable def L_laws_szAct : Lam := Lam.nil
theorem h_laws_szAct : ∀ c ∈ loopsOf (Try.f9.body.getD .skip), LOk E g_laws_szAct n_laws_szAct L_laws_szAct c := by
  have e : loopsOf (Try.f9.body.getD .skip) = [] := by kernel_rfl
  rw [e]; simp
theorem ok_laws_szAct : FnOk Try.prog 9 e_laws_szAct := FnOk.of (fnOk S_laws_szAct Try.func9 (by kernel_rfl) h_laws_szAct) (fun a => by kernel_rfl)
@[reducible] def s_laws_szActS : List PS := [.data false (.sl TAct), .data false (.int .i64)]
@[reducible] def r_laws_szActS : List (Bool × FT) := [(false, (.int .i64))]
noncomputable def F_laws_szActS (a : Args s_laws_szActS) : Option (resD r_laws_szActS) := Pu.laws_szActS a.1 a.2.1
noncomputable def e_laws_szActS : GEnt := entOf s_laws_szActS r_laws_szActS F_laws_szActS
noncomputable def g_laws_szActS : Gam := (Gam.nil).add 9 e_laws_szAct
theorem S_laws_szActS : Sound Try.prog E g_laws_szActS := (base).add ok_laws_szAct
def n_laws_szActS : An := { mask := fun | 5 => [0, 1, 4, 5] | _ => [] }
@[reducible] def d_laws_szActS_5 : SD := ⟨[.data false (.sl .arg TAct), .data false (.int .i64), .bot, .bot, .data false (.int .i64), .data false (.int .i64), .bot, .bot, .bot, .bot, .bot, .bot, .bot, .bot, .bot, .bot, .bot, .bot, .bot, .bot, .bot, .bot, .bot, .bot, .bot, .bot, .bot], [none, none, none, none, none, none, none, none, none, none, none, none, none, none, none, none, none, none, none, none, none, none, none, none, none, none, none]⟩
@[reducible] def d_laws_szActS_5_x0 : SD := ⟨[.data false (.sl .arg TAct), .data false (.int .i64), .bot, .bot, .data false (.int .i64), .data false (.int .i64), .bot, .bot, .bot, .bot, .bot, .bot, .bot, .bot, .bot, .bot, .bot, .bot, .bot, .bot, .bot, .bot, .bot, .bot, .bot, .bot, .bot], [none, none, none, none, none, none, none, none, none, none, none, none, none, none, none, none, none, none, none, none, none, none, none, none, none, none, none]⟩
@[reducible] def d_laws_szActS_5_ret : SD := ⟨[.data false (.sl .arg TAct), .data false (.int .i64), .bot, .bot, .data false (.int .i64), .data false (.int .i64), .bot, .bot, .bot, .bot, .bot, .bot, .bot, .bot, .bot, .bot, .bot, .bot, .bot, .bot, .bot, .bot, .bot, .bot, .bot, .bot, .bot], [none, none, none, none, none, none, none, none, none, none, none, none, none, none, none, none, none, none, none, none, none, none, none, none, none, none, none]⟩
noncomputable def l_laws_szActS_5 : LEnt := ⟨d_laws_szActS_5, fun X K => iterL (Pu.laws_szActS_T5 (fun y0 y1 => K (.exit 0) (SD.enc d_laws_szActS_5_x0 (((X.1.1), (y0, ((X.1.2.2.1), (y1, ())))), ()))) (fun y0 y1 y2 => K .ret (SD.enc d_laws_szActS_5_ret (((X.1.1), (y0, (y1, (y2, ())))), ()))) X.1.1 X.1.2.2.1) fuel (X.1.2.1, X.1.2.2.2.1)⟩
noncomputable def L_laws_szActS : Lam := (Lam.nil).add 5 l_laws_szActS_5
theorem lok_laws_szActS_5 : LOk E g_laws_szActS n_laws_szActS L_laws_szActS (loopBody Try.f31 0) :=
  lok l_laws_szActS_5 (by kernel_rfl) fuel fun R X K => (loop_iter (σ := Int × Int) (fun x => SD.enc d_laws_szActS_5 ((X.1.1, (x.1, (X.1.2.2.1, (x.2, ())))), ())) (Pu.laws_szActS_T5 (fun y0 y1 => K (.exit 0) (SD.enc d_laws_szActS_5_x0 (((X.1.1), (y0, ((X.1.2.2.1), (y1, ())))), ()))) (fun y0 y1 y2 => K .ret (SD.enc d_laws_szActS_5_ret (((X.1.1), (y0, (y1, (y2, ())))), ()))) X.1.1 X.1.2.2.1) (fun m x => by kernel_rfl) fuel (X.1.2.1, X.1.2.2.2.1)).symm
theorem h_laws_szActS : ∀ c ∈ loopsOf (Try.f31.body.getD .skip), LOk E g_laws_szActS n_laws_szActS L_laws_szActS c := by
  have e : loopsOf (Try.f31.body.getD .skip) = [loopBody Try.f31 0] := by kernel_rfl
  rw [e]; simp only [List.forall_mem_cons]; exact ⟨lok_laws_szActS_5, by simp⟩
theorem ok_laws_szActS : FnOk Try.prog 31 e_laws_szActS := FnOk.of (fnOk S_laws_szActS Try.func31 (by kernel_rfl) h_laws_szActS) (fun a => by kernel_rfl)
@[reducible] def s_spec_l01In : List PS := [.data false (.int .i64), .data false (.int .i64), .data false (.int .i64)]
@[reducible] def r_spec_l01In : List (Bool × FT) := [(false, .bool)]
noncomputable def F_spec_l01In (a : Args s_spec_l01In) : Option (resD r_spec_l01In) := Pu.spec_l01In a.1 a.2.1 a.2.2.1
noncomputable def e_spec_l01In : GEnt := entOf s_spec_l01In r_spec_l01In F_spec_l01In
noncomputable def g_spec_l01In : Gam := Gam.nil
theorem S_spec_l01In : Sound Try.prog E g_spec_l01In := base
def n_spec_l01In : An := { merge := fun | 1 => some 6 | _ => none }
noncomputable def L_spec_l01In : Lam := Lam.nil
theorem h_spec_l01In : ∀ c ∈ loopsOf (Try.f39.body.getD .skip), LOk E g_spec_l01In n_spec_l01In L_spec_l01In c := by
  have e : loopsOf (Try.f39.body.getD .skip) = [] := by kernel_rfl
  rw [e]; simp
theorem ok_spec_l01In : FnOk Try.prog 39 e_spec_l01In := FnOk.of (fnOk S_spec_l01In Try.func39 (by kernel_rfl) h_spec_l01In) (fun a => by kernel_rfl)
@[reducible] def s_spec_ActOk : List PS := [.data true TAct]
@[reducible] def r_spec_ActOk : List (Bool × FT) := [(false, .bool)]
noncomputable def F_spec_ActOk (a : Args s_spec_ActOk) : Option (resD r_spec_ActOk) := Pu.spec_ActOk a.1
noncomputable def e_spec_ActOk : GEnt := entOf s_spec_ActOk r_spec_ActOk F_spec_ActOk
noncomputable def g_spec_ActOk : Gam := (Gam.nil).add 39 e_spec_l01In
theorem S_spec_ActOk : Sound Try.prog E g_spec_ActOk := (base).add ok_spec_l01In
def n_spec_ActOk : An := { merge := fun | 1 => some 12 | 3 => some 31 | 5 => some 2 | _ => none }
noncomputable def L_spec_ActOk : Lam := Lam.nil
theorem h_spec_ActOk : ∀ c ∈ loopsOf (Try.f10.body.getD .skip), LOk E g_spec_ActOk n_spec_ActOk L_spec_ActOk c := by
  have e : loopsOf (Try.f10.body.getD .skip) = [] := by kernel_rfl
  rw [e]; simp
theorem ok_spec_ActOk : FnOk Try.prog 10 e_spec_ActOk := FnOk.of (fnOk S_spec_ActOk Try.func10 (by kernel_rfl) h_spec_ActOk) (fun a => by kernel_rfl)
@[reducible] def s_spec_HasReset : List PS := [.data false (.sl TAct)]
@[reducible] def r_spec_HasReset : List (Bool × FT) := [(false, .bool)]
noncomputable def F_spec_HasReset (a : Args s_spec_HasReset) : Option (resD r_spec_HasReset) := Pu.spec_HasReset a.1
noncomputable def e_spec_HasReset : GEnt := entOf s_spec_HasReset r_spec_HasReset F_spec_HasReset
noncomputable def g_spec_HasReset : Gam := (Gam.nil).add 10 e_spec_ActOk
theorem S_spec_HasReset : Sound Try.prog E g_spec_HasReset := (base).add ok_spec_ActOk
def n_spec_HasReset : An := { mask := fun | 2 => [0, 2, 3] | _ => [], merge := fun | 4 => some 22 | _ => none }
@[reducible] def d_spec_HasReset_2 : SD := ⟨[.data false (.sl .arg TAct), .bot, .data false .bool, .data false (.int .i64), .bot, .bot, .bot, .bot, .bot, .bot, .bot, .bot, .bot, .bot, .bot, .bot, .bot, .bot, .bot, .bot, .bot, .bot, .bot], [none, none, none, none, none, none, none, none, none, none, none, none, none, none, none, none, none, none, none, none, none, none, none]⟩
@[reducible] def d_spec_HasReset_2_x0 : SD := ⟨[.data false (.sl .arg TAct), .bot, .data false .bool, .data false (.int .i64), .bot, .bot, .bot, .bot, .bot, .bot, .bot, .bot, .bot, .bot, .bot, .bot, .bot, .bot, .bot, .bot, .bot, .bot, .bot], [none, none, none, none, none, none, none, none, none, none, none, none, none, none, none, none, none, none, none, none, none, none, none]⟩
@[reducible] def d_spec_HasReset_2_ret : SD := ⟨[.data false (.sl .arg TAct), .bot, .data false .bool, .data false (.int .i64), .bot, .bot, .bot, .bot, .bot, .bot, .bot, .bot, .bot, .bot, .bot, .bot, .bot, .bot, .bot, .bot, .bot, .bot, .bot], [none, none, none, none, none, none, none, none, none, none, none, none, none, none, none, none, none, none, none, none, none, none, none]⟩
noncomputable def l_spec_HasReset_2 : LEnt := ⟨d_spec_HasReset_2, fun X K => iterL (Pu.spec_HasReset_T2 (fun y0 => K (.exit 0) (SD.enc d_spec_HasReset_2_x0 (((X.1.1), ((X.1.2.1), (y0, ()))), ()))) (fun y0 y1 => K .ret (SD.enc d_spec_HasReset_2_ret (((X.1.1), (y0, (y1, ()))), ()))) X.1.1 X.1.2.1) fuel X.1.2.2.1⟩
noncomputable def L_spec_HasReset : Lam := (Lam.nil).add 2 l_spec_HasReset_2
theorem lok_spec_HasReset_2 : LOk E g_spec_HasReset n_spec_HasReset L_spec_HasReset (loopBody Try.f32 0) :=
  lok l_spec_HasReset_2 (by kernel_rfl) fuel fun R X K => (loop_iter (σ := Int) (fun x => SD.enc d_spec_HasReset_2 ((X.1.1, (X.1.2.1, (x, ()))), ())) (Pu.spec_HasReset_T2 (fun y0 => K (.exit 0) (SD.enc d_spec_HasReset_2_x0 (((X.1.1), ((X.1.2.1), (y0, ()))), ()))) (fun y0 y1 => K .ret (SD.enc d_spec_HasReset_2_ret (((X.1.1), (y0, (y1, ()))), ()))) X.1.1 X.1.2.1) (fun m x => by kernel_rfl) fuel X.1.2.2.1).symm
theorem h_spec_HasReset : ∀ c ∈ loopsOf (Try.f32.body.getD .skip), LOk E g_spec_HasReset n_spec_HasReset L_spec_HasReset c := by
  have e : loopsOf (Try.f32.body.getD .skip) = [loopBody Try.f32 0] := by kernel_rfl
  rw [e]; simp only [List.forall_mem_cons]; exact ⟨lok_spec_HasReset_2, by simp⟩
theorem ok_spec_HasReset : FnOk Try.prog 32 e_spec_HasReset := FnOk.of (fnOk S_spec_HasReset Try.func32 (by kernel_rfl) h_spec_HasReset) (fun a => by kernel_rfl)
@[reducible] def s_laws_toSegment : List PS := [.data true TSegment]
@[reducible] def r_laws_toSegment : List (Bool × FT) := [(true, (.pair (.int .i64) (.pair (.int .i64) (.pair (.int .i64) (.pair (.int .i64) (.pair (.int .i64) (.pair (.int .i64) (.pair (.int .i64) .str))))))))]
noncomputable def F_laws_toSegment (a : Args s_laws_toSegment) : Option (resD r_laws_toSegment) := Pu.laws_toSegment a.1
noncomputable def e_laws_toSegment : GEnt := entOf s_laws_toSegment r_laws_toSegment F_laws_toSegment
noncomputable def g_laws_toSegment : Gam := Gam.nil
theorem S_laws_toSegment : Sound Try.prog E g_laws_toSegment := base
def n_laws_toSegment : An := {  }
noncomputable def L_laws_toSegment : Lam := Lam.nil
theorem h_laws_toSegment : ∀ c ∈ loopsOf (Try.f68.body.getD .skip), LOk E g_laws_toSegment n_laws_toSegment L_laws_toSegment c := by
  have e : loopsOf (Try.f68.body.getD .skip) = [] := by kernel_rfl
  rw [e]; simp
theorem ok_laws_toSegment : FnOk Try.prog 68 e_laws_toSegment := FnOk.of (fnOk S_laws_toSegment Try.func68 (by kernel_rfl) h_laws_toSegment) (fun a => by kernel_rfl)
@[reducible] def s_laws_toPacket : List PS := [.data true TPacket]
@[reducible] def r_laws_toPacket : List (Bool × FT) := [(true, (.pair (.int .i64) (.pair (.int .i64) (.pair (.int .i64) (.pair (.int .i64) (.pair (.int .i64) (.pair (.int .i64) (.pair (.int .i64) (.pair (.int .i64) (.pair (.int .i64) (.pair (.int .i64) (.pair (.int .i64) (.pair (.int .i64) (.pair (.int .i64) (.pair (.int .i64) (.pair (.int .i64) .str))))))))))))))))]
noncomputable def F_laws_toPacket (a : Args s_laws_toPacket) : Option (resD r_laws_toPacket) := Pu.laws_toPacket a.1
noncomputable def e_laws_toPacket : GEnt := entOf s_laws_toPacket r_laws_toPacket F_laws_toPacket
noncomputable def g_laws_toPacket : Gam := (Gam.nil).add 68 e_laws_toSegment
theorem S_laws_toPacket : Sound Try.prog E g_laws_toPacket := (base).add ok_laws_toSegment
def n_laws_toPacket : An := {  }
noncomputable def L_laws_toPacket : Lam := Lam.nil
theorem h_laws_toPacket : ∀ c ∈ loopsOf (Try.f40.body.getD .skip), LOk E g_laws_toPacket n_laws_toPacket L_laws_toPacket c := by
  have e : loopsOf (Try.f40.body.getD .skip) = [] := by kernel_rfl
  rw [e]; simp
theorem ok_laws_toPacket : FnOk Try.prog 40 e_laws_toPacket := FnOk.of (fnOk S_laws_toPacket Try.func40 (by kernel_rfl) h_laws_toPacket) (fun a => by kernel_rfl)
@[reducible] def s_laws_toAct : List PS := [.data true TAct]
@[reducible] def r_laws_toAct : List (Bool × FT) := [(true, (.pair (.int .i64) (.pair (.pair (.int .i64) (.pair (.int .i64) (.pair (.int .i64) (.pair (.int .i64) (.pair (.int .i64) (.pair (.int .i64) (.pair (.int .i64) (.pair (.int .i64) (.pair (.int .i64) (.pair (.int .i64) (.pair (.int .i64) (.pair (.int .i64) (.pair (.int .i64) (.pair (.int .i64) (.pair (.int .i64) .str))))))))))))))) (.pair (.int .i64) (.pair (.int .i64) (.pair .str (.int .i64)))))))]
noncomputable def F_laws_toAct (a : Args s_laws_toAct) : Option (resD r_laws_toAct) := Pu.laws_toAct a.1
noncomputable def e_laws_toAct : GEnt := entOf s_laws_toAct r_laws_toAct F_laws_toAct
noncomputable def g_laws_toAct : Gam := (Gam.nil).add 40 e_laws_toPacket
theorem S_laws_toAct : Sound Try.prog E g_laws_toAct := (base).add ok_laws_toPacket
def n_laws_toAct : An := {  }
noncomputable def L_laws_toAct : Lam := Lam.nil
theorem h_laws_toAct : ∀ c ∈ loopsOf (Try.f11.body.getD .skip), LOk E g_laws_toAct n_laws_toAct L_laws_toAct c := by
  have e : loopsOf (Try.f11.body.getD .skip) = [] := by kernel_rfl
  rw [e]; simp
theorem ok_laws_toAct : FnOk Try.prog 11 e_laws_toAct := FnOk.of (fnOk S_laws_toAct Try.func11 (by kernel_rfl) h_laws_toAct) (fun a => by kernel_rfl)
@[reducible] def s_laws_toActS : List PS := [.data false (.sl TAct)]
@[reducible] def r_laws_toActS : List (Bool × FT) := [(false, (.sl (.own none) TAct))]
noncomputable def F_laws_toActS (a : Args s_laws_toActS) : Option (resD r_laws_toActS) := Pu.laws_toActS a.1
noncomputable def e_laws_toActS : GEnt := entOf s_laws_toActS r_laws_toActS F_laws_toActS
noncomputable def g_laws_toActS : Gam := (Gam.nil).add 11 e_laws_toAct
theorem S_laws_toActS : Sound Try.prog E g_laws_toActS := (base).add ok_laws_toAct
def n_laws_toActS : An := { mask := fun | 3 => [0, 3, 4] | _ => [], mv := [22] }
@[reducible] def d_laws_toActS_3 : SD := ⟨[.data false (.sl .arg TAct), .bot, .bot, .data false (.sl (.own (some 36864)) TAct), .data false (.int .i64), .bot, .bot, .bot, .bot, .bot, .bot, .bot, .bot, .bot, .bot, .bot, .bot, .bot, .bot, .bot, .bot, .bot, .bot], [none, none, none, none, none, none, none, none, none, none, none, none, none, none, none, none, none, none, none, none, none, none, none]⟩
@[reducible] def d_laws_toActS_3_x0 : SD := ⟨[.data false (.sl .arg TAct), .bot, .bot, .data false (.sl (.own (some 36864)) TAct), .data false (.int .i64), .bot, .bot, .bot, .bot, .bot, .bot, .bot, .bot, .bot, .bot, .bot, .bot, .bot, .bot, .bot, .bot, .bot, .bot], [none, none, none, none, none, none, none, none, none, none, none, none, none, none, none, none, none, none, none, none, none, none, none]⟩
noncomputable def l_laws_toActS_3 : LEnt := ⟨d_laws_toActS_3, fun X K => iterL (Pu.laws_toActS_T3 (fun y0 y1 => K (.exit 0) (SD.enc d_laws_toActS_3_x0 (((X.1.1), (y0, (y1, ()))), ()))) X.1.1) fuel (X.1.2.1, X.1.2.2.1)⟩
noncomputable def L_laws_toActS : Lam := (Lam.nil).add 3 l_laws_toActS_3
theorem lok_laws_toActS_3 : LOk E g_laws_toActS n_laws_toActS L_laws_toActS (loopBody Try.f33 0) :=
  lok l_laws_toActS_3 (by kernel_rfl) fuel fun R X K => (loop_iter (σ := (List Pu.Act) × Int) (fun x => SD.enc d_laws_toActS_3 ((X.1.1, (x.1, (x.2, ()))), ())) (Pu.laws_toActS_T3 (fun y0 y1 => K (.exit 0) (SD.enc d_laws_toActS_3_x0 (((X.1.1), (y0, (y1, ()))), ()))) X.1.1) (fun m x => by kernel_rfl) fuel (X.1.2.1, X.1.2.2.1)).symm
theorem h_laws_toActS : ∀ c ∈ loopsOf (Try.f33.body.getD .skip), LOk E g_laws_toActS n_laws_toActS L_laws_toActS c := by
  have e : loopsOf (Try.f33.body.getD .skip) = [loopBody Try.f33 0] := by kernel_rfl
  rw [e]; simp only [List.forall_mem_cons]; exact ⟨lok_laws_toActS_3, by simp⟩
theorem ok_laws_toActS : FnOk Try.prog 33 e_laws_toActS := FnOk.of (fnOk S_laws_toActS Try.func33 (by kernel_rfl) h_laws_toActS) (fun a => by kernel_rfl)
@[reducible] def s_impl_between : List PS := [.data false (.int .i64), .data false (.int .i64), .data false (.int .i64)]
@[reducible] def r_impl_between : List (Bool × FT) := [(false, .bool)]
noncomputable def F_impl_between (a : Args s_impl_between) : Option (resD r_impl_between) := Pu.impl_between a.1 a.2.1 a.2.2.1
noncomputable def e_impl_between : GEnt := entOf s_impl_between r_impl_between F_impl_between
noncomputable def g_impl_between : Gam := Gam.nil
theorem S_impl_between : Sound Try.prog E g_impl_between := base
def n_impl_between : An := { merge := fun | 1 => some 6 | _ => none }
noncomputable def L_impl_between : Lam := Lam.nil
theorem h_impl_between : ∀ c ∈ loopsOf (Try.f41.body.getD .skip), LOk E g_impl_between n_impl_between L_impl_between c := by
  have e : loopsOf (Try.f41.body.getD .skip) = [] := by kernel_rfl
  rw [e]; simp
theorem ok_impl_between : FnOk Try.prog 41 e_impl_between := FnOk.of (fnOk S_impl_between Try.func41 (by kernel_rfl) h_impl_between) (fun a => by kernel_rfl)
@[reducible] def s_impl_ActOk : List PS := [.data true TAct]
@[reducible] def r_impl_ActOk : List (Bool × FT) := [(false, .bool)]
noncomputable def F_impl_ActOk (a : Args s_impl_ActOk) : Option (resD r_impl_ActOk) := Pu.impl_ActOk a.1
noncomputable def e_impl_ActOk : GEnt := entOf s_impl_ActOk r_impl_ActOk F_impl_ActOk
noncomputable def g_impl_ActOk : Gam := (Gam.nil).add 41 e_impl_between
theorem S_impl_ActOk : Sound Try.prog E g_impl_ActOk := (base).add ok_impl_between
def n_impl_ActOk : An := { merge := fun | 1 => some 12 | 3 => some 31 | 5 => some 2 | _ => none }
noncomputable def L_impl_ActOk : Lam := Lam.nil
theorem h_impl_ActOk : ∀ c ∈ loopsOf (Try.f12.body.getD .skip), LOk E g_impl_ActOk n_impl_ActOk L_impl_ActOk c := by
  have e : loopsOf (Try.f12.body.getD .skip) = [] := by kernel_rfl
  rw [e]; simp
theorem ok_impl_ActOk : FnOk Try.prog 12 e_impl_ActOk := FnOk.of (fnOk S_impl_ActOk Try.func12 (by kernel_rfl) h_impl_ActOk) (fun a => by kernel_rfl)
@[reducible] def s_impl_HasReset : List PS := [.data false (.sl TAct)]
@[reducible] def r_impl_HasReset : List (Bool × FT) := [(false, .bool)]
noncomputable def F_impl_HasReset (a : Args s_impl_HasReset) : Option (resD r_impl_HasReset) := Pu.impl_HasReset a.1
noncomputable def e_impl_HasReset : GEnt := entOf s_impl_HasReset r_impl_HasReset F_impl_HasReset
noncomputable def g_impl_HasReset : Gam := (Gam.nil).add 12 e_impl_ActOk
theorem S_impl_HasReset : Sound Try.prog E g_impl_HasReset := (base).add ok_impl_ActOk
def n_impl_HasReset : An := { mask := fun | 2 => [2, 5, 6, 7] | _ => [], merge := fun | 4 => some 17 | _ => none }
@[reducible] def d_impl_HasReset_2 : SD := ⟨[.bot, .bot, .data false .bool, .bot, .bot, .data false (.sl .arg TAct), .data false (.int .i64), .data false (.int .i64), .bot, .bot, .bot, .bot, .bot, .bot, .bot, .bot, .bot, .bot, .bot], [none, none, none, none, none, none, none, none, none, none, none, none, none, none, none, none, none, none, none]⟩
@[reducible] def d_impl_HasReset_2_x0 : SD := ⟨[.bot, .bot, .data false .bool, .bot, .bot, .data false (.sl .arg TAct), .data false (.int .i64), .data false (.int .i64), .bot, .bot, .bot, .bot, .bot, .bot, .bot, .bot, .bot, .bot, .bot], [none, none, none, none, none, none, none, none, none, none, none, none, none, none, none, none, none, none, none]⟩
@[reducible] def d_impl_HasReset_2_ret : SD := ⟨[.bot, .bot, .data false .bool, .bot, .bot, .data false (.sl .arg TAct), .data false (.int .i64), .data false (.int .i64), .bot, .bot, .bot, .bot, .bot, .bot, .bot, .bot, .bot, .bot, .bot], [none, none, none, none, none, none, none, none, none, none, none, none, none, none, none, none, none, none, none]⟩
noncomputable def l_impl_HasReset_2 : LEnt := ⟨d_impl_HasReset_2, fun X K => iterL (Pu.impl_HasReset_T2 (fun y0 => K (.exit 0) (SD.enc d_impl_HasReset_2_x0 (((X.1.1), ((X.1.2.1), ((X.1.2.2.1), (y0, ())))), ()))) (fun y0 y1 => K .ret (SD.enc d_impl_HasReset_2_ret ((y0, ((X.1.2.1), ((X.1.2.2.1), (y1, ())))), ()))) X.1.1 X.1.2.1 X.1.2.2.1) fuel X.1.2.2.2.1⟩
noncomputable def L_impl_HasReset : Lam := (Lam.nil).add 2 l_impl_HasReset_2
theorem lok_impl_HasReset_2 : LOk E g_impl_HasReset n_impl_HasReset L_impl_HasReset (loopBody Try.f34 0) :=
  lok l_impl_HasReset_2 (by kernel_rfl) fuel fun R X K => (loop_iter (σ := Int) (fun x => SD.enc d_impl_HasReset_2 ((X.1.1, (X.1.2.1, (X.1.2.2.1, (x, ())))), ())) (Pu.impl_HasReset_T2 (fun y0 => K (.exit 0) (SD.enc d_impl_HasReset_2_x0 (((X.1.1), ((X.1.2.1), ((X.1.2.2.1), (y0, ())))), ()))) (fun y0 y1 => K .ret (SD.enc d_impl_HasReset_2_ret ((y0, ((X.1.2.1), ((X.1.2.2.1), (y1, ())))), ()))) X.1.1 X.1.2.1 X.1.2.2.1) (fun m x => by kernel_rfl) fuel X.1.2.2.2.1).symm
theorem h_impl_HasReset : ∀ c ∈ loopsOf (Try.f34.body.getD .skip), LOk E g_impl_HasReset n_impl_HasReset L_impl_HasReset c := by
  have e : loopsOf (Try.f34.body.getD .skip) = [loopBody Try.f34 0] := by kernel_rfl
  rw [e]; simp only [List.forall_mem_cons]; exact ⟨lok_impl_HasReset_2, by simp⟩
theorem ok_impl_HasReset : FnOk Try.prog 34 e_impl_HasReset := FnOk.of (fnOk S_impl_HasReset Try.func34 (by kernel_rfl) h_impl_HasReset) (fun a => by kernel_rfl)
@[reducible] def s_laws_eqSegment : List PS := [.data true TSegment, .data true TSegment]
@[reducible] def r_laws_eqSegment : List (Bool × FT) := [(false, .bool)]
noncomputable def F_laws_eqSegment (a : Args s_laws_eqSegment) : Option (resD r_laws_eqSegment) := Pu.laws_eqSegment a.1 a.2.1
noncomputable def e_laws_eqSegment : GEnt := entOf s_laws_eqSegment r_laws_eqSegment F_laws_eqSegment
noncomputable def g_laws_eqSegment : Gam := Gam.nil
theorem S_laws_eqSegment : Sound Try.prog E g_laws_eqSegment := base
def n_laws_eqSegment : An := {  }
noncomputable def L_laws_eqSegment : Lam := Lam.nil
theorem h_laws_eqSegment : ∀ c ∈ loopsOf (Try.f77.body.getD .skip), LOk E g_laws_eqSegment n_laws_eqSegment L_laws_eqSegment c := by
  have e : loopsOf (Try.f77.body.getD .skip) = [] := by kernel_rfl
  rw [e]; simp
theorem ok_laws_eqSegment : FnOk Try.prog 77 e_laws_eqSegment := FnOk.of (fnOk S_laws_eqSegment Try.func77 (by kernel_rfl) h_laws_eqSegment) (fun a => by kernel_rfl)
@[reducible] def s_laws_eqPacket : List PS := [.data true TPacket, .data true TPacket]
@[reducible] def r_laws_eqPacket : List (Bool × FT) := [(false, .bool)]
noncomputable def F_laws_eqPacket (a : Args s_laws_eqPacket) : Option (resD r_laws_eqPacket) := Pu.laws_eqPacket a.1 a.2.1
noncomputable def e_laws_eqPacket : GEnt := entOf s_laws_eqPacket r_laws_eqPacket F_laws_eqPacket
noncomputable def g_laws_eqPacket : Gam := (Gam.nil).add 77 e_laws_eqSegment
theorem S_laws_eqPacket : Sound Try.prog E g_laws_eqPacket := (base).add ok_laws_eqSegment
def n_laws_eqPacket : An := {  }
noncomputable def L_laws_eqPacket : Lam := Lam.nil
theorem h_laws_eqPacket : ∀ c ∈ loopsOf (Try.f76.body.getD .skip), LOk E g_laws_eqPacket n_laws_eqPacket L_laws_eqPacket c := by
  have e : loopsOf (Try.f76.body.getD .skip) = [] := by kernel_rfl
  rw [e]; simp
theorem ok_laws_eqPacket : FnOk Try.prog 76 e_laws_eqPacket := FnOk.of (fnOk S_laws_eqPacket Try.func76 (by kernel_rfl) h_laws_eqPacket) (fun a => by kernel_rfl)
@[reducible] def s_laws_eqAct : List PS := [.data true TAct, .data true TAct]
@[reducible] def r_laws_eqAct : List (Bool × FT) := [(false, .bool)]
noncomputable def F_laws_eqAct (a : Args s_laws_eqAct) : Option (resD r_laws_eqAct) := Pu.laws_eqAct a.1 a.2.1
noncomputable def e_laws_eqAct : GEnt := entOf s_laws_eqAct r_laws_eqAct F_laws_eqAct
noncomputable def g_laws_eqAct : Gam := (Gam.nil).add 76 e_laws_eqPacket
theorem S_laws_eqAct : Sound Try.prog E g_laws_eqAct := (base).add ok_laws_eqPacket
def n_laws_eqAct : An := {  }
noncomputable def L_laws_eqAct : Lam := Lam.nil
theorem h_laws_eqAct : ∀ c ∈ loopsOf (Try.f60.body.getD .skip), LOk E g_laws_eqAct n_laws_eqAct L_laws_eqAct c := by
  have e : loopsOf (Try.f60.body.getD .skip) = [] := by kernel_rfl
  rw [e]; simp
theorem ok_laws_eqAct : FnOk Try.prog 60 e_laws_eqAct := FnOk.of (fnOk S_laws_eqAct Try.func60 (by kernel_rfl) h_laws_eqAct) (fun a => by kernel_rfl)
@[reducible] def s_laws_eqActS : List PS := [.data false (.sl TAct), .data false (.sl TAct)]
@[reducible] def r_laws_eqActS : List (Bool × FT) := [(false, .bool)]
noncomputable def F_laws_eqActS (a : Args s_laws_eqActS) : Option (resD r_laws_eqActS) := Pu.laws_eqActS a.1 a.2.1
noncomputable def e_laws_eqActS : GEnt := entOf s_laws_eqActS r_laws_eqActS F_laws_eqActS
noncomputable def g_laws_eqActS : Gam := (Gam.nil).add 60 e_laws_eqAct
theorem S_laws_eqActS : Sound Try.prog E g_laws_eqActS := (base).add ok_laws_eqAct
def n_laws_eqActS : An := { mask := fun | 4 => [0, 1, 4, 5] | _ => [] }
@[reducible] def d_laws_eqActS_4 : SD := ⟨[.data false (.sl .arg TAct), .data false (.sl .arg TAct), .bot, .bot, .data false .bool, .data false (.int .i64), .bot, .bot, .bot, .bot, .bot, .bot, .bot, .bot, .bot, .bot, .bot, .bot, .bot, .bot, .bot, .bot, .bot, .bot, .bot, .bot, .bot], [none, none, none, none, none, none, none, none, none, none, none, none, none, none, none, none, none, none, none, none, none, none, none, none, none, none, none]⟩
@[reducible] def d_laws_eqActS_4_x0 : SD := ⟨[.data false (.sl .arg TAct), .data false (.sl .arg TAct), .bot, .bot, .data false .bool, .data false (.int .i64), .bot, .bot, .bot, .bot, .bot, .bot, .bot, .bot, .bot, .bot, .bot, .bot, .bot, .bot, .bot, .bot, .bot, .bot, .bot, .bot, .bot], [none, none, none, none, none, none, none, none, none, none, none, none, none, none, none, none, none, none, none, none, none, none, none, none, none, none, none]⟩
@[reducible] def d_laws_eqActS_4_ret : SD := ⟨[.data false (.sl .arg TAct), .data false (.sl .arg TAct), .bot, .bot, .data false .bool, .data false (.int .i64), .bot, .bot, .bot, .bot, .bot, .bot, .bot, .bot, .bot, .bot, .bot, .bot, .bot, .bot, .bot, .bot, .bot, .bot, .bot, .bot, .bot], [none, none, none, none, none, none, none, none, none, none, none, none, none, none, none, none, none, none, none, none, none, none, none, none, none, none, none]⟩
noncomputable def l_laws_eqActS_4 : LEnt := ⟨d_laws_eqActS_4, fun X K => iterL (Pu.laws_eqActS_T4 (fun y0 => K (.exit 0) (SD.enc d_laws_eqActS_4_x0 (((X.1.1), ((X.1.2.1), ((X.1.2.2.1), (y0, ())))), ()))) (fun y0 y1 => K .ret (SD.enc d_laws_eqActS_4_ret (((X.1.1), ((X.1.2.1), (y0, (y1, ())))), ()))) X.1.1 X.1.2.1 X.1.2.2.1) fuel X.1.2.2.2.1⟩
noncomputable def L_laws_eqActS : Lam := (Lam.nil).add 4 l_laws_eqActS_4
theorem lok_laws_eqActS_4 : LOk E g_laws_eqActS n_laws_eqActS L_laws_eqActS (loopBody Try.f35 0) :=
  lok l_laws_eqActS_4 (by kernel_rfl) fuel fun R X K => (loop_iter (σ := Int) (fun x => SD.enc d_laws_eqActS_4 ((X.1.1, (X.1.2.1, (X.1.2.2.1, (x, ())))), ())) (Pu.laws_eqActS_T4 (fun y0 => K (.exit 0) (SD.enc d_laws_eqActS_4_x0 (((X.1.1), ((X.1.2.1), ((X.1.2.2.1), (y0, ())))), ()))) (fun y0 y1 => K .ret (SD.enc d_laws_eqActS_4_ret (((X.1.1), ((X.1.2.1), (y0, (y1, ())))), ()))) X.1.1 X.1.2.1 X.1.2.2.1) (fun m x => by kernel_rfl) fuel X.1.2.2.2.1).symm
theorem h_laws_eqActS : ∀ c ∈ loopsOf (Try.f35.body.getD .skip), LOk E g_laws_eqActS n_laws_eqActS L_laws_eqActS c := by
  have e : loopsOf (Try.f35.body.getD .skip) = [loopBody Try.f35 0] := by kernel_rfl
  rw [e]; simp only [List.forall_mem_cons]; exact ⟨lok_laws_eqActS_4, by simp⟩
theorem ok_laws_eqActS : FnOk Try.prog 35 e_laws_eqActS := FnOk.of (fnOk S_laws_eqActS Try.func35 (by kernel_rfl) h_laws_eqActS) (fun a => by kernel_rfl)
@[reducible] def s_laws_FnExactHasReset : List PS := [.data false (.sl TAct)]
@[reducible] def r_laws_FnExactHasReset : List (Bool × FT) := [(false, .bool)]
noncomputable def F_laws_FnExactHasReset (a : Args s_laws_FnExactHasReset) : Option (resD r_laws_FnExactHasReset) := Pu.laws_FnExactHasReset a.1
noncomputable def e_laws_FnExactHasReset : GEnt := entOf s_laws_FnExactHasReset r_laws_FnExactHasReset F_laws_FnExactHasReset
noncomputable def g_laws_FnExactHasReset : Gam := (((((Gam.nil).add 31 e_laws_szActS).add 32 e_spec_HasReset).add 33 e_laws_toActS).add 34 e_impl_HasReset).add 35 e_laws_eqActS
theorem S_laws_FnExactHasReset : Sound Try.prog E g_laws_FnExactHasReset := (((((base).add ok_laws_szActS).add ok_spec_HasReset).add ok_laws_toActS).add ok_impl_HasReset).add ok_laws_eqActS
def n_laws_FnExactHasReset : An := {  }
noncomputable def L_laws_FnExactHasReset : Lam := Lam.nil
theorem h_laws_FnExactHasReset : ∀ c ∈ loopsOf (Try.f7.body.getD .skip), LOk E g_laws_FnExactHasReset n_laws_FnExactHasReset L_laws_FnExactHasReset c := by
  have e : loopsOf (Try.f7.body.getD .skip) = [] := by kernel_rfl
  rw [e]; simp
theorem ok_laws_FnExactHasReset : FnOk Try.prog 7 e_laws_FnExactHasReset := FnOk.of (fnOk S_laws_FnExactHasReset Try.func7 (by kernel_rfl) h_laws_FnExactHasReset) (fun a => by kernel_rfl)
@[reducible] def s_laws_FnExactActOk : List PS := [.data true TAct]
@[reducible] def r_laws_FnExactActOk : List (Bool × FT) := [(false, .bool)]
noncomputable def F_laws_FnExactActOk (a : Args s_laws_FnExactActOk) : Option (resD r_laws_FnExactActOk) := Pu.laws_FnExactActOk a.1
noncomputable def e_laws_FnExactActOk : GEnt := entOf s_laws_FnExactActOk r_laws_FnExactActOk F_laws_FnExactActOk
noncomputable def g_laws_FnExactActOk : Gam := ((((Gam.nil).add 9 e_laws_szAct).add 10 e_spec_ActOk).add 11 e_laws_toAct).add 12 e_impl_ActOk
theorem S_laws_FnExactActOk : Sound Try.prog E g_laws_FnExactActOk := ((((base).add ok_laws_szAct).add ok_spec_ActOk).add ok_laws_toAct).add ok_impl_ActOk
def n_laws_FnExactActOk : An := {  }
noncomputable def L_laws_FnExactActOk : Lam := Lam.nil
theorem h_laws_FnExactActOk : ∀ c ∈ loopsOf (Try.f3.body.getD .skip), LOk E g_laws_FnExactActOk n_laws_FnExactActOk L_laws_FnExactActOk c := by
  have e : loopsOf (Try.f3.body.getD .skip) = [] := by kernel_rfl
  rw [e]; simp
theorem ok_laws_FnExactActOk : FnOk Try.prog 3 e_laws_FnExactActOk := FnOk.of (fnOk S_laws_FnExactActOk Try.func3 (by kernel_rfl) h_laws_FnExactActOk) (fun a => by kernel_rfl)

end Go.Proofs.Ytjilbinhppledaa.Fn
