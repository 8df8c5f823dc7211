import Derived.Test.YtjilbinhppledaaDnData
/- The program's functions and the reference's, as functions of data (made by gen.py). -/
namespace Go.Pu
open Go.Dn
set_option linter.unusedVariables false

abbrev Bytes := List UInt8
abbrev Segment := Int × Int × Int × Int × Int × Int × Int × Bytes
abbrev Packet := Int × Int × Int × Int × Int × Int × Int × Int × Segment
abbrev Act := Int × Packet × Int × Int × Bytes × Int
abbrev Flow := Int × Int × Int × Int × Int
abbrev Stream := Flow × Int × Bytes × Bool
@[reducible] def TSegment : CT := (.pair (.int .i64) (.pair (.int .i64) (.pair (.int .i64) (.pair (.int .i64) (.pair (.int .i64) (.pair (.int .i64) (.pair (.int .i64) .str)))))))
@[reducible] def TPacket : CT := (.pair (.int .i64) (.pair (.int .i64) (.pair (.int .i64) (.pair (.int .i64) (.pair (.int .i64) (.pair (.int .i64) (.pair (.int .i64) (.pair (.int .i64) TSegment))))))))
@[reducible] def TAct : CT := (.pair (.int .i64) (.pair TPacket (.pair (.int .i64) (.pair (.int .i64) (.pair .str (.int .i64))))))
@[reducible] def TFlow : CT := (.pair (.int .i64) (.pair (.int .i64) (.pair (.int .i64) (.pair (.int .i64) (.int .i64)))))
@[reducible] def TStream : CT := (.pair TFlow (.pair (.int .i64) (.pair .str .bool)))

noncomputable def laws_szStream (a0 : Stream) (a1 : Int) : Option (Int) :=
  cond (decide ((IntKind.wrap .i64 (a1 - ((List.length a0.2.2.1 : Int)))) < 0)) (
    some (-1)) (
    some (IntKind.wrap .i64 (a1 - ((List.length a0.2.2.1 : Int)))))
noncomputable def laws_szStreamS_T5 {R : Type} (k0 : Int → Int → Option R) (k1 : Int → Int → Int → Option R) (v0 : List Stream) (v4 : Int) (nx : (Int × Int) → Option R) (x : Int × Int) : Option R :=
  cond (decide (x.2 < ((List.length v0 : Int)))) (
    bindO (idx v0 x.2) fun x1 =>
    bindO (laws_szStream x1 x.1) fun r2 =>
    cond (decide (r2 < 0)) (
      k1 r2 (-1) x.2) (
      nx (r2, IntKind.wrap .i64 (x.2 + 1)))) (
    k0 x.1 x.2)
noncomputable def laws_szStreamS (a0 : List Stream) (a1 : Int) : Option (Int) :=
  cond (decide ((IntKind.wrap .i64 (a1 - ((List.length a0 : Int)))) < 0)) (
    some (-1)) (
    iterL (laws_szStreamS_T5
      (fun (y3 : Int) (y4 : Int) =>
        some y3)
      (fun (y5 : Int) (y6 : Int) (y7 : Int) =>
        some y6) a0 0) fuel (IntKind.wrap .i64 (a1 - ((List.length a0 : Int))), 0))
noncomputable def spec_StreamIndex_T2 {R : Type} (k0 : Int → Option R) (k1 : Int → Int → Option R) (v0 : List Stream) (v4 : Int) (b3 : Flow) (nx : Int → Option R) (x : Int) : Option R :=
  cond (decide (x < ((List.length v0 : Int)))) (
    bindO (idx v0 x) fun x1 =>
    cond ((x1.1.1 == b3.1) && ((x1.1.2.1 == b3.2.1) && ((x1.1.2.2.1 == b3.2.2.1) && ((x1.1.2.2.2.1 == b3.2.2.2.1) && ((x1.1.2.2.2.2 == b3.2.2.2.2) && true))))) (
      k1 x x) (
      nx (IntKind.wrap .i64 (x + 1)))) (
    k0 x)
noncomputable def spec_StreamIndex (a0 : List Stream) (a1 : Flow) : Option (Int) :=
  iterL (spec_StreamIndex_T2
    (fun (y2 : Int) =>
      some (-1))
    (fun (y3 : Int) (y4 : Int) =>
      some y3) a0 0 a1) fuel 0
noncomputable def spec_l40Within_T2 {R : Type} (k0 : Int → Option R) (k1 : Bool → Int → Option R) (v0 : List Stream) (v1 : List Stream) (v4 : Bool) (nx : Int → Option R) (x : Int) : Option R :=
  cond (decide (x < ((List.length v0 : Int)))) (
    bindO (idx v0 x) fun x1 =>
    bindO (spec_StreamIndex v0 x1.1) fun r2 =>
    bindO (idx v0 x) fun x3 =>
    bindO (spec_StreamIndex v1 x3.1) fun r4 =>
    bindO (
      cond (decide (r4 < 0)) (
        some true) (
        bindO (idx v0 r2) fun x5 =>
        bindO (idx v1 r4) fun x6 =>
        some (!((x5.1.1 == x6.1.1) && ((x5.1.2.1 == x6.1.2.1) && ((x5.1.2.2.1 == x6.1.2.2.1) && ((x5.1.2.2.2.1 == x6.1.2.2.2.1) && ((x5.1.2.2.2.2 == x6.1.2.2.2.2) && ((x5.2.1 == x6.2.1) && ((x5.2.2.1 == x6.2.2.1) && ((x5.2.2.2 == x6.2.2.2) && true))))))))))) fun b7 =>
    cond b7 (
      k1 false x) (
      nx (IntKind.wrap .i64 (x + 1)))) (
    k0 x)
noncomputable def spec_l40Within (a0 : List Stream) (a1 : List Stream) : Option (Bool) :=
  iterL (spec_l40Within_T2
    (fun (y8 : Int) =>
      some true)
    (fun (y9 : Bool) (y10 : Int) =>
      some y9) a0 a1 false) fuel 0
noncomputable def spec_SameData (a0 : List Stream) (a1 : List Stream) : Option (Bool) :=
  bindO (
    bindO (spec_l40Within a0 a1) fun r1 =>
    cond r1 (
      bindO (spec_l40Within a1 a0) fun r2 =>
      some r2) (
      some false)) fun b3 =>
  some b3
noncomputable def laws_toFlow (a0 : Flow) : Option (Flow) :=
  some a0
noncomputable def laws_toStream (a0 : Stream) : Option (Stream) :=
  bindO (laws_toFlow a0.1) fun r1 =>
  some (r1, a0.2)
noncomputable def laws_toStreamS_T3 {R : Type} (k0 : (List Stream) → Int → Option R) (v0 : List Stream) (nx : ((List Stream) × Int) → Option R) (x : (List Stream) × Int) : Option R :=
  cond (decide (x.2 < ((List.length v0 : Int)))) (
    bindO (idx v0 x.2) fun x1 =>
    bindO (laws_toStream x1) fun r2 =>
    bindO (idx x.1 x.2) fun x3 =>
    bindO (idx x.1 x.2) fun x4 =>
    nx (List.set x.1 (Int.toNat x.2) r2, IntKind.wrap .i64 (x.2 + 1))) (
    k0 x.1 x.2)
noncomputable def laws_toStreamS (a0 : List Stream) : Option (List Stream) :=
  if 0 ≤ ((List.length a0 : Int)) ∧ ((List.length a0 : Int)) ≤ ((List.length a0 : Int)) then (
  room (Int.toNat ((List.length a0 : Int))) (
  iterL (laws_toStreamS_T3
    (fun (y5 : List Stream) (y6 : Int) =>
      some y5) a0) fuel (List.replicate (Int.toNat ((List.length a0 : Int))) ((0, 0, 0, 0, 0), 0, [], false), 0))) else none
noncomputable def impl_StreamIndex_T2 {R : Type} (k0 : Int → Option R) (k1 : Int → Int → Option R) (v4 : Int) (v7 : List Stream) (v8 : Int) (b3 : Flow) (nx : Int → Option R) (x : Int) : Option R :=
  cond (decide (x < v8)) (
    bindO (idx v7 x) fun x1 =>
    cond ((x1.1.1 == b3.1) && ((x1.1.2.1 == b3.2.1) && ((x1.1.2.2.1 == b3.2.2.1) && ((x1.1.2.2.2.1 == b3.2.2.2.1) && ((x1.1.2.2.2.2 == b3.2.2.2.2) && true))))) (
      k1 x x) (
      nx (IntKind.wrap .i64 (x + 1)))) (
    k0 x)
noncomputable def impl_StreamIndex (a0 : List Stream) (a1 : Flow) : Option (Int) :=
  iterL (impl_StreamIndex_T2
    (fun (y2 : Int) =>
      some (-1))
    (fun (y3 : Int) (y4 : Int) =>
      some y3) 0 a0 ((List.length a0 : Int)) a1) fuel 0
noncomputable def impl_sameFirst (a0 : List Stream) (a1 : List Stream) (a2 : Flow) : Option (Bool) :=
  bindO (impl_StreamIndex a0 a2) fun r1 =>
  bindO (impl_StreamIndex a1 a2) fun r2 =>
  bindO (
    cond (decide (r1 ≥ 0)) (
      cond (decide (r2 ≥ 0)) (
        bindO (idx a0 r1) fun x3 =>
        bindO (idx a1 r2) fun x4 =>
        some ((x3.1.1 == x4.1.1) && ((x3.1.2.1 == x4.1.2.1) && ((x3.1.2.2.1 == x4.1.2.2.1) && ((x3.1.2.2.2.1 == x4.1.2.2.2.1) && ((x3.1.2.2.2.2 == x4.1.2.2.2.2) && ((x3.2.1 == x4.2.1) && ((x3.2.2.1 == x4.2.2.1) && ((x3.2.2.2 == x4.2.2.2) && true))))))))) (
        some false)) (
      some false)) fun b5 =>
  some b5
noncomputable def impl_SameData_T2 {R : Type} (k0 : Int → Option R) (k1 : Bool → Int → Option R) (v0 : List Stream) (v1 : List Stream) (v4 : Bool) (v9 : List Stream) (v10 : Int) (nx : Int → Option R) (x : Int) : Option R :=
  cond (decide (x < v10)) (
    bindO (idx v9 x) fun x1 =>
    bindO (impl_sameFirst v0 v1 x1.1) fun r2 =>
    cond (!r2) (
      k1 false x) (
      nx (IntKind.wrap .i64 (x + 1)))) (
    k0 x)
noncomputable def impl_SameData_T8 {R : Type} (k0 : Int → Option R) (k1 : Bool → Int → Option R) (v0 : List Stream) (v1 : List Stream) (v4 : Bool) (v22 : List Stream) (v23 : Int) (nx : Int → Option R) (x : Int) : Option R :=
  cond (decide (x < v23)) (
    bindO (idx v22 x) fun x4 =>
    bindO (impl_sameFirst v0 v1 x4.1) fun r5 =>
    cond (!r5) (
      k1 false x) (
      nx (IntKind.wrap .i64 (x + 1)))) (
    k0 x)
noncomputable def impl_SameData (a0 : List Stream) (a1 : List Stream) : Option (Bool) :=
  iterL (impl_SameData_T2
    (fun (y3 : Int) =>
      iterL (impl_SameData_T8
        (fun (y6 : Int) =>
          some true)
        (fun (y7 : Bool) (y8 : Int) =>
          some y7) a0 a1 false a1 ((List.length a1 : Int))) fuel 0)
    (fun (y9 : Bool) (y10 : Int) =>
      some y9) a0 a1 false a0 ((List.length a0 : Int))) fuel 0
noncomputable def laws_eqFlow (a0 : Flow) (a1 : Flow) : Option (Bool) :=
  cond (a0.1 != a1.1) (
    some false) (
    cond (a0.2.1 != a1.2.1) (
      some false) (
      cond (a0.2.2.1 != a1.2.2.1) (
        some false) (
        cond (a0.2.2.2.1 != a1.2.2.2.1) (
          some false) (
          cond (a0.2.2.2.2 != a1.2.2.2.2) (
            some false) (
            some true)))))
noncomputable def laws_eqStream (a0 : Stream) (a1 : Stream) : Option (Bool) :=
  bindO (laws_eqFlow a0.1 a1.1) fun r1 =>
  cond (!r1) (
    some false) (
    cond (a0.2.1 != a1.2.1) (
      some false) (
      cond (!(a0.2.2.1 == a1.2.2.1)) (
        some false) (
        cond (!(a0.2.2.2 == a1.2.2.2)) (
          some false) (
          some true))))
noncomputable def laws_eqStreamS_T4 {R : Type} (k0 : Int → Option R) (k1 : Bool → Int → Option R) (v0 : List Stream) (v1 : List Stream) (v4 : Bool) (nx : Int → Option R) (x : Int) : Option R :=
  cond (decide (x < ((List.length v0 : Int)))) (
    bindO (idx v0 x) fun x1 =>
    bindO (idx v1 x) fun x2 =>
    bindO (laws_eqStream x1 x2) fun r3 =>
    cond (!r3) (
      k1 false x) (
      nx (IntKind.wrap .i64 (x + 1)))) (
    k0 x)
noncomputable def laws_eqStreamS (a0 : List Stream) (a1 : List Stream) : Option (Bool) :=
  cond (((List.length a0 : Int)) != ((List.length a1 : Int))) (
    some false) (
    iterL (laws_eqStreamS_T4
      (fun (y4 : Int) =>
        some true)
      (fun (y5 : Bool) (y6 : Int) =>
        some y5) a0 a1 false) fuel 0)
noncomputable def laws_FnExactSameData (a0 : List Stream) (a1 : List Stream) : Option (Bool) :=
  bindO (laws_szStreamS a0 1048576) fun r1 =>
  cond (decide (r1 < 0)) (
    some true) (
    bindO (laws_szStreamS a1 r1) fun r2 =>
    cond (decide (r2 < 0)) (
      some true) (
      bindO (laws_toStreamS a0) fun r3 =>
      bindO (laws_toStreamS a1) fun r4 =>
      bindO (spec_SameData r3 r4) fun r5 =>
      bindO (laws_toStreamS a0) fun r6 =>
      bindO (laws_toStreamS a1) fun r7 =>
      bindO (impl_SameData r6 r7) fun r8 =>
      cond (!(r8 == r5)) (
        some false) (
        bindO (laws_toStreamS a0) fun r9 =>
        bindO (laws_eqStreamS r6 r9) fun r10 =>
        cond (!r10) (
          some false) (
          bindO (laws_toStreamS a1) fun r11 =>
          bindO (laws_eqStreamS r7 r11) fun r12 =>
          cond (!r12) (
            some false) (
            some true)))))
noncomputable def laws_szSegment (a0 : Segment) (a1 : Int) : Option (Int) :=
  cond (decide ((IntKind.wrap .i64 (a1 - ((List.length a0.2.2.2.2.2.2.2 : Int)))) < 0)) (
    some (-1)) (
    some (IntKind.wrap .i64 (a1 - ((List.length a0.2.2.2.2.2.2.2 : Int)))))
noncomputable def laws_szPacket (a0 : Packet) (a1 : Int) : Option (Int) :=
  bindO (laws_szSegment a0.2.2.2.2.2.2.2.2 a1) fun r1 =>
  cond (decide (r1 < 0)) (
    some (-1)) (
    some r1)
noncomputable def laws_szAct (a0 : Act) (a1 : Int) : Option (Int) :=
  bindO (laws_szPacket a0.2.1 a1) fun r1 =>
  cond (decide (r1 < 0)) (
    some (-1)) (
    cond (decide ((IntKind.wrap .i64 (r1 - ((List.length a0.2.2.2.2.1 : Int)))) < 0)) (
      some (-1)) (
      some (IntKind.wrap .i64 (r1 - ((List.length a0.2.2.2.2.1 : Int))))))
noncomputable def laws_szActS_T5 {R : Type} (k0 : Int → Int → Option R) (k1 : Int → Int → Int → Option R) (v0 : List Act) (v4 : Int) (nx : (Int × Int) → Option R) (x : Int × Int) : Option R :=
  cond (decide (x.2 < ((List.length v0 : Int)))) (
    bindO (idx v0 x.2) fun x1 =>
    bindO (laws_szAct x1 x.1) fun r2 =>
    cond (decide (r2 < 0)) (
      k1 r2 (-1) x.2) (
      nx (r2, IntKind.wrap .i64 (x.2 + 1)))) (
    k0 x.1 x.2)
noncomputable def laws_szActS (a0 : List Act) (a1 : Int) : Option (Int) :=
  cond (decide ((IntKind.wrap .i64 (a1 - ((List.length a0 : Int)))) < 0)) (
    some (-1)) (
    iterL (laws_szActS_T5
      (fun (y3 : Int) (y4 : Int) =>
        some y3)
      (fun (y5 : Int) (y6 : Int) (y7 : Int) =>
        some y6) a0 0) fuel (IntKind.wrap .i64 (a1 - ((List.length a0 : Int))), 0))
noncomputable def spec_l01In (a0 : Int) (a1 : Int) (a2 : Int) : Option (Bool) :=
  bindO (
    cond (decide (a0 ≥ a1)) (
      some (decide (a0 ≤ a2))) (
      some false)) fun b1 =>
  some b1
noncomputable def spec_ActOk (a0 : Act) : Option (Bool) :=
  bindO (
    bindO (spec_l01In a0.1 0 6) fun r1 =>
    cond (!r1) (
      some true) (
      some (decide (((List.length a0.2.2.2.2.1 : Int)) > 600)))) fun b2 =>
  cond b2 (
    some false) (
    bindO (
      cond (a0.1 != 0) (
        cond (!((a0.2.1.1 == 0) && ((a0.2.1.2.1 == 0) && ((a0.2.1.2.2.1 == 0) && ((a0.2.1.2.2.2.1 == 0) && ((a0.2.1.2.2.2.2.1 == 0) && ((a0.2.1.2.2.2.2.2.1 == 0) && ((a0.2.1.2.2.2.2.2.2.1 == 0) && ((a0.2.1.2.2.2.2.2.2.2.1 == 0) && ((a0.2.1.2.2.2.2.2.2.2.2.1 == 0) && ((a0.2.1.2.2.2.2.2.2.2.2.2.1 == 0) && ((a0.2.1.2.2.2.2.2.2.2.2.2.2.1 == 0) && ((a0.2.1.2.2.2.2.2.2.2.2.2.2.2.1 == 0) && ((a0.2.1.2.2.2.2.2.2.2.2.2.2.2.2.1 == 0) && ((a0.2.1.2.2.2.2.2.2.2.2.2.2.2.2.2.1 == 0) && ((a0.2.1.2.2.2.2.2.2.2.2.2.2.2.2.2.2.1 == 0) && ((a0.2.1.2.2.2.2.2.2.2.2.2.2.2.2.2.2.2 == []) && true))))))))))))))))) (
          some true) (
          cond (a0.2.2.1 != 0) (
            some true) (
            some (a0.2.2.2.1 != 0)))) (
        some false)) fun b3 =>
    cond b3 (
      some false) (
      bindO (
        cond (a0.1 == 2) (
          cond (a0.1 == 5) (
            some true) (
            some (a0.2.2.2.2.2 == 0))) (
          cond (a0.2.2.2.2.1 == []) (
            cond (a0.1 == 5) (
              some true) (
              some (a0.2.2.2.2.2 == 0))) (
            some false))) fun b4 =>
      some b4))
noncomputable def spec_HasReset_T2 {R : Type} (k0 : Int → Option R) (k1 : Bool → Int → Option R) (v0 : List Act) (v2 : Bool) (nx : Int → Option R) (x : Int) : Option R :=
  cond (decide (x < ((List.length v0 : Int)))) (
    bindO (
      bindO (idx v0 x) fun x1 =>
      bindO (spec_ActOk x1) fun r2 =>
      cond r2 (
        bindO (idx v0 x) fun x3 =>
        some (x3.1 == 6)) (
        some false)) fun b4 =>
    cond b4 (
      k1 true x) (
      nx (IntKind.wrap .i64 (x + 1)))) (
    k0 x)
noncomputable def spec_HasReset (a0 : List Act) : Option (Bool) :=
  iterL (spec_HasReset_T2
    (fun (y5 : Int) =>
      some false)
    (fun (y6 : Bool) (y7 : Int) =>
      some y6) a0 false) fuel 0
noncomputable def laws_toSegment (a0 : Segment) : Option (Segment) :=
  some a0
noncomputable def laws_toPacket (a0 : Packet) : Option (Packet) :=
  bindO (laws_toSegment a0.2.2.2.2.2.2.2.2) fun r1 =>
  some (a0.1, a0.2.1, a0.2.2.1, a0.2.2.2.1, a0.2.2.2.2.1, a0.2.2.2.2.2.1, a0.2.2.2.2.2.2.1, a0.2.2.2.2.2.2.2.1, r1)
noncomputable def laws_toAct (a0 : Act) : Option (Act) :=
  bindO (laws_toPacket a0.2.1) fun r1 =>
  some (a0.1, r1, a0.2.2)
noncomputable def laws_toActS_T3 {R : Type} (k0 : (List Act) → Int → Option R) (v0 : List Act) (nx : ((List Act) × Int) → Option R) (x : (List Act) × Int) : Option R :=
  cond (decide (x.2 < ((List.length v0 : Int)))) (
    bindO (idx v0 x.2) fun x1 =>
    bindO (laws_toAct x1) fun r2 =>
    bindO (idx x.1 x.2) fun x3 =>
    bindO (idx x.1 x.2) fun x4 =>
    nx (List.set x.1 (Int.toNat x.2) r2, IntKind.wrap .i64 (x.2 + 1))) (
    k0 x.1 x.2)
noncomputable def laws_toActS (a0 : List Act) : Option (List Act) :=
  if 0 ≤ ((List.length a0 : Int)) ∧ ((List.length a0 : Int)) ≤ ((List.length a0 : Int)) then (
  room (Int.toNat ((List.length a0 : Int))) (
  iterL (laws_toActS_T3
    (fun (y5 : List Act) (y6 : Int) =>
      some y5) a0) fuel (List.replicate (Int.toNat ((List.length a0 : Int))) (0, (0, 0, 0, 0, 0, 0, 0, 0, 0, 0, 0, 0, 0, 0, 0, []), 0, 0, [], 0), 0))) else none
noncomputable def impl_between (a0 : Int) (a1 : Int) (a2 : Int) : Option (Bool) :=
  bindO (
    cond (decide (a0 ≥ a1)) (
      some (decide (a0 ≤ a2))) (
      some false)) fun b1 =>
  some b1
noncomputable def impl_ActOk (a0 : Act) : Option (Bool) :=
  bindO (
    bindO (impl_between a0.1 0 6) fun r1 =>
    cond (!r1) (
      some true) (
      some (decide (((List.length a0.2.2.2.2.1 : Int)) > 600)))) fun b2 =>
  cond b2 (
    some false) (
    bindO (
      cond (a0.1 != 0) (
        cond (!((a0.2.1.1 == 0) && ((a0.2.1.2.1 == 0) && ((a0.2.1.2.2.1 == 0) && ((a0.2.1.2.2.2.1 == 0) && ((a0.2.1.2.2.2.2.1 == 0) && ((a0.2.1.2.2.2.2.2.1 == 0) && ((a0.2.1.2.2.2.2.2.2.1 == 0) && ((a0.2.1.2.2.2.2.2.2.2.1 == 0) && ((a0.2.1.2.2.2.2.2.2.2.2.1 == 0) && ((a0.2.1.2.2.2.2.2.2.2.2.2.1 == 0) && ((a0.2.1.2.2.2.2.2.2.2.2.2.2.1 == 0) && ((a0.2.1.2.2.2.2.2.2.2.2.2.2.2.1 == 0) && ((a0.2.1.2.2.2.2.2.2.2.2.2.2.2.2.1 == 0) && ((a0.2.1.2.2.2.2.2.2.2.2.2.2.2.2.2.1 == 0) && ((a0.2.1.2.2.2.2.2.2.2.2.2.2.2.2.2.2.1 == 0) && ((a0.2.1.2.2.2.2.2.2.2.2.2.2.2.2.2.2.2 == []) && true))))))))))))))))) (
          some true) (
          cond (a0.2.2.1 != 0) (
            some true) (
            some (a0.2.2.2.1 != 0)))) (
        some false)) fun b3 =>
    cond b3 (
      some false) (
      bindO (
        cond (a0.1 == 2) (
          cond (a0.1 == 5) (
            some true) (
            some (a0.2.2.2.2.2 == 0))) (
          cond (a0.2.2.2.2.1 == []) (
            cond (a0.1 == 5) (
              some true) (
              some (a0.2.2.2.2.2 == 0))) (
            some false))) fun b4 =>
      some b4))
noncomputable def impl_HasReset_T2 {R : Type} (k0 : Int → Option R) (k1 : Bool → Int → Option R) (v2 : Bool) (v5 : List Act) (v6 : Int) (nx : Int → Option R) (x : Int) : Option R :=
  cond (decide (x < v6)) (
    bindO (idx v5 x) fun x1 =>
    bindO (
      cond (x1.1 == 6) (
        bindO (impl_ActOk x1) fun r2 =>
        some r2) (
        some false)) fun b3 =>
    cond b3 (
      k1 true x) (
      nx (IntKind.wrap .i64 (x + 1)))) (
    k0 x)
noncomputable def impl_HasReset (a0 : List Act) : Option (Bool) :=
  iterL (impl_HasReset_T2
    (fun (y4 : Int) =>
      some false)
    (fun (y5 : Bool) (y6 : Int) =>
      some y5) false a0 ((List.length a0 : Int))) fuel 0
noncomputable def laws_eqSegment (a0 : Segment) (a1 : Segment) : Option (Bool) :=
  cond (a0.1 != a1.1) (
    some false) (
    cond (a0.2.1 != a1.2.1) (
      some false) (
      cond (a0.2.2.1 != a1.2.2.1) (
        some false) (
        cond (a0.2.2.2.1 != a1.2.2.2.1) (
          some false) (
          cond (a0.2.2.2.2.1 != a1.2.2.2.2.1) (
            some false) (
            cond (a0.2.2.2.2.2.1 != a1.2.2.2.2.2.1) (
              some false) (
              cond (a0.2.2.2.2.2.2.1 != a1.2.2.2.2.2.2.1) (
                some false) (
                cond (!(a0.2.2.2.2.2.2.2 == a1.2.2.2.2.2.2.2)) (
                  some false) (
                  some true))))))))
noncomputable def laws_eqPacket (a0 : Packet) (a1 : Packet) : Option (Bool) :=
  cond (a0.1 != a1.1) (
    some false) (
    cond (a0.2.1 != a1.2.1) (
      some false) (
      cond (a0.2.2.1 != a1.2.2.1) (
        some false) (
        cond (a0.2.2.2.1 != a1.2.2.2.1) (
          some false) (
          cond (a0.2.2.2.2.1 != a1.2.2.2.2.1) (
            some false) (
            cond (a0.2.2.2.2.2.1 != a1.2.2.2.2.2.1) (
              some false) (
              cond (a0.2.2.2.2.2.2.1 != a1.2.2.2.2.2.2.1) (
                some false) (
                cond (a0.2.2.2.2.2.2.2.1 != a1.2.2.2.2.2.2.2.1) (
                  some false) (
                  bindO (laws_eqSegment a0.2.2.2.2.2.2.2.2 a1.2.2.2.2.2.2.2.2) fun r1 =>
                  cond (!r1) (
                    some false) (
                    some true)))))))))
noncomputable def laws_eqAct (a0 : Act) (a1 : Act) : Option (Bool) :=
  cond (a0.1 != a1.1) (
    some false) (
    bindO (laws_eqPacket a0.2.1 a1.2.1) fun r1 =>
    cond (!r1) (
      some false) (
      cond (a0.2.2.1 != a1.2.2.1) (
        some false) (
        cond (a0.2.2.2.1 != a1.2.2.2.1) (
          some false) (
          cond (!(a0.2.2.2.2.1 == a1.2.2.2.2.1)) (
            some false) (
            cond (a0.2.2.2.2.2 != a1.2.2.2.2.2) (
              some false) (
              some true))))))
noncomputable def laws_eqActS_T4 {R : Type} (k0 : Int → Option R) (k1 : Bool → Int → Option R) (v0 : List Act) (v1 : List Act) (v4 : Bool) (nx : Int → Option R) (x : Int) : Option R :=
  cond (decide (x < ((List.length v0 : Int)))) (
    bindO (idx v0 x) fun x1 =>
    bindO (idx v1 x) fun x2 =>
    bindO (laws_eqAct x1 x2) fun r3 =>
    cond (!r3) (
      k1 false x) (
      nx (IntKind.wrap .i64 (x + 1)))) (
    k0 x)
noncomputable def laws_eqActS (a0 : List Act) (a1 : List Act) : Option (Bool) :=
  cond (((List.length a0 : Int)) != ((List.length a1 : Int))) (
    some false) (
    iterL (laws_eqActS_T4
      (fun (y4 : Int) =>
        some true)
      (fun (y5 : Bool) (y6 : Int) =>
        some y5) a0 a1 false) fuel 0)
noncomputable def laws_FnExactHasReset (a0 : List Act) : Option (Bool) :=
  bindO (laws_szActS a0 1048576) fun r1 =>
  cond (decide (r1 < 0)) (
    some true) (
    bindO (laws_toActS a0) fun r2 =>
    bindO (spec_HasReset r2) fun r3 =>
    bindO (laws_toActS a0) fun r4 =>
    bindO (impl_HasReset r4) fun r5 =>
    cond (!(r5 == r3)) (
      some false) (
      bindO (laws_toActS a0) fun r6 =>
      bindO (laws_eqActS r4 r6) fun r7 =>
      cond (!r7) (
        some false) (
        some true)))
noncomputable def laws_FnExactActOk (a0 : Act) : Option (Bool) :=
  bindO (laws_szAct a0 1048576) fun r1 =>
  cond (decide (r1 < 0)) (
    some true) (
    bindO (laws_toAct a0) fun r2 =>
    bindO (spec_ActOk r2) fun r3 =>
    bindO (laws_toAct a0) fun r4 =>
    bindO (impl_ActOk r4) fun r5 =>
    cond (!(r5 == r3)) (
      some false) (
      some true))

end Go.Pu
