import Derived.Test.YtjilbinhppledaaDnData
/- The program's functions and the reference's, as functions of data (made by gen.py). -/
namespace Go.Pu
open Go.Dn
set_option linter.unusedVariables false

abbrev Bytes := List UInt8
abbrev Segment := Int × Int × Int × Int × Int × Int × Int × Bytes
abbrev Packet := Int × Int × Int × Int × Int × Int × Int × Int × Segment
abbrev Act := Int × Packet × Int × Int × Bytes × Int
abbrev Flow := Int × Int × Int × Int × Int
abbrev Stream := Flow × Int × Bytes × Bool
abbrev Move := (List Bytes) × (List Int) × Int
@[reducible] def TSegment : CT := (.pair (.int .i64) (.pair (.int .i64) (.pair (.int .i64) (.pair (.int .i64) (.pair (.int .i64) (.pair (.int .i64) (.pair (.int .i64) .str)))))))
@[reducible] def TPacket : CT := (.pair (.int .i64) (.pair (.int .i64) (.pair (.int .i64) (.pair (.int .i64) (.pair (.int .i64) (.pair (.int .i64) (.pair (.int .i64) (.pair (.int .i64) TSegment))))))))
@[reducible] def TAct : CT := (.pair (.int .i64) (.pair TPacket (.pair (.int .i64) (.pair (.int .i64) (.pair .str (.int .i64))))))
@[reducible] def TFlow : CT := (.pair (.int .i64) (.pair (.int .i64) (.pair (.int .i64) (.pair (.int .i64) (.int .i64)))))
@[reducible] def TStream : CT := (.pair TFlow (.pair (.int .i64) (.pair .str .bool)))
@[reducible] def TMove : CT := (.pair (.sl .str) (.pair (.sl (.int .i64)) (.int .i64)))

noncomputable def laws_szStream (a0 : Stream) (a1 : Int) : Option (Int) :=
  cond (decide ((IntKind.wrap .i64 (a1 - ((List.length a0.2.2.1 : Int)))) < 0)) (
    some (-1)) (
    some (IntKind.wrap .i64 (a1 - ((List.length a0.2.2.1 : Int)))))
noncomputable def laws_szStreamS_T5 {R : Type} (k0 : Int → Int → Option R) (k1 : Int → Int → Int → Option R) (v0 : List Stream) (v4 : Int) (nx : (Int × Int) → Option R) (x : Int × Int) : Option R :=
  cond (decide (x.2 < ((List.length v0 : Int)))) (
    bindO (idx v0 x.2) fun x1 =>
    bindO (laws_szStream x1 x.1) fun r2 =>
    cond (decide (r2 < 0)) (
      k1 r2 (-1) x.2) (
      nx (r2, IntKind.wrap .i64 (x.2 + 1)))) (
    k0 x.1 x.2)
noncomputable def laws_szStreamS (a0 : List Stream) (a1 : Int) : Option (Int) :=
  cond (decide ((IntKind.wrap .i64 (a1 - ((List.length a0 : Int)))) < 0)) (
    some (-1)) (
    iterL (laws_szStreamS_T5
      (fun (y3 : Int) (y4 : Int) =>
        some y3)
      (fun (y5 : Int) (y6 : Int) (y7 : Int) =>
        some y6) a0 0) fuel (IntKind.wrap .i64 (a1 - ((List.length a0 : Int))), 0))
noncomputable def spec_StreamIndex_T2 {R : Type} (k0 : Int → Option R) (k1 : Int → Int → Option R) (v0 : List Stream) (v4 : Int) (b3 : Flow) (nx : Int → Option R) (x : Int) : Option R :=
  cond (decide (x < ((List.length v0 : Int)))) (
    bindO (idx v0 x) fun x1 =>
    cond ((x1.1.1 == b3.1) && ((x1.1.2.1 == b3.2.1) && ((x1.1.2.2.1 == b3.2.2.1) && ((x1.1.2.2.2.1 == b3.2.2.2.1) && ((x1.1.2.2.2.2 == b3.2.2.2.2) && true))))) (
      k1 x x) (
      nx (IntKind.wrap .i64 (x + 1)))) (
    k0 x)
noncomputable def spec_StreamIndex (a0 : List Stream) (a1 : Flow) : Option (Int) :=
  iterL (spec_StreamIndex_T2
    (fun (y2 : Int) =>
      some (-1))
    (fun (y3 : Int) (y4 : Int) =>
      some y3) a0 0 a1) fuel 0
noncomputable def spec_l40Within_T2 {R : Type} (k0 : Int → Option R) (k1 : Bool → Int → Option R) (v0 : List Stream) (v1 : List Stream) (v4 : Bool) (nx : Int → Option R) (x : Int) : Option R :=
  cond (decide (x < ((List.length v0 : Int)))) (
    bindO (idx v0 x) fun x1 =>
    bindO (spec_StreamIndex v0 x1.1) fun r2 =>
    bindO (idx v0 x) fun x3 =>
    bindO (spec_StreamIndex v1 x3.1) fun r4 =>
    bindO (
      cond (decide (r4 < 0)) (
        some true) (
        bindO (idx v0 r2) fun x5 =>
        bindO (idx v1 r4) fun x6 =>
        some (!((x5.1.1 == x6.1.1) && ((x5.1.2.1 == x6.1.2.1) && ((x5.1.2.2.1 == x6.1.2.2.1) && ((x5.1.2.2.2.1 == x6.1.2.2.2.1) && ((x5.1.2.2.2.2 == x6.1.2.2.2.2) && ((x5.2.1 == x6.2.1) && ((x5.2.2.1 == x6.2.2.1) && ((x5.2.2.2 == x6.2.2.2) && true))))))))))) fun q7 =>
    cond q7 (
      k1 false x) (
      nx (IntKind.wrap .i64 (x + 1)))) (
    k0 x)
noncomputable def spec_l40Within (a0 : List Stream) (a1 : List Stream) : Option (Bool) :=
  iterL (spec_l40Within_T2
    (fun (y8 : Int) =>
      some true)
    (fun (y9 : Bool) (y10 : Int) =>
      some y9) a0 a1 false) fuel 0
noncomputable def spec_SameData (a0 : List Stream) (a1 : List Stream) : Option (Bool) :=
  bindO (
    bindO (spec_l40Within a0 a1) fun r1 =>
    cond r1 (
      bindO (spec_l40Within a1 a0) fun r2 =>
      some r2) (
      some false)) fun q3 =>
  some q3
noncomputable def laws_toFlow (a0 : Flow) : Option (Flow) :=
  some a0
noncomputable def laws_toStream (a0 : Stream) : Option (Stream) :=
  bindO (laws_toFlow a0.1) fun r1 =>
  some (r1, a0.2)
noncomputable def laws_toStreamS_T3 {R : Type} (k0 : (List Stream) → Int → Option R) (v0 : List Stream) (nx : ((List Stream) × Int) → Option R) (x : (List Stream) × Int) : Option R :=
  cond (decide (x.2 < ((List.length v0 : Int)))) (
    bindO (idx v0 x.2) fun x1 =>
    bindO (laws_toStream x1) fun r2 =>
    bindO (idx x.1 x.2) fun x3 =>
    bindO (idx x.1 x.2) fun x4 =>
    nx (List.set x.1 (Int.toNat x.2) r2, IntKind.wrap .i64 (x.2 + 1))) (
    k0 x.1 x.2)
noncomputable def laws_toStreamS (a0 : List Stream) : Option (List Stream) :=
  if 0 ≤ ((List.length a0 : Int)) ∧ ((List.length a0 : Int)) ≤ ((List.length a0 : Int)) then (
  room (Int.toNat ((List.length a0 : Int))) (
  iterL (laws_toStreamS_T3
    (fun (y5 : List Stream) (y6 : Int) =>
      some y5) a0) fuel (List.replicate (Int.toNat ((List.length a0 : Int))) ((0, 0, 0, 0, 0), 0, ([] : Bytes), false), 0))) else none
noncomputable def impl_StreamIndex_T2 {R : Type} (k0 : Int → Option R) (k1 : Int → Int → Option R) (v4 : Int) (v7 : List Stream) (v8 : Int) (b3 : Flow) (nx : Int → Option R) (x : Int) : Option R :=
  cond (decide (x < v8)) (
    bindO (idx v7 x) fun x1 =>
    cond ((x1.1.1 == b3.1) && ((x1.1.2.1 == b3.2.1) && ((x1.1.2.2.1 == b3.2.2.1) && ((x1.1.2.2.2.1 == b3.2.2.2.1) && ((x1.1.2.2.2.2 == b3.2.2.2.2) && true))))) (
      k1 x x) (
      nx (IntKind.wrap .i64 (x + 1)))) (
    k0 x)
noncomputable def impl_StreamIndex (a0 : List Stream) (a1 : Flow) : Option (Int) :=
  iterL (impl_StreamIndex_T2
    (fun (y2 : Int) =>
      some (-1))
    (fun (y3 : Int) (y4 : Int) =>
      some y3) 0 a0 ((List.length a0 : Int)) a1) fuel 0
noncomputable def impl_sameFirst (a0 : List Stream) (a1 : List Stream) (a2 : Flow) : Option (Bool) :=
  bindO (impl_StreamIndex a0 a2) fun r1 =>
  bindO (impl_StreamIndex a1 a2) fun r2 =>
  bindO (
    cond (decide (r1 ≥ 0)) (
      cond (decide (r2 ≥ 0)) (
        bindO (idx a0 r1) fun x3 =>
        bindO (idx a1 r2) fun x4 =>
        some ((x3.1.1 == x4.1.1) && ((x3.1.2.1 == x4.1.2.1) && ((x3.1.2.2.1 == x4.1.2.2.1) && ((x3.1.2.2.2.1 == x4.1.2.2.2.1) && ((x3.1.2.2.2.2 == x4.1.2.2.2.2) && ((x3.2.1 == x4.2.1) && ((x3.2.2.1 == x4.2.2.1) && ((x3.2.2.2 == x4.2.2.2) && true))))))))) (
        some false)) (
      some false)) fun q5 =>
  some q5
noncomputable def impl_SameData_T2 {R : Type} (k0 : Int → Option R) (k1 : Bool → Int → Option R) (v0 : List Stream) (v1 : List Stream) (v4 : Bool) (v9 : List Stream) (v10 : Int) (nx : Int → Option R) (x : Int) : Option R :=
  cond (decide (x < v10)) (
    bindO (idx v9 x) fun x1 =>
    bindO (impl_sameFirst v0 v1 x1.1) fun r2 =>
    cond (!r2) (
      k1 false x) (
      nx (IntKind.wrap .i64 (x + 1)))) (
    k0 x)
noncomputable def impl_SameData_T8 {R : Type} (k0 : Int → Option R) (k1 : Bool → Int → Option R) (v0 : List Stream) (v1 : List Stream) (v4 : Bool) (v22 : List Stream) (v23 : Int) (nx : Int → Option R) (x : Int) : Option R :=
  cond (decide (x < v23)) (
    bindO (idx v22 x) fun x4 =>
    bindO (impl_sameFirst v0 v1 x4.1) fun r5 =>
    cond (!r5) (
      k1 false x) (
      nx (IntKind.wrap .i64 (x + 1)))) (
    k0 x)
noncomputable def impl_SameData (a0 : List Stream) (a1 : List Stream) : Option (Bool) :=
  iterL (impl_SameData_T2
    (fun (y3 : Int) =>
      iterL (impl_SameData_T8
        (fun (y6 : Int) =>
          some true)
        (fun (y7 : Bool) (y8 : Int) =>
          some y7) a0 a1 false a1 ((List.length a1 : Int))) fuel 0)
    (fun (y9 : Bool) (y10 : Int) =>
      some y9) a0 a1 false a0 ((List.length a0 : Int))) fuel 0
noncomputable def laws_eqFlow (a0 : Flow) (a1 : Flow) : Option (Bool) :=
  cond (a0.1 != a1.1) (
    some false) (
    cond (a0.2.1 != a1.2.1) (
      some false) (
      cond (a0.2.2.1 != a1.2.2.1) (
        some false) (
        cond (a0.2.2.2.1 != a1.2.2.2.1) (
          some false) (
          cond (a0.2.2.2.2 != a1.2.2.2.2) (
            some false) (
            some true)))))
noncomputable def laws_eqStream (a0 : Stream) (a1 : Stream) : Option (Bool) :=
  bindO (laws_eqFlow a0.1 a1.1) fun r1 =>
  cond (!r1) (
    some false) (
    cond (a0.2.1 != a1.2.1) (
      some false) (
      cond (!(a0.2.2.1 == a1.2.2.1)) (
        some false) (
        cond (!(a0.2.2.2 == a1.2.2.2)) (
          some false) (
          some true))))
noncomputable def laws_eqStreamS_T4 {R : Type} (k0 : Int → Option R) (k1 : Bool → Int → Option R) (v0 : List Stream) (v1 : List Stream) (v4 : Bool) (nx : Int → Option R) (x : Int) : Option R :=
  cond (decide (x < ((List.length v0 : Int)))) (
    bindO (idx v0 x) fun x1 =>
    bindO (idx v1 x) fun x2 =>
    bindO (laws_eqStream x1 x2) fun r3 =>
    cond (!r3) (
      k1 false x) (
      nx (IntKind.wrap .i64 (x + 1)))) (
    k0 x)
noncomputable def laws_eqStreamS (a0 : List Stream) (a1 : List Stream) : Option (Bool) :=
  cond (((List.length a0 : Int)) != ((List.length a1 : Int))) (
    some false) (
    iterL (laws_eqStreamS_T4
      (fun (y4 : Int) =>
        some true)
      (fun (y5 : Bool) (y6 : Int) =>
        some y5) a0 a1 false) fuel 0)
noncomputable def laws_FnExactSameData (a0 : List Stream) (a1 : List Stream) : Option (Bool) :=
  bindO (laws_szStreamS a0 1048576) fun r1 =>
  cond (decide (r1 < 0)) (
    some true) (
    bindO (laws_szStreamS a1 r1) fun r2 =>
    cond (decide (r2 < 0)) (
      some true) (
      bindO (laws_toStreamS a0) fun r3 =>
      bindO (laws_toStreamS a1) fun r4 =>
      bindO (spec_SameData r3 r4) fun r5 =>
      bindO (laws_toStreamS a0) fun r6 =>
      bindO (laws_toStreamS a1) fun r7 =>
      bindO (impl_SameData r6 r7) fun r8 =>
      cond (!(r8 == r5)) (
        some false) (
        bindO (laws_toStreamS a0) fun r9 =>
        bindO (laws_eqStreamS r6 r9) fun r10 =>
        cond (!r10) (
          some false) (
          bindO (laws_toStreamS a1) fun r11 =>
          bindO (laws_eqStreamS r7 r11) fun r12 =>
          cond (!r12) (
            some false) (
            some true)))))
noncomputable def laws_szSegment (a0 : Segment) (a1 : Int) : Option (Int) :=
  cond (decide ((IntKind.wrap .i64 (a1 - ((List.length a0.2.2.2.2.2.2.2 : Int)))) < 0)) (
    some (-1)) (
    some (IntKind.wrap .i64 (a1 - ((List.length a0.2.2.2.2.2.2.2 : Int)))))
noncomputable def laws_szPacket (a0 : Packet) (a1 : Int) : Option (Int) :=
  bindO (laws_szSegment a0.2.2.2.2.2.2.2.2 a1) fun r1 =>
  cond (decide (r1 < 0)) (
    some (-1)) (
    some r1)
noncomputable def laws_szAct (a0 : Act) (a1 : Int) : Option (Int) :=
  bindO (laws_szPacket a0.2.1 a1) fun r1 =>
  cond (decide (r1 < 0)) (
    some (-1)) (
    cond (decide ((IntKind.wrap .i64 (r1 - ((List.length a0.2.2.2.2.1 : Int)))) < 0)) (
      some (-1)) (
      some (IntKind.wrap .i64 (r1 - ((List.length a0.2.2.2.2.1 : Int))))))
noncomputable def laws_szActS_T5 {R : Type} (k0 : Int → Int → Option R) (k1 : Int → Int → Int → Option R) (v0 : List Act) (v4 : Int) (nx : (Int × Int) → Option R) (x : Int × Int) : Option R :=
  cond (decide (x.2 < ((List.length v0 : Int)))) (
    bindO (idx v0 x.2) fun x1 =>
    bindO (laws_szAct x1 x.1) fun r2 =>
    cond (decide (r2 < 0)) (
      k1 r2 (-1) x.2) (
      nx (r2, IntKind.wrap .i64 (x.2 + 1)))) (
    k0 x.1 x.2)
noncomputable def laws_szActS (a0 : List Act) (a1 : Int) : Option (Int) :=
  cond (decide ((IntKind.wrap .i64 (a1 - ((List.length a0 : Int)))) < 0)) (
    some (-1)) (
    iterL (laws_szActS_T5
      (fun (y3 : Int) (y4 : Int) =>
        some y3)
      (fun (y5 : Int) (y6 : Int) (y7 : Int) =>
        some y6) a0 0) fuel (IntKind.wrap .i64 (a1 - ((List.length a0 : Int))), 0))
noncomputable def spec_l01In (a0 : Int) (a1 : Int) (a2 : Int) : Option (Bool) :=
  bindO (
    cond (decide (a0 ≥ a1)) (
      some (decide (a0 ≤ a2))) (
      some false)) fun q1 =>
  some q1
noncomputable def spec_ActOk (a0 : Act) : Option (Bool) :=
  bindO (
    bindO (spec_l01In a0.1 0 6) fun r1 =>
    cond (!r1) (
      some true) (
      some (decide (((List.length a0.2.2.2.2.1 : Int)) > 600)))) fun q2 =>
  cond q2 (
    some false) (
    bindO (
      cond (a0.1 != 0) (
        cond (!((a0.2.1.1 == 0) && ((a0.2.1.2.1 == 0) && ((a0.2.1.2.2.1 == 0) && ((a0.2.1.2.2.2.1 == 0) && ((a0.2.1.2.2.2.2.1 == 0) && ((a0.2.1.2.2.2.2.2.1 == 0) && ((a0.2.1.2.2.2.2.2.2.1 == 0) && ((a0.2.1.2.2.2.2.2.2.2.1 == 0) && ((a0.2.1.2.2.2.2.2.2.2.2.1 == 0) && ((a0.2.1.2.2.2.2.2.2.2.2.2.1 == 0) && ((a0.2.1.2.2.2.2.2.2.2.2.2.2.1 == 0) && ((a0.2.1.2.2.2.2.2.2.2.2.2.2.2.1 == 0) && ((a0.2.1.2.2.2.2.2.2.2.2.2.2.2.2.1 == 0) && ((a0.2.1.2.2.2.2.2.2.2.2.2.2.2.2.2.1 == 0) && ((a0.2.1.2.2.2.2.2.2.2.2.2.2.2.2.2.2.1 == 0) && ((a0.2.1.2.2.2.2.2.2.2.2.2.2.2.2.2.2.2 == ([] : Bytes)) && true))))))))))))))))) (
          some true) (
          cond (a0.2.2.1 != 0) (
            some true) (
            some (a0.2.2.2.1 != 0)))) (
        some false)) fun q3 =>
    cond q3 (
      some false) (
      bindO (
        cond (a0.1 == 2) (
          cond (a0.1 == 5) (
            some true) (
            some (a0.2.2.2.2.2 == 0))) (
          cond (a0.2.2.2.2.1 == ([] : Bytes)) (
            cond (a0.1 == 5) (
              some true) (
              some (a0.2.2.2.2.2 == 0))) (
            some false))) fun q4 =>
      some q4))
noncomputable def spec_HasReset_T2 {R : Type} (k0 : Int → Option R) (k1 : Bool → Int → Option R) (v0 : List Act) (v2 : Bool) (nx : Int → Option R) (x : Int) : Option R :=
  cond (decide (x < ((List.length v0 : Int)))) (
    bindO (
      bindO (idx v0 x) fun x1 =>
      bindO (spec_ActOk x1) fun r2 =>
      cond r2 (
        bindO (idx v0 x) fun x3 =>
        some (x3.1 == 6)) (
        some false)) fun q4 =>
    cond q4 (
      k1 true x) (
      nx (IntKind.wrap .i64 (x + 1)))) (
    k0 x)
noncomputable def spec_HasReset (a0 : List Act) : Option (Bool) :=
  iterL (spec_HasReset_T2
    (fun (y5 : Int) =>
      some false)
    (fun (y6 : Bool) (y7 : Int) =>
      some y6) a0 false) fuel 0
noncomputable def laws_toSegment (a0 : Segment) : Option (Segment) :=
  some a0
noncomputable def laws_toPacket (a0 : Packet) : Option (Packet) :=
  bindO (laws_toSegment a0.2.2.2.2.2.2.2.2) fun r1 =>
  some (a0.1, a0.2.1, a0.2.2.1, a0.2.2.2.1, a0.2.2.2.2.1, a0.2.2.2.2.2.1, a0.2.2.2.2.2.2.1, a0.2.2.2.2.2.2.2.1, r1)
noncomputable def laws_toAct (a0 : Act) : Option (Act) :=
  bindO (laws_toPacket a0.2.1) fun r1 =>
  some (a0.1, r1, a0.2.2)
noncomputable def laws_toActS_T3 {R : Type} (k0 : (List Act) → Int → Option R) (v0 : List Act) (nx : ((List Act) × Int) → Option R) (x : (List Act) × Int) : Option R :=
  cond (decide (x.2 < ((List.length v0 : Int)))) (
    bindO (idx v0 x.2) fun x1 =>
    bindO (laws_toAct x1) fun r2 =>
    bindO (idx x.1 x.2) fun x3 =>
    bindO (idx x.1 x.2) fun x4 =>
    nx (List.set x.1 (Int.toNat x.2) r2, IntKind.wrap .i64 (x.2 + 1))) (
    k0 x.1 x.2)
noncomputable def laws_toActS (a0 : List Act) : Option (List Act) :=
  if 0 ≤ ((List.length a0 : Int)) ∧ ((List.length a0 : Int)) ≤ ((List.length a0 : Int)) then (
  room (Int.toNat ((List.length a0 : Int))) (
  iterL (laws_toActS_T3
    (fun (y5 : List Act) (y6 : Int) =>
      some y5) a0) fuel (List.replicate (Int.toNat ((List.length a0 : Int))) (0, (0, 0, 0, 0, 0, 0, 0, 0, 0, 0, 0, 0, 0, 0, 0, ([] : Bytes)), 0, 0, ([] : Bytes), 0), 0))) else none
noncomputable def impl_between (a0 : Int) (a1 : Int) (a2 : Int) : Option (Bool) :=
  bindO (
    cond (decide (a0 ≥ a1)) (
      some (decide (a0 ≤ a2))) (
      some false)) fun q1 =>
  some q1
noncomputable def impl_ActOk (a0 : Act) : Option (Bool) :=
  bindO (
    bindO (impl_between a0.1 0 6) fun r1 =>
    cond (!r1) (
      some true) (
      some (decide (((List.length a0.2.2.2.2.1 : Int)) > 600)))) fun q2 =>
  cond q2 (
    some false) (
    bindO (
      cond (a0.1 != 0) (
        cond (!((a0.2.1.1 == 0) && ((a0.2.1.2.1 == 0) && ((a0.2.1.2.2.1 == 0) && ((a0.2.1.2.2.2.1 == 0) && ((a0.2.1.2.2.2.2.1 == 0) && ((a0.2.1.2.2.2.2.2.1 == 0) && ((a0.2.1.2.2.2.2.2.2.1 == 0) && ((a0.2.1.2.2.2.2.2.2.2.1 == 0) && ((a0.2.1.2.2.2.2.2.2.2.2.1 == 0) && ((a0.2.1.2.2.2.2.2.2.2.2.2.1 == 0) && ((a0.2.1.2.2.2.2.2.2.2.2.2.2.1 == 0) && ((a0.2.1.2.2.2.2.2.2.2.2.2.2.2.1 == 0) && ((a0.2.1.2.2.2.2.2.2.2.2.2.2.2.2.1 == 0) && ((a0.2.1.2.2.2.2.2.2.2.2.2.2.2.2.2.1 == 0) && ((a0.2.1.2.2.2.2.2.2.2.2.2.2.2.2.2.2.1 == 0) && ((a0.2.1.2.2.2.2.2.2.2.2.2.2.2.2.2.2.2 == ([] : Bytes)) && true))))))))))))))))) (
          some true) (
          cond (a0.2.2.1 != 0) (
            some true) (
            some (a0.2.2.2.1 != 0)))) (
        some false)) fun q3 =>
    cond q3 (
      some false) (
      bindO (
        cond (a0.1 == 2) (
          cond (a0.1 == 5) (
            some true) (
            some (a0.2.2.2.2.2 == 0))) (
          cond (a0.2.2.2.2.1 == ([] : Bytes)) (
            cond (a0.1 == 5) (
              some true) (
              some (a0.2.2.2.2.2 == 0))) (
            some false))) fun q4 =>
      some q4))
noncomputable def impl_HasReset_T2 {R : Type} (k0 : Int → Option R) (k1 : Bool → Int → Option R) (v2 : Bool) (v5 : List Act) (v6 : Int) (nx : Int → Option R) (x : Int) : Option R :=
  cond (decide (x < v6)) (
    bindO (idx v5 x) fun x1 =>
    bindO (
      cond (x1.1 == 6) (
        bindO (impl_ActOk x1) fun r2 =>
        some r2) (
        some false)) fun q3 =>
    cond q3 (
      k1 true x) (
      nx (IntKind.wrap .i64 (x + 1)))) (
    k0 x)
noncomputable def impl_HasReset (a0 : List Act) : Option (Bool) :=
  iterL (impl_HasReset_T2
    (fun (y4 : Int) =>
      some false)
    (fun (y5 : Bool) (y6 : Int) =>
      some y5) false a0 ((List.length a0 : Int))) fuel 0
noncomputable def laws_eqSegment (a0 : Segment) (a1 : Segment) : Option (Bool) :=
  cond (a0.1 != a1.1) (
    some false) (
    cond (a0.2.1 != a1.2.1) (
      some false) (
      cond (a0.2.2.1 != a1.2.2.1) (
        some false) (
        cond (a0.2.2.2.1 != a1.2.2.2.1) (
          some false) (
          cond (a0.2.2.2.2.1 != a1.2.2.2.2.1) (
            some false) (
            cond (a0.2.2.2.2.2.1 != a1.2.2.2.2.2.1) (
              some false) (
              cond (a0.2.2.2.2.2.2.1 != a1.2.2.2.2.2.2.1) (
                some false) (
                cond (!(a0.2.2.2.2.2.2.2 == a1.2.2.2.2.2.2.2)) (
                  some false) (
                  some true))))))))
noncomputable def laws_eqPacket (a0 : Packet) (a1 : Packet) : Option (Bool) :=
  cond (a0.1 != a1.1) (
    some false) (
    cond (a0.2.1 != a1.2.1) (
      some false) (
      cond (a0.2.2.1 != a1.2.2.1) (
        some false) (
        cond (a0.2.2.2.1 != a1.2.2.2.1) (
          some false) (
          cond (a0.2.2.2.2.1 != a1.2.2.2.2.1) (
            some false) (
            cond (a0.2.2.2.2.2.1 != a1.2.2.2.2.2.1) (
              some false) (
              cond (a0.2.2.2.2.2.2.1 != a1.2.2.2.2.2.2.1) (
                some false) (
                cond (a0.2.2.2.2.2.2.2.1 != a1.2.2.2.2.2.2.2.1) (
                  some false) (
                  bindO (laws_eqSegment a0.2.2.2.2.2.2.2.2 a1.2.2.2.2.2.2.2.2) fun r1 =>
                  cond (!r1) (
                    some false) (
                    some true)))))))))
noncomputable def laws_eqAct (a0 : Act) (a1 : Act) : Option (Bool) :=
  cond (a0.1 != a1.1) (
    some false) (
    bindO (laws_eqPacket a0.2.1 a1.2.1) fun r1 =>
    cond (!r1) (
      some false) (
      cond (a0.2.2.1 != a1.2.2.1) (
        some false) (
        cond (a0.2.2.2.1 != a1.2.2.2.1) (
          some false) (
          cond (!(a0.2.2.2.2.1 == a1.2.2.2.2.1)) (
            some false) (
            cond (a0.2.2.2.2.2 != a1.2.2.2.2.2) (
              some false) (
              some true))))))
noncomputable def laws_eqActS_T4 {R : Type} (k0 : Int → Option R) (k1 : Bool → Int → Option R) (v0 : List Act) (v1 : List Act) (v4 : Bool) (nx : Int → Option R) (x : Int) : Option R :=
  cond (decide (x < ((List.length v0 : Int)))) (
    bindO (idx v0 x) fun x1 =>
    bindO (idx v1 x) fun x2 =>
    bindO (laws_eqAct x1 x2) fun r3 =>
    cond (!r3) (
      k1 false x) (
      nx (IntKind.wrap .i64 (x + 1)))) (
    k0 x)
noncomputable def laws_eqActS (a0 : List Act) (a1 : List Act) : Option (Bool) :=
  cond (((List.length a0 : Int)) != ((List.length a1 : Int))) (
    some false) (
    iterL (laws_eqActS_T4
      (fun (y4 : Int) =>
        some true)
      (fun (y5 : Bool) (y6 : Int) =>
        some y5) a0 a1 false) fuel 0)
noncomputable def laws_FnExactHasReset (a0 : List Act) : Option (Bool) :=
  bindO (laws_szActS a0 1048576) fun r1 =>
  cond (decide (r1 < 0)) (
    some true) (
    bindO (laws_toActS a0) fun r2 =>
    bindO (spec_HasReset r2) fun r3 =>
    bindO (laws_toActS a0) fun r4 =>
    bindO (impl_HasReset r4) fun r5 =>
    cond (!(r5 == r3)) (
      some false) (
      bindO (laws_toActS a0) fun r6 =>
      bindO (laws_eqActS r4 r6) fun r7 =>
      cond (!r7) (
        some false) (
        some true)))
noncomputable def laws_FnExactActOk (a0 : Act) : Option (Bool) :=
  bindO (laws_szAct a0 1048576) fun r1 =>
  cond (decide (r1 < 0)) (
    some true) (
    bindO (laws_toAct a0) fun r2 =>
    bindO (spec_ActOk r2) fun r3 =>
    bindO (laws_toAct a0) fun r4 =>
    bindO (impl_ActOk r4) fun r5 =>
    cond (!(r5 == r3)) (
      some false) (
      some true))
noncomputable def laws_szStringS_T5 {R : Type} (k0 : Int → Int → Option R) (k1 : Int → Int → Int → Option R) (v0 : List Bytes) (v4 : Int) (nx : (Int × Int) → Option R) (x : Int × Int) : Option R :=
  cond (decide (x.2 < ((List.length v0 : Int)))) (
    bindO (idx v0 x.2) fun x1 =>
    cond (decide ((IntKind.wrap .i64 (x.1 - ((List.length x1 : Int)))) < 0)) (
      k1 (IntKind.wrap .i64 (x.1 - ((List.length x1 : Int)))) (-1) x.2) (
      nx (IntKind.wrap .i64 (x.1 - ((List.length x1 : Int))), IntKind.wrap .i64 (x.2 + 1)))) (
    k0 x.1 x.2)
noncomputable def laws_szStringS (a0 : List Bytes) (a1 : Int) : Option (Int) :=
  cond (decide ((IntKind.wrap .i64 (a1 - ((List.length a0 : Int)))) < 0)) (
    some (-1)) (
    iterL (laws_szStringS_T5
      (fun (y2 : Int) (y3 : Int) =>
        some y2)
      (fun (y4 : Int) (y5 : Int) (y6 : Int) =>
        some y5) a0 0) fuel (IntKind.wrap .i64 (a1 - ((List.length a0 : Int))), 0))
noncomputable def laws_szMemory (a0 : List Bytes) (a1 : Int) : Option (Int) :=
  bindO (laws_szStringS a0 a1) fun r1 =>
  cond (decide (r1 < 0)) (
    some (-1)) (
    some r1)
noncomputable def spec_l16Copy (a0 : List Bytes) : Option (List Bytes) :=
  room (List.length ([] : List Bytes) + List.length a0) (
  some (([] : List Bytes) ++ a0))
noncomputable def spec_StartMove (a0 : List Bytes) : Option (Move) :=
  bindO (spec_l16Copy a0) fun r1 =>
  some (r1, ([] : List Int), (List.length a0 : Int))
noncomputable def laws_toStringS_T3 {R : Type} (k0 : (List Bytes) → Int → Option R) (v0 : List Bytes) (nx : ((List Bytes) × Int) → Option R) (x : (List Bytes) × Int) : Option R :=
  cond (decide (x.2 < ((List.length v0 : Int)))) (
    bindO (idx v0 x.2) fun x1 =>
    bindO (idx x.1 x.2) fun x2 =>
    bindO (idx x.1 x.2) fun x3 =>
    nx (List.set x.1 (Int.toNat x.2) x1, IntKind.wrap .i64 (x.2 + 1))) (
    k0 x.1 x.2)
noncomputable def laws_toStringS (a0 : List Bytes) : Option (List Bytes) :=
  if 0 ≤ ((List.length a0 : Int)) ∧ ((List.length a0 : Int)) ≤ ((List.length a0 : Int)) then (
  room (Int.toNat ((List.length a0 : Int))) (
  iterL (laws_toStringS_T3
    (fun (y4 : List Bytes) (y5 : Int) =>
      some y4) a0) fuel (List.replicate (Int.toNat ((List.length a0 : Int))) ([] : Bytes), 0))) else none
noncomputable def laws_toMemory (a0 : List Bytes) : Option (List Bytes) :=
  bindO (laws_toStringS a0) fun r1 =>
  some r1
noncomputable def impl_copyStrings (a0 : List Bytes) : Option (List Bytes) :=
  room (List.length ([] : List Bytes) + List.length a0) (
  some (([] : List Bytes) ++ a0))
noncomputable def impl_copyMemory (a0 : List Bytes) : Option (List Bytes) :=
  bindO (impl_copyStrings a0) fun r1 =>
  some r1
noncomputable def impl_StartMove (a0 : List Bytes) : Option (Move) :=
  bindO (impl_copyMemory a0) fun r1 =>
  some (r1, ([] : List Int), (List.length a0 : Int))
noncomputable def laws_eqStringS_T4 {R : Type} (k0 : Int → Option R) (k1 : Bool → Int → Option R) (v0 : List Bytes) (v1 : List Bytes) (v4 : Bool) (nx : Int → Option R) (x : Int) : Option R :=
  cond (decide (x < ((List.length v0 : Int)))) (
    bindO (idx v0 x) fun x1 =>
    bindO (idx v1 x) fun x2 =>
    cond (!(x1 == x2)) (
      k1 false x) (
      nx (IntKind.wrap .i64 (x + 1)))) (
    k0 x)
noncomputable def laws_eqStringS (a0 : List Bytes) (a1 : List Bytes) : Option (Bool) :=
  cond (((List.length a0 : Int)) != ((List.length a1 : Int))) (
    some false) (
    iterL (laws_eqStringS_T4
      (fun (y3 : Int) =>
        some true)
      (fun (y4 : Bool) (y5 : Int) =>
        some y4) a0 a1 false) fuel 0)
noncomputable def laws_eqMemory (a0 : List Bytes) (a1 : List Bytes) : Option (Bool) :=
  bindO (laws_eqStringS a0 a1) fun r1 =>
  cond (!r1) (
    some false) (
    some true)
noncomputable def laws_eqIntS_T4 {R : Type} (k0 : Int → Option R) (k1 : Bool → Int → Option R) (v0 : List Int) (v1 : List Int) (v4 : Bool) (nx : Int → Option R) (x : Int) : Option R :=
  cond (decide (x < ((List.length v0 : Int)))) (
    bindO (idx v0 x) fun x1 =>
    bindO (idx v1 x) fun x2 =>
    cond (x1 != x2) (
      k1 false x) (
      nx (IntKind.wrap .i64 (x + 1)))) (
    k0 x)
noncomputable def laws_eqIntS (a0 : List Int) (a1 : List Int) : Option (Bool) :=
  cond (((List.length a0 : Int)) != ((List.length a1 : Int))) (
    some false) (
    iterL (laws_eqIntS_T4
      (fun (y3 : Int) =>
        some true)
      (fun (y4 : Bool) (y5 : Int) =>
        some y4) a0 a1 false) fuel 0)
noncomputable def laws_eqMove (a0 : Move) (a1 : Move) : Option (Bool) :=
  bindO (laws_eqMemory a0.1 a1.1) fun r1 =>
  cond (!r1) (
    some false) (
    bindO (laws_eqIntS a0.2.1 a1.2.1) fun r2 =>
    cond (!r2) (
      some false) (
      cond (a0.2.2 != a1.2.2) (
        some false) (
        some true)))
noncomputable def laws_markText_T4 {R : Type} (k0 : Int → Bytes → Option R) (nx : (Int × Bytes) → Option R) (x : Int × Bytes) : Option R :=
  cond (decide (x.1 > 0)) (
    if 10 = 0 then none else (
    room (List.length (bytesOf ([(IntKind.wrap .u8 (IntKind.wrap .i64 (48 + (Int.tmod x.1 10))))])) + List.length x.2) (
    if 10 = 0 then none else (
    nx (IntKind.wrap .i64 (Int.tdiv x.1 10), (bytesOf ([(IntKind.wrap .u8 (IntKind.wrap .i64 (48 + (Int.tmod x.1 10))))])) ++ x.2))))) (
    k0 x.1 x.2)
noncomputable def laws_markText (a0 : Int) : Option (Bytes) :=
  cond (decide (a0 ≤ 0)) (
    some ([109, 48] : Bytes)) (
    iterL (laws_markText_T4
      (fun (y1 : Int) (y2 : Bytes) =>
        room (List.length ([109] : Bytes) + List.length y2) (
        some (([109] : Bytes) ++ y2)))) fuel (a0, ([] : Bytes)))
noncomputable def laws_markStringS_T2 {R : Type} (k0 : (List Bytes) → Int → Int → (List Bytes) → Option R) (nx : ((List Bytes) × Int × Int × List Bytes) → Option R) (x : (List Bytes) × Int × Int × List Bytes) : Option R :=
  cond (decide (x.2.2.1 < ((List.length x.1 : Int)))) (
    bindO (laws_markText x.2.1) fun r1 =>
    bindO (idx x.1 x.2.2.1) fun x2 =>
    bindO (idx x.2.2.2 x.2.2.1) fun x3 =>
    nx (List.set x.2.2.2 (Int.toNat x.2.2.1) r1, IntKind.wrap .i64 (x.2.1 + 1), IntKind.wrap .i64 (x.2.2.1 + 1), List.set x.2.2.2 (Int.toNat x.2.2.1) r1)) (
    k0 x.2.2.2 x.2.1 x.2.2.1 x.2.2.2)
noncomputable def laws_markStringS (a0 : List Bytes) (a1 : Int) : Option (Int × List Bytes) :=
  iterL (laws_markStringS_T2
    (fun (y4 : List Bytes) (y5 : Int) (y6 : Int) (y7 : List Bytes) =>
      some (y5, y7))) fuel (a0, a1, 0, a0)
noncomputable def laws_markMemory (a0 : List Bytes) (a1 : Int) : Option (Int × List Bytes) :=
  bindO (laws_markStringS a0 a1) fun r1 =>
  some r1
noncomputable def laws_markIntS_T2 {R : Type} (k0 : (List Int) → Int → Int → (List Int) → Option R) (nx : ((List Int) × Int × Int × List Int) → Option R) (x : (List Int) × Int × Int × List Int) : Option R :=
  cond (decide (x.2.2.1 < ((List.length x.1 : Int)))) (
    bindO (idx x.1 x.2.2.1) fun x1 =>
    bindO (idx x.2.2.2 x.2.2.1) fun x2 =>
    nx (List.set x.2.2.2 (Int.toNat x.2.2.1) x.2.1, IntKind.wrap .i64 (x.2.1 + 1), IntKind.wrap .i64 (x.2.2.1 + 1), List.set x.2.2.2 (Int.toNat x.2.2.1) x.2.1)) (
    k0 x.2.2.2 x.2.1 x.2.2.1 x.2.2.2)
noncomputable def laws_markIntS (a0 : List Int) (a1 : Int) : Option (Int × List Int) :=
  iterL (laws_markIntS_T2
    (fun (y3 : List Int) (y4 : Int) (y5 : Int) (y6 : List Int) =>
      some (y4, y6))) fuel (a0, a1, 0, a0)
noncomputable def laws_markMove (a0 : Move) (a1 : Int) : Option (Int × Move) :=
  bindO (laws_markMemory a0.1 a1) fun r1 =>
  bindO (laws_markIntS a0.2.1 r1.1) fun r2 =>
  some (r2.1, r1.2, r2.2, a0.2.2)
noncomputable def laws_heldStringS_T2 {R : Type} (k0 : Int → Int → Option R) (k1 : Int → Int → Int → Option R) (v0 : List Bytes) (v4 : Int) (nx : (Int × Int) → Option R) (x : Int × Int) : Option R :=
  cond (decide (x.2 < ((List.length v0 : Int)))) (
    bindO (idx v0 x.2) fun x1 =>
    bindO (laws_markText x.1) fun r2 =>
    cond (!(x1 == r2)) (
      k1 x.1 (-1) x.2) (
      nx (IntKind.wrap .i64 (x.1 + 1), IntKind.wrap .i64 (x.2 + 1)))) (
    k0 x.1 x.2)
noncomputable def laws_heldStringS (a0 : List Bytes) (a1 : Int) : Option (Int) :=
  iterL (laws_heldStringS_T2
    (fun (y3 : Int) (y4 : Int) =>
      some y3)
    (fun (y5 : Int) (y6 : Int) (y7 : Int) =>
      some y6) a0 0) fuel (a1, 0)
noncomputable def laws_heldMemory (a0 : List Bytes) (a1 : Int) : Option (Int) :=
  bindO (laws_heldStringS a0 a1) fun r1 =>
  cond (decide (r1 < 0)) (
    some (-1)) (
    some r1)
noncomputable def laws_heldIntS_T2 {R : Type} (k0 : Int → Int → Option R) (k1 : Int → Int → Int → Option R) (v0 : List Int) (v4 : Int) (nx : (Int × Int) → Option R) (x : Int × Int) : Option R :=
  cond (decide (x.2 < ((List.length v0 : Int)))) (
    bindO (idx v0 x.2) fun x1 =>
    cond (x1 != x.1) (
      k1 x.1 (-1) x.2) (
      nx (IntKind.wrap .i64 (x.1 + 1), IntKind.wrap .i64 (x.2 + 1)))) (
    k0 x.1 x.2)
noncomputable def laws_heldIntS (a0 : List Int) (a1 : Int) : Option (Int) :=
  iterL (laws_heldIntS_T2
    (fun (y2 : Int) (y3 : Int) =>
      some y2)
    (fun (y4 : Int) (y5 : Int) (y6 : Int) =>
      some y5) a0 0) fuel (a1, 0)
noncomputable def laws_heldMove (a0 : Move) (a1 : Int) : Option (Int) :=
  bindO (laws_heldMemory a0.1 a1) fun r1 =>
  cond (decide (r1 < 0)) (
    some (-1)) (
    bindO (laws_heldIntS a0.2.1 r1) fun r2 =>
    cond (decide (r2 < 0)) (
      some (-1)) (
      some r2))
noncomputable def laws_FnExactStartMove (a0 : List Bytes) : Option (Bool) :=
  bindO (laws_szMemory a0 1048576) fun r1 =>
  cond (decide (r1 < 0)) (
    some true) (
    bindO (laws_toMemory a0) fun r2 =>
    bindO (spec_StartMove r2) fun r3 =>
    bindO (laws_toMemory a0) fun r4 =>
    bindO (impl_StartMove r4) fun r5 =>
    bindO (laws_eqMove r5 r3) fun r6 =>
    cond (!r6) (
      some false) (
      bindO (laws_toMemory a0) fun r7 =>
      bindO (laws_eqMemory r4 r7) fun r8 =>
      cond (!r8) (
        some false) (
        bindO (laws_markMemory r4 1) fun r9 =>
        bindO (
          cond (decide (r9.1 < 0)) (
            some true) (
            bindO (laws_eqMove r5 r3) fun r10 =>
            some (!r10))) fun q11 =>
        cond q11 (
          some false) (
          bindO (laws_markMove r5 1) fun r12 =>
          bindO (laws_heldMove (r12.2.1, r12.2.2.1, r5.2.2) 1) fun r13 =>
          cond (decide (r13 < 0)) (
            some false) (
            cond (r13 != r12.1) (
              some false) (
              bindO (laws_toMemory a0) fun r14 =>
              bindO (impl_StartMove r14) fun r15 =>
              bindO (laws_eqMove r15 r3) fun r16 =>
              cond (!r16) (
                some false) (
                bindO (laws_heldMove (r12.2.1, r12.2.2.1, r5.2.2) 1) fun r17 =>
                cond (decide (r17 < 0)) (
                  some false) (
                  cond (r17 != r12.1) (
                    some false) (
                    some true)))))))))
noncomputable def laws_szIntS (a0 : List Int) (a1 : Int) : Option (Int) :=
  cond (decide ((IntKind.wrap .i64 (a1 - ((List.length a0 : Int)))) < 0)) (
    some (-1)) (
    some (IntKind.wrap .i64 (a1 - ((List.length a0 : Int)))))
noncomputable def laws_szMove (a0 : Move) (a1 : Int) : Option (Int) :=
  bindO (laws_szMemory a0.1 a1) fun r1 =>
  cond (decide (r1 < 0)) (
    some (-1)) (
    bindO (laws_szIntS a0.2.1 r1) fun r2 =>
    cond (decide (r2 < 0)) (
      some (-1)) (
      some r2))
noncomputable def spec_l39Copy (a0 : Move) : Option (Move) :=
  bindO (spec_l16Copy a0.1) fun r1 =>
  room (List.length ([] : List Int) + List.length a0.2.1) (
  some (r1, ([] : List Int) ++ a0.2.1, a0.2.2))
noncomputable def spec_CopyRound_T3 {R : Type} (k0 : Int → Move → Option R) (b2 : Move) (b3 : List Bytes) (b4 : Move) (nx : (Int × Move) → Option R) (x : Int × Move) : Option R :=
  cond (decide (x.1 < ((List.length b2.2.1 : Int)))) (
    bindO (idx b2.2.1 x.1) fun x2 =>
    bindO (
      cond (decide (x2 ≥ 0)) (
        cond (decide (x2 < ((List.length b3 : Int)))) (
          some (decide (x2 < ((List.length x.2.1 : Int))))) (
          some false)) (
        some false)) fun q3 =>
    cond q3 (
      bindO (idx b3 x2) fun x4 =>
      bindO (idx x.2.1 x2) fun x5 =>
      bindO (idx x.2.1 x2) fun x6 =>
      nx (IntKind.wrap .i64 (x.1 + 1), List.set x.2.1 (Int.toNat x2) x4, x.2.2.1, IntKind.wrap .i64 (x.2.2.2 + 1))) (
      nx (IntKind.wrap .i64 (x.1 + 1), x.2))) (
    k0 x.1 x.2)
noncomputable def spec_CopyRound (a0 : Move) (a1 : List Bytes) : Option (Move) :=
  bindO (spec_l39Copy a0) fun r1 =>
  iterL (spec_CopyRound_T3
    (fun (y7 : Int) (y8 : Move) =>
      some (y8.1, ([] : List Int), y8.2.2)) a0 a1 (([] : List Bytes), ([] : List Int), 0)) fuel (0, r1)
noncomputable def laws_toIntS_T3 {R : Type} (k0 : (List Int) → Int → Option R) (v0 : List Int) (nx : ((List Int) × Int) → Option R) (x : (List Int) × Int) : Option R :=
  cond (decide (x.2 < ((List.length v0 : Int)))) (
    bindO (idx v0 x.2) fun x1 =>
    bindO (idx x.1 x.2) fun x2 =>
    bindO (idx x.1 x.2) fun x3 =>
    nx (List.set x.1 (Int.toNat x.2) x1, IntKind.wrap .i64 (x.2 + 1))) (
    k0 x.1 x.2)
noncomputable def laws_toIntS (a0 : List Int) : Option (List Int) :=
  if 0 ≤ ((List.length a0 : Int)) ∧ ((List.length a0 : Int)) ≤ ((List.length a0 : Int)) then (
  room (Int.toNat ((List.length a0 : Int))) (
  iterL (laws_toIntS_T3
    (fun (y4 : List Int) (y5 : Int) =>
      some y4) a0) fuel (List.replicate (Int.toNat ((List.length a0 : Int))) 0, 0))) else none
noncomputable def laws_toMove (a0 : Move) : Option (Move) :=
  bindO (laws_toMemory a0.1) fun r1 =>
  bindO (laws_toIntS a0.2.1) fun r2 =>
  some (r1, r2, a0.2.2)
noncomputable def impl_CopyRound_T3 {R : Type} (k0 : Int → Move → Option R) (v15 : List Int) (v16 : Int) (b3 : List Bytes) (b4 : Move) (nx : (Int × Move) → Option R) (x : Int × Move) : Option R :=
  cond (decide (x.1 < v16)) (
    bindO (idx v15 x.1) fun x2 =>
    bindO (
      cond (decide (x2 ≥ 0)) (
        cond (decide (x2 < ((List.length b3 : Int)))) (
          some (decide (x2 < ((List.length x.2.1 : Int))))) (
          some false)) (
        some false)) fun q3 =>
    cond q3 (
      bindO (idx b3 x2) fun x4 =>
      bindO (idx x.2.1 x2) fun x5 =>
      bindO (idx x.2.1 x2) fun x6 =>
      nx (IntKind.wrap .i64 (x.1 + 1), List.set x.2.1 (Int.toNat x2) x4, x.2.2.1, IntKind.wrap .i64 (x.2.2.2 + 1))) (
      nx (IntKind.wrap .i64 (x.1 + 1), x.2))) (
    k0 x.1 x.2)
noncomputable def impl_CopyRound (a0 : Move) (a1 : List Bytes) : Option (Move) :=
  bindO (impl_copyMemory a0.1) fun r1 =>
  iterL (impl_CopyRound_T3
    (fun (y7 : Int) (y8 : Move) =>
      some y8) a0.2.1 ((List.length a0.2.1 : Int)) a1 (([] : List Bytes), ([] : List Int), 0)) fuel (0, r1, ([] : List Int), a0.2.2)
noncomputable def laws_FnExactCopyRound (a0 : Move) (a1 : List Bytes) : Option (Bool) :=
  bindO (laws_szMove a0 1048576) fun r1 =>
  cond (decide (r1 < 0)) (
    some true) (
    bindO (laws_szMemory a1 r1) fun r2 =>
    cond (decide (r2 < 0)) (
      some true) (
      bindO (laws_toMove a0) fun r3 =>
      bindO (laws_toMemory a1) fun r4 =>
      bindO (spec_CopyRound r3 r4) fun r5 =>
      bindO (laws_toMove a0) fun r6 =>
      bindO (laws_toMemory a1) fun r7 =>
      bindO (impl_CopyRound r6 r7) fun r8 =>
      bindO (laws_eqMove r8 r5) fun r9 =>
      cond (!r9) (
        some false) (
        bindO (laws_toMove a0) fun r10 =>
        bindO (laws_eqMove r6 r10) fun r11 =>
        cond (!r11) (
          some false) (
          bindO (laws_toMemory a1) fun r12 =>
          bindO (laws_eqMemory r7 r12) fun r13 =>
          cond (!r13) (
            some false) (
            bindO (laws_markMove r6 1) fun r14 =>
            bindO (laws_markMemory r7 r14.1) fun r15 =>
            bindO (
              cond (decide (r15.1 < 0)) (
                some true) (
                bindO (laws_eqMove r8 r5) fun r16 =>
                some (!r16))) fun q17 =>
            cond q17 (
              some false) (
              bindO (laws_markMove r8 1) fun r18 =>
              bindO (laws_heldMove (r18.2.1, r18.2.2.1, r8.2.2) 1) fun r19 =>
              cond (decide (r19 < 0)) (
                some false) (
                cond (r19 != r18.1) (
                  some false) (
                  bindO (laws_toMove a0) fun r20 =>
                  bindO (laws_toMemory a1) fun r21 =>
                  bindO (impl_CopyRound r20 r21) fun r22 =>
                  bindO (laws_eqMove r22 r5) fun r23 =>
                  cond (!r23) (
                    some false) (
                    bindO (laws_heldMove (r18.2.1, r18.2.2.1, r8.2.2) 1) fun r24 =>
                    cond (decide (r24 < 0)) (
                      some false) (
                      cond (r24 != r18.1) (
                        some false) (
                        some true)))))))))))
noncomputable def spec_ChangedPages_T3 {R : Type} (k0 : (List Int) → Int → Option R) (b2 : List Bytes) (b3 : List Bytes) (nx : ((List Int) × Int) → Option R) (x : (List Int) × Int) : Option R :=
  cond (decide (x.2 < ((List.length b3 : Int)))) (
    bindO (
      cond (decide (x.2 ≥ ((List.length b2 : Int)))) (
        some true) (
        bindO (idx b2 x.2) fun x1 =>
        bindO (idx b3 x.2) fun x2 =>
        some (!(x1 == x2)))) fun q3 =>
    cond q3 (
      room (List.length x.1 + List.length ([x.2])) (
      nx (x.1 ++ ([x.2]), IntKind.wrap .i64 (x.2 + 1)))) (
      nx (x.1, IntKind.wrap .i64 (x.2 + 1)))) (
    k0 x.1 x.2)
noncomputable def spec_ChangedPages (a0 : List Bytes) (a1 : List Bytes) : Option (List Int) :=
  iterL (spec_ChangedPages_T3
    (fun (y4 : List Int) (y5 : Int) =>
      some y4) a0 a1) fuel (([] : List Int), 0)
noncomputable def spec_l24Has_T2 {R : Type} (k0 : Int → Option R) (k1 : Bool → Int → Option R) (v0 : List Int) (v1 : Int) (v4 : Bool) (nx : Int → Option R) (x : Int) : Option R :=
  cond (decide (x < ((List.length v0 : Int)))) (
    bindO (idx v0 x) fun x1 =>
    cond (x1 == v1) (
      k1 true x) (
      nx (IntKind.wrap .i64 (x + 1)))) (
    k0 x)
noncomputable def spec_l24Has (a0 : List Int) (a1 : Int) : Option (Bool) :=
  iterL (spec_l24Has_T2
    (fun (y2 : Int) =>
      some false)
    (fun (y3 : Bool) (y4 : Int) =>
      some y3) a0 a1 false) fuel 0
noncomputable def spec_NoteChanges_T8 {R : Type} (k0 : Int → Option R) (v8 : List Int) (v9 : Int) (b6 : Move) (b7 : Move) (nx : Int → Option R) (x : Int) : Option R :=
  bindO (
    cond (decide (x < ((List.length b7.2.1 : Int)))) (
      bindO (idx b7.2.1 x) fun x5 =>
      bindO (idx v8 v9) fun x6 =>
      some (decide (x5 < x6))) (
      some false)) fun q7 =>
  cond q7 (
    nx (IntKind.wrap .i64 (x + 1))) (
    k0 x)
noncomputable def spec_NoteChanges_T4 {R : Type} (k0 : Int → Move → Option R) (v8 : List Int) (b6 : Move) (nx : (Int × Move) → Option R) (x : Int × Move) : Option R :=
  cond (decide (x.1 < ((List.length v8 : Int)))) (
    bindO (idx v8 x.1) fun x3 =>
    bindO (spec_l24Has x.2.2.1 x3) fun r4 =>
    cond r4 (
      nx (IntKind.wrap .i64 (x.1 + 1), x.2)) (
      iterL (spec_NoteChanges_T8
        (fun (y8 : Int) =>
          bindO (sub x.2.2.1 0 y8) fun x9 =>
          room (List.length ([] : List Int) + List.length x9) (
          bindO (idx v8 x.1) fun x10 =>
          room (List.length (([] : List Int) ++ x9) + List.length ([x10])) (
          bindO (sub x.2.2.1 y8 ((List.length x.2.2.1 : Int))) fun x11 =>
          room (List.length ((([] : List Int) ++ x9) ++ ([x10])) + List.length x11) (
          nx (IntKind.wrap .i64 (x.1 + 1), x.2.1, ((([] : List Int) ++ x9) ++ ([x10])) ++ x11, x.2.2.2))))) v8 x.1 b6 x.2) fuel 0)) (
    k0 x.1 x.2)
noncomputable def spec_NoteChanges (a0 : Move) (a1 : List Bytes) (a2 : List Bytes) : Option (Move) :=
  bindO (spec_l39Copy a0) fun r1 =>
  bindO (spec_ChangedPages a1 a2) fun r2 =>
  iterL (spec_NoteChanges_T4
    (fun (y12 : Int) (y13 : Move) =>
      some y13) r2 (([] : List Bytes), ([] : List Int), 0)) fuel (0, r1)
noncomputable def impl_copyInts (a0 : List Int) : Option (List Int) :=
  room (List.length ([] : List Int) + List.length a0) (
  some (([] : List Int) ++ a0))
noncomputable def impl_ChangedPages_T3 {R : Type} (k0 : (List Int) → Int → Option R) (v10 : List Bytes) (v11 : Int) (b2 : List Bytes) (nx : ((List Int) × Int) → Option R) (x : (List Int) × Int) : Option R :=
  cond (decide (x.2 < v11)) (
    bindO (idx v10 x.2) fun x1 =>
    bindO (
      cond (decide (x.2 ≥ ((List.length b2 : Int)))) (
        some true) (
        bindO (idx b2 x.2) fun x2 =>
        some (!(x2 == x1)))) fun q3 =>
    cond q3 (
      room (List.length x.1 + List.length ([x.2])) (
      nx (x.1 ++ ([x.2]), IntKind.wrap .i64 (x.2 + 1)))) (
      nx (x.1, IntKind.wrap .i64 (x.2 + 1)))) (
    k0 x.1 x.2)
noncomputable def impl_ChangedPages (a0 : List Bytes) (a1 : List Bytes) : Option (List Int) :=
  iterL (impl_ChangedPages_T3
    (fun (y4 : List Int) (y5 : Int) =>
      some y4) a1 ((List.length a1 : Int)) a0) fuel (([] : List Int), 0)
noncomputable def impl_hasInt_T2 {R : Type} (k0 : Int → Option R) (k1 : Bool → Int → Option R) (v1 : Int) (v4 : Bool) (v7 : List Int) (v8 : Int) (nx : Int → Option R) (x : Int) : Option R :=
  cond (decide (x < v8)) (
    bindO (idx v7 x) fun x1 =>
    cond (x1 == v1) (
      k1 true x) (
      nx (IntKind.wrap .i64 (x + 1)))) (
    k0 x)
noncomputable def impl_hasInt (a0 : List Int) (a1 : Int) : Option (Bool) :=
  iterL (impl_hasInt_T2
    (fun (y2 : Int) =>
      some false)
    (fun (y3 : Bool) (y4 : Int) =>
      some y3) a1 false a0 ((List.length a0 : Int))) fuel 0
noncomputable def impl_addOrdered_T4 {R : Type} (k0 : (List Int) → Bool → Int → Option R) (v1 : Int) (v10 : List Int) (v11 : Int) (nx : ((List Int) × Bool × Int) → Option R) (x : (List Int) × Bool × Int) : Option R :=
  cond (decide (x.2.2 < v11)) (
    bindO (idx v10 x.2.2) fun x1 =>
    bindO (
      cond (!x.2.1) (
        some (decide (v1 < x1))) (
        some false)) fun q2 =>
    cond q2 (
      room (List.length x.1 + List.length ([v1])) (
      room (List.length (x.1 ++ ([v1])) + List.length ([x1])) (
      nx ((x.1 ++ ([v1])) ++ ([x1]), true, IntKind.wrap .i64 (x.2.2 + 1))))) (
      room (List.length x.1 + List.length ([x1])) (
      nx (x.1 ++ ([x1]), x.2.1, IntKind.wrap .i64 (x.2.2 + 1))))) (
    k0 x.1 x.2.1 x.2.2)
noncomputable def impl_addOrdered (a0 : List Int) (a1 : Int) : Option (List Int) :=
  iterL (impl_addOrdered_T4
    (fun (y3 : List Int) (y4 : Bool) (y5 : Int) =>
      cond (!y4) (
        room (List.length y3 + List.length ([a1])) (
        some (y3 ++ ([a1])))) (
        some y3)) a1 a0 ((List.length a0 : Int))) fuel (([] : List Int), false, 0)
noncomputable def impl_NoteChanges_T3 {R : Type} (k0 : Int → Move → Option R) (v21 : List Int) (v22 : Int) (b6 : Move) (nx : (Int × Move) → Option R) (x : Int × Move) : Option R :=
  cond (decide (x.1 < v22)) (
    bindO (idx v21 x.1) fun x4 =>
    bindO (impl_hasInt x.2.2.1 x4) fun r5 =>
    cond (!r5) (
      bindO (impl_addOrdered x.2.2.1 x4) fun r6 =>
      nx (IntKind.wrap .i64 (x.1 + 1), x.2.1, r6, x.2.2.2)) (
      nx (IntKind.wrap .i64 (x.1 + 1), x.2))) (
    k0 x.1 x.2)
noncomputable def impl_NoteChanges (a0 : Move) (a1 : List Bytes) (a2 : List Bytes) : Option (Move) :=
  bindO (impl_copyMemory a0.1) fun r1 =>
  bindO (impl_copyInts a0.2.1) fun r2 =>
  bindO (impl_ChangedPages a1 a2) fun r3 =>
  iterL (impl_NoteChanges_T3
    (fun (y7 : Int) (y8 : Move) =>
      some y8) r3 ((List.length r3 : Int)) (([] : List Bytes), ([] : List Int), 0)) fuel (0, r1, r2, a0.2.2)
noncomputable def laws_FnExactNoteChanges (a0 : Move) (a1 : List Bytes) (a2 : List Bytes) : Option (Bool) :=
  bindO (laws_szMove a0 1048576) fun r1 =>
  cond (decide (r1 < 0)) (
    some true) (
    bindO (laws_szMemory a1 r1) fun r2 =>
    cond (decide (r2 < 0)) (
      some true) (
      bindO (laws_szMemory a2 r2) fun r3 =>
      cond (decide (r3 < 0)) (
        some true) (
        bindO (laws_toMove a0) fun r4 =>
        bindO (laws_toMemory a1) fun r5 =>
        bindO (laws_toMemory a2) fun r6 =>
        bindO (spec_NoteChanges r4 r5 r6) fun r7 =>
        bindO (laws_toMove a0) fun r8 =>
        bindO (laws_toMemory a1) fun r9 =>
        bindO (laws_toMemory a2) fun r10 =>
        bindO (impl_NoteChanges r8 r9 r10) fun r11 =>
        bindO (laws_eqMove r11 r7) fun r12 =>
        cond (!r12) (
          some false) (
          bindO (laws_toMove a0) fun r13 =>
          bindO (laws_eqMove r8 r13) fun r14 =>
          cond (!r14) (
            some false) (
            bindO (laws_toMemory a1) fun r15 =>
            bindO (laws_eqMemory r9 r15) fun r16 =>
            cond (!r16) (
              some false) (
              bindO (laws_toMemory a2) fun r17 =>
              bindO (laws_eqMemory r10 r17) fun r18 =>
              cond (!r18) (
                some false) (
                bindO (laws_markMove r8 1) fun r19 =>
                bindO (laws_markMemory r9 r19.1) fun r20 =>
                bindO (laws_markMemory r10 r20.1) fun r21 =>
                bindO (
                  cond (decide (r21.1 < 0)) (
                    some true) (
                    bindO (laws_eqMove r11 r7) fun r22 =>
                    some (!r22))) fun q23 =>
                cond q23 (
                  some false) (
                  bindO (laws_markMove r11 1) fun r24 =>
                  bindO (laws_heldMove (r24.2.1, r24.2.2.1, r11.2.2) 1) fun r25 =>
                  cond (decide (r25 < 0)) (
                    some false) (
                    cond (r25 != r24.1) (
                      some false) (
                      bindO (laws_toMove a0) fun r26 =>
                      bindO (laws_toMemory a1) fun r27 =>
                      bindO (laws_toMemory a2) fun r28 =>
                      bindO (impl_NoteChanges r26 r27 r28) fun r29 =>
                      bindO (laws_eqMove r29 r7) fun r30 =>
                      cond (!r30) (
                        some false) (
                        bindO (laws_heldMove (r24.2.1, r24.2.2.1, r11.2.2) 1) fun r31 =>
                        cond (decide (r31 < 0)) (
                          some false) (
                          cond (r31 != r24.1) (
                            some false) (
                            some true)))))))))))))

end Go.Pu
