import Derived.Test.YtdkhimfkfepnjaaDnData
/- The program's functions and the reference's, as functions of data (made by gen.py). -/
namespace Go.Pu
open Go.Dn
set_option linter.unusedVariables false

abbrev Bytes := List UInt8
abbrev Filter := Int × Bool × List Int
abbrev Mailbox := Filter × Int × Int × Int
abbrev Port := Int × (List Int) × Int × Bool
@[reducible] def TFilter : CT := (.pair (.int .i64) (.pair .bool (.sl (.int .i64))))
@[reducible] def TMailbox : CT := (.pair TFilter (.pair (.int .i64) (.pair (.int .i64) (.int .i64))))
@[reducible] def TPort : CT := (.pair (.int .i64) (.pair (.sl (.int .i64)) (.pair (.int .i64) .bool)))

noncomputable def laws_szIntS (a0 : List Int) (a1 : Int) : Option (Int) :=
  cond (decide ((IntKind.wrap .i64 (a1 - ((List.length a0 : Int)))) < 0)) (
    some (-1)) (
    some (IntKind.wrap .i64 (a1 - ((List.length a0 : Int)))))
noncomputable def laws_szFilter (a0 : Filter) (a1 : Int) : Option (Int) :=
  bindO (laws_szIntS a0.2.2 a1) fun r1 =>
  cond (decide (r1 < 0)) (
    some (-1)) (
    some r1)
noncomputable def laws_szMailbox (a0 : Mailbox) (a1 : Int) : Option (Int) :=
  bindO (laws_szFilter a0.1 a1) fun r1 =>
  cond (decide (r1 < 0)) (
    some (-1)) (
    some r1)
noncomputable def laws_szMailboxS_T5 {R : Type} (k0 : Int → Int → Option R) (k1 : Int → Int → Int → Option R) (v0 : List Mailbox) (v4 : Int) (nx : (Int × Int) → Option R) (x : Int × Int) : Option R :=
  cond (decide (x.2 < ((List.length v0 : Int)))) (
    bindO (idx v0 x.2) fun x1 =>
    bindO (laws_szMailbox x1 x.1) fun r2 =>
    cond (decide (r2 < 0)) (
      k1 r2 (-1) x.2) (
      nx (r2, IntKind.wrap .i64 (x.2 + 1)))) (
    k0 x.1 x.2)
noncomputable def laws_szMailboxS (a0 : List Mailbox) (a1 : Int) : Option (Int) :=
  cond (decide ((IntKind.wrap .i64 (a1 - ((List.length a0 : Int)))) < 0)) (
    some (-1)) (
    iterL (laws_szMailboxS_T5
      (fun (y3 : Int) (y4 : Int) =>
        some y3)
      (fun (y5 : Int) (y6 : Int) (y7 : Int) =>
        some y6) a0 0) fuel (IntKind.wrap .i64 (a1 - ((List.length a0 : Int))), 0))
noncomputable def spec_l01In (a0 : Int) (a1 : Int) (a2 : Int) : Option (Bool) :=
  bindO (
    cond (decide (a0 ≥ a1)) (
      some (decide (a0 ≤ a2))) (
      some false)) fun q1 =>
  some q1
noncomputable def spec_FilterOk_T2 {R : Type} (k0 : Int → Option R) (k1 : Bool → Int → Option R) (v2 : Bool) (b1 : Filter) (nx : Int → Option R) (x : Int) : Option R :=
  cond (decide (x < ((List.length b1.2.2 : Int)))) (
    bindO (
      bindO (idx b1.2.2 x) fun x1 =>
      bindO (spec_l01In x1 0 4095) fun r2 =>
      cond (!r2) (
        some true) (
        cond (decide (x > 0)) (
          bindO (idx b1.2.2 x) fun x3 =>
          bindO (idx b1.2.2 (IntKind.wrap .i64 (x - 1))) fun x4 =>
          some (decide (x3 ≤ x4))) (
          some false))) fun q5 =>
    cond q5 (
      k1 false x) (
      nx (IntKind.wrap .i64 (x + 1)))) (
    k0 x)
noncomputable def spec_FilterOk (a0 : Filter) : Option (Bool) :=
  iterL (spec_FilterOk_T2
    (fun (y6 : Int) =>
      bindO (
        bindO (spec_l01In a0.1 0 281474976710654) fun r7 =>
        cond r7 (
          some (decide (((List.length a0.2.2 : Int)) ≤ 8))) (
          some false)) fun q8 =>
      some q8)
    (fun (y9 : Bool) (y10 : Int) =>
      some y9) false a0) fuel 0
noncomputable def spec_MailboxOk (a0 : Mailbox) : Option (Bool) :=
  bindO (
    bindO (spec_FilterOk a0.1) fun r1 =>
    cond r1 (
      bindO (spec_l01In a0.2.1 0 1000000000000) fun r2 =>
      cond r2 (
        bindO (spec_l01In a0.2.2.2 0 1000000000000) fun r3 =>
        some r3) (
        some false)) (
      some false)) fun q4 =>
  some q4
noncomputable def spec_l24Has_T2 {R : Type} (k0 : Int → Option R) (k1 : Bool → Int → Option R) (v0 : List Int) (v1 : Int) (v4 : Bool) (nx : Int → Option R) (x : Int) : Option R :=
  cond (decide (x < ((List.length v0 : Int)))) (
    bindO (idx v0 x) fun x1 =>
    cond (x1 == v1) (
      k1 true x) (
      nx (IntKind.wrap .i64 (x + 1)))) (
    k0 x)
noncomputable def spec_l24Has (a0 : List Int) (a1 : Int) : Option (Bool) :=
  iterL (spec_l24Has_T2
    (fun (y2 : Int) =>
      some false)
    (fun (y3 : Bool) (y4 : Int) =>
      some y3) a0 a1 false) fuel 0
noncomputable def spec_l42Union_T7 {R : Type} (k0 : Int → Option R) (v1 : List Int) (v5 : List Int) (v6 : Int) (nx : Int → Option R) (x : Int) : Option R :=
  bindO (
    cond (decide (x < ((List.length v5 : Int)))) (
      bindO (idx v5 x) fun x3 =>
      bindO (idx v1 v6) fun x4 =>
      some (decide (x3 < x4))) (
      some false)) fun q5 =>
  cond q5 (
    nx (IntKind.wrap .i64 (x + 1))) (
    k0 x)
noncomputable def spec_l42Union_T3 {R : Type} (k0 : (List Int) → Int → Option R) (v1 : List Int) (nx : ((List Int) × Int) → Option R) (x : (List Int) × Int) : Option R :=
  cond (decide (x.2 < ((List.length v1 : Int)))) (
    bindO (idx v1 x.2) fun x1 =>
    bindO (spec_l24Has x.1 x1) fun r2 =>
    cond r2 (
      nx (x.1, IntKind.wrap .i64 (x.2 + 1))) (
      iterL (spec_l42Union_T7
        (fun (y6 : Int) =>
          bindO (sub x.1 0 y6) fun x7 =>
          room (List.length ([] : List Int) + List.length x7) (
          bindO (idx v1 x.2) fun x8 =>
          room (List.length (([] : List Int) ++ x7) + List.length ([x8])) (
          bindO (sub x.1 y6 ((List.length x.1 : Int))) fun x9 =>
          room (List.length ((([] : List Int) ++ x7) ++ ([x8])) + List.length x9) (
          nx (((([] : List Int) ++ x7) ++ ([x8])) ++ x9, IntKind.wrap .i64 (x.2 + 1)))))) v1 x.1 x.2) fuel 0)) (
    k0 x.1 x.2)
noncomputable def spec_l42Union (a0 : List Int) (a1 : List Int) : Option (List Int) :=
  room (List.length ([] : List Int) + List.length a0) (
  iterL (spec_l42Union_T3
    (fun (y10 : List Int) (y11 : Int) =>
      some y10) a1) fuel (([] : List Int) ++ a0, 0))
noncomputable def spec_PortsOk_T9 {R : Type} (k0 : Int → Option R) (k1 : Bool → Int → Option R) (v0 : List Port) (v2 : Bool) (v3 : Int) (nx : Int → Option R) (x : Int) : Option R :=
  cond (decide (x < v3)) (
    bindO (idx v0 x) fun x8 =>
    bindO (idx v0 v3) fun x9 =>
    cond (x8.1 == x9.1) (
      k1 false x) (
      nx (IntKind.wrap .i64 (x + 1)))) (
    k0 x)
noncomputable def spec_PortsOk_T4 {R : Type} (k0 : Int → Option R) (k1 : Bool → Int → Option R) (v0 : List Port) (v2 : Bool) (nx : Int → Option R) (x : Int) : Option R :=
  cond (decide (x < ((List.length v0 : Int)))) (
    bindO (idx v0 x) fun x2 =>
    bindO (idx v0 x) fun x3 =>
    bindO (spec_FilterOk (x2.1, false, x3.2.1)) fun r4 =>
    cond (!r4) (
      k1 false x) (
      bindO (idx v0 x) fun x5 =>
      bindO (idx v0 x) fun x6 =>
      bindO (spec_l24Has x5.2.1 x6.2.2.1) fun r7 =>
      cond (!r7) (
        k1 false x) (
        iterL (spec_PortsOk_T9
          (fun (y10 : Int) =>
            nx (IntKind.wrap .i64 (x + 1)))
          (fun (y11 : Bool) (y12 : Int) =>
            k1 y11 x) v0 v2 x) fuel 1))) (
    k0 x)
noncomputable def spec_PortsOk (a0 : List Port) : Option (Bool) :=
  bindO (spec_l01In ((List.length a0 : Int)) 1 8) fun r1 =>
  cond (!r1) (
    some false) (
    iterL (spec_PortsOk_T4
      (fun (y13 : Int) =>
        some true)
      (fun (y14 : Bool) (y15 : Int) =>
        some y14) a0 false) fuel 0)
noncomputable def spec_PortsOf_T5 {R : Type} (k0 : (List Port) → Int → Option R) (k1 : (List Port) → Bool → (List Port) → Int → Option R) (v0 : List Mailbox) (v2 : List Port) (v3 : Bool) (nx : ((List Port) × Int) → Option R) (x : (List Port) × Int) : Option R :=
  cond (decide (x.2 < ((List.length v0 : Int)))) (
    bindO (idx v0 x.2) fun x2 =>
    bindO (spec_MailboxOk x2) fun r3 =>
    cond (!r3) (
      k1 ([] : List Port) false x.1 x.2) (
      bindO (idx x.1 0) fun x4 =>
      bindO (idx v0 x.2) fun x5 =>
      bindO (spec_l42Union x4.2.1 x5.1.2.2) fun r6 =>
      bindO (idx x.1 0) fun x7 =>
      bindO (idx x.1 0) fun x8 =>
      bindO (idx v0 x.2) fun x9 =>
      bindO (idx v0 x.2) fun x10 =>
      bindO (spec_l42Union ([0]) x10.1.2.2) fun r11 =>
      room (List.length (List.set x.1 (Int.toNat 0) (x8.1, r6, x8.2.2)) + List.length ([(x9.1.1, r11, 0, true)])) (
      nx ((List.set x.1 (Int.toNat 0) (x8.1, r6, x8.2.2)) ++ ([(x9.1.1, r11, 0, true)]), IntKind.wrap .i64 (x.2 + 1))))) (
    k0 x.1 x.2)
noncomputable def spec_PortsOf (a0 : List Mailbox) : Option ((List Port) × Bool) :=
  bindO (spec_l01In ((List.length a0 : Int)) 1 3) fun r1 =>
  cond (!r1) (
    some (([] : List Port), false)) (
    iterL (spec_PortsOf_T5
      (fun (y12 : List Port) (y13 : Int) =>
        bindO (spec_PortsOk y12) fun r14 =>
        cond (!r14) (
          some (([] : List Port), false)) (
          some (y12, true)))
      (fun (y15 : List Port) (y16 : Bool) (y17 : List Port) (y18 : Int) =>
        some (y15, y16)) a0 ([] : List Port) false) fuel ([(0, [0], 0, false)], 0))
noncomputable def laws_toIntS_T3 {R : Type} (k0 : (List Int) → Int → Option R) (v0 : List Int) (nx : ((List Int) × Int) → Option R) (x : (List Int) × Int) : Option R :=
  cond (decide (x.2 < ((List.length v0 : Int)))) (
    bindO (idx v0 x.2) fun x1 =>
    bindO (idx x.1 x.2) fun x2 =>
    bindO (idx x.1 x.2) fun x3 =>
    nx (List.set x.1 (Int.toNat x.2) x1, IntKind.wrap .i64 (x.2 + 1))) (
    k0 x.1 x.2)
noncomputable def laws_toIntS (a0 : List Int) : Option (List Int) :=
  if 0 ≤ ((List.length a0 : Int)) ∧ ((List.length a0 : Int)) ≤ ((List.length a0 : Int)) then (
  room (Int.toNat ((List.length a0 : Int))) (
  iterL (laws_toIntS_T3
    (fun (y4 : List Int) (y5 : Int) =>
      some y4) a0) fuel (List.replicate (Int.toNat ((List.length a0 : Int))) 0, 0))) else none
noncomputable def laws_toFilter (a0 : Filter) : Option (Filter) :=
  bindO (laws_toIntS a0.2.2) fun r1 =>
  some (a0.1, a0.2.1, r1)
noncomputable def laws_toMailbox (a0 : Mailbox) : Option (Mailbox) :=
  bindO (laws_toFilter a0.1) fun r1 =>
  some (r1, a0.2)
noncomputable def laws_toMailboxS_T3 {R : Type} (k0 : (List Mailbox) → Int → Option R) (v0 : List Mailbox) (nx : ((List Mailbox) × Int) → Option R) (x : (List Mailbox) × Int) : Option R :=
  cond (decide (x.2 < ((List.length v0 : Int)))) (
    bindO (idx v0 x.2) fun x1 =>
    bindO (laws_toMailbox x1) fun r2 =>
    bindO (idx x.1 x.2) fun x3 =>
    bindO (idx x.1 x.2) fun x4 =>
    nx (List.set x.1 (Int.toNat x.2) r2, IntKind.wrap .i64 (x.2 + 1))) (
    k0 x.1 x.2)
noncomputable def laws_toMailboxS (a0 : List Mailbox) : Option (List Mailbox) :=
  if 0 ≤ ((List.length a0 : Int)) ∧ ((List.length a0 : Int)) ≤ ((List.length a0 : Int)) then (
  room (Int.toNat ((List.length a0 : Int))) (
  iterL (laws_toMailboxS_T3
    (fun (y5 : List Mailbox) (y6 : Int) =>
      some y5) a0) fuel (List.replicate (Int.toNat ((List.length a0 : Int))) ((0, false, ([] : List Int)), 0, 0, 0), 0))) else none
noncomputable def impl_between (a0 : Int) (a1 : Int) (a2 : Int) : Option (Bool) :=
  bindO (
    cond (decide (a0 ≥ a1)) (
      some (decide (a0 ≤ a2))) (
      some false)) fun q1 =>
  some q1
noncomputable def impl_FilterOk_T2 {R : Type} (k0 : Int → Option R) (k1 : Bool → Int → Option R) (v2 : Bool) (v6 : List Int) (v7 : Int) (b1 : Filter) (nx : Int → Option R) (x : Int) : Option R :=
  cond (decide (x < v7)) (
    bindO (idx v6 x) fun x1 =>
    bindO (
      bindO (impl_between x1 0 4095) fun r2 =>
      cond (!r2) (
        some true) (
        cond (decide (x > 0)) (
          bindO (idx b1.2.2 (IntKind.wrap .i64 (x - 1))) fun x3 =>
          some (decide (x3 ≥ x1))) (
          some false))) fun q4 =>
    cond q4 (
      k1 false x) (
      nx (IntKind.wrap .i64 (x + 1)))) (
    k0 x)
noncomputable def impl_FilterOk (a0 : Filter) : Option (Bool) :=
  iterL (impl_FilterOk_T2
    (fun (y5 : Int) =>
      bindO (
        bindO (impl_between a0.1 0 281474976710654) fun r6 =>
        cond r6 (
          some (decide (((List.length a0.2.2 : Int)) ≤ 8))) (
          some false)) fun q7 =>
      some q7)
    (fun (y8 : Bool) (y9 : Int) =>
      some y8) false a0.2.2 ((List.length a0.2.2 : Int)) a0) fuel 0
noncomputable def impl_MailboxOk (a0 : Mailbox) : Option (Bool) :=
  bindO (
    bindO (impl_FilterOk a0.1) fun r1 =>
    cond r1 (
      bindO (impl_between a0.2.1 0 1000000000000) fun r2 =>
      cond r2 (
        bindO (impl_between a0.2.2.2 0 1000000000000) fun r3 =>
        some r3) (
        some false)) (
      some false)) fun q4 =>
  some q4
noncomputable def impl_hasInt_T2 {R : Type} (k0 : Int → Option R) (k1 : Bool → Int → Option R) (v1 : Int) (v4 : Bool) (v7 : List Int) (v8 : Int) (nx : Int → Option R) (x : Int) : Option R :=
  cond (decide (x < v8)) (
    bindO (idx v7 x) fun x1 =>
    cond (x1 == v1) (
      k1 true x) (
      nx (IntKind.wrap .i64 (x + 1)))) (
    k0 x)
noncomputable def impl_hasInt (a0 : List Int) (a1 : Int) : Option (Bool) :=
  iterL (impl_hasInt_T2
    (fun (y2 : Int) =>
      some false)
    (fun (y3 : Bool) (y4 : Int) =>
      some y3) a1 false a0 ((List.length a0 : Int))) fuel 0
noncomputable def impl_addOrdered_T4 {R : Type} (k0 : (List Int) → Bool → Int → Option R) (v1 : Int) (v10 : List Int) (v11 : Int) (nx : ((List Int) × Bool × Int) → Option R) (x : (List Int) × Bool × Int) : Option R :=
  cond (decide (x.2.2 < v11)) (
    bindO (idx v10 x.2.2) fun x1 =>
    bindO (
      cond (!x.2.1) (
        some (decide (v1 < x1))) (
        some false)) fun q2 =>
    cond q2 (
      room (List.length x.1 + List.length ([v1])) (
      room (List.length (x.1 ++ ([v1])) + List.length ([x1])) (
      nx ((x.1 ++ ([v1])) ++ ([x1]), true, IntKind.wrap .i64 (x.2.2 + 1))))) (
      room (List.length x.1 + List.length ([x1])) (
      nx (x.1 ++ ([x1]), x.2.1, IntKind.wrap .i64 (x.2.2 + 1))))) (
    k0 x.1 x.2.1 x.2.2)
noncomputable def impl_addOrdered (a0 : List Int) (a1 : Int) : Option (List Int) :=
  iterL (impl_addOrdered_T4
    (fun (y3 : List Int) (y4 : Bool) (y5 : Int) =>
      cond (!y4) (
        room (List.length y3 + List.length ([a1])) (
        some (y3 ++ ([a1])))) (
        some y3)) a1 a0 ((List.length a0 : Int))) fuel (([] : List Int), false, 0)
noncomputable def impl_filterOf (a0 : Port) : Option (Filter) :=
  some (a0.1, false, a0.2.1)
noncomputable def impl_portWith_T2 {R : Type} (k0 : Int → Option R) (k1 : Int → Int → Option R) (v1 : Int) (v4 : Int) (v7 : List Port) (v8 : Int) (nx : Int → Option R) (x : Int) : Option R :=
  cond (decide (x < v8)) (
    bindO (idx v7 x) fun x1 =>
    bindO (
      cond (x != 0) (
        some (x1.1 == v1)) (
        some false)) fun q2 =>
    cond q2 (
      k1 x x) (
      nx (IntKind.wrap .i64 (x + 1)))) (
    k0 x)
noncomputable def impl_portWith (a0 : List Port) (a1 : Int) : Option (Int) :=
  iterL (impl_portWith_T2
    (fun (y3 : Int) =>
      some (-1))
    (fun (y4 : Int) (y5 : Int) =>
      some y4) a1 0 a0 ((List.length a0 : Int))) fuel 0
noncomputable def impl_PortsOk_T4 {R : Type} (k0 : Int → Option R) (k1 : Bool → Int → Option R) (v0 : List Port) (v2 : Bool) (v9 : List Port) (v10 : Int) (nx : Int → Option R) (x : Int) : Option R :=
  cond (decide (x < v10)) (
    bindO (idx v9 x) fun x2 =>
    bindO (
      bindO (impl_filterOf x2) fun r3 =>
      bindO (impl_FilterOk r3) fun r4 =>
      cond (!r4) (
        some true) (
        bindO (impl_hasInt x2.2.1 x2.2.2.1) fun r5 =>
        some (!r5))) fun q6 =>
    cond q6 (
      k1 false x) (
      bindO (
        cond (x != 0) (
          bindO (impl_portWith v0 x2.1) fun r7 =>
          some (r7 != x)) (
          some false)) fun q8 =>
      cond q8 (
        k1 false x) (
        nx (IntKind.wrap .i64 (x + 1))))) (
    k0 x)
noncomputable def impl_PortsOk (a0 : List Port) : Option (Bool) :=
  bindO (impl_between ((List.length a0 : Int)) 1 8) fun r1 =>
  cond (!r1) (
    some false) (
    iterL (impl_PortsOk_T4
      (fun (y9 : Int) =>
        some true)
      (fun (y10 : Bool) (y11 : Int) =>
        some y10) a0 false a0 ((List.length a0 : Int))) fuel 0)
noncomputable def impl_PortsOf_T12 {R : Type} (k0 : (List Int) → (List Int) → Int → Option R) (v2 : List Port) (v3 : Bool) (v4 : List Port) (v18 : List Mailbox) (v19 : Int) (v20 : Int) (v32 : List Int) (v33 : Int) (b7 : Mailbox) (nx : ((List Int) × (List Int) × Int) → Option R) (x : (List Int) × (List Int) × Int) : Option R :=
  cond (decide (x.2.2 < v33)) (
    bindO (idx v32 x.2.2) fun x4 =>
    bindO (impl_hasInt x.2.1 x4) fun r5 =>
    cond (!r5) (
      bindO (impl_addOrdered x.2.1 x4) fun r6 =>
      bindO (impl_hasInt x.1 x4) fun r7 =>
      cond (!r7) (
        bindO (impl_addOrdered x.1 x4) fun r8 =>
        nx (r8, r6, IntKind.wrap .i64 (x.2.2 + 1))) (
        nx (x.1, r6, IntKind.wrap .i64 (x.2.2 + 1)))) (
      bindO (impl_hasInt x.1 x4) fun r9 =>
      cond (!r9) (
        bindO (impl_addOrdered x.1 x4) fun r10 =>
        nx (r10, x.2.1, IntKind.wrap .i64 (x.2.2 + 1))) (
        nx (x.1, x.2.1, IntKind.wrap .i64 (x.2.2 + 1))))) (
    k0 x.1 x.2.1 x.2.2)
noncomputable def impl_PortsOf_T6 {R : Type} (k0 : (List Port) → (List Int) → Int → Option R) (k1 : (List Port) → Bool → (List Port) → (List Int) → Int → Option R) (v2 : List Port) (v3 : Bool) (v18 : List Mailbox) (v19 : Int) (nx : ((List Port) × (List Int) × Int) → Option R) (x : (List Port) × (List Int) × Int) : Option R :=
  cond (decide (x.2.2 < v19)) (
    bindO (idx v18 x.2.2) fun x2 =>
    bindO (impl_MailboxOk x2) fun r3 =>
    cond (!r3) (
      k1 ([] : List Port) false x.1 x.2.1 x.2.2) (
      room (List.length ([0]) + List.length x2.1.2.2) (
      iterL (impl_PortsOf_T12
        (fun (y11 : List Int) (y12 : List Int) (y13 : Int) =>
          room (List.length x.1 + List.length ([(x2.1.1, y12, 0, true)])) (
          nx (x.1 ++ ([(x2.1.1, y12, 0, true)]), y11, IntKind.wrap .i64 (x.2.2 + 1)))) v2 v3 x.1 v18 v19 x.2.2 (([0]) ++ x2.1.2.2) ((List.length (([0]) ++ x2.1.2.2) : Int)) x2) fuel (x.2.1, ([] : List Int), 0)))) (
    k0 x.1 x.2.1 x.2.2)
noncomputable def impl_PortsOf (a0 : List Mailbox) : Option ((List Port) × Bool) :=
  bindO (impl_between ((List.length a0 : Int)) 1 3) fun r1 =>
  cond (!r1) (
    some (([] : List Port), false)) (
    iterL (impl_PortsOf_T6
      (fun (y14 : List Port) (y15 : List Int) (y16 : Int) =>
        bindO (idx y14 0) fun x17 =>
        bindO (idx y14 0) fun x18 =>
        bindO (impl_PortsOk (List.set y14 (Int.toNat 0) (x18.1, y15, x18.2.2))) fun r19 =>
        cond (!r19) (
          some (([] : List Port), false)) (
          some (List.set y14 (Int.toNat 0) (x18.1, y15, x18.2.2), true)))
      (fun (y20 : List Port) (y21 : Bool) (y22 : List Port) (y23 : List Int) (y24 : Int) =>
        some (y20, y21)) ([] : List Port) false a0 ((List.length a0 : Int))) fuel ([(0, ([] : List Int), 0, false)], ([] : List Int), 0))
noncomputable def laws_eqIntS_T4 {R : Type} (k0 : Int → Option R) (k1 : Bool → Int → Option R) (v0 : List Int) (v1 : List Int) (v4 : Bool) (nx : Int → Option R) (x : Int) : Option R :=
  cond (decide (x < ((List.length v0 : Int)))) (
    bindO (idx v0 x) fun x1 =>
    bindO (idx v1 x) fun x2 =>
    cond (x1 != x2) (
      k1 false x) (
      nx (IntKind.wrap .i64 (x + 1)))) (
    k0 x)
noncomputable def laws_eqIntS (a0 : List Int) (a1 : List Int) : Option (Bool) :=
  cond (((List.length a0 : Int)) != ((List.length a1 : Int))) (
    some false) (
    iterL (laws_eqIntS_T4
      (fun (y3 : Int) =>
        some true)
      (fun (y4 : Bool) (y5 : Int) =>
        some y4) a0 a1 false) fuel 0)
noncomputable def laws_eqPort (a0 : Port) (a1 : Port) : Option (Bool) :=
  cond (a0.1 != a1.1) (
    some false) (
    bindO (laws_eqIntS a0.2.1 a1.2.1) fun r1 =>
    cond (!r1) (
      some false) (
      cond (a0.2.2.1 != a1.2.2.1) (
        some false) (
        cond (!(a0.2.2.2 == a1.2.2.2)) (
          some false) (
          some true))))
noncomputable def laws_eqPortS_T4 {R : Type} (k0 : Int → Option R) (k1 : Bool → Int → Option R) (v0 : List Port) (v1 : List Port) (v4 : Bool) (nx : Int → Option R) (x : Int) : Option R :=
  cond (decide (x < ((List.length v0 : Int)))) (
    bindO (idx v0 x) fun x1 =>
    bindO (idx v1 x) fun x2 =>
    bindO (laws_eqPort x1 x2) fun r3 =>
    cond (!r3) (
      k1 false x) (
      nx (IntKind.wrap .i64 (x + 1)))) (
    k0 x)
noncomputable def laws_eqPortS (a0 : List Port) (a1 : List Port) : Option (Bool) :=
  cond (((List.length a0 : Int)) != ((List.length a1 : Int))) (
    some false) (
    iterL (laws_eqPortS_T4
      (fun (y4 : Int) =>
        some true)
      (fun (y5 : Bool) (y6 : Int) =>
        some y5) a0 a1 false) fuel 0)
noncomputable def laws_eqFilter (a0 : Filter) (a1 : Filter) : Option (Bool) :=
  cond (a0.1 != a1.1) (
    some false) (
    cond (!(a0.2.1 == a1.2.1)) (
      some false) (
      bindO (laws_eqIntS a0.2.2 a1.2.2) fun r1 =>
      cond (!r1) (
        some false) (
        some true)))
noncomputable def laws_eqMailbox (a0 : Mailbox) (a1 : Mailbox) : Option (Bool) :=
  bindO (laws_eqFilter a0.1 a1.1) fun r1 =>
  cond (!r1) (
    some false) (
    cond (a0.2.1 != a1.2.1) (
      some false) (
      cond (a0.2.2.1 != a1.2.2.1) (
        some false) (
        cond (a0.2.2.2 != a1.2.2.2) (
          some false) (
          some true))))
noncomputable def laws_eqMailboxS_T4 {R : Type} (k0 : Int → Option R) (k1 : Bool → Int → Option R) (v0 : List Mailbox) (v1 : List Mailbox) (v4 : Bool) (nx : Int → Option R) (x : Int) : Option R :=
  cond (decide (x < ((List.length v0 : Int)))) (
    bindO (idx v0 x) fun x1 =>
    bindO (idx v1 x) fun x2 =>
    bindO (laws_eqMailbox x1 x2) fun r3 =>
    cond (!r3) (
      k1 false x) (
      nx (IntKind.wrap .i64 (x + 1)))) (
    k0 x)
noncomputable def laws_eqMailboxS (a0 : List Mailbox) (a1 : List Mailbox) : Option (Bool) :=
  cond (((List.length a0 : Int)) != ((List.length a1 : Int))) (
    some false) (
    iterL (laws_eqMailboxS_T4
      (fun (y4 : Int) =>
        some true)
      (fun (y5 : Bool) (y6 : Int) =>
        some y5) a0 a1 false) fuel 0)
noncomputable def laws_markIntS_T2 {R : Type} (k0 : (List Int) → Int → Int → (List Int) → Option R) (nx : ((List Int) × Int × Int × List Int) → Option R) (x : (List Int) × Int × Int × List Int) : Option R :=
  cond (decide (x.2.2.1 < ((List.length x.1 : Int)))) (
    bindO (idx x.1 x.2.2.1) fun x1 =>
    bindO (idx x.2.2.2 x.2.2.1) fun x2 =>
    nx (List.set x.2.2.2 (Int.toNat x.2.2.1) x.2.1, IntKind.wrap .i64 (x.2.1 + 1), IntKind.wrap .i64 (x.2.2.1 + 1), List.set x.2.2.2 (Int.toNat x.2.2.1) x.2.1)) (
    k0 x.2.2.2 x.2.1 x.2.2.1 x.2.2.2)
noncomputable def laws_markIntS (a0 : List Int) (a1 : Int) : Option (Int × List Int) :=
  iterL (laws_markIntS_T2
    (fun (y3 : List Int) (y4 : Int) (y5 : Int) (y6 : List Int) =>
      some (y4, y6))) fuel (a0, a1, 0, a0)
noncomputable def laws_markMailboxS_T2 {R : Type} (k0 : (List Mailbox) → Int → Int → (List Mailbox) → Option R) (nx : ((List Mailbox) × Int × Int × List Mailbox) → Option R) (x : (List Mailbox) × Int × Int × List Mailbox) : Option R :=
  cond (decide (x.2.2.1 < ((List.length x.1 : Int)))) (
    bindO (idx x.1 x.2.2.1) fun x1 =>
    bindO (idx x.2.2.2 x.2.2.1) fun x2 =>
    if 3 = 0 then none else (
    bindO (idx (List.set x.2.2.2 (Int.toNat x.2.2.1) ((x.2.1, x2.1.2), x2.2)) x.2.2.1) fun x3 =>
    bindO (some (List.set x.2.2.2 (Int.toNat x.2.2.1) ((x.2.1, x2.1.2), x2.2))) fun x4 =>
    bindO (idx x4 x.2.2.1) fun x5 =>
    bindO (idx (List.set x4 (Int.toNat x.2.2.1) ((x5.1.1, (Int.tmod (IntKind.wrap .i64 (x.2.1 + 1)) 3) == 0, x5.1.2.2), x5.2)) x.2.2.1) fun x6 =>
    bindO (some (List.set x4 (Int.toNat x.2.2.1) ((x5.1.1, (Int.tmod (IntKind.wrap .i64 (x.2.1 + 1)) 3) == 0, x5.1.2.2), x5.2))) fun x7 =>
    bindO (idx x7 x.2.2.1) fun x8 =>
    bindO (laws_markIntS x8.1.2.2 (IntKind.wrap .i64 ((IntKind.wrap .i64 (x.2.1 + 1)) + 1))) fun r9 =>
    bindO (idx (List.set x7 (Int.toNat x.2.2.1) ((x8.1.1, x8.1.2.1, r9.2), x8.2)) x.2.2.1) fun x10 =>
    bindO (some (List.set x7 (Int.toNat x.2.2.1) ((x8.1.1, x8.1.2.1, r9.2), x8.2))) fun x11 =>
    bindO (idx x11 x.2.2.1) fun x12 =>
    bindO (idx (List.set x11 (Int.toNat x.2.2.1) (x12.1, r9.1, x12.2.2)) x.2.2.1) fun x13 =>
    bindO (some (List.set x11 (Int.toNat x.2.2.1) (x12.1, r9.1, x12.2.2))) fun x14 =>
    bindO (idx x14 x.2.2.1) fun x15 =>
    bindO (idx (List.set x14 (Int.toNat x.2.2.1) (x15.1, x15.2.1, IntKind.wrap .i64 (r9.1 + 1), x15.2.2.2)) x.2.2.1) fun x16 =>
    bindO (some (List.set x14 (Int.toNat x.2.2.1) (x15.1, x15.2.1, IntKind.wrap .i64 (r9.1 + 1), x15.2.2.2))) fun x17 =>
    bindO (idx x17 x.2.2.1) fun x18 =>
    nx (List.set x17 (Int.toNat x.2.2.1) (x18.1, x18.2.1, x18.2.2.1, IntKind.wrap .i64 ((IntKind.wrap .i64 (r9.1 + 1)) + 1)), IntKind.wrap .i64 ((IntKind.wrap .i64 ((IntKind.wrap .i64 (r9.1 + 1)) + 1)) + 1), IntKind.wrap .i64 (x.2.2.1 + 1), List.set x17 (Int.toNat x.2.2.1) (x18.1, x18.2.1, x18.2.2.1, IntKind.wrap .i64 ((IntKind.wrap .i64 (r9.1 + 1)) + 1))))) (
    k0 x.2.2.2 x.2.1 x.2.2.1 x.2.2.2)
noncomputable def laws_markMailboxS (a0 : List Mailbox) (a1 : Int) : Option (Int × List Mailbox) :=
  iterL (laws_markMailboxS_T2
    (fun (y19 : List Mailbox) (y20 : Int) (y21 : Int) (y22 : List Mailbox) =>
      some (y20, y22))) fuel (a0, a1, 0, a0)
noncomputable def laws_markPortS_T2 {R : Type} (k0 : (List Port) → Int → Int → (List Port) → Option R) (nx : ((List Port) × Int × Int × List Port) → Option R) (x : (List Port) × Int × Int × List Port) : Option R :=
  cond (decide (x.2.2.1 < ((List.length x.1 : Int)))) (
    bindO (idx x.1 x.2.2.1) fun x1 =>
    bindO (idx x.2.2.2 x.2.2.1) fun x2 =>
    bindO (idx (List.set x.2.2.2 (Int.toNat x.2.2.1) (x.2.1, x2.2)) x.2.2.1) fun x3 =>
    bindO (some (List.set x.2.2.2 (Int.toNat x.2.2.1) (x.2.1, x2.2))) fun x4 =>
    bindO (idx x4 x.2.2.1) fun x5 =>
    bindO (laws_markIntS x5.2.1 (IntKind.wrap .i64 (x.2.1 + 1))) fun r6 =>
    bindO (idx (List.set x4 (Int.toNat x.2.2.1) (x5.1, r6.2, x5.2.2)) x.2.2.1) fun x7 =>
    bindO (some (List.set x4 (Int.toNat x.2.2.1) (x5.1, r6.2, x5.2.2))) fun x8 =>
    bindO (idx x8 x.2.2.1) fun x9 =>
    if 3 = 0 then none else (
    bindO (idx (List.set x8 (Int.toNat x.2.2.1) (x9.1, x9.2.1, r6.1, x9.2.2.2)) x.2.2.1) fun x10 =>
    bindO (some (List.set x8 (Int.toNat x.2.2.1) (x9.1, x9.2.1, r6.1, x9.2.2.2))) fun x11 =>
    bindO (idx x11 x.2.2.1) fun x12 =>
    nx (List.set x11 (Int.toNat x.2.2.1) (x12.1, x12.2.1, x12.2.2.1, (Int.tmod (IntKind.wrap .i64 (r6.1 + 1)) 3) == 0), IntKind.wrap .i64 ((IntKind.wrap .i64 (r6.1 + 1)) + 1), IntKind.wrap .i64 (x.2.2.1 + 1), List.set x11 (Int.toNat x.2.2.1) (x12.1, x12.2.1, x12.2.2.1, (Int.tmod (IntKind.wrap .i64 (r6.1 + 1)) 3) == 0)))) (
    k0 x.2.2.2 x.2.1 x.2.2.1 x.2.2.2)
noncomputable def laws_markPortS (a0 : List Port) (a1 : Int) : Option (Int × List Port) :=
  iterL (laws_markPortS_T2
    (fun (y13 : List Port) (y14 : Int) (y15 : Int) (y16 : List Port) =>
      some (y14, y16))) fuel (a0, a1, 0, a0)
noncomputable def laws_heldIntS_T2 {R : Type} (k0 : Int → Int → Option R) (k1 : Int → Int → Int → Option R) (v0 : List Int) (v4 : Int) (nx : (Int × Int) → Option R) (x : Int × Int) : Option R :=
  cond (decide (x.2 < ((List.length v0 : Int)))) (
    bindO (idx v0 x.2) fun x1 =>
    cond (x1 != x.1) (
      k1 x.1 (-1) x.2) (
      nx (IntKind.wrap .i64 (x.1 + 1), IntKind.wrap .i64 (x.2 + 1)))) (
    k0 x.1 x.2)
noncomputable def laws_heldIntS (a0 : List Int) (a1 : Int) : Option (Int) :=
  iterL (laws_heldIntS_T2
    (fun (y2 : Int) (y3 : Int) =>
      some y2)
    (fun (y4 : Int) (y5 : Int) (y6 : Int) =>
      some y5) a0 0) fuel (a1, 0)
noncomputable def laws_heldPortS_T2 {R : Type} (k0 : Int → Int → Option R) (k1 : Int → Int → Int → Option R) (v0 : List Port) (v4 : Int) (nx : (Int × Int) → Option R) (x : Int × Int) : Option R :=
  cond (decide (x.2 < ((List.length v0 : Int)))) (
    bindO (idx v0 x.2) fun x1 =>
    cond (x1.1 != x.1) (
      k1 x.1 (-1) x.2) (
      bindO (idx v0 x.2) fun x2 =>
      bindO (laws_heldIntS x2.2.1 (IntKind.wrap .i64 (x.1 + 1))) fun r3 =>
      cond (decide (r3 < 0)) (
        k1 r3 (-1) x.2) (
        bindO (idx v0 x.2) fun x4 =>
        cond (x4.2.2.1 != r3) (
          k1 r3 (-1) x.2) (
          bindO (idx v0 x.2) fun x5 =>
          if 3 = 0 then none else (
          cond (!(x5.2.2.2 == ((Int.tmod (IntKind.wrap .i64 (r3 + 1)) 3) == 0))) (
            k1 (IntKind.wrap .i64 (r3 + 1)) (-1) x.2) (
            nx (IntKind.wrap .i64 ((IntKind.wrap .i64 (r3 + 1)) + 1), IntKind.wrap .i64 (x.2 + 1)))))))) (
    k0 x.1 x.2)
noncomputable def laws_heldPortS (a0 : List Port) (a1 : Int) : Option (Int) :=
  iterL (laws_heldPortS_T2
    (fun (y6 : Int) (y7 : Int) =>
      some y6)
    (fun (y8 : Int) (y9 : Int) (y10 : Int) =>
      some y9) a0 0) fuel (a1, 0)
noncomputable def laws_FnExactPortsOf (a0 : List Mailbox) : Option (Bool) :=
  bindO (laws_szMailboxS a0 1048576) fun r1 =>
  cond (decide (r1 < 0)) (
    some true) (
    bindO (laws_toMailboxS a0) fun r2 =>
    bindO (spec_PortsOf r2) fun r3 =>
    bindO (laws_toMailboxS a0) fun r4 =>
    bindO (impl_PortsOf r4) fun r5 =>
    bindO (
      bindO (laws_eqPortS r5.1 r3.1) fun r6 =>
      cond (!r6) (
        some true) (
        some (!(r5.2 == r3.2)))) fun q7 =>
    cond q7 (
      some false) (
      bindO (laws_toMailboxS a0) fun r8 =>
      bindO (laws_eqMailboxS r4 r8) fun r9 =>
      cond (!r9) (
        some false) (
        bindO (laws_markMailboxS r4 1) fun r10 =>
        bindO (
          cond (decide (r10.1 < 0)) (
            some true) (
            bindO (laws_eqPortS r5.1 r3.1) fun r11 =>
            cond (!r11) (
              some true) (
              some (!(r5.2 == r3.2))))) fun q12 =>
        cond q12 (
          some false) (
          bindO (laws_markPortS r5.1 1) fun r13 =>
          bindO (laws_heldPortS r13.2 1) fun r14 =>
          cond (decide (r14 < 0)) (
            some false) (
            cond (r14 != r13.1) (
              some false) (
              bindO (laws_toMailboxS a0) fun r15 =>
              bindO (impl_PortsOf r15) fun r16 =>
              bindO (
                bindO (laws_eqPortS r16.1 r3.1) fun r17 =>
                cond (!r17) (
                  some true) (
                  some (!(r16.2 == r3.2)))) fun q18 =>
              cond q18 (
                some false) (
                bindO (laws_heldPortS r13.2 1) fun r19 =>
                cond (decide (r19 < 0)) (
                  some false) (
                  cond (r19 != r13.1) (
                    some false) (
                    some true)))))))))

end Go.Pu
