import Derived.Test.YtoickmmiogbhgaaGreatDnData
/- The program's functions and the reference's, as functions of data (made by gen.py). -/
namespace Go.Pu
open Go.Dn
set_option linter.unusedVariables false
noncomputable section

abbrev Bytes := List UInt8
abbrev Filter := Int × Bool × List Int
abbrev Rule := Int × Int × Int × Int × Int × Int × Int × Int × Int
abbrev Flow := Int × Int × Int × Int × Int
abbrev Slot := Int × Flow × Int
abbrev Steering := (List Rule) × (List Slot) × Bytes × List Int
abbrev Stream := Flow × Int × Bytes × Bool
abbrev Soft := Filter × Steering × Int × (List Stream) × List Bytes
abbrev Bucket := Int × Int × Int
abbrev VirtualFunction := Int × Int × Bucket × Bool × Int × Int
abbrev Mailbox := Filter × Int × Int × Int
abbrev Ideal := (List Soft) × (List (List Bytes)) × (List VirtualFunction) × (List Mailbox) × List Bytes
abbrev Segment := Int × Int × Int × Int × Int × Int × Int × Bytes
abbrev Packet := Int × Int × Int × Int × Int × Int × Int × Int × Int × Int × Int × Int × Int × Int × Int × Bytes
abbrev Port := Int × (List Int) × Int × Bool
abbrev Spread := Bytes × List Int
abbrev Ip := Int × Int × Int × Int × Int × Int × Bytes
abbrev Eth := Int × Int × Int × Int × Bytes
@[reducible] def TFilter : CT := (.pair (.int .i64) (.pair .bool (.sl (.int .i64))))
@[reducible] def TRule : CT := (.pair (.int .i64) (.pair (.int .i64) (.pair (.int .i64) (.pair (.int .i64) (.pair (.int .i64) (.pair (.int .i64) (.pair (.int .i64) (.pair (.int .i64) (.int .i64)))))))))
@[reducible] def TFlow : CT := (.pair (.int .i64) (.pair (.int .i64) (.pair (.int .i64) (.pair (.int .i64) (.int .i64)))))
@[reducible] def TSlot : CT := (.pair (.int .i64) (.pair TFlow (.int .i64)))
@[reducible] def TSteering : CT := (.pair (.sl TRule) (.pair (.sl TSlot) (.pair .str (.sl (.int .i64)))))
@[reducible] def TStream : CT := (.pair TFlow (.pair (.int .i64) (.pair .str .bool)))
@[reducible] def TSoft : CT := (.pair TFilter (.pair TSteering (.pair (.int .i64) (.pair (.sl TStream) (.sl .str)))))
@[reducible] def TBucket : CT := (.pair (.int .i64) (.pair (.int .i64) (.int .i64)))
@[reducible] def TVirtualFunction : CT := (.pair (.int .i64) (.pair (.int .i64) (.pair TBucket (.pair .bool (.pair (.int .i64) (.int .i64))))))
@[reducible] def TMailbox : CT := (.pair TFilter (.pair (.int .i64) (.pair (.int .i64) (.int .i64))))
@[reducible] def TIdeal : CT := (.pair (.sl TSoft) (.pair (.sl (.sl .str)) (.pair (.sl TVirtualFunction) (.pair (.sl TMailbox) (.sl .str)))))
@[reducible] def TSegment : CT := (.pair (.int .i64) (.pair (.int .i64) (.pair (.int .i64) (.pair (.int .i64) (.pair (.int .i64) (.pair (.int .i64) (.pair (.int .i64) .str)))))))
@[reducible] def TPacket : CT := (.pair (.int .i64) (.pair (.int .i64) (.pair (.int .i64) (.pair (.int .i64) (.pair (.int .i64) (.pair (.int .i64) (.pair (.int .i64) (.pair (.int .i64) (.pair (.int .i64) (.pair (.int .i64) (.pair (.int .i64) (.pair (.int .i64) (.pair (.int .i64) (.pair (.int .i64) (.pair (.int .i64) .str)))))))))))))))
@[reducible] def TPort : CT := (.pair (.int .i64) (.pair (.sl (.int .i64)) (.pair (.int .i64) .bool)))
@[reducible] def TSpread : CT := (.pair .str (.sl (.int .i64)))
@[reducible] def TIp : CT := (.pair (.int .i64) (.pair (.int .i64) (.pair (.int .i64) (.pair (.int .i64) (.pair (.int .i64) (.pair (.int .i64) .str))))))
@[reducible] def TEth : CT := (.pair (.int .i64) (.pair (.int .i64) (.pair (.int .i64) (.pair (.int .i64) .str))))

def laws_szStringS_T5 {R : Type} (k0 : Int → Int → Option R) (k1 : Int → Int → Int → Option R) (v0 : List Bytes) (v4 : Int) (nx : (Int × Int) → Option R) (x : Int × Int) : Option R :=
 cond (decide (x.2 < ((List.length v0 : Int)))) (
 bindO (idx v0 x.2) fun x1 =>
 cond (decide ((IntKind.wrap .i64 (x.1 - ((List.length x1 : Int)))) < 0)) (
 k1 (IntKind.wrap .i64 (x.1 - ((List.length x1 : Int)))) (-1) x.2) (
 nx (IntKind.wrap .i64 (x.1 - ((List.length x1 : Int))), IntKind.wrap .i64 (x.2 + 1)))) (
 k0 x.1 x.2)
def laws_szStringS (a0 : List Bytes) (a1 : Int) : Option (Int) :=
 cond (decide ((IntKind.wrap .i64 (a1 - ((List.length a0 : Int)))) < 0)) (
 some (-1)) (
 iterL (laws_szStringS_T5
   (fun y2 y3 =>
 some y2)
   (fun y4 y5 y6 =>
 some y5) a0 0) fuel (IntKind.wrap .i64 (a1 - ((List.length a0 : Int))), 0))
def laws_szIntS (a0 : List Int) (a1 : Int) : Option (Int) :=
 cond (decide ((IntKind.wrap .i64 (a1 - ((List.length a0 : Int)))) < 0)) (
 some (-1)) (
 some (IntKind.wrap .i64 (a1 - ((List.length a0 : Int)))))
def laws_szFilter (a0 : Filter) (a1 : Int) : Option (Int) :=
 bindO (laws_szIntS a0.2.2 a1) fun r1 =>
 cond (decide (r1 < 0)) (
 some (-1)) (
 some r1)
def laws_szRuleS (a0 : List Rule) (a1 : Int) : Option (Int) :=
 cond (decide ((IntKind.wrap .i64 (a1 - ((List.length a0 : Int)))) < 0)) (
 some (-1)) (
 some (IntKind.wrap .i64 (a1 - ((List.length a0 : Int)))))
def laws_szSlotS (a0 : List Slot) (a1 : Int) : Option (Int) :=
 cond (decide ((IntKind.wrap .i64 (a1 - ((List.length a0 : Int)))) < 0)) (
 some (-1)) (
 some (IntKind.wrap .i64 (a1 - ((List.length a0 : Int)))))
def laws_szFlowTable (a0 : List Slot) (a1 : Int) : Option (Int) :=
 bindO (laws_szSlotS a0 a1) fun r1 =>
 cond (decide (r1 < 0)) (
 some (-1)) (
 some r1)
def laws_szSpread (a0 : Spread) (a1 : Int) : Option (Int) :=
 cond (decide ((IntKind.wrap .i64 (a1 - ((List.length a0.1 : Int)))) < 0)) (
 some (-1)) (
 bindO (laws_szIntS a0.2 (IntKind.wrap .i64 (a1 - ((List.length a0.1 : Int))))) fun r1 =>
 cond (decide (r1 < 0)) (
 some (-1)) (
 some r1))
def laws_szSteering (a0 : Steering) (a1 : Int) : Option (Int) :=
 bindO (laws_szRuleS a0.1 a1) fun r1 =>
 cond (decide (r1 < 0)) (
 some (-1)) (
 bindO (laws_szFlowTable a0.2.1 r1) fun r2 =>
 cond (decide (r2 < 0)) (
 some (-1)) (
 bindO (laws_szSpread a0.2.2 r2) fun r3 =>
 cond (decide (r3 < 0)) (
 some (-1)) (
 some r3)))
def laws_szStream (a0 : Stream) (a1 : Int) : Option (Int) :=
 cond (decide ((IntKind.wrap .i64 (a1 - ((List.length a0.2.2.1 : Int)))) < 0)) (
 some (-1)) (
 some (IntKind.wrap .i64 (a1 - ((List.length a0.2.2.1 : Int)))))
def laws_szStreamS_T5 {R : Type} (k0 : Int → Int → Option R) (k1 : Int → Int → Int → Option R) (v0 : List Stream) (v4 : Int) (nx : (Int × Int) → Option R) (x : Int × Int) : Option R :=
 cond (decide (x.2 < ((List.length v0 : Int)))) (
 bindO (idx v0 x.2) fun x1 =>
 bindO (laws_szStream x1 x.1) fun r2 =>
 cond (decide (r2 < 0)) (
 k1 r2 (-1) x.2) (
 nx (r2, IntKind.wrap .i64 (x.2 + 1)))) (
 k0 x.1 x.2)
def laws_szStreamS (a0 : List Stream) (a1 : Int) : Option (Int) :=
 cond (decide ((IntKind.wrap .i64 (a1 - ((List.length a0 : Int)))) < 0)) (
 some (-1)) (
 iterL (laws_szStreamS_T5
   (fun y3 y4 =>
 some y3)
   (fun y5 y6 y7 =>
 some y6) a0 0) fuel (IntKind.wrap .i64 (a1 - ((List.length a0 : Int))), 0))
def laws_szSoft (a0 : Soft) (a1 : Int) : Option (Int) :=
 bindO (laws_szFilter a0.1 a1) fun r1 =>
 cond (decide (r1 < 0)) (
 some (-1)) (
 bindO (laws_szSteering a0.2.1 r1) fun r2 =>
 cond (decide (r2 < 0)) (
 some (-1)) (
 bindO (laws_szStreamS a0.2.2.2.1 r2) fun r3 =>
 cond (decide (r3 < 0)) (
 some (-1)) (
 bindO (laws_szStringS a0.2.2.2.2 r3) fun r4 =>
 cond (decide (r4 < 0)) (
 some (-1)) (
 some r4))))
def laws_szSoftS_T5 {R : Type} (k0 : Int → Int → Option R) (k1 : Int → Int → Int → Option R) (v0 : List Soft) (v4 : Int) (nx : (Int × Int) → Option R) (x : Int × Int) : Option R :=
 cond (decide (x.2 < ((List.length v0 : Int)))) (
 bindO (idx v0 x.2) fun x1 =>
 bindO (laws_szSoft x1 x.1) fun r2 =>
 cond (decide (r2 < 0)) (
 k1 r2 (-1) x.2) (
 nx (r2, IntKind.wrap .i64 (x.2 + 1)))) (
 k0 x.1 x.2)
def laws_szSoftS (a0 : List Soft) (a1 : Int) : Option (Int) :=
 cond (decide ((IntKind.wrap .i64 (a1 - ((List.length a0 : Int)))) < 0)) (
 some (-1)) (
 iterL (laws_szSoftS_T5
   (fun y3 y4 =>
 some y3)
   (fun y5 y6 y7 =>
 some y6) a0 0) fuel (IntKind.wrap .i64 (a1 - ((List.length a0 : Int))), 0))
def laws_szStringSS_T5 {R : Type} (k0 : Int → Int → Option R) (k1 : Int → Int → Int → Option R) (v0 : List (List Bytes)) (v4 : Int) (nx : (Int × Int) → Option R) (x : Int × Int) : Option R :=
 cond (decide (x.2 < ((List.length v0 : Int)))) (
 bindO (idx v0 x.2) fun x1 =>
 bindO (laws_szStringS x1 x.1) fun r2 =>
 cond (decide (r2 < 0)) (
 k1 r2 (-1) x.2) (
 nx (r2, IntKind.wrap .i64 (x.2 + 1)))) (
 k0 x.1 x.2)
def laws_szStringSS (a0 : List (List Bytes)) (a1 : Int) : Option (Int) :=
 cond (decide ((IntKind.wrap .i64 (a1 - ((List.length a0 : Int)))) < 0)) (
 some (-1)) (
 iterL (laws_szStringSS_T5
   (fun y3 y4 =>
 some y3)
   (fun y5 y6 y7 =>
 some y6) a0 0) fuel (IntKind.wrap .i64 (a1 - ((List.length a0 : Int))), 0))
def laws_szVirtualFunctionS (a0 : List VirtualFunction) (a1 : Int) : Option (Int) :=
 cond (decide ((IntKind.wrap .i64 (a1 - ((List.length a0 : Int)))) < 0)) (
 some (-1)) (
 some (IntKind.wrap .i64 (a1 - ((List.length a0 : Int)))))
def laws_szMailbox (a0 : Mailbox) (a1 : Int) : Option (Int) :=
 bindO (laws_szFilter a0.1 a1) fun r1 =>
 cond (decide (r1 < 0)) (
 some (-1)) (
 some r1)
def laws_szMailboxS_T5 {R : Type} (k0 : Int → Int → Option R) (k1 : Int → Int → Int → Option R) (v0 : List Mailbox) (v4 : Int) (nx : (Int × Int) → Option R) (x : Int × Int) : Option R :=
 cond (decide (x.2 < ((List.length v0 : Int)))) (
 bindO (idx v0 x.2) fun x1 =>
 bindO (laws_szMailbox x1 x.1) fun r2 =>
 cond (decide (r2 < 0)) (
 k1 r2 (-1) x.2) (
 nx (r2, IntKind.wrap .i64 (x.2 + 1)))) (
 k0 x.1 x.2)
def laws_szMailboxS (a0 : List Mailbox) (a1 : Int) : Option (Int) :=
 cond (decide ((IntKind.wrap .i64 (a1 - ((List.length a0 : Int)))) < 0)) (
 some (-1)) (
 iterL (laws_szMailboxS_T5
   (fun y3 y4 =>
 some y3)
   (fun y5 y6 y7 =>
 some y6) a0 0) fuel (IntKind.wrap .i64 (a1 - ((List.length a0 : Int))), 0))
def laws_szIdeal (a0 : Ideal) (a1 : Int) : Option (Int) :=
 bindO (laws_szSoftS a0.1 a1) fun r1 =>
 cond (decide (r1 < 0)) (
 some (-1)) (
 bindO (laws_szStringSS a0.2.1 r1) fun r2 =>
 cond (decide (r2 < 0)) (
 some (-1)) (
 bindO (laws_szVirtualFunctionS a0.2.2.1 r2) fun r3 =>
 cond (decide (r3 < 0)) (
 some (-1)) (
 bindO (laws_szMailboxS a0.2.2.2.1 r3) fun r4 =>
 cond (decide (r4 < 0)) (
 some (-1)) (
 bindO (laws_szStringS a0.2.2.2.2 r4) fun r5 =>
 cond (decide (r5 < 0)) (
 some (-1)) (
 some r5)))))
def laws_szSegment (a0 : Segment) (a1 : Int) : Option (Int) :=
 cond (decide ((IntKind.wrap .i64 (a1 - ((List.length a0.2.2.2.2.2.2.2 : Int)))) < 0)) (
 some (-1)) (
 some (IntKind.wrap .i64 (a1 - ((List.length a0.2.2.2.2.2.2.2 : Int)))))
def laws_szPacket (a0 : Packet) (a1 : Int) : Option (Int) :=
 bindO (laws_szSegment a0.2.2.2.2.2.2.2.2 a1) fun r1 =>
 cond (decide (r1 < 0)) (
 some (-1)) (
 some r1)
def spec_l24Copy (a0 : Filter) : Option (Filter) :=
 room (List.length ([] : List Int) + List.length a0.2.2) (
 some (a0.1, a0.2.1, ([] : List Int) ++ a0.2.2))
def spec_l13Copy (a0 : List Slot) : Option (List Slot) :=
 room (List.length ([] : List Slot) + List.length a0) (
 some (([] : List Slot) ++ a0))
def spec_l15Copy (a0 : Steering) : Option (Steering) :=
 room (List.length ([] : List Rule) + List.length a0.1) (
 bindO (spec_l13Copy a0.2.1) fun r1 =>
 room (List.length ([] : List Int) + List.length a0.2.2.2) (
 some (([] : List Rule) ++ a0.1, r1, a0.2.2.1, ([] : List Int) ++ a0.2.2.2)))
def spec_l40Copy (a0 : Soft) : Option (Soft) :=
 bindO (spec_l24Copy a0.1) fun r1 =>
 bindO (spec_l15Copy a0.2.1) fun r2 =>
 room (List.length ([] : List Stream) + List.length a0.2.2.2.1) (
 room (List.length ([] : List Bytes) + List.length a0.2.2.2.2) (
 some (r1, r2, a0.2.2.1, ([] : List Stream) ++ a0.2.2.2.1, ([] : List Bytes) ++ a0.2.2.2.2)))
def spec_l35Copy (a0 : Mailbox) : Option (Mailbox) :=
 bindO (spec_l24Copy a0.1) fun r1 =>
 some (r1, a0.2)
def spec_l43Copy_T3 {R : Type} (k0 : Int → Ideal → Option R) (b1 : Ideal) (b2 : Ideal) (nx : (Int × Ideal) → Option R) (x : Int × Ideal) : Option R :=
 cond (decide (x.1 < ((List.length b1.1 : Int)))) (
 bindO (idx b1.1 x.1) fun x1 =>
 bindO (spec_l40Copy x1) fun r2 =>
 room (List.length x.2.1 + List.length ([r2])) (
 nx (IntKind.wrap .i64 (x.1 + 1), x.2.1 ++ ([r2]), x.2.2))) (
 k0 x.1 x.2)
def spec_l43Copy_T7 {R : Type} (k0 : Int → Ideal → Option R) (b1 : Ideal) (b2 : Ideal) (nx : (Int × Ideal) → Option R) (x : Int × Ideal) : Option R :=
 cond (decide (x.1 < ((List.length b1.2.1 : Int)))) (
 bindO (idx b1.2.1 x.1) fun x5 =>
 room (List.length ([] : List Bytes) + List.length x5) (
 room (List.length x.2.2.1 + List.length ([(([] : List Bytes) ++ x5)])) (
 nx (IntKind.wrap .i64 (x.1 + 1), x.2.1, x.2.2.1 ++ ([(([] : List Bytes) ++ x5)]), x.2.2.2)))) (
 k0 x.1 x.2)
def spec_l43Copy_T11 {R : Type} (k0 : Int → Ideal → Option R) (b1 : Ideal) (b2 : Ideal) (nx : (Int × Ideal) → Option R) (x : Int × Ideal) : Option R :=
 cond (decide (x.1 < ((List.length b1.2.2.2.1 : Int)))) (
 bindO (idx b1.2.2.2.1 x.1) fun x8 =>
 bindO (spec_l35Copy x8) fun r9 =>
 room (List.length x.2.2.2.2.1 + List.length ([r9])) (
 nx (IntKind.wrap .i64 (x.1 + 1), x.2.1, x.2.2.1, x.2.2.2.1, x.2.2.2.2.1 ++ ([r9]), x.2.2.2.2.2))) (
 k0 x.1 x.2)
def spec_l43Copy (a0 : Ideal) : Option (Ideal) :=
 room (List.length ([] : List VirtualFunction) + List.length a0.2.2.1) (
 room (List.length ([] : List Bytes) + List.length a0.2.2.2.2) (
 iterL (spec_l43Copy_T3
   (fun y3 y4 =>
 iterL (spec_l43Copy_T7
   (fun y6 y7 =>
 iterL (spec_l43Copy_T11
   (fun y10 y11 =>
 some y11) a0 (([] : List Soft), ([] : List (List Bytes)), ([] : List VirtualFunction), ([] : List Mailbox), ([] : List Bytes))) fuel (0, y7)) a0 (([] : List Soft), ([] : List (List Bytes)), ([] : List VirtualFunction), ([] : List Mailbox), ([] : List Bytes))) fuel (0, y4)) a0 (([] : List Soft), ([] : List (List Bytes)), ([] : List VirtualFunction), ([] : List Mailbox), ([] : List Bytes))) fuel (0, ([] : List Soft), ([] : List (List Bytes)), ([] : List VirtualFunction) ++ a0.2.2.1, ([] : List Mailbox), ([] : List Bytes) ++ a0.2.2.2.2)))
def spec_l01In (a0 : Int) (a1 : Int) (a2 : Int) : Option (Bool) :=
 bindO (
 cond (decide (a0 ≥ a1)) (
 some (decide (a0 ≤ a2))) (
 some false)) fun q1 =>
 some q1
def spec_FilterOk_T2 {R : Type} (k0 : Int → Option R) (k1 : Bool → Int → Option R) (v2 : Bool) (b1 : Filter) (nx : Int → Option R) (x : Int) : Option R :=
 cond (decide (x < ((List.length b1.2.2 : Int)))) (
 bindO (
 bindO (idx b1.2.2 x) fun x1 =>
 bindO (spec_l01In x1 0 4095) fun r2 =>
 cond (!r2) (
 some true) (
 cond (decide (x > 0)) (
 bindO (idx b1.2.2 x) fun x3 =>
 bindO (idx b1.2.2 (IntKind.wrap .i64 (x - 1))) fun x4 =>
 some (decide (x3 ≤ x4))) (
 some false))) fun q5 =>
 cond q5 (
 k1 false x) (
 nx (IntKind.wrap .i64 (x + 1)))) (
 k0 x)
def spec_FilterOk (a0 : Filter) : Option (Bool) :=
 iterL (spec_FilterOk_T2
   (fun y6 =>
 bindO (
 bindO (spec_l01In a0.1 0 281474976710654) fun r7 =>
 cond r7 (
 some (decide (((List.length a0.2.2 : Int)) ≤ 8))) (
 some false)) fun q8 =>
 some q8)
   (fun y9 y10 =>
 some y9) false a0) fuel 0
def spec_MailboxOk (a0 : Mailbox) : Option (Bool) :=
 bindO (
 bindO (spec_FilterOk a0.1) fun r1 =>
 cond r1 (
 bindO (spec_l01In a0.2.1 0 1000000000000) fun r2 =>
 cond r2 (
 bindO (spec_l01In a0.2.2.2 0 1000000000000) fun r3 =>
 some r3) (
 some false)) (
 some false)) fun q4 =>
 some q4
def spec_l24Has_T2 {R : Type} (k0 : Int → Option R) (k1 : Bool → Int → Option R) (v0 : List Int) (v1 : Int) (v4 : Bool) (nx : Int → Option R) (x : Int) : Option R :=
 cond (decide (x < ((List.length v0 : Int)))) (
 bindO (idx v0 x) fun x1 =>
 cond (x1 == v1) (
 k1 true x) (
 nx (IntKind.wrap .i64 (x + 1)))) (
 k0 x)
def spec_l24Has (a0 : List Int) (a1 : Int) : Option (Bool) :=
 iterL (spec_l24Has_T2
   (fun y2 =>
 some false)
   (fun y3 y4 =>
 some y3) a0 a1 false) fuel 0
def spec_l42Union_T7 {R : Type} (k0 : Int → Option R) (v1 : List Int) (v5 : List Int) (v6 : Int) (nx : Int → Option R) (x : Int) : Option R :=
 bindO (
 cond (decide (x < ((List.length v5 : Int)))) (
 bindO (idx v5 x) fun x3 =>
 bindO (idx v1 v6) fun x4 =>
 some (decide (x3 < x4))) (
 some false)) fun q5 =>
 cond q5 (
 nx (IntKind.wrap .i64 (x + 1))) (
 k0 x)
def spec_l42Union_T3 {R : Type} (k0 : (List Int) → Int → Option R) (v1 : List Int) (nx : ((List Int) × Int) → Option R) (x : (List Int) × Int) : Option R :=
 cond (decide (x.2 < ((List.length v1 : Int)))) (
 bindO (idx v1 x.2) fun x1 =>
 bindO (spec_l24Has x.1 x1) fun r2 =>
 cond r2 (
 nx (x.1, IntKind.wrap .i64 (x.2 + 1))) (
 iterL (spec_l42Union_T7
   (fun y6 =>
 bindO (sub x.1 0 y6) fun x7 =>
 room (List.length ([] : List Int) + List.length x7) (
 bindO (idx v1 x.2) fun x8 =>
 room (List.length (([] : List Int) ++ x7) + List.length ([x8])) (
 bindO (sub x.1 y6 ((List.length x.1 : Int))) fun x9 =>
 room (List.length ((([] : List Int) ++ x7) ++ ([x8])) + List.length x9) (
 nx (((([] : List Int) ++ x7) ++ ([x8])) ++ x9, IntKind.wrap .i64 (x.2 + 1)))))) v1 x.1 x.2) fuel 0)) (
 k0 x.1 x.2)
def spec_l42Union (a0 : List Int) (a1 : List Int) : Option (List Int) :=
 room (List.length ([] : List Int) + List.length a0) (
 iterL (spec_l42Union_T3
   (fun y10 y11 =>
 some y10) a1) fuel (([] : List Int) ++ a0, 0))
def spec_PortsOk_T9 {R : Type} (k0 : Int → Option R) (k1 : Bool → Int → Option R) (v0 : List Port) (v2 : Bool) (v3 : Int) (nx : Int → Option R) (x : Int) : Option R :=
 cond (decide (x < v3)) (
 bindO (idx v0 x) fun x8 =>
 bindO (idx v0 v3) fun x9 =>
 cond (x8.1 == x9.1) (
 k1 false x) (
 nx (IntKind.wrap .i64 (x + 1)))) (
 k0 x)
def spec_PortsOk_T4 {R : Type} (k0 : Int → Option R) (k1 : Bool → Int → Option R) (v0 : List Port) (v2 : Bool) (nx : Int → Option R) (x : Int) : Option R :=
 cond (decide (x < ((List.length v0 : Int)))) (
 bindO (idx v0 x) fun x2 =>
 bindO (idx v0 x) fun x3 =>
 bindO (spec_FilterOk (x2.1, false, x3.2.1)) fun r4 =>
 cond (!r4) (
 k1 false x) (
 bindO (idx v0 x) fun x5 =>
 bindO (idx v0 x) fun x6 =>
 bindO (spec_l24Has x5.2.1 x6.2.2.1) fun r7 =>
 cond (!r7) (
 k1 false x) (
 iterL (spec_PortsOk_T9
   (fun y10 =>
 nx (IntKind.wrap .i64 (x + 1)))
   (fun y11 y12 =>
 k1 y11 x) v0 v2 x) fuel 1))) (
 k0 x)
def spec_PortsOk (a0 : List Port) : Option (Bool) :=
 bindO (spec_l01In ((List.length a0 : Int)) 1 8) fun r1 =>
 cond (!r1) (
 some false) (
 iterL (spec_PortsOk_T4
   (fun y13 =>
 some true)
   (fun y14 y15 =>
 some y14) a0 false) fuel 0)
def spec_PortsOf_T5 {R : Type} (k0 : (List Port) → Int → Option R) (k1 : (List Port) → Bool → (List Port) → Int → Option R) (v0 : List Mailbox) (v2 : List Port) (v3 : Bool) (nx : ((List Port) × Int) → Option R) (x : (List Port) × Int) : Option R :=
 cond (decide (x.2 < ((List.length v0 : Int)))) (
 bindO (idx v0 x.2) fun x2 =>
 bindO (spec_MailboxOk x2) fun r3 =>
 cond (!r3) (
 k1 ([] : List Port) false x.1 x.2) (
 bindO (idx x.1 0) fun x4 =>
 bindO (idx v0 x.2) fun x5 =>
 bindO (spec_l42Union x4.2.1 x5.1.2.2) fun r6 =>
 bindO (idx x.1 0) fun x7 =>
 bindO (idx x.1 0) fun x8 =>
 bindO (idx v0 x.2) fun x9 =>
 bindO (idx v0 x.2) fun x10 =>
 bindO (spec_l42Union ([0]) x10.1.2.2) fun r11 =>
 room (List.length (List.set x.1 (Int.toNat 0) (x8.1, r6, x8.2.2)) + List.length ([(x9.1.1, r11, 0, true)])) (
 nx ((List.set x.1 (Int.toNat 0) (x8.1, r6, x8.2.2)) ++ ([(x9.1.1, r11, 0, true)]), IntKind.wrap .i64 (x.2 + 1))))) (
 k0 x.1 x.2)
def spec_PortsOf (a0 : List Mailbox) : Option ((List Port) × Bool) :=
 bindO (spec_l01In ((List.length a0 : Int)) 1 3) fun r1 =>
 cond (!r1) (
 some (([] : List Port), false)) (
 iterL (spec_PortsOf_T5
   (fun y12 y13 =>
 bindO (spec_PortsOk y12) fun r14 =>
 cond (!r14) (
 some (([] : List Port), false)) (
 some (y12, true)))
   (fun y15 y16 y17 y18 =>
 some (y15, y16)) a0 ([] : List Port) false) fuel ([(0, [0], 0, false)], 0))
def spec_BucketOk (a0 : Bucket) : Option (Bool) :=
 bindO (
 bindO (spec_l01In a0.1 0 10000) fun r1 =>
 cond r1 (
 bindO (spec_l01In a0.2.1 0 100000) fun r2 =>
 cond r2 (
 bindO (spec_l01In a0.2.2 0 a0.2.1) fun r3 =>
 some r3) (
 some false)) (
 some false)) fun q4 =>
 some q4
def spec_FunctionsOk_T10 {R : Type} (k0 : Int → Option R) (k1 : Bool → Int → Option R) (v0 : List VirtualFunction) (v1 : List Port) (v4 : Bool) (v5 : Int) (b6 : VirtualFunction) (nx : Int → Option R) (x : Int) : Option R :=
 cond (decide (x < v5)) (
 bindO (
 bindO (idx v0 x) fun x9 =>
 cond (x9.1 == b6.1) (
 some true) (
 bindO (idx v0 x) fun x10 =>
 some (x10.2.1 == b6.2.1))) fun q11 =>
 cond q11 (
 k1 false x) (
 nx (IntKind.wrap .i64 (x + 1)))) (
 k0 x)
def spec_FunctionsOk_T4 {R : Type} (k0 : Int → Option R) (k1 : Bool → Int → Option R) (v0 : List VirtualFunction) (v1 : List Port) (v4 : Bool) (nx : Int → Option R) (x : Int) : Option R :=
 cond (decide (x < ((List.length v0 : Int)))) (
 bindO (idx v0 x) fun x2 =>
 bindO (
 bindO (spec_l01In x2.1 0 7) fun r3 =>
 cond (!r3) (
 some true) (
 bindO (spec_l01In x2.2.1 1 (IntKind.wrap .i64 (((List.length v1 : Int)) - 1))) fun r4 =>
 cond (!r4) (
 some true) (
 bindO (spec_BucketOk x2.2.2.1) fun r5 =>
 cond (!r5) (
 some true) (
 bindO (spec_l01In x2.2.2.2.2.1 0 1000000000000) fun r6 =>
 cond (!r6) (
 some true) (
 bindO (spec_l01In x2.2.2.2.2.2 0 1000000000000) fun r7 =>
 some (!r7)))))) fun q8 =>
 cond q8 (
 k1 false x) (
 iterL (spec_FunctionsOk_T10
   (fun y12 =>
 nx (IntKind.wrap .i64 (x + 1)))
   (fun y13 y14 =>
 k1 y13 x) v0 v1 v4 x x2) fuel 0)) (
 k0 x)
def spec_FunctionsOk (a0 : List VirtualFunction) (a1 : List Port) : Option (Bool) :=
 bindO (spec_PortsOk a1) fun r1 =>
 cond (!r1) (
 some false) (
 iterL (spec_FunctionsOk_T4
   (fun y15 =>
 some true)
   (fun y16 y17 =>
 some y16) a0 a1 false) fuel 0)
def spec_RuleOk (a0 : Rule) : Option (Bool) :=
 bindO (
 bindO (spec_l01In a0.1 0 1000) fun r1 =>
 cond (!r1) (
 some true) (
 cond (a0.2.1 != 0) (
 cond (a0.2.1 != 6) (
 cond (a0.2.1 != 17) (
 some true) (
 bindO (spec_l01In a0.2.2.1 0 4294967295) fun r2 =>
 cond (!r2) (
 some true) (
 bindO (spec_l01In a0.2.2.2.1 0 32) fun r3 =>
 some (!r3)))) (
 bindO (spec_l01In a0.2.2.1 0 4294967295) fun r4 =>
 cond (!r4) (
 some true) (
 bindO (spec_l01In a0.2.2.2.1 0 32) fun r5 =>
 some (!r5)))) (
 bindO (spec_l01In a0.2.2.1 0 4294967295) fun r6 =>
 cond (!r6) (
 some true) (
 bindO (spec_l01In a0.2.2.2.1 0 32) fun r7 =>
 some (!r7))))) fun q8 =>
 cond q8 (
 some false) (
 bindO (
 cond (decide (a0.2.2.2.2.1 < 0)) (
 some true) (
 cond (decide (a0.2.2.2.2.1 > a0.2.2.2.2.2.1)) (
 some true) (
 cond (decide (a0.2.2.2.2.2.1 > 65535)) (
 some true) (
 bindO (spec_l01In a0.2.2.2.2.2.2.1 (-2) 4095) fun r9 =>
 some (!r9))))) fun q10 =>
 cond q10 (
 some false) (
 bindO (
 cond (a0.2.2.2.2.2.2.2.1 == 0) (
 bindO (spec_l01In a0.2.2.2.2.2.2.2.2 0 3) fun r11 =>
 cond r11 (
 some true) (
 cond (a0.2.2.2.2.2.2.2.1 == 1) (
 some (a0.2.2.2.2.2.2.2.2 == 0)) (
 some false))) (
 cond (a0.2.2.2.2.2.2.2.1 == 1) (
 some (a0.2.2.2.2.2.2.2.2 == 0)) (
 some false))) fun q12 =>
 some q12))
def spec_RulesOk_T2 {R : Type} (k0 : Int → Option R) (k1 : Bool → Int → Option R) (v0 : List Rule) (v2 : Bool) (nx : Int → Option R) (x : Int) : Option R :=
 cond (decide (x < ((List.length v0 : Int)))) (
 bindO (idx v0 x) fun x1 =>
 bindO (spec_RuleOk x1) fun r2 =>
 cond (!r2) (
 k1 false x) (
 nx (IntKind.wrap .i64 (x + 1)))) (
 k0 x)
def spec_RulesOk (a0 : List Rule) : Option (Bool) :=
 iterL (spec_RulesOk_T2
   (fun y3 =>
 some (decide (((List.length a0 : Int)) ≤ 12)))
   (fun y4 y5 =>
 some y4) a0 false) fuel 0
def spec_HomeSlot_T4 {R : Type} (k0 : Int → Int → Option R) (v4 : List Int) (nx : (Int × Int) → Option R) (x : Int × Int) : Option R :=
 cond (decide (x.2 < ((List.length v4 : Int)))) (
 bindO (idx v4 x.2) fun x1 =>
 nx (IntKind.wrap .i64 (x.1 + (IntKind.wrap .i64 (BitVec.toNat (BitVec.ofInt (IntKind.bits .i64) x1 &&& BitVec.ofInt (IntKind.bits .i64) 7)))), IntKind.wrap .i64 (x.2 + 1))) (
 k0 x.1 x.2)
def spec_HomeSlot (a0 : Flow) : Option (Int) :=
 iterL (spec_HomeSlot_T4
   (fun y2 y3 =>
 if 8 = 0 then none else (
 some (Int.tmod y2 8))) ([a0.1, a0.2.1, a0.2.2.1, a0.2.2.2.1, a0.2.2.2.2])) fuel (0, 0)
def spec_l13Find_T2 {R : Type} (k0 : Int → Option R) (k1 : Int → Int → Option R) (v4 : Int) (b2 : List Slot) (b3 : Flow) (nx : Int → Option R) (x : Int) : Option R :=
 cond (decide (x < 8)) (
 bindO (spec_HomeSlot b3) fun r1 =>
 if 8 = 0 then none else (
 bindO (idx b2 (Int.tmod (IntKind.wrap .i64 (r1 + x)) 8)) fun x2 =>
 cond (x2.1 == 0) (
 k1 (-1) x) (
 bindO (
 bindO (idx b2 (Int.tmod (IntKind.wrap .i64 (r1 + x)) 8)) fun x3 =>
 cond (x3.1 == 1) (
 bindO (idx b2 (Int.tmod (IntKind.wrap .i64 (r1 + x)) 8)) fun x4 =>
 some ((x4.2.1.1 == b3.1) && ((x4.2.1.2.1 == b3.2.1) && ((x4.2.1.2.2.1 == b3.2.2.1) && ((x4.2.1.2.2.2.1 == b3.2.2.2.1) && ((x4.2.1.2.2.2.2 == b3.2.2.2.2) && true)))))) (
 some false)) fun q5 =>
 cond q5 (
 k1 (Int.tmod (IntKind.wrap .i64 (r1 + x)) 8) x) (
 nx (IntKind.wrap .i64 (x + 1)))))) (
 k0 x)
def spec_l13Find (a0 : List Slot) (a1 : Flow) : Option (Int) :=
 iterL (spec_l13Find_T2
   (fun y6 =>
 some (-1))
   (fun y7 y8 =>
 some y7) 0 a0 a1) fuel 0
def spec_TableOk_T4 {R : Type} (k0 : Int → Option R) (k1 : Bool → Int → Option R) (v2 : Bool) (b1 : List Slot) (nx : Int → Option R) (x : Int) : Option R :=
 cond (decide (x < ((List.length b1 : Int)))) (
 bindO (idx b1 x) fun x1 =>
 bindO (
 bindO (spec_l01In x1.1 0 2) fun r2 =>
 cond (!r2) (
 some true) (
 bindO (spec_l01In x1.2.2 0 3) fun r3 =>
 some (!r3))) fun q4 =>
 cond q4 (
 k1 false x) (
 cond (x1.1 != 1) (
 bindO (
 cond (x1.2.2 != 0) (
 some true) (
 some (!((x1.2.1.1 == 0) && ((x1.2.1.2.1 == 0) && ((x1.2.1.2.2.1 == 0) && ((x1.2.1.2.2.2.1 == 0) && ((x1.2.1.2.2.2.2 == 0) && true)))))))) fun q5 =>
 cond q5 (
 k1 false x) (
 nx (IntKind.wrap .i64 (x + 1)))) (
 bindO (spec_l13Find b1 x1.2.1) fun r6 =>
 cond (r6 != x) (
 k1 false x) (
 nx (IntKind.wrap .i64 (x + 1)))))) (
 k0 x)
def spec_TableOk (a0 : List Slot) : Option (Bool) :=
 cond (((List.length a0 : Int)) != 8) (
 some false) (
 iterL (spec_TableOk_T4
   (fun y7 =>
 some true)
   (fun y8 y9 =>
 some y8) false a0) fuel 0)
def spec_l12Size (a0 : Int) : Option (Bool) :=
 bindO (
 cond (a0 == 1) (
 some true) (
 cond (a0 == 2) (
 some true) (
 cond (a0 == 4) (
 some true) (
 cond (a0 == 8) (
 some true) (
 some (a0 == 16)))))) fun q1 =>
 some q1
def spec_SpreadOk_T4 {R : Type} (k0 : Int → Option R) (k1 : Bool → Int → Option R) (v1 : Int) (v4 : Bool) (b2 : Spread) (nx : Int → Option R) (x : Int) : Option R :=
 cond (decide (x < ((List.length b2.2 : Int)))) (
 bindO (idx b2.2 x) fun x4 =>
 bindO (spec_l01In x4 0 (IntKind.wrap .i64 (v1 - 1))) fun r5 =>
 cond (!r5) (
 k1 false x) (
 nx (IntKind.wrap .i64 (x + 1)))) (
 k0 x)
def spec_SpreadOk (a0 : Spread) (a1 : Int) : Option (Bool) :=
 bindO (
 bindO (spec_l01In a1 1 4) fun r1 =>
 cond (!r1) (
 some true) (
 cond (((List.length a0.1 : Int)) != 16) (
 some true) (
 bindO (spec_l12Size ((List.length a0.2 : Int))) fun r2 =>
 some (!r2)))) fun q3 =>
 cond q3 (
 some false) (
 iterL (spec_SpreadOk_T4
   (fun y6 =>
 some true)
   (fun y7 y8 =>
 some y7) a1 false a0) fuel 0)
def spec_SteeringOk_T4 {R : Type} (k0 : Int → Option R) (k1 : Bool → Int → Option R) (v1 : Int) (v4 : Bool) (b2 : Steering) (nx : Int → Option R) (x : Int) : Option R :=
 cond (decide (x < ((List.length b2.1 : Int)))) (
 bindO (idx b2.1 x) fun x5 =>
 cond (decide (x5.2.2.2.2.2.2.2.2 ≥ v1)) (
 k1 false x) (
 nx (IntKind.wrap .i64 (x + 1)))) (
 k0 x)
def spec_SteeringOk_T9 {R : Type} (k0 : Int → Option R) (k1 : Bool → Int → Option R) (v1 : Int) (v4 : Bool) (b2 : Steering) (nx : Int → Option R) (x : Int) : Option R :=
 cond (decide (x < ((List.length b2.2.1 : Int)))) (
 bindO (idx b2.2.1 x) fun x7 =>
 cond (decide (x7.2.2 ≥ v1)) (
 k1 false x) (
 nx (IntKind.wrap .i64 (x + 1)))) (
 k0 x)
def spec_SteeringOk (a0 : Steering) (a1 : Int) : Option (Bool) :=
 bindO (
 bindO (spec_RulesOk a0.1) fun r1 =>
 cond (!r1) (
 some true) (
 bindO (spec_TableOk a0.2.1) fun r2 =>
 cond (!r2) (
 some true) (
 bindO (spec_SpreadOk a0.2.2 a1) fun r3 =>
 some (!r3)))) fun q4 =>
 cond q4 (
 some false) (
 iterL (spec_SteeringOk_T4
   (fun y6 =>
 iterL (spec_SteeringOk_T9
   (fun y8 =>
 some true)
   (fun y9 y10 =>
 some y9) a1 false a0) fuel 0)
   (fun y11 y12 =>
 some y11) a1 false a0) fuel 0)
def spec_SoftOk (a0 : Soft) : Option (Bool) :=
 bindO (
 bindO (spec_FilterOk a0.1) fun r1 =>
 cond r1 (
 bindO (spec_SteeringOk a0.2.1 a0.2.2.1) fun r2 =>
 some r2) (
 some false)) fun q3 =>
 some q3
def spec_l39Ints_T4 {R : Type} (k0 : Int → Option R) (k1 : Bool → Int → Option R) (v0 : List Int) (v1 : List Int) (v4 : Bool) (nx : Int → Option R) (x : Int) : Option R :=
 cond (decide (x < ((List.length v0 : Int)))) (
 bindO (idx v0 x) fun x1 =>
 bindO (idx v1 x) fun x2 =>
 cond (x1 != x2) (
 k1 false x) (
 nx (IntKind.wrap .i64 (x + 1)))) (
 k0 x)
def spec_l39Ints (a0 : List Int) (a1 : List Int) : Option (Bool) :=
 cond (((List.length a0 : Int)) != ((List.length a1 : Int))) (
 some false) (
 iterL (spec_l39Ints_T4
   (fun y3 =>
 some true)
   (fun y4 y5 =>
 some y4) a0 a1 false) fuel 0)
def spec_l42SameFilter (a0 : Filter) (a1 : Filter) : Option (Bool) :=
 bindO (
 cond (a0.1 == a1.1) (
 cond (a0.2.1 == a1.2.1) (
 bindO (spec_l39Ints a0.2.2 a1.2.2) fun r1 =>
 some r1) (
 some false)) (
 some false)) fun q2 =>
 some q2
def spec_IdealOk_T6 {R : Type} (k0 : Int → Option R) (k1 : Bool → Int → Option R) (v2 : Bool) (v5 : Int) (b1 : Ideal) (nx : Int → Option R) (x : Int) : Option R :=
 cond (decide (x < v5)) (
 bindO (
 bindO (idx b1.1 x) fun x4 =>
 bindO (spec_SoftOk x4) fun r5 =>
 cond (!r5) (
 some true) (
 bindO (idx b1.1 x) fun x6 =>
 bindO (idx b1.2.2.2.1 x) fun x7 =>
 bindO (spec_l42SameFilter x6.1 x7.1) fun r8 =>
 cond (!r8) (
 some true) (
 bindO (idx b1.2.2.1 x) fun x9 =>
 cond (x9.1 != x) (
 some true) (
 bindO (idx b1.2.2.1 x) fun x10 =>
 some (x10.2.1 != (IntKind.wrap .i64 (x + 1))))))) fun q11 =>
 cond q11 (
 k1 false x) (
 nx (IntKind.wrap .i64 (x + 1)))) (
 k0 x)
def spec_IdealOk (a0 : Ideal) : Option (Bool) :=
 bindO (spec_PortsOf a0.2.2.2.1) fun r1 =>
 bindO (
 cond (!r1.2) (
 some true) (
 cond (((List.length a0.1 : Int)) != ((List.length a0.2.2.2.1 : Int))) (
 some true) (
 cond (((List.length a0.2.1 : Int)) != ((List.length a0.2.2.2.1 : Int))) (
 some true) (
 cond (((List.length a0.2.2.1 : Int)) != ((List.length a0.2.2.2.1 : Int))) (
 some true) (
 bindO (spec_FunctionsOk a0.2.2.1 r1.1) fun r2 =>
 some (!r2)))))) fun q3 =>
 cond q3 (
 some false) (
 iterL (spec_IdealOk_T6
   (fun y12 =>
 some true)
   (fun y13 y14 =>
 some y13) false ((List.length a0.2.2.2.1 : Int)) a0) fuel 0)
def spec_SegmentOk (a0 : Segment) : Option (Bool) :=
 bindO (
 bindO (spec_l01In a0.2.1 0 65535) fun r1 =>
 cond (!r1) (
 some true) (
 bindO (spec_l01In a0.2.2.1 0 65535) fun r2 =>
 cond (!r2) (
 some true) (
 some (decide (((List.length a0.2.2.2.2.2.2.2 : Int)) > 320))))) fun q3 =>
 cond q3 (
 some false) (
 cond (a0.1 == 17) (
 bindO (
 cond (a0.2.2.2.1 == 0) (
 cond (a0.2.2.2.2.1 == 0) (
 cond (a0.2.2.2.2.2.1 == 0) (
 some (a0.2.2.2.2.2.2.1 == 0)) (
 some false)) (
 some false)) (
 some false)) fun q4 =>
 some q4) (
 bindO (
 cond (a0.1 == 6) (
 bindO (spec_l01In a0.2.2.2.1 0 4294967295) fun r5 =>
 cond r5 (
 bindO (spec_l01In a0.2.2.2.2.1 0 4294967295) fun r6 =>
 cond r6 (
 bindO (spec_l01In a0.2.2.2.2.2.1 0 31) fun r7 =>
 cond r7 (
 bindO (spec_l01In a0.2.2.2.2.2.2.1 0 65535) fun r8 =>
 some r8) (
 some false)) (
 some false)) (
 some false)) (
 some false)) fun q9 =>
 some q9))
def spec_SuperOk (a0 : Packet) : Option (Bool) :=
 bindO (
 bindO (spec_l01In a0.1 0 281474976710655) fun r1 =>
 cond (!r1) (
 some true) (
 bindO (spec_l01In a0.2.1 0 281474976710655) fun r2 =>
 cond (!r2) (
 some true) (
 bindO (spec_l01In a0.2.2.1 (-1) 4095) fun r3 =>
 cond (!r3) (
 some true) (
 bindO (spec_l01In a0.2.2.2.1 0 255) fun r4 =>
 cond (!r4) (
 some true) (
 bindO (spec_l01In a0.2.2.2.2.2.1 0 255) fun r5 =>
 cond (!r5) (
 some true) (
 bindO (spec_l01In a0.2.2.2.2.1 0 65535) fun r6 =>
 cond (!r6) (
 some true) (
 bindO (spec_l01In a0.2.2.2.2.2.2.1 0 4294967295) fun r7 =>
 cond (!r7) (
 some true) (
 bindO (spec_l01In a0.2.2.2.2.2.2.2.1 0 4294967295) fun r8 =>
 cond (!r8) (
 some true) (
 bindO (spec_SegmentOk a0.2.2.2.2.2.2.2.2) fun r9 =>
 some (!r9)))))))))) fun q10 =>
 cond q10 (
 some false) (
 bindO (
 cond (a0.2.2.2.2.2.2.2.2.1 == 6) (
 some ((IntKind.wrap .i64 (BitVec.toNat (BitVec.ofInt (IntKind.bits .i64) a0.2.2.2.2.2.2.2.2.2.2.2.2.2.1 &&& ~~~ BitVec.ofInt (IntKind.bits .i64) 9))) == 16)) (
 some false)) fun q11 =>
 bindO (
 cond q11 (
 some true) (
 some (decide (((List.length a0.2.2.2.2.2.2.2.2.2.2.2.2.2.2.2 : Int)) ≤ 128)))) fun q12 =>
 some q12)
def spec_PacketOk (a0 : Packet) : Option (Bool) :=
 bindO (
 bindO (spec_SuperOk a0) fun r1 =>
 cond r1 (
 some (decide (((List.length a0.2.2.2.2.2.2.2.2.2.2.2.2.2.2.2 : Int)) ≤ 128))) (
 some false)) fun q2 =>
 some q2
def spec_EntryVlan (a0 : List Port) (a1 : Int) (a2 : Packet) : Option (Int) :=
 bindO (
 bindO (spec_PortsOk a0) fun r1 =>
 cond (!r1) (
 some true) (
 bindO (spec_SuperOk a2) fun r2 =>
 cond (!r2) (
 some true) (
 bindO (spec_l01In a1 0 (IntKind.wrap .i64 (((List.length a0 : Int)) - 1))) fun r3 =>
 some (!r3)))) fun q4 =>
 cond q4 (
 some (-1)) (
 cond (decide (a2.2.2.1 < 0)) (
 bindO (idx a0 a1) fun x5 =>
 bindO (
 bindO (idx a0 a1) fun x6 =>
 bindO (spec_l24Has x6.2.1 x5.2.2.1) fun r7 =>
 cond (!r7) (
 some true) (
 cond (a1 != 0) (
 bindO (idx a0 a1) fun x8 =>
 cond x8.2.2.2 (
 bindO (idx a0 a1) fun x9 =>
 some (x9.1 != a2.2.1)) (
 some false)) (
 some false))) fun q10 =>
 cond q10 (
 some (-1)) (
 some x5.2.2.1)) (
 bindO (
 bindO (idx a0 a1) fun x11 =>
 bindO (spec_l24Has x11.2.1 a2.2.2.1) fun r12 =>
 cond (!r12) (
 some true) (
 cond (a1 != 0) (
 bindO (idx a0 a1) fun x13 =>
 cond x13.2.2.2 (
 bindO (idx a0 a1) fun x14 =>
 some (x14.1 != a2.2.1)) (
 some false)) (
 some false))) fun q15 =>
 cond q15 (
 some (-1)) (
 some a2.2.2.1)))
def spec_SwitchPacket_T7 {R : Type} (k0 : Int → Int → Option R) (v0 : List Port) (v1 : Int) (v7 : List Int) (v8 : Int) (b5 : Packet) (nx : (Int × Int) → Option R) (x : Int × Int) : Option R :=
 cond (decide (x.2 < ((List.length v0 : Int)))) (
 bindO (idx v0 x.2) fun x2 =>
 cond (x2.1 == b5.1) (
 nx (x.2, IntKind.wrap .i64 (x.2 + 1))) (
 nx (x.1, IntKind.wrap .i64 (x.2 + 1)))) (
 k0 x.1 x.2)
def spec_SwitchPacket_T12 {R : Type} (k0 : (List Int) → Int → Option R) (v0 : List Port) (v1 : Int) (v8 : Int) (v9 : Int) (b5 : Packet) (nx : ((List Int) × Int) → Option R) (x : (List Int) × Int) : Option R :=
 cond (decide (x.2 < ((List.length v0 : Int)))) (
 bindO (
 cond (x.2 != v1) (
 bindO (idx v0 x.2) fun x5 =>
 bindO (spec_l24Has x5.2.1 v8) fun r6 =>
 cond r6 (
 cond (x.2 == v9) (
 some true) (
 some (b5.1 == 281474976710655))) (
 some false)) (
 some false)) fun q7 =>
 cond q7 (
 room (List.length x.1 + List.length ([x.2])) (
 nx (x.1 ++ ([x.2]), IntKind.wrap .i64 (x.2 + 1)))) (
 nx (x.1, IntKind.wrap .i64 (x.2 + 1)))) (
 k0 x.1 x.2)
def spec_SwitchPacket (a0 : List Port) (a1 : Int) (a2 : Packet) : Option (List Int) :=
 bindO (spec_EntryVlan a0 a1 a2) fun r1 =>
 cond (decide (r1 < 0)) (
 some ([] : List Int)) (
 iterL (spec_SwitchPacket_T7
   (fun y3 y4 =>
 iterL (spec_SwitchPacket_T12
   (fun y8 y9 =>
 some y8) a0 a1 r1 y3 a2) fuel (([] : List Int), 0)) a0 a1 ([] : List Int) r1 a2) fuel (0, 1))
def spec_Word16 (a0 : Int) : Option (Bytes) :=
 bindO (spec_l01In a0 0 65535) fun r1 =>
 cond (!r1) (
 some ([] : Bytes)) (
 if 8 < 0 then none else (
 some (bytesOf ([(IntKind.wrap .u8 (Int.fdiv a0 (2 ^ (min (Int.toNat 8) (IntKind.bits .i64))))), (IntKind.wrap .u8 a0)]))))
def spec_Word32 (a0 : Int) : Option (Bytes) :=
 bindO (spec_l01In a0 0 4294967295) fun r1 =>
 cond (!r1) (
 some ([] : Bytes)) (
 if 24 < 0 then none else (
 if 16 < 0 then none else (
 if 8 < 0 then none else (
 some (bytesOf ([(IntKind.wrap .u8 (Int.fdiv a0 (2 ^ (min (Int.toNat 24) (IntKind.bits .i64))))), (IntKind.wrap .u8 (Int.fdiv a0 (2 ^ (min (Int.toNat 16) (IntKind.bits .i64))))), (IntKind.wrap .u8 (Int.fdiv a0 (2 ^ (min (Int.toNat 8) (IntKind.bits .i64))))), (IntKind.wrap .u8 a0)]))))))
def spec_PseudoHeader (a0 : Int) (a1 : Int) (a2 : Int) (a3 : Int) : Option (Bytes × Bool) :=
 bindO (
 bindO (spec_l01In a0 0 4294967295) fun r1 =>
 cond (!r1) (
 some true) (
 bindO (spec_l01In a1 0 4294967295) fun r2 =>
 cond (!r2) (
 some true) (
 bindO (spec_l01In a2 0 255) fun r3 =>
 cond (!r3) (
 some true) (
 bindO (spec_l01In a3 0 65535) fun r4 =>
 some (!r4))))) fun q5 =>
 cond q5 (
 some (([] : Bytes), false)) (
 bindO (spec_Word32 a0) fun r6 =>
 bindO (spec_Word32 a1) fun r7 =>
 room (List.length r6 + List.length r7) (
 room (List.length (r6 ++ r7) + List.length (bytesOf ([0, (IntKind.wrap .u8 a2)]))) (
 bindO (spec_Word16 a3) fun r8 =>
 room (List.length ((r6 ++ r7) ++ (bytesOf ([0, (IntKind.wrap .u8 a2)]))) + List.length r8) (
 some (((r6 ++ r7) ++ (bytesOf ([0, (IntKind.wrap .u8 a2)]))) ++ r8, true)))))
def spec_AddSums (a0 : Int) (a1 : Int) : Option (Int) :=
 bindO (
 bindO (spec_l01In a0 0 65535) fun r1 =>
 cond (!r1) (
 some true) (
 bindO (spec_l01In a1 0 65535) fun r2 =>
 some (!r2))) fun q3 =>
 cond q3 (
 some (-1)) (
 cond (decide ((IntKind.wrap .i64 (a0 + a1)) > 65535)) (
 some (IntKind.wrap .i64 ((IntKind.wrap .i64 (a0 + a1)) - 65535))) (
 some (IntKind.wrap .i64 (a0 + a1))))
def spec_SumWords_T3 {R : Type} (k0 : Int → Int → Option R) (v0 : Bytes) (nx : (Int × Int) → Option R) (x : Int × Int) : Option R :=
 cond (decide (x.2 < ((List.length v0 : Int)))) (
 bindO (idx v0 x.2) fun x1 =>
 if 8 < 0 then none else (
 cond (decide ((IntKind.wrap .i64 (x.2 + 1)) < ((List.length v0 : Int)))) (
 bindO (idx v0 (IntKind.wrap .i64 (x.2 + 1))) fun x2 =>
 bindO (spec_AddSums x.1 (IntKind.wrap .i64 ((IntKind.wrap .i64 ((IntKind.wrap .i64 ((UInt8.toNat x1 : Int))) * 2 ^ (min (Int.toNat 8) (IntKind.bits .i64)))) + (IntKind.wrap .i64 ((UInt8.toNat x2 : Int)))))) fun r3 =>
 nx (r3, IntKind.wrap .i64 (x.2 + 2))) (
 bindO (spec_AddSums x.1 (IntKind.wrap .i64 ((IntKind.wrap .i64 ((UInt8.toNat x1 : Int))) * 2 ^ (min (Int.toNat 8) (IntKind.bits .i64))))) fun r4 =>
 nx (r4, IntKind.wrap .i64 (x.2 + 2))))) (
 k0 x.1 x.2)
def spec_SumWords (a0 : Bytes) : Option (Int) :=
 iterL (spec_SumWords_T3
   (fun y5 y6 =>
 some y5) a0) fuel (0, 0)
def spec_Checksum (a0 : Bytes) : Option (Int) :=
 bindO (spec_SumWords a0) fun r1 =>
 some (IntKind.wrap .i64 (65535 - r1))
def spec_l02Within (a0 : Bytes) (a1 : Int) (a2 : Int) : Option (Bool) :=
 bindO (
 cond (decide (a1 ≥ 0)) (
 cond (decide (a1 ≤ ((List.length a0 : Int)))) (
 some (decide (a2 ≤ (IntKind.wrap .i64 (((List.length a0 : Int)) - a1))))) (
 some false)) (
 some false)) fun q1 =>
 some q1
def spec_PutBytes (a0 : Bytes) (a1 : Int) (a2 : Bytes) : Option (Bytes) :=
 bindO (spec_l02Within a0 a1 ((List.length a2 : Int))) fun r1 =>
 cond (!r1) (
 some a0) (
 bindO (sub a0 0 a1) fun x2 =>
 room (List.length x2 + List.length a2) (
 bindO (sub a0 (IntKind.wrap .i64 (a1 + ((List.length a2 : Int)))) ((List.length a0 : Int))) fun x3 =>
 room (List.length (x2 ++ a2) + List.length x3) (
 some ((x2 ++ a2) ++ x3))))
def spec_BuildSegment (a0 : Int) (a1 : Int) (a2 : Segment) : Option (Bytes × Bool) :=
 bindO (spec_SegmentOk a2) fun r1 =>
 cond (!r1) (
 some (([] : Bytes), false)) (
 bindO (spec_Word16 a2.2.1) fun r2 =>
 bindO (spec_Word16 a2.2.2.1) fun r3 =>
 room (List.length r2 + List.length r3) (
 cond (a2.1 == 6) (
 bindO (spec_Word32 a2.2.2.2.1) fun r4 =>
 room (List.length (r2 ++ r3) + List.length r4) (
 bindO (spec_Word32 a2.2.2.2.2.1) fun r5 =>
 room (List.length ((r2 ++ r3) ++ r4) + List.length r5) (
 room (List.length (((r2 ++ r3) ++ r4) ++ r5) + List.length (bytesOf ([80, (IntKind.wrap .u8 a2.2.2.2.2.2.1)]))) (
 bindO (spec_Word16 a2.2.2.2.2.2.2.1) fun r6 =>
 room (List.length ((((r2 ++ r3) ++ r4) ++ r5) ++ (bytesOf ([80, (IntKind.wrap .u8 a2.2.2.2.2.2.1)]))) + List.length r6) (
 bindO (spec_Word32 0) fun r7 =>
 room (List.length (((((r2 ++ r3) ++ r4) ++ r5) ++ (bytesOf ([80, (IntKind.wrap .u8 a2.2.2.2.2.2.1)]))) ++ r6) + List.length r7) (
 room (List.length ((((((r2 ++ r3) ++ r4) ++ r5) ++ (bytesOf ([80, (IntKind.wrap .u8 a2.2.2.2.2.2.1)]))) ++ r6) ++ r7) + List.length a2.2.2.2.2.2.2.2) (
 bindO (spec_PseudoHeader a0 a1 a2.1 ((List.length (((((((r2 ++ r3) ++ r4) ++ r5) ++ (bytesOf ([80, (IntKind.wrap .u8 a2.2.2.2.2.2.1)]))) ++ r6) ++ r7) ++ a2.2.2.2.2.2.2.2) : Int))) fun r8 =>
 cond (!r8.2) (
 some (([] : Bytes), false)) (
 room (List.length r8.1 + List.length (((((((r2 ++ r3) ++ r4) ++ r5) ++ (bytesOf ([80, (IntKind.wrap .u8 a2.2.2.2.2.2.1)]))) ++ r6) ++ r7) ++ a2.2.2.2.2.2.2.2)) (
 bindO (spec_Checksum (r8.1 ++ (((((((r2 ++ r3) ++ r4) ++ r5) ++ (bytesOf ([80, (IntKind.wrap .u8 a2.2.2.2.2.2.1)]))) ++ r6) ++ r7) ++ a2.2.2.2.2.2.2.2))) fun r9 =>
 bindO (
 cond (r9 == 0) (
 some (a2.1 == 17)) (
 some false)) fun q10 =>
 cond q10 (
 bindO (spec_Word16 65535) fun r11 =>
 bindO (spec_PutBytes (((((((r2 ++ r3) ++ r4) ++ r5) ++ (bytesOf ([80, (IntKind.wrap .u8 a2.2.2.2.2.2.1)]))) ++ r6) ++ r7) ++ a2.2.2.2.2.2.2.2) 16 r11) fun r12 =>
 some (r12, true)) (
 bindO (spec_Word16 r9) fun r13 =>
 bindO (spec_PutBytes (((((((r2 ++ r3) ++ r4) ++ r5) ++ (bytesOf ([80, (IntKind.wrap .u8 a2.2.2.2.2.2.1)]))) ++ r6) ++ r7) ++ a2.2.2.2.2.2.2.2) 16 r13) fun r14 =>
 some (r14, true))))))))))) (
 bindO (spec_Word16 (IntKind.wrap .i64 (8 + ((List.length a2.2.2.2.2.2.2.2 : Int))))) fun r15 =>
 room (List.length (r2 ++ r3) + List.length r15) (
 bindO (spec_Word16 0) fun r16 =>
 room (List.length ((r2 ++ r3) ++ r15) + List.length r16) (
 room (List.length (((r2 ++ r3) ++ r15) ++ r16) + List.length a2.2.2.2.2.2.2.2) (
 bindO (spec_PseudoHeader a0 a1 a2.1 ((List.length ((((r2 ++ r3) ++ r15) ++ r16) ++ a2.2.2.2.2.2.2.2) : Int))) fun r17 =>
 cond (!r17.2) (
 some (([] : Bytes), false)) (
 room (List.length r17.1 + List.length ((((r2 ++ r3) ++ r15) ++ r16) ++ a2.2.2.2.2.2.2.2)) (
 bindO (spec_Checksum (r17.1 ++ ((((r2 ++ r3) ++ r15) ++ r16) ++ a2.2.2.2.2.2.2.2))) fun r18 =>
 bindO (
 cond (r18 == 0) (
 some (a2.1 == 17)) (
 some false)) fun q19 =>
 cond q19 (
 bindO (spec_Word16 65535) fun r20 =>
 bindO (spec_PutBytes ((((r2 ++ r3) ++ r15) ++ r16) ++ a2.2.2.2.2.2.2.2) 6 r20) fun r21 =>
 some (r21, true)) (
 bindO (spec_Word16 r18) fun r22 =>
 bindO (spec_PutBytes ((((r2 ++ r3) ++ r15) ++ r16) ++ a2.2.2.2.2.2.2.2) 6 r22) fun r23 =>
 some (r23, true))))))))))
def spec_IpOk (a0 : Ip) : Option (Bool) :=
 bindO (
 bindO (spec_l01In a0.1 0 255) fun r1 =>
 cond r1 (
 bindO (spec_l01In a0.2.2.1 0 255) fun r2 =>
 cond r2 (
 bindO (spec_l01In a0.2.2.2.1 0 255) fun r3 =>
 cond r3 (
 bindO (spec_l01In a0.2.1 0 65535) fun r4 =>
 cond r4 (
 bindO (spec_l01In a0.2.2.2.2.1 0 4294967295) fun r5 =>
 cond r5 (
 bindO (spec_l01In a0.2.2.2.2.2.1 0 4294967295) fun r6 =>
 cond r6 (
 some (decide (((List.length a0.2.2.2.2.2.2 : Int)) ≤ 380))) (
 some false)) (
 some false)) (
 some false)) (
 some false)) (
 some false)) (
 some false)) fun q7 =>
 some q7
def spec_IpHeader (a0 : Ip) : Option (Bytes × Bool) :=
 bindO (spec_IpOk a0) fun r1 =>
 cond (!r1) (
 some (([] : Bytes), false)) (
 bindO (spec_Word16 (IntKind.wrap .i64 (20 + ((List.length a0.2.2.2.2.2.2 : Int))))) fun r2 =>
 room (List.length (bytesOf ([69, (IntKind.wrap .u8 a0.1)])) + List.length r2) (
 bindO (spec_Word16 a0.2.1) fun r3 =>
 room (List.length ((bytesOf ([69, (IntKind.wrap .u8 a0.1)])) ++ r2) + List.length r3) (
 bindO (spec_Word16 16384) fun r4 =>
 room (List.length (((bytesOf ([69, (IntKind.wrap .u8 a0.1)])) ++ r2) ++ r3) + List.length r4) (
 room (List.length ((((bytesOf ([69, (IntKind.wrap .u8 a0.1)])) ++ r2) ++ r3) ++ r4) + List.length (bytesOf ([(IntKind.wrap .u8 a0.2.2.1), (IntKind.wrap .u8 a0.2.2.2.1)]))) (
 bindO (spec_Word16 0) fun r5 =>
 room (List.length (((((bytesOf ([69, (IntKind.wrap .u8 a0.1)])) ++ r2) ++ r3) ++ r4) ++ (bytesOf ([(IntKind.wrap .u8 a0.2.2.1), (IntKind.wrap .u8 a0.2.2.2.1)]))) + List.length r5) (
 bindO (spec_Word32 a0.2.2.2.2.1) fun r6 =>
 room (List.length ((((((bytesOf ([69, (IntKind.wrap .u8 a0.1)])) ++ r2) ++ r3) ++ r4) ++ (bytesOf ([(IntKind.wrap .u8 a0.2.2.1), (IntKind.wrap .u8 a0.2.2.2.1)]))) ++ r5) + List.length r6) (
 bindO (spec_Word32 a0.2.2.2.2.2.1) fun r7 =>
 room (List.length (((((((bytesOf ([69, (IntKind.wrap .u8 a0.1)])) ++ r2) ++ r3) ++ r4) ++ (bytesOf ([(IntKind.wrap .u8 a0.2.2.1), (IntKind.wrap .u8 a0.2.2.2.1)]))) ++ r5) ++ r6) + List.length r7) (
 bindO (spec_Checksum ((((((((bytesOf ([69, (IntKind.wrap .u8 a0.1)])) ++ r2) ++ r3) ++ r4) ++ (bytesOf ([(IntKind.wrap .u8 a0.2.2.1), (IntKind.wrap .u8 a0.2.2.2.1)]))) ++ r5) ++ r6) ++ r7)) fun r8 =>
 bindO (spec_Word16 r8) fun r9 =>
 bindO (spec_PutBytes ((((((((bytesOf ([69, (IntKind.wrap .u8 a0.1)])) ++ r2) ++ r3) ++ r4) ++ (bytesOf ([(IntKind.wrap .u8 a0.2.2.1), (IntKind.wrap .u8 a0.2.2.2.1)]))) ++ r5) ++ r6) ++ r7) 10 r9) fun r10 =>
 some (r10, true)))))))))
def spec_BuildIp (a0 : Ip) : Option (Bytes × Bool) :=
 bindO (spec_IpHeader a0) fun r1 =>
 cond (!r1.2) (
 some (([] : Bytes), false)) (
 room (List.length r1.1 + List.length a0.2.2.2.2.2.2) (
 some (r1.1 ++ a0.2.2.2.2.2.2, true)))
def spec_EthOk (a0 : Eth) : Option (Bool) :=
 bindO (
 bindO (spec_l01In a0.1 0 281474976710655) fun r1 =>
 cond r1 (
 bindO (spec_l01In a0.2.1 0 281474976710655) fun r2 =>
 cond r2 (
 bindO (spec_l01In a0.2.2.1 (-1) 4095) fun r3 =>
 cond r3 (
 bindO (spec_l01In a0.2.2.2.1 1536 65535) fun r4 =>
 cond r4 (
 cond (a0.2.2.2.1 != 33024) (
 bindO (spec_l01In ((List.length a0.2.2.2.2 : Int)) 46 400) fun r5 =>
 some r5) (
 some false)) (
 some false)) (
 some false)) (
 some false)) (
 some false)) fun q6 =>
 some q6
def spec_l04Address (a0 : Int) : Option (Bytes) :=
 if 32 < 0 then none else (
 bindO (spec_Word16 (Int.fdiv a0 (2 ^ (min (Int.toNat 32) (IntKind.bits .i64))))) fun r1 =>
 bindO (spec_Word32 (IntKind.wrap .i64 (BitVec.toNat (BitVec.ofInt (IntKind.bits .i64) a0 &&& BitVec.ofInt (IntKind.bits .i64) 4294967295)))) fun r2 =>
 room (List.length r1 + List.length r2) (
 some (r1 ++ r2)))
def spec_BuildEth (a0 : Eth) : Option (Bytes × Bool) :=
 bindO (spec_EthOk a0) fun r1 =>
 cond (!r1) (
 some (([] : Bytes), false)) (
 bindO (spec_l04Address a0.1) fun r2 =>
 bindO (spec_l04Address a0.2.1) fun r3 =>
 room (List.length r2 + List.length r3) (
 cond (decide (a0.2.2.1 ≥ 0)) (
 bindO (spec_Word16 33024) fun r4 =>
 room (List.length (r2 ++ r3) + List.length r4) (
 bindO (spec_Word16 a0.2.2.1) fun r5 =>
 room (List.length ((r2 ++ r3) ++ r4) + List.length r5) (
 bindO (spec_Word16 a0.2.2.2.1) fun r6 =>
 room (List.length (((r2 ++ r3) ++ r4) ++ r5) + List.length r6) (
 room (List.length ((((r2 ++ r3) ++ r4) ++ r5) ++ r6) + List.length a0.2.2.2.2) (
 some (((((r2 ++ r3) ++ r4) ++ r5) ++ r6) ++ a0.2.2.2.2, true)))))) (
 bindO (spec_Word16 a0.2.2.2.1) fun r7 =>
 room (List.length (r2 ++ r3) + List.length r7) (
 room (List.length ((r2 ++ r3) ++ r7) + List.length a0.2.2.2.2) (
 some (((r2 ++ r3) ++ r7) ++ a0.2.2.2.2, true))))))
def spec_l01Long_T3 {R : Type} (k0 : (List Int) → Int → Option R) (v0 : Int) (v1 : Int) (nx : ((List Int) × Int) → Option R) (x : (List Int) × Int) : Option R :=
 cond (decide (x.2 < v0)) (
 bindO (idx x.1 x.2) fun x1 =>
 bindO (idx x.1 x.2) fun x2 =>
 nx (List.set x.1 (Int.toNat x.2) v1, IntKind.wrap .i64 (x.2 + 1))) (
 k0 x.1 x.2)
def spec_l01Long (a0 : Int) (a1 : Int) : Option (Bytes) :=
 if (0 : Int) ≤ a0 ∧ a0 ≤ a0 then (
 room (Int.toNat a0) (
 iterL (spec_l01Long_T3
   (fun y3 y4 =>
 some (bytesOf y3)) a0 a1) fuel (List.replicate (Int.toNat a0) (0 : Int), 0))) else none
def spec_PadBody (a0 : Bytes) : Option (Bytes) :=
 cond (decide (((List.length a0 : Int)) < 46)) (
 bindO (spec_l01Long (IntKind.wrap .i64 (46 - ((List.length a0 : Int)))) 0) fun r1 =>
 room (List.length a0 + List.length r1) (
 some (a0 ++ r1))) (
 some a0)
def spec_BuildImage (a0 : Packet) : Option (Bytes × Bool) :=
 bindO (spec_SuperOk a0) fun r1 =>
 cond (!r1) (
 some (([] : Bytes), false)) (
 bindO (spec_BuildSegment a0.2.2.2.2.2.2.1 a0.2.2.2.2.2.2.2.1 a0.2.2.2.2.2.2.2.2) fun r2 =>
 bindO (spec_BuildIp (a0.2.2.2.1, a0.2.2.2.2.1, a0.2.2.2.2.2.1, a0.2.2.2.2.2.2.2.2.1, a0.2.2.2.2.2.2.1, a0.2.2.2.2.2.2.2.1, r2.1)) fun r3 =>
 bindO (spec_PadBody r3.1) fun r4 =>
 bindO (spec_BuildEth (a0.1, a0.2.1, a0.2.2.1, 2048, r4)) fun r5 =>
 some r5)
def spec_Crc32_T7 {R : Type} (k0 : Int → Int → Option R) (v0 : Bytes) (v4 : Int) (nx : (Int × Int) → Option R) (x : Int × Int) : Option R :=
 cond (decide (x.2 < 8)) (
 cond ((IntKind.wrap .i64 (BitVec.toNat (BitVec.ofInt (IntKind.bits .i64) x.1 &&& BitVec.ofInt (IntKind.bits .i64) 1))) == 1) (
 if 1 < 0 then none else (
 nx (IntKind.wrap .i64 (BitVec.toNat (BitVec.ofInt (IntKind.bits .i64) (Int.fdiv x.1 (2 ^ (min (Int.toNat 1) (IntKind.bits .i64)))) ^^^ BitVec.ofInt (IntKind.bits .i64) 3988292384)), IntKind.wrap .i64 (x.2 + 1)))) (
 if 1 < 0 then none else (
 nx (Int.fdiv x.1 (2 ^ (min (Int.toNat 1) (IntKind.bits .i64))), IntKind.wrap .i64 (x.2 + 1))))) (
 k0 x.1 x.2)
def spec_Crc32_T3 {R : Type} (k0 : Int → Int → Option R) (v0 : Bytes) (nx : (Int × Int) → Option R) (x : Int × Int) : Option R :=
 cond (decide (x.2 < ((List.length v0 : Int)))) (
 bindO (idx v0 x.2) fun x1 =>
 iterL (spec_Crc32_T7
   (fun y2 y3 =>
 nx (y2, IntKind.wrap .i64 (x.2 + 1))) v0 x.2) fuel (IntKind.wrap .i64 (BitVec.toNat (BitVec.ofInt (IntKind.bits .i64) x.1 ^^^ BitVec.ofInt (IntKind.bits .i64) (IntKind.wrap .i64 ((UInt8.toNat x1 : Int))))), 0)) (
 k0 x.1 x.2)
def spec_Crc32 (a0 : Bytes) : Option (Int) :=
 iterL (spec_Crc32_T3
   (fun y4 y5 =>
 some (IntKind.wrap .i64 (4294967295 - y4))) a0) fuel (4294967295, 0)
def spec_WithFcs (a0 : Bytes) : Option (Bytes) :=
 bindO (spec_Crc32 a0) fun r1 =>
 if 8 < 0 then none else (
 if 16 < 0 then none else (
 if 24 < 0 then none else (
 room (List.length a0 + List.length (bytesOf ([(IntKind.wrap .u8 r1), (IntKind.wrap .u8 (Int.fdiv r1 (2 ^ (min (Int.toNat 8) (IntKind.bits .i64))))), (IntKind.wrap .u8 (Int.fdiv r1 (2 ^ (min (Int.toNat 16) (IntKind.bits .i64))))), (IntKind.wrap .u8 (Int.fdiv r1 (2 ^ (min (Int.toNat 24) (IntKind.bits .i64)))))]))) (
 some (a0 ++ (bytesOf ([(IntKind.wrap .u8 r1), (IntKind.wrap .u8 (Int.fdiv r1 (2 ^ (min (Int.toNat 8) (IntKind.bits .i64))))), (IntKind.wrap .u8 (Int.fdiv r1 (2 ^ (min (Int.toNat 16) (IntKind.bits .i64))))), (IntKind.wrap .u8 (Int.fdiv r1 (2 ^ (min (Int.toNat 24) (IntKind.bits .i64)))))])))))))
def spec_BuildFrame (a0 : Packet) : Option (Bytes × Bool) :=
 bindO (spec_PacketOk a0) fun r1 =>
 cond (!r1) (
 some (([] : Bytes), false)) (
 bindO (spec_BuildImage a0) fun r2 =>
 bindO (spec_WithFcs r2.1) fun r3 =>
 some (r3, true))
def spec_LeavePacket (a0 : List Port) (a1 : Int) (a2 : Int) (a3 : Packet) : Option (Packet) :=
 bindO (
 bindO (spec_PortsOk a0) fun r1 =>
 cond (!r1) (
 some true) (
 bindO (spec_l01In a1 0 (IntKind.wrap .i64 (((List.length a0 : Int)) - 1))) fun r2 =>
 cond (!r2) (
 some true) (
 bindO (idx a0 a1) fun x3 =>
 bindO (spec_l24Has x3.2.1 a2) fun r4 =>
 cond (!r4) (
 some true) (
 bindO (spec_SuperOk a3) fun r5 =>
 some (!r5))))) fun q6 =>
 cond q6 (
 some (0, 0, 0, 0, 0, 0, 0, 0, 0, 0, 0, 0, 0, 0, 0, ([] : Bytes))) (
 bindO (idx a0 a1) fun x7 =>
 cond (a2 == x7.2.2.1) (
 some (a3.1, a3.2.1, (-1), a3.2.2.2)) (
 some (a3.1, a3.2.1, a2, a3.2.2.2)))
def spec_CheckFcs (a0 : Bytes) : Option (Bytes × Bool) :=
 bindO (
 cond (decide (((List.length a0 : Int)) < 4)) (
 some true) (
 bindO (sub a0 0 (IntKind.wrap .i64 (((List.length a0 : Int)) - 4))) fun x1 =>
 bindO (spec_WithFcs x1) fun r2 =>
 some (!(r2 == a0)))) fun q3 =>
 cond q3 (
 some (([] : Bytes), false)) (
 bindO (sub a0 0 (IntKind.wrap .i64 (((List.length a0 : Int)) - 4))) fun x4 =>
 some (x4, true))
def spec_Get16 (a0 : Bytes) (a1 : Int) : Option (Int) :=
 bindO (spec_l02Within a0 a1 2) fun r1 =>
 cond (!r1) (
 some (-1)) (
 bindO (idx a0 a1) fun x2 =>
 if 8 < 0 then none else (
 bindO (idx a0 (IntKind.wrap .i64 (a1 + 1))) fun x3 =>
 some (IntKind.wrap .i64 ((IntKind.wrap .i64 ((IntKind.wrap .i64 ((UInt8.toNat x2 : Int))) * 2 ^ (min (Int.toNat 8) (IntKind.bits .i64)))) + (IntKind.wrap .i64 ((UInt8.toNat x3 : Int)))))))
def spec_Get32 (a0 : Bytes) (a1 : Int) : Option (Int) :=
 bindO (spec_l02Within a0 a1 4) fun r1 =>
 cond (!r1) (
 some (-1)) (
 bindO (spec_Get16 a0 a1) fun r2 =>
 if 16 < 0 then none else (
 bindO (spec_Get16 a0 (IntKind.wrap .i64 (a1 + 2))) fun r3 =>
 some (IntKind.wrap .i64 ((IntKind.wrap .i64 (r2 * 2 ^ (min (Int.toNat 16) (IntKind.bits .i64)))) + r3))))
def spec_ParseEth (a0 : Bytes) : Option (Eth × Bool) :=
 cond (decide (((List.length a0 : Int)) < 18)) (
 some ((0, 0, 0, 0, ([] : Bytes)), false)) (
 bindO (spec_Get16 a0 0) fun r1 =>
 if 32 < 0 then none else (
 bindO (spec_Get32 a0 2) fun r2 =>
 bindO (spec_Get16 a0 6) fun r3 =>
 if 32 < 0 then none else (
 bindO (spec_Get32 a0 8) fun r4 =>
 bindO (spec_Get16 a0 12) fun r5 =>
 bindO (sub a0 14 ((List.length a0 : Int))) fun x6 =>
 cond (r5 == 33024) (
 bindO (spec_Get16 a0 14) fun r7 =>
 bindO (spec_Get16 a0 16) fun r8 =>
 bindO (sub a0 18 ((List.length a0 : Int))) fun x9 =>
 bindO (spec_EthOk (IntKind.wrap .i64 ((IntKind.wrap .i64 (r1 * 2 ^ (min (Int.toNat 32) (IntKind.bits .i64)))) + r2), IntKind.wrap .i64 ((IntKind.wrap .i64 (r3 * 2 ^ (min (Int.toNat 32) (IntKind.bits .i64)))) + r4), r7, r8, x9)) fun r10 =>
 cond (!r10) (
 some ((0, 0, 0, 0, ([] : Bytes)), false)) (
 some ((IntKind.wrap .i64 ((IntKind.wrap .i64 (r1 * 2 ^ (min (Int.toNat 32) (IntKind.bits .i64)))) + r2), IntKind.wrap .i64 ((IntKind.wrap .i64 (r3 * 2 ^ (min (Int.toNat 32) (IntKind.bits .i64)))) + r4), r7, r8, x9), true))) (
 bindO (spec_EthOk (IntKind.wrap .i64 ((IntKind.wrap .i64 (r1 * 2 ^ (min (Int.toNat 32) (IntKind.bits .i64)))) + r2), IntKind.wrap .i64 ((IntKind.wrap .i64 (r3 * 2 ^ (min (Int.toNat 32) (IntKind.bits .i64)))) + r4), (-1), r5, x6)) fun r11 =>
 cond (!r11) (
 some ((0, 0, 0, 0, ([] : Bytes)), false)) (
 some ((IntKind.wrap .i64 ((IntKind.wrap .i64 (r1 * 2 ^ (min (Int.toNat 32) (IntKind.bits .i64)))) + r2), IntKind.wrap .i64 ((IntKind.wrap .i64 (r3 * 2 ^ (min (Int.toNat 32) (IntKind.bits .i64)))) + r4), (-1), r5, x6), true))))))
def spec_ParseIp (a0 : Bytes) : Option (Ip × Bool) :=
 bindO (spec_Get16 a0 2) fun r1 =>
 bindO (
 cond (decide (((List.length a0 : Int)) < 20)) (
 some true) (
 cond (decide (r1 < 20)) (
 some true) (
 some (decide (r1 > ((List.length a0 : Int))))))) fun q2 =>
 cond q2 (
 some ((0, 0, 0, 0, 0, 0, ([] : Bytes)), false)) (
 bindO (idx a0 1) fun x3 =>
 bindO (spec_Get16 a0 4) fun r4 =>
 bindO (idx a0 8) fun x5 =>
 bindO (idx a0 9) fun x6 =>
 bindO (spec_Get32 a0 12) fun r7 =>
 bindO (spec_Get32 a0 16) fun r8 =>
 bindO (sub a0 20 r1) fun x9 =>
 bindO (spec_BuildIp (IntKind.wrap .i64 ((UInt8.toNat x3 : Int)), r4, IntKind.wrap .i64 ((UInt8.toNat x5 : Int)), IntKind.wrap .i64 ((UInt8.toNat x6 : Int)), r7, r8, x9)) fun r10 =>
 bindO (
 cond (!r10.2) (
 some true) (
 bindO (sub a0 0 r1) fun x11 =>
 some (!(r10.1 == x11)))) fun q12 =>
 cond q12 (
 some ((0, 0, 0, 0, 0, 0, ([] : Bytes)), false)) (
 some ((IntKind.wrap .i64 ((UInt8.toNat x3 : Int)), r4, IntKind.wrap .i64 ((UInt8.toNat x5 : Int)), IntKind.wrap .i64 ((UInt8.toNat x6 : Int)), r7, r8, x9), true)))
def spec_ParseSegment (a0 : Int) (a1 : Int) (a2 : Int) (a3 : Bytes) : Option (Segment × Bool) :=
 bindO (spec_Get16 a3 0) fun r1 =>
 bindO (spec_Get16 a3 2) fun r2 =>
 bindO (
 cond (a2 == 6) (
 some (decide (((List.length a3 : Int)) ≥ 20))) (
 some false)) fun q3 =>
 cond q3 (
 bindO (spec_Get32 a3 4) fun r4 =>
 bindO (spec_Get32 a3 8) fun r5 =>
 bindO (idx a3 13) fun x6 =>
 bindO (spec_Get16 a3 14) fun r7 =>
 bindO (sub a3 20 ((List.length a3 : Int))) fun x8 =>
 bindO (spec_BuildSegment a0 a1 (a2, r1, r2, r4, r5, IntKind.wrap .i64 ((UInt8.toNat x6 : Int)), r7, x8)) fun r9 =>
 bindO (
 cond (!r9.2) (
 some true) (
 some (!(r9.1 == a3)))) fun q10 =>
 cond q10 (
 some ((0, 0, 0, 0, 0, 0, 0, ([] : Bytes)), false)) (
 some ((a2, r1, r2, r4, r5, IntKind.wrap .i64 ((UInt8.toNat x6 : Int)), r7, x8), true))) (
 bindO (
 cond (a2 == 17) (
 some (decide (((List.length a3 : Int)) ≥ 8))) (
 some false)) fun q11 =>
 cond q11 (
 bindO (sub a3 8 ((List.length a3 : Int))) fun x12 =>
 bindO (spec_BuildSegment a0 a1 (a2, r1, r2, 0, 0, 0, 0, x12)) fun r13 =>
 bindO (
 cond (!r13.2) (
 some true) (
 some (!(r13.1 == a3)))) fun q14 =>
 cond q14 (
 some ((0, 0, 0, 0, 0, 0, 0, ([] : Bytes)), false)) (
 some ((a2, r1, r2, 0, 0, 0, 0, x12), true))) (
 some ((0, 0, 0, 0, 0, 0, 0, ([] : Bytes)), false)))
def spec_ReadImage (a0 : Bytes) : Option (Packet × Int) :=
 bindO (spec_ParseEth a0) fun r1 =>
 bindO (
 cond (!r1.2) (
 some true) (
 some (r1.1.2.2.2.1 != 2048))) fun q2 =>
 cond q2 (
 some ((0, 0, 0, 0, 0, 0, 0, 0, 0, 0, 0, 0, 0, 0, 0, ([] : Bytes)), 2)) (
 bindO (spec_ParseIp r1.1.2.2.2.2) fun r3 =>
 cond (!r3.2) (
 some ((0, 0, 0, 0, 0, 0, 0, 0, 0, 0, 0, 0, 0, 0, 0, ([] : Bytes)), 3)) (
 bindO (spec_ParseSegment r3.1.2.2.2.2.1 r3.1.2.2.2.2.2.1 r3.1.2.2.2.1 r3.1.2.2.2.2.2.2) fun r4 =>
 cond (!r4.2) (
 some ((0, 0, 0, 0, 0, 0, 0, 0, 0, 0, 0, 0, 0, 0, 0, ([] : Bytes)), 4)) (
 bindO (spec_SuperOk (r1.1.1, r1.1.2.1, r1.1.2.2.1, r3.1.1, r3.1.2.1, r3.1.2.2.1, r3.1.2.2.2.2.1, r3.1.2.2.2.2.2.1, r4.1)) fun r5 =>
 cond (!r5) (
 some ((0, 0, 0, 0, 0, 0, 0, 0, 0, 0, 0, 0, 0, 0, 0, ([] : Bytes)), 5)) (
 some ((r1.1.1, r1.1.2.1, r1.1.2.2.1, r3.1.1, r3.1.2.1, r3.1.2.2.1, r3.1.2.2.2.2.1, r3.1.2.2.2.2.2.1, r4.1), 0)))))
def spec_ReadFrame (a0 : Bytes) : Option (Packet × Int) :=
 bindO (spec_CheckFcs a0) fun r1 =>
 cond (!r1.2) (
 some ((0, 0, 0, 0, 0, 0, 0, 0, 0, 0, 0, 0, 0, 0, 0, ([] : Bytes)), 1)) (
 bindO (spec_ReadImage r1.1) fun r2 =>
 cond (r2.2 != 0) (
 some ((0, 0, 0, 0, 0, 0, 0, 0, 0, 0, 0, 0, 0, 0, 0, ([] : Bytes)), r2.2)) (
 bindO (spec_PacketOk r2.1) fun r3 =>
 cond (!r3) (
 some ((0, 0, 0, 0, 0, 0, 0, 0, 0, 0, 0, 0, 0, 0, 0, ([] : Bytes)), 5)) (
 some (r2.1, 0))))
def spec_Accepts (a0 : Filter) (a1 : Packet) : Option (Bool) :=
 bindO (
 bindO (spec_FilterOk a0) fun r1 =>
 cond r1 (
 cond (a1.1 == a0.1) (
 cond (a1.2.2.1 == (-1)) (
 some true) (
 bindO (spec_l24Has a0.2.2 a1.2.2.1) fun r2 =>
 some r2)) (
 cond (a1.1 == 281474976710655) (
 cond (a1.2.2.1 == (-1)) (
 some true) (
 bindO (spec_l24Has a0.2.2 a1.2.2.1) fun r3 =>
 some r3)) (
 cond a0.2.1 (
 cond (a1.2.2.1 == (-1)) (
 some true) (
 bindO (spec_l24Has a0.2.2 a1.2.2.1) fun r4 =>
 some r4)) (
 some false)))) (
 some false)) fun q5 =>
 some q5
def spec_l14Matches (a0 : Rule) (a1 : Packet) : Option (Bool) :=
 bindO (
 cond (a0.2.1 == 0) (
 if (IntKind.wrap .i64 (32 - a0.2.2.2.1)) < 0 then none else (
 if (IntKind.wrap .i64 (32 - a0.2.2.2.1)) < 0 then none else (
 cond ((Int.fdiv a0.2.2.1 (2 ^ (min (Int.toNat (IntKind.wrap .i64 (32 - a0.2.2.2.1))) (IntKind.bits .i64)))) == (Int.fdiv a1.2.2.2.2.2.2.1 (2 ^ (min (Int.toNat (IntKind.wrap .i64 (32 - a0.2.2.2.1))) (IntKind.bits .i64))))) (
 bindO (spec_l01In a1.2.2.2.2.2.2.2.2.2.2.1 a0.2.2.2.2.1 a0.2.2.2.2.2.1) fun r1 =>
 cond r1 (
 cond (a0.2.2.2.2.2.2.1 == (-2)) (
 some true) (
 some (a0.2.2.2.2.2.2.1 == a1.2.2.1))) (
 some false)) (
 some false)))) (
 cond (a0.2.1 == a1.2.2.2.2.2.2.2.2.1) (
 if (IntKind.wrap .i64 (32 - a0.2.2.2.1)) < 0 then none else (
 if (IntKind.wrap .i64 (32 - a0.2.2.2.1)) < 0 then none else (
 cond ((Int.fdiv a0.2.2.1 (2 ^ (min (Int.toNat (IntKind.wrap .i64 (32 - a0.2.2.2.1))) (IntKind.bits .i64)))) == (Int.fdiv a1.2.2.2.2.2.2.1 (2 ^ (min (Int.toNat (IntKind.wrap .i64 (32 - a0.2.2.2.1))) (IntKind.bits .i64))))) (
 bindO (spec_l01In a1.2.2.2.2.2.2.2.2.2.2.1 a0.2.2.2.2.1 a0.2.2.2.2.2.1) fun r2 =>
 cond r2 (
 cond (a0.2.2.2.2.2.2.1 == (-2)) (
 some true) (
 some (a0.2.2.2.2.2.2.1 == a1.2.2.1))) (
 some false)) (
 some false)))) (
 some false))) fun q3 =>
 some q3
def spec_RuleMatches (a0 : Rule) (a1 : Packet) : Option (Bool) :=
 bindO (
 bindO (spec_RuleOk a0) fun r1 =>
 cond r1 (
 bindO (spec_SuperOk a1) fun r2 =>
 cond r2 (
 bindO (spec_l14Matches a0 a1) fun r3 =>
 some r3) (
 some false)) (
 some false)) fun q4 =>
 some q4
def spec_FindRule_T3 {R : Type} (k0 : Int → Int → Option R) (v0 : List Rule) (b3 : Packet) (nx : (Int × Int) → Option R) (x : Int × Int) : Option R :=
 bindO (
 cond (decide (x.2 < ((List.length v0 : Int)))) (
 bindO (spec_RulesOk v0) fun r1 =>
 some r1) (
 some false)) fun q2 =>
 cond q2 (
 bindO (
 bindO (idx v0 x.2) fun x3 =>
 bindO (spec_RuleMatches x3 b3) fun r4 =>
 cond r4 (
 cond (decide (x.1 < 0)) (
 some true) (
 bindO (idx v0 x.2) fun x5 =>
 bindO (idx v0 x.1) fun x6 =>
 some (decide (x5.1 < x6.1)))) (
 some false)) fun q7 =>
 cond q7 (
 nx (x.2, IntKind.wrap .i64 (x.2 + 1))) (
 nx (x.1, IntKind.wrap .i64 (x.2 + 1)))) (
 k0 x.1 x.2)
def spec_FindRule (a0 : List Rule) (a1 : Packet) : Option (Int) :=
 iterL (spec_FindRule_T3
   (fun y8 y9 =>
 some y8) a0 a1) fuel ((-1), 0)
def spec_FindFlow (a0 : List Slot) (a1 : Flow) : Option (Int) :=
 bindO (spec_TableOk a0) fun r1 =>
 cond (!r1) (
 some (-1)) (
 bindO (spec_l13Find a0 a1) fun r2 =>
 some r2)
def spec_FlowOf (a0 : Packet) : Option (Flow) :=
 some (a0.2.2.2.2.2.2.2.2.1, a0.2.2.2.2.2.2.1, a0.2.2.2.2.2.2.2.1, a0.2.2.2.2.2.2.2.2.2.1, a0.2.2.2.2.2.2.2.2.2.2.1)
def spec_l11Bit (a0 : Bytes) (a1 : Int) : Option (Int) :=
 if 8 = 0 then none else (
 bindO (idx a0 (IntKind.wrap .i64 (Int.tdiv a1 8))) fun x1 =>
 if 8 = 0 then none else (
 if (IntKind.wrap .i64 (7 - (Int.tmod a1 8))) < 0 then none else (
 some (IntKind.wrap .i64 (BitVec.toNat (BitVec.ofInt (IntKind.bits .i64) (Int.fdiv (IntKind.wrap .i64 ((UInt8.toNat x1 : Int))) (2 ^ (min (Int.toNat (IntKind.wrap .i64 (7 - (Int.tmod a1 8)))) (IntKind.bits .i64)))) &&& BitVec.ofInt (IntKind.bits .i64) 1))))))
def spec_KeyWindow_T5 {R : Type} (k0 : Int → Int → Option R) (v0 : Bytes) (v1 : Int) (nx : (Int × Int) → Option R) (x : Int × Int) : Option R :=
 cond (decide (x.2 < 32)) (
 bindO (spec_l11Bit v0 (IntKind.wrap .i64 (v1 + x.2))) fun r3 =>
 nx (IntKind.wrap .i64 ((IntKind.wrap .i64 (2 * x.1)) + r3), IntKind.wrap .i64 (x.2 + 1))) (
 k0 x.1 x.2)
def spec_KeyWindow (a0 : Bytes) (a1 : Int) : Option (Int) :=
 bindO (
 cond (((List.length a0 : Int)) != 16) (
 some true) (
 bindO (spec_l01In a1 0 96) fun r1 =>
 some (!r1))) fun q2 =>
 cond q2 (
 some (-1)) (
 iterL (spec_KeyWindow_T5
   (fun y4 y5 =>
 some y4) a0 a1) fuel (0, 0))
def spec_HashBytes_T5 {R : Type} (k0 : Int → Int → Option R) (v0 : Bytes) (v1 : Bytes) (nx : (Int × Int) → Option R) (x : Int × Int) : Option R :=
 cond (decide (x.2 < (IntKind.wrap .i64 (8 * ((List.length v1 : Int)))))) (
 bindO (spec_l11Bit v1 x.2) fun r2 =>
 cond (r2 == 1) (
 bindO (spec_KeyWindow v0 x.2) fun r3 =>
 nx (IntKind.wrap .i64 (BitVec.toNat (BitVec.ofInt (IntKind.bits .i64) x.1 ^^^ BitVec.ofInt (IntKind.bits .i64) r3)), IntKind.wrap .i64 (x.2 + 1))) (
 nx (x.1, IntKind.wrap .i64 (x.2 + 1)))) (
 k0 x.1 x.2)
def spec_HashBytes (a0 : Bytes) (a1 : Bytes) : Option (Int) :=
 bindO (
 cond (((List.length a0 : Int)) != 16) (
 some true) (
 some (decide (((List.length a1 : Int)) > 12)))) fun q1 =>
 cond q1 (
 some (-1)) (
 iterL (spec_HashBytes_T5
   (fun y4 y5 =>
 some y4) a0 a1) fuel (0, 0))
def spec_HashInput (a0 : Flow) : Option (Bytes) :=
 bindO (spec_Word32 a0.2.1) fun r1 =>
 bindO (spec_Word32 a0.2.2.1) fun r2 =>
 room (List.length r1 + List.length r2) (
 bindO (spec_Word16 a0.2.2.2.1) fun r3 =>
 room (List.length (r1 ++ r2) + List.length r3) (
 bindO (spec_Word16 a0.2.2.2.2) fun r4 =>
 room (List.length ((r1 ++ r2) ++ r3) + List.length r4) (
 some (((r1 ++ r2) ++ r3) ++ r4))))
def spec_HashFlow (a0 : Bytes) (a1 : Flow) : Option (Int) :=
 bindO (spec_HashInput a1) fun r1 =>
 bindO (spec_HashBytes a0 r1) fun r2 =>
 some r2
def spec_EntryOf (a0 : Spread) (a1 : Flow) : Option (Int) :=
 bindO (spec_HashFlow a0.1 a1) fun r1 =>
 bindO (
 cond (((List.length a0.2 : Int)) == 0) (
 some true) (
 some (decide (r1 < 0)))) fun q2 =>
 cond q2 (
 some (-1)) (
 if ((List.length a0.2 : Int)) = 0 then none else (
 some (Int.tmod r1 ((List.length a0.2 : Int)))))
def spec_SpreadQueue (a0 : Spread) (a1 : Int) (a2 : Flow) : Option (Int) :=
 bindO (spec_EntryOf a0 a2) fun r1 =>
 bindO (
 bindO (spec_SpreadOk a0 a1) fun r2 =>
 cond (!r2) (
 some true) (
 some (decide (r1 < 0)))) fun q3 =>
 cond q3 (
 some (-1)) (
 bindO (idx a0.2 r1) fun x4 =>
 some x4)
def spec_SteerPacket (a0 : Steering) (a1 : Int) (a2 : Packet) : Option (Int) :=
 bindO (
 bindO (spec_SteeringOk a0 a1) fun r1 =>
 cond (!r1) (
 some true) (
 bindO (spec_SuperOk a2) fun r2 =>
 some (!r2))) fun q3 =>
 cond q3 (
 some (-1)) (
 bindO (spec_FindRule a0.1 a2) fun r4 =>
 cond (decide (r4 ≥ 0)) (
 bindO (idx a0.1 r4) fun x5 =>
 cond (x5.2.2.2.2.2.2.2.1 == 1) (
 some (-1)) (
 bindO (idx a0.1 r4) fun x6 =>
 some x6.2.2.2.2.2.2.2.2)) (
 bindO (spec_FlowOf a2) fun r7 =>
 bindO (spec_FindFlow a0.2.1 r7) fun r8 =>
 cond (decide (r8 ≥ 0)) (
 bindO (idx a0.2.1 r8) fun x9 =>
 some x9.2.2) (
 bindO (spec_FlowOf a2) fun r10 =>
 bindO (spec_SpreadQueue a0.2.2 a1 r10) fun r11 =>
 some r11)))
def spec_StreamIndex_T2 {R : Type} (k0 : Int → Option R) (k1 : Int → Int → Option R) (v0 : List Stream) (v4 : Int) (b3 : Flow) (nx : Int → Option R) (x : Int) : Option R :=
 cond (decide (x < ((List.length v0 : Int)))) (
 bindO (idx v0 x) fun x1 =>
 cond ((x1.1.1 == b3.1) && ((x1.1.2.1 == b3.2.1) && ((x1.1.2.2.1 == b3.2.2.1) && ((x1.1.2.2.2.1 == b3.2.2.2.1) && ((x1.1.2.2.2.2 == b3.2.2.2.2) && true))))) (
 k1 x x) (
 nx (IntKind.wrap .i64 (x + 1)))) (
 k0 x)
def spec_StreamIndex (a0 : List Stream) (a1 : Flow) : Option (Int) :=
 iterL (spec_StreamIndex_T2
   (fun y2 =>
 some (-1))
   (fun y3 y4 =>
 some y3) a0 0 a1) fuel 0
def spec_Deliver (a0 : List Stream) (a1 : Packet) : Option (List Stream) :=
 room (List.length ([] : List Stream) + List.length a0) (
 bindO (spec_SuperOk a1) fun r1 =>
 cond (!r1) (
 some (([] : List Stream) ++ a0)) (
 bindO (spec_FlowOf a1) fun r2 =>
 bindO (spec_StreamIndex (([] : List Stream) ++ a0) r2) fun r3 =>
 cond (a1.2.2.2.2.2.2.2.2.1 == 17) (
 cond (decide (r3 < 0)) (
 room (List.length (([] : List Stream) ++ a0) + List.length ([(r2, 0, ([] : Bytes), false)])) (
 bindO (idx ((([] : List Stream) ++ a0) ++ ([(r2, 0, ([] : Bytes), false)])) ((List.length (([] : List Stream) ++ a0) : Int))) fun x4 =>
 bindO (spec_Word16 ((List.length a1.2.2.2.2.2.2.2.2.2.2.2.2.2.2.2 : Int))) fun r5 =>
 room (List.length x4.2.2.1 + List.length r5) (
 room (List.length (x4.2.2.1 ++ r5) + List.length a1.2.2.2.2.2.2.2.2.2.2.2.2.2.2.2) (
 bindO (idx ((([] : List Stream) ++ a0) ++ ([(r2, 0, ([] : Bytes), false)])) ((List.length (([] : List Stream) ++ a0) : Int))) fun x6 =>
 bindO (some ((([] : List Stream) ++ a0) ++ ([(r2, 0, ([] : Bytes), false)]))) fun x7 =>
 bindO (idx x7 ((List.length (([] : List Stream) ++ a0) : Int))) fun x8 =>
 some (List.set x7 (Int.toNat ((List.length (([] : List Stream) ++ a0) : Int))) (x8.1, x8.2.1, (x4.2.2.1 ++ r5) ++ a1.2.2.2.2.2.2.2.2.2.2.2.2.2.2.2, x8.2.2.2)))))) (
 bindO (idx (([] : List Stream) ++ a0) r3) fun x9 =>
 bindO (spec_Word16 ((List.length a1.2.2.2.2.2.2.2.2.2.2.2.2.2.2.2 : Int))) fun r10 =>
 room (List.length x9.2.2.1 + List.length r10) (
 room (List.length (x9.2.2.1 ++ r10) + List.length a1.2.2.2.2.2.2.2.2.2.2.2.2.2.2.2) (
 bindO (idx (([] : List Stream) ++ a0) r3) fun x11 =>
 bindO (some (([] : List Stream) ++ a0)) fun x12 =>
 bindO (idx x12 r3) fun x13 =>
 some (List.set x12 (Int.toNat r3) (x13.1, x13.2.1, (x9.2.2.1 ++ r10) ++ a1.2.2.2.2.2.2.2.2.2.2.2.2.2.2.2, x13.2.2.2)))))) (
 cond ((IntKind.wrap .i64 (BitVec.toNat (BitVec.ofInt (IntKind.bits .i64) a1.2.2.2.2.2.2.2.2.2.2.2.2.2.1 &&& BitVec.ofInt (IntKind.bits .i64) 2))) != 0) (
 cond (decide (r3 < 0)) (
 if 4294967296 = 0 then none else (
 room (List.length (([] : List Stream) ++ a0) + List.length ([(r2, Int.tmod (IntKind.wrap .i64 (a1.2.2.2.2.2.2.2.2.2.2.2.1 + 1)) 4294967296, ([] : Bytes), false)])) (
 some ((([] : List Stream) ++ a0) ++ ([(r2, Int.tmod (IntKind.wrap .i64 (a1.2.2.2.2.2.2.2.2.2.2.2.1 + 1)) 4294967296, ([] : Bytes), false)]))))) (
 some (([] : List Stream) ++ a0))) (
 bindO (
 cond (decide (r3 < 0)) (
 some true) (
 bindO (idx (([] : List Stream) ++ a0) r3) fun x14 =>
 cond x14.2.2.2 (
 some true) (
 some ((IntKind.wrap .i64 (BitVec.toNat (BitVec.ofInt (IntKind.bits .i64) a1.2.2.2.2.2.2.2.2.2.2.2.2.2.1 &&& BitVec.ofInt (IntKind.bits .i64) 4))) != 0)))) fun q15 =>
 cond q15 (
 some (([] : List Stream) ++ a0)) (
 bindO (idx (([] : List Stream) ++ a0) r3) fun x16 =>
 cond (decide ((IntKind.wrap .i64 (BitVec.toNat (BitVec.ofInt (IntKind.bits .i64) (IntKind.wrap .i64 (x16.2.1 - a1.2.2.2.2.2.2.2.2.2.2.2.1)) &&& BitVec.ofInt (IntKind.bits .i64) 4294967295))) ≤ ((List.length a1.2.2.2.2.2.2.2.2.2.2.2.2.2.2.2 : Int)))) (
 bindO (idx (([] : List Stream) ++ a0) r3) fun x17 =>
 bindO (sub a1.2.2.2.2.2.2.2.2.2.2.2.2.2.2.2 (IntKind.wrap .i64 (BitVec.toNat (BitVec.ofInt (IntKind.bits .i64) (IntKind.wrap .i64 (x16.2.1 - a1.2.2.2.2.2.2.2.2.2.2.2.1)) &&& BitVec.ofInt (IntKind.bits .i64) 4294967295))) ((List.length a1.2.2.2.2.2.2.2.2.2.2.2.2.2.2.2 : Int))) fun x18 =>
 room (List.length x17.2.2.1 + List.length x18) (
 bindO (idx (([] : List Stream) ++ a0) r3) fun x19 =>
 bindO (some (([] : List Stream) ++ a0)) fun x20 =>
 bindO (idx x20 r3) fun x21 =>
 bindO (idx (List.set x20 (Int.toNat r3) (x21.1, x21.2.1, x17.2.2.1 ++ x18, x21.2.2.2)) r3) fun x22 =>
 if 4294967296 = 0 then none else (
 bindO (idx (List.set x20 (Int.toNat r3) (x21.1, x21.2.1, x17.2.2.1 ++ x18, x21.2.2.2)) r3) fun x23 =>
 bindO (some (List.set x20 (Int.toNat r3) (x21.1, x21.2.1, x17.2.2.1 ++ x18, x21.2.2.2))) fun x24 =>
 bindO (idx x24 r3) fun x25 =>
 bindO (idx (List.set x24 (Int.toNat r3) (x25.1, Int.tmod (IntKind.wrap .i64 ((IntKind.wrap .i64 ((IntKind.wrap .i64 (BitVec.toNat (BitVec.ofInt (IntKind.bits .i64) x22.2.1 &&& BitVec.ofInt (IntKind.bits .i64) 4294967295))) + ((List.length a1.2.2.2.2.2.2.2.2.2.2.2.2.2.2.2 : Int)))) - (IntKind.wrap .i64 (BitVec.toNat (BitVec.ofInt (IntKind.bits .i64) (IntKind.wrap .i64 (x16.2.1 - a1.2.2.2.2.2.2.2.2.2.2.2.1)) &&& BitVec.ofInt (IntKind.bits .i64) 4294967295))))) 4294967296, x25.2.2)) r3) fun x26 =>
 bindO (some (List.set x24 (Int.toNat r3) (x25.1, Int.tmod (IntKind.wrap .i64 ((IntKind.wrap .i64 ((IntKind.wrap .i64 (BitVec.toNat (BitVec.ofInt (IntKind.bits .i64) x22.2.1 &&& BitVec.ofInt (IntKind.bits .i64) 4294967295))) + ((List.length a1.2.2.2.2.2.2.2.2.2.2.2.2.2.2.2 : Int)))) - (IntKind.wrap .i64 (BitVec.toNat (BitVec.ofInt (IntKind.bits .i64) (IntKind.wrap .i64 (x16.2.1 - a1.2.2.2.2.2.2.2.2.2.2.2.1)) &&& BitVec.ofInt (IntKind.bits .i64) 4294967295))))) 4294967296, x25.2.2))) fun x27 =>
 bindO (idx x27 r3) fun x28 =>
 some (List.set x27 (Int.toNat r3) (x28.1, x28.2.1, x28.2.2.1, (IntKind.wrap .i64 (BitVec.toNat (BitVec.ofInt (IntKind.bits .i64) a1.2.2.2.2.2.2.2.2.2.2.2.2.2.1 &&& BitVec.ofInt (IntKind.bits .i64) 1))) != 0))))) (
 some (([] : List Stream) ++ a0)))))))
def spec_SoftReceive (a0 : Soft) (a1 : Bytes) : Option (Soft) :=
 bindO (spec_l40Copy a0) fun r1 =>
 bindO (spec_ReadFrame a1) fun r2 =>
 bindO (
 bindO (spec_SoftOk a0) fun r3 =>
 cond r3 (
 cond (r2.2 == 0) (
 bindO (spec_Accepts a0.1 r2.1) fun r4 =>
 cond r4 (
 bindO (spec_SteerPacket a0.2.1 a0.2.2.1 r2.1) fun r5 =>
 some (r5 != (-1))) (
 some false)) (
 some false)) (
 some false)) fun q6 =>
 cond q6 (
 bindO (spec_Deliver r1.2.2.2.1 r2.1) fun r7 =>
 some (r1.1, r1.2.1, r1.2.2.1, r7, r1.2.2.2.2)) (
 some r1)
def spec_l43Switch_T5 {R : Type} (k0 : Int → Ideal → Option R) (v6 : List Port) (v8 : List Int) (v9 : Int) (b5 : Packet) (nx : (Int × Ideal) → Option R) (x : Int × Ideal) : Option R :=
 cond (decide (x.1 < ((List.length v8 : Int)))) (
 bindO (idx v8 x.1) fun x4 =>
 bindO (spec_LeavePacket v6 x4 v9 b5) fun r5 =>
 bindO (spec_BuildFrame r5) fun r6 =>
 bindO (idx v8 x.1) fun x7 =>
 cond (x7 == 0) (
 room (List.length x.2.2.2.2.2 + List.length ([r6.1])) (
 nx (IntKind.wrap .i64 (x.1 + 1), x.2.1, x.2.2.1, x.2.2.2.1, x.2.2.2.2.1, x.2.2.2.2.2 ++ ([r6.1])))) (
 bindO (idx v8 x.1) fun x8 =>
 bindO (idx v8 x.1) fun x9 =>
 bindO (idx x.2.1 (IntKind.wrap .i64 (x9 - 1))) fun x10 =>
 bindO (spec_SoftReceive x10 r6.1) fun r11 =>
 bindO (idx x.2.1 (IntKind.wrap .i64 (x8 - 1))) fun x12 =>
 bindO (idx x.2.1 (IntKind.wrap .i64 (x8 - 1))) fun x13 =>
 nx (IntKind.wrap .i64 (x.1 + 1), List.set x.2.1 (Int.toNat (IntKind.wrap .i64 (x8 - 1))) r11, x.2.2))) (
 k0 x.1 x.2)
def spec_l43Switch (a0 : Ideal) (a1 : Int) (a2 : Packet) : Option ((Unit) × Ideal) :=
 bindO (spec_PortsOf a0.2.2.2.1) fun r1 =>
 bindO (spec_SwitchPacket r1.1 a1 a2) fun r2 =>
 bindO (spec_EntryVlan r1.1 a1 a2) fun r3 =>
 iterL (spec_l43Switch_T5
   (fun y14 y15 =>
 some ((), y15)) r1.1 r2 r3 a2) fuel (0, a0)
def spec_IdealSwitch (a0 : Ideal) (a1 : Int) (a2 : Packet) : Option (Ideal) :=
 bindO (spec_l43Copy a0) fun r1 =>
 bindO (
 bindO (spec_IdealOk a0) fun r2 =>
 cond r2 (
 bindO (spec_PacketOk a2) fun r3 =>
 some r3) (
 some false)) fun q4 =>
 cond q4 (
 bindO (spec_l43Switch r1 a1 a2) fun r5 =>
 some r5.2) (
 some r1)
def laws_toStringS_T3 {R : Type} (k0 : (List Bytes) → Int → Option R) (v0 : List Bytes) (nx : ((List Bytes) × Int) → Option R) (x : (List Bytes) × Int) : Option R :=
 cond (decide (x.2 < ((List.length v0 : Int)))) (
 bindO (idx v0 x.2) fun x1 =>
 bindO (idx x.1 x.2) fun x2 =>
 bindO (idx x.1 x.2) fun x3 =>
 nx (List.set x.1 (Int.toNat x.2) x1, IntKind.wrap .i64 (x.2 + 1))) (
 k0 x.1 x.2)
def laws_toStringS (a0 : List Bytes) : Option (List Bytes) :=
 if (0 : Int) ≤ ((List.length a0 : Int)) ∧ ((List.length a0 : Int)) ≤ ((List.length a0 : Int)) then (
 room (Int.toNat ((List.length a0 : Int))) (
 iterL (laws_toStringS_T3
   (fun y4 y5 =>
 some y4) a0) fuel (List.replicate (Int.toNat ((List.length a0 : Int))) ([] : Bytes), 0))) else none
def laws_toIntS_T3 {R : Type} (k0 : (List Int) → Int → Option R) (v0 : List Int) (nx : ((List Int) × Int) → Option R) (x : (List Int) × Int) : Option R :=
 cond (decide (x.2 < ((List.length v0 : Int)))) (
 bindO (idx v0 x.2) fun x1 =>
 bindO (idx x.1 x.2) fun x2 =>
 bindO (idx x.1 x.2) fun x3 =>
 nx (List.set x.1 (Int.toNat x.2) x1, IntKind.wrap .i64 (x.2 + 1))) (
 k0 x.1 x.2)
def laws_toIntS (a0 : List Int) : Option (List Int) :=
 if (0 : Int) ≤ ((List.length a0 : Int)) ∧ ((List.length a0 : Int)) ≤ ((List.length a0 : Int)) then (
 room (Int.toNat ((List.length a0 : Int))) (
 iterL (laws_toIntS_T3
   (fun y4 y5 =>
 some y4) a0) fuel (List.replicate (Int.toNat ((List.length a0 : Int))) (0 : Int), 0))) else none
def laws_toFilter (a0 : Filter) : Option (Filter) :=
 bindO (laws_toIntS a0.2.2) fun r1 =>
 some (a0.1, a0.2.1, r1)
def laws_toRule (a0 : Rule) : Option (Rule) :=
 some a0
def laws_toRuleS_T3 {R : Type} (k0 : (List Rule) → Int → Option R) (v0 : List Rule) (nx : ((List Rule) × Int) → Option R) (x : (List Rule) × Int) : Option R :=
 cond (decide (x.2 < ((List.length v0 : Int)))) (
 bindO (idx v0 x.2) fun x1 =>
 bindO (laws_toRule x1) fun r2 =>
 bindO (idx x.1 x.2) fun x3 =>
 bindO (idx x.1 x.2) fun x4 =>
 nx (List.set x.1 (Int.toNat x.2) r2, IntKind.wrap .i64 (x.2 + 1))) (
 k0 x.1 x.2)
def laws_toRuleS (a0 : List Rule) : Option (List Rule) :=
 if (0 : Int) ≤ ((List.length a0 : Int)) ∧ ((List.length a0 : Int)) ≤ ((List.length a0 : Int)) then (
 room (Int.toNat ((List.length a0 : Int))) (
 iterL (laws_toRuleS_T3
   (fun y5 y6 =>
 some y5) a0) fuel (List.replicate (Int.toNat ((List.length a0 : Int))) (0, 0, 0, 0, 0, 0, 0, 0, 0), 0))) else none
def laws_toFlow (a0 : Flow) : Option (Flow) :=
 some a0
def laws_toSlot (a0 : Slot) : Option (Slot) :=
 bindO (laws_toFlow a0.2.1) fun r1 =>
 some (a0.1, r1, a0.2.2)
def laws_toSlotS_T3 {R : Type} (k0 : (List Slot) → Int → Option R) (v0 : List Slot) (nx : ((List Slot) × Int) → Option R) (x : (List Slot) × Int) : Option R :=
 cond (decide (x.2 < ((List.length v0 : Int)))) (
 bindO (idx v0 x.2) fun x1 =>
 bindO (laws_toSlot x1) fun r2 =>
 bindO (idx x.1 x.2) fun x3 =>
 bindO (idx x.1 x.2) fun x4 =>
 nx (List.set x.1 (Int.toNat x.2) r2, IntKind.wrap .i64 (x.2 + 1))) (
 k0 x.1 x.2)
def laws_toSlotS (a0 : List Slot) : Option (List Slot) :=
 if (0 : Int) ≤ ((List.length a0 : Int)) ∧ ((List.length a0 : Int)) ≤ ((List.length a0 : Int)) then (
 room (Int.toNat ((List.length a0 : Int))) (
 iterL (laws_toSlotS_T3
   (fun y5 y6 =>
 some y5) a0) fuel (List.replicate (Int.toNat ((List.length a0 : Int))) (0, (0, 0, 0, 0, 0), 0), 0))) else none
def laws_toFlowTable (a0 : List Slot) : Option (List Slot) :=
 bindO (laws_toSlotS a0) fun r1 =>
 some r1
def laws_toSpread (a0 : Spread) : Option (Spread) :=
 bindO (laws_toIntS a0.2) fun r1 =>
 some (a0.1, r1)
def laws_toSteering (a0 : Steering) : Option (Steering) :=
 bindO (laws_toRuleS a0.1) fun r1 =>
 bindO (laws_toFlowTable a0.2.1) fun r2 =>
 bindO (laws_toSpread a0.2.2) fun r3 =>
 some (r1, r2, r3)
def laws_toStream (a0 : Stream) : Option (Stream) :=
 bindO (laws_toFlow a0.1) fun r1 =>
 some (r1, a0.2)
def laws_toStreamS_T3 {R : Type} (k0 : (List Stream) → Int → Option R) (v0 : List Stream) (nx : ((List Stream) × Int) → Option R) (x : (List Stream) × Int) : Option R :=
 cond (decide (x.2 < ((List.length v0 : Int)))) (
 bindO (idx v0 x.2) fun x1 =>
 bindO (laws_toStream x1) fun r2 =>
 bindO (idx x.1 x.2) fun x3 =>
 bindO (idx x.1 x.2) fun x4 =>
 nx (List.set x.1 (Int.toNat x.2) r2, IntKind.wrap .i64 (x.2 + 1))) (
 k0 x.1 x.2)
def laws_toStreamS (a0 : List Stream) : Option (List Stream) :=
 if (0 : Int) ≤ ((List.length a0 : Int)) ∧ ((List.length a0 : Int)) ≤ ((List.length a0 : Int)) then (
 room (Int.toNat ((List.length a0 : Int))) (
 iterL (laws_toStreamS_T3
   (fun y5 y6 =>
 some y5) a0) fuel (List.replicate (Int.toNat ((List.length a0 : Int))) ((0, 0, 0, 0, 0), 0, ([] : Bytes), false), 0))) else none
def laws_toSoft (a0 : Soft) : Option (Soft) :=
 bindO (laws_toFilter a0.1) fun r1 =>
 bindO (laws_toSteering a0.2.1) fun r2 =>
 bindO (laws_toStreamS a0.2.2.2.1) fun r3 =>
 bindO (laws_toStringS a0.2.2.2.2) fun r4 =>
 some (r1, r2, a0.2.2.1, r3, r4)
def laws_toSoftS_T3 {R : Type} (k0 : (List Soft) → Int → Option R) (v0 : List Soft) (nx : ((List Soft) × Int) → Option R) (x : (List Soft) × Int) : Option R :=
 cond (decide (x.2 < ((List.length v0 : Int)))) (
 bindO (idx v0 x.2) fun x1 =>
 bindO (laws_toSoft x1) fun r2 =>
 bindO (idx x.1 x.2) fun x3 =>
 bindO (idx x.1 x.2) fun x4 =>
 nx (List.set x.1 (Int.toNat x.2) r2, IntKind.wrap .i64 (x.2 + 1))) (
 k0 x.1 x.2)
def laws_toSoftS (a0 : List Soft) : Option (List Soft) :=
 if (0 : Int) ≤ ((List.length a0 : Int)) ∧ ((List.length a0 : Int)) ≤ ((List.length a0 : Int)) then (
 room (Int.toNat ((List.length a0 : Int))) (
 iterL (laws_toSoftS_T3
   (fun y5 y6 =>
 some y5) a0) fuel (List.replicate (Int.toNat ((List.length a0 : Int))) ((0, false, ([] : List Int)), (([] : List Rule), ([] : List Slot), ([] : Bytes), ([] : List Int)), 0, ([] : List Stream), ([] : List Bytes)), 0))) else none
def laws_toStringSS_T3 {R : Type} (k0 : (List (List Bytes)) → Int → Option R) (v0 : List (List Bytes)) (nx : ((List (List Bytes)) × Int) → Option R) (x : (List (List Bytes)) × Int) : Option R :=
 cond (decide (x.2 < ((List.length v0 : Int)))) (
 bindO (idx v0 x.2) fun x1 =>
 bindO (laws_toStringS x1) fun r2 =>
 bindO (idx x.1 x.2) fun x3 =>
 bindO (idx x.1 x.2) fun x4 =>
 nx (List.set x.1 (Int.toNat x.2) r2, IntKind.wrap .i64 (x.2 + 1))) (
 k0 x.1 x.2)
def laws_toStringSS (a0 : List (List Bytes)) : Option (List (List Bytes)) :=
 if (0 : Int) ≤ ((List.length a0 : Int)) ∧ ((List.length a0 : Int)) ≤ ((List.length a0 : Int)) then (
 room (Int.toNat ((List.length a0 : Int))) (
 iterL (laws_toStringSS_T3
   (fun y5 y6 =>
 some y5) a0) fuel (List.replicate (Int.toNat ((List.length a0 : Int))) ([] : List Bytes), 0))) else none
def laws_toBucket (a0 : Bucket) : Option (Bucket) :=
 some a0
def laws_toVirtualFunction (a0 : VirtualFunction) : Option (VirtualFunction) :=
 bindO (laws_toBucket a0.2.2.1) fun r1 =>
 some (a0.1, a0.2.1, r1, a0.2.2.2)
def laws_toVirtualFunctionS_T3 {R : Type} (k0 : (List VirtualFunction) → Int → Option R) (v0 : List VirtualFunction) (nx : ((List VirtualFunction) × Int) → Option R) (x : (List VirtualFunction) × Int) : Option R :=
 cond (decide (x.2 < ((List.length v0 : Int)))) (
 bindO (idx v0 x.2) fun x1 =>
 bindO (laws_toVirtualFunction x1) fun r2 =>
 bindO (idx x.1 x.2) fun x3 =>
 bindO (idx x.1 x.2) fun x4 =>
 nx (List.set x.1 (Int.toNat x.2) r2, IntKind.wrap .i64 (x.2 + 1))) (
 k0 x.1 x.2)
def laws_toVirtualFunctionS (a0 : List VirtualFunction) : Option (List VirtualFunction) :=
 if (0 : Int) ≤ ((List.length a0 : Int)) ∧ ((List.length a0 : Int)) ≤ ((List.length a0 : Int)) then (
 room (Int.toNat ((List.length a0 : Int))) (
 iterL (laws_toVirtualFunctionS_T3
   (fun y5 y6 =>
 some y5) a0) fuel (List.replicate (Int.toNat ((List.length a0 : Int))) (0, 0, (0, 0, 0), false, 0, 0), 0))) else none
def laws_toMailbox (a0 : Mailbox) : Option (Mailbox) :=
 bindO (laws_toFilter a0.1) fun r1 =>
 some (r1, a0.2)
def laws_toMailboxS_T3 {R : Type} (k0 : (List Mailbox) → Int → Option R) (v0 : List Mailbox) (nx : ((List Mailbox) × Int) → Option R) (x : (List Mailbox) × Int) : Option R :=
 cond (decide (x.2 < ((List.length v0 : Int)))) (
 bindO (idx v0 x.2) fun x1 =>
 bindO (laws_toMailbox x1) fun r2 =>
 bindO (idx x.1 x.2) fun x3 =>
 bindO (idx x.1 x.2) fun x4 =>
 nx (List.set x.1 (Int.toNat x.2) r2, IntKind.wrap .i64 (x.2 + 1))) (
 k0 x.1 x.2)
def laws_toMailboxS (a0 : List Mailbox) : Option (List Mailbox) :=
 if (0 : Int) ≤ ((List.length a0 : Int)) ∧ ((List.length a0 : Int)) ≤ ((List.length a0 : Int)) then (
 room (Int.toNat ((List.length a0 : Int))) (
 iterL (laws_toMailboxS_T3
   (fun y5 y6 =>
 some y5) a0) fuel (List.replicate (Int.toNat ((List.length a0 : Int))) ((0, false, ([] : List Int)), 0, 0, 0), 0))) else none
def laws_toIdeal (a0 : Ideal) : Option (Ideal) :=
 bindO (laws_toSoftS a0.1) fun r1 =>
 bindO (laws_toStringSS a0.2.1) fun r2 =>
 bindO (laws_toVirtualFunctionS a0.2.2.1) fun r3 =>
 bindO (laws_toMailboxS a0.2.2.2.1) fun r4 =>
 bindO (laws_toStringS a0.2.2.2.2) fun r5 =>
 some (r1, r2, r3, r4, r5)
def laws_toSegment (a0 : Segment) : Option (Segment) :=
 some a0
def laws_toPacket (a0 : Packet) : Option (Packet) :=
 bindO (laws_toSegment a0.2.2.2.2.2.2.2.2) fun r1 =>
 some (a0.1, a0.2.1, a0.2.2.1, a0.2.2.2.1, a0.2.2.2.2.1, a0.2.2.2.2.2.1, a0.2.2.2.2.2.2.1, a0.2.2.2.2.2.2.2.1, r1)
def impl_copyFunctions (a0 : List VirtualFunction) : Option (List VirtualFunction) :=
 room (List.length ([] : List VirtualFunction) + List.length a0) (
 some (([] : List VirtualFunction) ++ a0))
def impl_copyInts (a0 : List Int) : Option (List Int) :=
 room (List.length ([] : List Int) + List.length a0) (
 some (([] : List Int) ++ a0))
def impl_copyFilter (a0 : Filter) : Option (Filter) :=
 bindO (impl_copyInts a0.2.2) fun r1 =>
 some (a0.1, a0.2.1, r1)
def impl_copyMailbox (a0 : Mailbox) : Option (Mailbox) :=
 bindO (impl_copyFilter a0.1) fun r1 =>
 some (r1, a0.2)
def impl_copyBoxes_T3 {R : Type} (k0 : (List Mailbox) → Int → Option R) (v7 : List Mailbox) (v8 : Int) (nx : ((List Mailbox) × Int) → Option R) (x : (List Mailbox) × Int) : Option R :=
 cond (decide (x.2 < v8)) (
 bindO (idx v7 x.2) fun x1 =>
 bindO (impl_copyMailbox x1) fun r2 =>
 room (List.length x.1 + List.length ([r2])) (
 nx (x.1 ++ ([r2]), IntKind.wrap .i64 (x.2 + 1)))) (
 k0 x.1 x.2)
def impl_copyBoxes (a0 : List Mailbox) : Option (List Mailbox) :=
 iterL (impl_copyBoxes_T3
   (fun y3 y4 =>
 some y3) a0 ((List.length a0 : Int))) fuel (([] : List Mailbox), 0)
def impl_copyStrings (a0 : List Bytes) : Option (List Bytes) :=
 room (List.length ([] : List Bytes) + List.length a0) (
 some (([] : List Bytes) ++ a0))
def impl_copyTable (a0 : List Slot) : Option (List Slot) :=
 room (List.length ([] : List Slot) + List.length a0) (
 some (([] : List Slot) ++ a0))
def impl_copySpread (a0 : Spread) : Option (Spread) :=
 bindO (impl_copyInts a0.2) fun r1 =>
 some (a0.1, r1)
def impl_copySteering (a0 : Steering) : Option (Steering) :=
 room (List.length ([] : List Rule) + List.length a0.1) (
 bindO (impl_copyTable a0.2.1) fun r1 =>
 bindO (impl_copySpread a0.2.2) fun r2 =>
 some (([] : List Rule) ++ a0.1, r1, r2))
def impl_copyStreams (a0 : List Stream) : Option (List Stream) :=
 room (List.length ([] : List Stream) + List.length a0) (
 some (([] : List Stream) ++ a0))
def impl_copySoft (a0 : Soft) : Option (Soft) :=
 bindO (impl_copyFilter a0.1) fun r1 =>
 bindO (impl_copySteering a0.2.1) fun r2 =>
 bindO (impl_copyStreams a0.2.2.2.1) fun r3 =>
 bindO (impl_copyStrings a0.2.2.2.2) fun r4 =>
 some (r1, r2, a0.2.2.1, r3, r4)
def impl_copyIdeal_T3 {R : Type} (k0 : Int → Ideal → Option R) (v19 : List Soft) (v20 : Int) (b1 : Ideal) (b2 : Ideal) (nx : (Int × Ideal) → Option R) (x : Int × Ideal) : Option R :=
 cond (decide (x.1 < v20)) (
 bindO (idx v19 x.1) fun x4 =>
 bindO (impl_copySoft x4) fun r5 =>
 room (List.length x.2.1 + List.length ([r5])) (
 nx (IntKind.wrap .i64 (x.1 + 1), x.2.1 ++ ([r5]), x.2.2))) (
 k0 x.1 x.2)
def impl_copyIdeal_T8 {R : Type} (k0 : Int → Ideal → Option R) (v34 : List (List Bytes)) (v35 : Int) (b2 : Ideal) (nx : (Int × Ideal) → Option R) (x : Int × Ideal) : Option R :=
 cond (decide (x.1 < v35)) (
 bindO (idx v34 x.1) fun x8 =>
 bindO (impl_copyStrings x8) fun r9 =>
 room (List.length x.2.2.1 + List.length ([r9])) (
 nx (IntKind.wrap .i64 (x.1 + 1), x.2.1, x.2.2.1 ++ ([r9]), x.2.2.2))) (
 k0 x.1 x.2)
def impl_copyIdeal (a0 : Ideal) : Option (Ideal) :=
 bindO (impl_copyFunctions a0.2.2.1) fun r1 =>
 bindO (impl_copyBoxes a0.2.2.2.1) fun r2 =>
 bindO (impl_copyStrings a0.2.2.2.2) fun r3 =>
 iterL (impl_copyIdeal_T3
   (fun y6 y7 =>
 iterL (impl_copyIdeal_T8
   (fun y10 y11 =>
 some y11) a0.2.1 ((List.length a0.2.1 : Int)) (([] : List Soft), ([] : List (List Bytes)), ([] : List VirtualFunction), ([] : List Mailbox), ([] : List Bytes))) fuel (0, y7)) a0.1 ((List.length a0.1 : Int)) a0 (([] : List Soft), ([] : List (List Bytes)), ([] : List VirtualFunction), ([] : List Mailbox), ([] : List Bytes))) fuel (0, ([] : List Soft), ([] : List (List Bytes)), r1, r2, r3)
def impl_between (a0 : Int) (a1 : Int) (a2 : Int) : Option (Bool) :=
 bindO (
 cond (decide (a0 ≥ a1)) (
 some (decide (a0 ≤ a2))) (
 some false)) fun q1 =>
 some q1
def impl_FilterOk_T2 {R : Type} (k0 : Int → Option R) (k1 : Bool → Int → Option R) (v2 : Bool) (v6 : List Int) (v7 : Int) (b1 : Filter) (nx : Int → Option R) (x : Int) : Option R :=
 cond (decide (x < v7)) (
 bindO (idx v6 x) fun x1 =>
 bindO (
 bindO (impl_between x1 0 4095) fun r2 =>
 cond (!r2) (
 some true) (
 cond (decide (x > 0)) (
 bindO (idx b1.2.2 (IntKind.wrap .i64 (x - 1))) fun x3 =>
 some (decide (x3 ≥ x1))) (
 some false))) fun q4 =>
 cond q4 (
 k1 false x) (
 nx (IntKind.wrap .i64 (x + 1)))) (
 k0 x)
def impl_FilterOk (a0 : Filter) : Option (Bool) :=
 iterL (impl_FilterOk_T2
   (fun y5 =>
 bindO (
 bindO (impl_between a0.1 0 281474976710654) fun r6 =>
 cond r6 (
 some (decide (((List.length a0.2.2 : Int)) ≤ 8))) (
 some false)) fun q7 =>
 some q7)
   (fun y8 y9 =>
 some y8) false a0.2.2 ((List.length a0.2.2 : Int)) a0) fuel 0
def impl_MailboxOk (a0 : Mailbox) : Option (Bool) :=
 bindO (
 bindO (impl_FilterOk a0.1) fun r1 =>
 cond r1 (
 bindO (impl_between a0.2.1 0 1000000000000) fun r2 =>
 cond r2 (
 bindO (impl_between a0.2.2.2 0 1000000000000) fun r3 =>
 some r3) (
 some false)) (
 some false)) fun q4 =>
 some q4
def impl_hasInt_T2 {R : Type} (k0 : Int → Option R) (k1 : Bool → Int → Option R) (v1 : Int) (v4 : Bool) (v7 : List Int) (v8 : Int) (nx : Int → Option R) (x : Int) : Option R :=
 cond (decide (x < v8)) (
 bindO (idx v7 x) fun x1 =>
 cond (x1 == v1) (
 k1 true x) (
 nx (IntKind.wrap .i64 (x + 1)))) (
 k0 x)
def impl_hasInt (a0 : List Int) (a1 : Int) : Option (Bool) :=
 iterL (impl_hasInt_T2
   (fun y2 =>
 some false)
   (fun y3 y4 =>
 some y3) a1 false a0 ((List.length a0 : Int))) fuel 0
def impl_addOrdered_T4 {R : Type} (k0 : (List Int) → Bool → Int → Option R) (v1 : Int) (v10 : List Int) (v11 : Int) (nx : ((List Int) × Bool × Int) → Option R) (x : (List Int) × Bool × Int) : Option R :=
 cond (decide (x.2.2 < v11)) (
 bindO (idx v10 x.2.2) fun x1 =>
 bindO (
 cond (!x.2.1) (
 some (decide (v1 < x1))) (
 some false)) fun q2 =>
 cond q2 (
 room (List.length x.1 + List.length ([v1])) (
 room (List.length (x.1 ++ ([v1])) + List.length ([x1])) (
 nx ((x.1 ++ ([v1])) ++ ([x1]), true, IntKind.wrap .i64 (x.2.2 + 1))))) (
 room (List.length x.1 + List.length ([x1])) (
 nx (x.1 ++ ([x1]), x.2.1, IntKind.wrap .i64 (x.2.2 + 1))))) (
 k0 x.1 x.2.1 x.2.2)
def impl_addOrdered (a0 : List Int) (a1 : Int) : Option (List Int) :=
 iterL (impl_addOrdered_T4
   (fun y3 y4 y5 =>
 cond (!y4) (
 room (List.length y3 + List.length ([a1])) (
 some (y3 ++ ([a1])))) (
 some y3)) a1 a0 ((List.length a0 : Int))) fuel (([] : List Int), false, 0)
def impl_portWith_T2 {R : Type} (k0 : Int → Option R) (k1 : Int → Int → Option R) (v1 : Int) (v4 : Int) (v7 : List Port) (v8 : Int) (nx : Int → Option R) (x : Int) : Option R :=
 cond (decide (x < v8)) (
 bindO (idx v7 x) fun x1 =>
 bindO (
 cond (x != 0) (
 some (x1.1 == v1)) (
 some false)) fun q2 =>
 cond q2 (
 k1 x x) (
 nx (IntKind.wrap .i64 (x + 1)))) (
 k0 x)
def impl_portWith (a0 : List Port) (a1 : Int) : Option (Int) :=
 iterL (impl_portWith_T2
   (fun y3 =>
 some (-1))
   (fun y4 y5 =>
 some y4) a1 0 a0 ((List.length a0 : Int))) fuel 0
def impl_filterOf (a0 : Port) : Option (Filter) :=
 some (a0.1, false, a0.2.1)
def impl_PortsOk_T4 {R : Type} (k0 : Int → Option R) (k1 : Bool → Int → Option R) (v0 : List Port) (v2 : Bool) (v9 : List Port) (v10 : Int) (nx : Int → Option R) (x : Int) : Option R :=
 cond (decide (x < v10)) (
 bindO (idx v9 x) fun x2 =>
 bindO (
 bindO (impl_filterOf x2) fun r3 =>
 bindO (impl_FilterOk r3) fun r4 =>
 cond (!r4) (
 some true) (
 bindO (impl_hasInt x2.2.1 x2.2.2.1) fun r5 =>
 some (!r5))) fun q6 =>
 cond q6 (
 k1 false x) (
 bindO (
 cond (x != 0) (
 bindO (impl_portWith v0 x2.1) fun r7 =>
 some (r7 != x)) (
 some false)) fun q8 =>
 cond q8 (
 k1 false x) (
 nx (IntKind.wrap .i64 (x + 1))))) (
 k0 x)
def impl_PortsOk (a0 : List Port) : Option (Bool) :=
 bindO (impl_between ((List.length a0 : Int)) 1 8) fun r1 =>
 cond (!r1) (
 some false) (
 iterL (impl_PortsOk_T4
   (fun y9 =>
 some true)
   (fun y10 y11 =>
 some y10) a0 false a0 ((List.length a0 : Int))) fuel 0)
def impl_PortsOf_T12 {R : Type} (k0 : (List Int) → (List Int) → Int → Option R) (v2 : List Port) (v3 : Bool) (v4 : List Port) (v18 : List Mailbox) (v19 : Int) (v20 : Int) (v32 : List Int) (v33 : Int) (b7 : Mailbox) (nx : ((List Int) × (List Int) × Int) → Option R) (x : (List Int) × (List Int) × Int) : Option R :=
 cond (decide (x.2.2 < v33)) (
 bindO (idx v32 x.2.2) fun x4 =>
 bindO (impl_hasInt x.2.1 x4) fun r5 =>
 cond (!r5) (
 bindO (impl_addOrdered x.2.1 x4) fun r6 =>
 bindO (impl_hasInt x.1 x4) fun r7 =>
 cond (!r7) (
 bindO (impl_addOrdered x.1 x4) fun r8 =>
 nx (r8, r6, IntKind.wrap .i64 (x.2.2 + 1))) (
 nx (x.1, r6, IntKind.wrap .i64 (x.2.2 + 1)))) (
 bindO (impl_hasInt x.1 x4) fun r9 =>
 cond (!r9) (
 bindO (impl_addOrdered x.1 x4) fun r10 =>
 nx (r10, x.2.1, IntKind.wrap .i64 (x.2.2 + 1))) (
 nx (x.1, x.2.1, IntKind.wrap .i64 (x.2.2 + 1))))) (
 k0 x.1 x.2.1 x.2.2)
def impl_PortsOf_T6 {R : Type} (k0 : (List Port) → (List Int) → Int → Option R) (k1 : (List Port) → Bool → (List Port) → (List Int) → Int → Option R) (v2 : List Port) (v3 : Bool) (v18 : List Mailbox) (v19 : Int) (nx : ((List Port) × (List Int) × Int) → Option R) (x : (List Port) × (List Int) × Int) : Option R :=
 cond (decide (x.2.2 < v19)) (
 bindO (idx v18 x.2.2) fun x2 =>
 bindO (impl_MailboxOk x2) fun r3 =>
 cond (!r3) (
 k1 ([] : List Port) false x.1 x.2.1 x.2.2) (
 room (List.length ([0]) + List.length x2.1.2.2) (
 iterL (impl_PortsOf_T12
   (fun y11 y12 y13 =>
 room (List.length x.1 + List.length ([(x2.1.1, y12, 0, true)])) (
 nx (x.1 ++ ([(x2.1.1, y12, 0, true)]), y11, IntKind.wrap .i64 (x.2.2 + 1)))) v2 v3 x.1 v18 v19 x.2.2 (([0]) ++ x2.1.2.2) ((List.length (([0]) ++ x2.1.2.2) : Int)) x2) fuel (x.2.1, ([] : List Int), 0)))) (
 k0 x.1 x.2.1 x.2.2)
def impl_PortsOf (a0 : List Mailbox) : Option ((List Port) × Bool) :=
 bindO (impl_between ((List.length a0 : Int)) 1 3) fun r1 =>
 cond (!r1) (
 some (([] : List Port), false)) (
 iterL (impl_PortsOf_T6
   (fun y14 y15 y16 =>
 bindO (idx y14 0) fun x17 =>
 bindO (idx y14 0) fun x18 =>
 bindO (impl_PortsOk (List.set y14 (Int.toNat 0) (x18.1, y15, x18.2.2))) fun r19 =>
 cond (!r19) (
 some (([] : List Port), false)) (
 some (List.set y14 (Int.toNat 0) (x18.1, y15, x18.2.2), true)))
   (fun y20 y21 y22 y23 y24 =>
 some (y20, y21)) ([] : List Port) false a0 ((List.length a0 : Int))) fuel ([(0, ([] : List Int), 0, false)], ([] : List Int), 0))
def impl_RuleOk (a0 : Rule) : Option (Bool) :=
 bindO (
 bindO (impl_between a0.1 0 1000) fun r1 =>
 cond (!r1) (
 some true) (
 cond (a0.2.1 != 0) (
 cond (a0.2.1 != 6) (
 cond (a0.2.1 != 17) (
 some true) (
 bindO (impl_between a0.2.2.1 0 4294967295) fun r2 =>
 cond (!r2) (
 some true) (
 bindO (impl_between a0.2.2.2.1 0 32) fun r3 =>
 some (!r3)))) (
 bindO (impl_between a0.2.2.1 0 4294967295) fun r4 =>
 cond (!r4) (
 some true) (
 bindO (impl_between a0.2.2.2.1 0 32) fun r5 =>
 some (!r5)))) (
 bindO (impl_between a0.2.2.1 0 4294967295) fun r6 =>
 cond (!r6) (
 some true) (
 bindO (impl_between a0.2.2.2.1 0 32) fun r7 =>
 some (!r7))))) fun q8 =>
 cond q8 (
 some false) (
 bindO (
 cond (decide (a0.2.2.2.2.1 < 0)) (
 some true) (
 cond (decide (a0.2.2.2.2.1 > a0.2.2.2.2.2.1)) (
 some true) (
 cond (decide (a0.2.2.2.2.2.1 > 65535)) (
 some true) (
 bindO (impl_between a0.2.2.2.2.2.2.1 (-2) 4095) fun r9 =>
 some (!r9))))) fun q10 =>
 cond q10 (
 some false) (
 bindO (
 cond (a0.2.2.2.2.2.2.2.1 == 0) (
 bindO (impl_between a0.2.2.2.2.2.2.2.2 0 3) fun r11 =>
 cond r11 (
 some true) (
 cond (a0.2.2.2.2.2.2.2.1 == 1) (
 some (a0.2.2.2.2.2.2.2.2 == 0)) (
 some false))) (
 cond (a0.2.2.2.2.2.2.2.1 == 1) (
 some (a0.2.2.2.2.2.2.2.2 == 0)) (
 some false))) fun q12 =>
 some q12))
def impl_RulesOk_T2 {R : Type} (k0 : Int → Option R) (k1 : Bool → Int → Option R) (v0 : List Rule) (v2 : Bool) (v5 : List Rule) (v6 : Int) (nx : Int → Option R) (x : Int) : Option R :=
 cond (decide (x < v6)) (
 bindO (idx v5 x) fun x1 =>
 bindO (impl_RuleOk x1) fun r2 =>
 cond (!r2) (
 k1 false x) (
 nx (IntKind.wrap .i64 (x + 1)))) (
 k0 x)
def impl_RulesOk (a0 : List Rule) : Option (Bool) :=
 iterL (impl_RulesOk_T2
   (fun y3 =>
 some (decide (((List.length a0 : Int)) ≤ 12)))
   (fun y4 y5 =>
 some y4) a0 false a0 ((List.length a0 : Int))) fuel 0
def impl_slotOf_T2 {R : Type} (k0 : Int → Option R) (k1 : Int → Int → Option R) (v4 : Int) (v8 : List Slot) (v9 : Int) (b3 : Flow) (nx : Int → Option R) (x : Int) : Option R :=
 cond (decide (x < v9)) (
 bindO (idx v8 x) fun x1 =>
 bindO (
 cond (x1.1 == 1) (
 some ((x1.2.1.1 == b3.1) && ((x1.2.1.2.1 == b3.2.1) && ((x1.2.1.2.2.1 == b3.2.2.1) && ((x1.2.1.2.2.2.1 == b3.2.2.2.1) && ((x1.2.1.2.2.2.2 == b3.2.2.2.2) && true)))))) (
 some false)) fun q2 =>
 cond q2 (
 k1 x x) (
 nx (IntKind.wrap .i64 (x + 1)))) (
 k0 x)
def impl_slotOf (a0 : List Slot) (a1 : Flow) : Option (Int) :=
 iterL (impl_slotOf_T2
   (fun y3 =>
 some (-1))
   (fun y4 y5 =>
 some y4) 0 a0 ((List.length a0 : Int)) a1) fuel 0
def impl_modulo (a0 : Int) (a1 : Int) : Option (Int) :=
 if a1 = 0 then none else (
 cond (decide ((Int.tmod a0 a1) < 0)) (
 some (IntKind.wrap .i64 ((Int.tmod a0 a1) + a1))) (
 some (Int.tmod a0 a1)))
def impl_HomeSlot_T3 {R : Type} (k0 : Int → Int → Option R) (v16 : List Int) (v17 : Int) (nx : (Int × Int) → Option R) (x : Int × Int) : Option R :=
 cond (decide (x.2 < v17)) (
 bindO (idx v16 x.2) fun x1 =>
 bindO (impl_modulo x1 8) fun r2 =>
 nx (IntKind.wrap .i64 (x.1 + r2), IntKind.wrap .i64 (x.2 + 1))) (
 k0 x.1 x.2)
def impl_HomeSlot (a0 : Flow) : Option (Int) :=
 iterL (impl_HomeSlot_T3
   (fun y3 y4 =>
 if 8 = 0 then none else (
 some (Int.tmod y3 8))) ([a0.1, a0.2.1, a0.2.2.1, a0.2.2.2.1, a0.2.2.2.2]) ((List.length ([a0.1, a0.2.1, a0.2.2.1, a0.2.2.2.1, a0.2.2.2.2]) : Int))) fuel (0, 0)
def impl_wayOf_T3 {R : Type} (k0 : (List Int) → Int → Option R) (b1 : Flow) (nx : ((List Int) × Int) → Option R) (x : (List Int) × Int) : Option R :=
 cond (decide (x.2 < 8)) (
 bindO (impl_HomeSlot b1) fun r1 =>
 if 8 = 0 then none else (
 room (List.length x.1 + List.length ([(Int.tmod (IntKind.wrap .i64 (r1 + x.2)) 8)])) (
 nx (x.1 ++ ([(Int.tmod (IntKind.wrap .i64 (r1 + x.2)) 8)]), IntKind.wrap .i64 (x.2 + 1))))) (
 k0 x.1 x.2)
def impl_wayOf (a0 : Flow) : Option (List Int) :=
 iterL (impl_wayOf_T3
   (fun y2 y3 =>
 some y2) a0) fuel (([] : List Int), 0)
def impl_TableOk_T14 {R : Type} (k0 : Int → Option R) (k1 : Bool → Int → Option R) (v2 : Bool) (v3 : Int) (v12 : List Slot) (v13 : Int) (v14 : Int) (v49 : List Int) (v50 : Int) (b1 : List Slot) (nx : Int → Option R) (x : Int) : Option R :=
 cond (decide (x < v50)) (
 bindO (idx v49 x) fun x8 =>
 cond (x8 == v3) (
 k0 x) (
 bindO (idx b1 x8) fun x9 =>
 cond (x9.1 == 0) (
 k1 false x) (
 nx (IntKind.wrap .i64 (x + 1))))) (
 k0 x)
def impl_TableOk_T4 {R : Type} (k0 : Int → Option R) (k1 : Bool → Int → Option R) (v2 : Bool) (v12 : List Slot) (v13 : Int) (b1 : List Slot) (nx : Int → Option R) (x : Int) : Option R :=
 cond (decide (x < v13)) (
 bindO (idx v12 x) fun x1 =>
 bindO (
 bindO (impl_between x1.1 0 2) fun r2 =>
 cond (!r2) (
 some true) (
 bindO (impl_between x1.2.2 0 3) fun r3 =>
 some (!r3))) fun q4 =>
 cond q4 (
 k1 false x) (
 cond (x1.1 != 1) (
 bindO (
 cond (!((x1.2.1.1 == 0) && ((x1.2.1.2.1 == 0) && ((x1.2.1.2.2.1 == 0) && ((x1.2.1.2.2.2.1 == 0) && ((x1.2.1.2.2.2.2 == 0) && true)))))) (
 some true) (
 some (x1.2.2 != 0))) fun q5 =>
 cond q5 (
 k1 false x) (
 nx (IntKind.wrap .i64 (x + 1)))) (
 bindO (impl_slotOf b1 x1.2.1) fun r6 =>
 cond (r6 != x) (
 k1 false x) (
 bindO (impl_wayOf x1.2.1) fun r7 =>
 iterL (impl_TableOk_T14
   (fun y10 =>
 nx (IntKind.wrap .i64 (x + 1)))
   (fun y11 y12 =>
 k1 y11 x) v2 x v12 v13 x r7 ((List.length r7 : Int)) b1) fuel 0)))) (
 k0 x)
def impl_TableOk (a0 : List Slot) : Option (Bool) :=
 cond (((List.length a0 : Int)) != 8) (
 some false) (
 iterL (impl_TableOk_T4
   (fun y13 =>
 some true)
   (fun y14 y15 =>
 some y14) false a0 ((List.length a0 : Int)) a0) fuel 0)
def impl_tableSize (a0 : Int) : Option (Bool) :=
 bindO (
 cond (a0 == 1) (
 some true) (
 cond (a0 == 2) (
 some true) (
 cond (a0 == 4) (
 some true) (
 cond (a0 == 8) (
 some true) (
 some (a0 == 16)))))) fun q1 =>
 some q1
def impl_SpreadOk_T4 {R : Type} (k0 : Int → Option R) (k1 : Bool → Int → Option R) (v1 : Int) (v4 : Bool) (v24 : List Int) (v25 : Int) (nx : Int → Option R) (x : Int) : Option R :=
 cond (decide (x < v25)) (
 bindO (idx v24 x) fun x4 =>
 bindO (impl_between x4 0 (IntKind.wrap .i64 (v1 - 1))) fun r5 =>
 cond (!r5) (
 k1 false x) (
 nx (IntKind.wrap .i64 (x + 1)))) (
 k0 x)
def impl_SpreadOk (a0 : Spread) (a1 : Int) : Option (Bool) :=
 bindO (
 bindO (impl_between a1 1 4) fun r1 =>
 cond (!r1) (
 some true) (
 cond (((List.length a0.1 : Int)) != 16) (
 some true) (
 bindO (impl_tableSize ((List.length a0.2 : Int))) fun r2 =>
 some (!r2)))) fun q3 =>
 cond q3 (
 some false) (
 iterL (impl_SpreadOk_T4
   (fun y6 =>
 some true)
   (fun y7 y8 =>
 some y7) a1 false a0.2 ((List.length a0.2 : Int))) fuel 0)
def impl_SteeringOk_T4 {R : Type} (k0 : Int → Option R) (k1 : Bool → Int → Option R) (v1 : Int) (v4 : Bool) (v27 : List Rule) (v28 : Int) (b2 : Steering) (nx : Int → Option R) (x : Int) : Option R :=
 cond (decide (x < v28)) (
 bindO (idx v27 x) fun x5 =>
 bindO (
 cond (x5.2.2.2.2.2.2.2.1 == 0) (
 some (decide (x5.2.2.2.2.2.2.2.2 ≥ v1))) (
 some false)) fun q6 =>
 cond q6 (
 k1 false x) (
 nx (IntKind.wrap .i64 (x + 1)))) (
 k0 x)
def impl_SteeringOk_T10 {R : Type} (k0 : Int → Option R) (k1 : Bool → Int → Option R) (v1 : Int) (v4 : Bool) (v45 : List Slot) (v46 : Int) (nx : Int → Option R) (x : Int) : Option R :=
 cond (decide (x < v46)) (
 bindO (idx v45 x) fun x8 =>
 bindO (
 cond (x8.1 == 1) (
 some (decide (x8.2.2 ≥ v1))) (
 some false)) fun q9 =>
 cond q9 (
 k1 false x) (
 nx (IntKind.wrap .i64 (x + 1)))) (
 k0 x)
def impl_SteeringOk (a0 : Steering) (a1 : Int) : Option (Bool) :=
 bindO (
 bindO (impl_RulesOk a0.1) fun r1 =>
 cond (!r1) (
 some true) (
 bindO (impl_TableOk a0.2.1) fun r2 =>
 cond (!r2) (
 some true) (
 bindO (impl_SpreadOk a0.2.2 a1) fun r3 =>
 some (!r3)))) fun q4 =>
 cond q4 (
 some false) (
 iterL (impl_SteeringOk_T4
   (fun y7 =>
 iterL (impl_SteeringOk_T10
   (fun y10 =>
 some true)
   (fun y11 y12 =>
 some y11) a1 false a0.2.1 ((List.length a0.2.1 : Int))) fuel 0)
   (fun y13 y14 =>
 some y13) a1 false a0.1 ((List.length a0.1 : Int)) a0) fuel 0)
def impl_SoftOk (a0 : Soft) : Option (Bool) :=
 bindO (
 bindO (impl_FilterOk a0.1) fun r1 =>
 cond r1 (
 bindO (impl_SteeringOk a0.2.1 a0.2.2.1) fun r2 =>
 some r2) (
 some false)) fun q3 =>
 some q3
def slices_Equal_int_T4 {R : Type} (k0 : Int → Option R) (k1 : Bool → Int → Option R) (v0 : List Int) (v1 : List Int) (v4 : Bool) (v12 : Int) (nx : Int → Option R) (x : Int) : Option R :=
 cond (decide (x < v12)) (
 bindO (idx v0 x) fun x1 =>
 bindO (idx v1 x) fun x2 =>
 cond (x1 != x2) (
 k1 false x) (
 nx (IntKind.wrap .i64 (x + 1)))) (
 k0 x)
def slices_Equal_int (a0 : List Int) (a1 : List Int) : Option (Bool) :=
 cond (((List.length a0 : Int)) != ((List.length a1 : Int))) (
 some false) (
 iterL (slices_Equal_int_T4
   (fun y3 =>
 some true)
   (fun y4 y5 =>
 some y4) a0 a1 false ((List.length a0 : Int))) fuel 0)
def impl_sameFilter (a0 : Filter) (a1 : Filter) : Option (Bool) :=
 bindO (
 cond (a0.1 == a1.1) (
 cond (a0.2.1 == a1.2.1) (
 bindO (slices_Equal_int a0.2.2 a1.2.2) fun r1 =>
 some r1) (
 some false)) (
 some false)) fun q2 =>
 some q2
def impl_BucketOk (a0 : Bucket) : Option (Bool) :=
 bindO (
 bindO (impl_between a0.1 0 10000) fun r1 =>
 cond r1 (
 bindO (impl_between a0.2.1 0 100000) fun r2 =>
 cond r2 (
 bindO (impl_between a0.2.2 0 a0.2.1) fun r3 =>
 some r3) (
 some false)) (
 some false)) fun q4 =>
 some q4
def impl_FunctionsOk_T9 {R : Type} (k0 : Int → Option R) (k1 : Bool → Int → Option R) (v0 : List VirtualFunction) (v1 : List Port) (v4 : Bool) (v12 : List VirtualFunction) (v13 : Int) (v14 : Int) (v52 : List VirtualFunction) (v53 : Int) (b6 : VirtualFunction) (nx : Int → Option R) (x : Int) : Option R :=
 cond (decide (x < v53)) (
 bindO (idx v52 x) fun x10 =>
 bindO (
 cond (x10.1 == b6.1) (
 some true) (
 some (x10.2.1 == b6.2.1))) fun q11 =>
 cond q11 (
 k1 false x) (
 nx (IntKind.wrap .i64 (x + 1)))) (
 k0 x)
def impl_FunctionsOk_T4 {R : Type} (k0 : Int → Option R) (k1 : Bool → Int → Option R) (v0 : List VirtualFunction) (v1 : List Port) (v4 : Bool) (v12 : List VirtualFunction) (v13 : Int) (nx : Int → Option R) (x : Int) : Option R :=
 cond (decide (x < v13)) (
 bindO (idx v12 x) fun x2 =>
 bindO (
 bindO (impl_between x2.1 0 7) fun r3 =>
 cond (!r3) (
 some true) (
 bindO (impl_between x2.2.1 1 (IntKind.wrap .i64 (((List.length v1 : Int)) - 1))) fun r4 =>
 cond (!r4) (
 some true) (
 bindO (impl_BucketOk x2.2.2.1) fun r5 =>
 cond (!r5) (
 some true) (
 bindO (impl_between x2.2.2.2.2.1 0 1000000000000) fun r6 =>
 cond (!r6) (
 some true) (
 bindO (impl_between x2.2.2.2.2.2 0 1000000000000) fun r7 =>
 some (!r7)))))) fun q8 =>
 cond q8 (
 k1 false x) (
 bindO (sub v0 0 x) fun x9 =>
 iterL (impl_FunctionsOk_T9
   (fun y12 =>
 nx (IntKind.wrap .i64 (x + 1)))
   (fun y13 y14 =>
 k1 y13 x) v0 v1 v4 v12 v13 x x9 ((List.length x9 : Int)) x2) fuel 0)) (
 k0 x)
def impl_FunctionsOk (a0 : List VirtualFunction) (a1 : List Port) : Option (Bool) :=
 bindO (impl_PortsOk a1) fun r1 =>
 cond (!r1) (
 some false) (
 iterL (impl_FunctionsOk_T4
   (fun y15 =>
 some true)
   (fun y16 y17 =>
 some y16) a0 a1 false a0 ((List.length a0 : Int))) fuel 0)
def impl_ownPlaces_T2 {R : Type} (k0 : Int → Option R) (k1 : Bool → Int → Option R) (v2 : Bool) (v5 : List VirtualFunction) (v6 : Int) (nx : Int → Option R) (x : Int) : Option R :=
 cond (decide (x < v6)) (
 bindO (idx v5 x) fun x1 =>
 bindO (
 cond (x1.1 != x) (
 some true) (
 some (x1.2.1 != (IntKind.wrap .i64 (x + 1))))) fun q2 =>
 cond q2 (
 k1 false x) (
 nx (IntKind.wrap .i64 (x + 1)))) (
 k0 x)
def impl_ownPlaces (a0 : List VirtualFunction) : Option (Bool) :=
 iterL (impl_ownPlaces_T2
   (fun y3 =>
 some true)
   (fun y4 y5 =>
 some y4) false a0 ((List.length a0 : Int))) fuel 0
def impl_IdealOk_T6 {R : Type} (k0 : Int → Option R) (k1 : Bool → Int → Option R) (v2 : Bool) (v3 : List Port) (v41 : List Soft) (v42 : Int) (b1 : Ideal) (nx : Int → Option R) (x : Int) : Option R :=
 cond (decide (x < v42)) (
 bindO (idx v41 x) fun x3 =>
 bindO (
 bindO (impl_SoftOk x3) fun r4 =>
 cond (!r4) (
 some true) (
 bindO (idx b1.2.2.2.1 x) fun x5 =>
 bindO (impl_sameFilter x3.1 x5.1) fun r6 =>
 some (!r6))) fun q7 =>
 cond q7 (
 k1 false x) (
 nx (IntKind.wrap .i64 (x + 1)))) (
 k0 x)
def impl_IdealOk (a0 : Ideal) : Option (Bool) :=
 bindO (impl_PortsOf a0.2.2.2.1) fun r1 =>
 bindO (
 cond (!r1.2) (
 some true) (
 cond (((List.length a0.1 : Int)) != ((List.length a0.2.2.2.1 : Int))) (
 some true) (
 cond (((List.length a0.2.1 : Int)) != ((List.length a0.2.2.2.1 : Int))) (
 some true) (
 some (((List.length a0.2.2.1 : Int)) != ((List.length a0.2.2.2.1 : Int))))))) fun q2 =>
 cond q2 (
 some false) (
 iterL (impl_IdealOk_T6
   (fun y8 =>
 bindO (
 bindO (impl_FunctionsOk a0.2.2.1 r1.1) fun r9 =>
 cond r9 (
 bindO (impl_ownPlaces a0.2.2.1) fun r10 =>
 some r10) (
 some false)) fun q11 =>
 some q11)
   (fun y12 y13 =>
 some y12) false r1.1 a0.1 ((List.length a0.1 : Int)) a0) fuel 0)
def impl_SegmentOk (a0 : Segment) : Option (Bool) :=
 bindO (
 bindO (impl_between a0.2.1 0 65535) fun r1 =>
 cond (!r1) (
 some true) (
 bindO (impl_between a0.2.2.1 0 65535) fun r2 =>
 cond (!r2) (
 some true) (
 some (decide (((List.length a0.2.2.2.2.2.2.2 : Int)) > 320))))) fun q3 =>
 cond q3 (
 some false) (
 cond (a0.1 == 6) (
 bindO (
 bindO (impl_between a0.2.2.2.1 0 4294967295) fun r4 =>
 cond r4 (
 bindO (impl_between a0.2.2.2.2.1 0 4294967295) fun r5 =>
 cond r5 (
 bindO (impl_between a0.2.2.2.2.2.1 0 31) fun r6 =>
 cond r6 (
 bindO (impl_between a0.2.2.2.2.2.2.1 0 65535) fun r7 =>
 some r7) (
 some false)) (
 some false)) (
 some false)) fun q8 =>
 some q8) (
 cond (a0.1 == 17) (
 bindO (
 cond (a0.2.2.2.1 == 0) (
 cond (a0.2.2.2.2.1 == 0) (
 cond (a0.2.2.2.2.2.1 == 0) (
 some (a0.2.2.2.2.2.2.1 == 0)) (
 some false)) (
 some false)) (
 some false)) fun q9 =>
 some q9) (
 some false)))
def impl_streaming (a0 : Int) : Option (Bool) :=
 bindO (
 cond ((IntKind.wrap .i64 (BitVec.toNat (BitVec.ofInt (IntKind.bits .i64) a0 &&& BitVec.ofInt (IntKind.bits .i64) 16))) != 0) (
 some ((IntKind.wrap .i64 (BitVec.toNat (BitVec.ofInt (IntKind.bits .i64) a0 &&& ~~~ BitVec.ofInt (IntKind.bits .i64) 25))) == 0)) (
 some false)) fun q1 =>
 some q1
def impl_SuperOk (a0 : Packet) : Option (Bool) :=
 bindO (
 bindO (impl_between a0.1 0 281474976710655) fun r1 =>
 cond r1 (
 bindO (impl_between a0.2.1 0 281474976710655) fun r2 =>
 cond r2 (
 bindO (impl_between a0.2.2.1 (-1) 4095) fun r3 =>
 cond r3 (
 bindO (impl_between a0.2.2.2.1 0 255) fun r4 =>
 cond r4 (
 bindO (impl_between a0.2.2.2.2.2.1 0 255) fun r5 =>
 cond r5 (
 bindO (impl_between a0.2.2.2.2.1 0 65535) fun r6 =>
 cond r6 (
 bindO (impl_between a0.2.2.2.2.2.2.1 0 4294967295) fun r7 =>
 cond r7 (
 bindO (impl_between a0.2.2.2.2.2.2.2.1 0 4294967295) fun r8 =>
 cond r8 (
 bindO (impl_SegmentOk a0.2.2.2.2.2.2.2.2) fun r9 =>
 cond r9 (
 cond (decide (((List.length a0.2.2.2.2.2.2.2.2.2.2.2.2.2.2.2 : Int)) ≤ 128)) (
 some true) (
 cond (a0.2.2.2.2.2.2.2.2.1 == 6) (
 bindO (impl_streaming a0.2.2.2.2.2.2.2.2.2.2.2.2.2.1) fun r10 =>
 some r10) (
 some false))) (
 some false)) (
 some false)) (
 some false)) (
 some false)) (
 some false)) (
 some false)) (
 some false)) (
 some false)) (
 some false)) fun q11 =>
 some q11
def impl_PacketOk (a0 : Packet) : Option (Bool) :=
 bindO (
 bindO (impl_SuperOk a0) fun r1 =>
 cond r1 (
 some (decide (((List.length a0.2.2.2.2.2.2.2.2.2.2.2.2.2.2.2 : Int)) ≤ 128))) (
 some false)) fun q2 =>
 some q2
def impl_EntryVlan (a0 : List Port) (a1 : Int) (a2 : Packet) : Option (Int) :=
 bindO (
 bindO (impl_PortsOk a0) fun r1 =>
 cond (!r1) (
 some true) (
 bindO (impl_SuperOk a2) fun r2 =>
 cond (!r2) (
 some true) (
 bindO (impl_between a1 0 (IntKind.wrap .i64 (((List.length a0 : Int)) - 1))) fun r3 =>
 some (!r3)))) fun q4 =>
 cond q4 (
 some (-1)) (
 bindO (idx a0 a1) fun x5 =>
 cond (a2.2.2.1 == (-1)) (
 bindO (
 bindO (impl_hasInt x5.2.1 x5.2.2.1) fun r6 =>
 cond (!r6) (
 some true) (
 cond (a1 != 0) (
 cond x5.2.2.2 (
 some (x5.1 != a2.2.1)) (
 some false)) (
 some false))) fun q7 =>
 cond q7 (
 some (-1)) (
 some x5.2.2.1)) (
 bindO (
 bindO (impl_hasInt x5.2.1 a2.2.2.1) fun r8 =>
 cond (!r8) (
 some true) (
 cond (a1 != 0) (
 cond x5.2.2.2 (
 some (x5.1 != a2.2.1)) (
 some false)) (
 some false))) fun q9 =>
 cond q9 (
 some (-1)) (
 some a2.2.2.1)))
def impl_SwitchPacket_T17 {R : Type} (k0 : (List Int) → Int → Option R) (v0 : List Port) (v1 : Int) (v7 : Int) (v43 : List Int) (v44 : Int) (nx : ((List Int) × Int) → Option R) (x : (List Int) × Int) : Option R :=
 cond (decide (x.2 < v44)) (
 bindO (idx v43 x.2) fun x3 =>
 bindO (
 cond (x3 != v1) (
 bindO (idx v0 x3) fun x4 =>
 bindO (impl_hasInt x4.2.1 v7) fun r5 =>
 some r5) (
 some false)) fun q6 =>
 cond q6 (
 room (List.length x.1 + List.length ([x3])) (
 nx (x.1 ++ ([x3]), IntKind.wrap .i64 (x.2 + 1)))) (
 nx (x.1, IntKind.wrap .i64 (x.2 + 1)))) (
 k0 x.1 x.2)
def impl_SwitchPacket_T11 {R : Type} (k0 : (List Int) → Int → Option R) (v0 : List Port) (v1 : Int) (v7 : Int) (v33 : Int) (nx : ((List Int) × Int) → Option R) (x : (List Int) × Int) : Option R :=
 cond (decide (x.2 < v33)) (
 room (List.length x.1 + List.length ([x.2])) (
 nx (x.1 ++ ([x.2]), IntKind.wrap .i64 (x.2 + 1)))) (
 k0 x.1 x.2)
def impl_SwitchPacket (a0 : List Port) (a1 : Int) (a2 : Packet) : Option (List Int) :=
 bindO (impl_EntryVlan a0 a1 a2) fun r1 =>
 cond (decide (r1 < 0)) (
 some ([] : List Int)) (
 bindO (impl_portWith a0 a2.1) fun r2 =>
 cond (decide (r2 ≥ 0)) (
 iterL (impl_SwitchPacket_T17
   (fun y7 y8 =>
 some y7) a0 a1 r1 ([r2]) ((List.length ([r2]) : Int))) fuel (([] : List Int), 0)) (
 cond (a2.1 == 281474976710655) (
 iterL (impl_SwitchPacket_T11
   (fun y9 y10 =>
 iterL (impl_SwitchPacket_T17
   (fun y11 y12 =>
 some y11) a0 a1 r1 y9 ((List.length y9 : Int))) fuel (([] : List Int), 0)) a0 a1 r1 ((List.length a0 : Int))) fuel (([] : List Int), 0)) (
 iterL (impl_SwitchPacket_T17
   (fun y13 y14 =>
 some y13) a0 a1 r1 ([0]) ((List.length ([0]) : Int))) fuel (([] : List Int), 0))))
def impl_Word16 (a0 : Int) : Option (Bytes) :=
 bindO (impl_between a0 0 65535) fun r1 =>
 cond (!r1) (
 some ([] : Bytes)) (
 if 8 < 0 then none else (
 some (bytesOf ([(IntKind.wrap .u8 (Int.fdiv a0 (2 ^ (min (Int.toNat 8) (IntKind.bits .i64))))), (IntKind.wrap .u8 a0)]))))
def impl_Word32 (a0 : Int) : Option (Bytes) :=
 bindO (impl_between a0 0 4294967295) fun r1 =>
 cond (!r1) (
 some ([] : Bytes)) (
 if 24 < 0 then none else (
 if 16 < 0 then none else (
 if 8 < 0 then none else (
 some (bytesOf ([(IntKind.wrap .u8 (Int.fdiv a0 (2 ^ (min (Int.toNat 24) (IntKind.bits .i64))))), (IntKind.wrap .u8 (Int.fdiv a0 (2 ^ (min (Int.toNat 16) (IntKind.bits .i64))))), (IntKind.wrap .u8 (Int.fdiv a0 (2 ^ (min (Int.toNat 8) (IntKind.bits .i64))))), (IntKind.wrap .u8 a0)]))))))
def impl_bareSegment (a0 : Segment) : Option (Bytes) :=
 bindO (impl_Word16 a0.2.1) fun r1 =>
 bindO (impl_Word16 a0.2.2.1) fun r2 =>
 room (List.length r1 + List.length r2) (
 cond (a0.1 == 6) (
 bindO (impl_Word32 a0.2.2.2.1) fun r3 =>
 room (List.length (r1 ++ r2) + List.length r3) (
 bindO (impl_Word32 a0.2.2.2.2.1) fun r4 =>
 room (List.length ((r1 ++ r2) ++ r3) + List.length r4) (
 room (List.length (((r1 ++ r2) ++ r3) ++ r4) + List.length (bytesOf ([80, (IntKind.wrap .u8 a0.2.2.2.2.2.1)]))) (
 bindO (impl_Word16 a0.2.2.2.2.2.2.1) fun r5 =>
 room (List.length ((((r1 ++ r2) ++ r3) ++ r4) ++ (bytesOf ([80, (IntKind.wrap .u8 a0.2.2.2.2.2.1)]))) + List.length r5) (
 bindO (impl_Word16 0) fun r6 =>
 room (List.length (((((r1 ++ r2) ++ r3) ++ r4) ++ (bytesOf ([80, (IntKind.wrap .u8 a0.2.2.2.2.2.1)]))) ++ r5) + List.length r6) (
 bindO (impl_Word16 0) fun r7 =>
 room (List.length ((((((r1 ++ r2) ++ r3) ++ r4) ++ (bytesOf ([80, (IntKind.wrap .u8 a0.2.2.2.2.2.1)]))) ++ r5) ++ r6) + List.length r7) (
 room (List.length (((((((r1 ++ r2) ++ r3) ++ r4) ++ (bytesOf ([80, (IntKind.wrap .u8 a0.2.2.2.2.2.1)]))) ++ r5) ++ r6) ++ r7) + List.length a0.2.2.2.2.2.2.2) (
 some ((((((((r1 ++ r2) ++ r3) ++ r4) ++ (bytesOf ([80, (IntKind.wrap .u8 a0.2.2.2.2.2.1)]))) ++ r5) ++ r6) ++ r7) ++ a0.2.2.2.2.2.2.2))))))))) (
 bindO (impl_Word16 (IntKind.wrap .i64 (8 + ((List.length a0.2.2.2.2.2.2.2 : Int))))) fun r8 =>
 room (List.length (r1 ++ r2) + List.length r8) (
 bindO (impl_Word16 0) fun r9 =>
 room (List.length ((r1 ++ r2) ++ r8) + List.length r9) (
 room (List.length (((r1 ++ r2) ++ r8) ++ r9) + List.length a0.2.2.2.2.2.2.2) (
 some ((((r1 ++ r2) ++ r8) ++ r9) ++ a0.2.2.2.2.2.2.2))))))
def impl_PseudoHeader (a0 : Int) (a1 : Int) (a2 : Int) (a3 : Int) : Option (Bytes × Bool) :=
 bindO (
 bindO (impl_between a0 0 4294967295) fun r1 =>
 cond (!r1) (
 some true) (
 bindO (impl_between a1 0 4294967295) fun r2 =>
 cond (!r2) (
 some true) (
 bindO (impl_between a2 0 255) fun r3 =>
 cond (!r3) (
 some true) (
 bindO (impl_between a3 0 65535) fun r4 =>
 some (!r4))))) fun q5 =>
 cond q5 (
 some (([] : Bytes), false)) (
 bindO (impl_Word32 a0) fun r6 =>
 bindO (impl_Word32 a1) fun r7 =>
 room (List.length r6 + List.length r7) (
 room (List.length (r6 ++ r7) + List.length (bytesOf ([0, (IntKind.wrap .u8 a2)]))) (
 bindO (impl_Word16 a3) fun r8 =>
 room (List.length ((r6 ++ r7) ++ (bytesOf ([0, (IntKind.wrap .u8 a2)]))) + List.length r8) (
 some (((r6 ++ r7) ++ (bytesOf ([0, (IntKind.wrap .u8 a2)]))) ++ r8, true)))))
def impl_AddSums (a0 : Int) (a1 : Int) : Option (Int) :=
 bindO (
 bindO (impl_between a0 0 65535) fun r1 =>
 cond (!r1) (
 some true) (
 bindO (impl_between a1 0 65535) fun r2 =>
 some (!r2))) fun q3 =>
 cond q3 (
 some (-1)) (
 cond (decide ((IntKind.wrap .i64 (a0 + a1)) > 65535)) (
 some (IntKind.wrap .i64 ((IntKind.wrap .i64 (a0 + a1)) - 65535))) (
 some (IntKind.wrap .i64 (a0 + a1))))
def impl_SumWords_T3 {R : Type} (k0 : Int → Int → Option R) (v0 : Bytes) (nx : (Int × Int) → Option R) (x : Int × Int) : Option R :=
 cond (decide (x.2 < ((List.length v0 : Int)))) (
 bindO (idx v0 x.2) fun x1 =>
 if 8 < 0 then none else (
 cond (decide ((IntKind.wrap .i64 (x.2 + 1)) < ((List.length v0 : Int)))) (
 bindO (idx v0 (IntKind.wrap .i64 (x.2 + 1))) fun x2 =>
 bindO (impl_AddSums x.1 (IntKind.wrap .i64 (BitVec.toNat (BitVec.ofInt (IntKind.bits .i64) (IntKind.wrap .i64 ((IntKind.wrap .i64 ((UInt8.toNat x1 : Int))) * 2 ^ (min (Int.toNat 8) (IntKind.bits .i64)))) ||| BitVec.ofInt (IntKind.bits .i64) (IntKind.wrap .i64 ((UInt8.toNat x2 : Int))))))) fun r3 =>
 nx (r3, IntKind.wrap .i64 (x.2 + 2))) (
 bindO (impl_AddSums x.1 (IntKind.wrap .i64 ((IntKind.wrap .i64 ((UInt8.toNat x1 : Int))) * 2 ^ (min (Int.toNat 8) (IntKind.bits .i64))))) fun r4 =>
 nx (r4, IntKind.wrap .i64 (x.2 + 2))))) (
 k0 x.1 x.2)
def impl_SumWords (a0 : Bytes) : Option (Int) :=
 iterL (impl_SumWords_T3
   (fun y5 y6 =>
 some y5) a0) fuel (0, 0)
def impl_Checksum (a0 : Bytes) : Option (Int) :=
 bindO (impl_SumWords a0) fun r1 =>
 some (IntKind.wrap .i64 (65535 - r1))
def impl_PutBytes (a0 : Bytes) (a1 : Int) (a2 : Bytes) : Option (Bytes) :=
 bindO (
 cond (decide (a1 < 0)) (
 some true) (
 some (decide (a1 > (IntKind.wrap .i64 (((List.length a0 : Int)) - ((List.length a2 : Int)))))))) fun q1 =>
 cond q1 (
 some a0) (
 bindO (sub a0 0 a1) fun x2 =>
 room (List.length x2 + List.length a2) (
 bindO (sub a0 (IntKind.wrap .i64 (a1 + ((List.length a2 : Int)))) ((List.length a0 : Int))) fun x3 =>
 room (List.length (x2 ++ a2) + List.length x3) (
 some ((x2 ++ a2) ++ x3))))
def impl_sumPlace (a0 : Int) : Option (Int) :=
 cond (a0 == 6) (
 some 16) (
 some 6)
def impl_BuildSegment (a0 : Int) (a1 : Int) (a2 : Segment) : Option (Bytes × Bool) :=
 bindO (impl_SegmentOk a2) fun r1 =>
 cond (!r1) (
 some (([] : Bytes), false)) (
 bindO (impl_bareSegment a2) fun r2 =>
 bindO (impl_PseudoHeader a0 a1 a2.1 ((List.length r2 : Int))) fun r3 =>
 cond (!r3.2) (
 some (([] : Bytes), false)) (
 room (List.length r3.1 + List.length r2) (
 bindO (impl_Checksum (r3.1 ++ r2)) fun r4 =>
 bindO (
 cond (a2.1 == 17) (
 some (r4 == 0)) (
 some false)) fun q5 =>
 cond q5 (
 bindO (impl_sumPlace a2.1) fun r6 =>
 bindO (impl_Word16 65535) fun r7 =>
 bindO (impl_PutBytes r2 r6 r7) fun r8 =>
 some (r8, true)) (
 bindO (impl_sumPlace a2.1) fun r9 =>
 bindO (impl_Word16 r4) fun r10 =>
 bindO (impl_PutBytes r2 r9 r10) fun r11 =>
 some (r11, true)))))
def impl_IpOk (a0 : Ip) : Option (Bool) :=
 bindO (
 bindO (impl_between a0.1 0 255) fun r1 =>
 cond r1 (
 bindO (impl_between a0.2.2.1 0 255) fun r2 =>
 cond r2 (
 bindO (impl_between a0.2.2.2.1 0 255) fun r3 =>
 cond r3 (
 bindO (impl_between a0.2.1 0 65535) fun r4 =>
 cond r4 (
 bindO (impl_between a0.2.2.2.2.1 0 4294967295) fun r5 =>
 cond r5 (
 bindO (impl_between a0.2.2.2.2.2.1 0 4294967295) fun r6 =>
 cond r6 (
 some (decide (((List.length a0.2.2.2.2.2.2 : Int)) ≤ 380))) (
 some false)) (
 some false)) (
 some false)) (
 some false)) (
 some false)) (
 some false)) fun q7 =>
 some q7
def impl_IpHeader (a0 : Ip) : Option (Bytes × Bool) :=
 bindO (impl_IpOk a0) fun r1 =>
 cond (!r1) (
 some (([] : Bytes), false)) (
 bindO (impl_Word16 (IntKind.wrap .i64 (20 + ((List.length a0.2.2.2.2.2.2 : Int))))) fun r2 =>
 room (List.length (bytesOf ([69, (IntKind.wrap .u8 a0.1)])) + List.length r2) (
 bindO (impl_Word16 a0.2.1) fun r3 =>
 room (List.length ((bytesOf ([69, (IntKind.wrap .u8 a0.1)])) ++ r2) + List.length r3) (
 bindO (impl_Word16 16384) fun r4 =>
 room (List.length (((bytesOf ([69, (IntKind.wrap .u8 a0.1)])) ++ r2) ++ r3) + List.length r4) (
 room (List.length ((((bytesOf ([69, (IntKind.wrap .u8 a0.1)])) ++ r2) ++ r3) ++ r4) + List.length (bytesOf ([(IntKind.wrap .u8 a0.2.2.1), (IntKind.wrap .u8 a0.2.2.2.1)]))) (
 bindO (impl_Word16 0) fun r5 =>
 room (List.length (((((bytesOf ([69, (IntKind.wrap .u8 a0.1)])) ++ r2) ++ r3) ++ r4) ++ (bytesOf ([(IntKind.wrap .u8 a0.2.2.1), (IntKind.wrap .u8 a0.2.2.2.1)]))) + List.length r5) (
 bindO (impl_Word32 a0.2.2.2.2.1) fun r6 =>
 room (List.length ((((((bytesOf ([69, (IntKind.wrap .u8 a0.1)])) ++ r2) ++ r3) ++ r4) ++ (bytesOf ([(IntKind.wrap .u8 a0.2.2.1), (IntKind.wrap .u8 a0.2.2.2.1)]))) ++ r5) + List.length r6) (
 bindO (impl_Word32 a0.2.2.2.2.2.1) fun r7 =>
 room (List.length (((((((bytesOf ([69, (IntKind.wrap .u8 a0.1)])) ++ r2) ++ r3) ++ r4) ++ (bytesOf ([(IntKind.wrap .u8 a0.2.2.1), (IntKind.wrap .u8 a0.2.2.2.1)]))) ++ r5) ++ r6) + List.length r7) (
 bindO (impl_Checksum ((((((((bytesOf ([69, (IntKind.wrap .u8 a0.1)])) ++ r2) ++ r3) ++ r4) ++ (bytesOf ([(IntKind.wrap .u8 a0.2.2.1), (IntKind.wrap .u8 a0.2.2.2.1)]))) ++ r5) ++ r6) ++ r7)) fun r8 =>
 bindO (impl_Word16 r8) fun r9 =>
 bindO (impl_PutBytes ((((((((bytesOf ([69, (IntKind.wrap .u8 a0.1)])) ++ r2) ++ r3) ++ r4) ++ (bytesOf ([(IntKind.wrap .u8 a0.2.2.1), (IntKind.wrap .u8 a0.2.2.2.1)]))) ++ r5) ++ r6) ++ r7) 10 r9) fun r10 =>
 some (r10, true)))))))))
def impl_BuildIp (a0 : Ip) : Option (Bytes × Bool) :=
 bindO (impl_IpHeader a0) fun r1 =>
 cond (!r1.2) (
 some (([] : Bytes), false)) (
 room (List.length r1.1 + List.length a0.2.2.2.2.2.2) (
 some (r1.1 ++ a0.2.2.2.2.2.2, true)))
def impl_EthOk (a0 : Eth) : Option (Bool) :=
 bindO (
 bindO (impl_between a0.1 0 281474976710655) fun r1 =>
 cond r1 (
 bindO (impl_between a0.2.1 0 281474976710655) fun r2 =>
 cond r2 (
 bindO (impl_between a0.2.2.1 (-1) 4095) fun r3 =>
 cond r3 (
 bindO (impl_between a0.2.2.2.1 1536 65535) fun r4 =>
 cond r4 (
 cond (a0.2.2.2.1 != 33024) (
 bindO (impl_between ((List.length a0.2.2.2.2 : Int)) 46 400) fun r5 =>
 some r5) (
 some false)) (
 some false)) (
 some false)) (
 some false)) (
 some false)) fun q6 =>
 some q6
def impl_macBytes (a0 : Int) : Option (Bytes) :=
 if 32 < 0 then none else (
 bindO (impl_Word16 (Int.fdiv a0 (2 ^ (min (Int.toNat 32) (IntKind.bits .i64))))) fun r1 =>
 bindO (impl_Word32 (IntKind.wrap .i64 (BitVec.toNat (BitVec.ofInt (IntKind.bits .i64) a0 &&& BitVec.ofInt (IntKind.bits .i64) 4294967295)))) fun r2 =>
 room (List.length r1 + List.length r2) (
 some (r1 ++ r2)))
def impl_BuildEth (a0 : Eth) : Option (Bytes × Bool) :=
 bindO (impl_EthOk a0) fun r1 =>
 cond (!r1) (
 some (([] : Bytes), false)) (
 bindO (impl_macBytes a0.1) fun r2 =>
 bindO (impl_macBytes a0.2.1) fun r3 =>
 room (List.length r2 + List.length r3) (
 cond (decide (a0.2.2.1 ≥ 0)) (
 bindO (impl_Word16 33024) fun r4 =>
 bindO (impl_Word16 a0.2.2.1) fun r5 =>
 room (List.length r4 + List.length r5) (
 room (List.length (r2 ++ r3) + List.length (r4 ++ r5)) (
 bindO (impl_Word16 a0.2.2.2.1) fun r6 =>
 room (List.length ((r2 ++ r3) ++ (r4 ++ r5)) + List.length r6) (
 room (List.length (((r2 ++ r3) ++ (r4 ++ r5)) ++ r6) + List.length a0.2.2.2.2) (
 some ((((r2 ++ r3) ++ (r4 ++ r5)) ++ r6) ++ a0.2.2.2.2, true)))))) (
 bindO (impl_Word16 a0.2.2.2.1) fun r7 =>
 room (List.length (r2 ++ r3) + List.length r7) (
 room (List.length ((r2 ++ r3) ++ r7) + List.length a0.2.2.2.2) (
 some (((r2 ++ r3) ++ r7) ++ a0.2.2.2.2, true))))))
def impl_repeat_T3 {R : Type} (k0 : (List Int) → Int → Option R) (v0 : Int) (v10 : Int) (nx : ((List Int) × Int) → Option R) (x : (List Int) × Int) : Option R :=
 cond (decide (x.2 < v10)) (
 bindO (idx x.1 x.2) fun x1 =>
 bindO (idx x.1 x.2) fun x2 =>
 nx (List.set x.1 (Int.toNat x.2) v0, IntKind.wrap .i64 (x.2 + 1))) (
 k0 x.1 x.2)
def impl_repeat (a0 : Int) (a1 : Int) : Option (Bytes) :=
 if (0 : Int) ≤ a1 ∧ a1 ≤ a1 then (
 room (Int.toNat a1) (
 iterL (impl_repeat_T3
   (fun y3 y4 =>
 some (bytesOf y3)) a0 ((List.length (List.replicate (Int.toNat a1) (0 : Int)) : Int))) fuel (List.replicate (Int.toNat a1) (0 : Int), 0))) else none
def impl_PadBody (a0 : Bytes) : Option (Bytes) :=
 cond (decide (((List.length a0 : Int)) ≥ 46)) (
 some a0) (
 bindO (impl_repeat 0 (IntKind.wrap .i64 (46 - ((List.length a0 : Int))))) fun r1 =>
 room (List.length a0 + List.length r1) (
 some (a0 ++ r1)))
def impl_BuildImage (a0 : Packet) : Option (Bytes × Bool) :=
 bindO (impl_SuperOk a0) fun r1 =>
 cond (!r1) (
 some (([] : Bytes), false)) (
 bindO (impl_BuildSegment a0.2.2.2.2.2.2.1 a0.2.2.2.2.2.2.2.1 a0.2.2.2.2.2.2.2.2) fun r2 =>
 bindO (impl_BuildIp (a0.2.2.2.1, a0.2.2.2.2.1, a0.2.2.2.2.2.1, a0.2.2.2.2.2.2.2.2.1, a0.2.2.2.2.2.2.1, a0.2.2.2.2.2.2.2.1, r2.1)) fun r3 =>
 bindO (impl_PadBody r3.1) fun r4 =>
 bindO (impl_BuildEth (a0.1, a0.2.1, a0.2.2.1, 2048, r4)) fun r5 =>
 some r5)
def impl_Crc32_T7 {R : Type} (k0 : Int → Int → Option R) (v0 : Bytes) (v4 : Int) (nx : (Int × Int) → Option R) (x : Int × Int) : Option R :=
 cond (decide (x.2 < 8)) (
 if 1 < 0 then none else (
 cond ((IntKind.wrap .u32 (BitVec.toNat (BitVec.ofInt (IntKind.bits .u32) x.1 &&& BitVec.ofInt (IntKind.bits .u32) 1))) == 1) (
 nx (IntKind.wrap .u32 (BitVec.toNat (BitVec.ofInt (IntKind.bits .u32) (Int.fdiv x.1 (2 ^ (min (Int.toNat 1) (IntKind.bits .u32)))) ^^^ BitVec.ofInt (IntKind.bits .u32) 3988292384)), IntKind.wrap .i64 (x.2 + 1))) (
 nx (Int.fdiv x.1 (2 ^ (min (Int.toNat 1) (IntKind.bits .u32))), IntKind.wrap .i64 (x.2 + 1))))) (
 k0 x.1 x.2)
def impl_Crc32_T3 {R : Type} (k0 : Int → Int → Option R) (v0 : Bytes) (nx : (Int × Int) → Option R) (x : Int × Int) : Option R :=
 cond (decide (x.2 < ((List.length v0 : Int)))) (
 bindO (idx v0 x.2) fun x1 =>
 iterL (impl_Crc32_T7
   (fun y2 y3 =>
 nx (y2, IntKind.wrap .i64 (x.2 + 1))) v0 x.2) fuel (IntKind.wrap .u32 (BitVec.toNat (BitVec.ofInt (IntKind.bits .u32) x.1 ^^^ BitVec.ofInt (IntKind.bits .u32) (IntKind.wrap .u32 ((UInt8.toNat x1 : Int))))), 0)) (
 k0 x.1 x.2)
def impl_Crc32 (a0 : Bytes) : Option (Int) :=
 iterL (impl_Crc32_T3
   (fun y4 y5 =>
 some (IntKind.wrap .i64 (IntKind.wrap .u32 (BitVec.toNat (BitVec.ofInt (IntKind.bits .u32) (IntKind.max .u32) ^^^ BitVec.ofInt (IntKind.bits .u32) y4))))) a0) fuel (4294967295, 0)
def impl_WithFcs (a0 : Bytes) : Option (Bytes) :=
 bindO (impl_Crc32 a0) fun r1 =>
 if 8 < 0 then none else (
 if 16 < 0 then none else (
 if 24 < 0 then none else (
 room (List.length a0 + List.length (bytesOf ([(IntKind.wrap .u8 r1), (IntKind.wrap .u8 (Int.fdiv r1 (2 ^ (min (Int.toNat 8) (IntKind.bits .i64))))), (IntKind.wrap .u8 (Int.fdiv r1 (2 ^ (min (Int.toNat 16) (IntKind.bits .i64))))), (IntKind.wrap .u8 (Int.fdiv r1 (2 ^ (min (Int.toNat 24) (IntKind.bits .i64)))))]))) (
 some (a0 ++ (bytesOf ([(IntKind.wrap .u8 r1), (IntKind.wrap .u8 (Int.fdiv r1 (2 ^ (min (Int.toNat 8) (IntKind.bits .i64))))), (IntKind.wrap .u8 (Int.fdiv r1 (2 ^ (min (Int.toNat 16) (IntKind.bits .i64))))), (IntKind.wrap .u8 (Int.fdiv r1 (2 ^ (min (Int.toNat 24) (IntKind.bits .i64)))))])))))))
def impl_BuildFrame (a0 : Packet) : Option (Bytes × Bool) :=
 bindO (impl_PacketOk a0) fun r1 =>
 cond (!r1) (
 some (([] : Bytes), false)) (
 bindO (impl_BuildImage a0) fun r2 =>
 cond (!r2.2) (
 some (([] : Bytes), false)) (
 bindO (impl_WithFcs r2.1) fun r3 =>
 some (r3, true)))
def impl_LeavePacket (a0 : List Port) (a1 : Int) (a2 : Int) (a3 : Packet) : Option (Packet) :=
 bindO (
 bindO (impl_PortsOk a0) fun r1 =>
 cond (!r1) (
 some true) (
 bindO (impl_between a1 0 (IntKind.wrap .i64 (((List.length a0 : Int)) - 1))) fun r2 =>
 cond (!r2) (
 some true) (
 bindO (idx a0 a1) fun x3 =>
 bindO (impl_hasInt x3.2.1 a2) fun r4 =>
 cond (!r4) (
 some true) (
 bindO (impl_SuperOk a3) fun r5 =>
 some (!r5))))) fun q6 =>
 cond q6 (
 some (0, 0, 0, 0, 0, 0, 0, 0, 0, 0, 0, 0, 0, 0, 0, ([] : Bytes))) (
 bindO (idx a0 a1) fun x7 =>
 cond (a2 == x7.2.2.1) (
 some (a3.1, a3.2.1, (-1), a3.2.2.2)) (
 some (a3.1, a3.2.1, a2, a3.2.2.2)))
def impl_CheckFcs (a0 : Bytes) : Option (Bytes × Bool) :=
 bindO (
 cond (decide ((IntKind.wrap .i64 (((List.length a0 : Int)) - 4)) < 0)) (
 some true) (
 bindO (sub a0 0 (IntKind.wrap .i64 (((List.length a0 : Int)) - 4))) fun x1 =>
 bindO (impl_WithFcs x1) fun r2 =>
 some (!(r2 == a0)))) fun q3 =>
 cond q3 (
 some (([] : Bytes), false)) (
 bindO (sub a0 0 (IntKind.wrap .i64 (((List.length a0 : Int)) - 4))) fun x4 =>
 some (x4, true))
def impl_Get16 (a0 : Bytes) (a1 : Int) : Option (Int) :=
 bindO (
 cond (decide (a1 < 0)) (
 some true) (
 some (decide (a1 > (IntKind.wrap .i64 (((List.length a0 : Int)) - 2)))))) fun q1 =>
 cond q1 (
 some (-1)) (
 bindO (idx a0 a1) fun x2 =>
 if 8 < 0 then none else (
 bindO (idx a0 (IntKind.wrap .i64 (a1 + 1))) fun x3 =>
 some (IntKind.wrap .i64 (BitVec.toNat (BitVec.ofInt (IntKind.bits .i64) (IntKind.wrap .i64 ((IntKind.wrap .i64 ((UInt8.toNat x2 : Int))) * 2 ^ (min (Int.toNat 8) (IntKind.bits .i64)))) ||| BitVec.ofInt (IntKind.bits .i64) (IntKind.wrap .i64 ((UInt8.toNat x3 : Int))))))))
def impl_Get32 (a0 : Bytes) (a1 : Int) : Option (Int) :=
 bindO (
 cond (decide (a1 < 0)) (
 some true) (
 some (decide (a1 > (IntKind.wrap .i64 (((List.length a0 : Int)) - 4)))))) fun q1 =>
 cond q1 (
 some (-1)) (
 bindO (idx a0 a1) fun x2 =>
 if 24 < 0 then none else (
 bindO (idx a0 (IntKind.wrap .i64 (a1 + 1))) fun x3 =>
 if 16 < 0 then none else (
 bindO (idx a0 (IntKind.wrap .i64 (a1 + 2))) fun x4 =>
 if 8 < 0 then none else (
 bindO (idx a0 (IntKind.wrap .i64 (a1 + 3))) fun x5 =>
 some (IntKind.wrap .i64 (BitVec.toNat (BitVec.ofInt (IntKind.bits .i64) (IntKind.wrap .i64 (BitVec.toNat (BitVec.ofInt (IntKind.bits .i64) (IntKind.wrap .i64 (BitVec.toNat (BitVec.ofInt (IntKind.bits .i64) (IntKind.wrap .i64 ((IntKind.wrap .i64 ((UInt8.toNat x2 : Int))) * 2 ^ (min (Int.toNat 24) (IntKind.bits .i64)))) ||| BitVec.ofInt (IntKind.bits .i64) (IntKind.wrap .i64 ((IntKind.wrap .i64 ((UInt8.toNat x3 : Int))) * 2 ^ (min (Int.toNat 16) (IntKind.bits .i64))))))) ||| BitVec.ofInt (IntKind.bits .i64) (IntKind.wrap .i64 ((IntKind.wrap .i64 ((UInt8.toNat x4 : Int))) * 2 ^ (min (Int.toNat 8) (IntKind.bits .i64))))))) ||| BitVec.ofInt (IntKind.bits .i64) (IntKind.wrap .i64 ((UInt8.toNat x5 : Int))))))))))
def impl_ParseEth (a0 : Bytes) : Option (Eth × Bool) :=
 cond (decide (((List.length a0 : Int)) < 14)) (
 some ((0, 0, 0, 0, ([] : Bytes)), false)) (
 bindO (impl_Get16 a0 0) fun r1 =>
 if 32 < 0 then none else (
 bindO (impl_Get32 a0 2) fun r2 =>
 bindO (impl_Get16 a0 6) fun r3 =>
 if 32 < 0 then none else (
 bindO (impl_Get32 a0 8) fun r4 =>
 bindO (impl_Get16 a0 12) fun r5 =>
 bindO (sub a0 14 ((List.length a0 : Int))) fun x6 =>
 bindO (
 cond (r5 == 33024) (
 some (decide (((List.length a0 : Int)) ≥ 18))) (
 some false)) fun q7 =>
 cond q7 (
 bindO (impl_Get16 a0 14) fun r8 =>
 bindO (impl_Get16 a0 16) fun r9 =>
 bindO (sub a0 18 ((List.length a0 : Int))) fun x10 =>
 bindO (impl_EthOk (IntKind.wrap .i64 (BitVec.toNat (BitVec.ofInt (IntKind.bits .i64) (IntKind.wrap .i64 (r1 * 2 ^ (min (Int.toNat 32) (IntKind.bits .i64)))) ||| BitVec.ofInt (IntKind.bits .i64) r2)), IntKind.wrap .i64 (BitVec.toNat (BitVec.ofInt (IntKind.bits .i64) (IntKind.wrap .i64 (r3 * 2 ^ (min (Int.toNat 32) (IntKind.bits .i64)))) ||| BitVec.ofInt (IntKind.bits .i64) r4)), r8, r9, x10)) fun r11 =>
 cond (!r11) (
 some ((0, 0, 0, 0, ([] : Bytes)), false)) (
 some ((IntKind.wrap .i64 (BitVec.toNat (BitVec.ofInt (IntKind.bits .i64) (IntKind.wrap .i64 (r1 * 2 ^ (min (Int.toNat 32) (IntKind.bits .i64)))) ||| BitVec.ofInt (IntKind.bits .i64) r2)), IntKind.wrap .i64 (BitVec.toNat (BitVec.ofInt (IntKind.bits .i64) (IntKind.wrap .i64 (r3 * 2 ^ (min (Int.toNat 32) (IntKind.bits .i64)))) ||| BitVec.ofInt (IntKind.bits .i64) r4)), r8, r9, x10), true))) (
 bindO (impl_EthOk (IntKind.wrap .i64 (BitVec.toNat (BitVec.ofInt (IntKind.bits .i64) (IntKind.wrap .i64 (r1 * 2 ^ (min (Int.toNat 32) (IntKind.bits .i64)))) ||| BitVec.ofInt (IntKind.bits .i64) r2)), IntKind.wrap .i64 (BitVec.toNat (BitVec.ofInt (IntKind.bits .i64) (IntKind.wrap .i64 (r3 * 2 ^ (min (Int.toNat 32) (IntKind.bits .i64)))) ||| BitVec.ofInt (IntKind.bits .i64) r4)), (-1), r5, x6)) fun r12 =>
 cond (!r12) (
 some ((0, 0, 0, 0, ([] : Bytes)), false)) (
 some ((IntKind.wrap .i64 (BitVec.toNat (BitVec.ofInt (IntKind.bits .i64) (IntKind.wrap .i64 (r1 * 2 ^ (min (Int.toNat 32) (IntKind.bits .i64)))) ||| BitVec.ofInt (IntKind.bits .i64) r2)), IntKind.wrap .i64 (BitVec.toNat (BitVec.ofInt (IntKind.bits .i64) (IntKind.wrap .i64 (r3 * 2 ^ (min (Int.toNat 32) (IntKind.bits .i64)))) ||| BitVec.ofInt (IntKind.bits .i64) r4)), (-1), r5, x6), true))))))
def impl_ParseIp (a0 : Bytes) : Option (Ip × Bool) :=
 bindO (impl_Get16 a0 2) fun r1 =>
 bindO (
 cond (decide (((List.length a0 : Int)) < 20)) (
 some true) (
 cond (decide (r1 < 20)) (
 some true) (
 some (decide (r1 > ((List.length a0 : Int))))))) fun q2 =>
 cond q2 (
 some ((0, 0, 0, 0, 0, 0, ([] : Bytes)), false)) (
 bindO (idx a0 1) fun x3 =>
 bindO (impl_Get16 a0 4) fun r4 =>
 bindO (idx a0 8) fun x5 =>
 bindO (idx a0 9) fun x6 =>
 bindO (impl_Get32 a0 12) fun r7 =>
 bindO (impl_Get32 a0 16) fun r8 =>
 bindO (sub a0 20 r1) fun x9 =>
 bindO (impl_BuildIp (IntKind.wrap .i64 ((UInt8.toNat x3 : Int)), r4, IntKind.wrap .i64 ((UInt8.toNat x5 : Int)), IntKind.wrap .i64 ((UInt8.toNat x6 : Int)), r7, r8, x9)) fun r10 =>
 bindO (
 cond (!r10.2) (
 some true) (
 bindO (sub a0 0 r1) fun x11 =>
 some (!(r10.1 == x11)))) fun q12 =>
 cond q12 (
 some ((0, 0, 0, 0, 0, 0, ([] : Bytes)), false)) (
 some ((IntKind.wrap .i64 ((UInt8.toNat x3 : Int)), r4, IntKind.wrap .i64 ((UInt8.toNat x5 : Int)), IntKind.wrap .i64 ((UInt8.toNat x6 : Int)), r7, r8, x9), true)))
def impl_ParseSegment (a0 : Int) (a1 : Int) (a2 : Int) (a3 : Bytes) : Option (Segment × Bool) :=
 bindO (impl_Get16 a3 0) fun r1 =>
 bindO (impl_Get16 a3 2) fun r2 =>
 bindO (
 cond (a2 == 6) (
 some (decide (((List.length a3 : Int)) ≥ 20))) (
 some false)) fun q3 =>
 cond q3 (
 bindO (impl_Get32 a3 4) fun r4 =>
 bindO (impl_Get32 a3 8) fun r5 =>
 bindO (idx a3 13) fun x6 =>
 bindO (impl_Get16 a3 14) fun r7 =>
 bindO (sub a3 20 ((List.length a3 : Int))) fun x8 =>
 bindO (impl_BuildSegment a0 a1 (a2, r1, r2, r4, r5, IntKind.wrap .i64 ((UInt8.toNat x6 : Int)), r7, x8)) fun r9 =>
 bindO (
 cond (!r9.2) (
 some true) (
 some (!(r9.1 == a3)))) fun q10 =>
 cond q10 (
 some ((0, 0, 0, 0, 0, 0, 0, ([] : Bytes)), false)) (
 some ((a2, r1, r2, r4, r5, IntKind.wrap .i64 ((UInt8.toNat x6 : Int)), r7, x8), true))) (
 bindO (
 cond (a2 == 17) (
 some (decide (((List.length a3 : Int)) ≥ 8))) (
 some false)) fun q11 =>
 cond q11 (
 bindO (sub a3 8 ((List.length a3 : Int))) fun x12 =>
 bindO (impl_BuildSegment a0 a1 (a2, r1, r2, 0, 0, 0, 0, x12)) fun r13 =>
 bindO (
 cond (!r13.2) (
 some true) (
 some (!(r13.1 == a3)))) fun q14 =>
 cond q14 (
 some ((0, 0, 0, 0, 0, 0, 0, ([] : Bytes)), false)) (
 some ((a2, r1, r2, 0, 0, 0, 0, x12), true))) (
 some ((0, 0, 0, 0, 0, 0, 0, ([] : Bytes)), false)))
def impl_ReadImage (a0 : Bytes) : Option (Packet × Int) :=
 bindO (impl_ParseEth a0) fun r1 =>
 bindO (
 cond (!r1.2) (
 some true) (
 some (r1.1.2.2.2.1 != 2048))) fun q2 =>
 cond q2 (
 some ((0, 0, 0, 0, 0, 0, 0, 0, 0, 0, 0, 0, 0, 0, 0, ([] : Bytes)), 2)) (
 bindO (impl_ParseIp r1.1.2.2.2.2) fun r3 =>
 cond (!r3.2) (
 some ((0, 0, 0, 0, 0, 0, 0, 0, 0, 0, 0, 0, 0, 0, 0, ([] : Bytes)), 3)) (
 bindO (impl_ParseSegment r3.1.2.2.2.2.1 r3.1.2.2.2.2.2.1 r3.1.2.2.2.1 r3.1.2.2.2.2.2.2) fun r4 =>
 cond (!r4.2) (
 some ((0, 0, 0, 0, 0, 0, 0, 0, 0, 0, 0, 0, 0, 0, 0, ([] : Bytes)), 4)) (
 bindO (impl_SuperOk (r1.1.1, r1.1.2.1, r1.1.2.2.1, r3.1.1, r3.1.2.1, r3.1.2.2.1, r3.1.2.2.2.2.1, r3.1.2.2.2.2.2.1, r4.1)) fun r5 =>
 cond (!r5) (
 some ((0, 0, 0, 0, 0, 0, 0, 0, 0, 0, 0, 0, 0, 0, 0, ([] : Bytes)), 5)) (
 some ((r1.1.1, r1.1.2.1, r1.1.2.2.1, r3.1.1, r3.1.2.1, r3.1.2.2.1, r3.1.2.2.2.2.1, r3.1.2.2.2.2.2.1, r4.1), 0)))))
def impl_ReadFrame (a0 : Bytes) : Option (Packet × Int) :=
 bindO (impl_CheckFcs a0) fun r1 =>
 cond (!r1.2) (
 some ((0, 0, 0, 0, 0, 0, 0, 0, 0, 0, 0, 0, 0, 0, 0, ([] : Bytes)), 1)) (
 bindO (impl_ReadImage r1.1) fun r2 =>
 cond (r2.2 != 0) (
 some ((0, 0, 0, 0, 0, 0, 0, 0, 0, 0, 0, 0, 0, 0, 0, ([] : Bytes)), r2.2)) (
 bindO (impl_PacketOk r2.1) fun r3 =>
 cond (!r3) (
 some ((0, 0, 0, 0, 0, 0, 0, 0, 0, 0, 0, 0, 0, 0, 0, ([] : Bytes)), 5)) (
 some (r2.1, 0))))
def impl_Accepts (a0 : Filter) (a1 : Packet) : Option (Bool) :=
 bindO (
 bindO (impl_FilterOk a0) fun r1 =>
 cond r1 (
 cond (a1.1 == a0.1) (
 cond (a1.2.2.1 == (-1)) (
 some true) (
 bindO (impl_hasInt a0.2.2 a1.2.2.1) fun r2 =>
 some r2)) (
 cond (a1.1 == 281474976710655) (
 cond (a1.2.2.1 == (-1)) (
 some true) (
 bindO (impl_hasInt a0.2.2 a1.2.2.1) fun r3 =>
 some r3)) (
 cond a0.2.1 (
 cond (a1.2.2.1 == (-1)) (
 some true) (
 bindO (impl_hasInt a0.2.2 a1.2.2.1) fun r4 =>
 some r4)) (
 some false)))) (
 some false)) fun q5 =>
 some q5
def impl_samePrefix (a0 : Int) (a1 : Int) (a2 : Int) : Option (Bool) :=
 if (IntKind.wrap .i64 (32 - a2)) < 0 then none else (
 if (IntKind.wrap .i64 (32 - a2)) < 0 then none else (
 some ((Int.fdiv a0 (2 ^ (min (Int.toNat (IntKind.wrap .i64 (32 - a2))) (IntKind.bits .i64)))) == (Int.fdiv a1 (2 ^ (min (Int.toNat (IntKind.wrap .i64 (32 - a2))) (IntKind.bits .i64)))))))
def impl_RuleMatches (a0 : Rule) (a1 : Packet) : Option (Bool) :=
 bindO (
 bindO (impl_RuleOk a0) fun r1 =>
 cond r1 (
 bindO (impl_SuperOk a1) fun r2 =>
 cond r2 (
 cond (a0.2.1 == 0) (
 bindO (impl_samePrefix a0.2.2.1 a1.2.2.2.2.2.2.1 a0.2.2.2.1) fun r3 =>
 cond r3 (
 bindO (impl_between a1.2.2.2.2.2.2.2.2.2.2.1 a0.2.2.2.2.1 a0.2.2.2.2.2.1) fun r4 =>
 cond r4 (
 cond (a0.2.2.2.2.2.2.1 == (-2)) (
 some true) (
 some (a0.2.2.2.2.2.2.1 == a1.2.2.1))) (
 some false)) (
 some false)) (
 cond (a0.2.1 == a1.2.2.2.2.2.2.2.2.1) (
 bindO (impl_samePrefix a0.2.2.1 a1.2.2.2.2.2.2.1 a0.2.2.2.1) fun r5 =>
 cond r5 (
 bindO (impl_between a1.2.2.2.2.2.2.2.2.2.2.1 a0.2.2.2.2.1 a0.2.2.2.2.2.1) fun r6 =>
 cond r6 (
 cond (a0.2.2.2.2.2.2.1 == (-2)) (
 some true) (
 some (a0.2.2.2.2.2.2.1 == a1.2.2.1))) (
 some false)) (
 some false)) (
 some false))) (
 some false)) (
 some false)) fun q7 =>
 some q7
def impl_FindRule_T5 {R : Type} (k0 : Int → Int → Option R) (v0 : List Rule) (v11 : List Rule) (v12 : Int) (b3 : Packet) (nx : (Int × Int) → Option R) (x : Int × Int) : Option R :=
 cond (decide (x.2 < v12)) (
 bindO (idx v11 x.2) fun x2 =>
 bindO (
 bindO (impl_RuleMatches x2 b3) fun r3 =>
 cond r3 (
 cond (decide (x.1 < 0)) (
 some true) (
 bindO (idx v0 x.1) fun x4 =>
 some (decide (x2.1 < x4.1)))) (
 some false)) fun q5 =>
 cond q5 (
 nx (x.2, IntKind.wrap .i64 (x.2 + 1))) (
 nx (x.1, IntKind.wrap .i64 (x.2 + 1)))) (
 k0 x.1 x.2)
def impl_FindRule (a0 : List Rule) (a1 : Packet) : Option (Int) :=
 bindO (impl_RulesOk a0) fun r1 =>
 cond (!r1) (
 some (-1)) (
 iterL (impl_FindRule_T5
   (fun y6 y7 =>
 some y6) a0 a0 ((List.length a0 : Int)) a1) fuel ((-1), 0))
def impl_FindFlow (a0 : List Slot) (a1 : Flow) : Option (Int) :=
 bindO (impl_TableOk a0) fun r1 =>
 cond (!r1) (
 some (-1)) (
 bindO (impl_slotOf a0 a1) fun r2 =>
 some r2)
def impl_FlowOf (a0 : Packet) : Option (Flow) :=
 some (a0.2.2.2.2.2.2.2.2.1, a0.2.2.2.2.2.2.1, a0.2.2.2.2.2.2.2.1, a0.2.2.2.2.2.2.2.2.2.1, a0.2.2.2.2.2.2.2.2.2.2.1)
def impl_keyBit (a0 : Bytes) (a1 : Int) : Option (Int) :=
 if 8 = 0 then none else (
 bindO (idx a0 (IntKind.wrap .i64 (Int.tdiv a1 8))) fun x1 =>
 if 8 = 0 then none else (
 if (IntKind.wrap .i64 (7 - (Int.tmod a1 8))) < 0 then none else (
 some (IntKind.wrap .i64 (BitVec.toNat (BitVec.ofInt (IntKind.bits .i64) (IntKind.wrap .i64 (Int.fdiv ((UInt8.toNat x1 : Int)) (2 ^ (min (Int.toNat (IntKind.wrap .i64 (7 - (Int.tmod a1 8)))) (IntKind.bits .u8))))) &&& BitVec.ofInt (IntKind.bits .i64) 1))))))
def impl_KeyWindow_T5 {R : Type} (k0 : Int → Int → Option R) (v0 : Bytes) (v1 : Int) (nx : (Int × Int) → Option R) (x : Int × Int) : Option R :=
 cond (decide (x.2 < (IntKind.wrap .i64 (v1 + 32)))) (
 if 1 < 0 then none else (
 bindO (impl_keyBit v0 x.2) fun r3 =>
 nx (IntKind.wrap .i64 (BitVec.toNat (BitVec.ofInt (IntKind.bits .i64) (IntKind.wrap .i64 (x.1 * 2 ^ (min (Int.toNat 1) (IntKind.bits .i64)))) ||| BitVec.ofInt (IntKind.bits .i64) r3)), IntKind.wrap .i64 (x.2 + 1)))) (
 k0 x.1 x.2)
def impl_KeyWindow (a0 : Bytes) (a1 : Int) : Option (Int) :=
 bindO (
 cond (((List.length a0 : Int)) != 16) (
 some true) (
 bindO (impl_between a1 0 96) fun r1 =>
 some (!r1))) fun q2 =>
 cond q2 (
 some (-1)) (
 iterL (impl_KeyWindow_T5
   (fun y4 y5 =>
 some y4) a0 a1) fuel (0, a1))
def impl_HashBytes_T5 {R : Type} (k0 : Int → Int → Option R) (v0 : Bytes) (v1 : Bytes) (nx : (Int × Int) → Option R) (x : Int × Int) : Option R :=
 cond (decide (x.2 < (IntKind.wrap .i64 (8 * ((List.length v1 : Int)))))) (
 bindO (impl_keyBit v1 x.2) fun r2 =>
 cond (r2 == 1) (
 bindO (impl_KeyWindow v0 x.2) fun r3 =>
 nx (IntKind.wrap .i64 (BitVec.toNat (BitVec.ofInt (IntKind.bits .i64) x.1 ^^^ BitVec.ofInt (IntKind.bits .i64) r3)), IntKind.wrap .i64 (x.2 + 1))) (
 nx (x.1, IntKind.wrap .i64 (x.2 + 1)))) (
 k0 x.1 x.2)
def impl_HashBytes (a0 : Bytes) (a1 : Bytes) : Option (Int) :=
 bindO (
 cond (((List.length a0 : Int)) != 16) (
 some true) (
 some (decide (((List.length a1 : Int)) > 12)))) fun q1 =>
 cond q1 (
 some (-1)) (
 iterL (impl_HashBytes_T5
   (fun y4 y5 =>
 some y4) a0 a1) fuel (0, 0))
def impl_HashInput (a0 : Flow) : Option (Bytes) :=
 bindO (impl_Word32 a0.2.1) fun r1 =>
 bindO (impl_Word32 a0.2.2.1) fun r2 =>
 room (List.length r1 + List.length r2) (
 bindO (impl_Word16 a0.2.2.2.1) fun r3 =>
 room (List.length (r1 ++ r2) + List.length r3) (
 bindO (impl_Word16 a0.2.2.2.2) fun r4 =>
 room (List.length ((r1 ++ r2) ++ r3) + List.length r4) (
 some (((r1 ++ r2) ++ r3) ++ r4))))
def impl_HashFlow (a0 : Bytes) (a1 : Flow) : Option (Int) :=
 bindO (impl_HashInput a1) fun r1 =>
 bindO (impl_HashBytes a0 r1) fun r2 =>
 some r2
def impl_EntryOf (a0 : Spread) (a1 : Flow) : Option (Int) :=
 bindO (impl_HashFlow a0.1 a1) fun r1 =>
 bindO (
 cond (((List.length a0.2 : Int)) == 0) (
 some true) (
 some (decide (r1 < 0)))) fun q2 =>
 cond q2 (
 some (-1)) (
 if ((List.length a0.2 : Int)) = 0 then none else (
 some (Int.tmod r1 ((List.length a0.2 : Int)))))
def impl_SpreadQueue (a0 : Spread) (a1 : Int) (a2 : Flow) : Option (Int) :=
 bindO (impl_EntryOf a0 a2) fun r1 =>
 bindO (
 bindO (impl_SpreadOk a0 a1) fun r2 =>
 cond (!r2) (
 some true) (
 some (decide (r1 < 0)))) fun q3 =>
 cond q3 (
 some (-1)) (
 bindO (idx a0.2 r1) fun x4 =>
 some x4)
def impl_SteerPacket (a0 : Steering) (a1 : Int) (a2 : Packet) : Option (Int) :=
 bindO (
 bindO (impl_SteeringOk a0 a1) fun r1 =>
 cond (!r1) (
 some true) (
 bindO (impl_SuperOk a2) fun r2 =>
 some (!r2))) fun q3 =>
 cond q3 (
 some (-1)) (
 bindO (impl_FindRule a0.1 a2) fun r4 =>
 cond (decide (r4 ≥ 0)) (
 bindO (idx a0.1 r4) fun x5 =>
 cond (x5.2.2.2.2.2.2.2.1 == 1) (
 some (-1)) (
 bindO (idx a0.1 r4) fun x6 =>
 some x6.2.2.2.2.2.2.2.2)) (
 bindO (impl_FlowOf a2) fun r7 =>
 bindO (impl_FindFlow a0.2.1 r7) fun r8 =>
 cond (decide (r8 ≥ 0)) (
 bindO (idx a0.2.1 r8) fun x9 =>
 some x9.2.2) (
 bindO (impl_FlowOf a2) fun r10 =>
 bindO (impl_SpreadQueue a0.2.2 a1 r10) fun r11 =>
 some r11)))
def impl_StreamIndex_T2 {R : Type} (k0 : Int → Option R) (k1 : Int → Int → Option R) (v4 : Int) (v7 : List Stream) (v8 : Int) (b3 : Flow) (nx : Int → Option R) (x : Int) : Option R :=
 cond (decide (x < v8)) (
 bindO (idx v7 x) fun x1 =>
 cond ((x1.1.1 == b3.1) && ((x1.1.2.1 == b3.2.1) && ((x1.1.2.2.1 == b3.2.2.1) && ((x1.1.2.2.2.1 == b3.2.2.2.1) && ((x1.1.2.2.2.2 == b3.2.2.2.2) && true))))) (
 k1 x x) (
 nx (IntKind.wrap .i64 (x + 1)))) (
 k0 x)
def impl_StreamIndex (a0 : List Stream) (a1 : Flow) : Option (Int) :=
 iterL (impl_StreamIndex_T2
   (fun y2 =>
 some (-1))
   (fun y3 y4 =>
 some y3) 0 a0 ((List.length a0 : Int)) a1) fuel 0
def impl_Deliver (a0 : List Stream) (a1 : Packet) : Option (List Stream) :=
 bindO (impl_copyStreams a0) fun r1 =>
 bindO (impl_SuperOk a1) fun r2 =>
 cond (!r2) (
 some r1) (
 bindO (impl_FlowOf a1) fun r3 =>
 bindO (impl_StreamIndex r1 r3) fun r4 =>
 cond (a1.2.2.2.2.2.2.2.2.1 == 17) (
 cond (decide (r4 < 0)) (
 room (List.length r1 + List.length ([(r3, 0, ([] : Bytes), false)])) (
 bindO (idx (r1 ++ ([(r3, 0, ([] : Bytes), false)])) ((List.length r1 : Int))) fun x5 =>
 bindO (impl_Word16 ((List.length a1.2.2.2.2.2.2.2.2.2.2.2.2.2.2.2 : Int))) fun r6 =>
 room (List.length r6 + List.length a1.2.2.2.2.2.2.2.2.2.2.2.2.2.2.2) (
 room (List.length x5.2.2.1 + List.length (r6 ++ a1.2.2.2.2.2.2.2.2.2.2.2.2.2.2.2)) (
 bindO (idx (r1 ++ ([(r3, 0, ([] : Bytes), false)])) ((List.length r1 : Int))) fun x7 =>
 bindO (some (r1 ++ ([(r3, 0, ([] : Bytes), false)]))) fun x8 =>
 bindO (idx x8 ((List.length r1 : Int))) fun x9 =>
 some (List.set x8 (Int.toNat ((List.length r1 : Int))) (x9.1, x9.2.1, x5.2.2.1 ++ (r6 ++ a1.2.2.2.2.2.2.2.2.2.2.2.2.2.2.2), x9.2.2.2)))))) (
 bindO (idx r1 r4) fun x10 =>
 bindO (impl_Word16 ((List.length a1.2.2.2.2.2.2.2.2.2.2.2.2.2.2.2 : Int))) fun r11 =>
 room (List.length r11 + List.length a1.2.2.2.2.2.2.2.2.2.2.2.2.2.2.2) (
 room (List.length x10.2.2.1 + List.length (r11 ++ a1.2.2.2.2.2.2.2.2.2.2.2.2.2.2.2)) (
 bindO (idx r1 r4) fun x12 =>
 bindO (idx r1 r4) fun x13 =>
 some (List.set r1 (Int.toNat r4) (x13.1, x13.2.1, x10.2.2.1 ++ (r11 ++ a1.2.2.2.2.2.2.2.2.2.2.2.2.2.2.2), x13.2.2.2)))))) (
 cond ((IntKind.wrap .i64 (BitVec.toNat (BitVec.ofInt (IntKind.bits .i64) a1.2.2.2.2.2.2.2.2.2.2.2.2.2.1 &&& BitVec.ofInt (IntKind.bits .i64) 2))) != 0) (
 cond (decide (r4 < 0)) (
 if 4294967296 = 0 then none else (
 room (List.length r1 + List.length ([(r3, Int.tmod (IntKind.wrap .i64 (a1.2.2.2.2.2.2.2.2.2.2.2.1 + 1)) 4294967296, ([] : Bytes), false)])) (
 some (r1 ++ ([(r3, Int.tmod (IntKind.wrap .i64 (a1.2.2.2.2.2.2.2.2.2.2.2.1 + 1)) 4294967296, ([] : Bytes), false)]))))) (
 some r1)) (
 bindO (
 cond (decide (r4 < 0)) (
 some true) (
 bindO (idx r1 r4) fun x14 =>
 cond x14.2.2.2 (
 some true) (
 some ((IntKind.wrap .i64 (BitVec.toNat (BitVec.ofInt (IntKind.bits .i64) a1.2.2.2.2.2.2.2.2.2.2.2.2.2.1 &&& BitVec.ofInt (IntKind.bits .i64) 4))) != 0)))) fun q15 =>
 cond q15 (
 some r1) (
 bindO (idx r1 r4) fun x16 =>
 bindO (impl_modulo (IntKind.wrap .i64 (x16.2.1 - a1.2.2.2.2.2.2.2.2.2.2.2.1)) 4294967296) fun r17 =>
 cond (decide (r17 ≤ ((List.length a1.2.2.2.2.2.2.2.2.2.2.2.2.2.2.2 : Int)))) (
 bindO (sub a1.2.2.2.2.2.2.2.2.2.2.2.2.2.2.2 r17 ((List.length a1.2.2.2.2.2.2.2.2.2.2.2.2.2.2.2 : Int))) fun x18 =>
 room (List.length x16.2.2.1 + List.length x18) (
 bindO (idx r1 r4) fun x19 =>
 bindO (idx (List.set r1 (Int.toNat r4) (x19.1, x19.2.1, x16.2.2.1 ++ x18, x19.2.2.2)) r4) fun x20 =>
 bindO (impl_modulo (IntKind.wrap .i64 ((IntKind.wrap .i64 (x20.2.1 + ((List.length a1.2.2.2.2.2.2.2.2.2.2.2.2.2.2.2 : Int)))) - r17)) 4294967296) fun r21 =>
 bindO (some (List.set r1 (Int.toNat r4) (x19.1, x19.2.1, x16.2.2.1 ++ x18, x19.2.2.2))) fun x22 =>
 bindO (idx x22 r4) fun x23 =>
 bindO (some (List.set x22 (Int.toNat r4) (x23.1, r21, x23.2.2))) fun x24 =>
 bindO (idx x24 r4) fun x25 =>
 some (List.set x24 (Int.toNat r4) (x25.1, x25.2.1, x25.2.2.1, (IntKind.wrap .i64 (BitVec.toNat (BitVec.ofInt (IntKind.bits .i64) a1.2.2.2.2.2.2.2.2.2.2.2.2.2.1 &&& BitVec.ofInt (IntKind.bits .i64) 1))) != 0)))) (
 some r1)))))
def impl_SoftReceive (a0 : Soft) (a1 : Bytes) : Option (Soft) :=
 bindO (impl_copySoft a0) fun r1 =>
 bindO (impl_ReadFrame a1) fun r2 =>
 bindO (
 bindO (impl_SoftOk a0) fun r3 =>
 cond r3 (
 cond (r2.2 == 0) (
 bindO (impl_Accepts a0.1 r2.1) fun r4 =>
 cond r4 (
 bindO (impl_SteerPacket a0.2.1 a0.2.2.1 r2.1) fun r5 =>
 some (r5 != (-1))) (
 some false)) (
 some false)) (
 some false)) fun q6 =>
 cond q6 (
 bindO (impl_Deliver r1.2.2.2.1 r2.1) fun r7 =>
 some (r1.1, r1.2.1, r1.2.2.1, r7, r1.2.2.2.2)) (
 some r1)
def impl_IdealSwitch_T7 {R : Type} (k0 : Int → Ideal → Option R) (v8 : List Port) (v10 : Int) (v39 : List Int) (v40 : Int) (b5 : Packet) (b6 : Ideal) (nx : (Int × Ideal) → Option R) (x : Int × Ideal) : Option R :=
 cond (decide (x.1 < v40)) (
 bindO (idx v39 x.1) fun x8 =>
 bindO (impl_LeavePacket v8 x8 v10 b5) fun r9 =>
 bindO (impl_BuildFrame r9) fun r10 =>
 cond (x8 == 0) (
 room (List.length x.2.2.2.2.2 + List.length ([r10.1])) (
 nx (IntKind.wrap .i64 (x.1 + 1), x.2.1, x.2.2.1, x.2.2.2.1, x.2.2.2.2.1, x.2.2.2.2.2 ++ ([r10.1])))) (
 bindO (idx x.2.1 (IntKind.wrap .i64 (x8 - 1))) fun x11 =>
 bindO (impl_SoftReceive x11 r10.1) fun r12 =>
 bindO (idx x.2.1 (IntKind.wrap .i64 (x8 - 1))) fun x13 =>
 bindO (idx x.2.1 (IntKind.wrap .i64 (x8 - 1))) fun x14 =>
 nx (IntKind.wrap .i64 (x.1 + 1), List.set x.2.1 (Int.toNat (IntKind.wrap .i64 (x8 - 1))) r12, x.2.2))) (
 k0 x.1 x.2)
def impl_IdealSwitch (a0 : Ideal) (a1 : Int) (a2 : Packet) : Option (Ideal) :=
 bindO (impl_copyIdeal a0) fun r1 =>
 bindO (
 bindO (impl_IdealOk a0) fun r2 =>
 cond (!r2) (
 some true) (
 bindO (impl_PacketOk a2) fun r3 =>
 some (!r3))) fun q4 =>
 cond q4 (
 some r1) (
 bindO (impl_PortsOf a0.2.2.2.1) fun r5 =>
 bindO (impl_EntryVlan r5.1 a1 a2) fun r6 =>
 bindO (impl_SwitchPacket r5.1 a1 a2) fun r7 =>
 iterL (impl_IdealSwitch_T7
   (fun y15 y16 =>
 some y16) r5.1 r6 r7 ((List.length r7 : Int)) a2 (([] : List Soft), ([] : List (List Bytes)), ([] : List VirtualFunction), ([] : List Mailbox), ([] : List Bytes))) fuel (0, r1))
def laws_eqStringS_T4 {R : Type} (k0 : Int → Option R) (k1 : Bool → Int → Option R) (v0 : List Bytes) (v1 : List Bytes) (v4 : Bool) (nx : Int → Option R) (x : Int) : Option R :=
 cond (decide (x < ((List.length v0 : Int)))) (
 bindO (idx v0 x) fun x1 =>
 bindO (idx v1 x) fun x2 =>
 cond (!(x1 == x2)) (
 k1 false x) (
 nx (IntKind.wrap .i64 (x + 1)))) (
 k0 x)
def laws_eqStringS (a0 : List Bytes) (a1 : List Bytes) : Option (Bool) :=
 cond (((List.length a0 : Int)) != ((List.length a1 : Int))) (
 some false) (
 iterL (laws_eqStringS_T4
   (fun y3 =>
 some true)
   (fun y4 y5 =>
 some y4) a0 a1 false) fuel 0)
def laws_eqIntS_T4 {R : Type} (k0 : Int → Option R) (k1 : Bool → Int → Option R) (v0 : List Int) (v1 : List Int) (v4 : Bool) (nx : Int → Option R) (x : Int) : Option R :=
 cond (decide (x < ((List.length v0 : Int)))) (
 bindO (idx v0 x) fun x1 =>
 bindO (idx v1 x) fun x2 =>
 cond (x1 != x2) (
 k1 false x) (
 nx (IntKind.wrap .i64 (x + 1)))) (
 k0 x)
def laws_eqIntS (a0 : List Int) (a1 : List Int) : Option (Bool) :=
 cond (((List.length a0 : Int)) != ((List.length a1 : Int))) (
 some false) (
 iterL (laws_eqIntS_T4
   (fun y3 =>
 some true)
   (fun y4 y5 =>
 some y4) a0 a1 false) fuel 0)
def laws_eqFilter (a0 : Filter) (a1 : Filter) : Option (Bool) :=
 cond (a0.1 != a1.1) (
 some false) (
 cond (!(a0.2.1 == a1.2.1)) (
 some false) (
 bindO (laws_eqIntS a0.2.2 a1.2.2) fun r1 =>
 cond (!r1) (
 some false) (
 some true)))
def laws_eqRule (a0 : Rule) (a1 : Rule) : Option (Bool) :=
 cond (a0.1 != a1.1) (
 some false) (
 cond (a0.2.1 != a1.2.1) (
 some false) (
 cond (a0.2.2.1 != a1.2.2.1) (
 some false) (
 cond (a0.2.2.2.1 != a1.2.2.2.1) (
 some false) (
 cond (a0.2.2.2.2.1 != a1.2.2.2.2.1) (
 some false) (
 cond (a0.2.2.2.2.2.1 != a1.2.2.2.2.2.1) (
 some false) (
 cond (a0.2.2.2.2.2.2.1 != a1.2.2.2.2.2.2.1) (
 some false) (
 cond (a0.2.2.2.2.2.2.2.1 != a1.2.2.2.2.2.2.2.1) (
 some false) (
 cond (a0.2.2.2.2.2.2.2.2 != a1.2.2.2.2.2.2.2.2) (
 some false) (
 some true)))))))))
def laws_eqRuleS_T4 {R : Type} (k0 : Int → Option R) (k1 : Bool → Int → Option R) (v0 : List Rule) (v1 : List Rule) (v4 : Bool) (nx : Int → Option R) (x : Int) : Option R :=
 cond (decide (x < ((List.length v0 : Int)))) (
 bindO (idx v0 x) fun x1 =>
 bindO (idx v1 x) fun x2 =>
 bindO (laws_eqRule x1 x2) fun r3 =>
 cond (!r3) (
 k1 false x) (
 nx (IntKind.wrap .i64 (x + 1)))) (
 k0 x)
def laws_eqRuleS (a0 : List Rule) (a1 : List Rule) : Option (Bool) :=
 cond (((List.length a0 : Int)) != ((List.length a1 : Int))) (
 some false) (
 iterL (laws_eqRuleS_T4
   (fun y4 =>
 some true)
   (fun y5 y6 =>
 some y5) a0 a1 false) fuel 0)
def laws_eqFlow (a0 : Flow) (a1 : Flow) : Option (Bool) :=
 cond (a0.1 != a1.1) (
 some false) (
 cond (a0.2.1 != a1.2.1) (
 some false) (
 cond (a0.2.2.1 != a1.2.2.1) (
 some false) (
 cond (a0.2.2.2.1 != a1.2.2.2.1) (
 some false) (
 cond (a0.2.2.2.2 != a1.2.2.2.2) (
 some false) (
 some true)))))
def laws_eqSlot (a0 : Slot) (a1 : Slot) : Option (Bool) :=
 cond (a0.1 != a1.1) (
 some false) (
 bindO (laws_eqFlow a0.2.1 a1.2.1) fun r1 =>
 cond (!r1) (
 some false) (
 cond (a0.2.2 != a1.2.2) (
 some false) (
 some true)))
def laws_eqSlotS_T4 {R : Type} (k0 : Int → Option R) (k1 : Bool → Int → Option R) (v0 : List Slot) (v1 : List Slot) (v4 : Bool) (nx : Int → Option R) (x : Int) : Option R :=
 cond (decide (x < ((List.length v0 : Int)))) (
 bindO (idx v0 x) fun x1 =>
 bindO (idx v1 x) fun x2 =>
 bindO (laws_eqSlot x1 x2) fun r3 =>
 cond (!r3) (
 k1 false x) (
 nx (IntKind.wrap .i64 (x + 1)))) (
 k0 x)
def laws_eqSlotS (a0 : List Slot) (a1 : List Slot) : Option (Bool) :=
 cond (((List.length a0 : Int)) != ((List.length a1 : Int))) (
 some false) (
 iterL (laws_eqSlotS_T4
   (fun y4 =>
 some true)
   (fun y5 y6 =>
 some y5) a0 a1 false) fuel 0)
def laws_eqFlowTable (a0 : List Slot) (a1 : List Slot) : Option (Bool) :=
 bindO (laws_eqSlotS a0 a1) fun r1 =>
 cond (!r1) (
 some false) (
 some true)
def laws_eqSpread (a0 : Spread) (a1 : Spread) : Option (Bool) :=
 cond (!(a0.1 == a1.1)) (
 some false) (
 bindO (laws_eqIntS a0.2 a1.2) fun r1 =>
 cond (!r1) (
 some false) (
 some true))
def laws_eqSteering (a0 : Steering) (a1 : Steering) : Option (Bool) :=
 bindO (laws_eqRuleS a0.1 a1.1) fun r1 =>
 cond (!r1) (
 some false) (
 bindO (laws_eqFlowTable a0.2.1 a1.2.1) fun r2 =>
 cond (!r2) (
 some false) (
 bindO (laws_eqSpread a0.2.2 a1.2.2) fun r3 =>
 cond (!r3) (
 some false) (
 some true)))
def laws_eqStream (a0 : Stream) (a1 : Stream) : Option (Bool) :=
 bindO (laws_eqFlow a0.1 a1.1) fun r1 =>
 cond (!r1) (
 some false) (
 cond (a0.2.1 != a1.2.1) (
 some false) (
 cond (!(a0.2.2.1 == a1.2.2.1)) (
 some false) (
 cond (!(a0.2.2.2 == a1.2.2.2)) (
 some false) (
 some true))))
def laws_eqStreamS_T4 {R : Type} (k0 : Int → Option R) (k1 : Bool → Int → Option R) (v0 : List Stream) (v1 : List Stream) (v4 : Bool) (nx : Int → Option R) (x : Int) : Option R :=
 cond (decide (x < ((List.length v0 : Int)))) (
 bindO (idx v0 x) fun x1 =>
 bindO (idx v1 x) fun x2 =>
 bindO (laws_eqStream x1 x2) fun r3 =>
 cond (!r3) (
 k1 false x) (
 nx (IntKind.wrap .i64 (x + 1)))) (
 k0 x)
def laws_eqStreamS (a0 : List Stream) (a1 : List Stream) : Option (Bool) :=
 cond (((List.length a0 : Int)) != ((List.length a1 : Int))) (
 some false) (
 iterL (laws_eqStreamS_T4
   (fun y4 =>
 some true)
   (fun y5 y6 =>
 some y5) a0 a1 false) fuel 0)
def laws_eqSoft (a0 : Soft) (a1 : Soft) : Option (Bool) :=
 bindO (laws_eqFilter a0.1 a1.1) fun r1 =>
 cond (!r1) (
 some false) (
 bindO (laws_eqSteering a0.2.1 a1.2.1) fun r2 =>
 cond (!r2) (
 some false) (
 cond (a0.2.2.1 != a1.2.2.1) (
 some false) (
 bindO (laws_eqStreamS a0.2.2.2.1 a1.2.2.2.1) fun r3 =>
 cond (!r3) (
 some false) (
 bindO (laws_eqStringS a0.2.2.2.2 a1.2.2.2.2) fun r4 =>
 cond (!r4) (
 some false) (
 some true)))))
def laws_eqSoftS_T4 {R : Type} (k0 : Int → Option R) (k1 : Bool → Int → Option R) (v0 : List Soft) (v1 : List Soft) (v4 : Bool) (nx : Int → Option R) (x : Int) : Option R :=
 cond (decide (x < ((List.length v0 : Int)))) (
 bindO (idx v0 x) fun x1 =>
 bindO (idx v1 x) fun x2 =>
 bindO (laws_eqSoft x1 x2) fun r3 =>
 cond (!r3) (
 k1 false x) (
 nx (IntKind.wrap .i64 (x + 1)))) (
 k0 x)
def laws_eqSoftS (a0 : List Soft) (a1 : List Soft) : Option (Bool) :=
 cond (((List.length a0 : Int)) != ((List.length a1 : Int))) (
 some false) (
 iterL (laws_eqSoftS_T4
   (fun y4 =>
 some true)
   (fun y5 y6 =>
 some y5) a0 a1 false) fuel 0)
def laws_eqStringSS_T4 {R : Type} (k0 : Int → Option R) (k1 : Bool → Int → Option R) (v0 : List (List Bytes)) (v1 : List (List Bytes)) (v4 : Bool) (nx : Int → Option R) (x : Int) : Option R :=
 cond (decide (x < ((List.length v0 : Int)))) (
 bindO (idx v0 x) fun x1 =>
 bindO (idx v1 x) fun x2 =>
 bindO (laws_eqStringS x1 x2) fun r3 =>
 cond (!r3) (
 k1 false x) (
 nx (IntKind.wrap .i64 (x + 1)))) (
 k0 x)
def laws_eqStringSS (a0 : List (List Bytes)) (a1 : List (List Bytes)) : Option (Bool) :=
 cond (((List.length a0 : Int)) != ((List.length a1 : Int))) (
 some false) (
 iterL (laws_eqStringSS_T4
   (fun y4 =>
 some true)
   (fun y5 y6 =>
 some y5) a0 a1 false) fuel 0)
def laws_eqBucket (a0 : Bucket) (a1 : Bucket) : Option (Bool) :=
 cond (a0.1 != a1.1) (
 some false) (
 cond (a0.2.1 != a1.2.1) (
 some false) (
 cond (a0.2.2 != a1.2.2) (
 some false) (
 some true)))
def laws_eqVirtualFunction (a0 : VirtualFunction) (a1 : VirtualFunction) : Option (Bool) :=
 cond (a0.1 != a1.1) (
 some false) (
 cond (a0.2.1 != a1.2.1) (
 some false) (
 bindO (laws_eqBucket a0.2.2.1 a1.2.2.1) fun r1 =>
 cond (!r1) (
 some false) (
 cond (!(a0.2.2.2.1 == a1.2.2.2.1)) (
 some false) (
 cond (a0.2.2.2.2.1 != a1.2.2.2.2.1) (
 some false) (
 cond (a0.2.2.2.2.2 != a1.2.2.2.2.2) (
 some false) (
 some true))))))
def laws_eqVirtualFunctionS_T4 {R : Type} (k0 : Int → Option R) (k1 : Bool → Int → Option R) (v0 : List VirtualFunction) (v1 : List VirtualFunction) (v4 : Bool) (nx : Int → Option R) (x : Int) : Option R :=
 cond (decide (x < ((List.length v0 : Int)))) (
 bindO (idx v0 x) fun x1 =>
 bindO (idx v1 x) fun x2 =>
 bindO (laws_eqVirtualFunction x1 x2) fun r3 =>
 cond (!r3) (
 k1 false x) (
 nx (IntKind.wrap .i64 (x + 1)))) (
 k0 x)
def laws_eqVirtualFunctionS (a0 : List VirtualFunction) (a1 : List VirtualFunction) : Option (Bool) :=
 cond (((List.length a0 : Int)) != ((List.length a1 : Int))) (
 some false) (
 iterL (laws_eqVirtualFunctionS_T4
   (fun y4 =>
 some true)
   (fun y5 y6 =>
 some y5) a0 a1 false) fuel 0)
def laws_eqMailbox (a0 : Mailbox) (a1 : Mailbox) : Option (Bool) :=
 bindO (laws_eqFilter a0.1 a1.1) fun r1 =>
 cond (!r1) (
 some false) (
 cond (a0.2.1 != a1.2.1) (
 some false) (
 cond (a0.2.2.1 != a1.2.2.1) (
 some false) (
 cond (a0.2.2.2 != a1.2.2.2) (
 some false) (
 some true))))
def laws_eqMailboxS_T4 {R : Type} (k0 : Int → Option R) (k1 : Bool → Int → Option R) (v0 : List Mailbox) (v1 : List Mailbox) (v4 : Bool) (nx : Int → Option R) (x : Int) : Option R :=
 cond (decide (x < ((List.length v0 : Int)))) (
 bindO (idx v0 x) fun x1 =>
 bindO (idx v1 x) fun x2 =>
 bindO (laws_eqMailbox x1 x2) fun r3 =>
 cond (!r3) (
 k1 false x) (
 nx (IntKind.wrap .i64 (x + 1)))) (
 k0 x)
def laws_eqMailboxS (a0 : List Mailbox) (a1 : List Mailbox) : Option (Bool) :=
 cond (((List.length a0 : Int)) != ((List.length a1 : Int))) (
 some false) (
 iterL (laws_eqMailboxS_T4
   (fun y4 =>
 some true)
   (fun y5 y6 =>
 some y5) a0 a1 false) fuel 0)
def laws_eqIdeal (a0 : Ideal) (a1 : Ideal) : Option (Bool) :=
 bindO (laws_eqSoftS a0.1 a1.1) fun r1 =>
 cond (!r1) (
 some false) (
 bindO (laws_eqStringSS a0.2.1 a1.2.1) fun r2 =>
 cond (!r2) (
 some false) (
 bindO (laws_eqVirtualFunctionS a0.2.2.1 a1.2.2.1) fun r3 =>
 cond (!r3) (
 some false) (
 bindO (laws_eqMailboxS a0.2.2.2.1 a1.2.2.2.1) fun r4 =>
 cond (!r4) (
 some false) (
 bindO (laws_eqStringS a0.2.2.2.2 a1.2.2.2.2) fun r5 =>
 cond (!r5) (
 some false) (
 some true)))))
def laws_markText_T4 {R : Type} (k0 : Int → Bytes → Option R) (nx : (Int × Bytes) → Option R) (x : Int × Bytes) : Option R :=
 cond (decide (x.1 > 0)) (
 if 10 = 0 then none else (
 room (List.length (bytesOf ([(IntKind.wrap .u8 (IntKind.wrap .i64 (48 + (Int.tmod x.1 10))))])) + List.length x.2) (
 if 10 = 0 then none else (
 nx (IntKind.wrap .i64 (Int.tdiv x.1 10), (bytesOf ([(IntKind.wrap .u8 (IntKind.wrap .i64 (48 + (Int.tmod x.1 10))))])) ++ x.2))))) (
 k0 x.1 x.2)
def laws_markText (a0 : Int) : Option (Bytes) :=
 cond (decide (a0 ≤ 0)) (
 some ([109, 48] : Bytes)) (
 iterL (laws_markText_T4
   (fun y1 y2 =>
 room (List.length ([109] : Bytes) + List.length y2) (
 some (([109] : Bytes) ++ y2)))) fuel (a0, ([] : Bytes)))
def laws_markStringS_T2 {R : Type} (k0 : (List Bytes) → Int → Int → (List Bytes) → Option R) (nx : ((List Bytes) × Int × Int × List Bytes) → Option R) (x : (List Bytes) × Int × Int × List Bytes) : Option R :=
 cond (decide (x.2.2.1 < ((List.length x.1 : Int)))) (
 bindO (laws_markText x.2.1) fun r1 =>
 bindO (idx x.1 x.2.2.1) fun x2 =>
 bindO (idx x.2.2.2 x.2.2.1) fun x3 =>
 nx (List.set x.2.2.2 (Int.toNat x.2.2.1) r1, IntKind.wrap .i64 (x.2.1 + 1), IntKind.wrap .i64 (x.2.2.1 + 1), List.set x.2.2.2 (Int.toNat x.2.2.1) r1)) (
 k0 x.2.2.2 x.2.1 x.2.2.1 x.2.2.2)
def laws_markStringS (a0 : List Bytes) (a1 : Int) : Option (Int × List Bytes) :=
 iterL (laws_markStringS_T2
   (fun y4 y5 y6 y7 =>
 some (y5, y7))) fuel (a0, a1, 0, a0)
def laws_markIntS_T2 {R : Type} (k0 : (List Int) → Int → Int → (List Int) → Option R) (nx : ((List Int) × Int × Int × List Int) → Option R) (x : (List Int) × Int × Int × List Int) : Option R :=
 cond (decide (x.2.2.1 < ((List.length x.1 : Int)))) (
 bindO (idx x.1 x.2.2.1) fun x1 =>
 bindO (idx x.2.2.2 x.2.2.1) fun x2 =>
 nx (List.set x.2.2.2 (Int.toNat x.2.2.1) x.2.1, IntKind.wrap .i64 (x.2.1 + 1), IntKind.wrap .i64 (x.2.2.1 + 1), List.set x.2.2.2 (Int.toNat x.2.2.1) x.2.1)) (
 k0 x.2.2.2 x.2.1 x.2.2.1 x.2.2.2)
def laws_markIntS (a0 : List Int) (a1 : Int) : Option (Int × List Int) :=
 iterL (laws_markIntS_T2
   (fun y3 y4 y5 y6 =>
 some (y4, y6))) fuel (a0, a1, 0, a0)
def laws_markRuleS_T2 {R : Type} (k0 : (List Rule) → Int → Int → (List Rule) → Option R) (nx : ((List Rule) × Int × Int × List Rule) → Option R) (x : (List Rule) × Int × Int × List Rule) : Option R := cond (decide (x.2.2.1 < (List.length x.1 : Int))) (runW (t := TRule) (fun _ => some []) x.2.2.1 (.pair (.int .i64) (.pair (.int .i64) (.pair (.int .i64) (.pair (.int .i64) (.pair (.int .i64) (.pair (.int .i64) (.pair (.int .i64) (.pair (.int .i64) (.int .i64))))))))) (fun y => y) (fun _ v => v) x.1 x.2.2.2 x.2.1 fun L k => nx (L, k, IntKind.wrap .i64 (x.2.2.1 + 1), L)) (k0 x.2.2.2 x.2.1 x.2.2.1 x.2.2.2)
def laws_markRuleS (a0 : List Rule) (a1 : Int) : Option (Int × List Rule) :=
 iterL (laws_markRuleS_T2
   (fun y27 y28 y29 y30 =>
 some (y28, y30))) fuel (a0, a1, 0, a0)
def laws_markSlotS_T2 {R : Type} (k0 : (List Slot) → Int → Int → (List Slot) → Option R) (nx : ((List Slot) × Int × Int × List Slot) → Option R) (x : (List Slot) × Int × Int × List Slot) : Option R := cond (decide (x.2.2.1 < (List.length x.1 : Int))) (runW (t := TSlot) (fun _ => some []) x.2.2.1 (.pair (.int .i64) (.pair (.pair (.int .i64) (.pair (.int .i64) (.pair (.int .i64) (.pair (.int .i64) (.int .i64))))) (.int .i64))) (fun y => y) (fun _ v => v) x.1 x.2.2.2 x.2.1 fun L k => nx (L, k, IntKind.wrap .i64 (x.2.2.1 + 1), L)) (k0 x.2.2.2 x.2.1 x.2.2.1 x.2.2.2)
def laws_markSlotS (a0 : List Slot) (a1 : Int) : Option (Int × List Slot) :=
 iterL (laws_markSlotS_T2
   (fun y21 y22 y23 y24 =>
 some (y22, y24))) fuel (a0, a1, 0, a0)
def laws_markStreamS_T2 {R : Type} (k0 : (List Stream) → Int → Int → (List Stream) → Option R) (nx : ((List Stream) × Int × Int × List Stream) → Option R) (x : (List Stream) × Int × Int × List Stream) : Option R := cond (decide (x.2.2.1 < (List.length x.1 : Int))) (runW (t := TStream) laws_markText x.2.2.1 (.pair (.pair (.int .i64) (.pair (.int .i64) (.pair (.int .i64) (.pair (.int .i64) (.int .i64))))) (.pair (.int .i64) (.pair .str .bool))) (fun y => y) (fun _ v => v) x.1 x.2.2.2 x.2.1 fun L k => nx (L, k, IntKind.wrap .i64 (x.2.2.1 + 1), L)) (k0 x.2.2.2 x.2.1 x.2.2.1 x.2.2.2)
def laws_markStreamS (a0 : List Stream) (a1 : Int) : Option (Int × List Stream) :=
 iterL (laws_markStreamS_T2
   (fun y25 y26 y27 y28 =>
 some (y26, y28))) fuel (a0, a1, 0, a0)
def laws_markSoftS_T2 {R : Type} (k0 : (List Soft) → Int → Int → (List Soft) → Option R) (nx : ((List Soft) × Int × Int × List Soft) → Option R) (x : (List Soft) × Int × Int × List Soft) : Option R := cond (decide (x.2.2.1 < (List.length x.1 : Int))) (runW (t := TSoft) laws_markText x.2.2.1 (.pair (.pair (.int .i64) (.pair .bool (.sl (e := (.int .i64)) laws_markIntS))) (.pair (.pair (.sl (e := TRule) laws_markRuleS) (.pair (.sl (e := TSlot) laws_markSlotS) (.pair .str (.sl (e := (.int .i64)) laws_markIntS)))) (.pair (.int .i64) (.pair (.sl (e := TStream) laws_markStreamS) (.sl (e := .str) laws_markStringS))))) (fun y => y) (fun _ v => v) x.1 x.2.2.2 x.2.1 fun L k => nx (L, k, IntKind.wrap .i64 (x.2.2.1 + 1), L)) (k0 x.2.2.2 x.2.1 x.2.2.1 x.2.2.2)
def laws_markSoftS (a0 : List Soft) (a1 : Int) : Option (Int × List Soft) :=
 iterL (laws_markSoftS_T2
   (fun y37 y38 y39 y40 =>
 some (y38, y40))) fuel (a0, a1, 0, a0)
def laws_markStringSS_T2 {R : Type} (k0 : (List (List Bytes)) → Int → Int → (List (List Bytes)) → Option R) (nx : ((List (List Bytes)) × Int × Int × List (List Bytes)) → Option R) (x : (List (List Bytes)) × Int × Int × List (List Bytes)) : Option R :=
 cond (decide (x.2.2.1 < ((List.length x.1 : Int)))) (
 bindO (idx x.1 x.2.2.1) fun x1 =>
 bindO (idx x.2.2.2 x.2.2.1) fun x2 =>
 bindO (laws_markStringS x2 x.2.1) fun r3 =>
 nx (List.set x.2.2.2 (Int.toNat x.2.2.1) r3.2, r3.1, IntKind.wrap .i64 (x.2.2.1 + 1), List.set x.2.2.2 (Int.toNat x.2.2.1) r3.2)) (
 k0 x.2.2.2 x.2.1 x.2.2.1 x.2.2.2)
def laws_markStringSS (a0 : List (List Bytes)) (a1 : Int) : Option (Int × List (List Bytes)) :=
 iterL (laws_markStringSS_T2
   (fun y4 y5 y6 y7 =>
 some (y5, y7))) fuel (a0, a1, 0, a0)
def laws_markVirtualFunctionS_T2 {R : Type} (k0 : (List VirtualFunction) → Int → Int → (List VirtualFunction) → Option R) (nx : ((List VirtualFunction) × Int × Int × List VirtualFunction) → Option R) (x : (List VirtualFunction) × Int × Int × List VirtualFunction) : Option R := cond (decide (x.2.2.1 < (List.length x.1 : Int))) (runW (t := TVirtualFunction) (fun _ => some []) x.2.2.1 (.pair (.int .i64) (.pair (.int .i64) (.pair (.pair (.int .i64) (.pair (.int .i64) (.int .i64))) (.pair .bool (.pair (.int .i64) (.int .i64)))))) (fun y => y) (fun _ v => v) x.1 x.2.2.2 x.2.1 fun L k => nx (L, k, IntKind.wrap .i64 (x.2.2.1 + 1), L)) (k0 x.2.2.2 x.2.1 x.2.2.1 x.2.2.2)
def laws_markVirtualFunctionS (a0 : List VirtualFunction) (a1 : Int) : Option (Int × List VirtualFunction) :=
 iterL (laws_markVirtualFunctionS_T2
   (fun y24 y25 y26 y27 =>
 some (y25, y27))) fuel (a0, a1, 0, a0)
def laws_markMailboxS_T2 {R : Type} (k0 : (List Mailbox) → Int → Int → (List Mailbox) → Option R) (nx : ((List Mailbox) × Int × Int × List Mailbox) → Option R) (x : (List Mailbox) × Int × Int × List Mailbox) : Option R := cond (decide (x.2.2.1 < (List.length x.1 : Int))) (runW (t := TMailbox) (fun _ => some []) x.2.2.1 (.pair (.pair (.int .i64) (.pair .bool (.sl (e := (.int .i64)) laws_markIntS))) (.pair (.int .i64) (.pair (.int .i64) (.int .i64)))) (fun y => y) (fun _ v => v) x.1 x.2.2.2 x.2.1 fun L k => nx (L, k, IntKind.wrap .i64 (x.2.2.1 + 1), L)) (k0 x.2.2.2 x.2.1 x.2.2.1 x.2.2.2)
def laws_markMailboxS (a0 : List Mailbox) (a1 : Int) : Option (Int × List Mailbox) :=
 iterL (laws_markMailboxS_T2
   (fun y19 y20 y21 y22 =>
 some (y20, y22))) fuel (a0, a1, 0, a0)
def laws_markIdeal (a0 : Ideal) (a1 : Int) : Option (Int × Ideal) :=
 bindO (laws_markSoftS a0.1 a1) fun r1 =>
 bindO (laws_markStringSS a0.2.1 r1.1) fun r2 =>
 bindO (laws_markVirtualFunctionS a0.2.2.1 r2.1) fun r3 =>
 bindO (laws_markMailboxS a0.2.2.2.1 r3.1) fun r4 =>
 bindO (laws_markStringS a0.2.2.2.2 r4.1) fun r5 =>
 some (r5.1, r1.2, r2.2, r3.2, r4.2, r5.2)
def laws_heldStringS_T2 {R : Type} (k0 : Int → Int → Option R) (k1 : Int → Int → Int → Option R) (v0 : List Bytes) (v4 : Int) (nx : (Int × Int) → Option R) (x : Int × Int) : Option R :=
 cond (decide (x.2 < ((List.length v0 : Int)))) (
 bindO (idx v0 x.2) fun x1 =>
 bindO (laws_markText x.1) fun r2 =>
 cond (!(x1 == r2)) (
 k1 x.1 (-1) x.2) (
 nx (IntKind.wrap .i64 (x.1 + 1), IntKind.wrap .i64 (x.2 + 1)))) (
 k0 x.1 x.2)
def laws_heldStringS (a0 : List Bytes) (a1 : Int) : Option (Int) :=
 iterL (laws_heldStringS_T2
   (fun y3 y4 =>
 some y3)
   (fun y5 y6 y7 =>
 some y6) a0 0) fuel (a1, 0)
def laws_heldIntS_T2 {R : Type} (k0 : Int → Int → Option R) (k1 : Int → Int → Int → Option R) (v0 : List Int) (v4 : Int) (nx : (Int × Int) → Option R) (x : Int × Int) : Option R :=
 cond (decide (x.2 < ((List.length v0 : Int)))) (
 bindO (idx v0 x.2) fun x1 =>
 cond (x1 != x.1) (
 k1 x.1 (-1) x.2) (
 nx (IntKind.wrap .i64 (x.1 + 1), IntKind.wrap .i64 (x.2 + 1)))) (
 k0 x.1 x.2)
def laws_heldIntS (a0 : List Int) (a1 : Int) : Option (Int) :=
 iterL (laws_heldIntS_T2
   (fun y2 y3 =>
 some y2)
   (fun y4 y5 y6 =>
 some y5) a0 0) fuel (a1, 0)
def laws_heldRuleS_T2 {R : Type} (k0 : Int → Int → Option R) (k1 : Int → Int → Int → Option R) (v0 : List Rule) (v4 : Int) (nx : (Int × Int) → Option R) (x : Int × Int) : Option R := cond (decide (x.2 < (List.length v0 : Int))) (runV (t := TRule) (fun _ => some []) x.2 v0 (fun k => k1 k (-1) x.2) (.pair (.int .i64) (.pair (.int .i64) (.pair (.int .i64) (.pair (.int .i64) (.pair (.int .i64) (.pair (.int .i64) (.pair (.int .i64) (.pair (.int .i64) (.int .i64))))))))) (fun y => y) (fun k => nx (k, IntKind.wrap .i64 (x.2 + 1))) x.1) (k0 x.1 x.2)
def laws_heldRuleS (a0 : List Rule) (a1 : Int) : Option (Int) :=
 iterL (laws_heldRuleS_T2
   (fun y10 y11 =>
 some y10)
   (fun y12 y13 y14 =>
 some y13) a0 0) fuel (a1, 0)
def laws_heldSlotS_T2 {R : Type} (k0 : Int → Int → Option R) (k1 : Int → Int → Int → Option R) (v0 : List Slot) (v4 : Int) (nx : (Int × Int) → Option R) (x : Int × Int) : Option R := cond (decide (x.2 < (List.length v0 : Int))) (runV (t := TSlot) (fun _ => some []) x.2 v0 (fun k => k1 k (-1) x.2) (.pair (.int .i64) (.pair (.pair (.int .i64) (.pair (.int .i64) (.pair (.int .i64) (.pair (.int .i64) (.int .i64))))) (.int .i64))) (fun y => y) (fun k => nx (k, IntKind.wrap .i64 (x.2 + 1))) x.1) (k0 x.1 x.2)
def laws_heldSlotS (a0 : List Slot) (a1 : Int) : Option (Int) :=
 iterL (laws_heldSlotS_T2
   (fun y8 y9 =>
 some y8)
   (fun y10 y11 y12 =>
 some y11) a0 0) fuel (a1, 0)
def laws_heldStreamS_T2 {R : Type} (k0 : Int → Int → Option R) (k1 : Int → Int → Int → Option R) (v0 : List Stream) (v4 : Int) (nx : (Int × Int) → Option R) (x : Int × Int) : Option R := cond (decide (x.2 < (List.length v0 : Int))) (runV (t := TStream) laws_markText x.2 v0 (fun k => k1 k (-1) x.2) (.pair (.pair (.int .i64) (.pair (.int .i64) (.pair (.int .i64) (.pair (.int .i64) (.int .i64))))) (.pair (.int .i64) (.pair .str .bool))) (fun y => y) (fun k => nx (k, IntKind.wrap .i64 (x.2 + 1))) x.1) (k0 x.1 x.2)
def laws_heldStreamS (a0 : List Stream) (a1 : Int) : Option (Int) :=
 iterL (laws_heldStreamS_T2
   (fun y10 y11 =>
 some y10)
   (fun y12 y13 y14 =>
 some y13) a0 0) fuel (a1, 0)
def laws_heldSoftS_T2 {R : Type} (k0 : Int → Int → Option R) (k1 : Int → Int → Int → Option R) (v0 : List Soft) (v4 : Int) (nx : (Int × Int) → Option R) (x : Int × Int) : Option R := cond (decide (x.2 < (List.length v0 : Int))) (runV (t := TSoft) laws_markText x.2 v0 (fun k => k1 k (-1) x.2) (.pair (.pair (.int .i64) (.pair .bool (.sl (e := (.int .i64)) laws_heldIntS))) (.pair (.pair (.sl (e := TRule) laws_heldRuleS) (.pair (.sl (e := TSlot) laws_heldSlotS) (.pair .str (.sl (e := (.int .i64)) laws_heldIntS)))) (.pair (.int .i64) (.pair (.sl (e := TStream) laws_heldStreamS) (.sl (e := .str) laws_heldStringS))))) (fun y => y) (fun k => nx (k, IntKind.wrap .i64 (x.2 + 1))) x.1) (k0 x.1 x.2)
def laws_heldSoftS (a0 : List Soft) (a1 : Int) : Option (Int) :=
 iterL (laws_heldSoftS_T2
   (fun y18 y19 =>
 some y18)
   (fun y20 y21 y22 =>
 some y21) a0 0) fuel (a1, 0)
def laws_heldStringSS_T2 {R : Type} (k0 : Int → Int → Option R) (k1 : Int → Int → Int → Option R) (v0 : List (List Bytes)) (v4 : Int) (nx : (Int × Int) → Option R) (x : Int × Int) : Option R :=
 cond (decide (x.2 < ((List.length v0 : Int)))) (
 bindO (idx v0 x.2) fun x1 =>
 bindO (laws_heldStringS x1 x.1) fun r2 =>
 cond (decide (r2 < 0)) (
 k1 r2 (-1) x.2) (
 nx (r2, IntKind.wrap .i64 (x.2 + 1)))) (
 k0 x.1 x.2)
def laws_heldStringSS (a0 : List (List Bytes)) (a1 : Int) : Option (Int) :=
 iterL (laws_heldStringSS_T2
   (fun y3 y4 =>
 some y3)
   (fun y5 y6 y7 =>
 some y6) a0 0) fuel (a1, 0)
def laws_heldVirtualFunctionS_T2 {R : Type} (k0 : Int → Int → Option R) (k1 : Int → Int → Int → Option R) (v0 : List VirtualFunction) (v4 : Int) (nx : (Int × Int) → Option R) (x : Int × Int) : Option R := cond (decide (x.2 < (List.length v0 : Int))) (runV (t := TVirtualFunction) (fun _ => some []) x.2 v0 (fun k => k1 k (-1) x.2) (.pair (.int .i64) (.pair (.int .i64) (.pair (.pair (.int .i64) (.pair (.int .i64) (.int .i64))) (.pair .bool (.pair (.int .i64) (.int .i64)))))) (fun y => y) (fun k => nx (k, IntKind.wrap .i64 (x.2 + 1))) x.1) (k0 x.1 x.2)
def laws_heldVirtualFunctionS (a0 : List VirtualFunction) (a1 : Int) : Option (Int) :=
 iterL (laws_heldVirtualFunctionS_T2
   (fun y9 y10 =>
 some y9)
   (fun y11 y12 y13 =>
 some y12) a0 0) fuel (a1, 0)
def laws_heldMailboxS_T2 {R : Type} (k0 : Int → Int → Option R) (k1 : Int → Int → Int → Option R) (v0 : List Mailbox) (v4 : Int) (nx : (Int × Int) → Option R) (x : Int × Int) : Option R := cond (decide (x.2 < (List.length v0 : Int))) (runV (t := TMailbox) (fun _ => some []) x.2 v0 (fun k => k1 k (-1) x.2) (.pair (.pair (.int .i64) (.pair .bool (.sl (e := (.int .i64)) laws_heldIntS))) (.pair (.int .i64) (.pair (.int .i64) (.int .i64)))) (fun y => y) (fun k => nx (k, IntKind.wrap .i64 (x.2 + 1))) x.1) (k0 x.1 x.2)
def laws_heldMailboxS (a0 : List Mailbox) (a1 : Int) : Option (Int) :=
 iterL (laws_heldMailboxS_T2
   (fun y8 y9 =>
 some y8)
   (fun y10 y11 y12 =>
 some y11) a0 0) fuel (a1, 0)
def laws_heldIdeal (a0 : Ideal) (a1 : Int) : Option (Int) :=
 bindO (laws_heldSoftS a0.1 a1) fun r1 =>
 cond (decide (r1 < 0)) (
 some (-1)) (
 bindO (laws_heldStringSS a0.2.1 r1) fun r2 =>
 cond (decide (r2 < 0)) (
 some (-1)) (
 bindO (laws_heldVirtualFunctionS a0.2.2.1 r2) fun r3 =>
 cond (decide (r3 < 0)) (
 some (-1)) (
 bindO (laws_heldMailboxS a0.2.2.2.1 r3) fun r4 =>
 cond (decide (r4 < 0)) (
 some (-1)) (
 bindO (laws_heldStringS a0.2.2.2.2 r4) fun r5 =>
 cond (decide (r5 < 0)) (
 some (-1)) (
 some r5)))))
def laws_FnExactIdealSwitch (a0 : Ideal) (a1 : Int) (a2 : Packet) : Option (Bool) :=
 bindO (laws_szIdeal a0 1048576) fun r1 =>
 cond (decide (r1 < 0)) (
 some true) (
 bindO (laws_szPacket a2 r1) fun r2 =>
 cond (decide (r2 < 0)) (
 some true) (
 bindO (laws_toIdeal a0) fun r3 =>
 bindO (laws_toPacket a2) fun r4 =>
 bindO (spec_IdealSwitch r3 a1 r4) fun r5 =>
 bindO (laws_toIdeal a0) fun r6 =>
 bindO (laws_toPacket a2) fun r7 =>
 bindO (impl_IdealSwitch r6 a1 r7) fun r8 =>
 bindO (laws_eqIdeal r8 r5) fun r9 =>
 cond (!r9) (
 some false) (
 bindO (laws_toIdeal a0) fun r10 =>
 bindO (laws_eqIdeal r6 r10) fun r11 =>
 cond (!r11) (
 some false) (
 bindO (laws_markIdeal r6 1) fun r12 =>
 bindO (
 cond (decide (r12.1 < 0)) (
 some true) (
 bindO (laws_eqIdeal r8 r5) fun r13 =>
 some (!r13))) fun q14 =>
 cond q14 (
 some false) (
 bindO (laws_markIdeal r8 1) fun r15 =>
 bindO (laws_heldIdeal r15.2 1) fun r16 =>
 cond (decide (r16 < 0)) (
 some false) (
 cond (r16 != r15.1) (
 some false) (
 bindO (laws_toIdeal a0) fun r17 =>
 bindO (laws_toPacket a2) fun r18 =>
 bindO (impl_IdealSwitch r17 a1 r18) fun r19 =>
 bindO (laws_eqIdeal r19 r5) fun r20 =>
 cond (!r20) (
 some false) (
 bindO (laws_heldIdeal r15.2 1) fun r21 =>
 cond (decide (r21 < 0)) (
 some false) (
 cond (r21 != r15.1) (
 some false) (
 some true))))))))))

end

end Go.Pu
