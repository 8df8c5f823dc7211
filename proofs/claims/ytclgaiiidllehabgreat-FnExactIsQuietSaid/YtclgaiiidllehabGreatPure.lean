import Derived.Test.YtclgaiiidllehabGreatDnData
/- The program's functions and the reference's, as functions of data (made by gen.py). -/
namespace Go.Pu
open Go.Dn
set_option linter.unusedVariables false
noncomputable section

abbrev Bytes := List UInt8
abbrev Mapping := Int × Int × Int × Bool
abbrev Ring := Int × Int × Int × Int
abbrev Pool := Int × Int × Int × List Int
abbrev Sent := Int × Int × List Int
abbrev TxQueue := Ring × Pool × (List Sent) × Int
abbrev CompletionQueue := Int × Int × Int
abbrev Packet := Int × Int × Int × Int × Int × Int × Int × Int × Int × Int × Int × Int × Int × Int × Int × Bytes
abbrev Super := Packet × Int × Int
abbrev RxQueue := Ring × CompletionQueue × CompletionQueue × Super × Bool × Int
abbrev Vector := Int × Int × Int × Int × Bool × Bool
abbrev Filter := Int × Bool × List Int
abbrev Rule := Int × Int × Int × Int × Int × Int × Int × Int × Int
abbrev Flow := Int × Int × Int × Int × Int
abbrev Completion := Flow
abbrev Counters := Flow
abbrev Slot := Int × Flow × Int
abbrev Spread := Bytes × List Int
abbrev Steering := (List Rule) × (List Slot) × Bytes × List Int
abbrev Stream := Flow × Int × Bytes × Bool
abbrev Host := (List Bytes) × (List Mapping) × TxQueue × (List RxQueue) × (List Pool) × (List Vector) × (List Bool) × Filter × Steering × (List Stream) × Bool × (List Bytes) × (List Int) × (List Int) × Int × Int × Int × Int × Int
abbrev Segment := Int × Int × Int × Int × Int × Int × Int × Bytes
@[reducible] def TMapping : CT := (.pair (.int .i64) (.pair (.int .i64) (.pair (.int .i64) .bool)))
@[reducible] def TRing : CT := (.pair (.int .i64) (.pair (.int .i64) (.pair (.int .i64) (.int .i64))))
@[reducible] def TPool : CT := (.pair (.int .i64) (.pair (.int .i64) (.pair (.int .i64) (.sl (.int .i64)))))
@[reducible] def TSent : CT := (.pair (.int .i64) (.pair (.int .i64) (.sl (.int .i64))))
@[reducible] def TTxQueue : CT := (.pair TRing (.pair TPool (.pair (.sl TSent) (.int .i64))))
@[reducible] def TCompletionQueue : CT := (.pair (.int .i64) (.pair (.int .i64) (.int .i64)))
@[reducible] def TPacket : CT := (.pair (.int .i64) (.pair (.int .i64) (.pair (.int .i64) (.pair (.int .i64) (.pair (.int .i64) (.pair (.int .i64) (.pair (.int .i64) (.pair (.int .i64) (.pair (.int .i64) (.pair (.int .i64) (.pair (.int .i64) (.pair (.int .i64) (.pair (.int .i64) (.pair (.int .i64) (.pair (.int .i64) .str)))))))))))))))
@[reducible] def TSuper : CT := (.pair TPacket (.pair (.int .i64) (.int .i64)))
@[reducible] def TRxQueue : CT := (.pair TRing (.pair TCompletionQueue (.pair TCompletionQueue (.pair TSuper (.pair .bool (.int .i64))))))
@[reducible] def TVector : CT := (.pair (.int .i64) (.pair (.int .i64) (.pair (.int .i64) (.pair (.int .i64) (.pair .bool .bool)))))
@[reducible] def TFilter : CT := (.pair (.int .i64) (.pair .bool (.sl (.int .i64))))
@[reducible] def TRule : CT := (.pair (.int .i64) (.pair (.int .i64) (.pair (.int .i64) (.pair (.int .i64) (.pair (.int .i64) (.pair (.int .i64) (.pair (.int .i64) (.pair (.int .i64) (.int .i64)))))))))
@[reducible] def TFlow : CT := (.pair (.int .i64) (.pair (.int .i64) (.pair (.int .i64) (.pair (.int .i64) (.int .i64)))))
@[reducible] def TCompletion : CT := TFlow
@[reducible] def TCounters : CT := TFlow
@[reducible] def TSlot : CT := (.pair (.int .i64) (.pair TFlow (.int .i64)))
@[reducible] def TSpread : CT := (.pair .str (.sl (.int .i64)))
@[reducible] def TSteering : CT := (.pair (.sl TRule) (.pair (.sl TSlot) (.pair .str (.sl (.int .i64)))))
@[reducible] def TStream : CT := (.pair TFlow (.pair (.int .i64) (.pair .str .bool)))
@[reducible] def THost : CT := (.pair (.sl .str) (.pair (.sl TMapping) (.pair TTxQueue (.pair (.sl TRxQueue) (.pair (.sl TPool) (.pair (.sl TVector) (.pair (.sl .bool) (.pair TFilter (.pair TSteering (.pair (.sl TStream) (.pair .bool (.pair (.sl .str) (.pair (.sl (.int .i64)) (.pair (.sl (.int .i64)) (.pair (.int .i64) (.pair (.int .i64) (.pair (.int .i64) (.pair (.int .i64) (.int .i64)))))))))))))))))))
@[reducible] def TSegment : CT := (.pair (.int .i64) (.pair (.int .i64) (.pair (.int .i64) (.pair (.int .i64) (.pair (.int .i64) (.pair (.int .i64) (.pair (.int .i64) .str)))))))

def laws_szStringS_T5 {R : Type} (k0 : Int → Int → Option R) (k1 : Int → Int → Int → Option R) (v0 : List Bytes) (v4 : Int) (nx : (Int × Int) → Option R) (x : Int × Int) : Option R :=
 cond (decide (x.2 < ((List.length v0 : Int)))) (
 bindO (idx v0 x.2) fun x1 =>
 cond (decide ((IntKind.wrap .i64 (x.1 - ((List.length x1 : Int)))) < 0)) (
 k1 (IntKind.wrap .i64 (x.1 - ((List.length x1 : Int)))) (-1) x.2) (
 nx (IntKind.wrap .i64 (x.1 - ((List.length x1 : Int))), IntKind.wrap .i64 (x.2 + 1)))) (
 k0 x.1 x.2)
def laws_szStringS (a0 : List Bytes) (a1 : Int) : Option (Int) :=
 cond (decide ((IntKind.wrap .i64 (a1 - ((List.length a0 : Int)))) < 0)) (
 some (-1)) (
 iterL (laws_szStringS_T5
   (fun y2 y3 =>
 some y2)
   (fun y4 y5 y6 =>
 some y5) a0 0) fuel (IntKind.wrap .i64 (a1 - ((List.length a0 : Int))), 0))
def laws_szMemory (a0 : List Bytes) (a1 : Int) : Option (Int) :=
 bindO (laws_szStringS a0 a1) fun r1 =>
 cond (decide (r1 < 0)) (
 some (-1)) (
 some r1)
def laws_szMappingS (a0 : List Mapping) (a1 : Int) : Option (Int) :=
 cond (decide ((IntKind.wrap .i64 (a1 - ((List.length a0 : Int)))) < 0)) (
 some (-1)) (
 some (IntKind.wrap .i64 (a1 - ((List.length a0 : Int)))))
def laws_szIntS (a0 : List Int) (a1 : Int) : Option (Int) :=
 cond (decide ((IntKind.wrap .i64 (a1 - ((List.length a0 : Int)))) < 0)) (
 some (-1)) (
 some (IntKind.wrap .i64 (a1 - ((List.length a0 : Int)))))
def laws_szPool (a0 : Pool) (a1 : Int) : Option (Int) :=
 bindO (laws_szIntS a0.2.2.2 a1) fun r1 =>
 cond (decide (r1 < 0)) (
 some (-1)) (
 some r1)
def laws_szSent (a0 : Sent) (a1 : Int) : Option (Int) :=
 bindO (laws_szIntS a0.2.2 a1) fun r1 =>
 cond (decide (r1 < 0)) (
 some (-1)) (
 some r1)
def laws_szSentS_T5 {R : Type} (k0 : Int → Int → Option R) (k1 : Int → Int → Int → Option R) (v0 : List Sent) (v4 : Int) (nx : (Int × Int) → Option R) (x : Int × Int) : Option R :=
 cond (decide (x.2 < ((List.length v0 : Int)))) (
 bindO (idx v0 x.2) fun x1 =>
 bindO (laws_szSent x1 x.1) fun r2 =>
 cond (decide (r2 < 0)) (
 k1 r2 (-1) x.2) (
 nx (r2, IntKind.wrap .i64 (x.2 + 1)))) (
 k0 x.1 x.2)
def laws_szSentS (a0 : List Sent) (a1 : Int) : Option (Int) :=
 cond (decide ((IntKind.wrap .i64 (a1 - ((List.length a0 : Int)))) < 0)) (
 some (-1)) (
 iterL (laws_szSentS_T5
   (fun y3 y4 =>
 some y3)
   (fun y5 y6 y7 =>
 some y6) a0 0) fuel (IntKind.wrap .i64 (a1 - ((List.length a0 : Int))), 0))
def laws_szTxQueue (a0 : TxQueue) (a1 : Int) : Option (Int) :=
 bindO (laws_szPool a0.2.1 a1) fun r1 =>
 cond (decide (r1 < 0)) (
 some (-1)) (
 bindO (laws_szSentS a0.2.2.1 r1) fun r2 =>
 cond (decide (r2 < 0)) (
 some (-1)) (
 some r2))
def laws_szSegment (a0 : Segment) (a1 : Int) : Option (Int) :=
 cond (decide ((IntKind.wrap .i64 (a1 - ((List.length a0.2.2.2.2.2.2.2 : Int)))) < 0)) (
 some (-1)) (
 some (IntKind.wrap .i64 (a1 - ((List.length a0.2.2.2.2.2.2.2 : Int)))))
def laws_szPacket (a0 : Packet) (a1 : Int) : Option (Int) :=
 bindO (laws_szSegment a0.2.2.2.2.2.2.2.2 a1) fun r1 =>
 cond (decide (r1 < 0)) (
 some (-1)) (
 some r1)
def laws_szSuper (a0 : Super) (a1 : Int) : Option (Int) :=
 bindO (laws_szPacket a0.1 a1) fun r1 =>
 cond (decide (r1 < 0)) (
 some (-1)) (
 some r1)
def laws_szRxQueue (a0 : RxQueue) (a1 : Int) : Option (Int) :=
 bindO (laws_szSuper a0.2.2.2.1 a1) fun r1 =>
 cond (decide (r1 < 0)) (
 some (-1)) (
 some r1)
def laws_szRxQueueS_T5 {R : Type} (k0 : Int → Int → Option R) (k1 : Int → Int → Int → Option R) (v0 : List RxQueue) (v4 : Int) (nx : (Int × Int) → Option R) (x : Int × Int) : Option R :=
 cond (decide (x.2 < ((List.length v0 : Int)))) (
 bindO (idx v0 x.2) fun x1 =>
 bindO (laws_szRxQueue x1 x.1) fun r2 =>
 cond (decide (r2 < 0)) (
 k1 r2 (-1) x.2) (
 nx (r2, IntKind.wrap .i64 (x.2 + 1)))) (
 k0 x.1 x.2)
def laws_szRxQueueS (a0 : List RxQueue) (a1 : Int) : Option (Int) :=
 cond (decide ((IntKind.wrap .i64 (a1 - ((List.length a0 : Int)))) < 0)) (
 some (-1)) (
 iterL (laws_szRxQueueS_T5
   (fun y3 y4 =>
 some y3)
   (fun y5 y6 y7 =>
 some y6) a0 0) fuel (IntKind.wrap .i64 (a1 - ((List.length a0 : Int))), 0))
def laws_szPoolS_T5 {R : Type} (k0 : Int → Int → Option R) (k1 : Int → Int → Int → Option R) (v0 : List Pool) (v4 : Int) (nx : (Int × Int) → Option R) (x : Int × Int) : Option R :=
 cond (decide (x.2 < ((List.length v0 : Int)))) (
 bindO (idx v0 x.2) fun x1 =>
 bindO (laws_szPool x1 x.1) fun r2 =>
 cond (decide (r2 < 0)) (
 k1 r2 (-1) x.2) (
 nx (r2, IntKind.wrap .i64 (x.2 + 1)))) (
 k0 x.1 x.2)
def laws_szPoolS (a0 : List Pool) (a1 : Int) : Option (Int) :=
 cond (decide ((IntKind.wrap .i64 (a1 - ((List.length a0 : Int)))) < 0)) (
 some (-1)) (
 iterL (laws_szPoolS_T5
   (fun y3 y4 =>
 some y3)
   (fun y5 y6 y7 =>
 some y6) a0 0) fuel (IntKind.wrap .i64 (a1 - ((List.length a0 : Int))), 0))
def laws_szVectorS (a0 : List Vector) (a1 : Int) : Option (Int) :=
 cond (decide ((IntKind.wrap .i64 (a1 - ((List.length a0 : Int)))) < 0)) (
 some (-1)) (
 some (IntKind.wrap .i64 (a1 - ((List.length a0 : Int)))))
def laws_szBoolS (a0 : List Bool) (a1 : Int) : Option (Int) :=
 cond (decide ((IntKind.wrap .i64 (a1 - ((List.length a0 : Int)))) < 0)) (
 some (-1)) (
 some (IntKind.wrap .i64 (a1 - ((List.length a0 : Int)))))
def laws_szFilter (a0 : Filter) (a1 : Int) : Option (Int) :=
 bindO (laws_szIntS a0.2.2 a1) fun r1 =>
 cond (decide (r1 < 0)) (
 some (-1)) (
 some r1)
def laws_szRuleS (a0 : List Rule) (a1 : Int) : Option (Int) :=
 cond (decide ((IntKind.wrap .i64 (a1 - ((List.length a0 : Int)))) < 0)) (
 some (-1)) (
 some (IntKind.wrap .i64 (a1 - ((List.length a0 : Int)))))
def laws_szSlotS (a0 : List Slot) (a1 : Int) : Option (Int) :=
 cond (decide ((IntKind.wrap .i64 (a1 - ((List.length a0 : Int)))) < 0)) (
 some (-1)) (
 some (IntKind.wrap .i64 (a1 - ((List.length a0 : Int)))))
def laws_szFlowTable (a0 : List Slot) (a1 : Int) : Option (Int) :=
 bindO (laws_szSlotS a0 a1) fun r1 =>
 cond (decide (r1 < 0)) (
 some (-1)) (
 some r1)
def laws_szSpread (a0 : Spread) (a1 : Int) : Option (Int) :=
 cond (decide ((IntKind.wrap .i64 (a1 - ((List.length a0.1 : Int)))) < 0)) (
 some (-1)) (
 bindO (laws_szIntS a0.2 (IntKind.wrap .i64 (a1 - ((List.length a0.1 : Int))))) fun r1 =>
 cond (decide (r1 < 0)) (
 some (-1)) (
 some r1))
def laws_szSteering (a0 : Steering) (a1 : Int) : Option (Int) :=
 bindO (laws_szRuleS a0.1 a1) fun r1 =>
 cond (decide (r1 < 0)) (
 some (-1)) (
 bindO (laws_szFlowTable a0.2.1 r1) fun r2 =>
 cond (decide (r2 < 0)) (
 some (-1)) (
 bindO (laws_szSpread a0.2.2 r2) fun r3 =>
 cond (decide (r3 < 0)) (
 some (-1)) (
 some r3)))
def laws_szStream (a0 : Stream) (a1 : Int) : Option (Int) :=
 cond (decide ((IntKind.wrap .i64 (a1 - ((List.length a0.2.2.1 : Int)))) < 0)) (
 some (-1)) (
 some (IntKind.wrap .i64 (a1 - ((List.length a0.2.2.1 : Int)))))
def laws_szStreamS_T5 {R : Type} (k0 : Int → Int → Option R) (k1 : Int → Int → Int → Option R) (v0 : List Stream) (v4 : Int) (nx : (Int × Int) → Option R) (x : Int × Int) : Option R :=
 cond (decide (x.2 < ((List.length v0 : Int)))) (
 bindO (idx v0 x.2) fun x1 =>
 bindO (laws_szStream x1 x.1) fun r2 =>
 cond (decide (r2 < 0)) (
 k1 r2 (-1) x.2) (
 nx (r2, IntKind.wrap .i64 (x.2 + 1)))) (
 k0 x.1 x.2)
def laws_szStreamS (a0 : List Stream) (a1 : Int) : Option (Int) :=
 cond (decide ((IntKind.wrap .i64 (a1 - ((List.length a0 : Int)))) < 0)) (
 some (-1)) (
 iterL (laws_szStreamS_T5
   (fun y3 y4 =>
 some y3)
   (fun y5 y6 y7 =>
 some y6) a0 0) fuel (IntKind.wrap .i64 (a1 - ((List.length a0 : Int))), 0))
def laws_szHost (a0 : Host) (a1 : Int) : Option (Int) :=
 bindO (laws_szMemory a0.1 a1) fun r1 =>
 cond (decide (r1 < 0)) (
 some (-1)) (
 bindO (laws_szMappingS a0.2.1 r1) fun r2 =>
 cond (decide (r2 < 0)) (
 some (-1)) (
 bindO (laws_szTxQueue a0.2.2.1 r2) fun r3 =>
 cond (decide (r3 < 0)) (
 some (-1)) (
 bindO (laws_szRxQueueS a0.2.2.2.1 r3) fun r4 =>
 cond (decide (r4 < 0)) (
 some (-1)) (
 bindO (laws_szPoolS a0.2.2.2.2.1 r4) fun r5 =>
 cond (decide (r5 < 0)) (
 some (-1)) (
 bindO (laws_szVectorS a0.2.2.2.2.2.1 r5) fun r6 =>
 cond (decide (r6 < 0)) (
 some (-1)) (
 bindO (laws_szBoolS a0.2.2.2.2.2.2.1 r6) fun r7 =>
 cond (decide (r7 < 0)) (
 some (-1)) (
 bindO (laws_szFilter a0.2.2.2.2.2.2.2.1 r7) fun r8 =>
 cond (decide (r8 < 0)) (
 some (-1)) (
 bindO (laws_szSteering a0.2.2.2.2.2.2.2.2.1 r8) fun r9 =>
 cond (decide (r9 < 0)) (
 some (-1)) (
 bindO (laws_szStreamS a0.2.2.2.2.2.2.2.2.2.1 r9) fun r10 =>
 cond (decide (r10 < 0)) (
 some (-1)) (
 bindO (laws_szStringS a0.2.2.2.2.2.2.2.2.2.2.2.1 r10) fun r11 =>
 cond (decide (r11 < 0)) (
 some (-1)) (
 bindO (laws_szIntS a0.2.2.2.2.2.2.2.2.2.2.2.2.1 r11) fun r12 =>
 cond (decide (r12 < 0)) (
 some (-1)) (
 bindO (laws_szIntS a0.2.2.2.2.2.2.2.2.2.2.2.2.2.1 r12) fun r13 =>
 cond (decide (r13 < 0)) (
 some (-1)) (
 some r13)))))))))))))
def spec_MemoryOk_T2 {R : Type} (k0 : Int → Option R) (k1 : Bool → Int → Option R) (v2 : Bool) (b1 : List Bytes) (nx : Int → Option R) (x : Int) : Option R :=
 cond (decide (x < ((List.length b1 : Int)))) (
 bindO (idx b1 x) fun x1 =>
 cond (((List.length x1 : Int)) != 128) (
 k1 false x) (
 nx (IntKind.wrap .i64 (x + 1)))) (
 k0 x)
def spec_MemoryOk (a0 : List Bytes) : Option (Bool) :=
 iterL (spec_MemoryOk_T2
   (fun y2 =>
 some (decide (((List.length a0 : Int)) ≤ 64)))
   (fun y3 y4 =>
 some y3) false a0) fuel 0
def spec_l01In (a0 : Int) (a1 : Int) (a2 : Int) : Option (Bool) :=
 bindO (
 cond (decide (a0 ≥ a1)) (
 some (decide (a0 ≤ a2))) (
 some false)) fun q1 =>
 some q1
def spec_MappingsOk_T10 {R : Type} (k0 : Int → Option R) (k1 : Bool → Int → Option R) (v0 : List Mapping) (v2 : Bool) (v3 : Int) (b4 : Mapping) (nx : Int → Option R) (x : Int) : Option R :=
 cond (decide (x < v3)) (
 bindO (
 bindO (idx v0 x) fun x6 =>
 cond (x6.1 == b4.1) (
 bindO (idx v0 x) fun x7 =>
 some (x7.2.1 == b4.2.1)) (
 some false)) fun q8 =>
 cond q8 (
 k1 false x) (
 nx (IntKind.wrap .i64 (x + 1)))) (
 k0 x)
def spec_MappingsOk_T4 {R : Type} (k0 : Int → Option R) (k1 : Bool → Int → Option R) (v0 : List Mapping) (v2 : Bool) (nx : Int → Option R) (x : Int) : Option R :=
 cond (decide (x < ((List.length v0 : Int)))) (
 bindO (idx v0 x) fun x1 =>
 bindO (
 bindO (spec_l01In x1.1 0 7) fun r2 =>
 cond (!r2) (
 some true) (
 bindO (spec_l01In x1.2.1 0 1023) fun r3 =>
 cond (!r3) (
 some true) (
 bindO (spec_l01In x1.2.2.1 0 63) fun r4 =>
 some (!r4)))) fun q5 =>
 cond q5 (
 k1 false x) (
 iterL (spec_MappingsOk_T10
   (fun y9 =>
 nx (IntKind.wrap .i64 (x + 1)))
   (fun y10 y11 =>
 k1 y10 x) v0 v2 x x1) fuel 0)) (
 k0 x)
def spec_MappingsOk (a0 : List Mapping) : Option (Bool) :=
 cond (decide (((List.length a0 : Int)) > 96)) (
 some false) (
 iterL (spec_MappingsOk_T4
   (fun y12 =>
 some true)
   (fun y13 y14 =>
 some y13) a0 false) fuel 0)
def spec_PoolOk_T5 {R : Type} (k0 : (List Bool) → Int → Option R) (k1 : Bool → (List Bool) → Int → Option R) (v2 : Bool) (b1 : Pool) (nx : ((List Bool) × Int) → Option R) (x : (List Bool) × Int) : Option R :=
 cond (decide (x.2 < ((List.length b1.2.2.2 : Int)))) (
 bindO (
 bindO (idx b1.2.2.2 x.2) fun x5 =>
 bindO (spec_l01In x5 0 (IntKind.wrap .i64 (b1.2.2.1 - 1))) fun r6 =>
 cond (!r6) (
 some true) (
 bindO (idx b1.2.2.2 x.2) fun x7 =>
 bindO (idx x.1 x7) fun x8 =>
 some x8)) fun q9 =>
 cond q9 (
 k1 false x.1 x.2) (
 bindO (idx b1.2.2.2 x.2) fun x10 =>
 bindO (idx x.1 x10) fun x11 =>
 bindO (idx x.1 x10) fun x12 =>
 nx (List.set x.1 (Int.toNat x10) true, IntKind.wrap .i64 (x.2 + 1)))) (
 k0 x.1 x.2)
def spec_PoolOk (a0 : Pool) : Option (Bool) :=
 bindO (
 bindO (spec_l01In a0.1 0 130944) fun r1 =>
 cond (!r1) (
 some true) (
 bindO (spec_l01In a0.2.1 1 512) fun r2 =>
 cond (!r2) (
 some true) (
 bindO (spec_l01In a0.2.2.1 0 16) fun r3 =>
 some (!r3)))) fun q4 =>
 cond q4 (
 some false) (
 if (0 : Int) ≤ a0.2.2.1 ∧ a0.2.2.1 ≤ a0.2.2.1 then (
 room (Int.toNat a0.2.2.1) (
 iterL (spec_PoolOk_T5
   (fun y13 y14 =>
 some true)
   (fun y15 y16 y17 =>
 some y15) false a0) fuel (List.replicate (Int.toNat a0.2.2.1) false, 0))) else none)
def spec_l20Size (a0 : Int) : Option (Bool) :=
 bindO (
 cond (a0 == 2) (
 some true) (
 cond (a0 == 4) (
 some true) (
 cond (a0 == 8) (
 some true) (
 some (a0 == 16))))) fun q1 =>
 some q1
def spec_RingUsed (a0 : Ring) : Option (Int) :=
 bindO (spec_l20Size a0.2.1) fun r1 =>
 cond (!r1) (
 some 0) (
 some (IntKind.wrap .i64 (BitVec.toNat (BitVec.ofInt (IntKind.bits .i64) (IntKind.wrap .i64 (a0.2.2.2 - a0.2.2.1)) &&& BitVec.ofInt (IntKind.bits .i64) (IntKind.wrap .i64 ((IntKind.wrap .i64 (2 * a0.2.1)) - 1))))))
def spec_RingOk (a0 : Ring) : Option (Bool) :=
 bindO (
 bindO (spec_l01In a0.1 0 130944) fun r1 =>
 cond r1 (
 bindO (spec_l20Size a0.2.1) fun r2 =>
 cond r2 (
 bindO (spec_l01In a0.2.2.1 0 (IntKind.wrap .i64 ((IntKind.wrap .i64 (2 * a0.2.1)) - 1))) fun r3 =>
 cond r3 (
 bindO (spec_l01In a0.2.2.2 0 (IntKind.wrap .i64 ((IntKind.wrap .i64 (2 * a0.2.1)) - 1))) fun r4 =>
 cond r4 (
 bindO (spec_RingUsed a0) fun r5 =>
 some (decide (r5 ≤ a0.2.1))) (
 some false)) (
 some false)) (
 some false)) (
 some false)) fun q6 =>
 some q6
def spec_l21Copy (a0 : Pool) : Option (Pool) :=
 room (List.length ([] : List Int) + List.length a0.2.2.2) (
 some (a0.1, a0.2.1, a0.2.2.1, ([] : List Int) ++ a0.2.2.2))
def spec_GiveBuffers (a0 : Pool) (a1 : List Int) : Option (Pool × Bool) :=
 bindO (spec_l21Copy a0) fun r1 =>
 room (List.length r1.2.2.2 + List.length a1) (
 bindO (
 bindO (spec_PoolOk a0) fun r2 =>
 cond (!r2) (
 some true) (
 bindO (spec_PoolOk (r1.1, r1.2.1, r1.2.2.1, r1.2.2.2 ++ a1)) fun r3 =>
 some (!r3))) fun q4 =>
 cond q4 (
 bindO (spec_l21Copy a0) fun r5 =>
 some (r5, false)) (
 some ((r1.1, r1.2.1, r1.2.2.1, r1.2.2.2 ++ a1), true)))
def spec_TxOk_T6 {R : Type} (k0 : Int → (List Int) → Int → Option R) (k1 : Bool → Int → (List Int) → Int → Option R) (v2 : Bool) (b1 : TxQueue) (nx : (Int × (List Int) × Int) → Option R) (x : Int × (List Int) × Int) : Option R :=
 cond (decide (x.2.2 < ((List.length b1.2.2.1 : Int)))) (
 bindO (idx b1.2.2.1 x.2.2) fun x5 =>
 bindO (
 bindO (spec_l01In x5.2.1 1 b1.1.2.1) fun r6 =>
 cond (!r6) (
 some true) (
 bindO (spec_l01In x5.1 0 65535) fun r7 =>
 some (!r7))) fun q8 =>
 cond q8 (
 k1 false x.1 x.2.1 x.2.2) (
 room (List.length x.2.1 + List.length x5.2.2) (
 nx (IntKind.wrap .i64 (x.1 + x5.2.1), x.2.1 ++ x5.2.2, IntKind.wrap .i64 (x.2.2 + 1))))) (
 k0 x.1 x.2.1 x.2.2)
def spec_TxOk (a0 : TxQueue) : Option (Bool) :=
 bindO (
 bindO (spec_RingOk a0.1) fun r1 =>
 cond (!r1) (
 some true) (
 bindO (spec_PoolOk a0.2.1) fun r2 =>
 cond (!r2) (
 some true) (
 bindO (spec_l01In a0.2.2.2 0 65535) fun r3 =>
 some (!r3)))) fun q4 =>
 cond q4 (
 some false) (
 iterL (spec_TxOk_T6
   (fun y9 y10 y11 =>
 bindO (spec_GiveBuffers a0.2.1 y10) fun r12 =>
 bindO (
 cond r12.2 (
 some (decide (y9 ≤ a0.1.2.1))) (
 some false)) fun q13 =>
 some q13)
   (fun y14 y15 y16 y17 =>
 some y14) false a0) fuel (0, ([] : List Int), 0))
def spec_FilterOk_T2 {R : Type} (k0 : Int → Option R) (k1 : Bool → Int → Option R) (v2 : Bool) (b1 : Filter) (nx : Int → Option R) (x : Int) : Option R :=
 cond (decide (x < ((List.length b1.2.2 : Int)))) (
 bindO (
 bindO (idx b1.2.2 x) fun x1 =>
 bindO (spec_l01In x1 0 4095) fun r2 =>
 cond (!r2) (
 some true) (
 cond (decide (x > 0)) (
 bindO (idx b1.2.2 x) fun x3 =>
 bindO (idx b1.2.2 (IntKind.wrap .i64 (x - 1))) fun x4 =>
 some (decide (x3 ≤ x4))) (
 some false))) fun q5 =>
 cond q5 (
 k1 false x) (
 nx (IntKind.wrap .i64 (x + 1)))) (
 k0 x)
def spec_FilterOk (a0 : Filter) : Option (Bool) :=
 iterL (spec_FilterOk_T2
   (fun y6 =>
 bindO (
 bindO (spec_l01In a0.1 0 281474976710654) fun r7 =>
 cond r7 (
 some (decide (((List.length a0.2.2 : Int)) ≤ 8))) (
 some false)) fun q8 =>
 some q8)
   (fun y9 y10 =>
 some y9) false a0) fuel 0
def spec_RuleOk (a0 : Rule) : Option (Bool) :=
 bindO (
 bindO (spec_l01In a0.1 0 1000) fun r1 =>
 cond (!r1) (
 some true) (
 cond (a0.2.1 != 0) (
 cond (a0.2.1 != 6) (
 cond (a0.2.1 != 17) (
 some true) (
 bindO (spec_l01In a0.2.2.1 0 4294967295) fun r2 =>
 cond (!r2) (
 some true) (
 bindO (spec_l01In a0.2.2.2.1 0 32) fun r3 =>
 some (!r3)))) (
 bindO (spec_l01In a0.2.2.1 0 4294967295) fun r4 =>
 cond (!r4) (
 some true) (
 bindO (spec_l01In a0.2.2.2.1 0 32) fun r5 =>
 some (!r5)))) (
 bindO (spec_l01In a0.2.2.1 0 4294967295) fun r6 =>
 cond (!r6) (
 some true) (
 bindO (spec_l01In a0.2.2.2.1 0 32) fun r7 =>
 some (!r7))))) fun q8 =>
 cond q8 (
 some false) (
 bindO (
 cond (decide (a0.2.2.2.2.1 < 0)) (
 some true) (
 cond (decide (a0.2.2.2.2.1 > a0.2.2.2.2.2.1)) (
 some true) (
 cond (decide (a0.2.2.2.2.2.1 > 65535)) (
 some true) (
 bindO (spec_l01In a0.2.2.2.2.2.2.1 (-2) 4095) fun r9 =>
 some (!r9))))) fun q10 =>
 cond q10 (
 some false) (
 bindO (
 cond (a0.2.2.2.2.2.2.2.1 == 0) (
 bindO (spec_l01In a0.2.2.2.2.2.2.2.2 0 3) fun r11 =>
 cond r11 (
 some true) (
 cond (a0.2.2.2.2.2.2.2.1 == 1) (
 some (a0.2.2.2.2.2.2.2.2 == 0)) (
 some false))) (
 cond (a0.2.2.2.2.2.2.2.1 == 1) (
 some (a0.2.2.2.2.2.2.2.2 == 0)) (
 some false))) fun q12 =>
 some q12))
def spec_RulesOk_T2 {R : Type} (k0 : Int → Option R) (k1 : Bool → Int → Option R) (v0 : List Rule) (v2 : Bool) (nx : Int → Option R) (x : Int) : Option R :=
 cond (decide (x < ((List.length v0 : Int)))) (
 bindO (idx v0 x) fun x1 =>
 bindO (spec_RuleOk x1) fun r2 =>
 cond (!r2) (
 k1 false x) (
 nx (IntKind.wrap .i64 (x + 1)))) (
 k0 x)
def spec_RulesOk (a0 : List Rule) : Option (Bool) :=
 iterL (spec_RulesOk_T2
   (fun y3 =>
 some (decide (((List.length a0 : Int)) ≤ 12)))
   (fun y4 y5 =>
 some y4) a0 false) fuel 0
def spec_HomeSlot_T4 {R : Type} (k0 : Int → Int → Option R) (v4 : List Int) (nx : (Int × Int) → Option R) (x : Int × Int) : Option R :=
 cond (decide (x.2 < ((List.length v4 : Int)))) (
 bindO (idx v4 x.2) fun x1 =>
 nx (IntKind.wrap .i64 (x.1 + (IntKind.wrap .i64 (BitVec.toNat (BitVec.ofInt (IntKind.bits .i64) x1 &&& BitVec.ofInt (IntKind.bits .i64) 7)))), IntKind.wrap .i64 (x.2 + 1))) (
 k0 x.1 x.2)
def spec_HomeSlot (a0 : Flow) : Option (Int) :=
 iterL (spec_HomeSlot_T4
   (fun y2 y3 =>
 if 8 = 0 then none else (
 some (Int.tmod y2 8))) ([a0.1, a0.2.1, a0.2.2.1, a0.2.2.2.1, a0.2.2.2.2])) fuel (0, 0)
def spec_l13Find_T2 {R : Type} (k0 : Int → Option R) (k1 : Int → Int → Option R) (v4 : Int) (b2 : List Slot) (b3 : Flow) (nx : Int → Option R) (x : Int) : Option R :=
 cond (decide (x < 8)) (
 bindO (spec_HomeSlot b3) fun r1 =>
 if 8 = 0 then none else (
 bindO (idx b2 (Int.tmod (IntKind.wrap .i64 (r1 + x)) 8)) fun x2 =>
 cond (x2.1 == 0) (
 k1 (-1) x) (
 bindO (
 bindO (idx b2 (Int.tmod (IntKind.wrap .i64 (r1 + x)) 8)) fun x3 =>
 cond (x3.1 == 1) (
 bindO (idx b2 (Int.tmod (IntKind.wrap .i64 (r1 + x)) 8)) fun x4 =>
 some ((x4.2.1.1 == b3.1) && ((x4.2.1.2.1 == b3.2.1) && ((x4.2.1.2.2.1 == b3.2.2.1) && ((x4.2.1.2.2.2.1 == b3.2.2.2.1) && ((x4.2.1.2.2.2.2 == b3.2.2.2.2) && true)))))) (
 some false)) fun q5 =>
 cond q5 (
 k1 (Int.tmod (IntKind.wrap .i64 (r1 + x)) 8) x) (
 nx (IntKind.wrap .i64 (x + 1)))))) (
 k0 x)
def spec_l13Find (a0 : List Slot) (a1 : Flow) : Option (Int) :=
 iterL (spec_l13Find_T2
   (fun y6 =>
 some (-1))
   (fun y7 y8 =>
 some y7) 0 a0 a1) fuel 0
def spec_TableOk_T4 {R : Type} (k0 : Int → Option R) (k1 : Bool → Int → Option R) (v2 : Bool) (b1 : List Slot) (nx : Int → Option R) (x : Int) : Option R :=
 cond (decide (x < ((List.length b1 : Int)))) (
 bindO (idx b1 x) fun x1 =>
 bindO (
 bindO (spec_l01In x1.1 0 2) fun r2 =>
 cond (!r2) (
 some true) (
 bindO (spec_l01In x1.2.2 0 3) fun r3 =>
 some (!r3))) fun q4 =>
 cond q4 (
 k1 false x) (
 cond (x1.1 != 1) (
 bindO (
 cond (x1.2.2 != 0) (
 some true) (
 some (!((x1.2.1.1 == 0) && ((x1.2.1.2.1 == 0) && ((x1.2.1.2.2.1 == 0) && ((x1.2.1.2.2.2.1 == 0) && ((x1.2.1.2.2.2.2 == 0) && true)))))))) fun q5 =>
 cond q5 (
 k1 false x) (
 nx (IntKind.wrap .i64 (x + 1)))) (
 bindO (spec_l13Find b1 x1.2.1) fun r6 =>
 cond (r6 != x) (
 k1 false x) (
 nx (IntKind.wrap .i64 (x + 1)))))) (
 k0 x)
def spec_TableOk (a0 : List Slot) : Option (Bool) :=
 cond (((List.length a0 : Int)) != 8) (
 some false) (
 iterL (spec_TableOk_T4
   (fun y7 =>
 some true)
   (fun y8 y9 =>
 some y8) false a0) fuel 0)
def spec_l12Size (a0 : Int) : Option (Bool) :=
 bindO (
 cond (a0 == 1) (
 some true) (
 cond (a0 == 2) (
 some true) (
 cond (a0 == 4) (
 some true) (
 cond (a0 == 8) (
 some true) (
 some (a0 == 16)))))) fun q1 =>
 some q1
def spec_SpreadOk_T4 {R : Type} (k0 : Int → Option R) (k1 : Bool → Int → Option R) (v1 : Int) (v4 : Bool) (b2 : Spread) (nx : Int → Option R) (x : Int) : Option R :=
 cond (decide (x < ((List.length b2.2 : Int)))) (
 bindO (idx b2.2 x) fun x4 =>
 bindO (spec_l01In x4 0 (IntKind.wrap .i64 (v1 - 1))) fun r5 =>
 cond (!r5) (
 k1 false x) (
 nx (IntKind.wrap .i64 (x + 1)))) (
 k0 x)
def spec_SpreadOk (a0 : Spread) (a1 : Int) : Option (Bool) :=
 bindO (
 bindO (spec_l01In a1 1 4) fun r1 =>
 cond (!r1) (
 some true) (
 cond (((List.length a0.1 : Int)) != 16) (
 some true) (
 bindO (spec_l12Size ((List.length a0.2 : Int))) fun r2 =>
 some (!r2)))) fun q3 =>
 cond q3 (
 some false) (
 iterL (spec_SpreadOk_T4
   (fun y6 =>
 some true)
   (fun y7 y8 =>
 some y7) a1 false a0) fuel 0)
def spec_SteeringOk_T4 {R : Type} (k0 : Int → Option R) (k1 : Bool → Int → Option R) (v1 : Int) (v4 : Bool) (b2 : Steering) (nx : Int → Option R) (x : Int) : Option R :=
 cond (decide (x < ((List.length b2.1 : Int)))) (
 bindO (idx b2.1 x) fun x5 =>
 cond (decide (x5.2.2.2.2.2.2.2.2 ≥ v1)) (
 k1 false x) (
 nx (IntKind.wrap .i64 (x + 1)))) (
 k0 x)
def spec_SteeringOk_T9 {R : Type} (k0 : Int → Option R) (k1 : Bool → Int → Option R) (v1 : Int) (v4 : Bool) (b2 : Steering) (nx : Int → Option R) (x : Int) : Option R :=
 cond (decide (x < ((List.length b2.2.1 : Int)))) (
 bindO (idx b2.2.1 x) fun x7 =>
 cond (decide (x7.2.2 ≥ v1)) (
 k1 false x) (
 nx (IntKind.wrap .i64 (x + 1)))) (
 k0 x)
def spec_SteeringOk (a0 : Steering) (a1 : Int) : Option (Bool) :=
 bindO (
 bindO (spec_RulesOk a0.1) fun r1 =>
 cond (!r1) (
 some true) (
 bindO (spec_TableOk a0.2.1) fun r2 =>
 cond (!r2) (
 some true) (
 bindO (spec_SpreadOk a0.2.2 a1) fun r3 =>
 some (!r3)))) fun q4 =>
 cond q4 (
 some false) (
 iterL (spec_SteeringOk_T4
   (fun y6 =>
 iterL (spec_SteeringOk_T9
   (fun y8 =>
 some true)
   (fun y9 y10 =>
 some y9) a1 false a0) fuel 0)
   (fun y11 y12 =>
 some y11) a1 false a0) fuel 0)
def spec_QueueOk (a0 : CompletionQueue) : Option (Bool) :=
 bindO (
 bindO (spec_l01In a0.1 0 130944) fun r1 =>
 cond r1 (
 bindO (spec_l20Size a0.2.1) fun r2 =>
 cond r2 (
 bindO (spec_l01In a0.2.2 0 (IntKind.wrap .i64 ((IntKind.wrap .i64 (2 * a0.2.1)) - 1))) fun r3 =>
 some r3) (
 some false)) (
 some false)) fun q4 =>
 some q4
def spec_SegmentOk (a0 : Segment) : Option (Bool) :=
 bindO (
 bindO (spec_l01In a0.2.1 0 65535) fun r1 =>
 cond (!r1) (
 some true) (
 bindO (spec_l01In a0.2.2.1 0 65535) fun r2 =>
 cond (!r2) (
 some true) (
 some (decide (((List.length a0.2.2.2.2.2.2.2 : Int)) > 320))))) fun q3 =>
 cond q3 (
 some false) (
 cond (a0.1 == 17) (
 bindO (
 cond (a0.2.2.2.1 == 0) (
 cond (a0.2.2.2.2.1 == 0) (
 cond (a0.2.2.2.2.2.1 == 0) (
 some (a0.2.2.2.2.2.2.1 == 0)) (
 some false)) (
 some false)) (
 some false)) fun q4 =>
 some q4) (
 bindO (
 cond (a0.1 == 6) (
 bindO (spec_l01In a0.2.2.2.1 0 4294967295) fun r5 =>
 cond r5 (
 bindO (spec_l01In a0.2.2.2.2.1 0 4294967295) fun r6 =>
 cond r6 (
 bindO (spec_l01In a0.2.2.2.2.2.1 0 31) fun r7 =>
 cond r7 (
 bindO (spec_l01In a0.2.2.2.2.2.2.1 0 65535) fun r8 =>
 some r8) (
 some false)) (
 some false)) (
 some false)) (
 some false)) fun q9 =>
 some q9))
def spec_SuperOk (a0 : Packet) : Option (Bool) :=
 bindO (
 bindO (spec_l01In a0.1 0 281474976710655) fun r1 =>
 cond (!r1) (
 some true) (
 bindO (spec_l01In a0.2.1 0 281474976710655) fun r2 =>
 cond (!r2) (
 some true) (
 bindO (spec_l01In a0.2.2.1 (-1) 4095) fun r3 =>
 cond (!r3) (
 some true) (
 bindO (spec_l01In a0.2.2.2.1 0 255) fun r4 =>
 cond (!r4) (
 some true) (
 bindO (spec_l01In a0.2.2.2.2.2.1 0 255) fun r5 =>
 cond (!r5) (
 some true) (
 bindO (spec_l01In a0.2.2.2.2.1 0 65535) fun r6 =>
 cond (!r6) (
 some true) (
 bindO (spec_l01In a0.2.2.2.2.2.2.1 0 4294967295) fun r7 =>
 cond (!r7) (
 some true) (
 bindO (spec_l01In a0.2.2.2.2.2.2.2.1 0 4294967295) fun r8 =>
 cond (!r8) (
 some true) (
 bindO (spec_SegmentOk a0.2.2.2.2.2.2.2.2) fun r9 =>
 some (!r9)))))))))) fun q10 =>
 cond q10 (
 some false) (
 bindO (
 cond (a0.2.2.2.2.2.2.2.2.1 == 6) (
 some ((IntKind.wrap .i64 (BitVec.toNat (BitVec.ofInt (IntKind.bits .i64) a0.2.2.2.2.2.2.2.2.2.2.2.2.2.1 &&& ~~~ BitVec.ofInt (IntKind.bits .i64) 9))) == 16)) (
 some false)) fun q11 =>
 bindO (
 cond q11 (
 some true) (
 some (decide (((List.length a0.2.2.2.2.2.2.2.2.2.2.2.2.2.2.2 : Int)) ≤ 128)))) fun q12 =>
 some q12)
def spec_RxOk (a0 : RxQueue) : Option (Bool) :=
 bindO (
 bindO (spec_RingOk a0.1) fun r1 =>
 cond (!r1) (
 some true) (
 bindO (spec_QueueOk a0.2.1) fun r2 =>
 cond (!r2) (
 some true) (
 bindO (spec_QueueOk a0.2.2.1) fun r3 =>
 cond (!r3) (
 some true) (
 cond (a0.2.1.1 != a0.2.2.1.1) (
 some true) (
 cond (a0.2.1.2.1 != a0.2.2.1.2.1) (
 some true) (
 bindO (spec_l01In a0.2.2.2.2.2 0 1000000000000) fun r4 =>
 some (!r4))))))) fun q5 =>
 cond q5 (
 some false) (
 cond (!a0.2.2.2.2.1) (
 some ((a0.2.2.2.1.1.1 == 0) && ((a0.2.2.2.1.1.2.1 == 0) && ((a0.2.2.2.1.1.2.2.1 == 0) && ((a0.2.2.2.1.1.2.2.2.1 == 0) && ((a0.2.2.2.1.1.2.2.2.2.1 == 0) && ((a0.2.2.2.1.1.2.2.2.2.2.1 == 0) && ((a0.2.2.2.1.1.2.2.2.2.2.2.1 == 0) && ((a0.2.2.2.1.1.2.2.2.2.2.2.2.1 == 0) && ((a0.2.2.2.1.1.2.2.2.2.2.2.2.2.1 == 0) && ((a0.2.2.2.1.1.2.2.2.2.2.2.2.2.2.1 == 0) && ((a0.2.2.2.1.1.2.2.2.2.2.2.2.2.2.2.1 == 0) && ((a0.2.2.2.1.1.2.2.2.2.2.2.2.2.2.2.2.1 == 0) && ((a0.2.2.2.1.1.2.2.2.2.2.2.2.2.2.2.2.2.1 == 0) && ((a0.2.2.2.1.1.2.2.2.2.2.2.2.2.2.2.2.2.2.1 == 0) && ((a0.2.2.2.1.1.2.2.2.2.2.2.2.2.2.2.2.2.2.2.1 == 0) && ((a0.2.2.2.1.1.2.2.2.2.2.2.2.2.2.2.2.2.2.2.2 == ([] : Bytes)) && ((a0.2.2.2.1.2.1 == 0) && ((a0.2.2.2.1.2.2 == 0) && true))))))))))))))))))) (
 bindO (
 bindO (spec_SuperOk a0.2.2.2.1.1) fun r6 =>
 cond r6 (
 bindO (spec_l01In a0.2.2.2.1.2.1 0 320) fun r7 =>
 cond r7 (
 bindO (spec_l01In a0.2.2.2.1.2.2 1 320) fun r8 =>
 some r8) (
 some false)) (
 some false)) fun q9 =>
 some q9))
def spec_l28Due (a0 : Vector) : Option (Bool) :=
 bindO (
 cond (decide (a0.2.2.1 ≥ 1)) (
 cond (decide (a0.2.2.1 ≥ a0.1)) (
 some true) (
 some (decide (a0.2.2.2.1 ≥ a0.2.1)))) (
 some false)) fun q1 =>
 some q1
def spec_VectorOk (a0 : Vector) : Option (Bool) :=
 bindO (
 bindO (spec_l01In a0.1 1 64) fun r1 =>
 cond (!r1) (
 some true) (
 bindO (spec_l01In a0.2.1 0 64) fun r2 =>
 cond (!r2) (
 some true) (
 bindO (spec_l01In a0.2.2.1 0 1000000) fun r3 =>
 cond (!r3) (
 some true) (
 bindO (spec_l01In a0.2.2.2.1 0 1000000) fun r4 =>
 some (!r4))))) fun q5 =>
 cond q5 (
 some false) (
 bindO (
 cond (decide (a0.2.2.1 > 0)) (
 bindO (spec_l28Due a0) fun r6 =>
 cond r6 (
 some (a0.2.2.2.2.2 == (!a0.2.2.2.2.1))) (
 some (a0.2.2.2.2.2 == false))) (
 cond (a0.2.2.2.1 == 0) (
 bindO (spec_l28Due a0) fun r7 =>
 cond r7 (
 some (a0.2.2.2.2.2 == (!a0.2.2.2.2.1))) (
 some (a0.2.2.2.2.2 == false))) (
 some false))) fun q8 =>
 some q8)
def spec_HostOk_T5 {R : Type} (k0 : Int → Option R) (k1 : Bool → Int → Option R) (v2 : Bool) (v3 : Int) (b1 : Host) (nx : Int → Option R) (x : Int) : Option R :=
 cond (decide (x < v3)) (
 bindO (
 bindO (idx b1.2.2.2.1 x) fun x8 =>
 bindO (spec_RxOk x8) fun r9 =>
 cond (!r9) (
 some true) (
 bindO (idx b1.2.2.2.2.1 x) fun x10 =>
 bindO (spec_PoolOk x10) fun r11 =>
 cond (!r11) (
 some true) (
 bindO (idx b1.2.2.2.2.2.1 x) fun x12 =>
 bindO (spec_VectorOk x12) fun r13 =>
 some (!r13)))) fun q14 =>
 cond q14 (
 k1 false x) (
 nx (IntKind.wrap .i64 (x + 1)))) (
 k0 x)
def spec_HostOk_T11 {R : Type} (k0 : Int → Option R) (k1 : Bool → Int → Option R) (v2 : Bool) (v5 : List Int) (nx : Int → Option R) (x : Int) : Option R :=
 cond (decide (x < ((List.length v5 : Int)))) (
 bindO (idx v5 x) fun x16 =>
 bindO (spec_l01In x16 0 1000000000000) fun r17 =>
 cond (!r17) (
 k1 false x) (
 nx (IntKind.wrap .i64 (x + 1)))) (
 k0 x)
def spec_HostOk (a0 : Host) : Option (Bool) :=
 bindO (
 bindO (spec_MemoryOk a0.1) fun r1 =>
 cond (!r1) (
 some true) (
 bindO (spec_MappingsOk a0.2.1) fun r2 =>
 cond (!r2) (
 some true) (
 bindO (spec_TxOk a0.2.2.1) fun r3 =>
 cond (!r3) (
 some true) (
 bindO (spec_FilterOk a0.2.2.2.2.2.2.2.1) fun r4 =>
 cond (!r4) (
 some true) (
 bindO (spec_l01In ((List.length a0.2.2.2.1 : Int)) 1 2) fun r5 =>
 cond (!r5) (
 some true) (
 cond (((List.length a0.2.2.2.2.1 : Int)) != ((List.length a0.2.2.2.1 : Int))) (
 some true) (
 cond (((List.length a0.2.2.2.2.2.1 : Int)) != ((List.length a0.2.2.2.1 : Int))) (
 some true) (
 cond (((List.length a0.2.2.2.2.2.2.1 : Int)) != ((List.length a0.2.2.2.1 : Int))) (
 some true) (
 bindO (spec_SteeringOk a0.2.2.2.2.2.2.2.2.1 ((List.length a0.2.2.2.1 : Int))) fun r6 =>
 some (!r6)))))))))) fun q7 =>
 cond q7 (
 some false) (
 iterL (spec_HostOk_T5
   (fun y15 =>
 iterL (spec_HostOk_T11
   (fun y18 =>
 some true)
   (fun y19 y20 =>
 some y19) false ([a0.2.2.2.2.2.2.2.2.2.2.2.2.2.2.1, a0.2.2.2.2.2.2.2.2.2.2.2.2.2.2.2.1, a0.2.2.2.2.2.2.2.2.2.2.2.2.2.2.2.2.1, a0.2.2.2.2.2.2.2.2.2.2.2.2.2.2.2.2.2.1, a0.2.2.2.2.2.2.2.2.2.2.2.2.2.2.2.2.2.2])) fuel 0)
   (fun y21 y22 =>
 some y21) false ((List.length a0.2.2.2.1 : Int)) a0) fuel 0)
def spec_l17Page_T2 {R : Type} (k0 : Int → Option R) (k1 : Int → Int → Option R) (v0 : List Mapping) (v1 : Int) (v2 : Int) (v3 : Bool) (v8 : Int) (nx : Int → Option R) (x : Int) : Option R :=
 cond (decide (x < ((List.length v0 : Int)))) (
 bindO (
 bindO (idx v0 x) fun x1 =>
 cond (x1.1 == v1) (
 bindO (idx v0 x) fun x2 =>
 cond (x2.2.1 == v2) (
 bindO (idx v0 x) fun x3 =>
 cond x3.2.2.2 (
 some true) (
 some (!v3))) (
 some false)) (
 some false)) fun q4 =>
 cond q4 (
 bindO (idx v0 x) fun x5 =>
 k1 x5.2.2.1 x) (
 nx (IntKind.wrap .i64 (x + 1)))) (
 k0 x)
def spec_l17Page (a0 : List Mapping) (a1 : Int) (a2 : Int) (a3 : Bool) : Option (Int) :=
 iterL (spec_l17Page_T2
   (fun y6 =>
 some (-1))
   (fun y7 y8 =>
 some y7) a0 a1 a2 a3 0) fuel 0
def spec_l16Within (a0 : List Bytes) (a1 : Int) (a2 : Int) : Option (Bool) :=
 bindO (
 bindO (spec_MemoryOk a0) fun r1 =>
 cond r1 (
 cond (decide (a2 ≥ 0)) (
 cond (decide (a1 ≥ 0)) (
 cond (decide (a1 ≤ (IntKind.wrap .i64 (128 * ((List.length a0 : Int)))))) (
 some (decide (a2 ≤ (IntKind.wrap .i64 ((IntKind.wrap .i64 (128 * ((List.length a0 : Int)))) - a1))))) (
 some false)) (
 some false)) (
 some false)) (
 some false)) fun q2 =>
 some q2
def spec_l17Parts_T5 {R : Type} (k0 : Int → Int → (List Int) → (List Int) → Option R) (k1 : Int → Int → (List Int) → (List Int) → Bool → (List Int) → (List Int) → Option R) (v0 : List Mapping) (v2 : Int) (v5 : Bool) (v12 : List Int) (v13 : List Int) (v14 : Bool) (b7 : List Bytes) (nx : (Int × Int × (List Int) × List Int) → Option R) (x : Int × Int × (List Int) × List Int) : Option R :=
 cond (decide (x.2.1 > 0)) (
 cond (decide (x.1 ≥ 0)) (
 if 128 = 0 then none else (
 bindO (spec_l17Page v0 v2 (IntKind.wrap .i64 (Int.tdiv x.1 128)) v5) fun r5 =>
 if 128 = 0 then none else (
 bindO (
 cond (decide (r5 < 0)) (
 some true) (
 bindO (spec_l16Within b7 (IntKind.wrap .i64 (r5 * 128)) 128) fun r6 =>
 some (!r6))) fun q7 =>
 cond q7 (
 k1 x.1 x.2.1 ([] : List Int) ([] : List Int) false x.2.2.1 x.2.2.2) (
 room (List.length x.2.2.1 + List.length ([(IntKind.wrap .i64 ((IntKind.wrap .i64 (r5 * 128)) + (Int.tmod x.1 128)))])) (
 room (List.length x.2.2.2 + List.length ([(if (IntKind.wrap .i64 (128 - (Int.tmod x.1 128))) < x.2.1 then (IntKind.wrap .i64 (128 - (Int.tmod x.1 128))) else x.2.1)])) (
 nx (IntKind.wrap .i64 (x.1 + (if (IntKind.wrap .i64 (128 - (Int.tmod x.1 128))) < x.2.1 then (IntKind.wrap .i64 (128 - (Int.tmod x.1 128))) else x.2.1)), IntKind.wrap .i64 (x.2.1 - (if (IntKind.wrap .i64 (128 - (Int.tmod x.1 128))) < x.2.1 then (IntKind.wrap .i64 (128 - (Int.tmod x.1 128))) else x.2.1)), x.2.2.1 ++ ([(IntKind.wrap .i64 ((IntKind.wrap .i64 (r5 * 128)) + (Int.tmod x.1 128)))]), x.2.2.2 ++ ([(if (IntKind.wrap .i64 (128 - (Int.tmod x.1 128))) < x.2.1 then (IntKind.wrap .i64 (128 - (Int.tmod x.1 128))) else x.2.1)])))))))) (
 if 128 = 0 then none else (
 bindO (
 cond (decide ((-1) < 0)) (
 some true) (
 bindO (spec_l16Within b7 (IntKind.wrap .i64 ((-1) * 128)) 128) fun r8 =>
 some (!r8))) fun q9 =>
 cond q9 (
 k1 x.1 x.2.1 ([] : List Int) ([] : List Int) false x.2.2.1 x.2.2.2) (
 room (List.length x.2.2.1 + List.length ([(IntKind.wrap .i64 ((IntKind.wrap .i64 ((-1) * 128)) + (Int.tmod x.1 128)))])) (
 room (List.length x.2.2.2 + List.length ([(if (IntKind.wrap .i64 (128 - (Int.tmod x.1 128))) < x.2.1 then (IntKind.wrap .i64 (128 - (Int.tmod x.1 128))) else x.2.1)])) (
 nx (IntKind.wrap .i64 (x.1 + (if (IntKind.wrap .i64 (128 - (Int.tmod x.1 128))) < x.2.1 then (IntKind.wrap .i64 (128 - (Int.tmod x.1 128))) else x.2.1)), IntKind.wrap .i64 (x.2.1 - (if (IntKind.wrap .i64 (128 - (Int.tmod x.1 128))) < x.2.1 then (IntKind.wrap .i64 (128 - (Int.tmod x.1 128))) else x.2.1)), x.2.2.1 ++ ([(IntKind.wrap .i64 ((IntKind.wrap .i64 ((-1) * 128)) + (Int.tmod x.1 128)))]), x.2.2.2 ++ ([(if (IntKind.wrap .i64 (128 - (Int.tmod x.1 128))) < x.2.1 then (IntKind.wrap .i64 (128 - (Int.tmod x.1 128))) else x.2.1)])))))))) (
 k0 x.1 x.2.1 x.2.2.1 x.2.2.2)
def spec_l17Parts (a0 : List Mapping) (a1 : List Bytes) (a2 : Int) (a3 : Int) (a4 : Int) (a5 : Bool) : Option ((List Int) × (List Int) × Bool) :=
 bindO (
 bindO (spec_MappingsOk a0) fun r1 =>
 cond (!r1) (
 some true) (
 bindO (spec_MemoryOk a1) fun r2 =>
 cond (!r2) (
 some true) (
 bindO (spec_l01In a4 0 4096) fun r3 =>
 some (!r3)))) fun q4 =>
 cond q4 (
 some (([] : List Int), ([] : List Int), false)) (
 iterL (spec_l17Parts_T5
   (fun y10 y11 y12 y13 =>
 some (y12, y13, true))
   (fun y14 y15 y16 y17 y18 y19 y20 =>
 some (y16, y17, y18)) a0 a2 a5 ([] : List Int) ([] : List Int) false a1) fuel (a3, a4, ([] : List Int), ([] : List Int)))
def spec_ReadMemory_T4 {R : Type} (k0 : Int → Int → Bytes → Option R) (b3 : List Bytes) (nx : (Int × Int × Bytes) → Option R) (x : Int × Int × Bytes) : Option R :=
 cond (decide (x.2.1 > 0)) (
 if 128 = 0 then none else (
 if 128 = 0 then none else (
 bindO (idx b3 (IntKind.wrap .i64 (Int.tdiv x.1 128))) fun x2 =>
 bindO (sub x2 (Int.tmod x.1 128) (IntKind.wrap .i64 ((Int.tmod x.1 128) + (if (IntKind.wrap .i64 (128 - (Int.tmod x.1 128))) < x.2.1 then (IntKind.wrap .i64 (128 - (Int.tmod x.1 128))) else x.2.1)))) fun x3 =>
 room (List.length x.2.2 + List.length x3) (
 nx (IntKind.wrap .i64 (x.1 + (if (IntKind.wrap .i64 (128 - (Int.tmod x.1 128))) < x.2.1 then (IntKind.wrap .i64 (128 - (Int.tmod x.1 128))) else x.2.1)), IntKind.wrap .i64 (x.2.1 - (if (IntKind.wrap .i64 (128 - (Int.tmod x.1 128))) < x.2.1 then (IntKind.wrap .i64 (128 - (Int.tmod x.1 128))) else x.2.1)), x.2.2 ++ x3))))) (
 k0 x.1 x.2.1 x.2.2)
def spec_ReadMemory (a0 : List Bytes) (a1 : Int) (a2 : Int) : Option (Bytes × Bool) :=
 bindO (spec_l16Within a0 a1 a2) fun r1 =>
 cond (!r1) (
 some (([] : Bytes), false)) (
 iterL (spec_ReadMemory_T4
   (fun y4 y5 y6 =>
 some (y6, true)) a0) fuel (a1, a2, ([] : Bytes)))
def spec_DmaRead_T6 {R : Type} (k0 : Bytes → Int → Option R) (v12 : List Int) (v13 : List Int) (b6 : List Bytes) (nx : (Bytes × Int) → Option R) (x : Bytes × Int) : Option R :=
 cond (decide (x.2 < ((List.length v12 : Int)))) (
 bindO (idx v12 x.2) fun x2 =>
 bindO (idx v13 x.2) fun x3 =>
 bindO (spec_ReadMemory b6 x2 x3) fun r4 =>
 room (List.length x.1 + List.length r4.1) (
 nx (x.1 ++ r4.1, IntKind.wrap .i64 (x.2 + 1)))) (
 k0 x.1 x.2)
def spec_DmaRead (a0 : List Mapping) (a1 : List Bytes) (a2 : Int) (a3 : Int) (a4 : Int) : Option (Bytes × Bool) :=
 bindO (spec_l17Parts a0 a1 a2 a3 a4 false) fun r1 =>
 cond (!r1.2.2) (
 some (([] : Bytes), false)) (
 iterL (spec_DmaRead_T6
   (fun y5 y6 =>
 some (y5, true)) r1.1 r1.2.1 a1) fuel (([] : Bytes), 0))
def spec_l02Within (a0 : Bytes) (a1 : Int) (a2 : Int) : Option (Bool) :=
 bindO (
 cond (decide (a1 ≥ 0)) (
 cond (decide (a1 ≤ ((List.length a0 : Int)))) (
 some (decide (a2 ≤ (IntKind.wrap .i64 (((List.length a0 : Int)) - a1))))) (
 some false)) (
 some false)) fun q1 =>
 some q1
def spec_Get16 (a0 : Bytes) (a1 : Int) : Option (Int) :=
 bindO (spec_l02Within a0 a1 2) fun r1 =>
 cond (!r1) (
 some (-1)) (
 bindO (idx a0 a1) fun x2 =>
 if 8 < 0 then none else (
 bindO (idx a0 (IntKind.wrap .i64 (a1 + 1))) fun x3 =>
 some (IntKind.wrap .i64 ((IntKind.wrap .i64 ((IntKind.wrap .i64 ((UInt8.toNat x2 : Int))) * 2 ^ (min (Int.toNat 8) (IntKind.bits .i64)))) + (IntKind.wrap .i64 ((UInt8.toNat x3 : Int)))))))
def spec_Get32 (a0 : Bytes) (a1 : Int) : Option (Int) :=
 bindO (spec_l02Within a0 a1 4) fun r1 =>
 cond (!r1) (
 some (-1)) (
 bindO (spec_Get16 a0 a1) fun r2 =>
 if 16 < 0 then none else (
 bindO (spec_Get16 a0 (IntKind.wrap .i64 (a1 + 2))) fun r3 =>
 some (IntKind.wrap .i64 ((IntKind.wrap .i64 (r2 * 2 ^ (min (Int.toNat 16) (IntKind.bits .i64)))) + r3))))
def spec_DecodeCompletion (a0 : Bytes) : Option (Flow × Int × Bool) :=
 bindO (
 cond (((List.length a0 : Int)) != 16) (
 some true) (
 bindO (spec_Get32 a0 12) fun r1 =>
 some (decide (r1 > 1)))) fun q2 =>
 cond q2 (
 some ((0, 0, 0, 0, 0), 0, false)) (
 bindO (spec_Get16 a0 0) fun r3 =>
 bindO (spec_Get16 a0 2) fun r4 =>
 bindO (spec_Get16 a0 4) fun r5 =>
 bindO (spec_Get16 a0 6) fun r6 =>
 bindO (spec_Get32 a0 8) fun r7 =>
 bindO (spec_Get32 a0 12) fun r8 =>
 some ((r3, r4, r5, r6, r7), r8, true))
def spec_l25Phase (a0 : CompletionQueue) : Option (Int) :=
 if a0.2.1 = 0 then none else (
 some (IntKind.wrap .i64 (1 - (IntKind.wrap .i64 (Int.tdiv a0.2.2 a0.2.1)))))
def spec_NextCompletion (a0 : List Mapping) (a1 : List Bytes) (a2 : Int) (a3 : CompletionQueue) : Option (Flow × CompletionQueue × Bool) :=
 bindO (spec_QueueOk a3) fun r1 =>
 cond (!r1) (
 some ((0, 0, 0, 0, 0), a3, false)) (
 if a3.2.1 = 0 then none else (
 bindO (spec_DmaRead a0 a1 a2 (IntKind.wrap .i64 (a3.1 + (IntKind.wrap .i64 (16 * (Int.tmod a3.2.2 a3.2.1))))) 16) fun r2 =>
 bindO (spec_DecodeCompletion r2.1) fun r3 =>
 bindO (
 cond (!r2.2) (
 some true) (
 cond (!r3.2.2) (
 some true) (
 bindO (spec_l25Phase a3) fun r4 =>
 some (r3.2.1 != r4)))) fun q5 =>
 cond q5 (
 some ((0, 0, 0, 0, 0), a3, false)) (
 if (IntKind.wrap .i64 (2 * a3.2.1)) = 0 then none else (
 some (r3.1, (a3.1, a3.2.1, Int.tmod (IntKind.wrap .i64 (a3.2.2 + 1)) (IntKind.wrap .i64 (2 * a3.2.1))), true)))))
def spec_HasCompletion (a0 : List Mapping) (a1 : List Bytes) (a2 : Int) (a3 : RxQueue) : Option (Bool) :=
 bindO (spec_NextCompletion a0 a1 a2 a3.2.2.1) fun r1 =>
 bindO (
 bindO (spec_RxOk a3) fun r2 =>
 cond r2 (
 some r1.2.2) (
 some false)) fun q3 =>
 some q3
def spec_IsQuiet_T4 {R : Type} (k0 : Int → Option R) (k1 : Bool → Int → Option R) (v2 : Bool) (b1 : Host) (nx : Int → Option R) (x : Int) : Option R :=
 cond (decide (x < ((List.length b1.2.2.2.1 : Int)))) (
 bindO (
 bindO (idx b1.2.2.2.1 x) fun x3 =>
 cond x3.2.2.2.2.1 (
 some true) (
 bindO (idx b1.2.2.2.1 x) fun x4 =>
 bindO (spec_HasCompletion b1.2.1 b1.1 0 x4) fun r5 =>
 some r5)) fun q6 =>
 cond q6 (
 k1 false x) (
 nx (IntKind.wrap .i64 (x + 1)))) (
 k0 x)
def spec_IsQuiet (a0 : Host) : Option (Bool) :=
 bindO (
 bindO (spec_HostOk a0) fun r1 =>
 cond (!r1) (
 some true) (
 some (decide (((List.length a0.2.2.1.2.2.1 : Int)) > 0)))) fun q2 =>
 cond q2 (
 some false) (
 iterL (spec_IsQuiet_T4
   (fun y7 =>
 some true)
   (fun y8 y9 =>
 some y8) false a0) fuel 0)
def laws_toStringS_T3 {R : Type} (k0 : (List Bytes) → Int → Option R) (v0 : List Bytes) (nx : ((List Bytes) × Int) → Option R) (x : (List Bytes) × Int) : Option R :=
 cond (decide (x.2 < ((List.length v0 : Int)))) (
 bindO (idx v0 x.2) fun x1 =>
 bindO (idx x.1 x.2) fun x2 =>
 bindO (idx x.1 x.2) fun x3 =>
 nx (List.set x.1 (Int.toNat x.2) x1, IntKind.wrap .i64 (x.2 + 1))) (
 k0 x.1 x.2)
def laws_toStringS (a0 : List Bytes) : Option (List Bytes) :=
 if (0 : Int) ≤ ((List.length a0 : Int)) ∧ ((List.length a0 : Int)) ≤ ((List.length a0 : Int)) then (
 room (Int.toNat ((List.length a0 : Int))) (
 iterL (laws_toStringS_T3
   (fun y4 y5 =>
 some y4) a0) fuel (List.replicate (Int.toNat ((List.length a0 : Int))) ([] : Bytes), 0))) else none
def laws_toMemory (a0 : List Bytes) : Option (List Bytes) :=
 bindO (laws_toStringS a0) fun r1 =>
 some r1
def laws_toMapping (a0 : Mapping) : Option (Mapping) :=
 some a0
def laws_toMappingS_T3 {R : Type} (k0 : (List Mapping) → Int → Option R) (v0 : List Mapping) (nx : ((List Mapping) × Int) → Option R) (x : (List Mapping) × Int) : Option R :=
 cond (decide (x.2 < ((List.length v0 : Int)))) (
 bindO (idx v0 x.2) fun x1 =>
 bindO (laws_toMapping x1) fun r2 =>
 bindO (idx x.1 x.2) fun x3 =>
 bindO (idx x.1 x.2) fun x4 =>
 nx (List.set x.1 (Int.toNat x.2) r2, IntKind.wrap .i64 (x.2 + 1))) (
 k0 x.1 x.2)
def laws_toMappingS (a0 : List Mapping) : Option (List Mapping) :=
 if (0 : Int) ≤ ((List.length a0 : Int)) ∧ ((List.length a0 : Int)) ≤ ((List.length a0 : Int)) then (
 room (Int.toNat ((List.length a0 : Int))) (
 iterL (laws_toMappingS_T3
   (fun y5 y6 =>
 some y5) a0) fuel (List.replicate (Int.toNat ((List.length a0 : Int))) (0, 0, 0, false), 0))) else none
def laws_toRing (a0 : Ring) : Option (Ring) :=
 some a0
def laws_toIntS_T3 {R : Type} (k0 : (List Int) → Int → Option R) (v0 : List Int) (nx : ((List Int) × Int) → Option R) (x : (List Int) × Int) : Option R :=
 cond (decide (x.2 < ((List.length v0 : Int)))) (
 bindO (idx v0 x.2) fun x1 =>
 bindO (idx x.1 x.2) fun x2 =>
 bindO (idx x.1 x.2) fun x3 =>
 nx (List.set x.1 (Int.toNat x.2) x1, IntKind.wrap .i64 (x.2 + 1))) (
 k0 x.1 x.2)
def laws_toIntS (a0 : List Int) : Option (List Int) :=
 if (0 : Int) ≤ ((List.length a0 : Int)) ∧ ((List.length a0 : Int)) ≤ ((List.length a0 : Int)) then (
 room (Int.toNat ((List.length a0 : Int))) (
 iterL (laws_toIntS_T3
   (fun y4 y5 =>
 some y4) a0) fuel (List.replicate (Int.toNat ((List.length a0 : Int))) (0 : Int), 0))) else none
def laws_toPool (a0 : Pool) : Option (Pool) :=
 bindO (laws_toIntS a0.2.2.2) fun r1 =>
 some (a0.1, a0.2.1, a0.2.2.1, r1)
def laws_toSent (a0 : Sent) : Option (Sent) :=
 bindO (laws_toIntS a0.2.2) fun r1 =>
 some (a0.1, a0.2.1, r1)
def laws_toSentS_T3 {R : Type} (k0 : (List Sent) → Int → Option R) (v0 : List Sent) (nx : ((List Sent) × Int) → Option R) (x : (List Sent) × Int) : Option R :=
 cond (decide (x.2 < ((List.length v0 : Int)))) (
 bindO (idx v0 x.2) fun x1 =>
 bindO (laws_toSent x1) fun r2 =>
 bindO (idx x.1 x.2) fun x3 =>
 bindO (idx x.1 x.2) fun x4 =>
 nx (List.set x.1 (Int.toNat x.2) r2, IntKind.wrap .i64 (x.2 + 1))) (
 k0 x.1 x.2)
def laws_toSentS (a0 : List Sent) : Option (List Sent) :=
 if (0 : Int) ≤ ((List.length a0 : Int)) ∧ ((List.length a0 : Int)) ≤ ((List.length a0 : Int)) then (
 room (Int.toNat ((List.length a0 : Int))) (
 iterL (laws_toSentS_T3
   (fun y5 y6 =>
 some y5) a0) fuel (List.replicate (Int.toNat ((List.length a0 : Int))) (0, 0, ([] : List Int)), 0))) else none
def laws_toTxQueue (a0 : TxQueue) : Option (TxQueue) :=
 bindO (laws_toRing a0.1) fun r1 =>
 bindO (laws_toPool a0.2.1) fun r2 =>
 bindO (laws_toSentS a0.2.2.1) fun r3 =>
 some (r1, r2, r3, a0.2.2.2)
def laws_toCompletionQueue (a0 : CompletionQueue) : Option (CompletionQueue) :=
 some a0
def laws_toSegment (a0 : Segment) : Option (Segment) :=
 some a0
def laws_toPacket (a0 : Packet) : Option (Packet) :=
 bindO (laws_toSegment a0.2.2.2.2.2.2.2.2) fun r1 =>
 some (a0.1, a0.2.1, a0.2.2.1, a0.2.2.2.1, a0.2.2.2.2.1, a0.2.2.2.2.2.1, a0.2.2.2.2.2.2.1, a0.2.2.2.2.2.2.2.1, r1)
def laws_toSuper (a0 : Super) : Option (Super) :=
 bindO (laws_toPacket a0.1) fun r1 =>
 some (r1, a0.2)
def laws_toRxQueue (a0 : RxQueue) : Option (RxQueue) :=
 bindO (laws_toRing a0.1) fun r1 =>
 bindO (laws_toCompletionQueue a0.2.1) fun r2 =>
 bindO (laws_toCompletionQueue a0.2.2.1) fun r3 =>
 bindO (laws_toSuper a0.2.2.2.1) fun r4 =>
 some (r1, r2, r3, r4, a0.2.2.2.2)
def laws_toRxQueueS_T3 {R : Type} (k0 : (List RxQueue) → Int → Option R) (v0 : List RxQueue) (nx : ((List RxQueue) × Int) → Option R) (x : (List RxQueue) × Int) : Option R :=
 cond (decide (x.2 < ((List.length v0 : Int)))) (
 bindO (idx v0 x.2) fun x1 =>
 bindO (laws_toRxQueue x1) fun r2 =>
 bindO (idx x.1 x.2) fun x3 =>
 bindO (idx x.1 x.2) fun x4 =>
 nx (List.set x.1 (Int.toNat x.2) r2, IntKind.wrap .i64 (x.2 + 1))) (
 k0 x.1 x.2)
def laws_toRxQueueS (a0 : List RxQueue) : Option (List RxQueue) :=
 if (0 : Int) ≤ ((List.length a0 : Int)) ∧ ((List.length a0 : Int)) ≤ ((List.length a0 : Int)) then (
 room (Int.toNat ((List.length a0 : Int))) (
 iterL (laws_toRxQueueS_T3
   (fun y5 y6 =>
 some y5) a0) fuel (List.replicate (Int.toNat ((List.length a0 : Int))) ((0, 0, 0, 0), (0, 0, 0), (0, 0, 0), ((0, 0, 0, 0, 0, 0, 0, 0, 0, 0, 0, 0, 0, 0, 0, ([] : Bytes)), 0, 0), false, 0), 0))) else none
def laws_toPoolS_T3 {R : Type} (k0 : (List Pool) → Int → Option R) (v0 : List Pool) (nx : ((List Pool) × Int) → Option R) (x : (List Pool) × Int) : Option R :=
 cond (decide (x.2 < ((List.length v0 : Int)))) (
 bindO (idx v0 x.2) fun x1 =>
 bindO (laws_toPool x1) fun r2 =>
 bindO (idx x.1 x.2) fun x3 =>
 bindO (idx x.1 x.2) fun x4 =>
 nx (List.set x.1 (Int.toNat x.2) r2, IntKind.wrap .i64 (x.2 + 1))) (
 k0 x.1 x.2)
def laws_toPoolS (a0 : List Pool) : Option (List Pool) :=
 if (0 : Int) ≤ ((List.length a0 : Int)) ∧ ((List.length a0 : Int)) ≤ ((List.length a0 : Int)) then (
 room (Int.toNat ((List.length a0 : Int))) (
 iterL (laws_toPoolS_T3
   (fun y5 y6 =>
 some y5) a0) fuel (List.replicate (Int.toNat ((List.length a0 : Int))) (0, 0, 0, ([] : List Int)), 0))) else none
def laws_toVector (a0 : Vector) : Option (Vector) :=
 some a0
def laws_toVectorS_T3 {R : Type} (k0 : (List Vector) → Int → Option R) (v0 : List Vector) (nx : ((List Vector) × Int) → Option R) (x : (List Vector) × Int) : Option R :=
 cond (decide (x.2 < ((List.length v0 : Int)))) (
 bindO (idx v0 x.2) fun x1 =>
 bindO (laws_toVector x1) fun r2 =>
 bindO (idx x.1 x.2) fun x3 =>
 bindO (idx x.1 x.2) fun x4 =>
 nx (List.set x.1 (Int.toNat x.2) r2, IntKind.wrap .i64 (x.2 + 1))) (
 k0 x.1 x.2)
def laws_toVectorS (a0 : List Vector) : Option (List Vector) :=
 if (0 : Int) ≤ ((List.length a0 : Int)) ∧ ((List.length a0 : Int)) ≤ ((List.length a0 : Int)) then (
 room (Int.toNat ((List.length a0 : Int))) (
 iterL (laws_toVectorS_T3
   (fun y5 y6 =>
 some y5) a0) fuel (List.replicate (Int.toNat ((List.length a0 : Int))) (0, 0, 0, 0, false, false), 0))) else none
def laws_toBoolS_T3 {R : Type} (k0 : (List Bool) → Int → Option R) (v0 : List Bool) (nx : ((List Bool) × Int) → Option R) (x : (List Bool) × Int) : Option R :=
 cond (decide (x.2 < ((List.length v0 : Int)))) (
 bindO (idx v0 x.2) fun x1 =>
 bindO (idx x.1 x.2) fun x2 =>
 bindO (idx x.1 x.2) fun x3 =>
 nx (List.set x.1 (Int.toNat x.2) x1, IntKind.wrap .i64 (x.2 + 1))) (
 k0 x.1 x.2)
def laws_toBoolS (a0 : List Bool) : Option (List Bool) :=
 if (0 : Int) ≤ ((List.length a0 : Int)) ∧ ((List.length a0 : Int)) ≤ ((List.length a0 : Int)) then (
 room (Int.toNat ((List.length a0 : Int))) (
 iterL (laws_toBoolS_T3
   (fun y4 y5 =>
 some y4) a0) fuel (List.replicate (Int.toNat ((List.length a0 : Int))) false, 0))) else none
def laws_toFilter (a0 : Filter) : Option (Filter) :=
 bindO (laws_toIntS a0.2.2) fun r1 =>
 some (a0.1, a0.2.1, r1)
def laws_toRule (a0 : Rule) : Option (Rule) :=
 some a0
def laws_toRuleS_T3 {R : Type} (k0 : (List Rule) → Int → Option R) (v0 : List Rule) (nx : ((List Rule) × Int) → Option R) (x : (List Rule) × Int) : Option R :=
 cond (decide (x.2 < ((List.length v0 : Int)))) (
 bindO (idx v0 x.2) fun x1 =>
 bindO (laws_toRule x1) fun r2 =>
 bindO (idx x.1 x.2) fun x3 =>
 bindO (idx x.1 x.2) fun x4 =>
 nx (List.set x.1 (Int.toNat x.2) r2, IntKind.wrap .i64 (x.2 + 1))) (
 k0 x.1 x.2)
def laws_toRuleS (a0 : List Rule) : Option (List Rule) :=
 if (0 : Int) ≤ ((List.length a0 : Int)) ∧ ((List.length a0 : Int)) ≤ ((List.length a0 : Int)) then (
 room (Int.toNat ((List.length a0 : Int))) (
 iterL (laws_toRuleS_T3
   (fun y5 y6 =>
 some y5) a0) fuel (List.replicate (Int.toNat ((List.length a0 : Int))) (0, 0, 0, 0, 0, 0, 0, 0, 0), 0))) else none
def laws_toFlow (a0 : Flow) : Option (Flow) :=
 some a0
def laws_toSlot (a0 : Slot) : Option (Slot) :=
 bindO (laws_toFlow a0.2.1) fun r1 =>
 some (a0.1, r1, a0.2.2)
def laws_toSlotS_T3 {R : Type} (k0 : (List Slot) → Int → Option R) (v0 : List Slot) (nx : ((List Slot) × Int) → Option R) (x : (List Slot) × Int) : Option R :=
 cond (decide (x.2 < ((List.length v0 : Int)))) (
 bindO (idx v0 x.2) fun x1 =>
 bindO (laws_toSlot x1) fun r2 =>
 bindO (idx x.1 x.2) fun x3 =>
 bindO (idx x.1 x.2) fun x4 =>
 nx (List.set x.1 (Int.toNat x.2) r2, IntKind.wrap .i64 (x.2 + 1))) (
 k0 x.1 x.2)
def laws_toSlotS (a0 : List Slot) : Option (List Slot) :=
 if (0 : Int) ≤ ((List.length a0 : Int)) ∧ ((List.length a0 : Int)) ≤ ((List.length a0 : Int)) then (
 room (Int.toNat ((List.length a0 : Int))) (
 iterL (laws_toSlotS_T3
   (fun y5 y6 =>
 some y5) a0) fuel (List.replicate (Int.toNat ((List.length a0 : Int))) (0, (0, 0, 0, 0, 0), 0), 0))) else none
def laws_toFlowTable (a0 : List Slot) : Option (List Slot) :=
 bindO (laws_toSlotS a0) fun r1 =>
 some r1
def laws_toSpread (a0 : Spread) : Option (Spread) :=
 bindO (laws_toIntS a0.2) fun r1 =>
 some (a0.1, r1)
def laws_toSteering (a0 : Steering) : Option (Steering) :=
 bindO (laws_toRuleS a0.1) fun r1 =>
 bindO (laws_toFlowTable a0.2.1) fun r2 =>
 bindO (laws_toSpread a0.2.2) fun r3 =>
 some (r1, r2, r3)
def laws_toStream (a0 : Stream) : Option (Stream) :=
 bindO (laws_toFlow a0.1) fun r1 =>
 some (r1, a0.2)
def laws_toStreamS_T3 {R : Type} (k0 : (List Stream) → Int → Option R) (v0 : List Stream) (nx : ((List Stream) × Int) → Option R) (x : (List Stream) × Int) : Option R :=
 cond (decide (x.2 < ((List.length v0 : Int)))) (
 bindO (idx v0 x.2) fun x1 =>
 bindO (laws_toStream x1) fun r2 =>
 bindO (idx x.1 x.2) fun x3 =>
 bindO (idx x.1 x.2) fun x4 =>
 nx (List.set x.1 (Int.toNat x.2) r2, IntKind.wrap .i64 (x.2 + 1))) (
 k0 x.1 x.2)
def laws_toStreamS (a0 : List Stream) : Option (List Stream) :=
 if (0 : Int) ≤ ((List.length a0 : Int)) ∧ ((List.length a0 : Int)) ≤ ((List.length a0 : Int)) then (
 room (Int.toNat ((List.length a0 : Int))) (
 iterL (laws_toStreamS_T3
   (fun y5 y6 =>
 some y5) a0) fuel (List.replicate (Int.toNat ((List.length a0 : Int))) ((0, 0, 0, 0, 0), 0, ([] : Bytes), false), 0))) else none
def laws_toCounters (a0 : Flow) : Option (Flow) :=
 some a0
def laws_toHost (a0 : Host) : Option (Host) :=
 bindO (laws_toMemory a0.1) fun r1 =>
 bindO (laws_toMappingS a0.2.1) fun r2 =>
 bindO (laws_toTxQueue a0.2.2.1) fun r3 =>
 bindO (laws_toRxQueueS a0.2.2.2.1) fun r4 =>
 bindO (laws_toPoolS a0.2.2.2.2.1) fun r5 =>
 bindO (laws_toVectorS a0.2.2.2.2.2.1) fun r6 =>
 bindO (laws_toBoolS a0.2.2.2.2.2.2.1) fun r7 =>
 bindO (laws_toFilter a0.2.2.2.2.2.2.2.1) fun r8 =>
 bindO (laws_toSteering a0.2.2.2.2.2.2.2.2.1) fun r9 =>
 bindO (laws_toStreamS a0.2.2.2.2.2.2.2.2.2.1) fun r10 =>
 bindO (laws_toStringS a0.2.2.2.2.2.2.2.2.2.2.2.1) fun r11 =>
 bindO (laws_toIntS a0.2.2.2.2.2.2.2.2.2.2.2.2.1) fun r12 =>
 bindO (laws_toIntS a0.2.2.2.2.2.2.2.2.2.2.2.2.2.1) fun r13 =>
 bindO (laws_toCounters a0.2.2.2.2.2.2.2.2.2.2.2.2.2.2) fun r14 =>
 some (r1, r2, r3, r4, r5, r6, r7, r8, r9, r10, a0.2.2.2.2.2.2.2.2.2.2.1, r11, r12, r13, r14)
def impl_MemoryOk_T2 {R : Type} (k0 : Int → Option R) (k1 : Bool → Int → Option R) (v2 : Bool) (v6 : List Bytes) (v7 : Int) (b1 : List Bytes) (nx : Int → Option R) (x : Int) : Option R :=
 cond (decide (x < v7)) (
 bindO (idx v6 x) fun x1 =>
 cond (((List.length x1 : Int)) != 128) (
 k1 false x) (
 nx (IntKind.wrap .i64 (x + 1)))) (
 k0 x)
def impl_MemoryOk (a0 : List Bytes) : Option (Bool) :=
 iterL (impl_MemoryOk_T2
   (fun y2 =>
 some (decide (((List.length a0 : Int)) ≤ 64)))
   (fun y3 y4 =>
 some y3) false a0 ((List.length a0 : Int)) a0) fuel 0
def impl_between (a0 : Int) (a1 : Int) (a2 : Int) : Option (Bool) :=
 bindO (
 cond (decide (a0 ≥ a1)) (
 some (decide (a0 ≤ a2))) (
 some false)) fun q1 =>
 some q1
def impl_pageMapping_T2 {R : Type} (k0 : Int → Option R) (k1 : Int → Int → Option R) (v1 : Int) (v2 : Int) (v6 : Int) (v9 : List Mapping) (v10 : Int) (nx : Int → Option R) (x : Int) : Option R :=
 cond (decide (x < v10)) (
 bindO (idx v9 x) fun x1 =>
 bindO (
 cond (x1.1 == v1) (
 some (x1.2.1 == v2)) (
 some false)) fun q2 =>
 cond q2 (
 k1 x x) (
 nx (IntKind.wrap .i64 (x + 1)))) (
 k0 x)
def impl_pageMapping (a0 : List Mapping) (a1 : Int) (a2 : Int) : Option (Int) :=
 iterL (impl_pageMapping_T2
   (fun y3 =>
 some (-1))
   (fun y4 y5 =>
 some y4) a1 a2 0 a0 ((List.length a0 : Int))) fuel 0
def impl_MappingsOk_T2 {R : Type} (k0 : Int → Option R) (k1 : Bool → Int → Option R) (v0 : List Mapping) (v2 : Bool) (v5 : List Mapping) (v6 : Int) (nx : Int → Option R) (x : Int) : Option R :=
 cond (decide (x < v6)) (
 bindO (idx v5 x) fun x1 =>
 bindO (
 bindO (impl_between x1.1 0 7) fun r2 =>
 cond (!r2) (
 some true) (
 bindO (impl_between x1.2.1 0 1023) fun r3 =>
 cond (!r3) (
 some true) (
 bindO (impl_between x1.2.2.1 0 63) fun r4 =>
 cond (!r4) (
 some true) (
 bindO (impl_pageMapping v0 x1.1 x1.2.1) fun r5 =>
 some (r5 != x))))) fun q6 =>
 cond q6 (
 k1 false x) (
 nx (IntKind.wrap .i64 (x + 1)))) (
 k0 x)
def impl_MappingsOk (a0 : List Mapping) : Option (Bool) :=
 iterL (impl_MappingsOk_T2
   (fun y7 =>
 some (decide (((List.length a0 : Int)) ≤ 96)))
   (fun y8 y9 =>
 some y8) a0 false a0 ((List.length a0 : Int))) fuel 0
def impl_PoolOk_T5 {R : Type} (k0 : (List Bool) → Int → Option R) (k1 : Bool → (List Bool) → Int → Option R) (v2 : Bool) (v26 : List Int) (v27 : Int) (b1 : Pool) (nx : ((List Bool) × Int) → Option R) (x : (List Bool) × Int) : Option R :=
 cond (decide (x.2 < v27)) (
 bindO (idx v26 x.2) fun x5 =>
 bindO (
 bindO (impl_between x5 0 (IntKind.wrap .i64 (b1.2.2.1 - 1))) fun r6 =>
 cond (!r6) (
 some true) (
 bindO (idx x.1 x5) fun x7 =>
 some x7)) fun q8 =>
 cond q8 (
 k1 false x.1 x.2) (
 bindO (idx x.1 x5) fun x9 =>
 bindO (idx x.1 x5) fun x10 =>
 nx (List.set x.1 (Int.toNat x5) true, IntKind.wrap .i64 (x.2 + 1)))) (
 k0 x.1 x.2)
def impl_PoolOk (a0 : Pool) : Option (Bool) :=
 bindO (
 bindO (impl_between a0.1 0 130944) fun r1 =>
 cond (!r1) (
 some true) (
 bindO (impl_between a0.2.1 1 512) fun r2 =>
 cond (!r2) (
 some true) (
 bindO (impl_between a0.2.2.1 0 16) fun r3 =>
 some (!r3)))) fun q4 =>
 cond q4 (
 some false) (
 if (0 : Int) ≤ a0.2.2.1 ∧ a0.2.2.1 ≤ a0.2.2.1 then (
 room (Int.toNat a0.2.2.1) (
 iterL (impl_PoolOk_T5
   (fun y11 y12 =>
 some true)
   (fun y13 y14 y15 =>
 some y13) false a0.2.2.2 ((List.length a0.2.2.2 : Int)) a0) fuel (List.replicate (Int.toNat a0.2.2.1) false, 0))) else none)
def impl_ringSize (a0 : Int) : Option (Bool) :=
 bindO (
 cond (a0 == 2) (
 some true) (
 cond (a0 == 4) (
 some true) (
 cond (a0 == 8) (
 some true) (
 some (a0 == 16))))) fun q1 =>
 some q1
def impl_modulo (a0 : Int) (a1 : Int) : Option (Int) :=
 if a1 = 0 then none else (
 cond (decide ((Int.tmod a0 a1) < 0)) (
 some (IntKind.wrap .i64 ((Int.tmod a0 a1) + a1))) (
 some (Int.tmod a0 a1)))
def impl_RingUsed (a0 : Ring) : Option (Int) :=
 bindO (impl_ringSize a0.2.1) fun r1 =>
 cond (!r1) (
 some 0) (
 bindO (impl_modulo a0.2.2.2 (IntKind.wrap .i64 (2 * a0.2.1))) fun r2 =>
 bindO (impl_modulo a0.2.2.1 (IntKind.wrap .i64 (2 * a0.2.1))) fun r3 =>
 bindO (impl_modulo (IntKind.wrap .i64 (r2 - r3)) (IntKind.wrap .i64 (2 * a0.2.1))) fun r4 =>
 some r4)
def impl_RingOk (a0 : Ring) : Option (Bool) :=
 bindO (
 bindO (impl_between a0.1 0 130944) fun r1 =>
 cond r1 (
 bindO (impl_ringSize a0.2.1) fun r2 =>
 cond r2 (
 bindO (impl_between a0.2.2.1 0 (IntKind.wrap .i64 ((IntKind.wrap .i64 (2 * a0.2.1)) - 1))) fun r3 =>
 cond r3 (
 bindO (impl_between a0.2.2.2 0 (IntKind.wrap .i64 ((IntKind.wrap .i64 (2 * a0.2.1)) - 1))) fun r4 =>
 cond r4 (
 bindO (impl_RingUsed a0) fun r5 =>
 some (decide (r5 ≤ a0.2.1))) (
 some false)) (
 some false)) (
 some false)) (
 some false)) fun q6 =>
 some q6
def impl_copyInts (a0 : List Int) : Option (List Int) :=
 room (List.length ([] : List Int) + List.length a0) (
 some (([] : List Int) ++ a0))
def impl_copyPool (a0 : Pool) : Option (Pool) :=
 bindO (impl_copyInts a0.2.2.2) fun r1 =>
 some (a0.1, a0.2.1, a0.2.2.1, r1)
def impl_GiveBuffers (a0 : Pool) (a1 : List Int) : Option (Pool × Bool) :=
 bindO (impl_copyPool a0) fun r1 =>
 room (List.length r1.2.2.2 + List.length a1) (
 bindO (
 bindO (impl_PoolOk a0) fun r2 =>
 cond (!r2) (
 some true) (
 bindO (impl_PoolOk (r1.1, r1.2.1, r1.2.2.1, r1.2.2.2 ++ a1)) fun r3 =>
 some (!r3))) fun q4 =>
 cond q4 (
 bindO (impl_copyPool a0) fun r5 =>
 some (r5, false)) (
 some ((r1.1, r1.2.1, r1.2.2.1, r1.2.2.2 ++ a1), true)))
def impl_TxOk_T6 {R : Type} (k0 : Int → (List Int) → Int → Option R) (k1 : Bool → Int → (List Int) → Int → Option R) (v2 : Bool) (v30 : List Sent) (v31 : Int) (b1 : TxQueue) (nx : (Int × (List Int) × Int) → Option R) (x : Int × (List Int) × Int) : Option R :=
 cond (decide (x.2.2 < v31)) (
 bindO (idx v30 x.2.2) fun x5 =>
 bindO (
 cond (decide (x5.2.1 < 1)) (
 some true) (
 cond (decide (x5.2.1 > x.1)) (
 some true) (
 bindO (impl_between x5.1 0 65535) fun r6 =>
 some (!r6)))) fun q7 =>
 cond q7 (
 k1 false x.1 x.2.1 x.2.2) (
 room (List.length x.2.1 + List.length x5.2.2) (
 nx (IntKind.wrap .i64 (x.1 - x5.2.1), x.2.1 ++ x5.2.2, IntKind.wrap .i64 (x.2.2 + 1))))) (
 k0 x.1 x.2.1 x.2.2)
def impl_TxOk (a0 : TxQueue) : Option (Bool) :=
 bindO (
 bindO (impl_RingOk a0.1) fun r1 =>
 cond (!r1) (
 some true) (
 bindO (impl_PoolOk a0.2.1) fun r2 =>
 cond (!r2) (
 some true) (
 bindO (impl_between a0.2.2.2 0 65535) fun r3 =>
 some (!r3)))) fun q4 =>
 cond q4 (
 some false) (
 iterL (impl_TxOk_T6
   (fun y8 y9 y10 =>
 bindO (impl_GiveBuffers a0.2.1 y9) fun r11 =>
 some r11.2)
   (fun y12 y13 y14 y15 =>
 some y12) false a0.2.2.1 ((List.length a0.2.2.1 : Int)) a0) fuel (a0.1.2.1, ([] : List Int), 0))
def impl_FilterOk_T2 {R : Type} (k0 : Int → Option R) (k1 : Bool → Int → Option R) (v2 : Bool) (v6 : List Int) (v7 : Int) (b1 : Filter) (nx : Int → Option R) (x : Int) : Option R :=
 cond (decide (x < v7)) (
 bindO (idx v6 x) fun x1 =>
 bindO (
 bindO (impl_between x1 0 4095) fun r2 =>
 cond (!r2) (
 some true) (
 cond (decide (x > 0)) (
 bindO (idx b1.2.2 (IntKind.wrap .i64 (x - 1))) fun x3 =>
 some (decide (x3 ≥ x1))) (
 some false))) fun q4 =>
 cond q4 (
 k1 false x) (
 nx (IntKind.wrap .i64 (x + 1)))) (
 k0 x)
def impl_FilterOk (a0 : Filter) : Option (Bool) :=
 iterL (impl_FilterOk_T2
   (fun y5 =>
 bindO (
 bindO (impl_between a0.1 0 281474976710654) fun r6 =>
 cond r6 (
 some (decide (((List.length a0.2.2 : Int)) ≤ 8))) (
 some false)) fun q7 =>
 some q7)
   (fun y8 y9 =>
 some y8) false a0.2.2 ((List.length a0.2.2 : Int)) a0) fuel 0
def impl_QueueOk (a0 : CompletionQueue) : Option (Bool) :=
 bindO (
 bindO (impl_between a0.1 0 130944) fun r1 =>
 cond r1 (
 bindO (impl_ringSize a0.2.1) fun r2 =>
 cond r2 (
 bindO (impl_between a0.2.2 0 (IntKind.wrap .i64 ((IntKind.wrap .i64 (2 * a0.2.1)) - 1))) fun r3 =>
 some r3) (
 some false)) (
 some false)) fun q4 =>
 some q4
def impl_SegmentOk (a0 : Segment) : Option (Bool) :=
 bindO (
 bindO (impl_between a0.2.1 0 65535) fun r1 =>
 cond (!r1) (
 some true) (
 bindO (impl_between a0.2.2.1 0 65535) fun r2 =>
 cond (!r2) (
 some true) (
 some (decide (((List.length a0.2.2.2.2.2.2.2 : Int)) > 320))))) fun q3 =>
 cond q3 (
 some false) (
 cond (a0.1 == 6) (
 bindO (
 bindO (impl_between a0.2.2.2.1 0 4294967295) fun r4 =>
 cond r4 (
 bindO (impl_between a0.2.2.2.2.1 0 4294967295) fun r5 =>
 cond r5 (
 bindO (impl_between a0.2.2.2.2.2.1 0 31) fun r6 =>
 cond r6 (
 bindO (impl_between a0.2.2.2.2.2.2.1 0 65535) fun r7 =>
 some r7) (
 some false)) (
 some false)) (
 some false)) fun q8 =>
 some q8) (
 cond (a0.1 == 17) (
 bindO (
 cond (a0.2.2.2.1 == 0) (
 cond (a0.2.2.2.2.1 == 0) (
 cond (a0.2.2.2.2.2.1 == 0) (
 some (a0.2.2.2.2.2.2.1 == 0)) (
 some false)) (
 some false)) (
 some false)) fun q9 =>
 some q9) (
 some false)))
def impl_streaming (a0 : Int) : Option (Bool) :=
 bindO (
 cond ((IntKind.wrap .i64 (BitVec.toNat (BitVec.ofInt (IntKind.bits .i64) a0 &&& BitVec.ofInt (IntKind.bits .i64) 16))) != 0) (
 some ((IntKind.wrap .i64 (BitVec.toNat (BitVec.ofInt (IntKind.bits .i64) a0 &&& ~~~ BitVec.ofInt (IntKind.bits .i64) 25))) == 0)) (
 some false)) fun q1 =>
 some q1
def impl_SuperOk (a0 : Packet) : Option (Bool) :=
 bindO (
 bindO (impl_between a0.1 0 281474976710655) fun r1 =>
 cond r1 (
 bindO (impl_between a0.2.1 0 281474976710655) fun r2 =>
 cond r2 (
 bindO (impl_between a0.2.2.1 (-1) 4095) fun r3 =>
 cond r3 (
 bindO (impl_between a0.2.2.2.1 0 255) fun r4 =>
 cond r4 (
 bindO (impl_between a0.2.2.2.2.2.1 0 255) fun r5 =>
 cond r5 (
 bindO (impl_between a0.2.2.2.2.1 0 65535) fun r6 =>
 cond r6 (
 bindO (impl_between a0.2.2.2.2.2.2.1 0 4294967295) fun r7 =>
 cond r7 (
 bindO (impl_between a0.2.2.2.2.2.2.2.1 0 4294967295) fun r8 =>
 cond r8 (
 bindO (impl_SegmentOk a0.2.2.2.2.2.2.2.2) fun r9 =>
 cond r9 (
 cond (decide (((List.length a0.2.2.2.2.2.2.2.2.2.2.2.2.2.2.2 : Int)) ≤ 128)) (
 some true) (
 cond (a0.2.2.2.2.2.2.2.2.1 == 6) (
 bindO (impl_streaming a0.2.2.2.2.2.2.2.2.2.2.2.2.2.1) fun r10 =>
 some r10) (
 some false))) (
 some false)) (
 some false)) (
 some false)) (
 some false)) (
 some false)) (
 some false)) (
 some false)) (
 some false)) (
 some false)) fun q11 =>
 some q11
def impl_RxOk (a0 : RxQueue) : Option (Bool) :=
 bindO (
 bindO (impl_RingOk a0.1) fun r1 =>
 cond (!r1) (
 some true) (
 bindO (impl_QueueOk a0.2.1) fun r2 =>
 cond (!r2) (
 some true) (
 bindO (impl_QueueOk a0.2.2.1) fun r3 =>
 cond (!r3) (
 some true) (
 cond (a0.2.1.1 != a0.2.2.1.1) (
 some true) (
 cond (a0.2.1.2.1 != a0.2.2.1.2.1) (
 some true) (
 bindO (impl_between a0.2.2.2.2.2 0 1000000000000) fun r4 =>
 some (!r4))))))) fun q5 =>
 cond q5 (
 some false) (
 cond (!a0.2.2.2.2.1) (
 some ((a0.2.2.2.1.1.1 == 0) && ((a0.2.2.2.1.1.2.1 == 0) && ((a0.2.2.2.1.1.2.2.1 == 0) && ((a0.2.2.2.1.1.2.2.2.1 == 0) && ((a0.2.2.2.1.1.2.2.2.2.1 == 0) && ((a0.2.2.2.1.1.2.2.2.2.2.1 == 0) && ((a0.2.2.2.1.1.2.2.2.2.2.2.1 == 0) && ((a0.2.2.2.1.1.2.2.2.2.2.2.2.1 == 0) && ((a0.2.2.2.1.1.2.2.2.2.2.2.2.2.1 == 0) && ((a0.2.2.2.1.1.2.2.2.2.2.2.2.2.2.1 == 0) && ((a0.2.2.2.1.1.2.2.2.2.2.2.2.2.2.2.1 == 0) && ((a0.2.2.2.1.1.2.2.2.2.2.2.2.2.2.2.2.1 == 0) && ((a0.2.2.2.1.1.2.2.2.2.2.2.2.2.2.2.2.2.1 == 0) && ((a0.2.2.2.1.1.2.2.2.2.2.2.2.2.2.2.2.2.2.1 == 0) && ((a0.2.2.2.1.1.2.2.2.2.2.2.2.2.2.2.2.2.2.2.1 == 0) && ((a0.2.2.2.1.1.2.2.2.2.2.2.2.2.2.2.2.2.2.2.2 == ([] : Bytes)) && ((a0.2.2.2.1.2.1 == 0) && ((a0.2.2.2.1.2.2 == 0) && true))))))))))))))))))) (
 bindO (
 bindO (impl_SuperOk a0.2.2.2.1.1) fun r6 =>
 cond r6 (
 bindO (impl_between a0.2.2.2.1.2.1 0 320) fun r7 =>
 cond r7 (
 bindO (impl_between a0.2.2.2.1.2.2 1 320) fun r8 =>
 some r8) (
 some false)) (
 some false)) fun q9 =>
 some q9))
def impl_due (a0 : Vector) : Option (Bool) :=
 bindO (
 cond (decide (a0.2.2.1 ≥ 1)) (
 cond (decide (a0.2.2.1 ≥ a0.1)) (
 some true) (
 some (decide (a0.2.2.2.1 ≥ a0.2.1)))) (
 some false)) fun q1 =>
 some q1
def impl_VectorOk (a0 : Vector) : Option (Bool) :=
 bindO (
 bindO (impl_between a0.1 1 64) fun r1 =>
 cond (!r1) (
 some true) (
 bindO (impl_between a0.2.1 0 64) fun r2 =>
 cond (!r2) (
 some true) (
 bindO (impl_between a0.2.2.1 0 1000000) fun r3 =>
 cond (!r3) (
 some true) (
 bindO (impl_between a0.2.2.2.1 0 1000000) fun r4 =>
 some (!r4))))) fun q5 =>
 cond q5 (
 some false) (
 bindO (
 cond (decide (a0.2.2.1 > 0)) (
 bindO (impl_due a0) fun r6 =>
 cond r6 (
 some (a0.2.2.2.2.2 == (!a0.2.2.2.2.1))) (
 some (a0.2.2.2.2.2 == false))) (
 cond (a0.2.2.2.1 == 0) (
 bindO (impl_due a0) fun r7 =>
 cond r7 (
 some (a0.2.2.2.2.2 == (!a0.2.2.2.2.1))) (
 some (a0.2.2.2.2.2 == false))) (
 some false))) fun q8 =>
 some q8)
def impl_RuleOk (a0 : Rule) : Option (Bool) :=
 bindO (
 bindO (impl_between a0.1 0 1000) fun r1 =>
 cond (!r1) (
 some true) (
 cond (a0.2.1 != 0) (
 cond (a0.2.1 != 6) (
 cond (a0.2.1 != 17) (
 some true) (
 bindO (impl_between a0.2.2.1 0 4294967295) fun r2 =>
 cond (!r2) (
 some true) (
 bindO (impl_between a0.2.2.2.1 0 32) fun r3 =>
 some (!r3)))) (
 bindO (impl_between a0.2.2.1 0 4294967295) fun r4 =>
 cond (!r4) (
 some true) (
 bindO (impl_between a0.2.2.2.1 0 32) fun r5 =>
 some (!r5)))) (
 bindO (impl_between a0.2.2.1 0 4294967295) fun r6 =>
 cond (!r6) (
 some true) (
 bindO (impl_between a0.2.2.2.1 0 32) fun r7 =>
 some (!r7))))) fun q8 =>
 cond q8 (
 some false) (
 bindO (
 cond (decide (a0.2.2.2.2.1 < 0)) (
 some true) (
 cond (decide (a0.2.2.2.2.1 > a0.2.2.2.2.2.1)) (
 some true) (
 cond (decide (a0.2.2.2.2.2.1 > 65535)) (
 some true) (
 bindO (impl_between a0.2.2.2.2.2.2.1 (-2) 4095) fun r9 =>
 some (!r9))))) fun q10 =>
 cond q10 (
 some false) (
 bindO (
 cond (a0.2.2.2.2.2.2.2.1 == 0) (
 bindO (impl_between a0.2.2.2.2.2.2.2.2 0 3) fun r11 =>
 cond r11 (
 some true) (
 cond (a0.2.2.2.2.2.2.2.1 == 1) (
 some (a0.2.2.2.2.2.2.2.2 == 0)) (
 some false))) (
 cond (a0.2.2.2.2.2.2.2.1 == 1) (
 some (a0.2.2.2.2.2.2.2.2 == 0)) (
 some false))) fun q12 =>
 some q12))
def impl_RulesOk_T2 {R : Type} (k0 : Int → Option R) (k1 : Bool → Int → Option R) (v0 : List Rule) (v2 : Bool) (v5 : List Rule) (v6 : Int) (nx : Int → Option R) (x : Int) : Option R :=
 cond (decide (x < v6)) (
 bindO (idx v5 x) fun x1 =>
 bindO (impl_RuleOk x1) fun r2 =>
 cond (!r2) (
 k1 false x) (
 nx (IntKind.wrap .i64 (x + 1)))) (
 k0 x)
def impl_RulesOk (a0 : List Rule) : Option (Bool) :=
 iterL (impl_RulesOk_T2
   (fun y3 =>
 some (decide (((List.length a0 : Int)) ≤ 12)))
   (fun y4 y5 =>
 some y4) a0 false a0 ((List.length a0 : Int))) fuel 0
def impl_slotOf_T2 {R : Type} (k0 : Int → Option R) (k1 : Int → Int → Option R) (v4 : Int) (v8 : List Slot) (v9 : Int) (b3 : Flow) (nx : Int → Option R) (x : Int) : Option R :=
 cond (decide (x < v9)) (
 bindO (idx v8 x) fun x1 =>
 bindO (
 cond (x1.1 == 1) (
 some ((x1.2.1.1 == b3.1) && ((x1.2.1.2.1 == b3.2.1) && ((x1.2.1.2.2.1 == b3.2.2.1) && ((x1.2.1.2.2.2.1 == b3.2.2.2.1) && ((x1.2.1.2.2.2.2 == b3.2.2.2.2) && true)))))) (
 some false)) fun q2 =>
 cond q2 (
 k1 x x) (
 nx (IntKind.wrap .i64 (x + 1)))) (
 k0 x)
def impl_slotOf (a0 : List Slot) (a1 : Flow) : Option (Int) :=
 iterL (impl_slotOf_T2
   (fun y3 =>
 some (-1))
   (fun y4 y5 =>
 some y4) 0 a0 ((List.length a0 : Int)) a1) fuel 0
def impl_HomeSlot_T3 {R : Type} (k0 : Int → Int → Option R) (v16 : List Int) (v17 : Int) (nx : (Int × Int) → Option R) (x : Int × Int) : Option R :=
 cond (decide (x.2 < v17)) (
 bindO (idx v16 x.2) fun x1 =>
 bindO (impl_modulo x1 8) fun r2 =>
 nx (IntKind.wrap .i64 (x.1 + r2), IntKind.wrap .i64 (x.2 + 1))) (
 k0 x.1 x.2)
def impl_HomeSlot (a0 : Flow) : Option (Int) :=
 iterL (impl_HomeSlot_T3
   (fun y3 y4 =>
 if 8 = 0 then none else (
 some (Int.tmod y3 8))) ([a0.1, a0.2.1, a0.2.2.1, a0.2.2.2.1, a0.2.2.2.2]) ((List.length ([a0.1, a0.2.1, a0.2.2.1, a0.2.2.2.1, a0.2.2.2.2]) : Int))) fuel (0, 0)
def impl_wayOf_T3 {R : Type} (k0 : (List Int) → Int → Option R) (b1 : Flow) (nx : ((List Int) × Int) → Option R) (x : (List Int) × Int) : Option R :=
 cond (decide (x.2 < 8)) (
 bindO (impl_HomeSlot b1) fun r1 =>
 if 8 = 0 then none else (
 room (List.length x.1 + List.length ([(Int.tmod (IntKind.wrap .i64 (r1 + x.2)) 8)])) (
 nx (x.1 ++ ([(Int.tmod (IntKind.wrap .i64 (r1 + x.2)) 8)]), IntKind.wrap .i64 (x.2 + 1))))) (
 k0 x.1 x.2)
def impl_wayOf (a0 : Flow) : Option (List Int) :=
 iterL (impl_wayOf_T3
   (fun y2 y3 =>
 some y2) a0) fuel (([] : List Int), 0)
def impl_TableOk_T14 {R : Type} (k0 : Int → Option R) (k1 : Bool → Int → Option R) (v2 : Bool) (v3 : Int) (v12 : List Slot) (v13 : Int) (v14 : Int) (v49 : List Int) (v50 : Int) (b1 : List Slot) (nx : Int → Option R) (x : Int) : Option R :=
 cond (decide (x < v50)) (
 bindO (idx v49 x) fun x8 =>
 cond (x8 == v3) (
 k0 x) (
 bindO (idx b1 x8) fun x9 =>
 cond (x9.1 == 0) (
 k1 false x) (
 nx (IntKind.wrap .i64 (x + 1))))) (
 k0 x)
def impl_TableOk_T4 {R : Type} (k0 : Int → Option R) (k1 : Bool → Int → Option R) (v2 : Bool) (v12 : List Slot) (v13 : Int) (b1 : List Slot) (nx : Int → Option R) (x : Int) : Option R :=
 cond (decide (x < v13)) (
 bindO (idx v12 x) fun x1 =>
 bindO (
 bindO (impl_between x1.1 0 2) fun r2 =>
 cond (!r2) (
 some true) (
 bindO (impl_between x1.2.2 0 3) fun r3 =>
 some (!r3))) fun q4 =>
 cond q4 (
 k1 false x) (
 cond (x1.1 != 1) (
 bindO (
 cond (!((x1.2.1.1 == 0) && ((x1.2.1.2.1 == 0) && ((x1.2.1.2.2.1 == 0) && ((x1.2.1.2.2.2.1 == 0) && ((x1.2.1.2.2.2.2 == 0) && true)))))) (
 some true) (
 some (x1.2.2 != 0))) fun q5 =>
 cond q5 (
 k1 false x) (
 nx (IntKind.wrap .i64 (x + 1)))) (
 bindO (impl_slotOf b1 x1.2.1) fun r6 =>
 cond (r6 != x) (
 k1 false x) (
 bindO (impl_wayOf x1.2.1) fun r7 =>
 iterL (impl_TableOk_T14
   (fun y10 =>
 nx (IntKind.wrap .i64 (x + 1)))
   (fun y11 y12 =>
 k1 y11 x) v2 x v12 v13 x r7 ((List.length r7 : Int)) b1) fuel 0)))) (
 k0 x)
def impl_TableOk (a0 : List Slot) : Option (Bool) :=
 cond (((List.length a0 : Int)) != 8) (
 some false) (
 iterL (impl_TableOk_T4
   (fun y13 =>
 some true)
   (fun y14 y15 =>
 some y14) false a0 ((List.length a0 : Int)) a0) fuel 0)
def impl_tableSize (a0 : Int) : Option (Bool) :=
 bindO (
 cond (a0 == 1) (
 some true) (
 cond (a0 == 2) (
 some true) (
 cond (a0 == 4) (
 some true) (
 cond (a0 == 8) (
 some true) (
 some (a0 == 16)))))) fun q1 =>
 some q1
def impl_SpreadOk_T4 {R : Type} (k0 : Int → Option R) (k1 : Bool → Int → Option R) (v1 : Int) (v4 : Bool) (v24 : List Int) (v25 : Int) (nx : Int → Option R) (x : Int) : Option R :=
 cond (decide (x < v25)) (
 bindO (idx v24 x) fun x4 =>
 bindO (impl_between x4 0 (IntKind.wrap .i64 (v1 - 1))) fun r5 =>
 cond (!r5) (
 k1 false x) (
 nx (IntKind.wrap .i64 (x + 1)))) (
 k0 x)
def impl_SpreadOk (a0 : Spread) (a1 : Int) : Option (Bool) :=
 bindO (
 bindO (impl_between a1 1 4) fun r1 =>
 cond (!r1) (
 some true) (
 cond (((List.length a0.1 : Int)) != 16) (
 some true) (
 bindO (impl_tableSize ((List.length a0.2 : Int))) fun r2 =>
 some (!r2)))) fun q3 =>
 cond q3 (
 some false) (
 iterL (impl_SpreadOk_T4
   (fun y6 =>
 some true)
   (fun y7 y8 =>
 some y7) a1 false a0.2 ((List.length a0.2 : Int))) fuel 0)
def impl_SteeringOk_T4 {R : Type} (k0 : Int → Option R) (k1 : Bool → Int → Option R) (v1 : Int) (v4 : Bool) (v27 : List Rule) (v28 : Int) (b2 : Steering) (nx : Int → Option R) (x : Int) : Option R :=
 cond (decide (x < v28)) (
 bindO (idx v27 x) fun x5 =>
 bindO (
 cond (x5.2.2.2.2.2.2.2.1 == 0) (
 some (decide (x5.2.2.2.2.2.2.2.2 ≥ v1))) (
 some false)) fun q6 =>
 cond q6 (
 k1 false x) (
 nx (IntKind.wrap .i64 (x + 1)))) (
 k0 x)
def impl_SteeringOk_T10 {R : Type} (k0 : Int → Option R) (k1 : Bool → Int → Option R) (v1 : Int) (v4 : Bool) (v45 : List Slot) (v46 : Int) (nx : Int → Option R) (x : Int) : Option R :=
 cond (decide (x < v46)) (
 bindO (idx v45 x) fun x8 =>
 bindO (
 cond (x8.1 == 1) (
 some (decide (x8.2.2 ≥ v1))) (
 some false)) fun q9 =>
 cond q9 (
 k1 false x) (
 nx (IntKind.wrap .i64 (x + 1)))) (
 k0 x)
def impl_SteeringOk (a0 : Steering) (a1 : Int) : Option (Bool) :=
 bindO (
 bindO (impl_RulesOk a0.1) fun r1 =>
 cond (!r1) (
 some true) (
 bindO (impl_TableOk a0.2.1) fun r2 =>
 cond (!r2) (
 some true) (
 bindO (impl_SpreadOk a0.2.2 a1) fun r3 =>
 some (!r3)))) fun q4 =>
 cond q4 (
 some false) (
 iterL (impl_SteeringOk_T4
   (fun y7 =>
 iterL (impl_SteeringOk_T10
   (fun y10 =>
 some true)
   (fun y11 y12 =>
 some y11) a1 false a0.2.1 ((List.length a0.2.1 : Int))) fuel 0)
   (fun y13 y14 =>
 some y13) a1 false a0.1 ((List.length a0.1 : Int)) a0) fuel 0)
def impl_HostOk_T5 {R : Type} (k0 : Int → Option R) (k1 : Bool → Int → Option R) (v2 : Bool) (v3 : Int) (v61 : Int) (b1 : Host) (nx : Int → Option R) (x : Int) : Option R :=
 cond (decide (x < v61)) (
 bindO (
 bindO (idx b1.2.2.2.1 x) fun x7 =>
 bindO (impl_RxOk x7) fun r8 =>
 cond (!r8) (
 some true) (
 bindO (idx b1.2.2.2.2.1 x) fun x9 =>
 bindO (impl_PoolOk x9) fun r10 =>
 cond (!r10) (
 some true) (
 bindO (idx b1.2.2.2.2.2.1 x) fun x11 =>
 bindO (impl_VectorOk x11) fun r12 =>
 some (!r12)))) fun q13 =>
 cond q13 (
 k1 false x) (
 nx (IntKind.wrap .i64 (x + 1)))) (
 k0 x)
def impl_HostOk_T12 {R : Type} (k0 : Int → Option R) (k1 : Bool → Int → Option R) (v2 : Bool) (v3 : Int) (v103 : List Int) (v104 : Int) (b1 : Host) (nx : Int → Option R) (x : Int) : Option R :=
 cond (decide (x < v104)) (
 bindO (idx v103 x) fun x15 =>
 bindO (impl_between x15 0 1000000000000) fun r16 =>
 cond (!r16) (
 k1 false x) (
 nx (IntKind.wrap .i64 (x + 1)))) (
 k0 x)
def impl_HostOk (a0 : Host) : Option (Bool) :=
 bindO (
 bindO (impl_MemoryOk a0.1) fun r1 =>
 cond (!r1) (
 some true) (
 bindO (impl_MappingsOk a0.2.1) fun r2 =>
 cond (!r2) (
 some true) (
 bindO (impl_TxOk a0.2.2.1) fun r3 =>
 cond (!r3) (
 some true) (
 bindO (impl_FilterOk a0.2.2.2.2.2.2.2.1) fun r4 =>
 cond (!r4) (
 some true) (
 bindO (impl_between ((List.length a0.2.2.2.1 : Int)) 1 2) fun r5 =>
 cond (!r5) (
 some true) (
 cond (((List.length a0.2.2.2.2.1 : Int)) != ((List.length a0.2.2.2.1 : Int))) (
 some true) (
 cond (((List.length a0.2.2.2.2.2.1 : Int)) != ((List.length a0.2.2.2.1 : Int))) (
 some true) (
 some (((List.length a0.2.2.2.2.2.2.1 : Int)) != ((List.length a0.2.2.2.1 : Int))))))))))) fun q6 =>
 cond q6 (
 some false) (
 iterL (impl_HostOk_T5
   (fun y14 =>
 iterL (impl_HostOk_T12
   (fun y17 =>
 bindO (impl_SteeringOk a0.2.2.2.2.2.2.2.2.1 ((List.length a0.2.2.2.1 : Int))) fun r18 =>
 some r18)
   (fun y19 y20 =>
 some y19) false ((List.length a0.2.2.2.1 : Int)) ([a0.2.2.2.2.2.2.2.2.2.2.2.2.2.2.1, a0.2.2.2.2.2.2.2.2.2.2.2.2.2.2.2.1, a0.2.2.2.2.2.2.2.2.2.2.2.2.2.2.2.2.1, a0.2.2.2.2.2.2.2.2.2.2.2.2.2.2.2.2.2.1, a0.2.2.2.2.2.2.2.2.2.2.2.2.2.2.2.2.2.2]) ((List.length ([a0.2.2.2.2.2.2.2.2.2.2.2.2.2.2.1, a0.2.2.2.2.2.2.2.2.2.2.2.2.2.2.2.1, a0.2.2.2.2.2.2.2.2.2.2.2.2.2.2.2.2.1, a0.2.2.2.2.2.2.2.2.2.2.2.2.2.2.2.2.2.1, a0.2.2.2.2.2.2.2.2.2.2.2.2.2.2.2.2.2.2]) : Int)) a0) fuel 0)
   (fun y21 y22 =>
 some y21) false ((List.length a0.2.2.2.1 : Int)) ((List.length a0.2.2.2.1 : Int)) a0) fuel 0)
def impl_place (a0 : List Mapping) (a1 : Int) (a2 : Int) (a3 : Bool) : Option (Int) :=
 cond (decide (a2 < 0)) (
 some (-1)) (
 if 128 = 0 then none else (
 bindO (impl_pageMapping a0 a1 (IntKind.wrap .i64 (Int.tdiv a2 128))) fun r1 =>
 bindO (
 cond (decide (r1 < 0)) (
 some true) (
 cond a3 (
 bindO (idx a0 r1) fun x2 =>
 some (!x2.2.2.2)) (
 some false))) fun q3 =>
 cond q3 (
 some (-1)) (
 bindO (idx a0 r1) fun x4 =>
 if 128 = 0 then none else (
 some (IntKind.wrap .i64 ((IntKind.wrap .i64 (x4.2.2.1 * 128)) + (Int.tmod a2 128)))))))
def impl_within (a0 : List Bytes) (a1 : Int) (a2 : Int) : Option (Bool) :=
 bindO (
 bindO (impl_MemoryOk a0) fun r1 =>
 cond r1 (
 cond (decide (a2 ≥ 0)) (
 cond (decide (a2 ≤ (IntKind.wrap .i64 (((List.length a0 : Int)) * 128)))) (
 cond (decide (a1 ≥ 0)) (
 some (decide (a1 ≤ (IntKind.wrap .i64 ((IntKind.wrap .i64 (((List.length a0 : Int)) * 128)) - a2))))) (
 some false)) (
 some false)) (
 some false)) (
 some false)) fun q2 =>
 some q2
def impl_runsOf_T8 {R : Type} (k0 : Int → Int → (List (Int × Int)) → Option R) (k1 : Int → Int → (List (Int × Int)) → Bool → (List (Int × Int)) → Option R) (v0 : List Mapping) (v2 : Int) (v5 : Bool) (v12 : List (Int × Int)) (v13 : Bool) (b7 : List Bytes) (nx : (Int × Int × List (Int × Int)) → Option R) (x : Int × Int × List (Int × Int)) : Option R :=
 cond (decide (x.2.1 > 0)) (
 bindO (impl_place v0 v2 x.1 v5) fun r5 =>
 if 128 = 0 then none else (
 bindO (
 cond (decide (r5 < 0)) (
 some true) (
 bindO (impl_within b7 r5 (if (IntKind.wrap .i64 (128 - (Int.tmod x.1 128))) < x.2.1 then (IntKind.wrap .i64 (128 - (Int.tmod x.1 128))) else x.2.1)) fun r6 =>
 some (!r6))) fun q7 =>
 cond q7 (
 k1 x.1 x.2.1 ([] : List (Int × Int)) false x.2.2) (
 room (List.length x.2.2 + List.length ([(r5, if (IntKind.wrap .i64 (128 - (Int.tmod x.1 128))) < x.2.1 then (IntKind.wrap .i64 (128 - (Int.tmod x.1 128))) else x.2.1)])) (
 bindO (
 cond (decide ((IntKind.wrap .i64 (x.1 + (if (IntKind.wrap .i64 (128 - (Int.tmod x.1 128))) < x.2.1 then (IntKind.wrap .i64 (128 - (Int.tmod x.1 128))) else x.2.1))) < 0)) (
 some (decide ((IntKind.wrap .i64 (x.2.1 - (if (IntKind.wrap .i64 (128 - (Int.tmod x.1 128))) < x.2.1 then (IntKind.wrap .i64 (128 - (Int.tmod x.1 128))) else x.2.1))) > 0))) (
 some false)) fun q8 =>
 cond q8 (
 k1 (IntKind.wrap .i64 (x.1 + (if (IntKind.wrap .i64 (128 - (Int.tmod x.1 128))) < x.2.1 then (IntKind.wrap .i64 (128 - (Int.tmod x.1 128))) else x.2.1))) (IntKind.wrap .i64 (x.2.1 - (if (IntKind.wrap .i64 (128 - (Int.tmod x.1 128))) < x.2.1 then (IntKind.wrap .i64 (128 - (Int.tmod x.1 128))) else x.2.1))) ([] : List (Int × Int)) false (x.2.2 ++ ([(r5, if (IntKind.wrap .i64 (128 - (Int.tmod x.1 128))) < x.2.1 then (IntKind.wrap .i64 (128 - (Int.tmod x.1 128))) else x.2.1)]))) (
 nx (IntKind.wrap .i64 (x.1 + (if (IntKind.wrap .i64 (128 - (Int.tmod x.1 128))) < x.2.1 then (IntKind.wrap .i64 (128 - (Int.tmod x.1 128))) else x.2.1)), IntKind.wrap .i64 (x.2.1 - (if (IntKind.wrap .i64 (128 - (Int.tmod x.1 128))) < x.2.1 then (IntKind.wrap .i64 (128 - (Int.tmod x.1 128))) else x.2.1)), x.2.2 ++ ([(r5, if (IntKind.wrap .i64 (128 - (Int.tmod x.1 128))) < x.2.1 then (IntKind.wrap .i64 (128 - (Int.tmod x.1 128))) else x.2.1)]))))))) (
 k0 x.1 x.2.1 x.2.2)
def impl_runsOf (a0 : List Mapping) (a1 : List Bytes) (a2 : Int) (a3 : Int) (a4 : Int) (a5 : Bool) : Option ((List (Int × Int)) × Bool) :=
 bindO (
 bindO (impl_MappingsOk a0) fun r1 =>
 cond (!r1) (
 some true) (
 bindO (impl_MemoryOk a1) fun r2 =>
 cond (!r2) (
 some true) (
 bindO (impl_between a4 0 4096) fun r3 =>
 some (!r3)))) fun q4 =>
 cond q4 (
 some (([] : List (Int × Int)), false)) (
 cond (a4 == 0) (
 some (([] : List (Int × Int)), true)) (
 cond (decide (a3 < 0)) (
 some (([] : List (Int × Int)), false)) (
 iterL (impl_runsOf_T8
   (fun y9 y10 y11 =>
 some (y11, true))
   (fun y12 y13 y14 y15 y16 =>
 some (y14, y15)) a0 a2 a5 ([] : List (Int × Int)) false a1) fuel (a3, a4, ([] : List (Int × Int))))))
def impl_ReadMemory_T4 {R : Type} (k0 : Int → (List Int) → Option R) (v2 : Int) (b3 : List Bytes) (nx : (Int × List Int) → Option R) (x : Int × List Int) : Option R :=
 cond (decide (((List.length x.2 : Int)) < v2)) (
 if 128 = 0 then none else (
 bindO (idx b3 (IntKind.wrap .i64 (Int.tdiv x.1 128))) fun x2 =>
 if 128 = 0 then none else (
 bindO (sub x2 (Int.tmod x.1 128) (if (IntKind.wrap .i64 ((IntKind.wrap .i64 ((Int.tmod x.1 128) + v2)) - ((List.length x.2 : Int)))) < 128 then (IntKind.wrap .i64 ((IntKind.wrap .i64 ((Int.tmod x.1 128) + v2)) - ((List.length x.2 : Int)))) else 128)) fun x3 =>
 room (List.length x.2 + List.length x3) (
 nx (IntKind.wrap .i64 (x.1 + ((List.length x3 : Int))), x.2 ++ intsOf x3))))) (
 k0 x.1 x.2)
def impl_ReadMemory (a0 : List Bytes) (a1 : Int) (a2 : Int) : Option (Bytes × Bool) :=
 bindO (impl_within a0 a1 a2) fun r1 =>
 cond (!r1) (
 some (([] : Bytes), false)) (
 if (0 : Int) ≤ 0 ∧ 0 ≤ a2 then (
 room (Int.toNat a2) (
 iterL (impl_ReadMemory_T4
   (fun y4 y5 =>
 some (bytesOf y5, true)) a2 a0) fuel (a1, List.replicate (Int.toNat 0) (0 : Int)))) else none)
def impl_DmaRead_T6 {R : Type} (k0 : Bytes → Int → Option R) (v30 : List (Int × Int)) (v31 : Int) (b6 : List Bytes) (nx : (Bytes × Int) → Option R) (x : Bytes × Int) : Option R :=
 cond (decide (x.2 < v31)) (
 bindO (idx v30 x.2) fun x2 =>
 bindO (impl_ReadMemory b6 x2.1 x2.2) fun r3 =>
 room (List.length x.1 + List.length r3.1) (
 nx (x.1 ++ r3.1, IntKind.wrap .i64 (x.2 + 1)))) (
 k0 x.1 x.2)
def impl_DmaRead (a0 : List Mapping) (a1 : List Bytes) (a2 : Int) (a3 : Int) (a4 : Int) : Option (Bytes × Bool) :=
 bindO (impl_runsOf a0 a1 a2 a3 a4 false) fun r1 =>
 cond (!r1.2) (
 some (([] : Bytes), false)) (
 iterL (impl_DmaRead_T6
   (fun y4 y5 =>
 some (y4, true)) r1.1 ((List.length r1.1 : Int)) a1) fuel (([] : Bytes), 0))
def impl_slotOfCount (a0 : CompletionQueue) : Option (Int) :=
 if a0.2.1 = 0 then none else (
 some (IntKind.wrap .i64 (a0.1 + (IntKind.wrap .i64 ((Int.tmod a0.2.2 a0.2.1) * 16)))))
def impl_Get16 (a0 : Bytes) (a1 : Int) : Option (Int) :=
 bindO (
 cond (decide (a1 < 0)) (
 some true) (
 some (decide (a1 > (IntKind.wrap .i64 (((List.length a0 : Int)) - 2)))))) fun q1 =>
 cond q1 (
 some (-1)) (
 bindO (idx a0 a1) fun x2 =>
 if 8 < 0 then none else (
 bindO (idx a0 (IntKind.wrap .i64 (a1 + 1))) fun x3 =>
 some (IntKind.wrap .i64 (BitVec.toNat (BitVec.ofInt (IntKind.bits .i64) (IntKind.wrap .i64 ((IntKind.wrap .i64 ((UInt8.toNat x2 : Int))) * 2 ^ (min (Int.toNat 8) (IntKind.bits .i64)))) ||| BitVec.ofInt (IntKind.bits .i64) (IntKind.wrap .i64 ((UInt8.toNat x3 : Int))))))))
def impl_Get32 (a0 : Bytes) (a1 : Int) : Option (Int) :=
 bindO (
 cond (decide (a1 < 0)) (
 some true) (
 some (decide (a1 > (IntKind.wrap .i64 (((List.length a0 : Int)) - 4)))))) fun q1 =>
 cond q1 (
 some (-1)) (
 bindO (idx a0 a1) fun x2 =>
 if 24 < 0 then none else (
 bindO (idx a0 (IntKind.wrap .i64 (a1 + 1))) fun x3 =>
 if 16 < 0 then none else (
 bindO (idx a0 (IntKind.wrap .i64 (a1 + 2))) fun x4 =>
 if 8 < 0 then none else (
 bindO (idx a0 (IntKind.wrap .i64 (a1 + 3))) fun x5 =>
 some (IntKind.wrap .i64 (BitVec.toNat (BitVec.ofInt (IntKind.bits .i64) (IntKind.wrap .i64 (BitVec.toNat (BitVec.ofInt (IntKind.bits .i64) (IntKind.wrap .i64 (BitVec.toNat (BitVec.ofInt (IntKind.bits .i64) (IntKind.wrap .i64 ((IntKind.wrap .i64 ((UInt8.toNat x2 : Int))) * 2 ^ (min (Int.toNat 24) (IntKind.bits .i64)))) ||| BitVec.ofInt (IntKind.bits .i64) (IntKind.wrap .i64 ((IntKind.wrap .i64 ((UInt8.toNat x3 : Int))) * 2 ^ (min (Int.toNat 16) (IntKind.bits .i64))))))) ||| BitVec.ofInt (IntKind.bits .i64) (IntKind.wrap .i64 ((IntKind.wrap .i64 ((UInt8.toNat x4 : Int))) * 2 ^ (min (Int.toNat 8) (IntKind.bits .i64))))))) ||| BitVec.ofInt (IntKind.bits .i64) (IntKind.wrap .i64 ((UInt8.toNat x5 : Int))))))))))
def impl_DecodeCompletion (a0 : Bytes) : Option (Flow × Int × Bool) :=
 cond (((List.length a0 : Int)) != 16) (
 some ((0, 0, 0, 0, 0), 0, false)) (
 bindO (impl_Get16 a0 0) fun r1 =>
 bindO (impl_Get16 a0 2) fun r2 =>
 bindO (impl_Get16 a0 4) fun r3 =>
 bindO (impl_Get16 a0 6) fun r4 =>
 bindO (impl_Get32 a0 8) fun r5 =>
 bindO (impl_Get32 a0 12) fun r6 =>
 cond (decide (r6 > 1)) (
 some ((0, 0, 0, 0, 0), 0, false)) (
 some ((r1, r2, r3, r4, r5), r6, true)))
def impl_phaseOf (a0 : CompletionQueue) : Option (Int) :=
 cond (decide (a0.2.2 < a0.2.1)) (
 some 1) (
 some 0)
def impl_NextCompletion (a0 : List Mapping) (a1 : List Bytes) (a2 : Int) (a3 : CompletionQueue) : Option (Flow × CompletionQueue × Bool) :=
 bindO (impl_QueueOk a3) fun r1 =>
 cond (!r1) (
 some ((0, 0, 0, 0, 0), a3, false)) (
 bindO (impl_slotOfCount a3) fun r2 =>
 bindO (impl_DmaRead a0 a1 a2 r2 16) fun r3 =>
 cond (!r3.2) (
 some ((0, 0, 0, 0, 0), a3, false)) (
 bindO (impl_DecodeCompletion r3.1) fun r4 =>
 bindO (
 cond (!r4.2.2) (
 some true) (
 bindO (impl_phaseOf a3) fun r5 =>
 some (r4.2.1 != r5))) fun q6 =>
 cond q6 (
 some ((0, 0, 0, 0, 0), a3, false)) (
 if (IntKind.wrap .i64 (2 * a3.2.1)) = 0 then none else (
 some (r4.1, (a3.1, a3.2.1, Int.tmod (IntKind.wrap .i64 (a3.2.2 + 1)) (IntKind.wrap .i64 (2 * a3.2.1))), true)))))
def impl_HasCompletion (a0 : List Mapping) (a1 : List Bytes) (a2 : Int) (a3 : RxQueue) : Option (Bool) :=
 bindO (impl_RxOk a3) fun r1 =>
 cond (!r1) (
 some false) (
 bindO (impl_NextCompletion a0 a1 a2 a3.2.2.1) fun r2 =>
 some r2.2.2)
def impl_IsQuiet_T4 {R : Type} (k0 : Int → Option R) (k1 : Bool → Int → Option R) (v2 : Bool) (v16 : List RxQueue) (v17 : Int) (b1 : Host) (nx : Int → Option R) (x : Int) : Option R :=
 cond (decide (x < v17)) (
 bindO (idx v16 x) fun x3 =>
 bindO (
 cond x3.2.2.2.2.1 (
 some true) (
 bindO (impl_HasCompletion b1.2.1 b1.1 0 x3) fun r4 =>
 some r4)) fun q5 =>
 cond q5 (
 k1 false x) (
 nx (IntKind.wrap .i64 (x + 1)))) (
 k0 x)
def impl_IsQuiet (a0 : Host) : Option (Bool) :=
 bindO (
 bindO (impl_HostOk a0) fun r1 =>
 cond (!r1) (
 some true) (
 some (decide (((List.length a0.2.2.1.2.2.1 : Int)) > 0)))) fun q2 =>
 cond q2 (
 some false) (
 iterL (impl_IsQuiet_T4
   (fun y6 =>
 some true)
   (fun y7 y8 =>
 some y7) false a0.2.2.2.1 ((List.length a0.2.2.2.1 : Int)) a0) fuel 0)
def laws_eqStringS_T4 {R : Type} (k0 : Int → Option R) (k1 : Bool → Int → Option R) (v0 : List Bytes) (v1 : List Bytes) (v4 : Bool) (nx : Int → Option R) (x : Int) : Option R :=
 cond (decide (x < ((List.length v0 : Int)))) (
 bindO (idx v0 x) fun x1 =>
 bindO (idx v1 x) fun x2 =>
 cond (!(x1 == x2)) (
 k1 false x) (
 nx (IntKind.wrap .i64 (x + 1)))) (
 k0 x)
def laws_eqStringS (a0 : List Bytes) (a1 : List Bytes) : Option (Bool) :=
 cond (((List.length a0 : Int)) != ((List.length a1 : Int))) (
 some false) (
 iterL (laws_eqStringS_T4
   (fun y3 =>
 some true)
   (fun y4 y5 =>
 some y4) a0 a1 false) fuel 0)
def laws_eqMemory (a0 : List Bytes) (a1 : List Bytes) : Option (Bool) :=
 bindO (laws_eqStringS a0 a1) fun r1 =>
 cond (!r1) (
 some false) (
 some true)
def laws_eqMapping (a0 : Mapping) (a1 : Mapping) : Option (Bool) :=
 cond (a0.1 != a1.1) (
 some false) (
 cond (a0.2.1 != a1.2.1) (
 some false) (
 cond (a0.2.2.1 != a1.2.2.1) (
 some false) (
 cond (!(a0.2.2.2 == a1.2.2.2)) (
 some false) (
 some true))))
def laws_eqMappingS_T4 {R : Type} (k0 : Int → Option R) (k1 : Bool → Int → Option R) (v0 : List Mapping) (v1 : List Mapping) (v4 : Bool) (nx : Int → Option R) (x : Int) : Option R :=
 cond (decide (x < ((List.length v0 : Int)))) (
 bindO (idx v0 x) fun x1 =>
 bindO (idx v1 x) fun x2 =>
 bindO (laws_eqMapping x1 x2) fun r3 =>
 cond (!r3) (
 k1 false x) (
 nx (IntKind.wrap .i64 (x + 1)))) (
 k0 x)
def laws_eqMappingS (a0 : List Mapping) (a1 : List Mapping) : Option (Bool) :=
 cond (((List.length a0 : Int)) != ((List.length a1 : Int))) (
 some false) (
 iterL (laws_eqMappingS_T4
   (fun y4 =>
 some true)
   (fun y5 y6 =>
 some y5) a0 a1 false) fuel 0)
def laws_eqRing (a0 : Ring) (a1 : Ring) : Option (Bool) :=
 cond (a0.1 != a1.1) (
 some false) (
 cond (a0.2.1 != a1.2.1) (
 some false) (
 cond (a0.2.2.1 != a1.2.2.1) (
 some false) (
 cond (a0.2.2.2 != a1.2.2.2) (
 some false) (
 some true))))
def laws_eqIntS_T4 {R : Type} (k0 : Int → Option R) (k1 : Bool → Int → Option R) (v0 : List Int) (v1 : List Int) (v4 : Bool) (nx : Int → Option R) (x : Int) : Option R :=
 cond (decide (x < ((List.length v0 : Int)))) (
 bindO (idx v0 x) fun x1 =>
 bindO (idx v1 x) fun x2 =>
 cond (x1 != x2) (
 k1 false x) (
 nx (IntKind.wrap .i64 (x + 1)))) (
 k0 x)
def laws_eqIntS (a0 : List Int) (a1 : List Int) : Option (Bool) :=
 cond (((List.length a0 : Int)) != ((List.length a1 : Int))) (
 some false) (
 iterL (laws_eqIntS_T4
   (fun y3 =>
 some true)
   (fun y4 y5 =>
 some y4) a0 a1 false) fuel 0)
def laws_eqPool (a0 : Pool) (a1 : Pool) : Option (Bool) :=
 cond (a0.1 != a1.1) (
 some false) (
 cond (a0.2.1 != a1.2.1) (
 some false) (
 cond (a0.2.2.1 != a1.2.2.1) (
 some false) (
 bindO (laws_eqIntS a0.2.2.2 a1.2.2.2) fun r1 =>
 cond (!r1) (
 some false) (
 some true))))
def laws_eqSent (a0 : Sent) (a1 : Sent) : Option (Bool) :=
 cond (a0.1 != a1.1) (
 some false) (
 cond (a0.2.1 != a1.2.1) (
 some false) (
 bindO (laws_eqIntS a0.2.2 a1.2.2) fun r1 =>
 cond (!r1) (
 some false) (
 some true)))
def laws_eqSentS_T4 {R : Type} (k0 : Int → Option R) (k1 : Bool → Int → Option R) (v0 : List Sent) (v1 : List Sent) (v4 : Bool) (nx : Int → Option R) (x : Int) : Option R :=
 cond (decide (x < ((List.length v0 : Int)))) (
 bindO (idx v0 x) fun x1 =>
 bindO (idx v1 x) fun x2 =>
 bindO (laws_eqSent x1 x2) fun r3 =>
 cond (!r3) (
 k1 false x) (
 nx (IntKind.wrap .i64 (x + 1)))) (
 k0 x)
def laws_eqSentS (a0 : List Sent) (a1 : List Sent) : Option (Bool) :=
 cond (((List.length a0 : Int)) != ((List.length a1 : Int))) (
 some false) (
 iterL (laws_eqSentS_T4
   (fun y4 =>
 some true)
   (fun y5 y6 =>
 some y5) a0 a1 false) fuel 0)
def laws_eqTxQueue (a0 : TxQueue) (a1 : TxQueue) : Option (Bool) :=
 bindO (laws_eqRing a0.1 a1.1) fun r1 =>
 cond (!r1) (
 some false) (
 bindO (laws_eqPool a0.2.1 a1.2.1) fun r2 =>
 cond (!r2) (
 some false) (
 bindO (laws_eqSentS a0.2.2.1 a1.2.2.1) fun r3 =>
 cond (!r3) (
 some false) (
 cond (a0.2.2.2 != a1.2.2.2) (
 some false) (
 some true))))
def laws_eqCompletionQueue (a0 : CompletionQueue) (a1 : CompletionQueue) : Option (Bool) :=
 cond (a0.1 != a1.1) (
 some false) (
 cond (a0.2.1 != a1.2.1) (
 some false) (
 cond (a0.2.2 != a1.2.2) (
 some false) (
 some true)))
def laws_eqSegment (a0 : Segment) (a1 : Segment) : Option (Bool) :=
 cond (a0.1 != a1.1) (
 some false) (
 cond (a0.2.1 != a1.2.1) (
 some false) (
 cond (a0.2.2.1 != a1.2.2.1) (
 some false) (
 cond (a0.2.2.2.1 != a1.2.2.2.1) (
 some false) (
 cond (a0.2.2.2.2.1 != a1.2.2.2.2.1) (
 some false) (
 cond (a0.2.2.2.2.2.1 != a1.2.2.2.2.2.1) (
 some false) (
 cond (a0.2.2.2.2.2.2.1 != a1.2.2.2.2.2.2.1) (
 some false) (
 cond (!(a0.2.2.2.2.2.2.2 == a1.2.2.2.2.2.2.2)) (
 some false) (
 some true))))))))
def laws_eqPacket (a0 : Packet) (a1 : Packet) : Option (Bool) :=
 cond (a0.1 != a1.1) (
 some false) (
 cond (a0.2.1 != a1.2.1) (
 some false) (
 cond (a0.2.2.1 != a1.2.2.1) (
 some false) (
 cond (a0.2.2.2.1 != a1.2.2.2.1) (
 some false) (
 cond (a0.2.2.2.2.1 != a1.2.2.2.2.1) (
 some false) (
 cond (a0.2.2.2.2.2.1 != a1.2.2.2.2.2.1) (
 some false) (
 cond (a0.2.2.2.2.2.2.1 != a1.2.2.2.2.2.2.1) (
 some false) (
 cond (a0.2.2.2.2.2.2.2.1 != a1.2.2.2.2.2.2.2.1) (
 some false) (
 bindO (laws_eqSegment a0.2.2.2.2.2.2.2.2 a1.2.2.2.2.2.2.2.2) fun r1 =>
 cond (!r1) (
 some false) (
 some true)))))))))
def laws_eqSuper (a0 : Super) (a1 : Super) : Option (Bool) :=
 bindO (laws_eqPacket a0.1 a1.1) fun r1 =>
 cond (!r1) (
 some false) (
 cond (a0.2.1 != a1.2.1) (
 some false) (
 cond (a0.2.2 != a1.2.2) (
 some false) (
 some true)))
def laws_eqRxQueue (a0 : RxQueue) (a1 : RxQueue) : Option (Bool) :=
 bindO (laws_eqRing a0.1 a1.1) fun r1 =>
 cond (!r1) (
 some false) (
 bindO (laws_eqCompletionQueue a0.2.1 a1.2.1) fun r2 =>
 cond (!r2) (
 some false) (
 bindO (laws_eqCompletionQueue a0.2.2.1 a1.2.2.1) fun r3 =>
 cond (!r3) (
 some false) (
 bindO (laws_eqSuper a0.2.2.2.1 a1.2.2.2.1) fun r4 =>
 cond (!r4) (
 some false) (
 cond (!(a0.2.2.2.2.1 == a1.2.2.2.2.1)) (
 some false) (
 cond (a0.2.2.2.2.2 != a1.2.2.2.2.2) (
 some false) (
 some true))))))
def laws_eqRxQueueS_T4 {R : Type} (k0 : Int → Option R) (k1 : Bool → Int → Option R) (v0 : List RxQueue) (v1 : List RxQueue) (v4 : Bool) (nx : Int → Option R) (x : Int) : Option R :=
 cond (decide (x < ((List.length v0 : Int)))) (
 bindO (idx v0 x) fun x1 =>
 bindO (idx v1 x) fun x2 =>
 bindO (laws_eqRxQueue x1 x2) fun r3 =>
 cond (!r3) (
 k1 false x) (
 nx (IntKind.wrap .i64 (x + 1)))) (
 k0 x)
def laws_eqRxQueueS (a0 : List RxQueue) (a1 : List RxQueue) : Option (Bool) :=
 cond (((List.length a0 : Int)) != ((List.length a1 : Int))) (
 some false) (
 iterL (laws_eqRxQueueS_T4
   (fun y4 =>
 some true)
   (fun y5 y6 =>
 some y5) a0 a1 false) fuel 0)
def laws_eqPoolS_T4 {R : Type} (k0 : Int → Option R) (k1 : Bool → Int → Option R) (v0 : List Pool) (v1 : List Pool) (v4 : Bool) (nx : Int → Option R) (x : Int) : Option R :=
 cond (decide (x < ((List.length v0 : Int)))) (
 bindO (idx v0 x) fun x1 =>
 bindO (idx v1 x) fun x2 =>
 bindO (laws_eqPool x1 x2) fun r3 =>
 cond (!r3) (
 k1 false x) (
 nx (IntKind.wrap .i64 (x + 1)))) (
 k0 x)
def laws_eqPoolS (a0 : List Pool) (a1 : List Pool) : Option (Bool) :=
 cond (((List.length a0 : Int)) != ((List.length a1 : Int))) (
 some false) (
 iterL (laws_eqPoolS_T4
   (fun y4 =>
 some true)
   (fun y5 y6 =>
 some y5) a0 a1 false) fuel 0)
def laws_eqVector (a0 : Vector) (a1 : Vector) : Option (Bool) :=
 cond (a0.1 != a1.1) (
 some false) (
 cond (a0.2.1 != a1.2.1) (
 some false) (
 cond (a0.2.2.1 != a1.2.2.1) (
 some false) (
 cond (a0.2.2.2.1 != a1.2.2.2.1) (
 some false) (
 cond (!(a0.2.2.2.2.1 == a1.2.2.2.2.1)) (
 some false) (
 cond (!(a0.2.2.2.2.2 == a1.2.2.2.2.2)) (
 some false) (
 some true))))))
def laws_eqVectorS_T4 {R : Type} (k0 : Int → Option R) (k1 : Bool → Int → Option R) (v0 : List Vector) (v1 : List Vector) (v4 : Bool) (nx : Int → Option R) (x : Int) : Option R :=
 cond (decide (x < ((List.length v0 : Int)))) (
 bindO (idx v0 x) fun x1 =>
 bindO (idx v1 x) fun x2 =>
 bindO (laws_eqVector x1 x2) fun r3 =>
 cond (!r3) (
 k1 false x) (
 nx (IntKind.wrap .i64 (x + 1)))) (
 k0 x)
def laws_eqVectorS (a0 : List Vector) (a1 : List Vector) : Option (Bool) :=
 cond (((List.length a0 : Int)) != ((List.length a1 : Int))) (
 some false) (
 iterL (laws_eqVectorS_T4
   (fun y4 =>
 some true)
   (fun y5 y6 =>
 some y5) a0 a1 false) fuel 0)
def laws_eqBoolS_T4 {R : Type} (k0 : Int → Option R) (k1 : Bool → Int → Option R) (v0 : List Bool) (v1 : List Bool) (v4 : Bool) (nx : Int → Option R) (x : Int) : Option R :=
 cond (decide (x < ((List.length v0 : Int)))) (
 bindO (idx v0 x) fun x1 =>
 bindO (idx v1 x) fun x2 =>
 cond (!(x1 == x2)) (
 k1 false x) (
 nx (IntKind.wrap .i64 (x + 1)))) (
 k0 x)
def laws_eqBoolS (a0 : List Bool) (a1 : List Bool) : Option (Bool) :=
 cond (((List.length a0 : Int)) != ((List.length a1 : Int))) (
 some false) (
 iterL (laws_eqBoolS_T4
   (fun y3 =>
 some true)
   (fun y4 y5 =>
 some y4) a0 a1 false) fuel 0)
def laws_eqFilter (a0 : Filter) (a1 : Filter) : Option (Bool) :=
 cond (a0.1 != a1.1) (
 some false) (
 cond (!(a0.2.1 == a1.2.1)) (
 some false) (
 bindO (laws_eqIntS a0.2.2 a1.2.2) fun r1 =>
 cond (!r1) (
 some false) (
 some true)))
def laws_eqRule (a0 : Rule) (a1 : Rule) : Option (Bool) :=
 cond (a0.1 != a1.1) (
 some false) (
 cond (a0.2.1 != a1.2.1) (
 some false) (
 cond (a0.2.2.1 != a1.2.2.1) (
 some false) (
 cond (a0.2.2.2.1 != a1.2.2.2.1) (
 some false) (
 cond (a0.2.2.2.2.1 != a1.2.2.2.2.1) (
 some false) (
 cond (a0.2.2.2.2.2.1 != a1.2.2.2.2.2.1) (
 some false) (
 cond (a0.2.2.2.2.2.2.1 != a1.2.2.2.2.2.2.1) (
 some false) (
 cond (a0.2.2.2.2.2.2.2.1 != a1.2.2.2.2.2.2.2.1) (
 some false) (
 cond (a0.2.2.2.2.2.2.2.2 != a1.2.2.2.2.2.2.2.2) (
 some false) (
 some true)))))))))
def laws_eqRuleS_T4 {R : Type} (k0 : Int → Option R) (k1 : Bool → Int → Option R) (v0 : List Rule) (v1 : List Rule) (v4 : Bool) (nx : Int → Option R) (x : Int) : Option R :=
 cond (decide (x < ((List.length v0 : Int)))) (
 bindO (idx v0 x) fun x1 =>
 bindO (idx v1 x) fun x2 =>
 bindO (laws_eqRule x1 x2) fun r3 =>
 cond (!r3) (
 k1 false x) (
 nx (IntKind.wrap .i64 (x + 1)))) (
 k0 x)
def laws_eqRuleS (a0 : List Rule) (a1 : List Rule) : Option (Bool) :=
 cond (((List.length a0 : Int)) != ((List.length a1 : Int))) (
 some false) (
 iterL (laws_eqRuleS_T4
   (fun y4 =>
 some true)
   (fun y5 y6 =>
 some y5) a0 a1 false) fuel 0)
def laws_eqFlow (a0 : Flow) (a1 : Flow) : Option (Bool) :=
 cond (a0.1 != a1.1) (
 some false) (
 cond (a0.2.1 != a1.2.1) (
 some false) (
 cond (a0.2.2.1 != a1.2.2.1) (
 some false) (
 cond (a0.2.2.2.1 != a1.2.2.2.1) (
 some false) (
 cond (a0.2.2.2.2 != a1.2.2.2.2) (
 some false) (
 some true)))))
def laws_eqSlot (a0 : Slot) (a1 : Slot) : Option (Bool) :=
 cond (a0.1 != a1.1) (
 some false) (
 bindO (laws_eqFlow a0.2.1 a1.2.1) fun r1 =>
 cond (!r1) (
 some false) (
 cond (a0.2.2 != a1.2.2) (
 some false) (
 some true)))
def laws_eqSlotS_T4 {R : Type} (k0 : Int → Option R) (k1 : Bool → Int → Option R) (v0 : List Slot) (v1 : List Slot) (v4 : Bool) (nx : Int → Option R) (x : Int) : Option R :=
 cond (decide (x < ((List.length v0 : Int)))) (
 bindO (idx v0 x) fun x1 =>
 bindO (idx v1 x) fun x2 =>
 bindO (laws_eqSlot x1 x2) fun r3 =>
 cond (!r3) (
 k1 false x) (
 nx (IntKind.wrap .i64 (x + 1)))) (
 k0 x)
def laws_eqSlotS (a0 : List Slot) (a1 : List Slot) : Option (Bool) :=
 cond (((List.length a0 : Int)) != ((List.length a1 : Int))) (
 some false) (
 iterL (laws_eqSlotS_T4
   (fun y4 =>
 some true)
   (fun y5 y6 =>
 some y5) a0 a1 false) fuel 0)
def laws_eqFlowTable (a0 : List Slot) (a1 : List Slot) : Option (Bool) :=
 bindO (laws_eqSlotS a0 a1) fun r1 =>
 cond (!r1) (
 some false) (
 some true)
def laws_eqSpread (a0 : Spread) (a1 : Spread) : Option (Bool) :=
 cond (!(a0.1 == a1.1)) (
 some false) (
 bindO (laws_eqIntS a0.2 a1.2) fun r1 =>
 cond (!r1) (
 some false) (
 some true))
def laws_eqSteering (a0 : Steering) (a1 : Steering) : Option (Bool) :=
 bindO (laws_eqRuleS a0.1 a1.1) fun r1 =>
 cond (!r1) (
 some false) (
 bindO (laws_eqFlowTable a0.2.1 a1.2.1) fun r2 =>
 cond (!r2) (
 some false) (
 bindO (laws_eqSpread a0.2.2 a1.2.2) fun r3 =>
 cond (!r3) (
 some false) (
 some true)))
def laws_eqStream (a0 : Stream) (a1 : Stream) : Option (Bool) :=
 bindO (laws_eqFlow a0.1 a1.1) fun r1 =>
 cond (!r1) (
 some false) (
 cond (a0.2.1 != a1.2.1) (
 some false) (
 cond (!(a0.2.2.1 == a1.2.2.1)) (
 some false) (
 cond (!(a0.2.2.2 == a1.2.2.2)) (
 some false) (
 some true))))
def laws_eqStreamS_T4 {R : Type} (k0 : Int → Option R) (k1 : Bool → Int → Option R) (v0 : List Stream) (v1 : List Stream) (v4 : Bool) (nx : Int → Option R) (x : Int) : Option R :=
 cond (decide (x < ((List.length v0 : Int)))) (
 bindO (idx v0 x) fun x1 =>
 bindO (idx v1 x) fun x2 =>
 bindO (laws_eqStream x1 x2) fun r3 =>
 cond (!r3) (
 k1 false x) (
 nx (IntKind.wrap .i64 (x + 1)))) (
 k0 x)
def laws_eqStreamS (a0 : List Stream) (a1 : List Stream) : Option (Bool) :=
 cond (((List.length a0 : Int)) != ((List.length a1 : Int))) (
 some false) (
 iterL (laws_eqStreamS_T4
   (fun y4 =>
 some true)
   (fun y5 y6 =>
 some y5) a0 a1 false) fuel 0)
def laws_eqCounters (a0 : Flow) (a1 : Flow) : Option (Bool) :=
 cond (a0.1 != a1.1) (
 some false) (
 cond (a0.2.1 != a1.2.1) (
 some false) (
 cond (a0.2.2.1 != a1.2.2.1) (
 some false) (
 cond (a0.2.2.2.1 != a1.2.2.2.1) (
 some false) (
 cond (a0.2.2.2.2 != a1.2.2.2.2) (
 some false) (
 some true)))))
def laws_eqHost (a0 : Host) (a1 : Host) : Option (Bool) :=
 bindO (laws_eqMemory a0.1 a1.1) fun r1 =>
 cond (!r1) (
 some false) (
 bindO (laws_eqMappingS a0.2.1 a1.2.1) fun r2 =>
 cond (!r2) (
 some false) (
 bindO (laws_eqTxQueue a0.2.2.1 a1.2.2.1) fun r3 =>
 cond (!r3) (
 some false) (
 bindO (laws_eqRxQueueS a0.2.2.2.1 a1.2.2.2.1) fun r4 =>
 cond (!r4) (
 some false) (
 bindO (laws_eqPoolS a0.2.2.2.2.1 a1.2.2.2.2.1) fun r5 =>
 cond (!r5) (
 some false) (
 bindO (laws_eqVectorS a0.2.2.2.2.2.1 a1.2.2.2.2.2.1) fun r6 =>
 cond (!r6) (
 some false) (
 bindO (laws_eqBoolS a0.2.2.2.2.2.2.1 a1.2.2.2.2.2.2.1) fun r7 =>
 cond (!r7) (
 some false) (
 bindO (laws_eqFilter a0.2.2.2.2.2.2.2.1 a1.2.2.2.2.2.2.2.1) fun r8 =>
 cond (!r8) (
 some false) (
 bindO (laws_eqSteering a0.2.2.2.2.2.2.2.2.1 a1.2.2.2.2.2.2.2.2.1) fun r9 =>
 cond (!r9) (
 some false) (
 bindO (laws_eqStreamS a0.2.2.2.2.2.2.2.2.2.1 a1.2.2.2.2.2.2.2.2.2.1) fun r10 =>
 cond (!r10) (
 some false) (
 cond (!(a0.2.2.2.2.2.2.2.2.2.2.1 == a1.2.2.2.2.2.2.2.2.2.2.1)) (
 some false) (
 bindO (laws_eqStringS a0.2.2.2.2.2.2.2.2.2.2.2.1 a1.2.2.2.2.2.2.2.2.2.2.2.1) fun r11 =>
 cond (!r11) (
 some false) (
 bindO (laws_eqIntS a0.2.2.2.2.2.2.2.2.2.2.2.2.1 a1.2.2.2.2.2.2.2.2.2.2.2.2.1) fun r12 =>
 cond (!r12) (
 some false) (
 bindO (laws_eqIntS a0.2.2.2.2.2.2.2.2.2.2.2.2.2.1 a1.2.2.2.2.2.2.2.2.2.2.2.2.2.1) fun r13 =>
 cond (!r13) (
 some false) (
 bindO (laws_eqCounters a0.2.2.2.2.2.2.2.2.2.2.2.2.2.2 a1.2.2.2.2.2.2.2.2.2.2.2.2.2.2) fun r14 =>
 cond (!r14) (
 some false) (
 some true)))))))))))))))
def laws_FnExactIsQuiet (a0 : Host) : Option (Bool) :=
 bindO (laws_szHost a0 1048576) fun r1 =>
 cond (decide (r1 < 0)) (
 some true) (
 bindO (laws_toHost a0) fun r2 =>
 bindO (spec_IsQuiet r2) fun r3 =>
 bindO (laws_toHost a0) fun r4 =>
 bindO (impl_IsQuiet r4) fun r5 =>
 cond (!(r5 == r3)) (
 some false) (
 bindO (laws_toHost a0) fun r6 =>
 bindO (laws_eqHost r4 r6) fun r7 =>
 cond (!r7) (
 some false) (
 some true)))

end

end Go.Pu
