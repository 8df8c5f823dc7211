import Derived.Test.YtclgaiiidllehafGreatDnData
/- The program's functions and the reference's, as functions of data (made by gen.py). -/
namespace Go.Pu
open Go.Dn
set_option linter.unusedVariables false
noncomputable section

abbrev Bytes := List UInt8
abbrev Mapping := Int × Int × Int × Bool
abbrev Clock := Int × Int × Int × Int
abbrev Ring := Clock
abbrev Pool := Int × Int × Int × List Int
abbrev Sent := Int × Int × List Int
abbrev TxQueue := Clock × Pool × (List Sent) × Int
abbrev Bucket := Int × Int × Int
abbrev CompletionQueue := Bucket
abbrev Message := Bucket
abbrev Packet := Int × Int × Int × Int × Int × Int × Int × Int × Int × Int × Int × Int × Int × Int × Int × Bytes
abbrev Super := Packet × Int × Int
abbrev RxQueue := Clock × Bucket × Bucket × Super × Bool × Int
abbrev Vector := Int × Int × Int × Int × Bool × Bool
abbrev Filter := Int × Bool × List Int
abbrev Rule := Int × Int × Int × Int × Int × Int × Int × Int × Int
abbrev Flow := Int × Int × Int × Int × Int
abbrev Counters := Flow
abbrev Slot := Int × Flow × Int
abbrev Steering := (List Rule) × (List Slot) × Bytes × List Int
abbrev Stream := Flow × Int × Bytes × Bool
abbrev Host := (List Bytes) × (List Mapping) × TxQueue × (List RxQueue) × (List Pool) × (List Vector) × (List Bool) × Filter × Steering × (List Stream) × Bool × (List Bytes) × (List Int) × (List Int) × Int × Int × Int × Int × Int
abbrev VirtualFunction := Int × Int × Bucket × Bool × Int × Int
abbrev Mailbox := Filter × Int × Int × Int
abbrev Card := (List Host) × (List VirtualFunction) × (List Mailbox) × (List Bytes) × Clock × (List Int) × List Bytes
abbrev Spread := Bytes × List Int
abbrev Port := Int × (List Int) × Int × Bool
abbrev Segment := Int × Int × Int × Int × Int × Int × Int × Bytes
@[reducible] def TMapping : CT := (.pair (.int .i64) (.pair (.int .i64) (.pair (.int .i64) .bool)))
@[reducible] def TClock : CT := (.pair (.int .i64) (.pair (.int .i64) (.pair (.int .i64) (.int .i64))))
@[reducible] def TRing : CT := TClock
@[reducible] def TPool : CT := (.pair (.int .i64) (.pair (.int .i64) (.pair (.int .i64) (.sl (.int .i64)))))
@[reducible] def TSent : CT := (.pair (.int .i64) (.pair (.int .i64) (.sl (.int .i64))))
@[reducible] def TTxQueue : CT := (.pair TClock (.pair TPool (.pair (.sl TSent) (.int .i64))))
@[reducible] def TBucket : CT := (.pair (.int .i64) (.pair (.int .i64) (.int .i64)))
@[reducible] def TCompletionQueue : CT := TBucket
@[reducible] def TMessage : CT := TBucket
@[reducible] def TPacket : CT := (.pair (.int .i64) (.pair (.int .i64) (.pair (.int .i64) (.pair (.int .i64) (.pair (.int .i64) (.pair (.int .i64) (.pair (.int .i64) (.pair (.int .i64) (.pair (.int .i64) (.pair (.int .i64) (.pair (.int .i64) (.pair (.int .i64) (.pair (.int .i64) (.pair (.int .i64) (.pair (.int .i64) .str)))))))))))))))
@[reducible] def TSuper : CT := (.pair TPacket (.pair (.int .i64) (.int .i64)))
@[reducible] def TRxQueue : CT := (.pair TClock (.pair TBucket (.pair TBucket (.pair TSuper (.pair .bool (.int .i64))))))
@[reducible] def TVector : CT := (.pair (.int .i64) (.pair (.int .i64) (.pair (.int .i64) (.pair (.int .i64) (.pair .bool .bool)))))
@[reducible] def TFilter : CT := (.pair (.int .i64) (.pair .bool (.sl (.int .i64))))
@[reducible] def TRule : CT := (.pair (.int .i64) (.pair (.int .i64) (.pair (.int .i64) (.pair (.int .i64) (.pair (.int .i64) (.pair (.int .i64) (.pair (.int .i64) (.pair (.int .i64) (.int .i64)))))))))
@[reducible] def TFlow : CT := (.pair (.int .i64) (.pair (.int .i64) (.pair (.int .i64) (.pair (.int .i64) (.int .i64)))))
@[reducible] def TCounters : CT := TFlow
@[reducible] def TSlot : CT := (.pair (.int .i64) (.pair TFlow (.int .i64)))
@[reducible] def TSteering : CT := (.pair (.sl TRule) (.pair (.sl TSlot) (.pair .str (.sl (.int .i64)))))
@[reducible] def TStream : CT := (.pair TFlow (.pair (.int .i64) (.pair .str .bool)))
@[reducible] def THost : CT := (.pair (.sl .str) (.pair (.sl TMapping) (.pair TTxQueue (.pair (.sl TRxQueue) (.pair (.sl TPool) (.pair (.sl TVector) (.pair (.sl .bool) (.pair TFilter (.pair TSteering (.pair (.sl TStream) (.pair .bool (.pair (.sl .str) (.pair (.sl (.int .i64)) (.pair (.sl (.int .i64)) (.pair (.int .i64) (.pair (.int .i64) (.pair (.int .i64) (.pair (.int .i64) (.int .i64)))))))))))))))))))
@[reducible] def TVirtualFunction : CT := (.pair (.int .i64) (.pair (.int .i64) (.pair TBucket (.pair .bool (.pair (.int .i64) (.int .i64))))))
@[reducible] def TMailbox : CT := (.pair TFilter (.pair (.int .i64) (.pair (.int .i64) (.int .i64))))
@[reducible] def TCard : CT := (.pair (.sl THost) (.pair (.sl TVirtualFunction) (.pair (.sl TMailbox) (.pair (.sl .str) (.pair TClock (.pair (.sl (.int .i64)) (.sl .str)))))))
@[reducible] def TSpread : CT := (.pair .str (.sl (.int .i64)))
@[reducible] def TPort : CT := (.pair (.int .i64) (.pair (.sl (.int .i64)) (.pair (.int .i64) .bool)))
@[reducible] def TSegment : CT := (.pair (.int .i64) (.pair (.int .i64) (.pair (.int .i64) (.pair (.int .i64) (.pair (.int .i64) (.pair (.int .i64) (.pair (.int .i64) .str)))))))

def laws_szIntS (a0 : List Int) (a1 : Int) : Option (Int) :=
 cond (decide ((IntKind.wrap .i64 (a1 - ((List.length a0 : Int)))) < 0)) (
 some (-1)) (
 some (IntKind.wrap .i64 (a1 - ((List.length a0 : Int)))))
def laws_szStringS_T5 {R : Type} (k0 : Int → Int → Option R) (k1 : Int → Int → Int → Option R) (v0 : List Bytes) (v4 : Int) (nx : (Int × Int) → Option R) (x : Int × Int) : Option R :=
 cond (decide (x.2 < ((List.length v0 : Int)))) (
 bindO (idx v0 x.2) fun x1 =>
 cond (decide ((IntKind.wrap .i64 (x.1 - ((List.length x1 : Int)))) < 0)) (
 k1 (IntKind.wrap .i64 (x.1 - ((List.length x1 : Int)))) (-1) x.2) (
 nx (IntKind.wrap .i64 (x.1 - ((List.length x1 : Int))), IntKind.wrap .i64 (x.2 + 1)))) (
 k0 x.1 x.2)
def laws_szStringS (a0 : List Bytes) (a1 : Int) : Option (Int) :=
 cond (decide ((IntKind.wrap .i64 (a1 - ((List.length a0 : Int)))) < 0)) (
 some (-1)) (
 iterL (laws_szStringS_T5
   (fun y2 y3 =>
 some y2)
   (fun y4 y5 y6 =>
 some y5) a0 0) fuel (IntKind.wrap .i64 (a1 - ((List.length a0 : Int))), 0))
def laws_szMemory (a0 : List Bytes) (a1 : Int) : Option (Int) :=
 bindO (laws_szStringS a0 a1) fun r1 =>
 cond (decide (r1 < 0)) (
 some (-1)) (
 some r1)
def laws_szMappingS (a0 : List Mapping) (a1 : Int) : Option (Int) :=
 cond (decide ((IntKind.wrap .i64 (a1 - ((List.length a0 : Int)))) < 0)) (
 some (-1)) (
 some (IntKind.wrap .i64 (a1 - ((List.length a0 : Int)))))
def laws_szPool (a0 : Pool) (a1 : Int) : Option (Int) :=
 bindO (laws_szIntS a0.2.2.2 a1) fun r1 =>
 cond (decide (r1 < 0)) (
 some (-1)) (
 some r1)
def laws_szSent (a0 : Sent) (a1 : Int) : Option (Int) :=
 bindO (laws_szIntS a0.2.2 a1) fun r1 =>
 cond (decide (r1 < 0)) (
 some (-1)) (
 some r1)
def laws_szSentS_T5 {R : Type} (k0 : Int → Int → Option R) (k1 : Int → Int → Int → Option R) (v0 : List Sent) (v4 : Int) (nx : (Int × Int) → Option R) (x : Int × Int) : Option R :=
 cond (decide (x.2 < ((List.length v0 : Int)))) (
 bindO (idx v0 x.2) fun x1 =>
 bindO (laws_szSent x1 x.1) fun r2 =>
 cond (decide (r2 < 0)) (
 k1 r2 (-1) x.2) (
 nx (r2, IntKind.wrap .i64 (x.2 + 1)))) (
 k0 x.1 x.2)
def laws_szSentS (a0 : List Sent) (a1 : Int) : Option (Int) :=
 cond (decide ((IntKind.wrap .i64 (a1 - ((List.length a0 : Int)))) < 0)) (
 some (-1)) (
 iterL (laws_szSentS_T5
   (fun y3 y4 =>
 some y3)
   (fun y5 y6 y7 =>
 some y6) a0 0) fuel (IntKind.wrap .i64 (a1 - ((List.length a0 : Int))), 0))
def laws_szTxQueue (a0 : TxQueue) (a1 : Int) : Option (Int) :=
 bindO (laws_szPool a0.2.1 a1) fun r1 =>
 cond (decide (r1 < 0)) (
 some (-1)) (
 bindO (laws_szSentS a0.2.2.1 r1) fun r2 =>
 cond (decide (r2 < 0)) (
 some (-1)) (
 some r2))
def laws_szSegment (a0 : Segment) (a1 : Int) : Option (Int) :=
 cond (decide ((IntKind.wrap .i64 (a1 - ((List.length a0.2.2.2.2.2.2.2 : Int)))) < 0)) (
 some (-1)) (
 some (IntKind.wrap .i64 (a1 - ((List.length a0.2.2.2.2.2.2.2 : Int)))))
def laws_szPacket (a0 : Packet) (a1 : Int) : Option (Int) :=
 bindO (laws_szSegment a0.2.2.2.2.2.2.2.2 a1) fun r1 =>
 cond (decide (r1 < 0)) (
 some (-1)) (
 some r1)
def laws_szSuper (a0 : Super) (a1 : Int) : Option (Int) :=
 bindO (laws_szPacket a0.1 a1) fun r1 =>
 cond (decide (r1 < 0)) (
 some (-1)) (
 some r1)
def laws_szRxQueue (a0 : RxQueue) (a1 : Int) : Option (Int) :=
 bindO (laws_szSuper a0.2.2.2.1 a1) fun r1 =>
 cond (decide (r1 < 0)) (
 some (-1)) (
 some r1)
def laws_szRxQueueS_T5 {R : Type} (k0 : Int → Int → Option R) (k1 : Int → Int → Int → Option R) (v0 : List RxQueue) (v4 : Int) (nx : (Int × Int) → Option R) (x : Int × Int) : Option R :=
 cond (decide (x.2 < ((List.length v0 : Int)))) (
 bindO (idx v0 x.2) fun x1 =>
 bindO (laws_szRxQueue x1 x.1) fun r2 =>
 cond (decide (r2 < 0)) (
 k1 r2 (-1) x.2) (
 nx (r2, IntKind.wrap .i64 (x.2 + 1)))) (
 k0 x.1 x.2)
def laws_szRxQueueS (a0 : List RxQueue) (a1 : Int) : Option (Int) :=
 cond (decide ((IntKind.wrap .i64 (a1 - ((List.length a0 : Int)))) < 0)) (
 some (-1)) (
 iterL (laws_szRxQueueS_T5
   (fun y3 y4 =>
 some y3)
   (fun y5 y6 y7 =>
 some y6) a0 0) fuel (IntKind.wrap .i64 (a1 - ((List.length a0 : Int))), 0))
def laws_szPoolS_T5 {R : Type} (k0 : Int → Int → Option R) (k1 : Int → Int → Int → Option R) (v0 : List Pool) (v4 : Int) (nx : (Int × Int) → Option R) (x : Int × Int) : Option R :=
 cond (decide (x.2 < ((List.length v0 : Int)))) (
 bindO (idx v0 x.2) fun x1 =>
 bindO (laws_szPool x1 x.1) fun r2 =>
 cond (decide (r2 < 0)) (
 k1 r2 (-1) x.2) (
 nx (r2, IntKind.wrap .i64 (x.2 + 1)))) (
 k0 x.1 x.2)
def laws_szPoolS (a0 : List Pool) (a1 : Int) : Option (Int) :=
 cond (decide ((IntKind.wrap .i64 (a1 - ((List.length a0 : Int)))) < 0)) (
 some (-1)) (
 iterL (laws_szPoolS_T5
   (fun y3 y4 =>
 some y3)
   (fun y5 y6 y7 =>
 some y6) a0 0) fuel (IntKind.wrap .i64 (a1 - ((List.length a0 : Int))), 0))
def laws_szVectorS (a0 : List Vector) (a1 : Int) : Option (Int) :=
 cond (decide ((IntKind.wrap .i64 (a1 - ((List.length a0 : Int)))) < 0)) (
 some (-1)) (
 some (IntKind.wrap .i64 (a1 - ((List.length a0 : Int)))))
def laws_szBoolS (a0 : List Bool) (a1 : Int) : Option (Int) :=
 cond (decide ((IntKind.wrap .i64 (a1 - ((List.length a0 : Int)))) < 0)) (
 some (-1)) (
 some (IntKind.wrap .i64 (a1 - ((List.length a0 : Int)))))
def laws_szFilter (a0 : Filter) (a1 : Int) : Option (Int) :=
 bindO (laws_szIntS a0.2.2 a1) fun r1 =>
 cond (decide (r1 < 0)) (
 some (-1)) (
 some r1)
def laws_szRuleS (a0 : List Rule) (a1 : Int) : Option (Int) :=
 cond (decide ((IntKind.wrap .i64 (a1 - ((List.length a0 : Int)))) < 0)) (
 some (-1)) (
 some (IntKind.wrap .i64 (a1 - ((List.length a0 : Int)))))
def laws_szSlotS (a0 : List Slot) (a1 : Int) : Option (Int) :=
 cond (decide ((IntKind.wrap .i64 (a1 - ((List.length a0 : Int)))) < 0)) (
 some (-1)) (
 some (IntKind.wrap .i64 (a1 - ((List.length a0 : Int)))))
def laws_szFlowTable (a0 : List Slot) (a1 : Int) : Option (Int) :=
 bindO (laws_szSlotS a0 a1) fun r1 =>
 cond (decide (r1 < 0)) (
 some (-1)) (
 some r1)
def laws_szSpread (a0 : Spread) (a1 : Int) : Option (Int) :=
 cond (decide ((IntKind.wrap .i64 (a1 - ((List.length a0.1 : Int)))) < 0)) (
 some (-1)) (
 bindO (laws_szIntS a0.2 (IntKind.wrap .i64 (a1 - ((List.length a0.1 : Int))))) fun r1 =>
 cond (decide (r1 < 0)) (
 some (-1)) (
 some r1))
def laws_szSteering (a0 : Steering) (a1 : Int) : Option (Int) :=
 bindO (laws_szRuleS a0.1 a1) fun r1 =>
 cond (decide (r1 < 0)) (
 some (-1)) (
 bindO (laws_szFlowTable a0.2.1 r1) fun r2 =>
 cond (decide (r2 < 0)) (
 some (-1)) (
 bindO (laws_szSpread a0.2.2 r2) fun r3 =>
 cond (decide (r3 < 0)) (
 some (-1)) (
 some r3)))
def laws_szStream (a0 : Stream) (a1 : Int) : Option (Int) :=
 cond (decide ((IntKind.wrap .i64 (a1 - ((List.length a0.2.2.1 : Int)))) < 0)) (
 some (-1)) (
 some (IntKind.wrap .i64 (a1 - ((List.length a0.2.2.1 : Int)))))
def laws_szStreamS_T5 {R : Type} (k0 : Int → Int → Option R) (k1 : Int → Int → Int → Option R) (v0 : List Stream) (v4 : Int) (nx : (Int × Int) → Option R) (x : Int × Int) : Option R :=
 cond (decide (x.2 < ((List.length v0 : Int)))) (
 bindO (idx v0 x.2) fun x1 =>
 bindO (laws_szStream x1 x.1) fun r2 =>
 cond (decide (r2 < 0)) (
 k1 r2 (-1) x.2) (
 nx (r2, IntKind.wrap .i64 (x.2 + 1)))) (
 k0 x.1 x.2)
def laws_szStreamS (a0 : List Stream) (a1 : Int) : Option (Int) :=
 cond (decide ((IntKind.wrap .i64 (a1 - ((List.length a0 : Int)))) < 0)) (
 some (-1)) (
 iterL (laws_szStreamS_T5
   (fun y3 y4 =>
 some y3)
   (fun y5 y6 y7 =>
 some y6) a0 0) fuel (IntKind.wrap .i64 (a1 - ((List.length a0 : Int))), 0))
def laws_szHost (a0 : Host) (a1 : Int) : Option (Int) :=
 bindO (laws_szMemory a0.1 a1) fun r1 =>
 cond (decide (r1 < 0)) (
 some (-1)) (
 bindO (laws_szMappingS a0.2.1 r1) fun r2 =>
 cond (decide (r2 < 0)) (
 some (-1)) (
 bindO (laws_szTxQueue a0.2.2.1 r2) fun r3 =>
 cond (decide (r3 < 0)) (
 some (-1)) (
 bindO (laws_szRxQueueS a0.2.2.2.1 r3) fun r4 =>
 cond (decide (r4 < 0)) (
 some (-1)) (
 bindO (laws_szPoolS a0.2.2.2.2.1 r4) fun r5 =>
 cond (decide (r5 < 0)) (
 some (-1)) (
 bindO (laws_szVectorS a0.2.2.2.2.2.1 r5) fun r6 =>
 cond (decide (r6 < 0)) (
 some (-1)) (
 bindO (laws_szBoolS a0.2.2.2.2.2.2.1 r6) fun r7 =>
 cond (decide (r7 < 0)) (
 some (-1)) (
 bindO (laws_szFilter a0.2.2.2.2.2.2.2.1 r7) fun r8 =>
 cond (decide (r8 < 0)) (
 some (-1)) (
 bindO (laws_szSteering a0.2.2.2.2.2.2.2.2.1 r8) fun r9 =>
 cond (decide (r9 < 0)) (
 some (-1)) (
 bindO (laws_szStreamS a0.2.2.2.2.2.2.2.2.2.1 r9) fun r10 =>
 cond (decide (r10 < 0)) (
 some (-1)) (
 bindO (laws_szStringS a0.2.2.2.2.2.2.2.2.2.2.2.1 r10) fun r11 =>
 cond (decide (r11 < 0)) (
 some (-1)) (
 bindO (laws_szIntS a0.2.2.2.2.2.2.2.2.2.2.2.2.1 r11) fun r12 =>
 cond (decide (r12 < 0)) (
 some (-1)) (
 bindO (laws_szIntS a0.2.2.2.2.2.2.2.2.2.2.2.2.2.1 r12) fun r13 =>
 cond (decide (r13 < 0)) (
 some (-1)) (
 some r13)))))))))))))
def laws_szHostS_T5 {R : Type} (k0 : Int → Int → Option R) (k1 : Int → Int → Int → Option R) (v0 : List Host) (v4 : Int) (nx : (Int × Int) → Option R) (x : Int × Int) : Option R :=
 cond (decide (x.2 < ((List.length v0 : Int)))) (
 bindO (idx v0 x.2) fun x1 =>
 bindO (laws_szHost x1 x.1) fun r2 =>
 cond (decide (r2 < 0)) (
 k1 r2 (-1) x.2) (
 nx (r2, IntKind.wrap .i64 (x.2 + 1)))) (
 k0 x.1 x.2)
def laws_szHostS (a0 : List Host) (a1 : Int) : Option (Int) :=
 cond (decide ((IntKind.wrap .i64 (a1 - ((List.length a0 : Int)))) < 0)) (
 some (-1)) (
 iterL (laws_szHostS_T5
   (fun y3 y4 =>
 some y3)
   (fun y5 y6 y7 =>
 some y6) a0 0) fuel (IntKind.wrap .i64 (a1 - ((List.length a0 : Int))), 0))
def laws_szVirtualFunctionS (a0 : List VirtualFunction) (a1 : Int) : Option (Int) :=
 cond (decide ((IntKind.wrap .i64 (a1 - ((List.length a0 : Int)))) < 0)) (
 some (-1)) (
 some (IntKind.wrap .i64 (a1 - ((List.length a0 : Int)))))
def laws_szMailbox (a0 : Mailbox) (a1 : Int) : Option (Int) :=
 bindO (laws_szFilter a0.1 a1) fun r1 =>
 cond (decide (r1 < 0)) (
 some (-1)) (
 some r1)
def laws_szMailboxS_T5 {R : Type} (k0 : Int → Int → Option R) (k1 : Int → Int → Int → Option R) (v0 : List Mailbox) (v4 : Int) (nx : (Int × Int) → Option R) (x : Int × Int) : Option R :=
 cond (decide (x.2 < ((List.length v0 : Int)))) (
 bindO (idx v0 x.2) fun x1 =>
 bindO (laws_szMailbox x1 x.1) fun r2 =>
 cond (decide (r2 < 0)) (
 k1 r2 (-1) x.2) (
 nx (r2, IntKind.wrap .i64 (x.2 + 1)))) (
 k0 x.1 x.2)
def laws_szMailboxS (a0 : List Mailbox) (a1 : Int) : Option (Int) :=
 cond (decide ((IntKind.wrap .i64 (a1 - ((List.length a0 : Int)))) < 0)) (
 some (-1)) (
 iterL (laws_szMailboxS_T5
   (fun y3 y4 =>
 some y3)
   (fun y5 y6 y7 =>
 some y6) a0 0) fuel (IntKind.wrap .i64 (a1 - ((List.length a0 : Int))), 0))
def laws_szFlash (a0 : List Bytes) (a1 : Int) : Option (Int) :=
 bindO (laws_szStringS a0 a1) fun r1 =>
 cond (decide (r1 < 0)) (
 some (-1)) (
 some r1)
def laws_szCard (a0 : Card) (a1 : Int) : Option (Int) :=
 bindO (laws_szHostS a0.1 a1) fun r1 =>
 cond (decide (r1 < 0)) (
 some (-1)) (
 bindO (laws_szVirtualFunctionS a0.2.1 r1) fun r2 =>
 cond (decide (r2 < 0)) (
 some (-1)) (
 bindO (laws_szMailboxS a0.2.2.1 r2) fun r3 =>
 cond (decide (r3 < 0)) (
 some (-1)) (
 bindO (laws_szFlash a0.2.2.2.1 r3) fun r4 =>
 cond (decide (r4 < 0)) (
 some (-1)) (
 bindO (laws_szIntS a0.2.2.2.2.2.1 r4) fun r5 =>
 cond (decide (r5 < 0)) (
 some (-1)) (
 bindO (laws_szStringS a0.2.2.2.2.2.2 r5) fun r6 =>
 cond (decide (r6 < 0)) (
 some (-1)) (
 some r6))))))
def spec_l24Copy (a0 : Filter) : Option (Filter) :=
 room (List.length ([] : List Int) + List.length a0.2.2) (
 some (a0.1, a0.2.1, ([] : List Int) ++ a0.2.2))
def spec_l16Copy (a0 : List Bytes) : Option (List Bytes) :=
 room (List.length ([] : List Bytes) + List.length a0) (
 some (([] : List Bytes) ++ a0))
def spec_l21Copy (a0 : Pool) : Option (Pool) :=
 room (List.length ([] : List Int) + List.length a0.2.2.2) (
 some (a0.1, a0.2.1, a0.2.2.1, ([] : List Int) ++ a0.2.2.2))
def spec_l22Copy_T3 {R : Type} (k0 : Int → TxQueue → Option R) (b1 : TxQueue) (b2 : TxQueue) (nx : (Int × TxQueue) → Option R) (x : Int × TxQueue) : Option R :=
 cond (decide (x.1 < ((List.length b1.2.2.1 : Int)))) (
 bindO (idx b1.2.2.1 x.1) fun x2 =>
 room (List.length ([] : List Int) + List.length x2.2.2) (
 room (List.length x.2.2.2.1 + List.length ([(x2.1, x2.2.1, ([] : List Int) ++ x2.2.2)])) (
 nx (IntKind.wrap .i64 (x.1 + 1), x.2.1, x.2.2.1, x.2.2.2.1 ++ ([(x2.1, x2.2.1, ([] : List Int) ++ x2.2.2)]), x.2.2.2.2)))) (
 k0 x.1 x.2)
def spec_l22Copy (a0 : TxQueue) : Option (TxQueue) :=
 bindO (spec_l21Copy a0.2.1) fun r1 =>
 iterL (spec_l22Copy_T3
   (fun y3 y4 =>
 some y4) a0 ((0, 0, 0, 0), (0, 0, 0, ([] : List Int)), ([] : List Sent), 0)) fuel (0, a0.1, r1, ([] : List Sent), a0.2.2.2)
def spec_l13Copy (a0 : List Slot) : Option (List Slot) :=
 room (List.length ([] : List Slot) + List.length a0) (
 some (([] : List Slot) ++ a0))
def spec_l15Copy (a0 : Steering) : Option (Steering) :=
 room (List.length ([] : List Rule) + List.length a0.1) (
 bindO (spec_l13Copy a0.2.1) fun r1 =>
 room (List.length ([] : List Int) + List.length a0.2.2.2) (
 some (([] : List Rule) ++ a0.1, r1, a0.2.2.1, ([] : List Int) ++ a0.2.2.2)))
def spec_l37Copy_T8 {R : Type} (k0 : Int → Host → Option R) (b1 : Host) (b2 : Host) (nx : (Int × Host) → Option R) (x : Int × Host) : Option R :=
 cond (decide (x.1 < ((List.length b1.2.2.2.2.1 : Int)))) (
 bindO (idx b1.2.2.2.2.1 x.1) fun x3 =>
 bindO (spec_l21Copy x3) fun r4 =>
 room (List.length x.2.2.2.2.2.1 + List.length ([r4])) (
 nx (IntKind.wrap .i64 (x.1 + 1), x.2.1, x.2.2.1, x.2.2.2.1, x.2.2.2.2.1, x.2.2.2.2.2.1 ++ ([r4]), x.2.2.2.2.2.2))) (
 k0 x.1 x.2)
def spec_l37Copy (a0 : Host) : Option (Host) :=
 bindO (spec_l16Copy a0.1) fun r1 =>
 room (List.length ([] : List Mapping) + List.length a0.2.1) (
 bindO (spec_l22Copy a0.2.2.1) fun r2 =>
 room (List.length ([] : List RxQueue) + List.length a0.2.2.2.1) (
 iterL (spec_l37Copy_T8
   (fun y5 y6 =>
 room (List.length ([] : List Vector) + List.length a0.2.2.2.2.2.1) (
 room (List.length ([] : List Bool) + List.length a0.2.2.2.2.2.2.1) (
 bindO (spec_l24Copy a0.2.2.2.2.2.2.2.1) fun r7 =>
 bindO (spec_l15Copy a0.2.2.2.2.2.2.2.2.1) fun r8 =>
 room (List.length ([] : List Stream) + List.length a0.2.2.2.2.2.2.2.2.2.1) (
 room (List.length ([] : List Bytes) + List.length a0.2.2.2.2.2.2.2.2.2.2.2.1) (
 room (List.length ([] : List Int) + List.length a0.2.2.2.2.2.2.2.2.2.2.2.2.1) (
 room (List.length ([] : List Int) + List.length a0.2.2.2.2.2.2.2.2.2.2.2.2.2.1) (
 some (y6.1, y6.2.1, y6.2.2.1, y6.2.2.2.1, y6.2.2.2.2.1, ([] : List Vector) ++ a0.2.2.2.2.2.1, ([] : List Bool) ++ a0.2.2.2.2.2.2.1, r7, r8, ([] : List Stream) ++ a0.2.2.2.2.2.2.2.2.2.1, y6.2.2.2.2.2.2.2.2.2.2.1, ([] : List Bytes) ++ a0.2.2.2.2.2.2.2.2.2.2.2.1, ([] : List Int) ++ a0.2.2.2.2.2.2.2.2.2.2.2.2.1, ([] : List Int) ++ a0.2.2.2.2.2.2.2.2.2.2.2.2.2.1, y6.2.2.2.2.2.2.2.2.2.2.2.2.2.2)))))))) a0 (([] : List Bytes), ([] : List Mapping), ((0, 0, 0, 0), (0, 0, 0, ([] : List Int)), ([] : List Sent), 0), ([] : List RxQueue), ([] : List Pool), ([] : List Vector), ([] : List Bool), (0, false, ([] : List Int)), (([] : List Rule), ([] : List Slot), ([] : Bytes), ([] : List Int)), ([] : List Stream), false, ([] : List Bytes), ([] : List Int), ([] : List Int), 0, 0, 0, 0, 0)) fuel (0, r1, ([] : List Mapping) ++ a0.2.1, r2, ([] : List RxQueue) ++ a0.2.2.2.1, ([] : List Pool), a0.2.2.2.2.2)))
def spec_l35Copy (a0 : Mailbox) : Option (Mailbox) :=
 bindO (spec_l24Copy a0.1) fun r1 =>
 some (r1, a0.2)
def spec_l42Copy_T3 {R : Type} (k0 : Int → Card → Option R) (b1 : Card) (b2 : Card) (nx : (Int × Card) → Option R) (x : Int × Card) : Option R :=
 cond (decide (x.1 < ((List.length b1.1 : Int)))) (
 bindO (idx b1.1 x.1) fun x1 =>
 bindO (spec_l37Copy x1) fun r2 =>
 room (List.length x.2.1 + List.length ([r2])) (
 nx (IntKind.wrap .i64 (x.1 + 1), x.2.1 ++ ([r2]), x.2.2))) (
 k0 x.1 x.2)
def spec_l42Copy_T7 {R : Type} (k0 : Int → Card → Option R) (b1 : Card) (b2 : Card) (nx : (Int × Card) → Option R) (x : Int × Card) : Option R :=
 cond (decide (x.1 < ((List.length b1.2.2.1 : Int)))) (
 bindO (idx b1.2.2.1 x.1) fun x5 =>
 bindO (spec_l35Copy x5) fun r6 =>
 room (List.length x.2.2.2.1 + List.length ([r6])) (
 nx (IntKind.wrap .i64 (x.1 + 1), x.2.1, x.2.2.1, x.2.2.2.1 ++ ([r6]), x.2.2.2.2))) (
 k0 x.1 x.2)
def spec_l42Copy (a0 : Card) : Option (Card) :=
 room (List.length ([] : List VirtualFunction) + List.length a0.2.1) (
 room (List.length ([] : List Bytes) + List.length a0.2.2.2.1) (
 room (List.length ([] : List Int) + List.length a0.2.2.2.2.2.1) (
 room (List.length ([] : List Bytes) + List.length a0.2.2.2.2.2.2) (
 iterL (spec_l42Copy_T3
   (fun y3 y4 =>
 iterL (spec_l42Copy_T7
   (fun y7 y8 =>
 some y8) a0 (([] : List Host), ([] : List VirtualFunction), ([] : List Mailbox), ([] : List Bytes), (0, 0, 0, 0), ([] : List Int), ([] : List Bytes))) fuel (0, y4)) a0 (([] : List Host), ([] : List VirtualFunction), ([] : List Mailbox), ([] : List Bytes), (0, 0, 0, 0), ([] : List Int), ([] : List Bytes))) fuel (0, ([] : List Host), ([] : List VirtualFunction) ++ a0.2.1, ([] : List Mailbox), ([] : List Bytes) ++ a0.2.2.2.1, a0.2.2.2.2.1, ([] : List Int) ++ a0.2.2.2.2.2.1, ([] : List Bytes) ++ a0.2.2.2.2.2.2)))))
def spec_l01In (a0 : Int) (a1 : Int) (a2 : Int) : Option (Bool) :=
 bindO (
 cond (decide (a0 ≥ a1)) (
 some (decide (a0 ≤ a2))) (
 some false)) fun q1 =>
 some q1
def spec_FilterOk_T2 {R : Type} (k0 : Int → Option R) (k1 : Bool → Int → Option R) (v2 : Bool) (b1 : Filter) (nx : Int → Option R) (x : Int) : Option R :=
 cond (decide (x < ((List.length b1.2.2 : Int)))) (
 bindO (
 bindO (idx b1.2.2 x) fun x1 =>
 bindO (spec_l01In x1 0 4095) fun r2 =>
 cond (!r2) (
 some true) (
 cond (decide (x > 0)) (
 bindO (idx b1.2.2 x) fun x3 =>
 bindO (idx b1.2.2 (IntKind.wrap .i64 (x - 1))) fun x4 =>
 some (decide (x3 ≤ x4))) (
 some false))) fun q5 =>
 cond q5 (
 k1 false x) (
 nx (IntKind.wrap .i64 (x + 1)))) (
 k0 x)
def spec_FilterOk (a0 : Filter) : Option (Bool) :=
 iterL (spec_FilterOk_T2
   (fun y6 =>
 bindO (
 bindO (spec_l01In a0.1 0 281474976710654) fun r7 =>
 cond r7 (
 some (decide (((List.length a0.2.2 : Int)) ≤ 8))) (
 some false)) fun q8 =>
 some q8)
   (fun y9 y10 =>
 some y9) false a0) fuel 0
def spec_MailboxOk (a0 : Mailbox) : Option (Bool) :=
 bindO (
 bindO (spec_FilterOk a0.1) fun r1 =>
 cond r1 (
 bindO (spec_l01In a0.2.1 0 1000000000000) fun r2 =>
 cond r2 (
 bindO (spec_l01In a0.2.2.2 0 1000000000000) fun r3 =>
 some r3) (
 some false)) (
 some false)) fun q4 =>
 some q4
def spec_l24Has_T2 {R : Type} (k0 : Int → Option R) (k1 : Bool → Int → Option R) (v0 : List Int) (v1 : Int) (v4 : Bool) (nx : Int → Option R) (x : Int) : Option R :=
 cond (decide (x < ((List.length v0 : Int)))) (
 bindO (idx v0 x) fun x1 =>
 cond (x1 == v1) (
 k1 true x) (
 nx (IntKind.wrap .i64 (x + 1)))) (
 k0 x)
def spec_l24Has (a0 : List Int) (a1 : Int) : Option (Bool) :=
 iterL (spec_l24Has_T2
   (fun y2 =>
 some false)
   (fun y3 y4 =>
 some y3) a0 a1 false) fuel 0
def spec_l42Union_T7 {R : Type} (k0 : Int → Option R) (v1 : List Int) (v5 : List Int) (v6 : Int) (nx : Int → Option R) (x : Int) : Option R :=
 bindO (
 cond (decide (x < ((List.length v5 : Int)))) (
 bindO (idx v5 x) fun x3 =>
 bindO (idx v1 v6) fun x4 =>
 some (decide (x3 < x4))) (
 some false)) fun q5 =>
 cond q5 (
 nx (IntKind.wrap .i64 (x + 1))) (
 k0 x)
def spec_l42Union_T3 {R : Type} (k0 : (List Int) → Int → Option R) (v1 : List Int) (nx : ((List Int) × Int) → Option R) (x : (List Int) × Int) : Option R :=
 cond (decide (x.2 < ((List.length v1 : Int)))) (
 bindO (idx v1 x.2) fun x1 =>
 bindO (spec_l24Has x.1 x1) fun r2 =>
 cond r2 (
 nx (x.1, IntKind.wrap .i64 (x.2 + 1))) (
 iterL (spec_l42Union_T7
   (fun y6 =>
 bindO (sub x.1 0 y6) fun x7 =>
 room (List.length ([] : List Int) + List.length x7) (
 bindO (idx v1 x.2) fun x8 =>
 room (List.length (([] : List Int) ++ x7) + List.length ([x8])) (
 bindO (sub x.1 y6 ((List.length x.1 : Int))) fun x9 =>
 room (List.length ((([] : List Int) ++ x7) ++ ([x8])) + List.length x9) (
 nx (((([] : List Int) ++ x7) ++ ([x8])) ++ x9, IntKind.wrap .i64 (x.2 + 1)))))) v1 x.1 x.2) fuel 0)) (
 k0 x.1 x.2)
def spec_l42Union (a0 : List Int) (a1 : List Int) : Option (List Int) :=
 room (List.length ([] : List Int) + List.length a0) (
 iterL (spec_l42Union_T3
   (fun y10 y11 =>
 some y10) a1) fuel (([] : List Int) ++ a0, 0))
def spec_PortsOk_T9 {R : Type} (k0 : Int → Option R) (k1 : Bool → Int → Option R) (v0 : List Port) (v2 : Bool) (v3 : Int) (nx : Int → Option R) (x : Int) : Option R :=
 cond (decide (x < v3)) (
 bindO (idx v0 x) fun x8 =>
 bindO (idx v0 v3) fun x9 =>
 cond (x8.1 == x9.1) (
 k1 false x) (
 nx (IntKind.wrap .i64 (x + 1)))) (
 k0 x)
def spec_PortsOk_T4 {R : Type} (k0 : Int → Option R) (k1 : Bool → Int → Option R) (v0 : List Port) (v2 : Bool) (nx : Int → Option R) (x : Int) : Option R :=
 cond (decide (x < ((List.length v0 : Int)))) (
 bindO (idx v0 x) fun x2 =>
 bindO (idx v0 x) fun x3 =>
 bindO (spec_FilterOk (x2.1, false, x3.2.1)) fun r4 =>
 cond (!r4) (
 k1 false x) (
 bindO (idx v0 x) fun x5 =>
 bindO (idx v0 x) fun x6 =>
 bindO (spec_l24Has x5.2.1 x6.2.2.1) fun r7 =>
 cond (!r7) (
 k1 false x) (
 iterL (spec_PortsOk_T9
   (fun y10 =>
 nx (IntKind.wrap .i64 (x + 1)))
   (fun y11 y12 =>
 k1 y11 x) v0 v2 x) fuel 1))) (
 k0 x)
def spec_PortsOk (a0 : List Port) : Option (Bool) :=
 bindO (spec_l01In ((List.length a0 : Int)) 1 8) fun r1 =>
 cond (!r1) (
 some false) (
 iterL (spec_PortsOk_T4
   (fun y13 =>
 some true)
   (fun y14 y15 =>
 some y14) a0 false) fuel 0)
def spec_PortsOf_T5 {R : Type} (k0 : (List Port) → Int → Option R) (k1 : (List Port) → Bool → (List Port) → Int → Option R) (v0 : List Mailbox) (v2 : List Port) (v3 : Bool) (nx : ((List Port) × Int) → Option R) (x : (List Port) × Int) : Option R :=
 cond (decide (x.2 < ((List.length v0 : Int)))) (
 bindO (idx v0 x.2) fun x2 =>
 bindO (spec_MailboxOk x2) fun r3 =>
 cond (!r3) (
 k1 ([] : List Port) false x.1 x.2) (
 bindO (idx x.1 0) fun x4 =>
 bindO (idx v0 x.2) fun x5 =>
 bindO (spec_l42Union x4.2.1 x5.1.2.2) fun r6 =>
 bindO (idx x.1 0) fun x7 =>
 bindO (idx x.1 0) fun x8 =>
 bindO (idx v0 x.2) fun x9 =>
 bindO (idx v0 x.2) fun x10 =>
 bindO (spec_l42Union ([0]) x10.1.2.2) fun r11 =>
 room (List.length (List.set x.1 (Int.toNat 0) (x8.1, r6, x8.2.2)) + List.length ([(x9.1.1, r11, 0, true)])) (
 nx ((List.set x.1 (Int.toNat 0) (x8.1, r6, x8.2.2)) ++ ([(x9.1.1, r11, 0, true)]), IntKind.wrap .i64 (x.2 + 1))))) (
 k0 x.1 x.2)
def spec_PortsOf (a0 : List Mailbox) : Option ((List Port) × Bool) :=
 bindO (spec_l01In ((List.length a0 : Int)) 1 3) fun r1 =>
 cond (!r1) (
 some (([] : List Port), false)) (
 iterL (spec_PortsOf_T5
   (fun y12 y13 =>
 bindO (spec_PortsOk y12) fun r14 =>
 cond (!r14) (
 some (([] : List Port), false)) (
 some (y12, true)))
   (fun y15 y16 y17 y18 =>
 some (y15, y16)) a0 ([] : List Port) false) fuel ([(0, [0], 0, false)], 0))
def spec_BucketOk (a0 : Bucket) : Option (Bool) :=
 bindO (
 bindO (spec_l01In a0.1 0 10000) fun r1 =>
 cond r1 (
 bindO (spec_l01In a0.2.1 0 100000) fun r2 =>
 cond r2 (
 bindO (spec_l01In a0.2.2 0 a0.2.1) fun r3 =>
 some r3) (
 some false)) (
 some false)) fun q4 =>
 some q4
def spec_FunctionsOk_T10 {R : Type} (k0 : Int → Option R) (k1 : Bool → Int → Option R) (v0 : List VirtualFunction) (v1 : List Port) (v4 : Bool) (v5 : Int) (b6 : VirtualFunction) (nx : Int → Option R) (x : Int) : Option R :=
 cond (decide (x < v5)) (
 bindO (
 bindO (idx v0 x) fun x9 =>
 cond (x9.1 == b6.1) (
 some true) (
 bindO (idx v0 x) fun x10 =>
 some (x10.2.1 == b6.2.1))) fun q11 =>
 cond q11 (
 k1 false x) (
 nx (IntKind.wrap .i64 (x + 1)))) (
 k0 x)
def spec_FunctionsOk_T4 {R : Type} (k0 : Int → Option R) (k1 : Bool → Int → Option R) (v0 : List VirtualFunction) (v1 : List Port) (v4 : Bool) (nx : Int → Option R) (x : Int) : Option R :=
 cond (decide (x < ((List.length v0 : Int)))) (
 bindO (idx v0 x) fun x2 =>
 bindO (
 bindO (spec_l01In x2.1 0 7) fun r3 =>
 cond (!r3) (
 some true) (
 bindO (spec_l01In x2.2.1 1 (IntKind.wrap .i64 (((List.length v1 : Int)) - 1))) fun r4 =>
 cond (!r4) (
 some true) (
 bindO (spec_BucketOk x2.2.2.1) fun r5 =>
 cond (!r5) (
 some true) (
 bindO (spec_l01In x2.2.2.2.2.1 0 1000000000000) fun r6 =>
 cond (!r6) (
 some true) (
 bindO (spec_l01In x2.2.2.2.2.2 0 1000000000000) fun r7 =>
 some (!r7)))))) fun q8 =>
 cond q8 (
 k1 false x) (
 iterL (spec_FunctionsOk_T10
   (fun y12 =>
 nx (IntKind.wrap .i64 (x + 1)))
   (fun y13 y14 =>
 k1 y13 x) v0 v1 v4 x x2) fuel 0)) (
 k0 x)
def spec_FunctionsOk (a0 : List VirtualFunction) (a1 : List Port) : Option (Bool) :=
 bindO (spec_PortsOk a1) fun r1 =>
 cond (!r1) (
 some false) (
 iterL (spec_FunctionsOk_T4
   (fun y15 =>
 some true)
   (fun y16 y17 =>
 some y16) a0 a1 false) fuel 0)
def spec_FlashOk (a0 : List Bytes) : Option (Bool) :=
 bindO (
 cond (((List.length a0 : Int)) == 2) (
 bindO (idx a0 0) fun x1 =>
 cond (((List.length x1 : Int)) == 96) (
 bindO (idx a0 1) fun x2 =>
 some (((List.length x2 : Int)) == 96)) (
 some false)) (
 some false)) fun q3 =>
 some q3
def spec_l02Within (a0 : Bytes) (a1 : Int) (a2 : Int) : Option (Bool) :=
 bindO (
 cond (decide (a1 ≥ 0)) (
 cond (decide (a1 ≤ ((List.length a0 : Int)))) (
 some (decide (a2 ≤ (IntKind.wrap .i64 (((List.length a0 : Int)) - a1))))) (
 some false)) (
 some false)) fun q1 =>
 some q1
def spec_Get16 (a0 : Bytes) (a1 : Int) : Option (Int) :=
 bindO (spec_l02Within a0 a1 2) fun r1 =>
 cond (!r1) (
 some (-1)) (
 bindO (idx a0 a1) fun x2 =>
 if 8 < 0 then none else (
 bindO (idx a0 (IntKind.wrap .i64 (a1 + 1))) fun x3 =>
 some (IntKind.wrap .i64 ((IntKind.wrap .i64 ((IntKind.wrap .i64 ((UInt8.toNat x2 : Int))) * 2 ^ (min (Int.toNat 8) (IntKind.bits .i64)))) + (IntKind.wrap .i64 ((UInt8.toNat x3 : Int)))))))
def spec_Get32 (a0 : Bytes) (a1 : Int) : Option (Int) :=
 bindO (spec_l02Within a0 a1 4) fun r1 =>
 cond (!r1) (
 some (-1)) (
 bindO (spec_Get16 a0 a1) fun r2 =>
 if 16 < 0 then none else (
 bindO (spec_Get16 a0 (IntKind.wrap .i64 (a1 + 2))) fun r3 =>
 some (IntKind.wrap .i64 ((IntKind.wrap .i64 (r2 * 2 ^ (min (Int.toNat 16) (IntKind.bits .i64)))) + r3))))
def spec_Word32 (a0 : Int) : Option (Bytes) :=
 bindO (spec_l01In a0 0 4294967295) fun r1 =>
 cond (!r1) (
 some ([] : Bytes)) (
 if 24 < 0 then none else (
 if 16 < 0 then none else (
 if 8 < 0 then none else (
 some (bytesOf ([(IntKind.wrap .u8 (Int.fdiv a0 (2 ^ (min (Int.toNat 24) (IntKind.bits .i64))))), (IntKind.wrap .u8 (Int.fdiv a0 (2 ^ (min (Int.toNat 16) (IntKind.bits .i64))))), (IntKind.wrap .u8 (Int.fdiv a0 (2 ^ (min (Int.toNat 8) (IntKind.bits .i64))))), (IntKind.wrap .u8 a0)]))))))
def spec_Crc32_T7 {R : Type} (k0 : Int → Int → Option R) (v0 : Bytes) (v4 : Int) (nx : (Int × Int) → Option R) (x : Int × Int) : Option R :=
 cond (decide (x.2 < 8)) (
 cond ((IntKind.wrap .i64 (BitVec.toNat (BitVec.ofInt (IntKind.bits .i64) x.1 &&& BitVec.ofInt (IntKind.bits .i64) 1))) == 1) (
 if 1 < 0 then none else (
 nx (IntKind.wrap .i64 (BitVec.toNat (BitVec.ofInt (IntKind.bits .i64) (Int.fdiv x.1 (2 ^ (min (Int.toNat 1) (IntKind.bits .i64)))) ^^^ BitVec.ofInt (IntKind.bits .i64) 3988292384)), IntKind.wrap .i64 (x.2 + 1)))) (
 if 1 < 0 then none else (
 nx (Int.fdiv x.1 (2 ^ (min (Int.toNat 1) (IntKind.bits .i64))), IntKind.wrap .i64 (x.2 + 1))))) (
 k0 x.1 x.2)
def spec_Crc32_T3 {R : Type} (k0 : Int → Int → Option R) (v0 : Bytes) (nx : (Int × Int) → Option R) (x : Int × Int) : Option R :=
 cond (decide (x.2 < ((List.length v0 : Int)))) (
 bindO (idx v0 x.2) fun x1 =>
 iterL (spec_Crc32_T7
   (fun y2 y3 =>
 nx (y2, IntKind.wrap .i64 (x.2 + 1))) v0 x.2) fuel (IntKind.wrap .i64 (BitVec.toNat (BitVec.ofInt (IntKind.bits .i64) x.1 ^^^ BitVec.ofInt (IntKind.bits .i64) (IntKind.wrap .i64 ((UInt8.toNat x1 : Int))))), 0)) (
 k0 x.1 x.2)
def spec_Crc32 (a0 : Bytes) : Option (Int) :=
 iterL (spec_Crc32_T3
   (fun y4 y5 =>
 some (IntKind.wrap .i64 (4294967295 - y4))) a0) fuel (4294967295, 0)
def spec_MakeImage (a0 : Int) (a1 : Bytes) : Option (Bytes × Bool) :=
 bindO (
 bindO (spec_l01In a0 0 1000000) fun r1 =>
 cond (!r1) (
 some true) (
 some (decide ((IntKind.wrap .i64 (((List.length a1 : Int)) + 12)) > 96)))) fun q2 =>
 cond q2 (
 some (([] : Bytes), false)) (
 bindO (spec_Word32 a0) fun r3 =>
 bindO (spec_Word32 ((List.length a1 : Int))) fun r4 =>
 room (List.length r3 + List.length r4) (
 room (List.length (r3 ++ r4) + List.length a1) (
 bindO (spec_Crc32 ((r3 ++ r4) ++ a1)) fun r5 =>
 bindO (spec_Word32 r5) fun r6 =>
 room (List.length ((r3 ++ r4) ++ a1) + List.length r6) (
 some (((r3 ++ r4) ++ a1) ++ r6, true)))))
def spec_ImageVersion (a0 : Bytes) : Option (Int) :=
 bindO (spec_Get32 a0 4) fun r1 =>
 bindO (
 bindO (spec_l01In r1 0 84) fun r2 =>
 cond (!r2) (
 some true) (
 some (decide ((IntKind.wrap .i64 (r1 + 12)) > ((List.length a0 : Int)))))) fun q3 =>
 cond q3 (
 some (-1)) (
 bindO (spec_Get32 a0 0) fun r4 =>
 bindO (sub a0 8 (IntKind.wrap .i64 (8 + r1))) fun x5 =>
 bindO (spec_MakeImage r4 x5) fun r6 =>
 bindO (
 cond (!r6.2) (
 some true) (
 bindO (sub a0 0 (IntKind.wrap .i64 (r1 + 12))) fun x7 =>
 some (!(r6.1 == x7)))) fun q8 =>
 cond q8 (
 some (-1)) (
 bindO (spec_Get32 a0 0) fun r9 =>
 some r9))
def spec_BootBank (a0 : List Bytes) : Option (Int) :=
 bindO (spec_FlashOk a0) fun r1 =>
 cond (!r1) (
 some (-1)) (
 bindO (idx a0 0) fun x2 =>
 bindO (spec_ImageVersion x2) fun r3 =>
 bindO (idx a0 1) fun x4 =>
 bindO (spec_ImageVersion x4) fun r5 =>
 bindO (
 cond (decide (r3 < 0)) (
 some (decide (r5 < 0))) (
 some false)) fun q6 =>
 cond q6 (
 some (-1)) (
 cond (decide (r5 > r3)) (
 some 1) (
 some 0)))
def spec_ClockOk (a0 : Clock) : Option (Bool) :=
 bindO (
 bindO (spec_l01In a0.1 0 1125899906842624) fun r1 =>
 cond r1 (
 bindO (spec_l01In a0.2.1 0 1048575) fun r2 =>
 cond r2 (
 bindO (spec_l01In a0.2.2.1 0 67108864) fun r3 =>
 cond r3 (
 bindO (spec_l01In a0.2.2.2 0 1099511627776) fun r4 =>
 some r4) (
 some false)) (
 some false)) (
 some false)) fun q5 =>
 some q5
def spec_MemoryOk_T2 {R : Type} (k0 : Int → Option R) (k1 : Bool → Int → Option R) (v2 : Bool) (b1 : List Bytes) (nx : Int → Option R) (x : Int) : Option R :=
 cond (decide (x < ((List.length b1 : Int)))) (
 bindO (idx b1 x) fun x1 =>
 cond (((List.length x1 : Int)) != 128) (
 k1 false x) (
 nx (IntKind.wrap .i64 (x + 1)))) (
 k0 x)
def spec_MemoryOk (a0 : List Bytes) : Option (Bool) :=
 iterL (spec_MemoryOk_T2
   (fun y2 =>
 some (decide (((List.length a0 : Int)) ≤ 64)))
   (fun y3 y4 =>
 some y3) false a0) fuel 0
def spec_MappingsOk_T10 {R : Type} (k0 : Int → Option R) (k1 : Bool → Int → Option R) (v0 : List Mapping) (v2 : Bool) (v3 : Int) (b4 : Mapping) (nx : Int → Option R) (x : Int) : Option R :=
 cond (decide (x < v3)) (
 bindO (
 bindO (idx v0 x) fun x6 =>
 cond (x6.1 == b4.1) (
 bindO (idx v0 x) fun x7 =>
 some (x7.2.1 == b4.2.1)) (
 some false)) fun q8 =>
 cond q8 (
 k1 false x) (
 nx (IntKind.wrap .i64 (x + 1)))) (
 k0 x)
def spec_MappingsOk_T4 {R : Type} (k0 : Int → Option R) (k1 : Bool → Int → Option R) (v0 : List Mapping) (v2 : Bool) (nx : Int → Option R) (x : Int) : Option R :=
 cond (decide (x < ((List.length v0 : Int)))) (
 bindO (idx v0 x) fun x1 =>
 bindO (
 bindO (spec_l01In x1.1 0 7) fun r2 =>
 cond (!r2) (
 some true) (
 bindO (spec_l01In x1.2.1 0 1023) fun r3 =>
 cond (!r3) (
 some true) (
 bindO (spec_l01In x1.2.2.1 0 63) fun r4 =>
 some (!r4)))) fun q5 =>
 cond q5 (
 k1 false x) (
 iterL (spec_MappingsOk_T10
   (fun y9 =>
 nx (IntKind.wrap .i64 (x + 1)))
   (fun y10 y11 =>
 k1 y10 x) v0 v2 x x1) fuel 0)) (
 k0 x)
def spec_MappingsOk (a0 : List Mapping) : Option (Bool) :=
 cond (decide (((List.length a0 : Int)) > 96)) (
 some false) (
 iterL (spec_MappingsOk_T4
   (fun y12 =>
 some true)
   (fun y13 y14 =>
 some y13) a0 false) fuel 0)
def spec_PoolOk_T5 {R : Type} (k0 : (List Bool) → Int → Option R) (k1 : Bool → (List Bool) → Int → Option R) (v2 : Bool) (b1 : Pool) (nx : ((List Bool) × Int) → Option R) (x : (List Bool) × Int) : Option R :=
 cond (decide (x.2 < ((List.length b1.2.2.2 : Int)))) (
 bindO (
 bindO (idx b1.2.2.2 x.2) fun x5 =>
 bindO (spec_l01In x5 0 (IntKind.wrap .i64 (b1.2.2.1 - 1))) fun r6 =>
 cond (!r6) (
 some true) (
 bindO (idx b1.2.2.2 x.2) fun x7 =>
 bindO (idx x.1 x7) fun x8 =>
 some x8)) fun q9 =>
 cond q9 (
 k1 false x.1 x.2) (
 bindO (idx b1.2.2.2 x.2) fun x10 =>
 bindO (idx x.1 x10) fun x11 =>
 bindO (idx x.1 x10) fun x12 =>
 nx (List.set x.1 (Int.toNat x10) true, IntKind.wrap .i64 (x.2 + 1)))) (
 k0 x.1 x.2)
def spec_PoolOk (a0 : Pool) : Option (Bool) :=
 bindO (
 bindO (spec_l01In a0.1 0 130944) fun r1 =>
 cond (!r1) (
 some true) (
 bindO (spec_l01In a0.2.1 1 512) fun r2 =>
 cond (!r2) (
 some true) (
 bindO (spec_l01In a0.2.2.1 0 16) fun r3 =>
 some (!r3)))) fun q4 =>
 cond q4 (
 some false) (
 if (0 : Int) ≤ a0.2.2.1 ∧ a0.2.2.1 ≤ a0.2.2.1 then (
 room (Int.toNat a0.2.2.1) (
 iterL (spec_PoolOk_T5
   (fun y13 y14 =>
 some true)
   (fun y15 y16 y17 =>
 some y15) false a0) fuel (List.replicate (Int.toNat a0.2.2.1) false, 0))) else none)
def spec_l20Size (a0 : Int) : Option (Bool) :=
 bindO (
 cond (a0 == 2) (
 some true) (
 cond (a0 == 4) (
 some true) (
 cond (a0 == 8) (
 some true) (
 some (a0 == 16))))) fun q1 =>
 some q1
def spec_RingUsed (a0 : Clock) : Option (Int) :=
 bindO (spec_l20Size a0.2.1) fun r1 =>
 cond (!r1) (
 some 0) (
 some (IntKind.wrap .i64 (BitVec.toNat (BitVec.ofInt (IntKind.bits .i64) (IntKind.wrap .i64 (a0.2.2.2 - a0.2.2.1)) &&& BitVec.ofInt (IntKind.bits .i64) (IntKind.wrap .i64 ((IntKind.wrap .i64 (2 * a0.2.1)) - 1))))))
def spec_RingOk (a0 : Clock) : Option (Bool) :=
 bindO (
 bindO (spec_l01In a0.1 0 130944) fun r1 =>
 cond r1 (
 bindO (spec_l20Size a0.2.1) fun r2 =>
 cond r2 (
 bindO (spec_l01In a0.2.2.1 0 (IntKind.wrap .i64 ((IntKind.wrap .i64 (2 * a0.2.1)) - 1))) fun r3 =>
 cond r3 (
 bindO (spec_l01In a0.2.2.2 0 (IntKind.wrap .i64 ((IntKind.wrap .i64 (2 * a0.2.1)) - 1))) fun r4 =>
 cond r4 (
 bindO (spec_RingUsed a0) fun r5 =>
 some (decide (r5 ≤ a0.2.1))) (
 some false)) (
 some false)) (
 some false)) (
 some false)) fun q6 =>
 some q6
def spec_GiveBuffers (a0 : Pool) (a1 : List Int) : Option (Pool × Bool) :=
 bindO (spec_l21Copy a0) fun r1 =>
 room (List.length r1.2.2.2 + List.length a1) (
 bindO (
 bindO (spec_PoolOk a0) fun r2 =>
 cond (!r2) (
 some true) (
 bindO (spec_PoolOk (r1.1, r1.2.1, r1.2.2.1, r1.2.2.2 ++ a1)) fun r3 =>
 some (!r3))) fun q4 =>
 cond q4 (
 bindO (spec_l21Copy a0) fun r5 =>
 some (r5, false)) (
 some ((r1.1, r1.2.1, r1.2.2.1, r1.2.2.2 ++ a1), true)))
def spec_TxOk_T6 {R : Type} (k0 : Int → (List Int) → Int → Option R) (k1 : Bool → Int → (List Int) → Int → Option R) (v2 : Bool) (b1 : TxQueue) (nx : (Int × (List Int) × Int) → Option R) (x : Int × (List Int) × Int) : Option R :=
 cond (decide (x.2.2 < ((List.length b1.2.2.1 : Int)))) (
 bindO (idx b1.2.2.1 x.2.2) fun x5 =>
 bindO (
 bindO (spec_l01In x5.2.1 1 b1.1.2.1) fun r6 =>
 cond (!r6) (
 some true) (
 bindO (spec_l01In x5.1 0 65535) fun r7 =>
 some (!r7))) fun q8 =>
 cond q8 (
 k1 false x.1 x.2.1 x.2.2) (
 room (List.length x.2.1 + List.length x5.2.2) (
 nx (IntKind.wrap .i64 (x.1 + x5.2.1), x.2.1 ++ x5.2.2, IntKind.wrap .i64 (x.2.2 + 1))))) (
 k0 x.1 x.2.1 x.2.2)
def spec_TxOk (a0 : TxQueue) : Option (Bool) :=
 bindO (
 bindO (spec_RingOk a0.1) fun r1 =>
 cond (!r1) (
 some true) (
 bindO (spec_PoolOk a0.2.1) fun r2 =>
 cond (!r2) (
 some true) (
 bindO (spec_l01In a0.2.2.2 0 65535) fun r3 =>
 some (!r3)))) fun q4 =>
 cond q4 (
 some false) (
 iterL (spec_TxOk_T6
   (fun y9 y10 y11 =>
 bindO (spec_GiveBuffers a0.2.1 y10) fun r12 =>
 bindO (
 cond r12.2 (
 some (decide (y9 ≤ a0.1.2.1))) (
 some false)) fun q13 =>
 some q13)
   (fun y14 y15 y16 y17 =>
 some y14) false a0) fuel (0, ([] : List Int), 0))
def spec_RuleOk (a0 : Rule) : Option (Bool) :=
 bindO (
 bindO (spec_l01In a0.1 0 1000) fun r1 =>
 cond (!r1) (
 some true) (
 cond (a0.2.1 != 0) (
 cond (a0.2.1 != 6) (
 cond (a0.2.1 != 17) (
 some true) (
 bindO (spec_l01In a0.2.2.1 0 4294967295) fun r2 =>
 cond (!r2) (
 some true) (
 bindO (spec_l01In a0.2.2.2.1 0 32) fun r3 =>
 some (!r3)))) (
 bindO (spec_l01In a0.2.2.1 0 4294967295) fun r4 =>
 cond (!r4) (
 some true) (
 bindO (spec_l01In a0.2.2.2.1 0 32) fun r5 =>
 some (!r5)))) (
 bindO (spec_l01In a0.2.2.1 0 4294967295) fun r6 =>
 cond (!r6) (
 some true) (
 bindO (spec_l01In a0.2.2.2.1 0 32) fun r7 =>
 some (!r7))))) fun q8 =>
 cond q8 (
 some false) (
 bindO (
 cond (decide (a0.2.2.2.2.1 < 0)) (
 some true) (
 cond (decide (a0.2.2.2.2.1 > a0.2.2.2.2.2.1)) (
 some true) (
 cond (decide (a0.2.2.2.2.2.1 > 65535)) (
 some true) (
 bindO (spec_l01In a0.2.2.2.2.2.2.1 (-2) 4095) fun r9 =>
 some (!r9))))) fun q10 =>
 cond q10 (
 some false) (
 bindO (
 cond (a0.2.2.2.2.2.2.2.1 == 0) (
 bindO (spec_l01In a0.2.2.2.2.2.2.2.2 0 3) fun r11 =>
 cond r11 (
 some true) (
 cond (a0.2.2.2.2.2.2.2.1 == 1) (
 some (a0.2.2.2.2.2.2.2.2 == 0)) (
 some false))) (
 cond (a0.2.2.2.2.2.2.2.1 == 1) (
 some (a0.2.2.2.2.2.2.2.2 == 0)) (
 some false))) fun q12 =>
 some q12))
def spec_RulesOk_T2 {R : Type} (k0 : Int → Option R) (k1 : Bool → Int → Option R) (v0 : List Rule) (v2 : Bool) (nx : Int → Option R) (x : Int) : Option R :=
 cond (decide (x < ((List.length v0 : Int)))) (
 bindO (idx v0 x) fun x1 =>
 bindO (spec_RuleOk x1) fun r2 =>
 cond (!r2) (
 k1 false x) (
 nx (IntKind.wrap .i64 (x + 1)))) (
 k0 x)
def spec_RulesOk (a0 : List Rule) : Option (Bool) :=
 iterL (spec_RulesOk_T2
   (fun y3 =>
 some (decide (((List.length a0 : Int)) ≤ 12)))
   (fun y4 y5 =>
 some y4) a0 false) fuel 0
def spec_HomeSlot_T4 {R : Type} (k0 : Int → Int → Option R) (v4 : List Int) (nx : (Int × Int) → Option R) (x : Int × Int) : Option R :=
 cond (decide (x.2 < ((List.length v4 : Int)))) (
 bindO (idx v4 x.2) fun x1 =>
 nx (IntKind.wrap .i64 (x.1 + (IntKind.wrap .i64 (BitVec.toNat (BitVec.ofInt (IntKind.bits .i64) x1 &&& BitVec.ofInt (IntKind.bits .i64) 7)))), IntKind.wrap .i64 (x.2 + 1))) (
 k0 x.1 x.2)
def spec_HomeSlot (a0 : Flow) : Option (Int) :=
 iterL (spec_HomeSlot_T4
   (fun y2 y3 =>
 if 8 = 0 then none else (
 some (Int.tmod y2 8))) ([a0.1, a0.2.1, a0.2.2.1, a0.2.2.2.1, a0.2.2.2.2])) fuel (0, 0)
def spec_l13Find_T2 {R : Type} (k0 : Int → Option R) (k1 : Int → Int → Option R) (v4 : Int) (b2 : List Slot) (b3 : Flow) (nx : Int → Option R) (x : Int) : Option R :=
 cond (decide (x < 8)) (
 bindO (spec_HomeSlot b3) fun r1 =>
 if 8 = 0 then none else (
 bindO (idx b2 (Int.tmod (IntKind.wrap .i64 (r1 + x)) 8)) fun x2 =>
 cond (x2.1 == 0) (
 k1 (-1) x) (
 bindO (
 bindO (idx b2 (Int.tmod (IntKind.wrap .i64 (r1 + x)) 8)) fun x3 =>
 cond (x3.1 == 1) (
 bindO (idx b2 (Int.tmod (IntKind.wrap .i64 (r1 + x)) 8)) fun x4 =>
 some ((x4.2.1.1 == b3.1) && ((x4.2.1.2.1 == b3.2.1) && ((x4.2.1.2.2.1 == b3.2.2.1) && ((x4.2.1.2.2.2.1 == b3.2.2.2.1) && ((x4.2.1.2.2.2.2 == b3.2.2.2.2) && true)))))) (
 some false)) fun q5 =>
 cond q5 (
 k1 (Int.tmod (IntKind.wrap .i64 (r1 + x)) 8) x) (
 nx (IntKind.wrap .i64 (x + 1)))))) (
 k0 x)
def spec_l13Find (a0 : List Slot) (a1 : Flow) : Option (Int) :=
 iterL (spec_l13Find_T2
   (fun y6 =>
 some (-1))
   (fun y7 y8 =>
 some y7) 0 a0 a1) fuel 0
def spec_TableOk_T4 {R : Type} (k0 : Int → Option R) (k1 : Bool → Int → Option R) (v2 : Bool) (b1 : List Slot) (nx : Int → Option R) (x : Int) : Option R :=
 cond (decide (x < ((List.length b1 : Int)))) (
 bindO (idx b1 x) fun x1 =>
 bindO (
 bindO (spec_l01In x1.1 0 2) fun r2 =>
 cond (!r2) (
 some true) (
 bindO (spec_l01In x1.2.2 0 3) fun r3 =>
 some (!r3))) fun q4 =>
 cond q4 (
 k1 false x) (
 cond (x1.1 != 1) (
 bindO (
 cond (x1.2.2 != 0) (
 some true) (
 some (!((x1.2.1.1 == 0) && ((x1.2.1.2.1 == 0) && ((x1.2.1.2.2.1 == 0) && ((x1.2.1.2.2.2.1 == 0) && ((x1.2.1.2.2.2.2 == 0) && true)))))))) fun q5 =>
 cond q5 (
 k1 false x) (
 nx (IntKind.wrap .i64 (x + 1)))) (
 bindO (spec_l13Find b1 x1.2.1) fun r6 =>
 cond (r6 != x) (
 k1 false x) (
 nx (IntKind.wrap .i64 (x + 1)))))) (
 k0 x)
def spec_TableOk (a0 : List Slot) : Option (Bool) :=
 cond (((List.length a0 : Int)) != 8) (
 some false) (
 iterL (spec_TableOk_T4
   (fun y7 =>
 some true)
   (fun y8 y9 =>
 some y8) false a0) fuel 0)
def spec_l12Size (a0 : Int) : Option (Bool) :=
 bindO (
 cond (a0 == 1) (
 some true) (
 cond (a0 == 2) (
 some true) (
 cond (a0 == 4) (
 some true) (
 cond (a0 == 8) (
 some true) (
 some (a0 == 16)))))) fun q1 =>
 some q1
def spec_SpreadOk_T4 {R : Type} (k0 : Int → Option R) (k1 : Bool → Int → Option R) (v1 : Int) (v4 : Bool) (b2 : Spread) (nx : Int → Option R) (x : Int) : Option R :=
 cond (decide (x < ((List.length b2.2 : Int)))) (
 bindO (idx b2.2 x) fun x4 =>
 bindO (spec_l01In x4 0 (IntKind.wrap .i64 (v1 - 1))) fun r5 =>
 cond (!r5) (
 k1 false x) (
 nx (IntKind.wrap .i64 (x + 1)))) (
 k0 x)
def spec_SpreadOk (a0 : Spread) (a1 : Int) : Option (Bool) :=
 bindO (
 bindO (spec_l01In a1 1 4) fun r1 =>
 cond (!r1) (
 some true) (
 cond (((List.length a0.1 : Int)) != 16) (
 some true) (
 bindO (spec_l12Size ((List.length a0.2 : Int))) fun r2 =>
 some (!r2)))) fun q3 =>
 cond q3 (
 some false) (
 iterL (spec_SpreadOk_T4
   (fun y6 =>
 some true)
   (fun y7 y8 =>
 some y7) a1 false a0) fuel 0)
def spec_SteeringOk_T4 {R : Type} (k0 : Int → Option R) (k1 : Bool → Int → Option R) (v1 : Int) (v4 : Bool) (b2 : Steering) (nx : Int → Option R) (x : Int) : Option R :=
 cond (decide (x < ((List.length b2.1 : Int)))) (
 bindO (idx b2.1 x) fun x5 =>
 cond (decide (x5.2.2.2.2.2.2.2.2 ≥ v1)) (
 k1 false x) (
 nx (IntKind.wrap .i64 (x + 1)))) (
 k0 x)
def spec_SteeringOk_T9 {R : Type} (k0 : Int → Option R) (k1 : Bool → Int → Option R) (v1 : Int) (v4 : Bool) (b2 : Steering) (nx : Int → Option R) (x : Int) : Option R :=
 cond (decide (x < ((List.length b2.2.1 : Int)))) (
 bindO (idx b2.2.1 x) fun x7 =>
 cond (decide (x7.2.2 ≥ v1)) (
 k1 false x) (
 nx (IntKind.wrap .i64 (x + 1)))) (
 k0 x)
def spec_SteeringOk (a0 : Steering) (a1 : Int) : Option (Bool) :=
 bindO (
 bindO (spec_RulesOk a0.1) fun r1 =>
 cond (!r1) (
 some true) (
 bindO (spec_TableOk a0.2.1) fun r2 =>
 cond (!r2) (
 some true) (
 bindO (spec_SpreadOk a0.2.2 a1) fun r3 =>
 some (!r3)))) fun q4 =>
 cond q4 (
 some false) (
 iterL (spec_SteeringOk_T4
   (fun y6 =>
 iterL (spec_SteeringOk_T9
   (fun y8 =>
 some true)
   (fun y9 y10 =>
 some y9) a1 false a0) fuel 0)
   (fun y11 y12 =>
 some y11) a1 false a0) fuel 0)
def spec_QueueOk (a0 : Bucket) : Option (Bool) :=
 bindO (
 bindO (spec_l01In a0.1 0 130944) fun r1 =>
 cond r1 (
 bindO (spec_l20Size a0.2.1) fun r2 =>
 cond r2 (
 bindO (spec_l01In a0.2.2 0 (IntKind.wrap .i64 ((IntKind.wrap .i64 (2 * a0.2.1)) - 1))) fun r3 =>
 some r3) (
 some false)) (
 some false)) fun q4 =>
 some q4
def spec_SegmentOk (a0 : Segment) : Option (Bool) :=
 bindO (
 bindO (spec_l01In a0.2.1 0 65535) fun r1 =>
 cond (!r1) (
 some true) (
 bindO (spec_l01In a0.2.2.1 0 65535) fun r2 =>
 cond (!r2) (
 some true) (
 some (decide (((List.length a0.2.2.2.2.2.2.2 : Int)) > 320))))) fun q3 =>
 cond q3 (
 some false) (
 cond (a0.1 == 17) (
 bindO (
 cond (a0.2.2.2.1 == 0) (
 cond (a0.2.2.2.2.1 == 0) (
 cond (a0.2.2.2.2.2.1 == 0) (
 some (a0.2.2.2.2.2.2.1 == 0)) (
 some false)) (
 some false)) (
 some false)) fun q4 =>
 some q4) (
 bindO (
 cond (a0.1 == 6) (
 bindO (spec_l01In a0.2.2.2.1 0 4294967295) fun r5 =>
 cond r5 (
 bindO (spec_l01In a0.2.2.2.2.1 0 4294967295) fun r6 =>
 cond r6 (
 bindO (spec_l01In a0.2.2.2.2.2.1 0 31) fun r7 =>
 cond r7 (
 bindO (spec_l01In a0.2.2.2.2.2.2.1 0 65535) fun r8 =>
 some r8) (
 some false)) (
 some false)) (
 some false)) (
 some false)) fun q9 =>
 some q9))
def spec_SuperOk (a0 : Packet) : Option (Bool) :=
 bindO (
 bindO (spec_l01In a0.1 0 281474976710655) fun r1 =>
 cond (!r1) (
 some true) (
 bindO (spec_l01In a0.2.1 0 281474976710655) fun r2 =>
 cond (!r2) (
 some true) (
 bindO (spec_l01In a0.2.2.1 (-1) 4095) fun r3 =>
 cond (!r3) (
 some true) (
 bindO (spec_l01In a0.2.2.2.1 0 255) fun r4 =>
 cond (!r4) (
 some true) (
 bindO (spec_l01In a0.2.2.2.2.2.1 0 255) fun r5 =>
 cond (!r5) (
 some true) (
 bindO (spec_l01In a0.2.2.2.2.1 0 65535) fun r6 =>
 cond (!r6) (
 some true) (
 bindO (spec_l01In a0.2.2.2.2.2.2.1 0 4294967295) fun r7 =>
 cond (!r7) (
 some true) (
 bindO (spec_l01In a0.2.2.2.2.2.2.2.1 0 4294967295) fun r8 =>
 cond (!r8) (
 some true) (
 bindO (spec_SegmentOk a0.2.2.2.2.2.2.2.2) fun r9 =>
 some (!r9)))))))))) fun q10 =>
 cond q10 (
 some false) (
 bindO (
 cond (a0.2.2.2.2.2.2.2.2.1 == 6) (
 some ((IntKind.wrap .i64 (BitVec.toNat (BitVec.ofInt (IntKind.bits .i64) a0.2.2.2.2.2.2.2.2.2.2.2.2.2.1 &&& ~~~ BitVec.ofInt (IntKind.bits .i64) 9))) == 16)) (
 some false)) fun q11 =>
 bindO (
 cond q11 (
 some true) (
 some (decide (((List.length a0.2.2.2.2.2.2.2.2.2.2.2.2.2.2.2 : Int)) ≤ 128)))) fun q12 =>
 some q12)
def spec_RxOk (a0 : RxQueue) : Option (Bool) :=
 bindO (
 bindO (spec_RingOk a0.1) fun r1 =>
 cond (!r1) (
 some true) (
 bindO (spec_QueueOk a0.2.1) fun r2 =>
 cond (!r2) (
 some true) (
 bindO (spec_QueueOk a0.2.2.1) fun r3 =>
 cond (!r3) (
 some true) (
 cond (a0.2.1.1 != a0.2.2.1.1) (
 some true) (
 cond (a0.2.1.2.1 != a0.2.2.1.2.1) (
 some true) (
 bindO (spec_l01In a0.2.2.2.2.2 0 1000000000000) fun r4 =>
 some (!r4))))))) fun q5 =>
 cond q5 (
 some false) (
 cond (!a0.2.2.2.2.1) (
 some ((a0.2.2.2.1.1.1 == 0) && ((a0.2.2.2.1.1.2.1 == 0) && ((a0.2.2.2.1.1.2.2.1 == 0) && ((a0.2.2.2.1.1.2.2.2.1 == 0) && ((a0.2.2.2.1.1.2.2.2.2.1 == 0) && ((a0.2.2.2.1.1.2.2.2.2.2.1 == 0) && ((a0.2.2.2.1.1.2.2.2.2.2.2.1 == 0) && ((a0.2.2.2.1.1.2.2.2.2.2.2.2.1 == 0) && ((a0.2.2.2.1.1.2.2.2.2.2.2.2.2.1 == 0) && ((a0.2.2.2.1.1.2.2.2.2.2.2.2.2.2.1 == 0) && ((a0.2.2.2.1.1.2.2.2.2.2.2.2.2.2.2.1 == 0) && ((a0.2.2.2.1.1.2.2.2.2.2.2.2.2.2.2.2.1 == 0) && ((a0.2.2.2.1.1.2.2.2.2.2.2.2.2.2.2.2.2.1 == 0) && ((a0.2.2.2.1.1.2.2.2.2.2.2.2.2.2.2.2.2.2.1 == 0) && ((a0.2.2.2.1.1.2.2.2.2.2.2.2.2.2.2.2.2.2.2.1 == 0) && ((a0.2.2.2.1.1.2.2.2.2.2.2.2.2.2.2.2.2.2.2.2 == ([] : Bytes)) && ((a0.2.2.2.1.2.1 == 0) && ((a0.2.2.2.1.2.2 == 0) && true))))))))))))))))))) (
 bindO (
 bindO (spec_SuperOk a0.2.2.2.1.1) fun r6 =>
 cond r6 (
 bindO (spec_l01In a0.2.2.2.1.2.1 0 320) fun r7 =>
 cond r7 (
 bindO (spec_l01In a0.2.2.2.1.2.2 1 320) fun r8 =>
 some r8) (
 some false)) (
 some false)) fun q9 =>
 some q9))
def spec_l28Due (a0 : Vector) : Option (Bool) :=
 bindO (
 cond (decide (a0.2.2.1 ≥ 1)) (
 cond (decide (a0.2.2.1 ≥ a0.1)) (
 some true) (
 some (decide (a0.2.2.2.1 ≥ a0.2.1)))) (
 some false)) fun q1 =>
 some q1
def spec_VectorOk (a0 : Vector) : Option (Bool) :=
 bindO (
 bindO (spec_l01In a0.1 1 64) fun r1 =>
 cond (!r1) (
 some true) (
 bindO (spec_l01In a0.2.1 0 64) fun r2 =>
 cond (!r2) (
 some true) (
 bindO (spec_l01In a0.2.2.1 0 1000000) fun r3 =>
 cond (!r3) (
 some true) (
 bindO (spec_l01In a0.2.2.2.1 0 1000000) fun r4 =>
 some (!r4))))) fun q5 =>
 cond q5 (
 some false) (
 bindO (
 cond (decide (a0.2.2.1 > 0)) (
 bindO (spec_l28Due a0) fun r6 =>
 cond r6 (
 some (a0.2.2.2.2.2 == (!a0.2.2.2.2.1))) (
 some (a0.2.2.2.2.2 == false))) (
 cond (a0.2.2.2.1 == 0) (
 bindO (spec_l28Due a0) fun r7 =>
 cond r7 (
 some (a0.2.2.2.2.2 == (!a0.2.2.2.2.1))) (
 some (a0.2.2.2.2.2 == false))) (
 some false))) fun q8 =>
 some q8)
def spec_HostOk_T5 {R : Type} (k0 : Int → Option R) (k1 : Bool → Int → Option R) (v2 : Bool) (v3 : Int) (b1 : Host) (nx : Int → Option R) (x : Int) : Option R :=
 cond (decide (x < v3)) (
 bindO (
 bindO (idx b1.2.2.2.1 x) fun x8 =>
 bindO (spec_RxOk x8) fun r9 =>
 cond (!r9) (
 some true) (
 bindO (idx b1.2.2.2.2.1 x) fun x10 =>
 bindO (spec_PoolOk x10) fun r11 =>
 cond (!r11) (
 some true) (
 bindO (idx b1.2.2.2.2.2.1 x) fun x12 =>
 bindO (spec_VectorOk x12) fun r13 =>
 some (!r13)))) fun q14 =>
 cond q14 (
 k1 false x) (
 nx (IntKind.wrap .i64 (x + 1)))) (
 k0 x)
def spec_HostOk_T11 {R : Type} (k0 : Int → Option R) (k1 : Bool → Int → Option R) (v2 : Bool) (v5 : List Int) (nx : Int → Option R) (x : Int) : Option R :=
 cond (decide (x < ((List.length v5 : Int)))) (
 bindO (idx v5 x) fun x16 =>
 bindO (spec_l01In x16 0 1000000000000) fun r17 =>
 cond (!r17) (
 k1 false x) (
 nx (IntKind.wrap .i64 (x + 1)))) (
 k0 x)
def spec_HostOk (a0 : Host) : Option (Bool) :=
 bindO (
 bindO (spec_MemoryOk a0.1) fun r1 =>
 cond (!r1) (
 some true) (
 bindO (spec_MappingsOk a0.2.1) fun r2 =>
 cond (!r2) (
 some true) (
 bindO (spec_TxOk a0.2.2.1) fun r3 =>
 cond (!r3) (
 some true) (
 bindO (spec_FilterOk a0.2.2.2.2.2.2.2.1) fun r4 =>
 cond (!r4) (
 some true) (
 bindO (spec_l01In ((List.length a0.2.2.2.1 : Int)) 1 2) fun r5 =>
 cond (!r5) (
 some true) (
 cond (((List.length a0.2.2.2.2.1 : Int)) != ((List.length a0.2.2.2.1 : Int))) (
 some true) (
 cond (((List.length a0.2.2.2.2.2.1 : Int)) != ((List.length a0.2.2.2.1 : Int))) (
 some true) (
 cond (((List.length a0.2.2.2.2.2.2.1 : Int)) != ((List.length a0.2.2.2.1 : Int))) (
 some true) (
 bindO (spec_SteeringOk a0.2.2.2.2.2.2.2.2.1 ((List.length a0.2.2.2.1 : Int))) fun r6 =>
 some (!r6)))))))))) fun q7 =>
 cond q7 (
 some false) (
 iterL (spec_HostOk_T5
   (fun y15 =>
 iterL (spec_HostOk_T11
   (fun y18 =>
 some true)
   (fun y19 y20 =>
 some y19) false ([a0.2.2.2.2.2.2.2.2.2.2.2.2.2.2.1, a0.2.2.2.2.2.2.2.2.2.2.2.2.2.2.2.1, a0.2.2.2.2.2.2.2.2.2.2.2.2.2.2.2.2.1, a0.2.2.2.2.2.2.2.2.2.2.2.2.2.2.2.2.2.1, a0.2.2.2.2.2.2.2.2.2.2.2.2.2.2.2.2.2.2])) fuel 0)
   (fun y21 y22 =>
 some y21) false ((List.length a0.2.2.2.1 : Int)) a0) fuel 0)
def spec_l39Ints_T4 {R : Type} (k0 : Int → Option R) (k1 : Bool → Int → Option R) (v0 : List Int) (v1 : List Int) (v4 : Bool) (nx : Int → Option R) (x : Int) : Option R :=
 cond (decide (x < ((List.length v0 : Int)))) (
 bindO (idx v0 x) fun x1 =>
 bindO (idx v1 x) fun x2 =>
 cond (x1 != x2) (
 k1 false x) (
 nx (IntKind.wrap .i64 (x + 1)))) (
 k0 x)
def spec_l39Ints (a0 : List Int) (a1 : List Int) : Option (Bool) :=
 cond (((List.length a0 : Int)) != ((List.length a1 : Int))) (
 some false) (
 iterL (spec_l39Ints_T4
   (fun y3 =>
 some true)
   (fun y4 y5 =>
 some y4) a0 a1 false) fuel 0)
def spec_l42SameFilter (a0 : Filter) (a1 : Filter) : Option (Bool) :=
 bindO (
 cond (a0.1 == a1.1) (
 cond (a0.2.1 == a1.2.1) (
 bindO (spec_l39Ints a0.2.2 a1.2.2) fun r1 =>
 some r1) (
 some false)) (
 some false)) fun q2 =>
 some q2
def spec_CardOk_T6 {R : Type} (k0 : Int → Option R) (k1 : Bool → Int → Option R) (v2 : Bool) (v5 : Int) (b1 : Card) (nx : Int → Option R) (x : Int) : Option R :=
 cond (decide (x < v5)) (
 bindO (
 bindO (idx b1.1 x) fun x6 =>
 bindO (spec_HostOk x6) fun r7 =>
 cond (!r7) (
 some true) (
 bindO (idx b1.1 x) fun x8 =>
 bindO (idx b1.2.2.1 x) fun x9 =>
 bindO (spec_l42SameFilter x8.2.2.2.2.2.2.2.1 x9.1) fun r10 =>
 cond (!r10) (
 some true) (
 bindO (idx b1.2.1 x) fun x11 =>
 cond (x11.1 != x) (
 some true) (
 bindO (idx b1.2.1 x) fun x12 =>
 some (x12.2.1 != (IntKind.wrap .i64 (x + 1))))))) fun q13 =>
 cond q13 (
 k1 false x) (
 nx (IntKind.wrap .i64 (x + 1)))) (
 k0 x)
def spec_CardOk (a0 : Card) : Option (Bool) :=
 bindO (spec_PortsOf a0.2.2.1) fun r1 =>
 bindO (
 cond (!r1.2) (
 some true) (
 cond (((List.length a0.1 : Int)) != ((List.length a0.2.2.1 : Int))) (
 some true) (
 cond (((List.length a0.2.1 : Int)) != ((List.length a0.2.2.1 : Int))) (
 some true) (
 bindO (spec_FunctionsOk a0.2.1 r1.1) fun r2 =>
 cond (!r2) (
 some true) (
 bindO (spec_BootBank a0.2.2.2.1) fun r3 =>
 cond (decide (r3 < 0)) (
 some true) (
 bindO (spec_ClockOk a0.2.2.2.2.1) fun r4 =>
 some (!r4))))))) fun q5 =>
 cond q5 (
 some false) (
 iterL (spec_CardOk_T6
   (fun y14 =>
 some true)
   (fun y15 y16 =>
 some y15) false ((List.length a0.2.2.1 : Int)) a0) fuel 0)
def spec_AddVlan_T3 {R : Type} (k0 : Int → Option R) (v1 : Int) (b2 : Filter) (b4 : Filter) (b6 : Filter) (nx : Int → Option R) (x : Int) : Option R :=
 bindO (
 cond (decide (x < ((List.length b2.2.2 : Int)))) (
 bindO (idx b2.2.2 x) fun x2 =>
 some (decide (x2 < v1))) (
 some false)) fun q3 =>
 cond q3 (
 nx (IntKind.wrap .i64 (x + 1))) (
 k0 x)
def spec_AddVlan (a0 : Filter) (a1 : Int) : Option (Filter × Bool) :=
 bindO (spec_l24Copy a0) fun r1 =>
 iterL (spec_AddVlan_T3
   (fun y4 =>
 bindO (sub a0.2.2 0 y4) fun x5 =>
 room (List.length ([] : List Int) + List.length x5) (
 room (List.length (([] : List Int) ++ x5) + List.length ([a1])) (
 bindO (sub a0.2.2 y4 ((List.length a0.2.2 : Int))) fun x6 =>
 room (List.length ((([] : List Int) ++ x5) ++ ([a1])) + List.length x6) (
 bindO (
 bindO (spec_FilterOk a0) fun r7 =>
 cond (!r7) (
 some true) (
 bindO (spec_FilterOk (r1.1, r1.2.1, ((([] : List Int) ++ x5) ++ ([a1])) ++ x6)) fun r8 =>
 some (!r8))) fun q9 =>
 cond q9 (
 bindO (spec_l24Copy a0) fun r10 =>
 some (r10, false)) (
 some ((r1.1, r1.2.1, ((([] : List Int) ++ x5) ++ ([a1])) ++ x6), true)))))) a1 a0 (0, false, ([] : List Int)) r1) fuel 0
def spec_DropVlan_T6 {R : Type} (k0 : Int → Filter → Option R) (v1 : Int) (b2 : Filter) (b4 : Filter) (nx : (Int × Filter) → Option R) (x : Int × Filter) : Option R :=
 cond (decide (x.1 < ((List.length b2.2.2 : Int)))) (
 bindO (idx b2.2.2 x.1) fun x5 =>
 cond (x5 != v1) (
 bindO (idx b2.2.2 x.1) fun x6 =>
 room (List.length x.2.2.2 + List.length ([x6])) (
 nx (IntKind.wrap .i64 (x.1 + 1), x.2.1, x.2.2.1, x.2.2.2 ++ ([x6])))) (
 nx (IntKind.wrap .i64 (x.1 + 1), x.2))) (
 k0 x.1 x.2)
def spec_DropVlan (a0 : Filter) (a1 : Int) : Option (Filter × Bool) :=
 bindO (spec_l24Copy a0) fun r1 =>
 bindO (
 bindO (spec_FilterOk a0) fun r2 =>
 cond (!r2) (
 some true) (
 bindO (spec_l24Has a0.2.2 a1) fun r3 =>
 some (!r3))) fun q4 =>
 cond q4 (
 some (r1, false)) (
 iterL (spec_DropVlan_T6
   (fun y7 y8 =>
 some (y8, true)) a1 a0 (0, false, ([] : List Int))) fuel (0, r1.1, r1.2.1, ([] : List Int)))
def spec_l35Perform (a0 : Filter) (a1 : Bucket) : Option (Filter × Int) :=
 bindO (spec_l24Copy a0) fun r1 =>
 cond (a1.2.1 == 1) (
 bindO (spec_FilterOk (a1.2.2, r1.2)) fun r2 =>
 cond (!r2) (
 bindO (spec_l24Copy a0) fun r3 =>
 some (r3, 0)) (
 some ((a1.2.2, r1.2), 1))) (
 cond (a1.2.1 == 2) (
 bindO (spec_AddVlan a0 a1.2.2) fun r4 =>
 cond (!r4.2) (
 bindO (spec_l24Copy a0) fun r5 =>
 some (r5, 0)) (
 some (r4.1, 1))) (
 cond (a1.2.1 == 3) (
 bindO (spec_DropVlan a0 a1.2.2) fun r6 =>
 cond (!r6.2) (
 bindO (spec_l24Copy a0) fun r7 =>
 some (r7, 0)) (
 some (r6.1, 1))) (
 cond (a1.2.1 == 4) (
 some (r1, a0.1)) (
 bindO (spec_l24Copy a0) fun r8 =>
 some (r8, 0)))))
def spec_HandleMessage (a0 : Mailbox) (a1 : Bucket) : Option (Mailbox × Int) :=
 bindO (spec_l35Copy a0) fun r1 =>
 bindO (spec_MailboxOk a0) fun r2 =>
 cond (!r2) (
 some (r1, (-1))) (
 cond (a1.1 == a0.2.1) (
 some (r1, a0.2.2.1)) (
 bindO (
 cond (decide (a1.1 ≤ a0.2.1)) (
 some true) (
 some ((IntKind.wrap .i64 (a1.1 - 1)) != a0.2.1))) fun q3 =>
 cond q3 (
 some (r1, (-1))) (
 bindO (spec_l35Perform a0.1 a1) fun r4 =>
 some ((r4.1, a1.1, r4.2, IntKind.wrap .i64 (r1.2.2.2 + 1)), r4.2))))
def spec_l42Command_T3 {R : Type} (k0 : (List Mailbox) → Int → Option R) (v0 : List Mailbox) (v1 : Int) (b5 : Bucket) (nx : ((List Mailbox) × Int) → Option R) (x : (List Mailbox) × Int) : Option R :=
 cond (decide (x.2 < ((List.length v0 : Int)))) (
 bindO (idx v0 x.2) fun x1 =>
 bindO (spec_l35Copy x1) fun r2 =>
 room (List.length x.1 + List.length ([r2])) (
 nx (x.1 ++ ([r2]), IntKind.wrap .i64 (x.2 + 1)))) (
 k0 x.1 x.2)
def spec_l42Command (a0 : List Mailbox) (a1 : Int) (a2 : Bucket) : Option ((List Mailbox) × Int) :=
 iterL (spec_l42Command_T3
   (fun y3 y4 =>
 bindO (idx a0 a1) fun x5 =>
 bindO (spec_HandleMessage x5 a2) fun r6 =>
 bindO (idx y3 a1) fun x7 =>
 bindO (idx y3 a1) fun x8 =>
 bindO (spec_PortsOf (List.set y3 (Int.toNat a1) r6.1)) fun r9 =>
 cond r9.2 (
 some (List.set y3 (Int.toNat a1) r6.1, r6.2)) (
 bindO (idx a0 a1) fun x10 =>
 bindO (spec_l35Copy x10) fun r11 =>
 bindO (idx (List.set y3 (Int.toNat a1) r6.1) a1) fun x12 =>
 bindO (some (List.set y3 (Int.toNat a1) r6.1)) fun x13 =>
 bindO (idx x13 a1) fun x14 =>
 bindO (idx (List.set x13 (Int.toNat a1) r11) a1) fun x15 =>
 bindO (some (List.set x13 (Int.toNat a1) r11)) fun x16 =>
 bindO (idx x16 a1) fun x17 =>
 bindO (idx (List.set x16 (Int.toNat a1) (x17.1, a2.1, x17.2.2)) a1) fun x18 =>
 bindO (some (List.set x16 (Int.toNat a1) (x17.1, a2.1, x17.2.2))) fun x19 =>
 bindO (idx x19 a1) fun x20 =>
 bindO (idx (List.set x19 (Int.toNat a1) (x20.1, x20.2.1, 0, x20.2.2.2)) a1) fun x21 =>
 bindO (idx (List.set x19 (Int.toNat a1) (x20.1, x20.2.1, 0, x20.2.2.2)) a1) fun x22 =>
 bindO (some (List.set x19 (Int.toNat a1) (x20.1, x20.2.1, 0, x20.2.2.2))) fun x23 =>
 bindO (idx x23 a1) fun x24 =>
 some (List.set x23 (Int.toNat a1) (x24.1, x24.2.1, x24.2.2.1, IntKind.wrap .i64 (x21.2.2.2 + 1)), 0))) a0 a1 a2) fuel (([] : List Mailbox), 0)
def spec_CardCommandTo (a0 : Card) (a1 : Int) (a2 : Bucket) : Option (Card × Int) :=
 bindO (spec_l42Copy a0) fun r1 =>
 bindO (
 bindO (spec_CardOk a0) fun r2 =>
 cond (!r2) (
 some true) (
 cond (decide (a1 < 0)) (
 some true) (
 some (decide (a1 ≥ ((List.length a0.2.2.1 : Int))))))) fun q3 =>
 cond q3 (
 some (r1, (-1))) (
 bindO (spec_l42Command a0.2.2.1 a1 a2) fun r4 =>
 bindO (idx r4.1 a1) fun x5 =>
 bindO (spec_l24Copy x5.1) fun r6 =>
 bindO (idx r1.1 a1) fun x7 =>
 bindO (idx r1.1 a1) fun x8 =>
 some ((List.set r1.1 (Int.toNat a1) (x8.1, x8.2.1, x8.2.2.1, x8.2.2.2.1, x8.2.2.2.2.1, x8.2.2.2.2.2.1, x8.2.2.2.2.2.2.1, r6, x8.2.2.2.2.2.2.2.2), r1.2.1, r4.1, r1.2.2.2), r4.2))
def laws_toIntS_T3 {R : Type} (k0 : (List Int) → Int → Option R) (v0 : List Int) (nx : ((List Int) × Int) → Option R) (x : (List Int) × Int) : Option R :=
 cond (decide (x.2 < ((List.length v0 : Int)))) (
 bindO (idx v0 x.2) fun x1 =>
 bindO (idx x.1 x.2) fun x2 =>
 bindO (idx x.1 x.2) fun x3 =>
 nx (List.set x.1 (Int.toNat x.2) x1, IntKind.wrap .i64 (x.2 + 1))) (
 k0 x.1 x.2)
def laws_toIntS (a0 : List Int) : Option (List Int) :=
 if (0 : Int) ≤ ((List.length a0 : Int)) ∧ ((List.length a0 : Int)) ≤ ((List.length a0 : Int)) then (
 room (Int.toNat ((List.length a0 : Int))) (
 iterL (laws_toIntS_T3
   (fun y4 y5 =>
 some y4) a0) fuel (List.replicate (Int.toNat ((List.length a0 : Int))) (0 : Int), 0))) else none
def laws_toStringS_T3 {R : Type} (k0 : (List Bytes) → Int → Option R) (v0 : List Bytes) (nx : ((List Bytes) × Int) → Option R) (x : (List Bytes) × Int) : Option R :=
 cond (decide (x.2 < ((List.length v0 : Int)))) (
 bindO (idx v0 x.2) fun x1 =>
 bindO (idx x.1 x.2) fun x2 =>
 bindO (idx x.1 x.2) fun x3 =>
 nx (List.set x.1 (Int.toNat x.2) x1, IntKind.wrap .i64 (x.2 + 1))) (
 k0 x.1 x.2)
def laws_toStringS (a0 : List Bytes) : Option (List Bytes) :=
 if (0 : Int) ≤ ((List.length a0 : Int)) ∧ ((List.length a0 : Int)) ≤ ((List.length a0 : Int)) then (
 room (Int.toNat ((List.length a0 : Int))) (
 iterL (laws_toStringS_T3
   (fun y4 y5 =>
 some y4) a0) fuel (List.replicate (Int.toNat ((List.length a0 : Int))) ([] : Bytes), 0))) else none
def laws_toMemory (a0 : List Bytes) : Option (List Bytes) :=
 bindO (laws_toStringS a0) fun r1 =>
 some r1
def laws_toMapping (a0 : Mapping) : Option (Mapping) :=
 some a0
def laws_toMappingS_T3 {R : Type} (k0 : (List Mapping) → Int → Option R) (v0 : List Mapping) (nx : ((List Mapping) × Int) → Option R) (x : (List Mapping) × Int) : Option R :=
 cond (decide (x.2 < ((List.length v0 : Int)))) (
 bindO (idx v0 x.2) fun x1 =>
 bindO (laws_toMapping x1) fun r2 =>
 bindO (idx x.1 x.2) fun x3 =>
 bindO (idx x.1 x.2) fun x4 =>
 nx (List.set x.1 (Int.toNat x.2) r2, IntKind.wrap .i64 (x.2 + 1))) (
 k0 x.1 x.2)
def laws_toMappingS (a0 : List Mapping) : Option (List Mapping) :=
 if (0 : Int) ≤ ((List.length a0 : Int)) ∧ ((List.length a0 : Int)) ≤ ((List.length a0 : Int)) then (
 room (Int.toNat ((List.length a0 : Int))) (
 iterL (laws_toMappingS_T3
   (fun y5 y6 =>
 some y5) a0) fuel (List.replicate (Int.toNat ((List.length a0 : Int))) (0, 0, 0, false), 0))) else none
def laws_toRing (a0 : Clock) : Option (Clock) :=
 some a0
def laws_toPool (a0 : Pool) : Option (Pool) :=
 bindO (laws_toIntS a0.2.2.2) fun r1 =>
 some (a0.1, a0.2.1, a0.2.2.1, r1)
def laws_toSent (a0 : Sent) : Option (Sent) :=
 bindO (laws_toIntS a0.2.2) fun r1 =>
 some (a0.1, a0.2.1, r1)
def laws_toSentS_T3 {R : Type} (k0 : (List Sent) → Int → Option R) (v0 : List Sent) (nx : ((List Sent) × Int) → Option R) (x : (List Sent) × Int) : Option R :=
 cond (decide (x.2 < ((List.length v0 : Int)))) (
 bindO (idx v0 x.2) fun x1 =>
 bindO (laws_toSent x1) fun r2 =>
 bindO (idx x.1 x.2) fun x3 =>
 bindO (idx x.1 x.2) fun x4 =>
 nx (List.set x.1 (Int.toNat x.2) r2, IntKind.wrap .i64 (x.2 + 1))) (
 k0 x.1 x.2)
def laws_toSentS (a0 : List Sent) : Option (List Sent) :=
 if (0 : Int) ≤ ((List.length a0 : Int)) ∧ ((List.length a0 : Int)) ≤ ((List.length a0 : Int)) then (
 room (Int.toNat ((List.length a0 : Int))) (
 iterL (laws_toSentS_T3
   (fun y5 y6 =>
 some y5) a0) fuel (List.replicate (Int.toNat ((List.length a0 : Int))) (0, 0, ([] : List Int)), 0))) else none
def laws_toTxQueue (a0 : TxQueue) : Option (TxQueue) :=
 bindO (laws_toRing a0.1) fun r1 =>
 bindO (laws_toPool a0.2.1) fun r2 =>
 bindO (laws_toSentS a0.2.2.1) fun r3 =>
 some (r1, r2, r3, a0.2.2.2)
def laws_toCompletionQueue (a0 : Bucket) : Option (Bucket) :=
 some a0
def laws_toSegment (a0 : Segment) : Option (Segment) :=
 some a0
def laws_toPacket (a0 : Packet) : Option (Packet) :=
 bindO (laws_toSegment a0.2.2.2.2.2.2.2.2) fun r1 =>
 some (a0.1, a0.2.1, a0.2.2.1, a0.2.2.2.1, a0.2.2.2.2.1, a0.2.2.2.2.2.1, a0.2.2.2.2.2.2.1, a0.2.2.2.2.2.2.2.1, r1)
def laws_toSuper (a0 : Super) : Option (Super) :=
 bindO (laws_toPacket a0.1) fun r1 =>
 some (r1, a0.2)
def laws_toRxQueue (a0 : RxQueue) : Option (RxQueue) :=
 bindO (laws_toRing a0.1) fun r1 =>
 bindO (laws_toCompletionQueue a0.2.1) fun r2 =>
 bindO (laws_toCompletionQueue a0.2.2.1) fun r3 =>
 bindO (laws_toSuper a0.2.2.2.1) fun r4 =>
 some (r1, r2, r3, r4, a0.2.2.2.2)
def laws_toRxQueueS_T3 {R : Type} (k0 : (List RxQueue) → Int → Option R) (v0 : List RxQueue) (nx : ((List RxQueue) × Int) → Option R) (x : (List RxQueue) × Int) : Option R :=
 cond (decide (x.2 < ((List.length v0 : Int)))) (
 bindO (idx v0 x.2) fun x1 =>
 bindO (laws_toRxQueue x1) fun r2 =>
 bindO (idx x.1 x.2) fun x3 =>
 bindO (idx x.1 x.2) fun x4 =>
 nx (List.set x.1 (Int.toNat x.2) r2, IntKind.wrap .i64 (x.2 + 1))) (
 k0 x.1 x.2)
def laws_toRxQueueS (a0 : List RxQueue) : Option (List RxQueue) :=
 if (0 : Int) ≤ ((List.length a0 : Int)) ∧ ((List.length a0 : Int)) ≤ ((List.length a0 : Int)) then (
 room (Int.toNat ((List.length a0 : Int))) (
 iterL (laws_toRxQueueS_T3
   (fun y5 y6 =>
 some y5) a0) fuel (List.replicate (Int.toNat ((List.length a0 : Int))) ((0, 0, 0, 0), (0, 0, 0), (0, 0, 0), ((0, 0, 0, 0, 0, 0, 0, 0, 0, 0, 0, 0, 0, 0, 0, ([] : Bytes)), 0, 0), false, 0), 0))) else none
def laws_toPoolS_T3 {R : Type} (k0 : (List Pool) → Int → Option R) (v0 : List Pool) (nx : ((List Pool) × Int) → Option R) (x : (List Pool) × Int) : Option R :=
 cond (decide (x.2 < ((List.length v0 : Int)))) (
 bindO (idx v0 x.2) fun x1 =>
 bindO (laws_toPool x1) fun r2 =>
 bindO (idx x.1 x.2) fun x3 =>
 bindO (idx x.1 x.2) fun x4 =>
 nx (List.set x.1 (Int.toNat x.2) r2, IntKind.wrap .i64 (x.2 + 1))) (
 k0 x.1 x.2)
def laws_toPoolS (a0 : List Pool) : Option (List Pool) :=
 if (0 : Int) ≤ ((List.length a0 : Int)) ∧ ((List.length a0 : Int)) ≤ ((List.length a0 : Int)) then (
 room (Int.toNat ((List.length a0 : Int))) (
 iterL (laws_toPoolS_T3
   (fun y5 y6 =>
 some y5) a0) fuel (List.replicate (Int.toNat ((List.length a0 : Int))) (0, 0, 0, ([] : List Int)), 0))) else none
def laws_toVector (a0 : Vector) : Option (Vector) :=
 some a0
def laws_toVectorS_T3 {R : Type} (k0 : (List Vector) → Int → Option R) (v0 : List Vector) (nx : ((List Vector) × Int) → Option R) (x : (List Vector) × Int) : Option R :=
 cond (decide (x.2 < ((List.length v0 : Int)))) (
 bindO (idx v0 x.2) fun x1 =>
 bindO (laws_toVector x1) fun r2 =>
 bindO (idx x.1 x.2) fun x3 =>
 bindO (idx x.1 x.2) fun x4 =>
 nx (List.set x.1 (Int.toNat x.2) r2, IntKind.wrap .i64 (x.2 + 1))) (
 k0 x.1 x.2)
def laws_toVectorS (a0 : List Vector) : Option (List Vector) :=
 if (0 : Int) ≤ ((List.length a0 : Int)) ∧ ((List.length a0 : Int)) ≤ ((List.length a0 : Int)) then (
 room (Int.toNat ((List.length a0 : Int))) (
 iterL (laws_toVectorS_T3
   (fun y5 y6 =>
 some y5) a0) fuel (List.replicate (Int.toNat ((List.length a0 : Int))) (0, 0, 0, 0, false, false), 0))) else none
def laws_toBoolS_T3 {R : Type} (k0 : (List Bool) → Int → Option R) (v0 : List Bool) (nx : ((List Bool) × Int) → Option R) (x : (List Bool) × Int) : Option R :=
 cond (decide (x.2 < ((List.length v0 : Int)))) (
 bindO (idx v0 x.2) fun x1 =>
 bindO (idx x.1 x.2) fun x2 =>
 bindO (idx x.1 x.2) fun x3 =>
 nx (List.set x.1 (Int.toNat x.2) x1, IntKind.wrap .i64 (x.2 + 1))) (
 k0 x.1 x.2)
def laws_toBoolS (a0 : List Bool) : Option (List Bool) :=
 if (0 : Int) ≤ ((List.length a0 : Int)) ∧ ((List.length a0 : Int)) ≤ ((List.length a0 : Int)) then (
 room (Int.toNat ((List.length a0 : Int))) (
 iterL (laws_toBoolS_T3
   (fun y4 y5 =>
 some y4) a0) fuel (List.replicate (Int.toNat ((List.length a0 : Int))) false, 0))) else none
def laws_toFilter (a0 : Filter) : Option (Filter) :=
 bindO (laws_toIntS a0.2.2) fun r1 =>
 some (a0.1, a0.2.1, r1)
def laws_toRule (a0 : Rule) : Option (Rule) :=
 some a0
def laws_toRuleS_T3 {R : Type} (k0 : (List Rule) → Int → Option R) (v0 : List Rule) (nx : ((List Rule) × Int) → Option R) (x : (List Rule) × Int) : Option R :=
 cond (decide (x.2 < ((List.length v0 : Int)))) (
 bindO (idx v0 x.2) fun x1 =>
 bindO (laws_toRule x1) fun r2 =>
 bindO (idx x.1 x.2) fun x3 =>
 bindO (idx x.1 x.2) fun x4 =>
 nx (List.set x.1 (Int.toNat x.2) r2, IntKind.wrap .i64 (x.2 + 1))) (
 k0 x.1 x.2)
def laws_toRuleS (a0 : List Rule) : Option (List Rule) :=
 if (0 : Int) ≤ ((List.length a0 : Int)) ∧ ((List.length a0 : Int)) ≤ ((List.length a0 : Int)) then (
 room (Int.toNat ((List.length a0 : Int))) (
 iterL (laws_toRuleS_T3
   (fun y5 y6 =>
 some y5) a0) fuel (List.replicate (Int.toNat ((List.length a0 : Int))) (0, 0, 0, 0, 0, 0, 0, 0, 0), 0))) else none
def laws_toFlow (a0 : Flow) : Option (Flow) :=
 some a0
def laws_toSlot (a0 : Slot) : Option (Slot) :=
 bindO (laws_toFlow a0.2.1) fun r1 =>
 some (a0.1, r1, a0.2.2)
def laws_toSlotS_T3 {R : Type} (k0 : (List Slot) → Int → Option R) (v0 : List Slot) (nx : ((List Slot) × Int) → Option R) (x : (List Slot) × Int) : Option R :=
 cond (decide (x.2 < ((List.length v0 : Int)))) (
 bindO (idx v0 x.2) fun x1 =>
 bindO (laws_toSlot x1) fun r2 =>
 bindO (idx x.1 x.2) fun x3 =>
 bindO (idx x.1 x.2) fun x4 =>
 nx (List.set x.1 (Int.toNat x.2) r2, IntKind.wrap .i64 (x.2 + 1))) (
 k0 x.1 x.2)
def laws_toSlotS (a0 : List Slot) : Option (List Slot) :=
 if (0 : Int) ≤ ((List.length a0 : Int)) ∧ ((List.length a0 : Int)) ≤ ((List.length a0 : Int)) then (
 room (Int.toNat ((List.length a0 : Int))) (
 iterL (laws_toSlotS_T3
   (fun y5 y6 =>
 some y5) a0) fuel (List.replicate (Int.toNat ((List.length a0 : Int))) (0, (0, 0, 0, 0, 0), 0), 0))) else none
def laws_toFlowTable (a0 : List Slot) : Option (List Slot) :=
 bindO (laws_toSlotS a0) fun r1 =>
 some r1
def laws_toSpread (a0 : Spread) : Option (Spread) :=
 bindO (laws_toIntS a0.2) fun r1 =>
 some (a0.1, r1)
def laws_toSteering (a0 : Steering) : Option (Steering) :=
 bindO (laws_toRuleS a0.1) fun r1 =>
 bindO (laws_toFlowTable a0.2.1) fun r2 =>
 bindO (laws_toSpread a0.2.2) fun r3 =>
 some (r1, r2, r3)
def laws_toStream (a0 : Stream) : Option (Stream) :=
 bindO (laws_toFlow a0.1) fun r1 =>
 some (r1, a0.2)
def laws_toStreamS_T3 {R : Type} (k0 : (List Stream) → Int → Option R) (v0 : List Stream) (nx : ((List Stream) × Int) → Option R) (x : (List Stream) × Int) : Option R :=
 cond (decide (x.2 < ((List.length v0 : Int)))) (
 bindO (idx v0 x.2) fun x1 =>
 bindO (laws_toStream x1) fun r2 =>
 bindO (idx x.1 x.2) fun x3 =>
 bindO (idx x.1 x.2) fun x4 =>
 nx (List.set x.1 (Int.toNat x.2) r2, IntKind.wrap .i64 (x.2 + 1))) (
 k0 x.1 x.2)
def laws_toStreamS (a0 : List Stream) : Option (List Stream) :=
 if (0 : Int) ≤ ((List.length a0 : Int)) ∧ ((List.length a0 : Int)) ≤ ((List.length a0 : Int)) then (
 room (Int.toNat ((List.length a0 : Int))) (
 iterL (laws_toStreamS_T3
   (fun y5 y6 =>
 some y5) a0) fuel (List.replicate (Int.toNat ((List.length a0 : Int))) ((0, 0, 0, 0, 0), 0, ([] : Bytes), false), 0))) else none
def laws_toCounters (a0 : Flow) : Option (Flow) :=
 some a0
def laws_toHost (a0 : Host) : Option (Host) :=
 bindO (laws_toMemory a0.1) fun r1 =>
 bindO (laws_toMappingS a0.2.1) fun r2 =>
 bindO (laws_toTxQueue a0.2.2.1) fun r3 =>
 bindO (laws_toRxQueueS a0.2.2.2.1) fun r4 =>
 bindO (laws_toPoolS a0.2.2.2.2.1) fun r5 =>
 bindO (laws_toVectorS a0.2.2.2.2.2.1) fun r6 =>
 bindO (laws_toBoolS a0.2.2.2.2.2.2.1) fun r7 =>
 bindO (laws_toFilter a0.2.2.2.2.2.2.2.1) fun r8 =>
 bindO (laws_toSteering a0.2.2.2.2.2.2.2.2.1) fun r9 =>
 bindO (laws_toStreamS a0.2.2.2.2.2.2.2.2.2.1) fun r10 =>
 bindO (laws_toStringS a0.2.2.2.2.2.2.2.2.2.2.2.1) fun r11 =>
 bindO (laws_toIntS a0.2.2.2.2.2.2.2.2.2.2.2.2.1) fun r12 =>
 bindO (laws_toIntS a0.2.2.2.2.2.2.2.2.2.2.2.2.2.1) fun r13 =>
 bindO (laws_toCounters a0.2.2.2.2.2.2.2.2.2.2.2.2.2.2) fun r14 =>
 some (r1, r2, r3, r4, r5, r6, r7, r8, r9, r10, a0.2.2.2.2.2.2.2.2.2.2.1, r11, r12, r13, r14)
def laws_toHostS_T3 {R : Type} (k0 : (List Host) → Int → Option R) (v0 : List Host) (nx : ((List Host) × Int) → Option R) (x : (List Host) × Int) : Option R :=
 cond (decide (x.2 < ((List.length v0 : Int)))) (
 bindO (idx v0 x.2) fun x1 =>
 bindO (laws_toHost x1) fun r2 =>
 bindO (idx x.1 x.2) fun x3 =>
 bindO (idx x.1 x.2) fun x4 =>
 nx (List.set x.1 (Int.toNat x.2) r2, IntKind.wrap .i64 (x.2 + 1))) (
 k0 x.1 x.2)
def laws_toHostS (a0 : List Host) : Option (List Host) :=
 if (0 : Int) ≤ ((List.length a0 : Int)) ∧ ((List.length a0 : Int)) ≤ ((List.length a0 : Int)) then (
 room (Int.toNat ((List.length a0 : Int))) (
 iterL (laws_toHostS_T3
   (fun y5 y6 =>
 some y5) a0) fuel (List.replicate (Int.toNat ((List.length a0 : Int))) (([] : List Bytes), ([] : List Mapping), ((0, 0, 0, 0), (0, 0, 0, ([] : List Int)), ([] : List Sent), 0), ([] : List RxQueue), ([] : List Pool), ([] : List Vector), ([] : List Bool), (0, false, ([] : List Int)), (([] : List Rule), ([] : List Slot), ([] : Bytes), ([] : List Int)), ([] : List Stream), false, ([] : List Bytes), ([] : List Int), ([] : List Int), 0, 0, 0, 0, 0), 0))) else none
def laws_toBucket (a0 : Bucket) : Option (Bucket) :=
 some a0
def laws_toVirtualFunction (a0 : VirtualFunction) : Option (VirtualFunction) :=
 bindO (laws_toBucket a0.2.2.1) fun r1 =>
 some (a0.1, a0.2.1, r1, a0.2.2.2)
def laws_toVirtualFunctionS_T3 {R : Type} (k0 : (List VirtualFunction) → Int → Option R) (v0 : List VirtualFunction) (nx : ((List VirtualFunction) × Int) → Option R) (x : (List VirtualFunction) × Int) : Option R :=
 cond (decide (x.2 < ((List.length v0 : Int)))) (
 bindO (idx v0 x.2) fun x1 =>
 bindO (laws_toVirtualFunction x1) fun r2 =>
 bindO (idx x.1 x.2) fun x3 =>
 bindO (idx x.1 x.2) fun x4 =>
 nx (List.set x.1 (Int.toNat x.2) r2, IntKind.wrap .i64 (x.2 + 1))) (
 k0 x.1 x.2)
def laws_toVirtualFunctionS (a0 : List VirtualFunction) : Option (List VirtualFunction) :=
 if (0 : Int) ≤ ((List.length a0 : Int)) ∧ ((List.length a0 : Int)) ≤ ((List.length a0 : Int)) then (
 room (Int.toNat ((List.length a0 : Int))) (
 iterL (laws_toVirtualFunctionS_T3
   (fun y5 y6 =>
 some y5) a0) fuel (List.replicate (Int.toNat ((List.length a0 : Int))) (0, 0, (0, 0, 0), false, 0, 0), 0))) else none
def laws_toMailbox (a0 : Mailbox) : Option (Mailbox) :=
 bindO (laws_toFilter a0.1) fun r1 =>
 some (r1, a0.2)
def laws_toMailboxS_T3 {R : Type} (k0 : (List Mailbox) → Int → Option R) (v0 : List Mailbox) (nx : ((List Mailbox) × Int) → Option R) (x : (List Mailbox) × Int) : Option R :=
 cond (decide (x.2 < ((List.length v0 : Int)))) (
 bindO (idx v0 x.2) fun x1 =>
 bindO (laws_toMailbox x1) fun r2 =>
 bindO (idx x.1 x.2) fun x3 =>
 bindO (idx x.1 x.2) fun x4 =>
 nx (List.set x.1 (Int.toNat x.2) r2, IntKind.wrap .i64 (x.2 + 1))) (
 k0 x.1 x.2)
def laws_toMailboxS (a0 : List Mailbox) : Option (List Mailbox) :=
 if (0 : Int) ≤ ((List.length a0 : Int)) ∧ ((List.length a0 : Int)) ≤ ((List.length a0 : Int)) then (
 room (Int.toNat ((List.length a0 : Int))) (
 iterL (laws_toMailboxS_T3
   (fun y5 y6 =>
 some y5) a0) fuel (List.replicate (Int.toNat ((List.length a0 : Int))) ((0, false, ([] : List Int)), 0, 0, 0), 0))) else none
def laws_toFlash (a0 : List Bytes) : Option (List Bytes) :=
 bindO (laws_toStringS a0) fun r1 =>
 some r1
def laws_toClock (a0 : Clock) : Option (Clock) :=
 some a0
def laws_toCard (a0 : Card) : Option (Card) :=
 bindO (laws_toHostS a0.1) fun r1 =>
 bindO (laws_toVirtualFunctionS a0.2.1) fun r2 =>
 bindO (laws_toMailboxS a0.2.2.1) fun r3 =>
 bindO (laws_toFlash a0.2.2.2.1) fun r4 =>
 bindO (laws_toClock a0.2.2.2.2.1) fun r5 =>
 bindO (laws_toIntS a0.2.2.2.2.2.1) fun r6 =>
 bindO (laws_toStringS a0.2.2.2.2.2.2) fun r7 =>
 some (r1, r2, r3, r4, r5, r6, r7)
def laws_toMessage (a0 : Bucket) : Option (Bucket) :=
 some a0
def impl_copyFunctions (a0 : List VirtualFunction) : Option (List VirtualFunction) :=
 room (List.length ([] : List VirtualFunction) + List.length a0) (
 some (([] : List VirtualFunction) ++ a0))
def impl_copyInts (a0 : List Int) : Option (List Int) :=
 room (List.length ([] : List Int) + List.length a0) (
 some (([] : List Int) ++ a0))
def impl_copyFilter (a0 : Filter) : Option (Filter) :=
 bindO (impl_copyInts a0.2.2) fun r1 =>
 some (a0.1, a0.2.1, r1)
def impl_copyMailbox (a0 : Mailbox) : Option (Mailbox) :=
 bindO (impl_copyFilter a0.1) fun r1 =>
 some (r1, a0.2)
def impl_copyBoxes_T3 {R : Type} (k0 : (List Mailbox) → Int → Option R) (v7 : List Mailbox) (v8 : Int) (nx : ((List Mailbox) × Int) → Option R) (x : (List Mailbox) × Int) : Option R :=
 cond (decide (x.2 < v8)) (
 bindO (idx v7 x.2) fun x1 =>
 bindO (impl_copyMailbox x1) fun r2 =>
 room (List.length x.1 + List.length ([r2])) (
 nx (x.1 ++ ([r2]), IntKind.wrap .i64 (x.2 + 1)))) (
 k0 x.1 x.2)
def impl_copyBoxes (a0 : List Mailbox) : Option (List Mailbox) :=
 iterL (impl_copyBoxes_T3
   (fun y3 y4 =>
 some y3) a0 ((List.length a0 : Int))) fuel (([] : List Mailbox), 0)
def impl_copyStrings (a0 : List Bytes) : Option (List Bytes) :=
 room (List.length ([] : List Bytes) + List.length a0) (
 some (([] : List Bytes) ++ a0))
def impl_copyFlash (a0 : List Bytes) : Option (List Bytes) :=
 bindO (impl_copyStrings a0) fun r1 =>
 some r1
def impl_copyMemory (a0 : List Bytes) : Option (List Bytes) :=
 bindO (impl_copyStrings a0) fun r1 =>
 some r1
def impl_copyMappings (a0 : List Mapping) : Option (List Mapping) :=
 room (List.length ([] : List Mapping) + List.length a0) (
 some (([] : List Mapping) ++ a0))
def impl_copyPool (a0 : Pool) : Option (Pool) :=
 bindO (impl_copyInts a0.2.2.2) fun r1 =>
 some (a0.1, a0.2.1, a0.2.2.1, r1)
def impl_copySent_T3 {R : Type} (k0 : (List Sent) → Int → Option R) (v7 : List Sent) (v8 : Int) (nx : ((List Sent) × Int) → Option R) (x : (List Sent) × Int) : Option R :=
 cond (decide (x.2 < v8)) (
 bindO (idx v7 x.2) fun x1 =>
 bindO (impl_copyInts x1.2.2) fun r2 =>
 room (List.length x.1 + List.length ([(x1.1, x1.2.1, r2)])) (
 nx (x.1 ++ ([(x1.1, x1.2.1, r2)]), IntKind.wrap .i64 (x.2 + 1)))) (
 k0 x.1 x.2)
def impl_copySent (a0 : List Sent) : Option (List Sent) :=
 iterL (impl_copySent_T3
   (fun y3 y4 =>
 some y3) a0 ((List.length a0 : Int))) fuel (([] : List Sent), 0)
def impl_copyTx (a0 : TxQueue) : Option (TxQueue) :=
 bindO (impl_copyPool a0.2.1) fun r1 =>
 bindO (impl_copySent a0.2.2.1) fun r2 =>
 some (a0.1, r1, r2, a0.2.2.2)
def impl_copyTable (a0 : List Slot) : Option (List Slot) :=
 room (List.length ([] : List Slot) + List.length a0) (
 some (([] : List Slot) ++ a0))
def impl_copySpread (a0 : Spread) : Option (Spread) :=
 bindO (impl_copyInts a0.2) fun r1 =>
 some (a0.1, r1)
def impl_copySteering (a0 : Steering) : Option (Steering) :=
 room (List.length ([] : List Rule) + List.length a0.1) (
 bindO (impl_copyTable a0.2.1) fun r1 =>
 bindO (impl_copySpread a0.2.2) fun r2 =>
 some (([] : List Rule) ++ a0.1, r1, r2))
def impl_copyStreams (a0 : List Stream) : Option (List Stream) :=
 room (List.length ([] : List Stream) + List.length a0) (
 some (([] : List Stream) ++ a0))
def impl_copyHost_T8 {R : Type} (k0 : Int → Host → Option R) (v27 : List Pool) (v28 : Int) (b1 : Host) (b2 : Host) (nx : (Int × Host) → Option R) (x : Int × Host) : Option R :=
 cond (decide (x.1 < v28)) (
 bindO (idx v27 x.1) fun x4 =>
 bindO (impl_copyPool x4) fun r5 =>
 room (List.length x.2.2.2.2.2.1 + List.length ([r5])) (
 nx (IntKind.wrap .i64 (x.1 + 1), x.2.1, x.2.2.1, x.2.2.2.1, x.2.2.2.2.1, x.2.2.2.2.2.1 ++ ([r5]), x.2.2.2.2.2.2))) (
 k0 x.1 x.2)
def impl_copyHost (a0 : Host) : Option (Host) :=
 bindO (impl_copyMemory a0.1) fun r1 =>
 bindO (impl_copyMappings a0.2.1) fun r2 =>
 bindO (impl_copyTx a0.2.2.1) fun r3 =>
 room (List.length ([] : List RxQueue) + List.length a0.2.2.2.1) (
 iterL (impl_copyHost_T8
   (fun y6 y7 =>
 room (List.length ([] : List Vector) + List.length a0.2.2.2.2.2.1) (
 room (List.length ([] : List Bool) + List.length a0.2.2.2.2.2.2.1) (
 bindO (impl_copyFilter a0.2.2.2.2.2.2.2.1) fun r8 =>
 bindO (impl_copySteering a0.2.2.2.2.2.2.2.2.1) fun r9 =>
 bindO (impl_copyStreams a0.2.2.2.2.2.2.2.2.2.1) fun r10 =>
 bindO (impl_copyStrings a0.2.2.2.2.2.2.2.2.2.2.2.1) fun r11 =>
 bindO (impl_copyInts a0.2.2.2.2.2.2.2.2.2.2.2.2.1) fun r12 =>
 bindO (impl_copyInts a0.2.2.2.2.2.2.2.2.2.2.2.2.2.1) fun r13 =>
 some (y7.1, y7.2.1, y7.2.2.1, y7.2.2.2.1, y7.2.2.2.2.1, ([] : List Vector) ++ a0.2.2.2.2.2.1, ([] : List Bool) ++ a0.2.2.2.2.2.2.1, r8, r9, r10, y7.2.2.2.2.2.2.2.2.2.2.1, r11, r12, r13, y7.2.2.2.2.2.2.2.2.2.2.2.2.2.2)))) a0.2.2.2.2.1 ((List.length a0.2.2.2.2.1 : Int)) a0 (([] : List Bytes), ([] : List Mapping), ((0, 0, 0, 0), (0, 0, 0, ([] : List Int)), ([] : List Sent), 0), ([] : List RxQueue), ([] : List Pool), ([] : List Vector), ([] : List Bool), (0, false, ([] : List Int)), (([] : List Rule), ([] : List Slot), ([] : Bytes), ([] : List Int)), ([] : List Stream), false, ([] : List Bytes), ([] : List Int), ([] : List Int), 0, 0, 0, 0, 0)) fuel (0, r1, r2, r3, ([] : List RxQueue) ++ a0.2.2.2.1, ([] : List Pool), a0.2.2.2.2.2))
def impl_copyCard_T3 {R : Type} (k0 : Int → Card → Option R) (v25 : List Host) (v26 : Int) (b2 : Card) (nx : (Int × Card) → Option R) (x : Int × Card) : Option R :=
 cond (decide (x.1 < v26)) (
 bindO (idx v25 x.1) fun x6 =>
 bindO (impl_copyHost x6) fun r7 =>
 room (List.length x.2.1 + List.length ([r7])) (
 nx (IntKind.wrap .i64 (x.1 + 1), x.2.1 ++ ([r7]), x.2.2))) (
 k0 x.1 x.2)
def impl_copyCard (a0 : Card) : Option (Card) :=
 bindO (impl_copyFunctions a0.2.1) fun r1 =>
 bindO (impl_copyBoxes a0.2.2.1) fun r2 =>
 bindO (impl_copyFlash a0.2.2.2.1) fun r3 =>
 bindO (impl_copyInts a0.2.2.2.2.2.1) fun r4 =>
 bindO (impl_copyStrings a0.2.2.2.2.2.2) fun r5 =>
 iterL (impl_copyCard_T3
   (fun y8 y9 =>
 some y9) a0.1 ((List.length a0.1 : Int)) (([] : List Host), ([] : List VirtualFunction), ([] : List Mailbox), ([] : List Bytes), (0, 0, 0, 0), ([] : List Int), ([] : List Bytes))) fuel (0, ([] : List Host), r1, r2, r3, a0.2.2.2.2.1, r4, r5)
def impl_between (a0 : Int) (a1 : Int) (a2 : Int) : Option (Bool) :=
 bindO (
 cond (decide (a0 ≥ a1)) (
 some (decide (a0 ≤ a2))) (
 some false)) fun q1 =>
 some q1
def impl_FilterOk_T2 {R : Type} (k0 : Int → Option R) (k1 : Bool → Int → Option R) (v2 : Bool) (v6 : List Int) (v7 : Int) (b1 : Filter) (nx : Int → Option R) (x : Int) : Option R :=
 cond (decide (x < v7)) (
 bindO (idx v6 x) fun x1 =>
 bindO (
 bindO (impl_between x1 0 4095) fun r2 =>
 cond (!r2) (
 some true) (
 cond (decide (x > 0)) (
 bindO (idx b1.2.2 (IntKind.wrap .i64 (x - 1))) fun x3 =>
 some (decide (x3 ≥ x1))) (
 some false))) fun q4 =>
 cond q4 (
 k1 false x) (
 nx (IntKind.wrap .i64 (x + 1)))) (
 k0 x)
def impl_FilterOk (a0 : Filter) : Option (Bool) :=
 iterL (impl_FilterOk_T2
   (fun y5 =>
 bindO (
 bindO (impl_between a0.1 0 281474976710654) fun r6 =>
 cond r6 (
 some (decide (((List.length a0.2.2 : Int)) ≤ 8))) (
 some false)) fun q7 =>
 some q7)
   (fun y8 y9 =>
 some y8) false a0.2.2 ((List.length a0.2.2 : Int)) a0) fuel 0
def impl_MailboxOk (a0 : Mailbox) : Option (Bool) :=
 bindO (
 bindO (impl_FilterOk a0.1) fun r1 =>
 cond r1 (
 bindO (impl_between a0.2.1 0 1000000000000) fun r2 =>
 cond r2 (
 bindO (impl_between a0.2.2.2 0 1000000000000) fun r3 =>
 some r3) (
 some false)) (
 some false)) fun q4 =>
 some q4
def impl_hasInt_T2 {R : Type} (k0 : Int → Option R) (k1 : Bool → Int → Option R) (v1 : Int) (v4 : Bool) (v7 : List Int) (v8 : Int) (nx : Int → Option R) (x : Int) : Option R :=
 cond (decide (x < v8)) (
 bindO (idx v7 x) fun x1 =>
 cond (x1 == v1) (
 k1 true x) (
 nx (IntKind.wrap .i64 (x + 1)))) (
 k0 x)
def impl_hasInt (a0 : List Int) (a1 : Int) : Option (Bool) :=
 iterL (impl_hasInt_T2
   (fun y2 =>
 some false)
   (fun y3 y4 =>
 some y3) a1 false a0 ((List.length a0 : Int))) fuel 0
def impl_addOrdered_T4 {R : Type} (k0 : (List Int) → Bool → Int → Option R) (v1 : Int) (v10 : List Int) (v11 : Int) (nx : ((List Int) × Bool × Int) → Option R) (x : (List Int) × Bool × Int) : Option R :=
 cond (decide (x.2.2 < v11)) (
 bindO (idx v10 x.2.2) fun x1 =>
 bindO (
 cond (!x.2.1) (
 some (decide (v1 < x1))) (
 some false)) fun q2 =>
 cond q2 (
 room (List.length x.1 + List.length ([v1])) (
 room (List.length (x.1 ++ ([v1])) + List.length ([x1])) (
 nx ((x.1 ++ ([v1])) ++ ([x1]), true, IntKind.wrap .i64 (x.2.2 + 1))))) (
 room (List.length x.1 + List.length ([x1])) (
 nx (x.1 ++ ([x1]), x.2.1, IntKind.wrap .i64 (x.2.2 + 1))))) (
 k0 x.1 x.2.1 x.2.2)
def impl_addOrdered (a0 : List Int) (a1 : Int) : Option (List Int) :=
 iterL (impl_addOrdered_T4
   (fun y3 y4 y5 =>
 cond (!y4) (
 room (List.length y3 + List.length ([a1])) (
 some (y3 ++ ([a1])))) (
 some y3)) a1 a0 ((List.length a0 : Int))) fuel (([] : List Int), false, 0)
def impl_filterOf (a0 : Port) : Option (Filter) :=
 some (a0.1, false, a0.2.1)
def impl_portWith_T2 {R : Type} (k0 : Int → Option R) (k1 : Int → Int → Option R) (v1 : Int) (v4 : Int) (v7 : List Port) (v8 : Int) (nx : Int → Option R) (x : Int) : Option R :=
 cond (decide (x < v8)) (
 bindO (idx v7 x) fun x1 =>
 bindO (
 cond (x != 0) (
 some (x1.1 == v1)) (
 some false)) fun q2 =>
 cond q2 (
 k1 x x) (
 nx (IntKind.wrap .i64 (x + 1)))) (
 k0 x)
def impl_portWith (a0 : List Port) (a1 : Int) : Option (Int) :=
 iterL (impl_portWith_T2
   (fun y3 =>
 some (-1))
   (fun y4 y5 =>
 some y4) a1 0 a0 ((List.length a0 : Int))) fuel 0
def impl_PortsOk_T4 {R : Type} (k0 : Int → Option R) (k1 : Bool → Int → Option R) (v0 : List Port) (v2 : Bool) (v9 : List Port) (v10 : Int) (nx : Int → Option R) (x : Int) : Option R :=
 cond (decide (x < v10)) (
 bindO (idx v9 x) fun x2 =>
 bindO (
 bindO (impl_filterOf x2) fun r3 =>
 bindO (impl_FilterOk r3) fun r4 =>
 cond (!r4) (
 some true) (
 bindO (impl_hasInt x2.2.1 x2.2.2.1) fun r5 =>
 some (!r5))) fun q6 =>
 cond q6 (
 k1 false x) (
 bindO (
 cond (x != 0) (
 bindO (impl_portWith v0 x2.1) fun r7 =>
 some (r7 != x)) (
 some false)) fun q8 =>
 cond q8 (
 k1 false x) (
 nx (IntKind.wrap .i64 (x + 1))))) (
 k0 x)
def impl_PortsOk (a0 : List Port) : Option (Bool) :=
 bindO (impl_between ((List.length a0 : Int)) 1 8) fun r1 =>
 cond (!r1) (
 some false) (
 iterL (impl_PortsOk_T4
   (fun y9 =>
 some true)
   (fun y10 y11 =>
 some y10) a0 false a0 ((List.length a0 : Int))) fuel 0)
def impl_PortsOf_T12 {R : Type} (k0 : (List Int) → (List Int) → Int → Option R) (v2 : List Port) (v3 : Bool) (v4 : List Port) (v18 : List Mailbox) (v19 : Int) (v20 : Int) (v32 : List Int) (v33 : Int) (b7 : Mailbox) (nx : ((List Int) × (List Int) × Int) → Option R) (x : (List Int) × (List Int) × Int) : Option R :=
 cond (decide (x.2.2 < v33)) (
 bindO (idx v32 x.2.2) fun x4 =>
 bindO (impl_hasInt x.2.1 x4) fun r5 =>
 cond (!r5) (
 bindO (impl_addOrdered x.2.1 x4) fun r6 =>
 bindO (impl_hasInt x.1 x4) fun r7 =>
 cond (!r7) (
 bindO (impl_addOrdered x.1 x4) fun r8 =>
 nx (r8, r6, IntKind.wrap .i64 (x.2.2 + 1))) (
 nx (x.1, r6, IntKind.wrap .i64 (x.2.2 + 1)))) (
 bindO (impl_hasInt x.1 x4) fun r9 =>
 cond (!r9) (
 bindO (impl_addOrdered x.1 x4) fun r10 =>
 nx (r10, x.2.1, IntKind.wrap .i64 (x.2.2 + 1))) (
 nx (x.1, x.2.1, IntKind.wrap .i64 (x.2.2 + 1))))) (
 k0 x.1 x.2.1 x.2.2)
def impl_PortsOf_T6 {R : Type} (k0 : (List Port) → (List Int) → Int → Option R) (k1 : (List Port) → Bool → (List Port) → (List Int) → Int → Option R) (v2 : List Port) (v3 : Bool) (v18 : List Mailbox) (v19 : Int) (nx : ((List Port) × (List Int) × Int) → Option R) (x : (List Port) × (List Int) × Int) : Option R :=
 cond (decide (x.2.2 < v19)) (
 bindO (idx v18 x.2.2) fun x2 =>
 bindO (impl_MailboxOk x2) fun r3 =>
 cond (!r3) (
 k1 ([] : List Port) false x.1 x.2.1 x.2.2) (
 room (List.length ([0]) + List.length x2.1.2.2) (
 iterL (impl_PortsOf_T12
   (fun y11 y12 y13 =>
 room (List.length x.1 + List.length ([(x2.1.1, y12, 0, true)])) (
 nx (x.1 ++ ([(x2.1.1, y12, 0, true)]), y11, IntKind.wrap .i64 (x.2.2 + 1)))) v2 v3 x.1 v18 v19 x.2.2 (([0]) ++ x2.1.2.2) ((List.length (([0]) ++ x2.1.2.2) : Int)) x2) fuel (x.2.1, ([] : List Int), 0)))) (
 k0 x.1 x.2.1 x.2.2)
def impl_PortsOf (a0 : List Mailbox) : Option ((List Port) × Bool) :=
 bindO (impl_between ((List.length a0 : Int)) 1 3) fun r1 =>
 cond (!r1) (
 some (([] : List Port), false)) (
 iterL (impl_PortsOf_T6
   (fun y14 y15 y16 =>
 bindO (idx y14 0) fun x17 =>
 bindO (idx y14 0) fun x18 =>
 bindO (impl_PortsOk (List.set y14 (Int.toNat 0) (x18.1, y15, x18.2.2))) fun r19 =>
 cond (!r19) (
 some (([] : List Port), false)) (
 some (List.set y14 (Int.toNat 0) (x18.1, y15, x18.2.2), true)))
   (fun y20 y21 y22 y23 y24 =>
 some (y20, y21)) ([] : List Port) false a0 ((List.length a0 : Int))) fuel ([(0, ([] : List Int), 0, false)], ([] : List Int), 0))
def impl_MemoryOk_T2 {R : Type} (k0 : Int → Option R) (k1 : Bool → Int → Option R) (v2 : Bool) (v6 : List Bytes) (v7 : Int) (b1 : List Bytes) (nx : Int → Option R) (x : Int) : Option R :=
 cond (decide (x < v7)) (
 bindO (idx v6 x) fun x1 =>
 cond (((List.length x1 : Int)) != 128) (
 k1 false x) (
 nx (IntKind.wrap .i64 (x + 1)))) (
 k0 x)
def impl_MemoryOk (a0 : List Bytes) : Option (Bool) :=
 iterL (impl_MemoryOk_T2
   (fun y2 =>
 some (decide (((List.length a0 : Int)) ≤ 64)))
   (fun y3 y4 =>
 some y3) false a0 ((List.length a0 : Int)) a0) fuel 0
def impl_pageMapping_T2 {R : Type} (k0 : Int → Option R) (k1 : Int → Int → Option R) (v1 : Int) (v2 : Int) (v6 : Int) (v9 : List Mapping) (v10 : Int) (nx : Int → Option R) (x : Int) : Option R :=
 cond (decide (x < v10)) (
 bindO (idx v9 x) fun x1 =>
 bindO (
 cond (x1.1 == v1) (
 some (x1.2.1 == v2)) (
 some false)) fun q2 =>
 cond q2 (
 k1 x x) (
 nx (IntKind.wrap .i64 (x + 1)))) (
 k0 x)
def impl_pageMapping (a0 : List Mapping) (a1 : Int) (a2 : Int) : Option (Int) :=
 iterL (impl_pageMapping_T2
   (fun y3 =>
 some (-1))
   (fun y4 y5 =>
 some y4) a1 a2 0 a0 ((List.length a0 : Int))) fuel 0
def impl_MappingsOk_T2 {R : Type} (k0 : Int → Option R) (k1 : Bool → Int → Option R) (v0 : List Mapping) (v2 : Bool) (v5 : List Mapping) (v6 : Int) (nx : Int → Option R) (x : Int) : Option R :=
 cond (decide (x < v6)) (
 bindO (idx v5 x) fun x1 =>
 bindO (
 bindO (impl_between x1.1 0 7) fun r2 =>
 cond (!r2) (
 some true) (
 bindO (impl_between x1.2.1 0 1023) fun r3 =>
 cond (!r3) (
 some true) (
 bindO (impl_between x1.2.2.1 0 63) fun r4 =>
 cond (!r4) (
 some true) (
 bindO (impl_pageMapping v0 x1.1 x1.2.1) fun r5 =>
 some (r5 != x))))) fun q6 =>
 cond q6 (
 k1 false x) (
 nx (IntKind.wrap .i64 (x + 1)))) (
 k0 x)
def impl_MappingsOk (a0 : List Mapping) : Option (Bool) :=
 iterL (impl_MappingsOk_T2
   (fun y7 =>
 some (decide (((List.length a0 : Int)) ≤ 96)))
   (fun y8 y9 =>
 some y8) a0 false a0 ((List.length a0 : Int))) fuel 0
def impl_PoolOk_T5 {R : Type} (k0 : (List Bool) → Int → Option R) (k1 : Bool → (List Bool) → Int → Option R) (v2 : Bool) (v26 : List Int) (v27 : Int) (b1 : Pool) (nx : ((List Bool) × Int) → Option R) (x : (List Bool) × Int) : Option R :=
 cond (decide (x.2 < v27)) (
 bindO (idx v26 x.2) fun x5 =>
 bindO (
 bindO (impl_between x5 0 (IntKind.wrap .i64 (b1.2.2.1 - 1))) fun r6 =>
 cond (!r6) (
 some true) (
 bindO (idx x.1 x5) fun x7 =>
 some x7)) fun q8 =>
 cond q8 (
 k1 false x.1 x.2) (
 bindO (idx x.1 x5) fun x9 =>
 bindO (idx x.1 x5) fun x10 =>
 nx (List.set x.1 (Int.toNat x5) true, IntKind.wrap .i64 (x.2 + 1)))) (
 k0 x.1 x.2)
def impl_PoolOk (a0 : Pool) : Option (Bool) :=
 bindO (
 bindO (impl_between a0.1 0 130944) fun r1 =>
 cond (!r1) (
 some true) (
 bindO (impl_between a0.2.1 1 512) fun r2 =>
 cond (!r2) (
 some true) (
 bindO (impl_between a0.2.2.1 0 16) fun r3 =>
 some (!r3)))) fun q4 =>
 cond q4 (
 some false) (
 if (0 : Int) ≤ a0.2.2.1 ∧ a0.2.2.1 ≤ a0.2.2.1 then (
 room (Int.toNat a0.2.2.1) (
 iterL (impl_PoolOk_T5
   (fun y11 y12 =>
 some true)
   (fun y13 y14 y15 =>
 some y13) false a0.2.2.2 ((List.length a0.2.2.2 : Int)) a0) fuel (List.replicate (Int.toNat a0.2.2.1) false, 0))) else none)
def impl_ringSize (a0 : Int) : Option (Bool) :=
 bindO (
 cond (a0 == 2) (
 some true) (
 cond (a0 == 4) (
 some true) (
 cond (a0 == 8) (
 some true) (
 some (a0 == 16))))) fun q1 =>
 some q1
def impl_modulo (a0 : Int) (a1 : Int) : Option (Int) :=
 if a1 = 0 then none else (
 cond (decide ((Int.tmod a0 a1) < 0)) (
 some (IntKind.wrap .i64 ((Int.tmod a0 a1) + a1))) (
 some (Int.tmod a0 a1)))
def impl_RingUsed (a0 : Clock) : Option (Int) :=
 bindO (impl_ringSize a0.2.1) fun r1 =>
 cond (!r1) (
 some 0) (
 bindO (impl_modulo a0.2.2.2 (IntKind.wrap .i64 (2 * a0.2.1))) fun r2 =>
 bindO (impl_modulo a0.2.2.1 (IntKind.wrap .i64 (2 * a0.2.1))) fun r3 =>
 bindO (impl_modulo (IntKind.wrap .i64 (r2 - r3)) (IntKind.wrap .i64 (2 * a0.2.1))) fun r4 =>
 some r4)
def impl_RingOk (a0 : Clock) : Option (Bool) :=
 bindO (
 bindO (impl_between a0.1 0 130944) fun r1 =>
 cond r1 (
 bindO (impl_ringSize a0.2.1) fun r2 =>
 cond r2 (
 bindO (impl_between a0.2.2.1 0 (IntKind.wrap .i64 ((IntKind.wrap .i64 (2 * a0.2.1)) - 1))) fun r3 =>
 cond r3 (
 bindO (impl_between a0.2.2.2 0 (IntKind.wrap .i64 ((IntKind.wrap .i64 (2 * a0.2.1)) - 1))) fun r4 =>
 cond r4 (
 bindO (impl_RingUsed a0) fun r5 =>
 some (decide (r5 ≤ a0.2.1))) (
 some false)) (
 some false)) (
 some false)) (
 some false)) fun q6 =>
 some q6
def impl_GiveBuffers (a0 : Pool) (a1 : List Int) : Option (Pool × Bool) :=
 bindO (impl_copyPool a0) fun r1 =>
 room (List.length r1.2.2.2 + List.length a1) (
 bindO (
 bindO (impl_PoolOk a0) fun r2 =>
 cond (!r2) (
 some true) (
 bindO (impl_PoolOk (r1.1, r1.2.1, r1.2.2.1, r1.2.2.2 ++ a1)) fun r3 =>
 some (!r3))) fun q4 =>
 cond q4 (
 bindO (impl_copyPool a0) fun r5 =>
 some (r5, false)) (
 some ((r1.1, r1.2.1, r1.2.2.1, r1.2.2.2 ++ a1), true)))
def impl_TxOk_T6 {R : Type} (k0 : Int → (List Int) → Int → Option R) (k1 : Bool → Int → (List Int) → Int → Option R) (v2 : Bool) (v30 : List Sent) (v31 : Int) (b1 : TxQueue) (nx : (Int × (List Int) × Int) → Option R) (x : Int × (List Int) × Int) : Option R :=
 cond (decide (x.2.2 < v31)) (
 bindO (idx v30 x.2.2) fun x5 =>
 bindO (
 cond (decide (x5.2.1 < 1)) (
 some true) (
 cond (decide (x5.2.1 > x.1)) (
 some true) (
 bindO (impl_between x5.1 0 65535) fun r6 =>
 some (!r6)))) fun q7 =>
 cond q7 (
 k1 false x.1 x.2.1 x.2.2) (
 room (List.length x.2.1 + List.length x5.2.2) (
 nx (IntKind.wrap .i64 (x.1 - x5.2.1), x.2.1 ++ x5.2.2, IntKind.wrap .i64 (x.2.2 + 1))))) (
 k0 x.1 x.2.1 x.2.2)
def impl_TxOk (a0 : TxQueue) : Option (Bool) :=
 bindO (
 bindO (impl_RingOk a0.1) fun r1 =>
 cond (!r1) (
 some true) (
 bindO (impl_PoolOk a0.2.1) fun r2 =>
 cond (!r2) (
 some true) (
 bindO (impl_between a0.2.2.2 0 65535) fun r3 =>
 some (!r3)))) fun q4 =>
 cond q4 (
 some false) (
 iterL (impl_TxOk_T6
   (fun y8 y9 y10 =>
 bindO (impl_GiveBuffers a0.2.1 y9) fun r11 =>
 some r11.2)
   (fun y12 y13 y14 y15 =>
 some y12) false a0.2.2.1 ((List.length a0.2.2.1 : Int)) a0) fuel (a0.1.2.1, ([] : List Int), 0))
def impl_QueueOk (a0 : Bucket) : Option (Bool) :=
 bindO (
 bindO (impl_between a0.1 0 130944) fun r1 =>
 cond r1 (
 bindO (impl_ringSize a0.2.1) fun r2 =>
 cond r2 (
 bindO (impl_between a0.2.2 0 (IntKind.wrap .i64 ((IntKind.wrap .i64 (2 * a0.2.1)) - 1))) fun r3 =>
 some r3) (
 some false)) (
 some false)) fun q4 =>
 some q4
def impl_SegmentOk (a0 : Segment) : Option (Bool) :=
 bindO (
 bindO (impl_between a0.2.1 0 65535) fun r1 =>
 cond (!r1) (
 some true) (
 bindO (impl_between a0.2.2.1 0 65535) fun r2 =>
 cond (!r2) (
 some true) (
 some (decide (((List.length a0.2.2.2.2.2.2.2 : Int)) > 320))))) fun q3 =>
 cond q3 (
 some false) (
 cond (a0.1 == 6) (
 bindO (
 bindO (impl_between a0.2.2.2.1 0 4294967295) fun r4 =>
 cond r4 (
 bindO (impl_between a0.2.2.2.2.1 0 4294967295) fun r5 =>
 cond r5 (
 bindO (impl_between a0.2.2.2.2.2.1 0 31) fun r6 =>
 cond r6 (
 bindO (impl_between a0.2.2.2.2.2.2.1 0 65535) fun r7 =>
 some r7) (
 some false)) (
 some false)) (
 some false)) fun q8 =>
 some q8) (
 cond (a0.1 == 17) (
 bindO (
 cond (a0.2.2.2.1 == 0) (
 cond (a0.2.2.2.2.1 == 0) (
 cond (a0.2.2.2.2.2.1 == 0) (
 some (a0.2.2.2.2.2.2.1 == 0)) (
 some false)) (
 some false)) (
 some false)) fun q9 =>
 some q9) (
 some false)))
def impl_streaming (a0 : Int) : Option (Bool) :=
 bindO (
 cond ((IntKind.wrap .i64 (BitVec.toNat (BitVec.ofInt (IntKind.bits .i64) a0 &&& BitVec.ofInt (IntKind.bits .i64) 16))) != 0) (
 some ((IntKind.wrap .i64 (BitVec.toNat (BitVec.ofInt (IntKind.bits .i64) a0 &&& ~~~ BitVec.ofInt (IntKind.bits .i64) 25))) == 0)) (
 some false)) fun q1 =>
 some q1
def impl_SuperOk (a0 : Packet) : Option (Bool) :=
 bindO (
 bindO (impl_between a0.1 0 281474976710655) fun r1 =>
 cond r1 (
 bindO (impl_between a0.2.1 0 281474976710655) fun r2 =>
 cond r2 (
 bindO (impl_between a0.2.2.1 (-1) 4095) fun r3 =>
 cond r3 (
 bindO (impl_between a0.2.2.2.1 0 255) fun r4 =>
 cond r4 (
 bindO (impl_between a0.2.2.2.2.2.1 0 255) fun r5 =>
 cond r5 (
 bindO (impl_between a0.2.2.2.2.1 0 65535) fun r6 =>
 cond r6 (
 bindO (impl_between a0.2.2.2.2.2.2.1 0 4294967295) fun r7 =>
 cond r7 (
 bindO (impl_between a0.2.2.2.2.2.2.2.1 0 4294967295) fun r8 =>
 cond r8 (
 bindO (impl_SegmentOk a0.2.2.2.2.2.2.2.2) fun r9 =>
 cond r9 (
 cond (decide (((List.length a0.2.2.2.2.2.2.2.2.2.2.2.2.2.2.2 : Int)) ≤ 128)) (
 some true) (
 cond (a0.2.2.2.2.2.2.2.2.1 == 6) (
 bindO (impl_streaming a0.2.2.2.2.2.2.2.2.2.2.2.2.2.1) fun r10 =>
 some r10) (
 some false))) (
 some false)) (
 some false)) (
 some false)) (
 some false)) (
 some false)) (
 some false)) (
 some false)) (
 some false)) (
 some false)) fun q11 =>
 some q11
def impl_RxOk (a0 : RxQueue) : Option (Bool) :=
 bindO (
 bindO (impl_RingOk a0.1) fun r1 =>
 cond (!r1) (
 some true) (
 bindO (impl_QueueOk a0.2.1) fun r2 =>
 cond (!r2) (
 some true) (
 bindO (impl_QueueOk a0.2.2.1) fun r3 =>
 cond (!r3) (
 some true) (
 cond (a0.2.1.1 != a0.2.2.1.1) (
 some true) (
 cond (a0.2.1.2.1 != a0.2.2.1.2.1) (
 some true) (
 bindO (impl_between a0.2.2.2.2.2 0 1000000000000) fun r4 =>
 some (!r4))))))) fun q5 =>
 cond q5 (
 some false) (
 cond (!a0.2.2.2.2.1) (
 some ((a0.2.2.2.1.1.1 == 0) && ((a0.2.2.2.1.1.2.1 == 0) && ((a0.2.2.2.1.1.2.2.1 == 0) && ((a0.2.2.2.1.1.2.2.2.1 == 0) && ((a0.2.2.2.1.1.2.2.2.2.1 == 0) && ((a0.2.2.2.1.1.2.2.2.2.2.1 == 0) && ((a0.2.2.2.1.1.2.2.2.2.2.2.1 == 0) && ((a0.2.2.2.1.1.2.2.2.2.2.2.2.1 == 0) && ((a0.2.2.2.1.1.2.2.2.2.2.2.2.2.1 == 0) && ((a0.2.2.2.1.1.2.2.2.2.2.2.2.2.2.1 == 0) && ((a0.2.2.2.1.1.2.2.2.2.2.2.2.2.2.2.1 == 0) && ((a0.2.2.2.1.1.2.2.2.2.2.2.2.2.2.2.2.1 == 0) && ((a0.2.2.2.1.1.2.2.2.2.2.2.2.2.2.2.2.2.1 == 0) && ((a0.2.2.2.1.1.2.2.2.2.2.2.2.2.2.2.2.2.2.1 == 0) && ((a0.2.2.2.1.1.2.2.2.2.2.2.2.2.2.2.2.2.2.2.1 == 0) && ((a0.2.2.2.1.1.2.2.2.2.2.2.2.2.2.2.2.2.2.2.2 == ([] : Bytes)) && ((a0.2.2.2.1.2.1 == 0) && ((a0.2.2.2.1.2.2 == 0) && true))))))))))))))))))) (
 bindO (
 bindO (impl_SuperOk a0.2.2.2.1.1) fun r6 =>
 cond r6 (
 bindO (impl_between a0.2.2.2.1.2.1 0 320) fun r7 =>
 cond r7 (
 bindO (impl_between a0.2.2.2.1.2.2 1 320) fun r8 =>
 some r8) (
 some false)) (
 some false)) fun q9 =>
 some q9))
def impl_due (a0 : Vector) : Option (Bool) :=
 bindO (
 cond (decide (a0.2.2.1 ≥ 1)) (
 cond (decide (a0.2.2.1 ≥ a0.1)) (
 some true) (
 some (decide (a0.2.2.2.1 ≥ a0.2.1)))) (
 some false)) fun q1 =>
 some q1
def impl_VectorOk (a0 : Vector) : Option (Bool) :=
 bindO (
 bindO (impl_between a0.1 1 64) fun r1 =>
 cond (!r1) (
 some true) (
 bindO (impl_between a0.2.1 0 64) fun r2 =>
 cond (!r2) (
 some true) (
 bindO (impl_between a0.2.2.1 0 1000000) fun r3 =>
 cond (!r3) (
 some true) (
 bindO (impl_between a0.2.2.2.1 0 1000000) fun r4 =>
 some (!r4))))) fun q5 =>
 cond q5 (
 some false) (
 bindO (
 cond (decide (a0.2.2.1 > 0)) (
 bindO (impl_due a0) fun r6 =>
 cond r6 (
 some (a0.2.2.2.2.2 == (!a0.2.2.2.2.1))) (
 some (a0.2.2.2.2.2 == false))) (
 cond (a0.2.2.2.1 == 0) (
 bindO (impl_due a0) fun r7 =>
 cond r7 (
 some (a0.2.2.2.2.2 == (!a0.2.2.2.2.1))) (
 some (a0.2.2.2.2.2 == false))) (
 some false))) fun q8 =>
 some q8)
def impl_RuleOk (a0 : Rule) : Option (Bool) :=
 bindO (
 bindO (impl_between a0.1 0 1000) fun r1 =>
 cond (!r1) (
 some true) (
 cond (a0.2.1 != 0) (
 cond (a0.2.1 != 6) (
 cond (a0.2.1 != 17) (
 some true) (
 bindO (impl_between a0.2.2.1 0 4294967295) fun r2 =>
 cond (!r2) (
 some true) (
 bindO (impl_between a0.2.2.2.1 0 32) fun r3 =>
 some (!r3)))) (
 bindO (impl_between a0.2.2.1 0 4294967295) fun r4 =>
 cond (!r4) (
 some true) (
 bindO (impl_between a0.2.2.2.1 0 32) fun r5 =>
 some (!r5)))) (
 bindO (impl_between a0.2.2.1 0 4294967295) fun r6 =>
 cond (!r6) (
 some true) (
 bindO (impl_between a0.2.2.2.1 0 32) fun r7 =>
 some (!r7))))) fun q8 =>
 cond q8 (
 some false) (
 bindO (
 cond (decide (a0.2.2.2.2.1 < 0)) (
 some true) (
 cond (decide (a0.2.2.2.2.1 > a0.2.2.2.2.2.1)) (
 some true) (
 cond (decide (a0.2.2.2.2.2.1 > 65535)) (
 some true) (
 bindO (impl_between a0.2.2.2.2.2.2.1 (-2) 4095) fun r9 =>
 some (!r9))))) fun q10 =>
 cond q10 (
 some false) (
 bindO (
 cond (a0.2.2.2.2.2.2.2.1 == 0) (
 bindO (impl_between a0.2.2.2.2.2.2.2.2 0 3) fun r11 =>
 cond r11 (
 some true) (
 cond (a0.2.2.2.2.2.2.2.1 == 1) (
 some (a0.2.2.2.2.2.2.2.2 == 0)) (
 some false))) (
 cond (a0.2.2.2.2.2.2.2.1 == 1) (
 some (a0.2.2.2.2.2.2.2.2 == 0)) (
 some false))) fun q12 =>
 some q12))
def impl_RulesOk_T2 {R : Type} (k0 : Int → Option R) (k1 : Bool → Int → Option R) (v0 : List Rule) (v2 : Bool) (v5 : List Rule) (v6 : Int) (nx : Int → Option R) (x : Int) : Option R :=
 cond (decide (x < v6)) (
 bindO (idx v5 x) fun x1 =>
 bindO (impl_RuleOk x1) fun r2 =>
 cond (!r2) (
 k1 false x) (
 nx (IntKind.wrap .i64 (x + 1)))) (
 k0 x)
def impl_RulesOk (a0 : List Rule) : Option (Bool) :=
 iterL (impl_RulesOk_T2
   (fun y3 =>
 some (decide (((List.length a0 : Int)) ≤ 12)))
   (fun y4 y5 =>
 some y4) a0 false a0 ((List.length a0 : Int))) fuel 0
def impl_slotOf_T2 {R : Type} (k0 : Int → Option R) (k1 : Int → Int → Option R) (v4 : Int) (v8 : List Slot) (v9 : Int) (b3 : Flow) (nx : Int → Option R) (x : Int) : Option R :=
 cond (decide (x < v9)) (
 bindO (idx v8 x) fun x1 =>
 bindO (
 cond (x1.1 == 1) (
 some ((x1.2.1.1 == b3.1) && ((x1.2.1.2.1 == b3.2.1) && ((x1.2.1.2.2.1 == b3.2.2.1) && ((x1.2.1.2.2.2.1 == b3.2.2.2.1) && ((x1.2.1.2.2.2.2 == b3.2.2.2.2) && true)))))) (
 some false)) fun q2 =>
 cond q2 (
 k1 x x) (
 nx (IntKind.wrap .i64 (x + 1)))) (
 k0 x)
def impl_slotOf (a0 : List Slot) (a1 : Flow) : Option (Int) :=
 iterL (impl_slotOf_T2
   (fun y3 =>
 some (-1))
   (fun y4 y5 =>
 some y4) 0 a0 ((List.length a0 : Int)) a1) fuel 0
def impl_HomeSlot_T3 {R : Type} (k0 : Int → Int → Option R) (v16 : List Int) (v17 : Int) (nx : (Int × Int) → Option R) (x : Int × Int) : Option R :=
 cond (decide (x.2 < v17)) (
 bindO (idx v16 x.2) fun x1 =>
 bindO (impl_modulo x1 8) fun r2 =>
 nx (IntKind.wrap .i64 (x.1 + r2), IntKind.wrap .i64 (x.2 + 1))) (
 k0 x.1 x.2)
def impl_HomeSlot (a0 : Flow) : Option (Int) :=
 iterL (impl_HomeSlot_T3
   (fun y3 y4 =>
 if 8 = 0 then none else (
 some (Int.tmod y3 8))) ([a0.1, a0.2.1, a0.2.2.1, a0.2.2.2.1, a0.2.2.2.2]) ((List.length ([a0.1, a0.2.1, a0.2.2.1, a0.2.2.2.1, a0.2.2.2.2]) : Int))) fuel (0, 0)
def impl_wayOf_T3 {R : Type} (k0 : (List Int) → Int → Option R) (b1 : Flow) (nx : ((List Int) × Int) → Option R) (x : (List Int) × Int) : Option R :=
 cond (decide (x.2 < 8)) (
 bindO (impl_HomeSlot b1) fun r1 =>
 if 8 = 0 then none else (
 room (List.length x.1 + List.length ([(Int.tmod (IntKind.wrap .i64 (r1 + x.2)) 8)])) (
 nx (x.1 ++ ([(Int.tmod (IntKind.wrap .i64 (r1 + x.2)) 8)]), IntKind.wrap .i64 (x.2 + 1))))) (
 k0 x.1 x.2)
def impl_wayOf (a0 : Flow) : Option (List Int) :=
 iterL (impl_wayOf_T3
   (fun y2 y3 =>
 some y2) a0) fuel (([] : List Int), 0)
def impl_TableOk_T14 {R : Type} (k0 : Int → Option R) (k1 : Bool → Int → Option R) (v2 : Bool) (v3 : Int) (v12 : List Slot) (v13 : Int) (v14 : Int) (v49 : List Int) (v50 : Int) (b1 : List Slot) (nx : Int → Option R) (x : Int) : Option R :=
 cond (decide (x < v50)) (
 bindO (idx v49 x) fun x8 =>
 cond (x8 == v3) (
 k0 x) (
 bindO (idx b1 x8) fun x9 =>
 cond (x9.1 == 0) (
 k1 false x) (
 nx (IntKind.wrap .i64 (x + 1))))) (
 k0 x)
def impl_TableOk_T4 {R : Type} (k0 : Int → Option R) (k1 : Bool → Int → Option R) (v2 : Bool) (v12 : List Slot) (v13 : Int) (b1 : List Slot) (nx : Int → Option R) (x : Int) : Option R :=
 cond (decide (x < v13)) (
 bindO (idx v12 x) fun x1 =>
 bindO (
 bindO (impl_between x1.1 0 2) fun r2 =>
 cond (!r2) (
 some true) (
 bindO (impl_between x1.2.2 0 3) fun r3 =>
 some (!r3))) fun q4 =>
 cond q4 (
 k1 false x) (
 cond (x1.1 != 1) (
 bindO (
 cond (!((x1.2.1.1 == 0) && ((x1.2.1.2.1 == 0) && ((x1.2.1.2.2.1 == 0) && ((x1.2.1.2.2.2.1 == 0) && ((x1.2.1.2.2.2.2 == 0) && true)))))) (
 some true) (
 some (x1.2.2 != 0))) fun q5 =>
 cond q5 (
 k1 false x) (
 nx (IntKind.wrap .i64 (x + 1)))) (
 bindO (impl_slotOf b1 x1.2.1) fun r6 =>
 cond (r6 != x) (
 k1 false x) (
 bindO (impl_wayOf x1.2.1) fun r7 =>
 iterL (impl_TableOk_T14
   (fun y10 =>
 nx (IntKind.wrap .i64 (x + 1)))
   (fun y11 y12 =>
 k1 y11 x) v2 x v12 v13 x r7 ((List.length r7 : Int)) b1) fuel 0)))) (
 k0 x)
def impl_TableOk (a0 : List Slot) : Option (Bool) :=
 cond (((List.length a0 : Int)) != 8) (
 some false) (
 iterL (impl_TableOk_T4
   (fun y13 =>
 some true)
   (fun y14 y15 =>
 some y14) false a0 ((List.length a0 : Int)) a0) fuel 0)
def impl_tableSize (a0 : Int) : Option (Bool) :=
 bindO (
 cond (a0 == 1) (
 some true) (
 cond (a0 == 2) (
 some true) (
 cond (a0 == 4) (
 some true) (
 cond (a0 == 8) (
 some true) (
 some (a0 == 16)))))) fun q1 =>
 some q1
def impl_SpreadOk_T4 {R : Type} (k0 : Int → Option R) (k1 : Bool → Int → Option R) (v1 : Int) (v4 : Bool) (v24 : List Int) (v25 : Int) (nx : Int → Option R) (x : Int) : Option R :=
 cond (decide (x < v25)) (
 bindO (idx v24 x) fun x4 =>
 bindO (impl_between x4 0 (IntKind.wrap .i64 (v1 - 1))) fun r5 =>
 cond (!r5) (
 k1 false x) (
 nx (IntKind.wrap .i64 (x + 1)))) (
 k0 x)
def impl_SpreadOk (a0 : Spread) (a1 : Int) : Option (Bool) :=
 bindO (
 bindO (impl_between a1 1 4) fun r1 =>
 cond (!r1) (
 some true) (
 cond (((List.length a0.1 : Int)) != 16) (
 some true) (
 bindO (impl_tableSize ((List.length a0.2 : Int))) fun r2 =>
 some (!r2)))) fun q3 =>
 cond q3 (
 some false) (
 iterL (impl_SpreadOk_T4
   (fun y6 =>
 some true)
   (fun y7 y8 =>
 some y7) a1 false a0.2 ((List.length a0.2 : Int))) fuel 0)
def impl_SteeringOk_T4 {R : Type} (k0 : Int → Option R) (k1 : Bool → Int → Option R) (v1 : Int) (v4 : Bool) (v27 : List Rule) (v28 : Int) (b2 : Steering) (nx : Int → Option R) (x : Int) : Option R :=
 cond (decide (x < v28)) (
 bindO (idx v27 x) fun x5 =>
 bindO (
 cond (x5.2.2.2.2.2.2.2.1 == 0) (
 some (decide (x5.2.2.2.2.2.2.2.2 ≥ v1))) (
 some false)) fun q6 =>
 cond q6 (
 k1 false x) (
 nx (IntKind.wrap .i64 (x + 1)))) (
 k0 x)
def impl_SteeringOk_T10 {R : Type} (k0 : Int → Option R) (k1 : Bool → Int → Option R) (v1 : Int) (v4 : Bool) (v45 : List Slot) (v46 : Int) (nx : Int → Option R) (x : Int) : Option R :=
 cond (decide (x < v46)) (
 bindO (idx v45 x) fun x8 =>
 bindO (
 cond (x8.1 == 1) (
 some (decide (x8.2.2 ≥ v1))) (
 some false)) fun q9 =>
 cond q9 (
 k1 false x) (
 nx (IntKind.wrap .i64 (x + 1)))) (
 k0 x)
def impl_SteeringOk (a0 : Steering) (a1 : Int) : Option (Bool) :=
 bindO (
 bindO (impl_RulesOk a0.1) fun r1 =>
 cond (!r1) (
 some true) (
 bindO (impl_TableOk a0.2.1) fun r2 =>
 cond (!r2) (
 some true) (
 bindO (impl_SpreadOk a0.2.2 a1) fun r3 =>
 some (!r3)))) fun q4 =>
 cond q4 (
 some false) (
 iterL (impl_SteeringOk_T4
   (fun y7 =>
 iterL (impl_SteeringOk_T10
   (fun y10 =>
 some true)
   (fun y11 y12 =>
 some y11) a1 false a0.2.1 ((List.length a0.2.1 : Int))) fuel 0)
   (fun y13 y14 =>
 some y13) a1 false a0.1 ((List.length a0.1 : Int)) a0) fuel 0)
def impl_HostOk_T5 {R : Type} (k0 : Int → Option R) (k1 : Bool → Int → Option R) (v2 : Bool) (v3 : Int) (v61 : Int) (b1 : Host) (nx : Int → Option R) (x : Int) : Option R :=
 cond (decide (x < v61)) (
 bindO (
 bindO (idx b1.2.2.2.1 x) fun x7 =>
 bindO (impl_RxOk x7) fun r8 =>
 cond (!r8) (
 some true) (
 bindO (idx b1.2.2.2.2.1 x) fun x9 =>
 bindO (impl_PoolOk x9) fun r10 =>
 cond (!r10) (
 some true) (
 bindO (idx b1.2.2.2.2.2.1 x) fun x11 =>
 bindO (impl_VectorOk x11) fun r12 =>
 some (!r12)))) fun q13 =>
 cond q13 (
 k1 false x) (
 nx (IntKind.wrap .i64 (x + 1)))) (
 k0 x)
def impl_HostOk_T12 {R : Type} (k0 : Int → Option R) (k1 : Bool → Int → Option R) (v2 : Bool) (v3 : Int) (v103 : List Int) (v104 : Int) (b1 : Host) (nx : Int → Option R) (x : Int) : Option R :=
 cond (decide (x < v104)) (
 bindO (idx v103 x) fun x15 =>
 bindO (impl_between x15 0 1000000000000) fun r16 =>
 cond (!r16) (
 k1 false x) (
 nx (IntKind.wrap .i64 (x + 1)))) (
 k0 x)
def impl_HostOk (a0 : Host) : Option (Bool) :=
 bindO (
 bindO (impl_MemoryOk a0.1) fun r1 =>
 cond (!r1) (
 some true) (
 bindO (impl_MappingsOk a0.2.1) fun r2 =>
 cond (!r2) (
 some true) (
 bindO (impl_TxOk a0.2.2.1) fun r3 =>
 cond (!r3) (
 some true) (
 bindO (impl_FilterOk a0.2.2.2.2.2.2.2.1) fun r4 =>
 cond (!r4) (
 some true) (
 bindO (impl_between ((List.length a0.2.2.2.1 : Int)) 1 2) fun r5 =>
 cond (!r5) (
 some true) (
 cond (((List.length a0.2.2.2.2.1 : Int)) != ((List.length a0.2.2.2.1 : Int))) (
 some true) (
 cond (((List.length a0.2.2.2.2.2.1 : Int)) != ((List.length a0.2.2.2.1 : Int))) (
 some true) (
 some (((List.length a0.2.2.2.2.2.2.1 : Int)) != ((List.length a0.2.2.2.1 : Int))))))))))) fun q6 =>
 cond q6 (
 some false) (
 iterL (impl_HostOk_T5
   (fun y14 =>
 iterL (impl_HostOk_T12
   (fun y17 =>
 bindO (impl_SteeringOk a0.2.2.2.2.2.2.2.2.1 ((List.length a0.2.2.2.1 : Int))) fun r18 =>
 some r18)
   (fun y19 y20 =>
 some y19) false ((List.length a0.2.2.2.1 : Int)) ([a0.2.2.2.2.2.2.2.2.2.2.2.2.2.2.1, a0.2.2.2.2.2.2.2.2.2.2.2.2.2.2.2.1, a0.2.2.2.2.2.2.2.2.2.2.2.2.2.2.2.2.1, a0.2.2.2.2.2.2.2.2.2.2.2.2.2.2.2.2.2.1, a0.2.2.2.2.2.2.2.2.2.2.2.2.2.2.2.2.2.2]) ((List.length ([a0.2.2.2.2.2.2.2.2.2.2.2.2.2.2.1, a0.2.2.2.2.2.2.2.2.2.2.2.2.2.2.2.1, a0.2.2.2.2.2.2.2.2.2.2.2.2.2.2.2.2.1, a0.2.2.2.2.2.2.2.2.2.2.2.2.2.2.2.2.2.1, a0.2.2.2.2.2.2.2.2.2.2.2.2.2.2.2.2.2.2]) : Int)) a0) fuel 0)
   (fun y21 y22 =>
 some y21) false ((List.length a0.2.2.2.1 : Int)) ((List.length a0.2.2.2.1 : Int)) a0) fuel 0)
def slices_Equal_int_T4 {R : Type} (k0 : Int → Option R) (k1 : Bool → Int → Option R) (v0 : List Int) (v1 : List Int) (v4 : Bool) (v12 : Int) (nx : Int → Option R) (x : Int) : Option R :=
 cond (decide (x < v12)) (
 bindO (idx v0 x) fun x1 =>
 bindO (idx v1 x) fun x2 =>
 cond (x1 != x2) (
 k1 false x) (
 nx (IntKind.wrap .i64 (x + 1)))) (
 k0 x)
def slices_Equal_int (a0 : List Int) (a1 : List Int) : Option (Bool) :=
 cond (((List.length a0 : Int)) != ((List.length a1 : Int))) (
 some false) (
 iterL (slices_Equal_int_T4
   (fun y3 =>
 some true)
   (fun y4 y5 =>
 some y4) a0 a1 false ((List.length a0 : Int))) fuel 0)
def impl_sameFilter (a0 : Filter) (a1 : Filter) : Option (Bool) :=
 bindO (
 cond (a0.1 == a1.1) (
 cond (a0.2.1 == a1.2.1) (
 bindO (slices_Equal_int a0.2.2 a1.2.2) fun r1 =>
 some r1) (
 some false)) (
 some false)) fun q2 =>
 some q2
def impl_BucketOk (a0 : Bucket) : Option (Bool) :=
 bindO (
 bindO (impl_between a0.1 0 10000) fun r1 =>
 cond r1 (
 bindO (impl_between a0.2.1 0 100000) fun r2 =>
 cond r2 (
 bindO (impl_between a0.2.2 0 a0.2.1) fun r3 =>
 some r3) (
 some false)) (
 some false)) fun q4 =>
 some q4
def impl_FunctionsOk_T9 {R : Type} (k0 : Int → Option R) (k1 : Bool → Int → Option R) (v0 : List VirtualFunction) (v1 : List Port) (v4 : Bool) (v12 : List VirtualFunction) (v13 : Int) (v14 : Int) (v52 : List VirtualFunction) (v53 : Int) (b6 : VirtualFunction) (nx : Int → Option R) (x : Int) : Option R :=
 cond (decide (x < v53)) (
 bindO (idx v52 x) fun x10 =>
 bindO (
 cond (x10.1 == b6.1) (
 some true) (
 some (x10.2.1 == b6.2.1))) fun q11 =>
 cond q11 (
 k1 false x) (
 nx (IntKind.wrap .i64 (x + 1)))) (
 k0 x)
def impl_FunctionsOk_T4 {R : Type} (k0 : Int → Option R) (k1 : Bool → Int → Option R) (v0 : List VirtualFunction) (v1 : List Port) (v4 : Bool) (v12 : List VirtualFunction) (v13 : Int) (nx : Int → Option R) (x : Int) : Option R :=
 cond (decide (x < v13)) (
 bindO (idx v12 x) fun x2 =>
 bindO (
 bindO (impl_between x2.1 0 7) fun r3 =>
 cond (!r3) (
 some true) (
 bindO (impl_between x2.2.1 1 (IntKind.wrap .i64 (((List.length v1 : Int)) - 1))) fun r4 =>
 cond (!r4) (
 some true) (
 bindO (impl_BucketOk x2.2.2.1) fun r5 =>
 cond (!r5) (
 some true) (
 bindO (impl_between x2.2.2.2.2.1 0 1000000000000) fun r6 =>
 cond (!r6) (
 some true) (
 bindO (impl_between x2.2.2.2.2.2 0 1000000000000) fun r7 =>
 some (!r7)))))) fun q8 =>
 cond q8 (
 k1 false x) (
 bindO (sub v0 0 x) fun x9 =>
 iterL (impl_FunctionsOk_T9
   (fun y12 =>
 nx (IntKind.wrap .i64 (x + 1)))
   (fun y13 y14 =>
 k1 y13 x) v0 v1 v4 v12 v13 x x9 ((List.length x9 : Int)) x2) fuel 0)) (
 k0 x)
def impl_FunctionsOk (a0 : List VirtualFunction) (a1 : List Port) : Option (Bool) :=
 bindO (impl_PortsOk a1) fun r1 =>
 cond (!r1) (
 some false) (
 iterL (impl_FunctionsOk_T4
   (fun y15 =>
 some true)
   (fun y16 y17 =>
 some y16) a0 a1 false a0 ((List.length a0 : Int))) fuel 0)
def impl_ownPlaces_T2 {R : Type} (k0 : Int → Option R) (k1 : Bool → Int → Option R) (v2 : Bool) (v5 : List VirtualFunction) (v6 : Int) (nx : Int → Option R) (x : Int) : Option R :=
 cond (decide (x < v6)) (
 bindO (idx v5 x) fun x1 =>
 bindO (
 cond (x1.1 != x) (
 some true) (
 some (x1.2.1 != (IntKind.wrap .i64 (x + 1))))) fun q2 =>
 cond q2 (
 k1 false x) (
 nx (IntKind.wrap .i64 (x + 1)))) (
 k0 x)
def impl_ownPlaces (a0 : List VirtualFunction) : Option (Bool) :=
 iterL (impl_ownPlaces_T2
   (fun y3 =>
 some true)
   (fun y4 y5 =>
 some y4) false a0 ((List.length a0 : Int))) fuel 0
def impl_FlashOk (a0 : List Bytes) : Option (Bool) :=
 bindO (
 cond (((List.length a0 : Int)) == 2) (
 bindO (idx a0 0) fun x1 =>
 cond (((List.length x1 : Int)) == 96) (
 bindO (idx a0 1) fun x2 =>
 some (((List.length x2 : Int)) == 96)) (
 some false)) (
 some false)) fun q3 =>
 some q3
def impl_Get32 (a0 : Bytes) (a1 : Int) : Option (Int) :=
 bindO (
 cond (decide (a1 < 0)) (
 some true) (
 some (decide (a1 > (IntKind.wrap .i64 (((List.length a0 : Int)) - 4)))))) fun q1 =>
 cond q1 (
 some (-1)) (
 bindO (idx a0 a1) fun x2 =>
 if 24 < 0 then none else (
 bindO (idx a0 (IntKind.wrap .i64 (a1 + 1))) fun x3 =>
 if 16 < 0 then none else (
 bindO (idx a0 (IntKind.wrap .i64 (a1 + 2))) fun x4 =>
 if 8 < 0 then none else (
 bindO (idx a0 (IntKind.wrap .i64 (a1 + 3))) fun x5 =>
 some (IntKind.wrap .i64 (BitVec.toNat (BitVec.ofInt (IntKind.bits .i64) (IntKind.wrap .i64 (BitVec.toNat (BitVec.ofInt (IntKind.bits .i64) (IntKind.wrap .i64 (BitVec.toNat (BitVec.ofInt (IntKind.bits .i64) (IntKind.wrap .i64 ((IntKind.wrap .i64 ((UInt8.toNat x2 : Int))) * 2 ^ (min (Int.toNat 24) (IntKind.bits .i64)))) ||| BitVec.ofInt (IntKind.bits .i64) (IntKind.wrap .i64 ((IntKind.wrap .i64 ((UInt8.toNat x3 : Int))) * 2 ^ (min (Int.toNat 16) (IntKind.bits .i64))))))) ||| BitVec.ofInt (IntKind.bits .i64) (IntKind.wrap .i64 ((IntKind.wrap .i64 ((UInt8.toNat x4 : Int))) * 2 ^ (min (Int.toNat 8) (IntKind.bits .i64))))))) ||| BitVec.ofInt (IntKind.bits .i64) (IntKind.wrap .i64 ((UInt8.toNat x5 : Int))))))))))
def impl_Word32 (a0 : Int) : Option (Bytes) :=
 bindO (impl_between a0 0 4294967295) fun r1 =>
 cond (!r1) (
 some ([] : Bytes)) (
 if 24 < 0 then none else (
 if 16 < 0 then none else (
 if 8 < 0 then none else (
 some (bytesOf ([(IntKind.wrap .u8 (Int.fdiv a0 (2 ^ (min (Int.toNat 24) (IntKind.bits .i64))))), (IntKind.wrap .u8 (Int.fdiv a0 (2 ^ (min (Int.toNat 16) (IntKind.bits .i64))))), (IntKind.wrap .u8 (Int.fdiv a0 (2 ^ (min (Int.toNat 8) (IntKind.bits .i64))))), (IntKind.wrap .u8 a0)]))))))
def impl_Crc32_T7 {R : Type} (k0 : Int → Int → Option R) (v0 : Bytes) (v4 : Int) (nx : (Int × Int) → Option R) (x : Int × Int) : Option R :=
 cond (decide (x.2 < 8)) (
 if 1 < 0 then none else (
 cond ((IntKind.wrap .u32 (BitVec.toNat (BitVec.ofInt (IntKind.bits .u32) x.1 &&& BitVec.ofInt (IntKind.bits .u32) 1))) == 1) (
 nx (IntKind.wrap .u32 (BitVec.toNat (BitVec.ofInt (IntKind.bits .u32) (Int.fdiv x.1 (2 ^ (min (Int.toNat 1) (IntKind.bits .u32)))) ^^^ BitVec.ofInt (IntKind.bits .u32) 3988292384)), IntKind.wrap .i64 (x.2 + 1))) (
 nx (Int.fdiv x.1 (2 ^ (min (Int.toNat 1) (IntKind.bits .u32))), IntKind.wrap .i64 (x.2 + 1))))) (
 k0 x.1 x.2)
def impl_Crc32_T3 {R : Type} (k0 : Int → Int → Option R) (v0 : Bytes) (nx : (Int × Int) → Option R) (x : Int × Int) : Option R :=
 cond (decide (x.2 < ((List.length v0 : Int)))) (
 bindO (idx v0 x.2) fun x1 =>
 iterL (impl_Crc32_T7
   (fun y2 y3 =>
 nx (y2, IntKind.wrap .i64 (x.2 + 1))) v0 x.2) fuel (IntKind.wrap .u32 (BitVec.toNat (BitVec.ofInt (IntKind.bits .u32) x.1 ^^^ BitVec.ofInt (IntKind.bits .u32) (IntKind.wrap .u32 ((UInt8.toNat x1 : Int))))), 0)) (
 k0 x.1 x.2)
def impl_Crc32 (a0 : Bytes) : Option (Int) :=
 iterL (impl_Crc32_T3
   (fun y4 y5 =>
 some (IntKind.wrap .i64 (IntKind.wrap .u32 (BitVec.toNat (BitVec.ofInt (IntKind.bits .u32) (IntKind.max .u32) ^^^ BitVec.ofInt (IntKind.bits .u32) y4))))) a0) fuel (4294967295, 0)
def impl_MakeImage (a0 : Int) (a1 : Bytes) : Option (Bytes × Bool) :=
 bindO (
 bindO (impl_between a0 0 1000000) fun r1 =>
 cond (!r1) (
 some true) (
 some (decide ((IntKind.wrap .i64 (12 + ((List.length a1 : Int)))) > 96)))) fun q2 =>
 cond q2 (
 some (([] : Bytes), false)) (
 bindO (impl_Word32 a0) fun r3 =>
 bindO (impl_Word32 ((List.length a1 : Int))) fun r4 =>
 room (List.length r3 + List.length r4) (
 room (List.length (r3 ++ r4) + List.length a1) (
 bindO (impl_Crc32 ((r3 ++ r4) ++ a1)) fun r5 =>
 bindO (impl_Word32 r5) fun r6 =>
 room (List.length ((r3 ++ r4) ++ a1) + List.length r6) (
 some (((r3 ++ r4) ++ a1) ++ r6, true)))))
def impl_ImageVersion (a0 : Bytes) : Option (Int) :=
 bindO (impl_Get32 a0 0) fun r1 =>
 bindO (impl_Get32 a0 4) fun r2 =>
 bindO (
 cond (decide (r2 < 0)) (
 some true) (
 some (decide (r2 > (IntKind.wrap .i64 (((List.length a0 : Int)) - 12)))))) fun q3 =>
 cond q3 (
 some (-1)) (
 bindO (sub a0 8 (IntKind.wrap .i64 (8 + r2))) fun x4 =>
 bindO (impl_MakeImage r1 x4) fun r5 =>
 bindO (
 cond (!r5.2) (
 some true) (
 bindO (sub a0 0 (IntKind.wrap .i64 (12 + r2))) fun x6 =>
 some (!(r5.1 == x6)))) fun q7 =>
 cond q7 (
 some (-1)) (
 some r1))
def impl_BootBank (a0 : List Bytes) : Option (Int) :=
 bindO (impl_FlashOk a0) fun r1 =>
 cond (!r1) (
 some (-1)) (
 bindO (idx a0 0) fun x2 =>
 bindO (impl_ImageVersion x2) fun r3 =>
 bindO (idx a0 1) fun x4 =>
 bindO (impl_ImageVersion x4) fun r5 =>
 bindO (
 cond (decide (r3 < 0)) (
 some (decide (r5 < 0))) (
 some false)) fun q6 =>
 cond q6 (
 some (-1)) (
 cond (decide (r3 ≥ r5)) (
 some 0) (
 some 1)))
def impl_ClockOk (a0 : Clock) : Option (Bool) :=
 bindO (
 bindO (impl_between a0.1 0 1125899906842624) fun r1 =>
 cond r1 (
 bindO (impl_between a0.2.1 0 1048575) fun r2 =>
 cond r2 (
 bindO (impl_between a0.2.2.1 0 67108864) fun r3 =>
 cond r3 (
 bindO (impl_between a0.2.2.2 0 1099511627776) fun r4 =>
 some r4) (
 some false)) (
 some false)) (
 some false)) fun q5 =>
 some q5
def impl_CardOk_T5 {R : Type} (k0 : Int → Option R) (k1 : Bool → Int → Option R) (v2 : Bool) (v3 : List Port) (v34 : List Host) (v35 : Int) (b1 : Card) (nx : Int → Option R) (x : Int) : Option R :=
 cond (decide (x < v35)) (
 bindO (idx v34 x) fun x3 =>
 bindO (
 bindO (impl_HostOk x3) fun r4 =>
 cond (!r4) (
 some true) (
 bindO (idx b1.2.2.1 x) fun x5 =>
 bindO (impl_sameFilter x3.2.2.2.2.2.2.2.1 x5.1) fun r6 =>
 some (!r6))) fun q7 =>
 cond q7 (
 k1 false x) (
 nx (IntKind.wrap .i64 (x + 1)))) (
 k0 x)
def impl_CardOk (a0 : Card) : Option (Bool) :=
 bindO (impl_PortsOf a0.2.2.1) fun r1 =>
 bindO (
 cond (!r1.2) (
 some true) (
 cond (((List.length a0.1 : Int)) != ((List.length a0.2.2.1 : Int))) (
 some true) (
 some (((List.length a0.2.1 : Int)) != ((List.length a0.2.2.1 : Int)))))) fun q2 =>
 cond q2 (
 some false) (
 iterL (impl_CardOk_T5
   (fun y8 =>
 bindO (
 bindO (impl_FunctionsOk a0.2.1 r1.1) fun r9 =>
 cond r9 (
 bindO (impl_ownPlaces a0.2.1) fun r10 =>
 cond r10 (
 bindO (impl_BootBank a0.2.2.2.1) fun r11 =>
 cond (decide (r11 ≥ 0)) (
 bindO (impl_ClockOk a0.2.2.2.2.1) fun r12 =>
 some r12) (
 some false)) (
 some false)) (
 some false)) fun q13 =>
 some q13)
   (fun y14 y15 =>
 some y14) false r1.1 a0.1 ((List.length a0.1 : Int)) a0) fuel 0)
def impl_AddVlan (a0 : Filter) (a1 : Int) : Option (Filter × Bool) :=
 bindO (impl_copyFilter a0) fun r1 =>
 bindO (
 bindO (impl_FilterOk a0) fun r2 =>
 cond (!r2) (
 some true) (
 bindO (impl_hasInt a0.2.2 a1) fun r3 =>
 some r3)) fun q4 =>
 cond q4 (
 some (r1, false)) (
 bindO (impl_addOrdered a0.2.2 a1) fun r5 =>
 bindO (impl_FilterOk (r1.1, r1.2.1, r5)) fun r6 =>
 cond (!r6) (
 bindO (impl_copyFilter a0) fun r7 =>
 some (r7, false)) (
 some ((r1.1, r1.2.1, r5), true)))
def impl_DropVlan_T6 {R : Type} (k0 : Int → Filter → Option R) (v1 : Int) (v25 : List Int) (v26 : Int) (b4 : Filter) (nx : (Int × Filter) → Option R) (x : Int × Filter) : Option R :=
 cond (decide (x.1 < v26)) (
 bindO (idx v25 x.1) fun x5 =>
 cond (x5 != v1) (
 room (List.length x.2.2.2 + List.length ([x5])) (
 nx (IntKind.wrap .i64 (x.1 + 1), x.2.1, x.2.2.1, x.2.2.2 ++ ([x5])))) (
 nx (IntKind.wrap .i64 (x.1 + 1), x.2))) (
 k0 x.1 x.2)
def impl_DropVlan (a0 : Filter) (a1 : Int) : Option (Filter × Bool) :=
 bindO (impl_copyFilter a0) fun r1 =>
 bindO (
 bindO (impl_FilterOk a0) fun r2 =>
 cond (!r2) (
 some true) (
 bindO (impl_hasInt a0.2.2 a1) fun r3 =>
 some (!r3))) fun q4 =>
 cond q4 (
 some (r1, false)) (
 iterL (impl_DropVlan_T6
   (fun y6 y7 =>
 some (y7, true)) a1 a0.2.2 ((List.length a0.2.2 : Int)) (0, false, ([] : List Int))) fuel (0, r1.1, r1.2.1, ([] : List Int)))
def impl_command (a0 : Filter) (a1 : Bucket) : Option (Filter × Int) :=
 bindO (impl_copyFilter a0) fun r1 =>
 cond (a1.2.1 == 1) (
 bindO (impl_FilterOk (a1.2.2, r1.2)) fun r2 =>
 cond (!r2) (
 bindO (impl_copyFilter a0) fun r3 =>
 some (r3, 0)) (
 some ((a1.2.2, r1.2), 1))) (
 cond (a1.2.1 == 2) (
 bindO (impl_AddVlan a0 a1.2.2) fun r4 =>
 cond (!r4.2) (
 bindO (impl_copyFilter a0) fun r5 =>
 some (r5, 0)) (
 some (r4.1, 1))) (
 cond (a1.2.1 == 3) (
 bindO (impl_DropVlan a0 a1.2.2) fun r6 =>
 cond (!r6.2) (
 bindO (impl_copyFilter a0) fun r7 =>
 some (r7, 0)) (
 some (r6.1, 1))) (
 cond (a1.2.1 == 4) (
 some (r1, a0.1)) (
 bindO (impl_copyFilter a0) fun r8 =>
 some (r8, 0)))))
def impl_HandleMessage (a0 : Mailbox) (a1 : Bucket) : Option (Mailbox × Int) :=
 bindO (impl_copyMailbox a0) fun r1 =>
 bindO (impl_MailboxOk a0) fun r2 =>
 cond (!r2) (
 some (r1, (-1))) (
 cond (a1.1 == a0.2.1) (
 some (r1, a0.2.2.1)) (
 cond (a1.1 != (IntKind.wrap .i64 (a0.2.1 + 1))) (
 some (r1, (-1))) (
 bindO (impl_command a0.1 a1) fun r3 =>
 some ((r3.1, a1.1, r3.2, IntKind.wrap .i64 (r1.2.2.2 + 1)), r3.2))))
def impl_commandBoxes (a0 : List Mailbox) (a1 : Int) (a2 : Bucket) : Option ((List Mailbox) × Int) :=
 bindO (impl_copyBoxes a0) fun r1 =>
 bindO (idx a0 a1) fun x2 =>
 bindO (impl_HandleMessage x2 a2) fun r3 =>
 bindO (idx r1 a1) fun x4 =>
 bindO (idx r1 a1) fun x5 =>
 bindO (impl_PortsOf (List.set r1 (Int.toNat a1) r3.1)) fun r6 =>
 cond r6.2 (
 some (List.set r1 (Int.toNat a1) r3.1, r3.2)) (
 bindO (idx a0 a1) fun x7 =>
 bindO (impl_copyMailbox x7) fun r8 =>
 bindO (idx (List.set r1 (Int.toNat a1) r3.1) a1) fun x9 =>
 bindO (some (List.set r1 (Int.toNat a1) r3.1)) fun x10 =>
 bindO (idx x10 a1) fun x11 =>
 bindO (idx (List.set x10 (Int.toNat a1) r8) a1) fun x12 =>
 bindO (some (List.set x10 (Int.toNat a1) r8)) fun x13 =>
 bindO (idx x13 a1) fun x14 =>
 bindO (idx (List.set x13 (Int.toNat a1) (x14.1, a2.1, x14.2.2)) a1) fun x15 =>
 bindO (some (List.set x13 (Int.toNat a1) (x14.1, a2.1, x14.2.2))) fun x16 =>
 bindO (idx x16 a1) fun x17 =>
 bindO (idx (List.set x16 (Int.toNat a1) (x17.1, x17.2.1, 0, x17.2.2.2)) a1) fun x18 =>
 bindO (idx (List.set x16 (Int.toNat a1) (x17.1, x17.2.1, 0, x17.2.2.2)) a1) fun x19 =>
 bindO (some (List.set x16 (Int.toNat a1) (x17.1, x17.2.1, 0, x17.2.2.2))) fun x20 =>
 bindO (idx x20 a1) fun x21 =>
 some (List.set x20 (Int.toNat a1) (x21.1, x21.2.1, x21.2.2.1, IntKind.wrap .i64 (x18.2.2.2 + 1)), 0))
def impl_CardCommandTo (a0 : Card) (a1 : Int) (a2 : Bucket) : Option (Card × Int) :=
 bindO (impl_copyCard a0) fun r1 =>
 bindO (
 bindO (impl_CardOk a0) fun r2 =>
 cond (!r2) (
 some true) (
 bindO (impl_between a1 0 (IntKind.wrap .i64 (((List.length a0.2.2.1 : Int)) - 1))) fun r3 =>
 some (!r3))) fun q4 =>
 cond q4 (
 some (r1, (-1))) (
 bindO (impl_commandBoxes a0.2.2.1 a1 a2) fun r5 =>
 bindO (idx r5.1 a1) fun x6 =>
 bindO (impl_copyFilter x6.1) fun r7 =>
 bindO (idx r1.1 a1) fun x8 =>
 bindO (idx r1.1 a1) fun x9 =>
 some ((List.set r1.1 (Int.toNat a1) (x9.1, x9.2.1, x9.2.2.1, x9.2.2.2.1, x9.2.2.2.2.1, x9.2.2.2.2.2.1, x9.2.2.2.2.2.2.1, r7, x9.2.2.2.2.2.2.2.2), r1.2.1, r5.1, r1.2.2.2), r5.2))
def laws_eqIntS_T4 {R : Type} (k0 : Int → Option R) (k1 : Bool → Int → Option R) (v0 : List Int) (v1 : List Int) (v4 : Bool) (nx : Int → Option R) (x : Int) : Option R :=
 cond (decide (x < ((List.length v0 : Int)))) (
 bindO (idx v0 x) fun x1 =>
 bindO (idx v1 x) fun x2 =>
 cond (x1 != x2) (
 k1 false x) (
 nx (IntKind.wrap .i64 (x + 1)))) (
 k0 x)
def laws_eqIntS (a0 : List Int) (a1 : List Int) : Option (Bool) :=
 cond (((List.length a0 : Int)) != ((List.length a1 : Int))) (
 some false) (
 iterL (laws_eqIntS_T4
   (fun y3 =>
 some true)
   (fun y4 y5 =>
 some y4) a0 a1 false) fuel 0)
def laws_eqStringS_T4 {R : Type} (k0 : Int → Option R) (k1 : Bool → Int → Option R) (v0 : List Bytes) (v1 : List Bytes) (v4 : Bool) (nx : Int → Option R) (x : Int) : Option R :=
 cond (decide (x < ((List.length v0 : Int)))) (
 bindO (idx v0 x) fun x1 =>
 bindO (idx v1 x) fun x2 =>
 cond (!(x1 == x2)) (
 k1 false x) (
 nx (IntKind.wrap .i64 (x + 1)))) (
 k0 x)
def laws_eqStringS (a0 : List Bytes) (a1 : List Bytes) : Option (Bool) :=
 cond (((List.length a0 : Int)) != ((List.length a1 : Int))) (
 some false) (
 iterL (laws_eqStringS_T4
   (fun y3 =>
 some true)
   (fun y4 y5 =>
 some y4) a0 a1 false) fuel 0)
def laws_eqMemory (a0 : List Bytes) (a1 : List Bytes) : Option (Bool) :=
 bindO (laws_eqStringS a0 a1) fun r1 =>
 cond (!r1) (
 some false) (
 some true)
def laws_eqMapping (a0 : Mapping) (a1 : Mapping) : Option (Bool) :=
 cond (a0.1 != a1.1) (
 some false) (
 cond (a0.2.1 != a1.2.1) (
 some false) (
 cond (a0.2.2.1 != a1.2.2.1) (
 some false) (
 cond (!(a0.2.2.2 == a1.2.2.2)) (
 some false) (
 some true))))
def laws_eqMappingS_T4 {R : Type} (k0 : Int → Option R) (k1 : Bool → Int → Option R) (v0 : List Mapping) (v1 : List Mapping) (v4 : Bool) (nx : Int → Option R) (x : Int) : Option R :=
 cond (decide (x < ((List.length v0 : Int)))) (
 bindO (idx v0 x) fun x1 =>
 bindO (idx v1 x) fun x2 =>
 bindO (laws_eqMapping x1 x2) fun r3 =>
 cond (!r3) (
 k1 false x) (
 nx (IntKind.wrap .i64 (x + 1)))) (
 k0 x)
def laws_eqMappingS (a0 : List Mapping) (a1 : List Mapping) : Option (Bool) :=
 cond (((List.length a0 : Int)) != ((List.length a1 : Int))) (
 some false) (
 iterL (laws_eqMappingS_T4
   (fun y4 =>
 some true)
   (fun y5 y6 =>
 some y5) a0 a1 false) fuel 0)
def laws_eqRing (a0 : Clock) (a1 : Clock) : Option (Bool) :=
 cond (a0.1 != a1.1) (
 some false) (
 cond (a0.2.1 != a1.2.1) (
 some false) (
 cond (a0.2.2.1 != a1.2.2.1) (
 some false) (
 cond (a0.2.2.2 != a1.2.2.2) (
 some false) (
 some true))))
def laws_eqPool (a0 : Pool) (a1 : Pool) : Option (Bool) :=
 cond (a0.1 != a1.1) (
 some false) (
 cond (a0.2.1 != a1.2.1) (
 some false) (
 cond (a0.2.2.1 != a1.2.2.1) (
 some false) (
 bindO (laws_eqIntS a0.2.2.2 a1.2.2.2) fun r1 =>
 cond (!r1) (
 some false) (
 some true))))
def laws_eqSent (a0 : Sent) (a1 : Sent) : Option (Bool) :=
 cond (a0.1 != a1.1) (
 some false) (
 cond (a0.2.1 != a1.2.1) (
 some false) (
 bindO (laws_eqIntS a0.2.2 a1.2.2) fun r1 =>
 cond (!r1) (
 some false) (
 some true)))
def laws_eqSentS_T4 {R : Type} (k0 : Int → Option R) (k1 : Bool → Int → Option R) (v0 : List Sent) (v1 : List Sent) (v4 : Bool) (nx : Int → Option R) (x : Int) : Option R :=
 cond (decide (x < ((List.length v0 : Int)))) (
 bindO (idx v0 x) fun x1 =>
 bindO (idx v1 x) fun x2 =>
 bindO (laws_eqSent x1 x2) fun r3 =>
 cond (!r3) (
 k1 false x) (
 nx (IntKind.wrap .i64 (x + 1)))) (
 k0 x)
def laws_eqSentS (a0 : List Sent) (a1 : List Sent) : Option (Bool) :=
 cond (((List.length a0 : Int)) != ((List.length a1 : Int))) (
 some false) (
 iterL (laws_eqSentS_T4
   (fun y4 =>
 some true)
   (fun y5 y6 =>
 some y5) a0 a1 false) fuel 0)
def laws_eqTxQueue (a0 : TxQueue) (a1 : TxQueue) : Option (Bool) :=
 bindO (laws_eqRing a0.1 a1.1) fun r1 =>
 cond (!r1) (
 some false) (
 bindO (laws_eqPool a0.2.1 a1.2.1) fun r2 =>
 cond (!r2) (
 some false) (
 bindO (laws_eqSentS a0.2.2.1 a1.2.2.1) fun r3 =>
 cond (!r3) (
 some false) (
 cond (a0.2.2.2 != a1.2.2.2) (
 some false) (
 some true))))
def laws_eqCompletionQueue (a0 : Bucket) (a1 : Bucket) : Option (Bool) :=
 cond (a0.1 != a1.1) (
 some false) (
 cond (a0.2.1 != a1.2.1) (
 some false) (
 cond (a0.2.2 != a1.2.2) (
 some false) (
 some true)))
def laws_eqSegment (a0 : Segment) (a1 : Segment) : Option (Bool) :=
 cond (a0.1 != a1.1) (
 some false) (
 cond (a0.2.1 != a1.2.1) (
 some false) (
 cond (a0.2.2.1 != a1.2.2.1) (
 some false) (
 cond (a0.2.2.2.1 != a1.2.2.2.1) (
 some false) (
 cond (a0.2.2.2.2.1 != a1.2.2.2.2.1) (
 some false) (
 cond (a0.2.2.2.2.2.1 != a1.2.2.2.2.2.1) (
 some false) (
 cond (a0.2.2.2.2.2.2.1 != a1.2.2.2.2.2.2.1) (
 some false) (
 cond (!(a0.2.2.2.2.2.2.2 == a1.2.2.2.2.2.2.2)) (
 some false) (
 some true))))))))
def laws_eqPacket (a0 : Packet) (a1 : Packet) : Option (Bool) :=
 cond (a0.1 != a1.1) (
 some false) (
 cond (a0.2.1 != a1.2.1) (
 some false) (
 cond (a0.2.2.1 != a1.2.2.1) (
 some false) (
 cond (a0.2.2.2.1 != a1.2.2.2.1) (
 some false) (
 cond (a0.2.2.2.2.1 != a1.2.2.2.2.1) (
 some false) (
 cond (a0.2.2.2.2.2.1 != a1.2.2.2.2.2.1) (
 some false) (
 cond (a0.2.2.2.2.2.2.1 != a1.2.2.2.2.2.2.1) (
 some false) (
 cond (a0.2.2.2.2.2.2.2.1 != a1.2.2.2.2.2.2.2.1) (
 some false) (
 bindO (laws_eqSegment a0.2.2.2.2.2.2.2.2 a1.2.2.2.2.2.2.2.2) fun r1 =>
 cond (!r1) (
 some false) (
 some true)))))))))
def laws_eqSuper (a0 : Super) (a1 : Super) : Option (Bool) :=
 bindO (laws_eqPacket a0.1 a1.1) fun r1 =>
 cond (!r1) (
 some false) (
 cond (a0.2.1 != a1.2.1) (
 some false) (
 cond (a0.2.2 != a1.2.2) (
 some false) (
 some true)))
def laws_eqRxQueue (a0 : RxQueue) (a1 : RxQueue) : Option (Bool) :=
 bindO (laws_eqRing a0.1 a1.1) fun r1 =>
 cond (!r1) (
 some false) (
 bindO (laws_eqCompletionQueue a0.2.1 a1.2.1) fun r2 =>
 cond (!r2) (
 some false) (
 bindO (laws_eqCompletionQueue a0.2.2.1 a1.2.2.1) fun r3 =>
 cond (!r3) (
 some false) (
 bindO (laws_eqSuper a0.2.2.2.1 a1.2.2.2.1) fun r4 =>
 cond (!r4) (
 some false) (
 cond (!(a0.2.2.2.2.1 == a1.2.2.2.2.1)) (
 some false) (
 cond (a0.2.2.2.2.2 != a1.2.2.2.2.2) (
 some false) (
 some true))))))
def laws_eqRxQueueS_T4 {R : Type} (k0 : Int → Option R) (k1 : Bool → Int → Option R) (v0 : List RxQueue) (v1 : List RxQueue) (v4 : Bool) (nx : Int → Option R) (x : Int) : Option R :=
 cond (decide (x < ((List.length v0 : Int)))) (
 bindO (idx v0 x) fun x1 =>
 bindO (idx v1 x) fun x2 =>
 bindO (laws_eqRxQueue x1 x2) fun r3 =>
 cond (!r3) (
 k1 false x) (
 nx (IntKind.wrap .i64 (x + 1)))) (
 k0 x)
def laws_eqRxQueueS (a0 : List RxQueue) (a1 : List RxQueue) : Option (Bool) :=
 cond (((List.length a0 : Int)) != ((List.length a1 : Int))) (
 some false) (
 iterL (laws_eqRxQueueS_T4
   (fun y4 =>
 some true)
   (fun y5 y6 =>
 some y5) a0 a1 false) fuel 0)
def laws_eqPoolS_T4 {R : Type} (k0 : Int → Option R) (k1 : Bool → Int → Option R) (v0 : List Pool) (v1 : List Pool) (v4 : Bool) (nx : Int → Option R) (x : Int) : Option R :=
 cond (decide (x < ((List.length v0 : Int)))) (
 bindO (idx v0 x) fun x1 =>
 bindO (idx v1 x) fun x2 =>
 bindO (laws_eqPool x1 x2) fun r3 =>
 cond (!r3) (
 k1 false x) (
 nx (IntKind.wrap .i64 (x + 1)))) (
 k0 x)
def laws_eqPoolS (a0 : List Pool) (a1 : List Pool) : Option (Bool) :=
 cond (((List.length a0 : Int)) != ((List.length a1 : Int))) (
 some false) (
 iterL (laws_eqPoolS_T4
   (fun y4 =>
 some true)
   (fun y5 y6 =>
 some y5) a0 a1 false) fuel 0)
def laws_eqVector (a0 : Vector) (a1 : Vector) : Option (Bool) :=
 cond (a0.1 != a1.1) (
 some false) (
 cond (a0.2.1 != a1.2.1) (
 some false) (
 cond (a0.2.2.1 != a1.2.2.1) (
 some false) (
 cond (a0.2.2.2.1 != a1.2.2.2.1) (
 some false) (
 cond (!(a0.2.2.2.2.1 == a1.2.2.2.2.1)) (
 some false) (
 cond (!(a0.2.2.2.2.2 == a1.2.2.2.2.2)) (
 some false) (
 some true))))))
def laws_eqVectorS_T4 {R : Type} (k0 : Int → Option R) (k1 : Bool → Int → Option R) (v0 : List Vector) (v1 : List Vector) (v4 : Bool) (nx : Int → Option R) (x : Int) : Option R :=
 cond (decide (x < ((List.length v0 : Int)))) (
 bindO (idx v0 x) fun x1 =>
 bindO (idx v1 x) fun x2 =>
 bindO (laws_eqVector x1 x2) fun r3 =>
 cond (!r3) (
 k1 false x) (
 nx (IntKind.wrap .i64 (x + 1)))) (
 k0 x)
def laws_eqVectorS (a0 : List Vector) (a1 : List Vector) : Option (Bool) :=
 cond (((List.length a0 : Int)) != ((List.length a1 : Int))) (
 some false) (
 iterL (laws_eqVectorS_T4
   (fun y4 =>
 some true)
   (fun y5 y6 =>
 some y5) a0 a1 false) fuel 0)
def laws_eqBoolS_T4 {R : Type} (k0 : Int → Option R) (k1 : Bool → Int → Option R) (v0 : List Bool) (v1 : List Bool) (v4 : Bool) (nx : Int → Option R) (x : Int) : Option R :=
 cond (decide (x < ((List.length v0 : Int)))) (
 bindO (idx v0 x) fun x1 =>
 bindO (idx v1 x) fun x2 =>
 cond (!(x1 == x2)) (
 k1 false x) (
 nx (IntKind.wrap .i64 (x + 1)))) (
 k0 x)
def laws_eqBoolS (a0 : List Bool) (a1 : List Bool) : Option (Bool) :=
 cond (((List.length a0 : Int)) != ((List.length a1 : Int))) (
 some false) (
 iterL (laws_eqBoolS_T4
   (fun y3 =>
 some true)
   (fun y4 y5 =>
 some y4) a0 a1 false) fuel 0)
def laws_eqFilter (a0 : Filter) (a1 : Filter) : Option (Bool) :=
 cond (a0.1 != a1.1) (
 some false) (
 cond (!(a0.2.1 == a1.2.1)) (
 some false) (
 bindO (laws_eqIntS a0.2.2 a1.2.2) fun r1 =>
 cond (!r1) (
 some false) (
 some true)))
def laws_eqRule (a0 : Rule) (a1 : Rule) : Option (Bool) :=
 cond (a0.1 != a1.1) (
 some false) (
 cond (a0.2.1 != a1.2.1) (
 some false) (
 cond (a0.2.2.1 != a1.2.2.1) (
 some false) (
 cond (a0.2.2.2.1 != a1.2.2.2.1) (
 some false) (
 cond (a0.2.2.2.2.1 != a1.2.2.2.2.1) (
 some false) (
 cond (a0.2.2.2.2.2.1 != a1.2.2.2.2.2.1) (
 some false) (
 cond (a0.2.2.2.2.2.2.1 != a1.2.2.2.2.2.2.1) (
 some false) (
 cond (a0.2.2.2.2.2.2.2.1 != a1.2.2.2.2.2.2.2.1) (
 some false) (
 cond (a0.2.2.2.2.2.2.2.2 != a1.2.2.2.2.2.2.2.2) (
 some false) (
 some true)))))))))
def laws_eqRuleS_T4 {R : Type} (k0 : Int → Option R) (k1 : Bool → Int → Option R) (v0 : List Rule) (v1 : List Rule) (v4 : Bool) (nx : Int → Option R) (x : Int) : Option R :=
 cond (decide (x < ((List.length v0 : Int)))) (
 bindO (idx v0 x) fun x1 =>
 bindO (idx v1 x) fun x2 =>
 bindO (laws_eqRule x1 x2) fun r3 =>
 cond (!r3) (
 k1 false x) (
 nx (IntKind.wrap .i64 (x + 1)))) (
 k0 x)
def laws_eqRuleS (a0 : List Rule) (a1 : List Rule) : Option (Bool) :=
 cond (((List.length a0 : Int)) != ((List.length a1 : Int))) (
 some false) (
 iterL (laws_eqRuleS_T4
   (fun y4 =>
 some true)
   (fun y5 y6 =>
 some y5) a0 a1 false) fuel 0)
def laws_eqFlow (a0 : Flow) (a1 : Flow) : Option (Bool) :=
 cond (a0.1 != a1.1) (
 some false) (
 cond (a0.2.1 != a1.2.1) (
 some false) (
 cond (a0.2.2.1 != a1.2.2.1) (
 some false) (
 cond (a0.2.2.2.1 != a1.2.2.2.1) (
 some false) (
 cond (a0.2.2.2.2 != a1.2.2.2.2) (
 some false) (
 some true)))))
def laws_eqSlot (a0 : Slot) (a1 : Slot) : Option (Bool) :=
 cond (a0.1 != a1.1) (
 some false) (
 bindO (laws_eqFlow a0.2.1 a1.2.1) fun r1 =>
 cond (!r1) (
 some false) (
 cond (a0.2.2 != a1.2.2) (
 some false) (
 some true)))
def laws_eqSlotS_T4 {R : Type} (k0 : Int → Option R) (k1 : Bool → Int → Option R) (v0 : List Slot) (v1 : List Slot) (v4 : Bool) (nx : Int → Option R) (x : Int) : Option R :=
 cond (decide (x < ((List.length v0 : Int)))) (
 bindO (idx v0 x) fun x1 =>
 bindO (idx v1 x) fun x2 =>
 bindO (laws_eqSlot x1 x2) fun r3 =>
 cond (!r3) (
 k1 false x) (
 nx (IntKind.wrap .i64 (x + 1)))) (
 k0 x)
def laws_eqSlotS (a0 : List Slot) (a1 : List Slot) : Option (Bool) :=
 cond (((List.length a0 : Int)) != ((List.length a1 : Int))) (
 some false) (
 iterL (laws_eqSlotS_T4
   (fun y4 =>
 some true)
   (fun y5 y6 =>
 some y5) a0 a1 false) fuel 0)
def laws_eqFlowTable (a0 : List Slot) (a1 : List Slot) : Option (Bool) :=
 bindO (laws_eqSlotS a0 a1) fun r1 =>
 cond (!r1) (
 some false) (
 some true)
def laws_eqSpread (a0 : Spread) (a1 : Spread) : Option (Bool) :=
 cond (!(a0.1 == a1.1)) (
 some false) (
 bindO (laws_eqIntS a0.2 a1.2) fun r1 =>
 cond (!r1) (
 some false) (
 some true))
def laws_eqSteering (a0 : Steering) (a1 : Steering) : Option (Bool) :=
 bindO (laws_eqRuleS a0.1 a1.1) fun r1 =>
 cond (!r1) (
 some false) (
 bindO (laws_eqFlowTable a0.2.1 a1.2.1) fun r2 =>
 cond (!r2) (
 some false) (
 bindO (laws_eqSpread a0.2.2 a1.2.2) fun r3 =>
 cond (!r3) (
 some false) (
 some true)))
def laws_eqStream (a0 : Stream) (a1 : Stream) : Option (Bool) :=
 bindO (laws_eqFlow a0.1 a1.1) fun r1 =>
 cond (!r1) (
 some false) (
 cond (a0.2.1 != a1.2.1) (
 some false) (
 cond (!(a0.2.2.1 == a1.2.2.1)) (
 some false) (
 cond (!(a0.2.2.2 == a1.2.2.2)) (
 some false) (
 some true))))
def laws_eqStreamS_T4 {R : Type} (k0 : Int → Option R) (k1 : Bool → Int → Option R) (v0 : List Stream) (v1 : List Stream) (v4 : Bool) (nx : Int → Option R) (x : Int) : Option R :=
 cond (decide (x < ((List.length v0 : Int)))) (
 bindO (idx v0 x) fun x1 =>
 bindO (idx v1 x) fun x2 =>
 bindO (laws_eqStream x1 x2) fun r3 =>
 cond (!r3) (
 k1 false x) (
 nx (IntKind.wrap .i64 (x + 1)))) (
 k0 x)
def laws_eqStreamS (a0 : List Stream) (a1 : List Stream) : Option (Bool) :=
 cond (((List.length a0 : Int)) != ((List.length a1 : Int))) (
 some false) (
 iterL (laws_eqStreamS_T4
   (fun y4 =>
 some true)
   (fun y5 y6 =>
 some y5) a0 a1 false) fuel 0)
def laws_eqCounters (a0 : Flow) (a1 : Flow) : Option (Bool) :=
 cond (a0.1 != a1.1) (
 some false) (
 cond (a0.2.1 != a1.2.1) (
 some false) (
 cond (a0.2.2.1 != a1.2.2.1) (
 some false) (
 cond (a0.2.2.2.1 != a1.2.2.2.1) (
 some false) (
 cond (a0.2.2.2.2 != a1.2.2.2.2) (
 some false) (
 some true)))))
def laws_eqHost (a0 : Host) (a1 : Host) : Option (Bool) :=
 bindO (laws_eqMemory a0.1 a1.1) fun r1 =>
 cond (!r1) (
 some false) (
 bindO (laws_eqMappingS a0.2.1 a1.2.1) fun r2 =>
 cond (!r2) (
 some false) (
 bindO (laws_eqTxQueue a0.2.2.1 a1.2.2.1) fun r3 =>
 cond (!r3) (
 some false) (
 bindO (laws_eqRxQueueS a0.2.2.2.1 a1.2.2.2.1) fun r4 =>
 cond (!r4) (
 some false) (
 bindO (laws_eqPoolS a0.2.2.2.2.1 a1.2.2.2.2.1) fun r5 =>
 cond (!r5) (
 some false) (
 bindO (laws_eqVectorS a0.2.2.2.2.2.1 a1.2.2.2.2.2.1) fun r6 =>
 cond (!r6) (
 some false) (
 bindO (laws_eqBoolS a0.2.2.2.2.2.2.1 a1.2.2.2.2.2.2.1) fun r7 =>
 cond (!r7) (
 some false) (
 bindO (laws_eqFilter a0.2.2.2.2.2.2.2.1 a1.2.2.2.2.2.2.2.1) fun r8 =>
 cond (!r8) (
 some false) (
 bindO (laws_eqSteering a0.2.2.2.2.2.2.2.2.1 a1.2.2.2.2.2.2.2.2.1) fun r9 =>
 cond (!r9) (
 some false) (
 bindO (laws_eqStreamS a0.2.2.2.2.2.2.2.2.2.1 a1.2.2.2.2.2.2.2.2.2.1) fun r10 =>
 cond (!r10) (
 some false) (
 cond (!(a0.2.2.2.2.2.2.2.2.2.2.1 == a1.2.2.2.2.2.2.2.2.2.2.1)) (
 some false) (
 bindO (laws_eqStringS a0.2.2.2.2.2.2.2.2.2.2.2.1 a1.2.2.2.2.2.2.2.2.2.2.2.1) fun r11 =>
 cond (!r11) (
 some false) (
 bindO (laws_eqIntS a0.2.2.2.2.2.2.2.2.2.2.2.2.1 a1.2.2.2.2.2.2.2.2.2.2.2.2.1) fun r12 =>
 cond (!r12) (
 some false) (
 bindO (laws_eqIntS a0.2.2.2.2.2.2.2.2.2.2.2.2.2.1 a1.2.2.2.2.2.2.2.2.2.2.2.2.2.1) fun r13 =>
 cond (!r13) (
 some false) (
 bindO (laws_eqCounters a0.2.2.2.2.2.2.2.2.2.2.2.2.2.2 a1.2.2.2.2.2.2.2.2.2.2.2.2.2.2) fun r14 =>
 cond (!r14) (
 some false) (
 some true)))))))))))))))
def laws_eqHostS_T4 {R : Type} (k0 : Int → Option R) (k1 : Bool → Int → Option R) (v0 : List Host) (v1 : List Host) (v4 : Bool) (nx : Int → Option R) (x : Int) : Option R :=
 cond (decide (x < ((List.length v0 : Int)))) (
 bindO (idx v0 x) fun x1 =>
 bindO (idx v1 x) fun x2 =>
 bindO (laws_eqHost x1 x2) fun r3 =>
 cond (!r3) (
 k1 false x) (
 nx (IntKind.wrap .i64 (x + 1)))) (
 k0 x)
def laws_eqHostS (a0 : List Host) (a1 : List Host) : Option (Bool) :=
 cond (((List.length a0 : Int)) != ((List.length a1 : Int))) (
 some false) (
 iterL (laws_eqHostS_T4
   (fun y4 =>
 some true)
   (fun y5 y6 =>
 some y5) a0 a1 false) fuel 0)
def laws_eqBucket (a0 : Bucket) (a1 : Bucket) : Option (Bool) :=
 cond (a0.1 != a1.1) (
 some false) (
 cond (a0.2.1 != a1.2.1) (
 some false) (
 cond (a0.2.2 != a1.2.2) (
 some false) (
 some true)))
def laws_eqVirtualFunction (a0 : VirtualFunction) (a1 : VirtualFunction) : Option (Bool) :=
 cond (a0.1 != a1.1) (
 some false) (
 cond (a0.2.1 != a1.2.1) (
 some false) (
 bindO (laws_eqBucket a0.2.2.1 a1.2.2.1) fun r1 =>
 cond (!r1) (
 some false) (
 cond (!(a0.2.2.2.1 == a1.2.2.2.1)) (
 some false) (
 cond (a0.2.2.2.2.1 != a1.2.2.2.2.1) (
 some false) (
 cond (a0.2.2.2.2.2 != a1.2.2.2.2.2) (
 some false) (
 some true))))))
def laws_eqVirtualFunctionS_T4 {R : Type} (k0 : Int → Option R) (k1 : Bool → Int → Option R) (v0 : List VirtualFunction) (v1 : List VirtualFunction) (v4 : Bool) (nx : Int → Option R) (x : Int) : Option R :=
 cond (decide (x < ((List.length v0 : Int)))) (
 bindO (idx v0 x) fun x1 =>
 bindO (idx v1 x) fun x2 =>
 bindO (laws_eqVirtualFunction x1 x2) fun r3 =>
 cond (!r3) (
 k1 false x) (
 nx (IntKind.wrap .i64 (x + 1)))) (
 k0 x)
def laws_eqVirtualFunctionS (a0 : List VirtualFunction) (a1 : List VirtualFunction) : Option (Bool) :=
 cond (((List.length a0 : Int)) != ((List.length a1 : Int))) (
 some false) (
 iterL (laws_eqVirtualFunctionS_T4
   (fun y4 =>
 some true)
   (fun y5 y6 =>
 some y5) a0 a1 false) fuel 0)
def laws_eqMailbox (a0 : Mailbox) (a1 : Mailbox) : Option (Bool) :=
 bindO (laws_eqFilter a0.1 a1.1) fun r1 =>
 cond (!r1) (
 some false) (
 cond (a0.2.1 != a1.2.1) (
 some false) (
 cond (a0.2.2.1 != a1.2.2.1) (
 some false) (
 cond (a0.2.2.2 != a1.2.2.2) (
 some false) (
 some true))))
def laws_eqMailboxS_T4 {R : Type} (k0 : Int → Option R) (k1 : Bool → Int → Option R) (v0 : List Mailbox) (v1 : List Mailbox) (v4 : Bool) (nx : Int → Option R) (x : Int) : Option R :=
 cond (decide (x < ((List.length v0 : Int)))) (
 bindO (idx v0 x) fun x1 =>
 bindO (idx v1 x) fun x2 =>
 bindO (laws_eqMailbox x1 x2) fun r3 =>
 cond (!r3) (
 k1 false x) (
 nx (IntKind.wrap .i64 (x + 1)))) (
 k0 x)
def laws_eqMailboxS (a0 : List Mailbox) (a1 : List Mailbox) : Option (Bool) :=
 cond (((List.length a0 : Int)) != ((List.length a1 : Int))) (
 some false) (
 iterL (laws_eqMailboxS_T4
   (fun y4 =>
 some true)
   (fun y5 y6 =>
 some y5) a0 a1 false) fuel 0)
def laws_eqFlash (a0 : List Bytes) (a1 : List Bytes) : Option (Bool) :=
 bindO (laws_eqStringS a0 a1) fun r1 =>
 cond (!r1) (
 some false) (
 some true)
def laws_eqClock (a0 : Clock) (a1 : Clock) : Option (Bool) :=
 cond (a0.1 != a1.1) (
 some false) (
 cond (a0.2.1 != a1.2.1) (
 some false) (
 cond (a0.2.2.1 != a1.2.2.1) (
 some false) (
 cond (a0.2.2.2 != a1.2.2.2) (
 some false) (
 some true))))
def laws_eqCard (a0 : Card) (a1 : Card) : Option (Bool) :=
 bindO (laws_eqHostS a0.1 a1.1) fun r1 =>
 cond (!r1) (
 some false) (
 bindO (laws_eqVirtualFunctionS a0.2.1 a1.2.1) fun r2 =>
 cond (!r2) (
 some false) (
 bindO (laws_eqMailboxS a0.2.2.1 a1.2.2.1) fun r3 =>
 cond (!r3) (
 some false) (
 bindO (laws_eqFlash a0.2.2.2.1 a1.2.2.2.1) fun r4 =>
 cond (!r4) (
 some false) (
 bindO (laws_eqClock a0.2.2.2.2.1 a1.2.2.2.2.1) fun r5 =>
 cond (!r5) (
 some false) (
 bindO (laws_eqIntS a0.2.2.2.2.2.1 a1.2.2.2.2.2.1) fun r6 =>
 cond (!r6) (
 some false) (
 bindO (laws_eqStringS a0.2.2.2.2.2.2 a1.2.2.2.2.2.2) fun r7 =>
 cond (!r7) (
 some false) (
 some true)))))))
def laws_markIntS_T2 {R : Type} (k0 : (List Int) → Int → Int → (List Int) → Option R) (nx : ((List Int) × Int × Int × List Int) → Option R) (x : (List Int) × Int × Int × List Int) : Option R :=
 cond (decide (x.2.2.1 < ((List.length x.1 : Int)))) (
 bindO (idx x.1 x.2.2.1) fun x1 =>
 bindO (idx x.2.2.2 x.2.2.1) fun x2 =>
 nx (List.set x.2.2.2 (Int.toNat x.2.2.1) x.2.1, IntKind.wrap .i64 (x.2.1 + 1), IntKind.wrap .i64 (x.2.2.1 + 1), List.set x.2.2.2 (Int.toNat x.2.2.1) x.2.1)) (
 k0 x.2.2.2 x.2.1 x.2.2.1 x.2.2.2)
def laws_markIntS (a0 : List Int) (a1 : Int) : Option (Int × List Int) :=
 iterL (laws_markIntS_T2
   (fun y3 y4 y5 y6 =>
 some (y4, y6))) fuel (a0, a1, 0, a0)
def laws_markText_T4 {R : Type} (k0 : Int → Bytes → Option R) (nx : (Int × Bytes) → Option R) (x : Int × Bytes) : Option R :=
 cond (decide (x.1 > 0)) (
 if 10 = 0 then none else (
 room (List.length (bytesOf ([(IntKind.wrap .u8 (IntKind.wrap .i64 (48 + (Int.tmod x.1 10))))])) + List.length x.2) (
 if 10 = 0 then none else (
 nx (IntKind.wrap .i64 (Int.tdiv x.1 10), (bytesOf ([(IntKind.wrap .u8 (IntKind.wrap .i64 (48 + (Int.tmod x.1 10))))])) ++ x.2))))) (
 k0 x.1 x.2)
def laws_markText (a0 : Int) : Option (Bytes) :=
 cond (decide (a0 ≤ 0)) (
 some ([109, 48] : Bytes)) (
 iterL (laws_markText_T4
   (fun y1 y2 =>
 room (List.length ([109] : Bytes) + List.length y2) (
 some (([109] : Bytes) ++ y2)))) fuel (a0, ([] : Bytes)))
def laws_markStringS_T2 {R : Type} (k0 : (List Bytes) → Int → Int → (List Bytes) → Option R) (nx : ((List Bytes) × Int × Int × List Bytes) → Option R) (x : (List Bytes) × Int × Int × List Bytes) : Option R :=
 cond (decide (x.2.2.1 < ((List.length x.1 : Int)))) (
 bindO (laws_markText x.2.1) fun r1 =>
 bindO (idx x.1 x.2.2.1) fun x2 =>
 bindO (idx x.2.2.2 x.2.2.1) fun x3 =>
 nx (List.set x.2.2.2 (Int.toNat x.2.2.1) r1, IntKind.wrap .i64 (x.2.1 + 1), IntKind.wrap .i64 (x.2.2.1 + 1), List.set x.2.2.2 (Int.toNat x.2.2.1) r1)) (
 k0 x.2.2.2 x.2.1 x.2.2.1 x.2.2.2)
def laws_markStringS (a0 : List Bytes) (a1 : Int) : Option (Int × List Bytes) :=
 iterL (laws_markStringS_T2
   (fun y4 y5 y6 y7 =>
 some (y5, y7))) fuel (a0, a1, 0, a0)
def laws_markMappingS_T2 {R : Type} (k0 : (List Mapping) → Int → Int → (List Mapping) → Option R) (nx : ((List Mapping) × Int × Int × List Mapping) → Option R) (x : (List Mapping) × Int × Int × List Mapping) : Option R := cond (decide (x.2.2.1 < (List.length x.1 : Int))) (runW (t := TMapping) (fun _ => some []) x.2.2.1 (.pair (.int .i64) (.pair (.int .i64) (.pair (.int .i64) .bool))) (fun y => y) (fun _ v => v) x.1 x.2.2.2 x.2.1 fun L k => nx (L, k, IntKind.wrap .i64 (x.2.2.1 + 1), L)) (k0 x.2.2.2 x.2.1 x.2.2.1 x.2.2.2)
def laws_markMappingS (a0 : List Mapping) (a1 : Int) : Option (Int × List Mapping) :=
 iterL (laws_markMappingS_T2
   (fun y12 y13 y14 y15 =>
 some (y13, y15))) fuel (a0, a1, 0, a0)
def laws_markSentS_T2 {R : Type} (k0 : (List Sent) → Int → Int → (List Sent) → Option R) (nx : ((List Sent) × Int × Int × List Sent) → Option R) (x : (List Sent) × Int × Int × List Sent) : Option R := cond (decide (x.2.2.1 < (List.length x.1 : Int))) (runW (t := TSent) (fun _ => some []) x.2.2.1 (.pair (.int .i64) (.pair (.int .i64) (.sl (e := (.int .i64)) laws_markIntS))) (fun y => y) (fun _ v => v) x.1 x.2.2.2 x.2.1 fun L k => nx (L, k, IntKind.wrap .i64 (x.2.2.1 + 1), L)) (k0 x.2.2.2 x.2.1 x.2.2.1 x.2.2.2)
def laws_markSentS (a0 : List Sent) (a1 : Int) : Option (Int × List Sent) :=
 iterL (laws_markSentS_T2
   (fun y10 y11 y12 y13 =>
 some (y11, y13))) fuel (a0, a1, 0, a0)
def laws_markRxQueueS_T2 {R : Type} (k0 : (List RxQueue) → Int → Int → (List RxQueue) → Option R) (nx : ((List RxQueue) × Int × Int × List RxQueue) → Option R) (x : (List RxQueue) × Int × Int × List RxQueue) : Option R := cond (decide (x.2.2.1 < (List.length x.1 : Int))) (runW (t := TRxQueue) laws_markText x.2.2.1 (.pair (.pair (.int .i64) (.pair (.int .i64) (.pair (.int .i64) (.int .i64)))) (.pair (.pair (.int .i64) (.pair (.int .i64) (.int .i64))) (.pair (.pair (.int .i64) (.pair (.int .i64) (.int .i64))) (.pair (.pair (.pair (.int .i64) (.pair (.int .i64) (.pair (.int .i64) (.pair (.int .i64) (.pair (.int .i64) (.pair (.int .i64) (.pair (.int .i64) (.pair (.int .i64) (.pair (.int .i64) (.pair (.int .i64) (.pair (.int .i64) (.pair (.int .i64) (.pair (.int .i64) (.pair (.int .i64) (.pair (.int .i64) .str))))))))))))))) (.pair (.int .i64) (.int .i64))) (.pair .bool (.int .i64)))))) (fun y => y) (fun _ v => v) x.1 x.2.2.2 x.2.1 fun L k => nx (L, k, IntKind.wrap .i64 (x.2.2.1 + 1), L)) (k0 x.2.2.2 x.2.1 x.2.2.1 x.2.2.2)
def laws_markRxQueueS (a0 : List RxQueue) (a1 : Int) : Option (Int × List RxQueue) :=
 iterL (laws_markRxQueueS_T2
   (fun y91 y92 y93 y94 =>
 some (y92, y94))) fuel (a0, a1, 0, a0)
def laws_markPoolS_T2 {R : Type} (k0 : (List Pool) → Int → Int → (List Pool) → Option R) (nx : ((List Pool) × Int × Int × List Pool) → Option R) (x : (List Pool) × Int × Int × List Pool) : Option R := cond (decide (x.2.2.1 < (List.length x.1 : Int))) (runW (t := TPool) (fun _ => some []) x.2.2.1 (.pair (.int .i64) (.pair (.int .i64) (.pair (.int .i64) (.sl (e := (.int .i64)) laws_markIntS)))) (fun y => y) (fun _ v => v) x.1 x.2.2.2 x.2.1 fun L k => nx (L, k, IntKind.wrap .i64 (x.2.2.1 + 1), L)) (k0 x.2.2.2 x.2.1 x.2.2.1 x.2.2.2)
def laws_markPoolS (a0 : List Pool) (a1 : Int) : Option (Int × List Pool) :=
 iterL (laws_markPoolS_T2
   (fun y13 y14 y15 y16 =>
 some (y14, y16))) fuel (a0, a1, 0, a0)
def laws_markVectorS_T2 {R : Type} (k0 : (List Vector) → Int → Int → (List Vector) → Option R) (nx : ((List Vector) × Int × Int × List Vector) → Option R) (x : (List Vector) × Int × Int × List Vector) : Option R := cond (decide (x.2.2.1 < (List.length x.1 : Int))) (runW (t := TVector) (fun _ => some []) x.2.2.1 (.pair (.int .i64) (.pair (.int .i64) (.pair (.int .i64) (.pair (.int .i64) (.pair .bool .bool))))) (fun y => y) (fun _ v => v) x.1 x.2.2.2 x.2.1 fun L k => nx (L, k, IntKind.wrap .i64 (x.2.2.1 + 1), L)) (k0 x.2.2.2 x.2.1 x.2.2.1 x.2.2.2)
def laws_markVectorS (a0 : List Vector) (a1 : Int) : Option (Int × List Vector) :=
 iterL (laws_markVectorS_T2
   (fun y18 y19 y20 y21 =>
 some (y19, y21))) fuel (a0, a1, 0, a0)
def laws_markBoolS_T2 {R : Type} (k0 : (List Bool) → Int → Int → (List Bool) → Option R) (nx : ((List Bool) × Int × Int × List Bool) → Option R) (x : (List Bool) × Int × Int × List Bool) : Option R :=
 cond (decide (x.2.2.1 < ((List.length x.1 : Int)))) (
 if 3 = 0 then none else (
 bindO (idx x.1 x.2.2.1) fun x1 =>
 bindO (idx x.2.2.2 x.2.2.1) fun x2 =>
 nx (List.set x.2.2.2 (Int.toNat x.2.2.1) ((Int.tmod x.2.1 3) == 0), IntKind.wrap .i64 (x.2.1 + 1), IntKind.wrap .i64 (x.2.2.1 + 1), List.set x.2.2.2 (Int.toNat x.2.2.1) ((Int.tmod x.2.1 3) == 0)))) (
 k0 x.2.2.2 x.2.1 x.2.2.1 x.2.2.2)
def laws_markBoolS (a0 : List Bool) (a1 : Int) : Option (Int × List Bool) :=
 iterL (laws_markBoolS_T2
   (fun y3 y4 y5 y6 =>
 some (y4, y6))) fuel (a0, a1, 0, a0)
def laws_markRuleS_T2 {R : Type} (k0 : (List Rule) → Int → Int → (List Rule) → Option R) (nx : ((List Rule) × Int × Int × List Rule) → Option R) (x : (List Rule) × Int × Int × List Rule) : Option R := cond (decide (x.2.2.1 < (List.length x.1 : Int))) (runW (t := TRule) (fun _ => some []) x.2.2.1 (.pair (.int .i64) (.pair (.int .i64) (.pair (.int .i64) (.pair (.int .i64) (.pair (.int .i64) (.pair (.int .i64) (.pair (.int .i64) (.pair (.int .i64) (.int .i64))))))))) (fun y => y) (fun _ v => v) x.1 x.2.2.2 x.2.1 fun L k => nx (L, k, IntKind.wrap .i64 (x.2.2.1 + 1), L)) (k0 x.2.2.2 x.2.1 x.2.2.1 x.2.2.2)
def laws_markRuleS (a0 : List Rule) (a1 : Int) : Option (Int × List Rule) :=
 iterL (laws_markRuleS_T2
   (fun y27 y28 y29 y30 =>
 some (y28, y30))) fuel (a0, a1, 0, a0)
def laws_markSlotS_T2 {R : Type} (k0 : (List Slot) → Int → Int → (List Slot) → Option R) (nx : ((List Slot) × Int × Int × List Slot) → Option R) (x : (List Slot) × Int × Int × List Slot) : Option R := cond (decide (x.2.2.1 < (List.length x.1 : Int))) (runW (t := TSlot) (fun _ => some []) x.2.2.1 (.pair (.int .i64) (.pair (.pair (.int .i64) (.pair (.int .i64) (.pair (.int .i64) (.pair (.int .i64) (.int .i64))))) (.int .i64))) (fun y => y) (fun _ v => v) x.1 x.2.2.2 x.2.1 fun L k => nx (L, k, IntKind.wrap .i64 (x.2.2.1 + 1), L)) (k0 x.2.2.2 x.2.1 x.2.2.1 x.2.2.2)
def laws_markSlotS (a0 : List Slot) (a1 : Int) : Option (Int × List Slot) :=
 iterL (laws_markSlotS_T2
   (fun y21 y22 y23 y24 =>
 some (y22, y24))) fuel (a0, a1, 0, a0)
def laws_markStreamS_T2 {R : Type} (k0 : (List Stream) → Int → Int → (List Stream) → Option R) (nx : ((List Stream) × Int × Int × List Stream) → Option R) (x : (List Stream) × Int × Int × List Stream) : Option R := cond (decide (x.2.2.1 < (List.length x.1 : Int))) (runW (t := TStream) laws_markText x.2.2.1 (.pair (.pair (.int .i64) (.pair (.int .i64) (.pair (.int .i64) (.pair (.int .i64) (.int .i64))))) (.pair (.int .i64) (.pair .str .bool))) (fun y => y) (fun _ v => v) x.1 x.2.2.2 x.2.1 fun L k => nx (L, k, IntKind.wrap .i64 (x.2.2.1 + 1), L)) (k0 x.2.2.2 x.2.1 x.2.2.1 x.2.2.2)
def laws_markStreamS (a0 : List Stream) (a1 : Int) : Option (Int × List Stream) :=
 iterL (laws_markStreamS_T2
   (fun y25 y26 y27 y28 =>
 some (y26, y28))) fuel (a0, a1, 0, a0)
def laws_markHostS_T2 {R : Type} (k0 : (List Host) → Int → Int → (List Host) → Option R) (nx : ((List Host) × Int × Int × List Host) → Option R) (x : (List Host) × Int × Int × List Host) : Option R := cond (decide (x.2.2.1 < (List.length x.1 : Int))) (runW (t := THost) laws_markText x.2.2.1 (.pair (.sl (e := .str) laws_markStringS) (.pair (.sl (e := TMapping) laws_markMappingS) (.pair (.pair (.pair (.int .i64) (.pair (.int .i64) (.pair (.int .i64) (.int .i64)))) (.pair (.pair (.int .i64) (.pair (.int .i64) (.pair (.int .i64) (.sl (e := (.int .i64)) laws_markIntS)))) (.pair (.sl (e := TSent) laws_markSentS) (.int .i64)))) (.pair (.sl (e := TRxQueue) laws_markRxQueueS) (.pair (.sl (e := TPool) laws_markPoolS) (.pair (.sl (e := TVector) laws_markVectorS) (.pair (.sl (e := .bool) laws_markBoolS) (.pair (.pair (.int .i64) (.pair .bool (.sl (e := (.int .i64)) laws_markIntS))) (.pair (.pair (.sl (e := TRule) laws_markRuleS) (.pair (.sl (e := TSlot) laws_markSlotS) (.pair .str (.sl (e := (.int .i64)) laws_markIntS)))) (.pair (.sl (e := TStream) laws_markStreamS) (.pair .bool (.pair (.sl (e := .str) laws_markStringS) (.pair (.sl (e := (.int .i64)) laws_markIntS) (.pair (.sl (e := (.int .i64)) laws_markIntS) (.pair (.int .i64) (.pair (.int .i64) (.pair (.int .i64) (.pair (.int .i64) (.int .i64))))))))))))))))))) (fun y => y) (fun _ v => v) x.1 x.2.2.2 x.2.1 fun L k => nx (L, k, IntKind.wrap .i64 (x.2.2.1 + 1), L)) (k0 x.2.2.2 x.2.1 x.2.2.1 x.2.2.2)
def laws_markHostS (a0 : List Host) (a1 : Int) : Option (Int × List Host) :=
 iterL (laws_markHostS_T2
   (fun y116 y117 y118 y119 =>
 some (y117, y119))) fuel (a0, a1, 0, a0)
def laws_markVirtualFunctionS_T2 {R : Type} (k0 : (List VirtualFunction) → Int → Int → (List VirtualFunction) → Option R) (nx : ((List VirtualFunction) × Int × Int × List VirtualFunction) → Option R) (x : (List VirtualFunction) × Int × Int × List VirtualFunction) : Option R := cond (decide (x.2.2.1 < (List.length x.1 : Int))) (runW (t := TVirtualFunction) (fun _ => some []) x.2.2.1 (.pair (.int .i64) (.pair (.int .i64) (.pair (.pair (.int .i64) (.pair (.int .i64) (.int .i64))) (.pair .bool (.pair (.int .i64) (.int .i64)))))) (fun y => y) (fun _ v => v) x.1 x.2.2.2 x.2.1 fun L k => nx (L, k, IntKind.wrap .i64 (x.2.2.1 + 1), L)) (k0 x.2.2.2 x.2.1 x.2.2.1 x.2.2.2)
def laws_markVirtualFunctionS (a0 : List VirtualFunction) (a1 : Int) : Option (Int × List VirtualFunction) :=
 iterL (laws_markVirtualFunctionS_T2
   (fun y24 y25 y26 y27 =>
 some (y25, y27))) fuel (a0, a1, 0, a0)
def laws_markMailboxS_T2 {R : Type} (k0 : (List Mailbox) → Int → Int → (List Mailbox) → Option R) (nx : ((List Mailbox) × Int × Int × List Mailbox) → Option R) (x : (List Mailbox) × Int × Int × List Mailbox) : Option R := cond (decide (x.2.2.1 < (List.length x.1 : Int))) (runW (t := TMailbox) (fun _ => some []) x.2.2.1 (.pair (.pair (.int .i64) (.pair .bool (.sl (e := (.int .i64)) laws_markIntS))) (.pair (.int .i64) (.pair (.int .i64) (.int .i64)))) (fun y => y) (fun _ v => v) x.1 x.2.2.2 x.2.1 fun L k => nx (L, k, IntKind.wrap .i64 (x.2.2.1 + 1), L)) (k0 x.2.2.2 x.2.1 x.2.2.1 x.2.2.2)
def laws_markMailboxS (a0 : List Mailbox) (a1 : Int) : Option (Int × List Mailbox) :=
 iterL (laws_markMailboxS_T2
   (fun y19 y20 y21 y22 =>
 some (y20, y22))) fuel (a0, a1, 0, a0)
def laws_markFlash (a0 : List Bytes) (a1 : Int) : Option (Int × List Bytes) :=
 bindO (laws_markStringS a0 a1) fun r1 =>
 some r1
def laws_markCard (a0 : Card) (a1 : Int) : Option (Int × Card) :=
 bindO (laws_markHostS a0.1 a1) fun r1 =>
 bindO (laws_markVirtualFunctionS a0.2.1 r1.1) fun r2 =>
 bindO (laws_markMailboxS a0.2.2.1 r2.1) fun r3 =>
 bindO (laws_markFlash a0.2.2.2.1 r3.1) fun r4 =>
 bindO (laws_markIntS a0.2.2.2.2.2.1 r4.1) fun r5 =>
 bindO (laws_markStringS a0.2.2.2.2.2.2 r5.1) fun r6 =>
 some (r6.1, r1.2, r2.2, r3.2, r4.2, a0.2.2.2.2.1, r5.2, r6.2)
def laws_heldIntS_T2 {R : Type} (k0 : Int → Int → Option R) (k1 : Int → Int → Int → Option R) (v0 : List Int) (v4 : Int) (nx : (Int × Int) → Option R) (x : Int × Int) : Option R :=
 cond (decide (x.2 < ((List.length v0 : Int)))) (
 bindO (idx v0 x.2) fun x1 =>
 cond (x1 != x.1) (
 k1 x.1 (-1) x.2) (
 nx (IntKind.wrap .i64 (x.1 + 1), IntKind.wrap .i64 (x.2 + 1)))) (
 k0 x.1 x.2)
def laws_heldIntS (a0 : List Int) (a1 : Int) : Option (Int) :=
 iterL (laws_heldIntS_T2
   (fun y2 y3 =>
 some y2)
   (fun y4 y5 y6 =>
 some y5) a0 0) fuel (a1, 0)
def laws_heldStringS_T2 {R : Type} (k0 : Int → Int → Option R) (k1 : Int → Int → Int → Option R) (v0 : List Bytes) (v4 : Int) (nx : (Int × Int) → Option R) (x : Int × Int) : Option R :=
 cond (decide (x.2 < ((List.length v0 : Int)))) (
 bindO (idx v0 x.2) fun x1 =>
 bindO (laws_markText x.1) fun r2 =>
 cond (!(x1 == r2)) (
 k1 x.1 (-1) x.2) (
 nx (IntKind.wrap .i64 (x.1 + 1), IntKind.wrap .i64 (x.2 + 1)))) (
 k0 x.1 x.2)
def laws_heldStringS (a0 : List Bytes) (a1 : Int) : Option (Int) :=
 iterL (laws_heldStringS_T2
   (fun y3 y4 =>
 some y3)
   (fun y5 y6 y7 =>
 some y6) a0 0) fuel (a1, 0)
def laws_heldMappingS_T2 {R : Type} (k0 : Int → Int → Option R) (k1 : Int → Int → Int → Option R) (v0 : List Mapping) (v4 : Int) (nx : (Int × Int) → Option R) (x : Int × Int) : Option R := cond (decide (x.2 < (List.length v0 : Int))) (runV (t := TMapping) (fun _ => some []) x.2 v0 (fun k => k1 k (-1) x.2) (.pair (.int .i64) (.pair (.int .i64) (.pair (.int .i64) .bool))) (fun y => y) (fun k => nx (k, IntKind.wrap .i64 (x.2 + 1))) x.1) (k0 x.1 x.2)
def laws_heldMappingS (a0 : List Mapping) (a1 : Int) : Option (Int) :=
 iterL (laws_heldMappingS_T2
   (fun y5 y6 =>
 some y5)
   (fun y7 y8 y9 =>
 some y8) a0 0) fuel (a1, 0)
def laws_heldSentS_T2 {R : Type} (k0 : Int → Int → Option R) (k1 : Int → Int → Int → Option R) (v0 : List Sent) (v4 : Int) (nx : (Int × Int) → Option R) (x : Int × Int) : Option R := cond (decide (x.2 < (List.length v0 : Int))) (runV (t := TSent) (fun _ => some []) x.2 v0 (fun k => k1 k (-1) x.2) (.pair (.int .i64) (.pair (.int .i64) (.sl (e := (.int .i64)) laws_heldIntS))) (fun y => y) (fun k => nx (k, IntKind.wrap .i64 (x.2 + 1))) x.1) (k0 x.1 x.2)
def laws_heldSentS (a0 : List Sent) (a1 : Int) : Option (Int) :=
 iterL (laws_heldSentS_T2
   (fun y5 y6 =>
 some y5)
   (fun y7 y8 y9 =>
 some y8) a0 0) fuel (a1, 0)
def laws_heldRxQueueS_T2 {R : Type} (k0 : Int → Int → Option R) (k1 : Int → Int → Int → Option R) (v0 : List RxQueue) (v4 : Int) (nx : (Int × Int) → Option R) (x : Int × Int) : Option R := cond (decide (x.2 < (List.length v0 : Int))) (runV (t := TRxQueue) laws_markText x.2 v0 (fun k => k1 k (-1) x.2) (.pair (.pair (.int .i64) (.pair (.int .i64) (.pair (.int .i64) (.int .i64)))) (.pair (.pair (.int .i64) (.pair (.int .i64) (.int .i64))) (.pair (.pair (.int .i64) (.pair (.int .i64) (.int .i64))) (.pair (.pair (.pair (.int .i64) (.pair (.int .i64) (.pair (.int .i64) (.pair (.int .i64) (.pair (.int .i64) (.pair (.int .i64) (.pair (.int .i64) (.pair (.int .i64) (.pair (.int .i64) (.pair (.int .i64) (.pair (.int .i64) (.pair (.int .i64) (.pair (.int .i64) (.pair (.int .i64) (.pair (.int .i64) .str))))))))))))))) (.pair (.int .i64) (.int .i64))) (.pair .bool (.int .i64)))))) (fun y => y) (fun k => nx (k, IntKind.wrap .i64 (x.2 + 1))) x.1) (k0 x.1 x.2)
def laws_heldRxQueueS (a0 : List RxQueue) (a1 : Int) : Option (Int) :=
 iterL (laws_heldRxQueueS_T2
   (fun y32 y33 =>
 some y32)
   (fun y34 y35 y36 =>
 some y35) a0 0) fuel (a1, 0)
def laws_heldPoolS_T2 {R : Type} (k0 : Int → Int → Option R) (k1 : Int → Int → Int → Option R) (v0 : List Pool) (v4 : Int) (nx : (Int × Int) → Option R) (x : Int × Int) : Option R := cond (decide (x.2 < (List.length v0 : Int))) (runV (t := TPool) (fun _ => some []) x.2 v0 (fun k => k1 k (-1) x.2) (.pair (.int .i64) (.pair (.int .i64) (.pair (.int .i64) (.sl (e := (.int .i64)) laws_heldIntS)))) (fun y => y) (fun k => nx (k, IntKind.wrap .i64 (x.2 + 1))) x.1) (k0 x.1 x.2)
def laws_heldPoolS (a0 : List Pool) (a1 : Int) : Option (Int) :=
 iterL (laws_heldPoolS_T2
   (fun y6 y7 =>
 some y6)
   (fun y8 y9 y10 =>
 some y9) a0 0) fuel (a1, 0)
def laws_heldVectorS_T2 {R : Type} (k0 : Int → Int → Option R) (k1 : Int → Int → Int → Option R) (v0 : List Vector) (v4 : Int) (nx : (Int × Int) → Option R) (x : Int × Int) : Option R := cond (decide (x.2 < (List.length v0 : Int))) (runV (t := TVector) (fun _ => some []) x.2 v0 (fun k => k1 k (-1) x.2) (.pair (.int .i64) (.pair (.int .i64) (.pair (.int .i64) (.pair (.int .i64) (.pair .bool .bool))))) (fun y => y) (fun k => nx (k, IntKind.wrap .i64 (x.2 + 1))) x.1) (k0 x.1 x.2)
def laws_heldVectorS (a0 : List Vector) (a1 : Int) : Option (Int) :=
 iterL (laws_heldVectorS_T2
   (fun y7 y8 =>
 some y7)
   (fun y9 y10 y11 =>
 some y10) a0 0) fuel (a1, 0)
def laws_heldBoolS_T2 {R : Type} (k0 : Int → Int → Option R) (k1 : Int → Int → Int → Option R) (v0 : List Bool) (v4 : Int) (nx : (Int × Int) → Option R) (x : Int × Int) : Option R :=
 cond (decide (x.2 < ((List.length v0 : Int)))) (
 bindO (idx v0 x.2) fun x1 =>
 if 3 = 0 then none else (
 cond (!(x1 == ((Int.tmod x.1 3) == 0))) (
 k1 x.1 (-1) x.2) (
 nx (IntKind.wrap .i64 (x.1 + 1), IntKind.wrap .i64 (x.2 + 1))))) (
 k0 x.1 x.2)
def laws_heldBoolS (a0 : List Bool) (a1 : Int) : Option (Int) :=
 iterL (laws_heldBoolS_T2
   (fun y2 y3 =>
 some y2)
   (fun y4 y5 y6 =>
 some y5) a0 0) fuel (a1, 0)
def laws_heldRuleS_T2 {R : Type} (k0 : Int → Int → Option R) (k1 : Int → Int → Int → Option R) (v0 : List Rule) (v4 : Int) (nx : (Int × Int) → Option R) (x : Int × Int) : Option R := cond (decide (x.2 < (List.length v0 : Int))) (runV (t := TRule) (fun _ => some []) x.2 v0 (fun k => k1 k (-1) x.2) (.pair (.int .i64) (.pair (.int .i64) (.pair (.int .i64) (.pair (.int .i64) (.pair (.int .i64) (.pair (.int .i64) (.pair (.int .i64) (.pair (.int .i64) (.int .i64))))))))) (fun y => y) (fun k => nx (k, IntKind.wrap .i64 (x.2 + 1))) x.1) (k0 x.1 x.2)
def laws_heldRuleS (a0 : List Rule) (a1 : Int) : Option (Int) :=
 iterL (laws_heldRuleS_T2
   (fun y10 y11 =>
 some y10)
   (fun y12 y13 y14 =>
 some y13) a0 0) fuel (a1, 0)
def laws_heldSlotS_T2 {R : Type} (k0 : Int → Int → Option R) (k1 : Int → Int → Int → Option R) (v0 : List Slot) (v4 : Int) (nx : (Int × Int) → Option R) (x : Int × Int) : Option R := cond (decide (x.2 < (List.length v0 : Int))) (runV (t := TSlot) (fun _ => some []) x.2 v0 (fun k => k1 k (-1) x.2) (.pair (.int .i64) (.pair (.pair (.int .i64) (.pair (.int .i64) (.pair (.int .i64) (.pair (.int .i64) (.int .i64))))) (.int .i64))) (fun y => y) (fun k => nx (k, IntKind.wrap .i64 (x.2 + 1))) x.1) (k0 x.1 x.2)
def laws_heldSlotS (a0 : List Slot) (a1 : Int) : Option (Int) :=
 iterL (laws_heldSlotS_T2
   (fun y8 y9 =>
 some y8)
   (fun y10 y11 y12 =>
 some y11) a0 0) fuel (a1, 0)
def laws_heldStreamS_T2 {R : Type} (k0 : Int → Int → Option R) (k1 : Int → Int → Int → Option R) (v0 : List Stream) (v4 : Int) (nx : (Int × Int) → Option R) (x : Int × Int) : Option R := cond (decide (x.2 < (List.length v0 : Int))) (runV (t := TStream) laws_markText x.2 v0 (fun k => k1 k (-1) x.2) (.pair (.pair (.int .i64) (.pair (.int .i64) (.pair (.int .i64) (.pair (.int .i64) (.int .i64))))) (.pair (.int .i64) (.pair .str .bool))) (fun y => y) (fun k => nx (k, IntKind.wrap .i64 (x.2 + 1))) x.1) (k0 x.1 x.2)
def laws_heldStreamS (a0 : List Stream) (a1 : Int) : Option (Int) :=
 iterL (laws_heldStreamS_T2
   (fun y10 y11 =>
 some y10)
   (fun y12 y13 y14 =>
 some y13) a0 0) fuel (a1, 0)
def laws_heldHostS_T2 {R : Type} (k0 : Int → Int → Option R) (k1 : Int → Int → Int → Option R) (v0 : List Host) (v4 : Int) (nx : (Int × Int) → Option R) (x : Int × Int) : Option R := cond (decide (x.2 < (List.length v0 : Int))) (runV (t := THost) laws_markText x.2 v0 (fun k => k1 k (-1) x.2) (.pair (.sl (e := .str) laws_heldStringS) (.pair (.sl (e := TMapping) laws_heldMappingS) (.pair (.pair (.pair (.int .i64) (.pair (.int .i64) (.pair (.int .i64) (.int .i64)))) (.pair (.pair (.int .i64) (.pair (.int .i64) (.pair (.int .i64) (.sl (e := (.int .i64)) laws_heldIntS)))) (.pair (.sl (e := TSent) laws_heldSentS) (.int .i64)))) (.pair (.sl (e := TRxQueue) laws_heldRxQueueS) (.pair (.sl (e := TPool) laws_heldPoolS) (.pair (.sl (e := TVector) laws_heldVectorS) (.pair (.sl (e := .bool) laws_heldBoolS) (.pair (.pair (.int .i64) (.pair .bool (.sl (e := (.int .i64)) laws_heldIntS))) (.pair (.pair (.sl (e := TRule) laws_heldRuleS) (.pair (.sl (e := TSlot) laws_heldSlotS) (.pair .str (.sl (e := (.int .i64)) laws_heldIntS)))) (.pair (.sl (e := TStream) laws_heldStreamS) (.pair .bool (.pair (.sl (e := .str) laws_heldStringS) (.pair (.sl (e := (.int .i64)) laws_heldIntS) (.pair (.sl (e := (.int .i64)) laws_heldIntS) (.pair (.int .i64) (.pair (.int .i64) (.pair (.int .i64) (.pair (.int .i64) (.int .i64))))))))))))))))))) (fun y => y) (fun k => nx (k, IntKind.wrap .i64 (x.2 + 1))) x.1) (k0 x.1 x.2)
def laws_heldHostS (a0 : List Host) (a1 : Int) : Option (Int) :=
 iterL (laws_heldHostS_T2
   (fun y51 y52 =>
 some y51)
   (fun y53 y54 y55 =>
 some y54) a0 0) fuel (a1, 0)
def laws_heldVirtualFunctionS_T2 {R : Type} (k0 : Int → Int → Option R) (k1 : Int → Int → Int → Option R) (v0 : List VirtualFunction) (v4 : Int) (nx : (Int × Int) → Option R) (x : Int × Int) : Option R := cond (decide (x.2 < (List.length v0 : Int))) (runV (t := TVirtualFunction) (fun _ => some []) x.2 v0 (fun k => k1 k (-1) x.2) (.pair (.int .i64) (.pair (.int .i64) (.pair (.pair (.int .i64) (.pair (.int .i64) (.int .i64))) (.pair .bool (.pair (.int .i64) (.int .i64)))))) (fun y => y) (fun k => nx (k, IntKind.wrap .i64 (x.2 + 1))) x.1) (k0 x.1 x.2)
def laws_heldVirtualFunctionS (a0 : List VirtualFunction) (a1 : Int) : Option (Int) :=
 iterL (laws_heldVirtualFunctionS_T2
   (fun y9 y10 =>
 some y9)
   (fun y11 y12 y13 =>
 some y12) a0 0) fuel (a1, 0)
def laws_heldMailboxS_T2 {R : Type} (k0 : Int → Int → Option R) (k1 : Int → Int → Int → Option R) (v0 : List Mailbox) (v4 : Int) (nx : (Int × Int) → Option R) (x : Int × Int) : Option R := cond (decide (x.2 < (List.length v0 : Int))) (runV (t := TMailbox) (fun _ => some []) x.2 v0 (fun k => k1 k (-1) x.2) (.pair (.pair (.int .i64) (.pair .bool (.sl (e := (.int .i64)) laws_heldIntS))) (.pair (.int .i64) (.pair (.int .i64) (.int .i64)))) (fun y => y) (fun k => nx (k, IntKind.wrap .i64 (x.2 + 1))) x.1) (k0 x.1 x.2)
def laws_heldMailboxS (a0 : List Mailbox) (a1 : Int) : Option (Int) :=
 iterL (laws_heldMailboxS_T2
   (fun y8 y9 =>
 some y8)
   (fun y10 y11 y12 =>
 some y11) a0 0) fuel (a1, 0)
def laws_heldFlash (a0 : List Bytes) (a1 : Int) : Option (Int) :=
 bindO (laws_heldStringS a0 a1) fun r1 =>
 cond (decide (r1 < 0)) (
 some (-1)) (
 some r1)
def laws_heldCard (a0 : Card) (a1 : Int) : Option (Int) :=
 bindO (laws_heldHostS a0.1 a1) fun r1 =>
 cond (decide (r1 < 0)) (
 some (-1)) (
 bindO (laws_heldVirtualFunctionS a0.2.1 r1) fun r2 =>
 cond (decide (r2 < 0)) (
 some (-1)) (
 bindO (laws_heldMailboxS a0.2.2.1 r2) fun r3 =>
 cond (decide (r3 < 0)) (
 some (-1)) (
 bindO (laws_heldFlash a0.2.2.2.1 r3) fun r4 =>
 cond (decide (r4 < 0)) (
 some (-1)) (
 bindO (laws_heldIntS a0.2.2.2.2.2.1 r4) fun r5 =>
 cond (decide (r5 < 0)) (
 some (-1)) (
 bindO (laws_heldStringS a0.2.2.2.2.2.2 r5) fun r6 =>
 cond (decide (r6 < 0)) (
 some (-1)) (
 some r6))))))
def laws_FnExactCardCommandTo (a0 : Card) (a1 : Int) (a2 : Bucket) : Option (Bool) :=
 bindO (laws_szCard a0 1048576) fun r1 =>
 cond (decide (r1 < 0)) (
 some true) (
 bindO (laws_toCard a0) fun r2 =>
 bindO (laws_toMessage a2) fun r3 =>
 bindO (spec_CardCommandTo r2 a1 r3) fun r4 =>
 bindO (laws_toCard a0) fun r5 =>
 bindO (laws_toMessage a2) fun r6 =>
 bindO (impl_CardCommandTo r5 a1 r6) fun r7 =>
 bindO (
 bindO (laws_eqCard r7.1 r4.1) fun r8 =>
 cond (!r8) (
 some true) (
 some (r7.2 != r4.2))) fun q9 =>
 cond q9 (
 some false) (
 bindO (laws_toCard a0) fun r10 =>
 bindO (laws_eqCard r5 r10) fun r11 =>
 cond (!r11) (
 some false) (
 bindO (laws_markCard r5 1) fun r12 =>
 bindO (
 cond (decide (r12.1 < 0)) (
 some true) (
 bindO (laws_eqCard r7.1 r4.1) fun r13 =>
 cond (!r13) (
 some true) (
 some (r7.2 != r4.2)))) fun q14 =>
 cond q14 (
 some false) (
 bindO (laws_markCard r7.1 1) fun r15 =>
 bindO (laws_heldCard (r15.2.1, r15.2.2.1, r15.2.2.2.1, r15.2.2.2.2.1, r7.1.2.2.2.2.1, r15.2.2.2.2.2.2) 1) fun r16 =>
 cond (decide (r16 < 0)) (
 some false) (
 cond (r16 != r15.1) (
 some false) (
 bindO (laws_toCard a0) fun r17 =>
 bindO (laws_toMessage a2) fun r18 =>
 bindO (impl_CardCommandTo r17 a1 r18) fun r19 =>
 bindO (
 bindO (laws_eqCard r19.1 r4.1) fun r20 =>
 cond (!r20) (
 some true) (
 some (r19.2 != r4.2))) fun q21 =>
 cond q21 (
 some false) (
 bindO (laws_heldCard (r15.2.1, r15.2.2.1, r15.2.2.2.1, r15.2.2.2.2.1, r7.1.2.2.2.2.1, r15.2.2.2.2.2.2) 1) fun r22 =>
 cond (decide (r22 < 0)) (
 some false) (
 cond (r22 != r15.1) (
 some false) (
 some true)))))))))

end

end Go.Pu
