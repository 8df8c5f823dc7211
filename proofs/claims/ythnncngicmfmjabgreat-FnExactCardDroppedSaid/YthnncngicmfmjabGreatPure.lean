import Derived.Test.YthnncngicmfmjabGreatDnData
/- The program's functions and the reference's, as functions of data (made by gen.py). -/
namespace Go.Pu
open Go.Dn
set_option linter.unusedVariables false

abbrev Bytes := List UInt8
abbrev Mapping := Int × Int × Int × Bool
abbrev Clock := Int × Int × Int × Int
abbrev Ring := Clock
abbrev Pool := Int × Int × Int × List Int
abbrev Sent := Int × Int × List Int
abbrev TxQueue := Clock × Pool × (List Sent) × Int
abbrev Bucket := Int × Int × Int
abbrev CompletionQueue := Bucket
abbrev Packet := Int × Int × Int × Int × Int × Int × Int × Int × Int × Int × Int × Int × Int × Int × Int × Bytes
abbrev Super := Packet × Int × Int
abbrev RxQueue := Clock × Bucket × Bucket × Super × Bool × Int
abbrev Vector := Int × Int × Int × Int × Bool × Bool
abbrev Filter := Int × Bool × List Int
abbrev Rule := Int × Int × Int × Int × Int × Int × Int × Int × Int
abbrev Flow := Int × Int × Int × Int × Int
abbrev Counters := Flow
abbrev Slot := Int × Flow × Int
abbrev Steering := (List Rule) × (List Slot) × Bytes × List Int
abbrev Stream := Flow × Int × Bytes × Bool
abbrev Host := (List Bytes) × (List Mapping) × TxQueue × (List RxQueue) × (List Pool) × (List Vector) × (List Bool) × Filter × Steering × (List Stream) × Bool × (List Bytes) × (List Int) × (List Int) × Int × Int × Int × Int × Int
abbrev VirtualFunction := Int × Int × Bucket × Bool × Int × Int
abbrev Mailbox := Filter × Int × Int × Int
abbrev Card := (List Host) × (List VirtualFunction) × (List Mailbox) × (List Bytes) × Clock × (List Int) × List Bytes
abbrev Spread := Bytes × List Int
abbrev Segment := Int × Int × Int × Int × Int × Int × Int × Bytes
@[reducible] def TMapping : CT := (.pair (.int .i64) (.pair (.int .i64) (.pair (.int .i64) .bool)))
@[reducible] def TClock : CT := (.pair (.int .i64) (.pair (.int .i64) (.pair (.int .i64) (.int .i64))))
@[reducible] def TRing : CT := TClock
@[reducible] def TPool : CT := (.pair (.int .i64) (.pair (.int .i64) (.pair (.int .i64) (.sl (.int .i64)))))
@[reducible] def TSent : CT := (.pair (.int .i64) (.pair (.int .i64) (.sl (.int .i64))))
@[reducible] def TTxQueue : CT := (.pair TClock (.pair TPool (.pair (.sl TSent) (.int .i64))))
@[reducible] def TBucket : CT := (.pair (.int .i64) (.pair (.int .i64) (.int .i64)))
@[reducible] def TCompletionQueue : CT := TBucket
@[reducible] def TPacket : CT := (.pair (.int .i64) (.pair (.int .i64) (.pair (.int .i64) (.pair (.int .i64) (.pair (.int .i64) (.pair (.int .i64) (.pair (.int .i64) (.pair (.int .i64) (.pair (.int .i64) (.pair (.int .i64) (.pair (.int .i64) (.pair (.int .i64) (.pair (.int .i64) (.pair (.int .i64) (.pair (.int .i64) .str)))))))))))))))
@[reducible] def TSuper : CT := (.pair TPacket (.pair (.int .i64) (.int .i64)))
@[reducible] def TRxQueue : CT := (.pair TClock (.pair TBucket (.pair TBucket (.pair TSuper (.pair .bool (.int .i64))))))
@[reducible] def TVector : CT := (.pair (.int .i64) (.pair (.int .i64) (.pair (.int .i64) (.pair (.int .i64) (.pair .bool .bool)))))
@[reducible] def TFilter : CT := (.pair (.int .i64) (.pair .bool (.sl (.int .i64))))
@[reducible] def TRule : CT := (.pair (.int .i64) (.pair (.int .i64) (.pair (.int .i64) (.pair (.int .i64) (.pair (.int .i64) (.pair (.int .i64) (.pair (.int .i64) (.pair (.int .i64) (.int .i64)))))))))
@[reducible] def TFlow : CT := (.pair (.int .i64) (.pair (.int .i64) (.pair (.int .i64) (.pair (.int .i64) (.int .i64)))))
@[reducible] def TCounters : CT := TFlow
@[reducible] def TSlot : CT := (.pair (.int .i64) (.pair TFlow (.int .i64)))
@[reducible] def TSteering : CT := (.pair (.sl TRule) (.pair (.sl TSlot) (.pair .str (.sl (.int .i64)))))
@[reducible] def TStream : CT := (.pair TFlow (.pair (.int .i64) (.pair .str .bool)))
@[reducible] def THost : CT := (.pair (.sl .str) (.pair (.sl TMapping) (.pair TTxQueue (.pair (.sl TRxQueue) (.pair (.sl TPool) (.pair (.sl TVector) (.pair (.sl .bool) (.pair TFilter (.pair TSteering (.pair (.sl TStream) (.pair .bool (.pair (.sl .str) (.pair (.sl (.int .i64)) (.pair (.sl (.int .i64)) (.pair (.int .i64) (.pair (.int .i64) (.pair (.int .i64) (.pair (.int .i64) (.int .i64)))))))))))))))))))
@[reducible] def TVirtualFunction : CT := (.pair (.int .i64) (.pair (.int .i64) (.pair TBucket (.pair .bool (.pair (.int .i64) (.int .i64))))))
@[reducible] def TMailbox : CT := (.pair TFilter (.pair (.int .i64) (.pair (.int .i64) (.int .i64))))
@[reducible] def TCard : CT := (.pair (.sl THost) (.pair (.sl TVirtualFunction) (.pair (.sl TMailbox) (.pair (.sl .str) (.pair TClock (.pair (.sl (.int .i64)) (.sl .str)))))))
@[reducible] def TSpread : CT := (.pair .str (.sl (.int .i64)))
@[reducible] def TSegment : CT := (.pair (.int .i64) (.pair (.int .i64) (.pair (.int .i64) (.pair (.int .i64) (.pair (.int .i64) (.pair (.int .i64) (.pair (.int .i64) .str)))))))

noncomputable def laws_szIntS (a0 : List Int) (a1 : Int) : Option (Int) :=
  cond (decide ((IntKind.wrap .i64 (a1 - ((List.length a0 : Int)))) < 0)) (
    some (-1)) (
    some (IntKind.wrap .i64 (a1 - ((List.length a0 : Int)))))
noncomputable def laws_szStringS_T5 {R : Type} (k0 : Int → Int → Option R) (k1 : Int → Int → Int → Option R) (v0 : List Bytes) (v4 : Int) (nx : (Int × Int) → Option R) (x : Int × Int) : Option R :=
  cond (decide (x.2 < ((List.length v0 : Int)))) (
    bindO (idx v0 x.2) fun x1 =>
    cond (decide ((IntKind.wrap .i64 (x.1 - ((List.length x1 : Int)))) < 0)) (
      k1 (IntKind.wrap .i64 (x.1 - ((List.length x1 : Int)))) (-1) x.2) (
      nx (IntKind.wrap .i64 (x.1 - ((List.length x1 : Int))), IntKind.wrap .i64 (x.2 + 1)))) (
    k0 x.1 x.2)
noncomputable def laws_szStringS (a0 : List Bytes) (a1 : Int) : Option (Int) :=
  cond (decide ((IntKind.wrap .i64 (a1 - ((List.length a0 : Int)))) < 0)) (
    some (-1)) (
    iterL (laws_szStringS_T5
      (fun (y2 : Int) (y3 : Int) =>
        some y2)
      (fun (y4 : Int) (y5 : Int) (y6 : Int) =>
        some y5) a0 0) fuel (IntKind.wrap .i64 (a1 - ((List.length a0 : Int))), 0))
noncomputable def laws_szMemory (a0 : List Bytes) (a1 : Int) : Option (Int) :=
  bindO (laws_szStringS a0 a1) fun r1 =>
  cond (decide (r1 < 0)) (
    some (-1)) (
    some r1)
noncomputable def laws_szMappingS (a0 : List Mapping) (a1 : Int) : Option (Int) :=
  cond (decide ((IntKind.wrap .i64 (a1 - ((List.length a0 : Int)))) < 0)) (
    some (-1)) (
    some (IntKind.wrap .i64 (a1 - ((List.length a0 : Int)))))
noncomputable def laws_szPool (a0 : Pool) (a1 : Int) : Option (Int) :=
  bindO (laws_szIntS a0.2.2.2 a1) fun r1 =>
  cond (decide (r1 < 0)) (
    some (-1)) (
    some r1)
noncomputable def laws_szSent (a0 : Sent) (a1 : Int) : Option (Int) :=
  bindO (laws_szIntS a0.2.2 a1) fun r1 =>
  cond (decide (r1 < 0)) (
    some (-1)) (
    some r1)
noncomputable def laws_szSentS_T5 {R : Type} (k0 : Int → Int → Option R) (k1 : Int → Int → Int → Option R) (v0 : List Sent) (v4 : Int) (nx : (Int × Int) → Option R) (x : Int × Int) : Option R :=
  cond (decide (x.2 < ((List.length v0 : Int)))) (
    bindO (idx v0 x.2) fun x1 =>
    bindO (laws_szSent x1 x.1) fun r2 =>
    cond (decide (r2 < 0)) (
      k1 r2 (-1) x.2) (
      nx (r2, IntKind.wrap .i64 (x.2 + 1)))) (
    k0 x.1 x.2)
noncomputable def laws_szSentS (a0 : List Sent) (a1 : Int) : Option (Int) :=
  cond (decide ((IntKind.wrap .i64 (a1 - ((List.length a0 : Int)))) < 0)) (
    some (-1)) (
    iterL (laws_szSentS_T5
      (fun (y3 : Int) (y4 : Int) =>
        some y3)
      (fun (y5 : Int) (y6 : Int) (y7 : Int) =>
        some y6) a0 0) fuel (IntKind.wrap .i64 (a1 - ((List.length a0 : Int))), 0))
noncomputable def laws_szTxQueue (a0 : TxQueue) (a1 : Int) : Option (Int) :=
  bindO (laws_szPool a0.2.1 a1) fun r1 =>
  cond (decide (r1 < 0)) (
    some (-1)) (
    bindO (laws_szSentS a0.2.2.1 r1) fun r2 =>
    cond (decide (r2 < 0)) (
      some (-1)) (
      some r2))
noncomputable def laws_szSegment (a0 : Segment) (a1 : Int) : Option (Int) :=
  cond (decide ((IntKind.wrap .i64 (a1 - ((List.length a0.2.2.2.2.2.2.2 : Int)))) < 0)) (
    some (-1)) (
    some (IntKind.wrap .i64 (a1 - ((List.length a0.2.2.2.2.2.2.2 : Int)))))
noncomputable def laws_szPacket (a0 : Packet) (a1 : Int) : Option (Int) :=
  bindO (laws_szSegment a0.2.2.2.2.2.2.2.2 a1) fun r1 =>
  cond (decide (r1 < 0)) (
    some (-1)) (
    some r1)
noncomputable def laws_szSuper (a0 : Super) (a1 : Int) : Option (Int) :=
  bindO (laws_szPacket a0.1 a1) fun r1 =>
  cond (decide (r1 < 0)) (
    some (-1)) (
    some r1)
noncomputable def laws_szRxQueue (a0 : RxQueue) (a1 : Int) : Option (Int) :=
  bindO (laws_szSuper a0.2.2.2.1 a1) fun r1 =>
  cond (decide (r1 < 0)) (
    some (-1)) (
    some r1)
noncomputable def laws_szRxQueueS_T5 {R : Type} (k0 : Int → Int → Option R) (k1 : Int → Int → Int → Option R) (v0 : List RxQueue) (v4 : Int) (nx : (Int × Int) → Option R) (x : Int × Int) : Option R :=
  cond (decide (x.2 < ((List.length v0 : Int)))) (
    bindO (idx v0 x.2) fun x1 =>
    bindO (laws_szRxQueue x1 x.1) fun r2 =>
    cond (decide (r2 < 0)) (
      k1 r2 (-1) x.2) (
      nx (r2, IntKind.wrap .i64 (x.2 + 1)))) (
    k0 x.1 x.2)
noncomputable def laws_szRxQueueS (a0 : List RxQueue) (a1 : Int) : Option (Int) :=
  cond (decide ((IntKind.wrap .i64 (a1 - ((List.length a0 : Int)))) < 0)) (
    some (-1)) (
    iterL (laws_szRxQueueS_T5
      (fun (y3 : Int) (y4 : Int) =>
        some y3)
      (fun (y5 : Int) (y6 : Int) (y7 : Int) =>
        some y6) a0 0) fuel (IntKind.wrap .i64 (a1 - ((List.length a0 : Int))), 0))
noncomputable def laws_szPoolS_T5 {R : Type} (k0 : Int → Int → Option R) (k1 : Int → Int → Int → Option R) (v0 : List Pool) (v4 : Int) (nx : (Int × Int) → Option R) (x : Int × Int) : Option R :=
  cond (decide (x.2 < ((List.length v0 : Int)))) (
    bindO (idx v0 x.2) fun x1 =>
    bindO (laws_szPool x1 x.1) fun r2 =>
    cond (decide (r2 < 0)) (
      k1 r2 (-1) x.2) (
      nx (r2, IntKind.wrap .i64 (x.2 + 1)))) (
    k0 x.1 x.2)
noncomputable def laws_szPoolS (a0 : List Pool) (a1 : Int) : Option (Int) :=
  cond (decide ((IntKind.wrap .i64 (a1 - ((List.length a0 : Int)))) < 0)) (
    some (-1)) (
    iterL (laws_szPoolS_T5
      (fun (y3 : Int) (y4 : Int) =>
        some y3)
      (fun (y5 : Int) (y6 : Int) (y7 : Int) =>
        some y6) a0 0) fuel (IntKind.wrap .i64 (a1 - ((List.length a0 : Int))), 0))
noncomputable def laws_szVectorS (a0 : List Vector) (a1 : Int) : Option (Int) :=
  cond (decide ((IntKind.wrap .i64 (a1 - ((List.length a0 : Int)))) < 0)) (
    some (-1)) (
    some (IntKind.wrap .i64 (a1 - ((List.length a0 : Int)))))
noncomputable def laws_szBoolS (a0 : List Bool) (a1 : Int) : Option (Int) :=
  cond (decide ((IntKind.wrap .i64 (a1 - ((List.length a0 : Int)))) < 0)) (
    some (-1)) (
    some (IntKind.wrap .i64 (a1 - ((List.length a0 : Int)))))
noncomputable def laws_szFilter (a0 : Filter) (a1 : Int) : Option (Int) :=
  bindO (laws_szIntS a0.2.2 a1) fun r1 =>
  cond (decide (r1 < 0)) (
    some (-1)) (
    some r1)
noncomputable def laws_szRuleS (a0 : List Rule) (a1 : Int) : Option (Int) :=
  cond (decide ((IntKind.wrap .i64 (a1 - ((List.length a0 : Int)))) < 0)) (
    some (-1)) (
    some (IntKind.wrap .i64 (a1 - ((List.length a0 : Int)))))
noncomputable def laws_szSlotS (a0 : List Slot) (a1 : Int) : Option (Int) :=
  cond (decide ((IntKind.wrap .i64 (a1 - ((List.length a0 : Int)))) < 0)) (
    some (-1)) (
    some (IntKind.wrap .i64 (a1 - ((List.length a0 : Int)))))
noncomputable def laws_szFlowTable (a0 : List Slot) (a1 : Int) : Option (Int) :=
  bindO (laws_szSlotS a0 a1) fun r1 =>
  cond (decide (r1 < 0)) (
    some (-1)) (
    some r1)
noncomputable def laws_szSpread (a0 : Spread) (a1 : Int) : Option (Int) :=
  cond (decide ((IntKind.wrap .i64 (a1 - ((List.length a0.1 : Int)))) < 0)) (
    some (-1)) (
    bindO (laws_szIntS a0.2 (IntKind.wrap .i64 (a1 - ((List.length a0.1 : Int))))) fun r1 =>
    cond (decide (r1 < 0)) (
      some (-1)) (
      some r1))
noncomputable def laws_szSteering (a0 : Steering) (a1 : Int) : Option (Int) :=
  bindO (laws_szRuleS a0.1 a1) fun r1 =>
  cond (decide (r1 < 0)) (
    some (-1)) (
    bindO (laws_szFlowTable a0.2.1 r1) fun r2 =>
    cond (decide (r2 < 0)) (
      some (-1)) (
      bindO (laws_szSpread a0.2.2 r2) fun r3 =>
      cond (decide (r3 < 0)) (
        some (-1)) (
        some r3)))
noncomputable def laws_szStream (a0 : Stream) (a1 : Int) : Option (Int) :=
  cond (decide ((IntKind.wrap .i64 (a1 - ((List.length a0.2.2.1 : Int)))) < 0)) (
    some (-1)) (
    some (IntKind.wrap .i64 (a1 - ((List.length a0.2.2.1 : Int)))))
noncomputable def laws_szStreamS_T5 {R : Type} (k0 : Int → Int → Option R) (k1 : Int → Int → Int → Option R) (v0 : List Stream) (v4 : Int) (nx : (Int × Int) → Option R) (x : Int × Int) : Option R :=
  cond (decide (x.2 < ((List.length v0 : Int)))) (
    bindO (idx v0 x.2) fun x1 =>
    bindO (laws_szStream x1 x.1) fun r2 =>
    cond (decide (r2 < 0)) (
      k1 r2 (-1) x.2) (
      nx (r2, IntKind.wrap .i64 (x.2 + 1)))) (
    k0 x.1 x.2)
noncomputable def laws_szStreamS (a0 : List Stream) (a1 : Int) : Option (Int) :=
  cond (decide ((IntKind.wrap .i64 (a1 - ((List.length a0 : Int)))) < 0)) (
    some (-1)) (
    iterL (laws_szStreamS_T5
      (fun (y3 : Int) (y4 : Int) =>
        some y3)
      (fun (y5 : Int) (y6 : Int) (y7 : Int) =>
        some y6) a0 0) fuel (IntKind.wrap .i64 (a1 - ((List.length a0 : Int))), 0))
noncomputable def laws_szHost (a0 : Host) (a1 : Int) : Option (Int) :=
  bindO (laws_szMemory a0.1 a1) fun r1 =>
  cond (decide (r1 < 0)) (
    some (-1)) (
    bindO (laws_szMappingS a0.2.1 r1) fun r2 =>
    cond (decide (r2 < 0)) (
      some (-1)) (
      bindO (laws_szTxQueue a0.2.2.1 r2) fun r3 =>
      cond (decide (r3 < 0)) (
        some (-1)) (
        bindO (laws_szRxQueueS a0.2.2.2.1 r3) fun r4 =>
        cond (decide (r4 < 0)) (
          some (-1)) (
          bindO (laws_szPoolS a0.2.2.2.2.1 r4) fun r5 =>
          cond (decide (r5 < 0)) (
            some (-1)) (
            bindO (laws_szVectorS a0.2.2.2.2.2.1 r5) fun r6 =>
            cond (decide (r6 < 0)) (
              some (-1)) (
              bindO (laws_szBoolS a0.2.2.2.2.2.2.1 r6) fun r7 =>
              cond (decide (r7 < 0)) (
                some (-1)) (
                bindO (laws_szFilter a0.2.2.2.2.2.2.2.1 r7) fun r8 =>
                cond (decide (r8 < 0)) (
                  some (-1)) (
                  bindO (laws_szSteering a0.2.2.2.2.2.2.2.2.1 r8) fun r9 =>
                  cond (decide (r9 < 0)) (
                    some (-1)) (
                    bindO (laws_szStreamS a0.2.2.2.2.2.2.2.2.2.1 r9) fun r10 =>
                    cond (decide (r10 < 0)) (
                      some (-1)) (
                      bindO (laws_szStringS a0.2.2.2.2.2.2.2.2.2.2.2.1 r10) fun r11 =>
                      cond (decide (r11 < 0)) (
                        some (-1)) (
                        bindO (laws_szIntS a0.2.2.2.2.2.2.2.2.2.2.2.2.1 r11) fun r12 =>
                        cond (decide (r12 < 0)) (
                          some (-1)) (
                          bindO (laws_szIntS a0.2.2.2.2.2.2.2.2.2.2.2.2.2.1 r12) fun r13 =>
                          cond (decide (r13 < 0)) (
                            some (-1)) (
                            some r13)))))))))))))
noncomputable def laws_szHostS_T5 {R : Type} (k0 : Int → Int → Option R) (k1 : Int → Int → Int → Option R) (v0 : List Host) (v4 : Int) (nx : (Int × Int) → Option R) (x : Int × Int) : Option R :=
  cond (decide (x.2 < ((List.length v0 : Int)))) (
    bindO (idx v0 x.2) fun x1 =>
    bindO (laws_szHost x1 x.1) fun r2 =>
    cond (decide (r2 < 0)) (
      k1 r2 (-1) x.2) (
      nx (r2, IntKind.wrap .i64 (x.2 + 1)))) (
    k0 x.1 x.2)
noncomputable def laws_szHostS (a0 : List Host) (a1 : Int) : Option (Int) :=
  cond (decide ((IntKind.wrap .i64 (a1 - ((List.length a0 : Int)))) < 0)) (
    some (-1)) (
    iterL (laws_szHostS_T5
      (fun (y3 : Int) (y4 : Int) =>
        some y3)
      (fun (y5 : Int) (y6 : Int) (y7 : Int) =>
        some y6) a0 0) fuel (IntKind.wrap .i64 (a1 - ((List.length a0 : Int))), 0))
noncomputable def laws_szVirtualFunctionS (a0 : List VirtualFunction) (a1 : Int) : Option (Int) :=
  cond (decide ((IntKind.wrap .i64 (a1 - ((List.length a0 : Int)))) < 0)) (
    some (-1)) (
    some (IntKind.wrap .i64 (a1 - ((List.length a0 : Int)))))
noncomputable def laws_szMailbox (a0 : Mailbox) (a1 : Int) : Option (Int) :=
  bindO (laws_szFilter a0.1 a1) fun r1 =>
  cond (decide (r1 < 0)) (
    some (-1)) (
    some r1)
noncomputable def laws_szMailboxS_T5 {R : Type} (k0 : Int → Int → Option R) (k1 : Int → Int → Int → Option R) (v0 : List Mailbox) (v4 : Int) (nx : (Int × Int) → Option R) (x : Int × Int) : Option R :=
  cond (decide (x.2 < ((List.length v0 : Int)))) (
    bindO (idx v0 x.2) fun x1 =>
    bindO (laws_szMailbox x1 x.1) fun r2 =>
    cond (decide (r2 < 0)) (
      k1 r2 (-1) x.2) (
      nx (r2, IntKind.wrap .i64 (x.2 + 1)))) (
    k0 x.1 x.2)
noncomputable def laws_szMailboxS (a0 : List Mailbox) (a1 : Int) : Option (Int) :=
  cond (decide ((IntKind.wrap .i64 (a1 - ((List.length a0 : Int)))) < 0)) (
    some (-1)) (
    iterL (laws_szMailboxS_T5
      (fun (y3 : Int) (y4 : Int) =>
        some y3)
      (fun (y5 : Int) (y6 : Int) (y7 : Int) =>
        some y6) a0 0) fuel (IntKind.wrap .i64 (a1 - ((List.length a0 : Int))), 0))
noncomputable def laws_szFlash (a0 : List Bytes) (a1 : Int) : Option (Int) :=
  bindO (laws_szStringS a0 a1) fun r1 =>
  cond (decide (r1 < 0)) (
    some (-1)) (
    some r1)
noncomputable def laws_szCard (a0 : Card) (a1 : Int) : Option (Int) :=
  bindO (laws_szHostS a0.1 a1) fun r1 =>
  cond (decide (r1 < 0)) (
    some (-1)) (
    bindO (laws_szVirtualFunctionS a0.2.1 r1) fun r2 =>
    cond (decide (r2 < 0)) (
      some (-1)) (
      bindO (laws_szMailboxS a0.2.2.1 r2) fun r3 =>
      cond (decide (r3 < 0)) (
        some (-1)) (
        bindO (laws_szFlash a0.2.2.2.1 r3) fun r4 =>
        cond (decide (r4 < 0)) (
          some (-1)) (
          bindO (laws_szIntS a0.2.2.2.2.2.1 r4) fun r5 =>
          cond (decide (r5 < 0)) (
            some (-1)) (
            bindO (laws_szStringS a0.2.2.2.2.2.2 r5) fun r6 =>
            cond (decide (r6 < 0)) (
              some (-1)) (
              some r6))))))
noncomputable def spec_HostDropped_T3 {R : Type} (k0 : Int → Int → Option R) (b1 : Host) (nx : (Int × Int) → Option R) (x : Int × Int) : Option R :=
  cond (decide (x.2 < ((List.length b1.2.2.2.1 : Int)))) (
    bindO (idx b1.2.2.2.1 x.2) fun x1 =>
    nx (IntKind.wrap .i64 (x.1 + x1.2.2.2.2.2), IntKind.wrap .i64 (x.2 + 1))) (
    k0 x.1 x.2)
noncomputable def spec_HostDropped (a0 : Host) : Option (Int) :=
  iterL (spec_HostDropped_T3
    (fun (y2 : Int) (y3 : Int) =>
      some y2) a0) fuel (0, 0)
noncomputable def spec_CardDropped_T3 {R : Type} (k0 : Int → Int → Option R) (b1 : Card) (nx : (Int × Int) → Option R) (x : Int × Int) : Option R :=
  cond (decide (x.2 < ((List.length b1.1 : Int)))) (
    bindO (idx b1.1 x.2) fun x1 =>
    bindO (spec_HostDropped x1) fun r2 =>
    nx (IntKind.wrap .i64 (x.1 + r2), IntKind.wrap .i64 (x.2 + 1))) (
    k0 x.1 x.2)
noncomputable def spec_CardDropped (a0 : Card) : Option (Int) :=
  iterL (spec_CardDropped_T3
    (fun (y3 : Int) (y4 : Int) =>
      some y3) a0) fuel (0, 0)
noncomputable def laws_toIntS_T3 {R : Type} (k0 : (List Int) → Int → Option R) (v0 : List Int) (nx : ((List Int) × Int) → Option R) (x : (List Int) × Int) : Option R :=
  cond (decide (x.2 < ((List.length v0 : Int)))) (
    bindO (idx v0 x.2) fun x1 =>
    bindO (idx x.1 x.2) fun x2 =>
    bindO (idx x.1 x.2) fun x3 =>
    nx (List.set x.1 (Int.toNat x.2) x1, IntKind.wrap .i64 (x.2 + 1))) (
    k0 x.1 x.2)
noncomputable def laws_toIntS (a0 : List Int) : Option (List Int) :=
  if 0 ≤ ((List.length a0 : Int)) ∧ ((List.length a0 : Int)) ≤ ((List.length a0 : Int)) then (
  room (Int.toNat ((List.length a0 : Int))) (
  iterL (laws_toIntS_T3
    (fun (y4 : List Int) (y5 : Int) =>
      some y4) a0) fuel (List.replicate (Int.toNat ((List.length a0 : Int))) 0, 0))) else none
noncomputable def laws_toStringS_T3 {R : Type} (k0 : (List Bytes) → Int → Option R) (v0 : List Bytes) (nx : ((List Bytes) × Int) → Option R) (x : (List Bytes) × Int) : Option R :=
  cond (decide (x.2 < ((List.length v0 : Int)))) (
    bindO (idx v0 x.2) fun x1 =>
    bindO (idx x.1 x.2) fun x2 =>
    bindO (idx x.1 x.2) fun x3 =>
    nx (List.set x.1 (Int.toNat x.2) x1, IntKind.wrap .i64 (x.2 + 1))) (
    k0 x.1 x.2)
noncomputable def laws_toStringS (a0 : List Bytes) : Option (List Bytes) :=
  if 0 ≤ ((List.length a0 : Int)) ∧ ((List.length a0 : Int)) ≤ ((List.length a0 : Int)) then (
  room (Int.toNat ((List.length a0 : Int))) (
  iterL (laws_toStringS_T3
    (fun (y4 : List Bytes) (y5 : Int) =>
      some y4) a0) fuel (List.replicate (Int.toNat ((List.length a0 : Int))) ([] : Bytes), 0))) else none
noncomputable def laws_toMemory (a0 : List Bytes) : Option (List Bytes) :=
  bindO (laws_toStringS a0) fun r1 =>
  some r1
noncomputable def laws_toMapping (a0 : Mapping) : Option (Mapping) :=
  some a0
noncomputable def laws_toMappingS_T3 {R : Type} (k0 : (List Mapping) → Int → Option R) (v0 : List Mapping) (nx : ((List Mapping) × Int) → Option R) (x : (List Mapping) × Int) : Option R :=
  cond (decide (x.2 < ((List.length v0 : Int)))) (
    bindO (idx v0 x.2) fun x1 =>
    bindO (laws_toMapping x1) fun r2 =>
    bindO (idx x.1 x.2) fun x3 =>
    bindO (idx x.1 x.2) fun x4 =>
    nx (List.set x.1 (Int.toNat x.2) r2, IntKind.wrap .i64 (x.2 + 1))) (
    k0 x.1 x.2)
noncomputable def laws_toMappingS (a0 : List Mapping) : Option (List Mapping) :=
  if 0 ≤ ((List.length a0 : Int)) ∧ ((List.length a0 : Int)) ≤ ((List.length a0 : Int)) then (
  room (Int.toNat ((List.length a0 : Int))) (
  iterL (laws_toMappingS_T3
    (fun (y5 : List Mapping) (y6 : Int) =>
      some y5) a0) fuel (List.replicate (Int.toNat ((List.length a0 : Int))) (0, 0, 0, false), 0))) else none
noncomputable def laws_toRing (a0 : Clock) : Option (Clock) :=
  some a0
noncomputable def laws_toPool (a0 : Pool) : Option (Pool) :=
  bindO (laws_toIntS a0.2.2.2) fun r1 =>
  some (a0.1, a0.2.1, a0.2.2.1, r1)
noncomputable def laws_toSent (a0 : Sent) : Option (Sent) :=
  bindO (laws_toIntS a0.2.2) fun r1 =>
  some (a0.1, a0.2.1, r1)
noncomputable def laws_toSentS_T3 {R : Type} (k0 : (List Sent) → Int → Option R) (v0 : List Sent) (nx : ((List Sent) × Int) → Option R) (x : (List Sent) × Int) : Option R :=
  cond (decide (x.2 < ((List.length v0 : Int)))) (
    bindO (idx v0 x.2) fun x1 =>
    bindO (laws_toSent x1) fun r2 =>
    bindO (idx x.1 x.2) fun x3 =>
    bindO (idx x.1 x.2) fun x4 =>
    nx (List.set x.1 (Int.toNat x.2) r2, IntKind.wrap .i64 (x.2 + 1))) (
    k0 x.1 x.2)
noncomputable def laws_toSentS (a0 : List Sent) : Option (List Sent) :=
  if 0 ≤ ((List.length a0 : Int)) ∧ ((List.length a0 : Int)) ≤ ((List.length a0 : Int)) then (
  room (Int.toNat ((List.length a0 : Int))) (
  iterL (laws_toSentS_T3
    (fun (y5 : List Sent) (y6 : Int) =>
      some y5) a0) fuel (List.replicate (Int.toNat ((List.length a0 : Int))) (0, 0, ([] : List Int)), 0))) else none
noncomputable def laws_toTxQueue (a0 : TxQueue) : Option (TxQueue) :=
  bindO (laws_toRing a0.1) fun r1 =>
  bindO (laws_toPool a0.2.1) fun r2 =>
  bindO (laws_toSentS a0.2.2.1) fun r3 =>
  some (r1, r2, r3, a0.2.2.2)
noncomputable def laws_toCompletionQueue (a0 : Bucket) : Option (Bucket) :=
  some a0
noncomputable def laws_toSegment (a0 : Segment) : Option (Segment) :=
  some a0
noncomputable def laws_toPacket (a0 : Packet) : Option (Packet) :=
  bindO (laws_toSegment a0.2.2.2.2.2.2.2.2) fun r1 =>
  some (a0.1, a0.2.1, a0.2.2.1, a0.2.2.2.1, a0.2.2.2.2.1, a0.2.2.2.2.2.1, a0.2.2.2.2.2.2.1, a0.2.2.2.2.2.2.2.1, r1)
noncomputable def laws_toSuper (a0 : Super) : Option (Super) :=
  bindO (laws_toPacket a0.1) fun r1 =>
  some (r1, a0.2)
noncomputable def laws_toRxQueue (a0 : RxQueue) : Option (RxQueue) :=
  bindO (laws_toRing a0.1) fun r1 =>
  bindO (laws_toCompletionQueue a0.2.1) fun r2 =>
  bindO (laws_toCompletionQueue a0.2.2.1) fun r3 =>
  bindO (laws_toSuper a0.2.2.2.1) fun r4 =>
  some (r1, r2, r3, r4, a0.2.2.2.2)
noncomputable def laws_toRxQueueS_T3 {R : Type} (k0 : (List RxQueue) → Int → Option R) (v0 : List RxQueue) (nx : ((List RxQueue) × Int) → Option R) (x : (List RxQueue) × Int) : Option R :=
  cond (decide (x.2 < ((List.length v0 : Int)))) (
    bindO (idx v0 x.2) fun x1 =>
    bindO (laws_toRxQueue x1) fun r2 =>
    bindO (idx x.1 x.2) fun x3 =>
    bindO (idx x.1 x.2) fun x4 =>
    nx (List.set x.1 (Int.toNat x.2) r2, IntKind.wrap .i64 (x.2 + 1))) (
    k0 x.1 x.2)
noncomputable def laws_toRxQueueS (a0 : List RxQueue) : Option (List RxQueue) :=
  if 0 ≤ ((List.length a0 : Int)) ∧ ((List.length a0 : Int)) ≤ ((List.length a0 : Int)) then (
  room (Int.toNat ((List.length a0 : Int))) (
  iterL (laws_toRxQueueS_T3
    (fun (y5 : List RxQueue) (y6 : Int) =>
      some y5) a0) fuel (List.replicate (Int.toNat ((List.length a0 : Int))) ((0, 0, 0, 0), (0, 0, 0), (0, 0, 0), ((0, 0, 0, 0, 0, 0, 0, 0, 0, 0, 0, 0, 0, 0, 0, ([] : Bytes)), 0, 0), false, 0), 0))) else none
noncomputable def laws_toPoolS_T3 {R : Type} (k0 : (List Pool) → Int → Option R) (v0 : List Pool) (nx : ((List Pool) × Int) → Option R) (x : (List Pool) × Int) : Option R :=
  cond (decide (x.2 < ((List.length v0 : Int)))) (
    bindO (idx v0 x.2) fun x1 =>
    bindO (laws_toPool x1) fun r2 =>
    bindO (idx x.1 x.2) fun x3 =>
    bindO (idx x.1 x.2) fun x4 =>
    nx (List.set x.1 (Int.toNat x.2) r2, IntKind.wrap .i64 (x.2 + 1))) (
    k0 x.1 x.2)
noncomputable def laws_toPoolS (a0 : List Pool) : Option (List Pool) :=
  if 0 ≤ ((List.length a0 : Int)) ∧ ((List.length a0 : Int)) ≤ ((List.length a0 : Int)) then (
  room (Int.toNat ((List.length a0 : Int))) (
  iterL (laws_toPoolS_T3
    (fun (y5 : List Pool) (y6 : Int) =>
      some y5) a0) fuel (List.replicate (Int.toNat ((List.length a0 : Int))) (0, 0, 0, ([] : List Int)), 0))) else none
noncomputable def laws_toVector (a0 : Vector) : Option (Vector) :=
  some a0
noncomputable def laws_toVectorS_T3 {R : Type} (k0 : (List Vector) → Int → Option R) (v0 : List Vector) (nx : ((List Vector) × Int) → Option R) (x : (List Vector) × Int) : Option R :=
  cond (decide (x.2 < ((List.length v0 : Int)))) (
    bindO (idx v0 x.2) fun x1 =>
    bindO (laws_toVector x1) fun r2 =>
    bindO (idx x.1 x.2) fun x3 =>
    bindO (idx x.1 x.2) fun x4 =>
    nx (List.set x.1 (Int.toNat x.2) r2, IntKind.wrap .i64 (x.2 + 1))) (
    k0 x.1 x.2)
noncomputable def laws_toVectorS (a0 : List Vector) : Option (List Vector) :=
  if 0 ≤ ((List.length a0 : Int)) ∧ ((List.length a0 : Int)) ≤ ((List.length a0 : Int)) then (
  room (Int.toNat ((List.length a0 : Int))) (
  iterL (laws_toVectorS_T3
    (fun (y5 : List Vector) (y6 : Int) =>
      some y5) a0) fuel (List.replicate (Int.toNat ((List.length a0 : Int))) (0, 0, 0, 0, false, false), 0))) else none
noncomputable def laws_toBoolS_T3 {R : Type} (k0 : (List Bool) → Int → Option R) (v0 : List Bool) (nx : ((List Bool) × Int) → Option R) (x : (List Bool) × Int) : Option R :=
  cond (decide (x.2 < ((List.length v0 : Int)))) (
    bindO (idx v0 x.2) fun x1 =>
    bindO (idx x.1 x.2) fun x2 =>
    bindO (idx x.1 x.2) fun x3 =>
    nx (List.set x.1 (Int.toNat x.2) x1, IntKind.wrap .i64 (x.2 + 1))) (
    k0 x.1 x.2)
noncomputable def laws_toBoolS (a0 : List Bool) : Option (List Bool) :=
  if 0 ≤ ((List.length a0 : Int)) ∧ ((List.length a0 : Int)) ≤ ((List.length a0 : Int)) then (
  room (Int.toNat ((List.length a0 : Int))) (
  iterL (laws_toBoolS_T3
    (fun (y4 : List Bool) (y5 : Int) =>
      some y4) a0) fuel (List.replicate (Int.toNat ((List.length a0 : Int))) false, 0))) else none
noncomputable def laws_toFilter (a0 : Filter) : Option (Filter) :=
  bindO (laws_toIntS a0.2.2) fun r1 =>
  some (a0.1, a0.2.1, r1)
noncomputable def laws_toRule (a0 : Rule) : Option (Rule) :=
  some a0
noncomputable def laws_toRuleS_T3 {R : Type} (k0 : (List Rule) → Int → Option R) (v0 : List Rule) (nx : ((List Rule) × Int) → Option R) (x : (List Rule) × Int) : Option R :=
  cond (decide (x.2 < ((List.length v0 : Int)))) (
    bindO (idx v0 x.2) fun x1 =>
    bindO (laws_toRule x1) fun r2 =>
    bindO (idx x.1 x.2) fun x3 =>
    bindO (idx x.1 x.2) fun x4 =>
    nx (List.set x.1 (Int.toNat x.2) r2, IntKind.wrap .i64 (x.2 + 1))) (
    k0 x.1 x.2)
noncomputable def laws_toRuleS (a0 : List Rule) : Option (List Rule) :=
  if 0 ≤ ((List.length a0 : Int)) ∧ ((List.length a0 : Int)) ≤ ((List.length a0 : Int)) then (
  room (Int.toNat ((List.length a0 : Int))) (
  iterL (laws_toRuleS_T3
    (fun (y5 : List Rule) (y6 : Int) =>
      some y5) a0) fuel (List.replicate (Int.toNat ((List.length a0 : Int))) (0, 0, 0, 0, 0, 0, 0, 0, 0), 0))) else none
noncomputable def laws_toFlow (a0 : Flow) : Option (Flow) :=
  some a0
noncomputable def laws_toSlot (a0 : Slot) : Option (Slot) :=
  bindO (laws_toFlow a0.2.1) fun r1 =>
  some (a0.1, r1, a0.2.2)
noncomputable def laws_toSlotS_T3 {R : Type} (k0 : (List Slot) → Int → Option R) (v0 : List Slot) (nx : ((List Slot) × Int) → Option R) (x : (List Slot) × Int) : Option R :=
  cond (decide (x.2 < ((List.length v0 : Int)))) (
    bindO (idx v0 x.2) fun x1 =>
    bindO (laws_toSlot x1) fun r2 =>
    bindO (idx x.1 x.2) fun x3 =>
    bindO (idx x.1 x.2) fun x4 =>
    nx (List.set x.1 (Int.toNat x.2) r2, IntKind.wrap .i64 (x.2 + 1))) (
    k0 x.1 x.2)
noncomputable def laws_toSlotS (a0 : List Slot) : Option (List Slot) :=
  if 0 ≤ ((List.length a0 : Int)) ∧ ((List.length a0 : Int)) ≤ ((List.length a0 : Int)) then (
  room (Int.toNat ((List.length a0 : Int))) (
  iterL (laws_toSlotS_T3
    (fun (y5 : List Slot) (y6 : Int) =>
      some y5) a0) fuel (List.replicate (Int.toNat ((List.length a0 : Int))) (0, (0, 0, 0, 0, 0), 0), 0))) else none
noncomputable def laws_toFlowTable (a0 : List Slot) : Option (List Slot) :=
  bindO (laws_toSlotS a0) fun r1 =>
  some r1
noncomputable def laws_toSpread (a0 : Spread) : Option (Spread) :=
  bindO (laws_toIntS a0.2) fun r1 =>
  some (a0.1, r1)
noncomputable def laws_toSteering (a0 : Steering) : Option (Steering) :=
  bindO (laws_toRuleS a0.1) fun r1 =>
  bindO (laws_toFlowTable a0.2.1) fun r2 =>
  bindO (laws_toSpread a0.2.2) fun r3 =>
  some (r1, r2, r3)
noncomputable def laws_toStream (a0 : Stream) : Option (Stream) :=
  bindO (laws_toFlow a0.1) fun r1 =>
  some (r1, a0.2)
noncomputable def laws_toStreamS_T3 {R : Type} (k0 : (List Stream) → Int → Option R) (v0 : List Stream) (nx : ((List Stream) × Int) → Option R) (x : (List Stream) × Int) : Option R :=
  cond (decide (x.2 < ((List.length v0 : Int)))) (
    bindO (idx v0 x.2) fun x1 =>
    bindO (laws_toStream x1) fun r2 =>
    bindO (idx x.1 x.2) fun x3 =>
    bindO (idx x.1 x.2) fun x4 =>
    nx (List.set x.1 (Int.toNat x.2) r2, IntKind.wrap .i64 (x.2 + 1))) (
    k0 x.1 x.2)
noncomputable def laws_toStreamS (a0 : List Stream) : Option (List Stream) :=
  if 0 ≤ ((List.length a0 : Int)) ∧ ((List.length a0 : Int)) ≤ ((List.length a0 : Int)) then (
  room (Int.toNat ((List.length a0 : Int))) (
  iterL (laws_toStreamS_T3
    (fun (y5 : List Stream) (y6 : Int) =>
      some y5) a0) fuel (List.replicate (Int.toNat ((List.length a0 : Int))) ((0, 0, 0, 0, 0), 0, ([] : Bytes), false), 0))) else none
noncomputable def laws_toCounters (a0 : Flow) : Option (Flow) :=
  some a0
noncomputable def laws_toHost (a0 : Host) : Option (Host) :=
  bindO (laws_toMemory a0.1) fun r1 =>
  bindO (laws_toMappingS a0.2.1) fun r2 =>
  bindO (laws_toTxQueue a0.2.2.1) fun r3 =>
  bindO (laws_toRxQueueS a0.2.2.2.1) fun r4 =>
  bindO (laws_toPoolS a0.2.2.2.2.1) fun r5 =>
  bindO (laws_toVectorS a0.2.2.2.2.2.1) fun r6 =>
  bindO (laws_toBoolS a0.2.2.2.2.2.2.1) fun r7 =>
  bindO (laws_toFilter a0.2.2.2.2.2.2.2.1) fun r8 =>
  bindO (laws_toSteering a0.2.2.2.2.2.2.2.2.1) fun r9 =>
  bindO (laws_toStreamS a0.2.2.2.2.2.2.2.2.2.1) fun r10 =>
  bindO (laws_toStringS a0.2.2.2.2.2.2.2.2.2.2.2.1) fun r11 =>
  bindO (laws_toIntS a0.2.2.2.2.2.2.2.2.2.2.2.2.1) fun r12 =>
  bindO (laws_toIntS a0.2.2.2.2.2.2.2.2.2.2.2.2.2.1) fun r13 =>
  bindO (laws_toCounters a0.2.2.2.2.2.2.2.2.2.2.2.2.2.2) fun r14 =>
  some (r1, r2, r3, r4, r5, r6, r7, r8, r9, r10, a0.2.2.2.2.2.2.2.2.2.2.1, r11, r12, r13, r14)
noncomputable def laws_toHostS_T3 {R : Type} (k0 : (List Host) → Int → Option R) (v0 : List Host) (nx : ((List Host) × Int) → Option R) (x : (List Host) × Int) : Option R :=
  cond (decide (x.2 < ((List.length v0 : Int)))) (
    bindO (idx v0 x.2) fun x1 =>
    bindO (laws_toHost x1) fun r2 =>
    bindO (idx x.1 x.2) fun x3 =>
    bindO (idx x.1 x.2) fun x4 =>
    nx (List.set x.1 (Int.toNat x.2) r2, IntKind.wrap .i64 (x.2 + 1))) (
    k0 x.1 x.2)
noncomputable def laws_toHostS (a0 : List Host) : Option (List Host) :=
  if 0 ≤ ((List.length a0 : Int)) ∧ ((List.length a0 : Int)) ≤ ((List.length a0 : Int)) then (
  room (Int.toNat ((List.length a0 : Int))) (
  iterL (laws_toHostS_T3
    (fun (y5 : List Host) (y6 : Int) =>
      some y5) a0) fuel (List.replicate (Int.toNat ((List.length a0 : Int))) (([] : List Bytes), ([] : List Mapping), ((0, 0, 0, 0), (0, 0, 0, ([] : List Int)), ([] : List Sent), 0), ([] : List RxQueue), ([] : List Pool), ([] : List Vector), ([] : List Bool), (0, false, ([] : List Int)), (([] : List Rule), ([] : List Slot), ([] : Bytes), ([] : List Int)), ([] : List Stream), false, ([] : List Bytes), ([] : List Int), ([] : List Int), 0, 0, 0, 0, 0), 0))) else none
noncomputable def laws_toBucket (a0 : Bucket) : Option (Bucket) :=
  some a0
noncomputable def laws_toVirtualFunction (a0 : VirtualFunction) : Option (VirtualFunction) :=
  bindO (laws_toBucket a0.2.2.1) fun r1 =>
  some (a0.1, a0.2.1, r1, a0.2.2.2)
noncomputable def laws_toVirtualFunctionS_T3 {R : Type} (k0 : (List VirtualFunction) → Int → Option R) (v0 : List VirtualFunction) (nx : ((List VirtualFunction) × Int) → Option R) (x : (List VirtualFunction) × Int) : Option R :=
  cond (decide (x.2 < ((List.length v0 : Int)))) (
    bindO (idx v0 x.2) fun x1 =>
    bindO (laws_toVirtualFunction x1) fun r2 =>
    bindO (idx x.1 x.2) fun x3 =>
    bindO (idx x.1 x.2) fun x4 =>
    nx (List.set x.1 (Int.toNat x.2) r2, IntKind.wrap .i64 (x.2 + 1))) (
    k0 x.1 x.2)
noncomputable def laws_toVirtualFunctionS (a0 : List VirtualFunction) : Option (List VirtualFunction) :=
  if 0 ≤ ((List.length a0 : Int)) ∧ ((List.length a0 : Int)) ≤ ((List.length a0 : Int)) then (
  room (Int.toNat ((List.length a0 : Int))) (
  iterL (laws_toVirtualFunctionS_T3
    (fun (y5 : List VirtualFunction) (y6 : Int) =>
      some y5) a0) fuel (List.replicate (Int.toNat ((List.length a0 : Int))) (0, 0, (0, 0, 0), false, 0, 0), 0))) else none
noncomputable def laws_toMailbox (a0 : Mailbox) : Option (Mailbox) :=
  bindO (laws_toFilter a0.1) fun r1 =>
  some (r1, a0.2)
noncomputable def laws_toMailboxS_T3 {R : Type} (k0 : (List Mailbox) → Int → Option R) (v0 : List Mailbox) (nx : ((List Mailbox) × Int) → Option R) (x : (List Mailbox) × Int) : Option R :=
  cond (decide (x.2 < ((List.length v0 : Int)))) (
    bindO (idx v0 x.2) fun x1 =>
    bindO (laws_toMailbox x1) fun r2 =>
    bindO (idx x.1 x.2) fun x3 =>
    bindO (idx x.1 x.2) fun x4 =>
    nx (List.set x.1 (Int.toNat x.2) r2, IntKind.wrap .i64 (x.2 + 1))) (
    k0 x.1 x.2)
noncomputable def laws_toMailboxS (a0 : List Mailbox) : Option (List Mailbox) :=
  if 0 ≤ ((List.length a0 : Int)) ∧ ((List.length a0 : Int)) ≤ ((List.length a0 : Int)) then (
  room (Int.toNat ((List.length a0 : Int))) (
  iterL (laws_toMailboxS_T3
    (fun (y5 : List Mailbox) (y6 : Int) =>
      some y5) a0) fuel (List.replicate (Int.toNat ((List.length a0 : Int))) ((0, false, ([] : List Int)), 0, 0, 0), 0))) else none
noncomputable def laws_toFlash (a0 : List Bytes) : Option (List Bytes) :=
  bindO (laws_toStringS a0) fun r1 =>
  some r1
noncomputable def laws_toClock (a0 : Clock) : Option (Clock) :=
  some a0
noncomputable def laws_toCard (a0 : Card) : Option (Card) :=
  bindO (laws_toHostS a0.1) fun r1 =>
  bindO (laws_toVirtualFunctionS a0.2.1) fun r2 =>
  bindO (laws_toMailboxS a0.2.2.1) fun r3 =>
  bindO (laws_toFlash a0.2.2.2.1) fun r4 =>
  bindO (laws_toClock a0.2.2.2.2.1) fun r5 =>
  bindO (laws_toIntS a0.2.2.2.2.2.1) fun r6 =>
  bindO (laws_toStringS a0.2.2.2.2.2.2) fun r7 =>
  some (r1, r2, r3, r4, r5, r6, r7)
noncomputable def impl_HostDropped_T3 {R : Type} (k0 : Int → Int → Option R) (v7 : List RxQueue) (v8 : Int) (nx : (Int × Int) → Option R) (x : Int × Int) : Option R :=
  cond (decide (x.2 < v8)) (
    bindO (idx v7 x.2) fun x1 =>
    nx (IntKind.wrap .i64 (x.1 + x1.2.2.2.2.2), IntKind.wrap .i64 (x.2 + 1))) (
    k0 x.1 x.2)
noncomputable def impl_HostDropped (a0 : Host) : Option (Int) :=
  iterL (impl_HostDropped_T3
    (fun (y2 : Int) (y3 : Int) =>
      some y2) a0.2.2.2.1 ((List.length a0.2.2.2.1 : Int))) fuel (0, 0)
noncomputable def impl_CardDropped_T3 {R : Type} (k0 : Int → Int → Option R) (v7 : List Host) (v8 : Int) (nx : (Int × Int) → Option R) (x : Int × Int) : Option R :=
  cond (decide (x.2 < v8)) (
    bindO (idx v7 x.2) fun x1 =>
    bindO (impl_HostDropped x1) fun r2 =>
    nx (IntKind.wrap .i64 (x.1 + r2), IntKind.wrap .i64 (x.2 + 1))) (
    k0 x.1 x.2)
noncomputable def impl_CardDropped (a0 : Card) : Option (Int) :=
  iterL (impl_CardDropped_T3
    (fun (y3 : Int) (y4 : Int) =>
      some y3) a0.1 ((List.length a0.1 : Int))) fuel (0, 0)
noncomputable def laws_eqIntS_T4 {R : Type} (k0 : Int → Option R) (k1 : Bool → Int → Option R) (v0 : List Int) (v1 : List Int) (v4 : Bool) (nx : Int → Option R) (x : Int) : Option R :=
  cond (decide (x < ((List.length v0 : Int)))) (
    bindO (idx v0 x) fun x1 =>
    bindO (idx v1 x) fun x2 =>
    cond (x1 != x2) (
      k1 false x) (
      nx (IntKind.wrap .i64 (x + 1)))) (
    k0 x)
noncomputable def laws_eqIntS (a0 : List Int) (a1 : List Int) : Option (Bool) :=
  cond (((List.length a0 : Int)) != ((List.length a1 : Int))) (
    some false) (
    iterL (laws_eqIntS_T4
      (fun (y3 : Int) =>
        some true)
      (fun (y4 : Bool) (y5 : Int) =>
        some y4) a0 a1 false) fuel 0)
noncomputable def laws_eqStringS_T4 {R : Type} (k0 : Int → Option R) (k1 : Bool → Int → Option R) (v0 : List Bytes) (v1 : List Bytes) (v4 : Bool) (nx : Int → Option R) (x : Int) : Option R :=
  cond (decide (x < ((List.length v0 : Int)))) (
    bindO (idx v0 x) fun x1 =>
    bindO (idx v1 x) fun x2 =>
    cond (!(x1 == x2)) (
      k1 false x) (
      nx (IntKind.wrap .i64 (x + 1)))) (
    k0 x)
noncomputable def laws_eqStringS (a0 : List Bytes) (a1 : List Bytes) : Option (Bool) :=
  cond (((List.length a0 : Int)) != ((List.length a1 : Int))) (
    some false) (
    iterL (laws_eqStringS_T4
      (fun (y3 : Int) =>
        some true)
      (fun (y4 : Bool) (y5 : Int) =>
        some y4) a0 a1 false) fuel 0)
noncomputable def laws_eqMemory (a0 : List Bytes) (a1 : List Bytes) : Option (Bool) :=
  bindO (laws_eqStringS a0 a1) fun r1 =>
  cond (!r1) (
    some false) (
    some true)
noncomputable def laws_eqMapping (a0 : Mapping) (a1 : Mapping) : Option (Bool) :=
  cond (a0.1 != a1.1) (
    some false) (
    cond (a0.2.1 != a1.2.1) (
      some false) (
      cond (a0.2.2.1 != a1.2.2.1) (
        some false) (
        cond (!(a0.2.2.2 == a1.2.2.2)) (
          some false) (
          some true))))
noncomputable def laws_eqMappingS_T4 {R : Type} (k0 : Int → Option R) (k1 : Bool → Int → Option R) (v0 : List Mapping) (v1 : List Mapping) (v4 : Bool) (nx : Int → Option R) (x : Int) : Option R :=
  cond (decide (x < ((List.length v0 : Int)))) (
    bindO (idx v0 x) fun x1 =>
    bindO (idx v1 x) fun x2 =>
    bindO (laws_eqMapping x1 x2) fun r3 =>
    cond (!r3) (
      k1 false x) (
      nx (IntKind.wrap .i64 (x + 1)))) (
    k0 x)
noncomputable def laws_eqMappingS (a0 : List Mapping) (a1 : List Mapping) : Option (Bool) :=
  cond (((List.length a0 : Int)) != ((List.length a1 : Int))) (
    some false) (
    iterL (laws_eqMappingS_T4
      (fun (y4 : Int) =>
        some true)
      (fun (y5 : Bool) (y6 : Int) =>
        some y5) a0 a1 false) fuel 0)
noncomputable def laws_eqRing (a0 : Clock) (a1 : Clock) : Option (Bool) :=
  cond (a0.1 != a1.1) (
    some false) (
    cond (a0.2.1 != a1.2.1) (
      some false) (
      cond (a0.2.2.1 != a1.2.2.1) (
        some false) (
        cond (a0.2.2.2 != a1.2.2.2) (
          some false) (
          some true))))
noncomputable def laws_eqPool (a0 : Pool) (a1 : Pool) : Option (Bool) :=
  cond (a0.1 != a1.1) (
    some false) (
    cond (a0.2.1 != a1.2.1) (
      some false) (
      cond (a0.2.2.1 != a1.2.2.1) (
        some false) (
        bindO (laws_eqIntS a0.2.2.2 a1.2.2.2) fun r1 =>
        cond (!r1) (
          some false) (
          some true))))
noncomputable def laws_eqSent (a0 : Sent) (a1 : Sent) : Option (Bool) :=
  cond (a0.1 != a1.1) (
    some false) (
    cond (a0.2.1 != a1.2.1) (
      some false) (
      bindO (laws_eqIntS a0.2.2 a1.2.2) fun r1 =>
      cond (!r1) (
        some false) (
        some true)))
noncomputable def laws_eqSentS_T4 {R : Type} (k0 : Int → Option R) (k1 : Bool → Int → Option R) (v0 : List Sent) (v1 : List Sent) (v4 : Bool) (nx : Int → Option R) (x : Int) : Option R :=
  cond (decide (x < ((List.length v0 : Int)))) (
    bindO (idx v0 x) fun x1 =>
    bindO (idx v1 x) fun x2 =>
    bindO (laws_eqSent x1 x2) fun r3 =>
    cond (!r3) (
      k1 false x) (
      nx (IntKind.wrap .i64 (x + 1)))) (
    k0 x)
noncomputable def laws_eqSentS (a0 : List Sent) (a1 : List Sent) : Option (Bool) :=
  cond (((List.length a0 : Int)) != ((List.length a1 : Int))) (
    some false) (
    iterL (laws_eqSentS_T4
      (fun (y4 : Int) =>
        some true)
      (fun (y5 : Bool) (y6 : Int) =>
        some y5) a0 a1 false) fuel 0)
noncomputable def laws_eqTxQueue (a0 : TxQueue) (a1 : TxQueue) : Option (Bool) :=
  bindO (laws_eqRing a0.1 a1.1) fun r1 =>
  cond (!r1) (
    some false) (
    bindO (laws_eqPool a0.2.1 a1.2.1) fun r2 =>
    cond (!r2) (
      some false) (
      bindO (laws_eqSentS a0.2.2.1 a1.2.2.1) fun r3 =>
      cond (!r3) (
        some false) (
        cond (a0.2.2.2 != a1.2.2.2) (
          some false) (
          some true))))
noncomputable def laws_eqCompletionQueue (a0 : Bucket) (a1 : Bucket) : Option (Bool) :=
  cond (a0.1 != a1.1) (
    some false) (
    cond (a0.2.1 != a1.2.1) (
      some false) (
      cond (a0.2.2 != a1.2.2) (
        some false) (
        some true)))
noncomputable def laws_eqSegment (a0 : Segment) (a1 : Segment) : Option (Bool) :=
  cond (a0.1 != a1.1) (
    some false) (
    cond (a0.2.1 != a1.2.1) (
      some false) (
      cond (a0.2.2.1 != a1.2.2.1) (
        some false) (
        cond (a0.2.2.2.1 != a1.2.2.2.1) (
          some false) (
          cond (a0.2.2.2.2.1 != a1.2.2.2.2.1) (
            some false) (
            cond (a0.2.2.2.2.2.1 != a1.2.2.2.2.2.1) (
              some false) (
              cond (a0.2.2.2.2.2.2.1 != a1.2.2.2.2.2.2.1) (
                some false) (
                cond (!(a0.2.2.2.2.2.2.2 == a1.2.2.2.2.2.2.2)) (
                  some false) (
                  some true))))))))
noncomputable def laws_eqPacket (a0 : Packet) (a1 : Packet) : Option (Bool) :=
  cond (a0.1 != a1.1) (
    some false) (
    cond (a0.2.1 != a1.2.1) (
      some false) (
      cond (a0.2.2.1 != a1.2.2.1) (
        some false) (
        cond (a0.2.2.2.1 != a1.2.2.2.1) (
          some false) (
          cond (a0.2.2.2.2.1 != a1.2.2.2.2.1) (
            some false) (
            cond (a0.2.2.2.2.2.1 != a1.2.2.2.2.2.1) (
              some false) (
              cond (a0.2.2.2.2.2.2.1 != a1.2.2.2.2.2.2.1) (
                some false) (
                cond (a0.2.2.2.2.2.2.2.1 != a1.2.2.2.2.2.2.2.1) (
                  some false) (
                  bindO (laws_eqSegment a0.2.2.2.2.2.2.2.2 a1.2.2.2.2.2.2.2.2) fun r1 =>
                  cond (!r1) (
                    some false) (
                    some true)))))))))
noncomputable def laws_eqSuper (a0 : Super) (a1 : Super) : Option (Bool) :=
  bindO (laws_eqPacket a0.1 a1.1) fun r1 =>
  cond (!r1) (
    some false) (
    cond (a0.2.1 != a1.2.1) (
      some false) (
      cond (a0.2.2 != a1.2.2) (
        some false) (
        some true)))
noncomputable def laws_eqRxQueue (a0 : RxQueue) (a1 : RxQueue) : Option (Bool) :=
  bindO (laws_eqRing a0.1 a1.1) fun r1 =>
  cond (!r1) (
    some false) (
    bindO (laws_eqCompletionQueue a0.2.1 a1.2.1) fun r2 =>
    cond (!r2) (
      some false) (
      bindO (laws_eqCompletionQueue a0.2.2.1 a1.2.2.1) fun r3 =>
      cond (!r3) (
        some false) (
        bindO (laws_eqSuper a0.2.2.2.1 a1.2.2.2.1) fun r4 =>
        cond (!r4) (
          some false) (
          cond (!(a0.2.2.2.2.1 == a1.2.2.2.2.1)) (
            some false) (
            cond (a0.2.2.2.2.2 != a1.2.2.2.2.2) (
              some false) (
              some true))))))
noncomputable def laws_eqRxQueueS_T4 {R : Type} (k0 : Int → Option R) (k1 : Bool → Int → Option R) (v0 : List RxQueue) (v1 : List RxQueue) (v4 : Bool) (nx : Int → Option R) (x : Int) : Option R :=
  cond (decide (x < ((List.length v0 : Int)))) (
    bindO (idx v0 x) fun x1 =>
    bindO (idx v1 x) fun x2 =>
    bindO (laws_eqRxQueue x1 x2) fun r3 =>
    cond (!r3) (
      k1 false x) (
      nx (IntKind.wrap .i64 (x + 1)))) (
    k0 x)
noncomputable def laws_eqRxQueueS (a0 : List RxQueue) (a1 : List RxQueue) : Option (Bool) :=
  cond (((List.length a0 : Int)) != ((List.length a1 : Int))) (
    some false) (
    iterL (laws_eqRxQueueS_T4
      (fun (y4 : Int) =>
        some true)
      (fun (y5 : Bool) (y6 : Int) =>
        some y5) a0 a1 false) fuel 0)
noncomputable def laws_eqPoolS_T4 {R : Type} (k0 : Int → Option R) (k1 : Bool → Int → Option R) (v0 : List Pool) (v1 : List Pool) (v4 : Bool) (nx : Int → Option R) (x : Int) : Option R :=
  cond (decide (x < ((List.length v0 : Int)))) (
    bindO (idx v0 x) fun x1 =>
    bindO (idx v1 x) fun x2 =>
    bindO (laws_eqPool x1 x2) fun r3 =>
    cond (!r3) (
      k1 false x) (
      nx (IntKind.wrap .i64 (x + 1)))) (
    k0 x)
noncomputable def laws_eqPoolS (a0 : List Pool) (a1 : List Pool) : Option (Bool) :=
  cond (((List.length a0 : Int)) != ((List.length a1 : Int))) (
    some false) (
    iterL (laws_eqPoolS_T4
      (fun (y4 : Int) =>
        some true)
      (fun (y5 : Bool) (y6 : Int) =>
        some y5) a0 a1 false) fuel 0)
noncomputable def laws_eqVector (a0 : Vector) (a1 : Vector) : Option (Bool) :=
  cond (a0.1 != a1.1) (
    some false) (
    cond (a0.2.1 != a1.2.1) (
      some false) (
      cond (a0.2.2.1 != a1.2.2.1) (
        some false) (
        cond (a0.2.2.2.1 != a1.2.2.2.1) (
          some false) (
          cond (!(a0.2.2.2.2.1 == a1.2.2.2.2.1)) (
            some false) (
            cond (!(a0.2.2.2.2.2 == a1.2.2.2.2.2)) (
              some false) (
              some true))))))
noncomputable def laws_eqVectorS_T4 {R : Type} (k0 : Int → Option R) (k1 : Bool → Int → Option R) (v0 : List Vector) (v1 : List Vector) (v4 : Bool) (nx : Int → Option R) (x : Int) : Option R :=
  cond (decide (x < ((List.length v0 : Int)))) (
    bindO (idx v0 x) fun x1 =>
    bindO (idx v1 x) fun x2 =>
    bindO (laws_eqVector x1 x2) fun r3 =>
    cond (!r3) (
      k1 false x) (
      nx (IntKind.wrap .i64 (x + 1)))) (
    k0 x)
noncomputable def laws_eqVectorS (a0 : List Vector) (a1 : List Vector) : Option (Bool) :=
  cond (((List.length a0 : Int)) != ((List.length a1 : Int))) (
    some false) (
    iterL (laws_eqVectorS_T4
      (fun (y4 : Int) =>
        some true)
      (fun (y5 : Bool) (y6 : Int) =>
        some y5) a0 a1 false) fuel 0)
noncomputable def laws_eqBoolS_T4 {R : Type} (k0 : Int → Option R) (k1 : Bool → Int → Option R) (v0 : List Bool) (v1 : List Bool) (v4 : Bool) (nx : Int → Option R) (x : Int) : Option R :=
  cond (decide (x < ((List.length v0 : Int)))) (
    bindO (idx v0 x) fun x1 =>
    bindO (idx v1 x) fun x2 =>
    cond (!(x1 == x2)) (
      k1 false x) (
      nx (IntKind.wrap .i64 (x + 1)))) (
    k0 x)
noncomputable def laws_eqBoolS (a0 : List Bool) (a1 : List Bool) : Option (Bool) :=
  cond (((List.length a0 : Int)) != ((List.length a1 : Int))) (
    some false) (
    iterL (laws_eqBoolS_T4
      (fun (y3 : Int) =>
        some true)
      (fun (y4 : Bool) (y5 : Int) =>
        some y4) a0 a1 false) fuel 0)
noncomputable def laws_eqFilter (a0 : Filter) (a1 : Filter) : Option (Bool) :=
  cond (a0.1 != a1.1) (
    some false) (
    cond (!(a0.2.1 == a1.2.1)) (
      some false) (
      bindO (laws_eqIntS a0.2.2 a1.2.2) fun r1 =>
      cond (!r1) (
        some false) (
        some true)))
noncomputable def laws_eqRule (a0 : Rule) (a1 : Rule) : Option (Bool) :=
  cond (a0.1 != a1.1) (
    some false) (
    cond (a0.2.1 != a1.2.1) (
      some false) (
      cond (a0.2.2.1 != a1.2.2.1) (
        some false) (
        cond (a0.2.2.2.1 != a1.2.2.2.1) (
          some false) (
          cond (a0.2.2.2.2.1 != a1.2.2.2.2.1) (
            some false) (
            cond (a0.2.2.2.2.2.1 != a1.2.2.2.2.2.1) (
              some false) (
              cond (a0.2.2.2.2.2.2.1 != a1.2.2.2.2.2.2.1) (
                some false) (
                cond (a0.2.2.2.2.2.2.2.1 != a1.2.2.2.2.2.2.2.1) (
                  some false) (
                  cond (a0.2.2.2.2.2.2.2.2 != a1.2.2.2.2.2.2.2.2) (
                    some false) (
                    some true)))))))))
noncomputable def laws_eqRuleS_T4 {R : Type} (k0 : Int → Option R) (k1 : Bool → Int → Option R) (v0 : List Rule) (v1 : List Rule) (v4 : Bool) (nx : Int → Option R) (x : Int) : Option R :=
  cond (decide (x < ((List.length v0 : Int)))) (
    bindO (idx v0 x) fun x1 =>
    bindO (idx v1 x) fun x2 =>
    bindO (laws_eqRule x1 x2) fun r3 =>
    cond (!r3) (
      k1 false x) (
      nx (IntKind.wrap .i64 (x + 1)))) (
    k0 x)
noncomputable def laws_eqRuleS (a0 : List Rule) (a1 : List Rule) : Option (Bool) :=
  cond (((List.length a0 : Int)) != ((List.length a1 : Int))) (
    some false) (
    iterL (laws_eqRuleS_T4
      (fun (y4 : Int) =>
        some true)
      (fun (y5 : Bool) (y6 : Int) =>
        some y5) a0 a1 false) fuel 0)
noncomputable def laws_eqFlow (a0 : Flow) (a1 : Flow) : Option (Bool) :=
  cond (a0.1 != a1.1) (
    some false) (
    cond (a0.2.1 != a1.2.1) (
      some false) (
      cond (a0.2.2.1 != a1.2.2.1) (
        some false) (
        cond (a0.2.2.2.1 != a1.2.2.2.1) (
          some false) (
          cond (a0.2.2.2.2 != a1.2.2.2.2) (
            some false) (
            some true)))))
noncomputable def laws_eqSlot (a0 : Slot) (a1 : Slot) : Option (Bool) :=
  cond (a0.1 != a1.1) (
    some false) (
    bindO (laws_eqFlow a0.2.1 a1.2.1) fun r1 =>
    cond (!r1) (
      some false) (
      cond (a0.2.2 != a1.2.2) (
        some false) (
        some true)))
noncomputable def laws_eqSlotS_T4 {R : Type} (k0 : Int → Option R) (k1 : Bool → Int → Option R) (v0 : List Slot) (v1 : List Slot) (v4 : Bool) (nx : Int → Option R) (x : Int) : Option R :=
  cond (decide (x < ((List.length v0 : Int)))) (
    bindO (idx v0 x) fun x1 =>
    bindO (idx v1 x) fun x2 =>
    bindO (laws_eqSlot x1 x2) fun r3 =>
    cond (!r3) (
      k1 false x) (
      nx (IntKind.wrap .i64 (x + 1)))) (
    k0 x)
noncomputable def laws_eqSlotS (a0 : List Slot) (a1 : List Slot) : Option (Bool) :=
  cond (((List.length a0 : Int)) != ((List.length a1 : Int))) (
    some false) (
    iterL (laws_eqSlotS_T4
      (fun (y4 : Int) =>
        some true)
      (fun (y5 : Bool) (y6 : Int) =>
        some y5) a0 a1 false) fuel 0)
noncomputable def laws_eqFlowTable (a0 : List Slot) (a1 : List Slot) : Option (Bool) :=
  bindO (laws_eqSlotS a0 a1) fun r1 =>
  cond (!r1) (
    some false) (
    some true)
noncomputable def laws_eqSpread (a0 : Spread) (a1 : Spread) : Option (Bool) :=
  cond (!(a0.1 == a1.1)) (
    some false) (
    bindO (laws_eqIntS a0.2 a1.2) fun r1 =>
    cond (!r1) (
      some false) (
      some true))
noncomputable def laws_eqSteering (a0 : Steering) (a1 : Steering) : Option (Bool) :=
  bindO (laws_eqRuleS a0.1 a1.1) fun r1 =>
  cond (!r1) (
    some false) (
    bindO (laws_eqFlowTable a0.2.1 a1.2.1) fun r2 =>
    cond (!r2) (
      some false) (
      bindO (laws_eqSpread a0.2.2 a1.2.2) fun r3 =>
      cond (!r3) (
        some false) (
        some true)))
noncomputable def laws_eqStream (a0 : Stream) (a1 : Stream) : Option (Bool) :=
  bindO (laws_eqFlow a0.1 a1.1) fun r1 =>
  cond (!r1) (
    some false) (
    cond (a0.2.1 != a1.2.1) (
      some false) (
      cond (!(a0.2.2.1 == a1.2.2.1)) (
        some false) (
        cond (!(a0.2.2.2 == a1.2.2.2)) (
          some false) (
          some true))))
noncomputable def laws_eqStreamS_T4 {R : Type} (k0 : Int → Option R) (k1 : Bool → Int → Option R) (v0 : List Stream) (v1 : List Stream) (v4 : Bool) (nx : Int → Option R) (x : Int) : Option R :=
  cond (decide (x < ((List.length v0 : Int)))) (
    bindO (idx v0 x) fun x1 =>
    bindO (idx v1 x) fun x2 =>
    bindO (laws_eqStream x1 x2) fun r3 =>
    cond (!r3) (
      k1 false x) (
      nx (IntKind.wrap .i64 (x + 1)))) (
    k0 x)
noncomputable def laws_eqStreamS (a0 : List Stream) (a1 : List Stream) : Option (Bool) :=
  cond (((List.length a0 : Int)) != ((List.length a1 : Int))) (
    some false) (
    iterL (laws_eqStreamS_T4
      (fun (y4 : Int) =>
        some true)
      (fun (y5 : Bool) (y6 : Int) =>
        some y5) a0 a1 false) fuel 0)
noncomputable def laws_eqCounters (a0 : Flow) (a1 : Flow) : Option (Bool) :=
  cond (a0.1 != a1.1) (
    some false) (
    cond (a0.2.1 != a1.2.1) (
      some false) (
      cond (a0.2.2.1 != a1.2.2.1) (
        some false) (
        cond (a0.2.2.2.1 != a1.2.2.2.1) (
          some false) (
          cond (a0.2.2.2.2 != a1.2.2.2.2) (
            some false) (
            some true)))))
noncomputable def laws_eqHost (a0 : Host) (a1 : Host) : Option (Bool) :=
  bindO (laws_eqMemory a0.1 a1.1) fun r1 =>
  cond (!r1) (
    some false) (
    bindO (laws_eqMappingS a0.2.1 a1.2.1) fun r2 =>
    cond (!r2) (
      some false) (
      bindO (laws_eqTxQueue a0.2.2.1 a1.2.2.1) fun r3 =>
      cond (!r3) (
        some false) (
        bindO (laws_eqRxQueueS a0.2.2.2.1 a1.2.2.2.1) fun r4 =>
        cond (!r4) (
          some false) (
          bindO (laws_eqPoolS a0.2.2.2.2.1 a1.2.2.2.2.1) fun r5 =>
          cond (!r5) (
            some false) (
            bindO (laws_eqVectorS a0.2.2.2.2.2.1 a1.2.2.2.2.2.1) fun r6 =>
            cond (!r6) (
              some false) (
              bindO (laws_eqBoolS a0.2.2.2.2.2.2.1 a1.2.2.2.2.2.2.1) fun r7 =>
              cond (!r7) (
                some false) (
                bindO (laws_eqFilter a0.2.2.2.2.2.2.2.1 a1.2.2.2.2.2.2.2.1) fun r8 =>
                cond (!r8) (
                  some false) (
                  bindO (laws_eqSteering a0.2.2.2.2.2.2.2.2.1 a1.2.2.2.2.2.2.2.2.1) fun r9 =>
                  cond (!r9) (
                    some false) (
                    bindO (laws_eqStreamS a0.2.2.2.2.2.2.2.2.2.1 a1.2.2.2.2.2.2.2.2.2.1) fun r10 =>
                    cond (!r10) (
                      some false) (
                      cond (!(a0.2.2.2.2.2.2.2.2.2.2.1 == a1.2.2.2.2.2.2.2.2.2.2.1)) (
                        some false) (
                        bindO (laws_eqStringS a0.2.2.2.2.2.2.2.2.2.2.2.1 a1.2.2.2.2.2.2.2.2.2.2.2.1) fun r11 =>
                        cond (!r11) (
                          some false) (
                          bindO (laws_eqIntS a0.2.2.2.2.2.2.2.2.2.2.2.2.1 a1.2.2.2.2.2.2.2.2.2.2.2.2.1) fun r12 =>
                          cond (!r12) (
                            some false) (
                            bindO (laws_eqIntS a0.2.2.2.2.2.2.2.2.2.2.2.2.2.1 a1.2.2.2.2.2.2.2.2.2.2.2.2.2.1) fun r13 =>
                            cond (!r13) (
                              some false) (
                              bindO (laws_eqCounters a0.2.2.2.2.2.2.2.2.2.2.2.2.2.2 a1.2.2.2.2.2.2.2.2.2.2.2.2.2.2) fun r14 =>
                              cond (!r14) (
                                some false) (
                                some true)))))))))))))))
noncomputable def laws_eqHostS_T4 {R : Type} (k0 : Int → Option R) (k1 : Bool → Int → Option R) (v0 : List Host) (v1 : List Host) (v4 : Bool) (nx : Int → Option R) (x : Int) : Option R :=
  cond (decide (x < ((List.length v0 : Int)))) (
    bindO (idx v0 x) fun x1 =>
    bindO (idx v1 x) fun x2 =>
    bindO (laws_eqHost x1 x2) fun r3 =>
    cond (!r3) (
      k1 false x) (
      nx (IntKind.wrap .i64 (x + 1)))) (
    k0 x)
noncomputable def laws_eqHostS (a0 : List Host) (a1 : List Host) : Option (Bool) :=
  cond (((List.length a0 : Int)) != ((List.length a1 : Int))) (
    some false) (
    iterL (laws_eqHostS_T4
      (fun (y4 : Int) =>
        some true)
      (fun (y5 : Bool) (y6 : Int) =>
        some y5) a0 a1 false) fuel 0)
noncomputable def laws_eqBucket (a0 : Bucket) (a1 : Bucket) : Option (Bool) :=
  cond (a0.1 != a1.1) (
    some false) (
    cond (a0.2.1 != a1.2.1) (
      some false) (
      cond (a0.2.2 != a1.2.2) (
        some false) (
        some true)))
noncomputable def laws_eqVirtualFunction (a0 : VirtualFunction) (a1 : VirtualFunction) : Option (Bool) :=
  cond (a0.1 != a1.1) (
    some false) (
    cond (a0.2.1 != a1.2.1) (
      some false) (
      bindO (laws_eqBucket a0.2.2.1 a1.2.2.1) fun r1 =>
      cond (!r1) (
        some false) (
        cond (!(a0.2.2.2.1 == a1.2.2.2.1)) (
          some false) (
          cond (a0.2.2.2.2.1 != a1.2.2.2.2.1) (
            some false) (
            cond (a0.2.2.2.2.2 != a1.2.2.2.2.2) (
              some false) (
              some true))))))
noncomputable def laws_eqVirtualFunctionS_T4 {R : Type} (k0 : Int → Option R) (k1 : Bool → Int → Option R) (v0 : List VirtualFunction) (v1 : List VirtualFunction) (v4 : Bool) (nx : Int → Option R) (x : Int) : Option R :=
  cond (decide (x < ((List.length v0 : Int)))) (
    bindO (idx v0 x) fun x1 =>
    bindO (idx v1 x) fun x2 =>
    bindO (laws_eqVirtualFunction x1 x2) fun r3 =>
    cond (!r3) (
      k1 false x) (
      nx (IntKind.wrap .i64 (x + 1)))) (
    k0 x)
noncomputable def laws_eqVirtualFunctionS (a0 : List VirtualFunction) (a1 : List VirtualFunction) : Option (Bool) :=
  cond (((List.length a0 : Int)) != ((List.length a1 : Int))) (
    some false) (
    iterL (laws_eqVirtualFunctionS_T4
      (fun (y4 : Int) =>
        some true)
      (fun (y5 : Bool) (y6 : Int) =>
        some y5) a0 a1 false) fuel 0)
noncomputable def laws_eqMailbox (a0 : Mailbox) (a1 : Mailbox) : Option (Bool) :=
  bindO (laws_eqFilter a0.1 a1.1) fun r1 =>
  cond (!r1) (
    some false) (
    cond (a0.2.1 != a1.2.1) (
      some false) (
      cond (a0.2.2.1 != a1.2.2.1) (
        some false) (
        cond (a0.2.2.2 != a1.2.2.2) (
          some false) (
          some true))))
noncomputable def laws_eqMailboxS_T4 {R : Type} (k0 : Int → Option R) (k1 : Bool → Int → Option R) (v0 : List Mailbox) (v1 : List Mailbox) (v4 : Bool) (nx : Int → Option R) (x : Int) : Option R :=
  cond (decide (x < ((List.length v0 : Int)))) (
    bindO (idx v0 x) fun x1 =>
    bindO (idx v1 x) fun x2 =>
    bindO (laws_eqMailbox x1 x2) fun r3 =>
    cond (!r3) (
      k1 false x) (
      nx (IntKind.wrap .i64 (x + 1)))) (
    k0 x)
noncomputable def laws_eqMailboxS (a0 : List Mailbox) (a1 : List Mailbox) : Option (Bool) :=
  cond (((List.length a0 : Int)) != ((List.length a1 : Int))) (
    some false) (
    iterL (laws_eqMailboxS_T4
      (fun (y4 : Int) =>
        some true)
      (fun (y5 : Bool) (y6 : Int) =>
        some y5) a0 a1 false) fuel 0)
noncomputable def laws_eqFlash (a0 : List Bytes) (a1 : List Bytes) : Option (Bool) :=
  bindO (laws_eqStringS a0 a1) fun r1 =>
  cond (!r1) (
    some false) (
    some true)
noncomputable def laws_eqClock (a0 : Clock) (a1 : Clock) : Option (Bool) :=
  cond (a0.1 != a1.1) (
    some false) (
    cond (a0.2.1 != a1.2.1) (
      some false) (
      cond (a0.2.2.1 != a1.2.2.1) (
        some false) (
        cond (a0.2.2.2 != a1.2.2.2) (
          some false) (
          some true))))
noncomputable def laws_eqCard (a0 : Card) (a1 : Card) : Option (Bool) :=
  bindO (laws_eqHostS a0.1 a1.1) fun r1 =>
  cond (!r1) (
    some false) (
    bindO (laws_eqVirtualFunctionS a0.2.1 a1.2.1) fun r2 =>
    cond (!r2) (
      some false) (
      bindO (laws_eqMailboxS a0.2.2.1 a1.2.2.1) fun r3 =>
      cond (!r3) (
        some false) (
        bindO (laws_eqFlash a0.2.2.2.1 a1.2.2.2.1) fun r4 =>
        cond (!r4) (
          some false) (
          bindO (laws_eqClock a0.2.2.2.2.1 a1.2.2.2.2.1) fun r5 =>
          cond (!r5) (
            some false) (
            bindO (laws_eqIntS a0.2.2.2.2.2.1 a1.2.2.2.2.2.1) fun r6 =>
            cond (!r6) (
              some false) (
              bindO (laws_eqStringS a0.2.2.2.2.2.2 a1.2.2.2.2.2.2) fun r7 =>
              cond (!r7) (
                some false) (
                some true)))))))
noncomputable def laws_FnExactCardDropped (a0 : Card) : Option (Bool) :=
  bindO (laws_szCard a0 1048576) fun r1 =>
  cond (decide (r1 < 0)) (
    some true) (
    bindO (laws_toCard a0) fun r2 =>
    bindO (spec_CardDropped r2) fun r3 =>
    bindO (laws_toCard a0) fun r4 =>
    bindO (impl_CardDropped r4) fun r5 =>
    cond (r5 != r3) (
      some false) (
      bindO (laws_toCard a0) fun r6 =>
      bindO (laws_eqCard r4 r6) fun r7 =>
      cond (!r7) (
        some false) (
        some true)))

end Go.Pu
