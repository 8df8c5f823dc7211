import Derived.Test.YtclgaiiidllehacGreatDnData
/- The program's functions and the reference's, as functions of data (made by gen.py). -/
namespace Go.Pu
open Go.Dn
set_option linter.unusedVariables false

abbrev Bytes := List UInt8
abbrev Move := (List Bytes) × (List Int) × Int
abbrev Mapping := Int × Int × Int × Bool
abbrev Ring := Int × Int × Int × Int
abbrev Pool := Int × Int × Int × List Int
abbrev Sent := Int × Int × List Int
abbrev TxQueue := Ring × Pool × (List Sent) × Int
abbrev CompletionQueue := Int × Int × Int
abbrev Packet := Int × Int × Int × Int × Int × Int × Int × Int × Int × Int × Int × Int × Int × Int × Int × Bytes
abbrev Super := Packet × Int × Int
abbrev RxQueue := Ring × CompletionQueue × CompletionQueue × Super × Bool × Int
abbrev Vector := Int × Int × Int × Int × Bool × Bool
abbrev Filter := Int × Bool × List Int
abbrev Rule := Int × Int × Int × Int × Int × Int × Int × Int × Int
abbrev Flow := Int × Int × Int × Int × Int
abbrev Counters := Flow
abbrev Slot := Int × Flow × Int
abbrev Spread := Bytes × List Int
abbrev Steering := (List Rule) × (List Slot) × Bytes × List Int
abbrev Stream := Flow × Int × Bytes × Bool
abbrev Host := (List Bytes) × (List Mapping) × TxQueue × (List RxQueue) × (List Pool) × (List Vector) × (List Bool) × Filter × Steering × (List Stream) × Bool × (List Bytes) × (List Int) × (List Int) × Int × Int × Int × Int × Int
abbrev Segment := Int × Int × Int × Int × Int × Int × Int × Bytes
@[reducible] def TMove : CT := (.pair (.sl .str) (.pair (.sl (.int .i64)) (.int .i64)))
@[reducible] def TMapping : CT := (.pair (.int .i64) (.pair (.int .i64) (.pair (.int .i64) .bool)))
@[reducible] def TRing : CT := (.pair (.int .i64) (.pair (.int .i64) (.pair (.int .i64) (.int .i64))))
@[reducible] def TPool : CT := (.pair (.int .i64) (.pair (.int .i64) (.pair (.int .i64) (.sl (.int .i64)))))
@[reducible] def TSent : CT := (.pair (.int .i64) (.pair (.int .i64) (.sl (.int .i64))))
@[reducible] def TTxQueue : CT := (.pair TRing (.pair TPool (.pair (.sl TSent) (.int .i64))))
@[reducible] def TCompletionQueue : CT := (.pair (.int .i64) (.pair (.int .i64) (.int .i64)))
@[reducible] def TPacket : CT := (.pair (.int .i64) (.pair (.int .i64) (.pair (.int .i64) (.pair (.int .i64) (.pair (.int .i64) (.pair (.int .i64) (.pair (.int .i64) (.pair (.int .i64) (.pair (.int .i64) (.pair (.int .i64) (.pair (.int .i64) (.pair (.int .i64) (.pair (.int .i64) (.pair (.int .i64) (.pair (.int .i64) .str)))))))))))))))
@[reducible] def TSuper : CT := (.pair TPacket (.pair (.int .i64) (.int .i64)))
@[reducible] def TRxQueue : CT := (.pair TRing (.pair TCompletionQueue (.pair TCompletionQueue (.pair TSuper (.pair .bool (.int .i64))))))
@[reducible] def TVector : CT := (.pair (.int .i64) (.pair (.int .i64) (.pair (.int .i64) (.pair (.int .i64) (.pair .bool .bool)))))
@[reducible] def TFilter : CT := (.pair (.int .i64) (.pair .bool (.sl (.int .i64))))
@[reducible] def TRule : CT := (.pair (.int .i64) (.pair (.int .i64) (.pair (.int .i64) (.pair (.int .i64) (.pair (.int .i64) (.pair (.int .i64) (.pair (.int .i64) (.pair (.int .i64) (.int .i64)))))))))
@[reducible] def TFlow : CT := (.pair (.int .i64) (.pair (.int .i64) (.pair (.int .i64) (.pair (.int .i64) (.int .i64)))))
@[reducible] def TCounters : CT := TFlow
@[reducible] def TSlot : CT := (.pair (.int .i64) (.pair TFlow (.int .i64)))
@[reducible] def TSpread : CT := (.pair .str (.sl (.int .i64)))
@[reducible] def TSteering : CT := (.pair (.sl TRule) (.pair (.sl TSlot) (.pair .str (.sl (.int .i64)))))
@[reducible] def TStream : CT := (.pair TFlow (.pair (.int .i64) (.pair .str .bool)))
@[reducible] def THost : CT := (.pair (.sl .str) (.pair (.sl TMapping) (.pair TTxQueue (.pair (.sl TRxQueue) (.pair (.sl TPool) (.pair (.sl TVector) (.pair (.sl .bool) (.pair TFilter (.pair TSteering (.pair (.sl TStream) (.pair .bool (.pair (.sl .str) (.pair (.sl (.int .i64)) (.pair (.sl (.int .i64)) (.pair (.int .i64) (.pair (.int .i64) (.pair (.int .i64) (.pair (.int .i64) (.int .i64)))))))))))))))))))
@[reducible] def TSegment : CT := (.pair (.int .i64) (.pair (.int .i64) (.pair (.int .i64) (.pair (.int .i64) (.pair (.int .i64) (.pair (.int .i64) (.pair (.int .i64) .str)))))))

noncomputable def laws_szStringS_T5 {R : Type} (k0 : Int → Int → Option R) (k1 : Int → Int → Int → Option R) (v0 : List Bytes) (v4 : Int) (nx : (Int × Int) → Option R) (x : Int × Int) : Option R :=
  cond (decide (x.2 < ((List.length v0 : Int)))) (
    bindO (idx v0 x.2) fun x1 =>
    cond (decide ((IntKind.wrap .i64 (x.1 - ((List.length x1 : Int)))) < 0)) (
      k1 (IntKind.wrap .i64 (x.1 - ((List.length x1 : Int)))) (-1) x.2) (
      nx (IntKind.wrap .i64 (x.1 - ((List.length x1 : Int))), IntKind.wrap .i64 (x.2 + 1)))) (
    k0 x.1 x.2)
noncomputable def laws_szStringS (a0 : List Bytes) (a1 : Int) : Option (Int) :=
  cond (decide ((IntKind.wrap .i64 (a1 - ((List.length a0 : Int)))) < 0)) (
    some (-1)) (
    iterL (laws_szStringS_T5
      (fun (y2 : Int) (y3 : Int) =>
        some y2)
      (fun (y4 : Int) (y5 : Int) (y6 : Int) =>
        some y5) a0 0) fuel (IntKind.wrap .i64 (a1 - ((List.length a0 : Int))), 0))
noncomputable def laws_szMemory (a0 : List Bytes) (a1 : Int) : Option (Int) :=
  bindO (laws_szStringS a0 a1) fun r1 =>
  cond (decide (r1 < 0)) (
    some (-1)) (
    some r1)
noncomputable def laws_szIntS (a0 : List Int) (a1 : Int) : Option (Int) :=
  cond (decide ((IntKind.wrap .i64 (a1 - ((List.length a0 : Int)))) < 0)) (
    some (-1)) (
    some (IntKind.wrap .i64 (a1 - ((List.length a0 : Int)))))
noncomputable def laws_szMove (a0 : Move) (a1 : Int) : Option (Int) :=
  bindO (laws_szMemory a0.1 a1) fun r1 =>
  cond (decide (r1 < 0)) (
    some (-1)) (
    bindO (laws_szIntS a0.2.1 r1) fun r2 =>
    cond (decide (r2 < 0)) (
      some (-1)) (
      some r2))
noncomputable def laws_szMappingS (a0 : List Mapping) (a1 : Int) : Option (Int) :=
  cond (decide ((IntKind.wrap .i64 (a1 - ((List.length a0 : Int)))) < 0)) (
    some (-1)) (
    some (IntKind.wrap .i64 (a1 - ((List.length a0 : Int)))))
noncomputable def laws_szPool (a0 : Pool) (a1 : Int) : Option (Int) :=
  bindO (laws_szIntS a0.2.2.2 a1) fun r1 =>
  cond (decide (r1 < 0)) (
    some (-1)) (
    some r1)
noncomputable def laws_szSent (a0 : Sent) (a1 : Int) : Option (Int) :=
  bindO (laws_szIntS a0.2.2 a1) fun r1 =>
  cond (decide (r1 < 0)) (
    some (-1)) (
    some r1)
noncomputable def laws_szSentS_T5 {R : Type} (k0 : Int → Int → Option R) (k1 : Int → Int → Int → Option R) (v0 : List Sent) (v4 : Int) (nx : (Int × Int) → Option R) (x : Int × Int) : Option R :=
  cond (decide (x.2 < ((List.length v0 : Int)))) (
    bindO (idx v0 x.2) fun x1 =>
    bindO (laws_szSent x1 x.1) fun r2 =>
    cond (decide (r2 < 0)) (
      k1 r2 (-1) x.2) (
      nx (r2, IntKind.wrap .i64 (x.2 + 1)))) (
    k0 x.1 x.2)
noncomputable def laws_szSentS (a0 : List Sent) (a1 : Int) : Option (Int) :=
  cond (decide ((IntKind.wrap .i64 (a1 - ((List.length a0 : Int)))) < 0)) (
    some (-1)) (
    iterL (laws_szSentS_T5
      (fun (y3 : Int) (y4 : Int) =>
        some y3)
      (fun (y5 : Int) (y6 : Int) (y7 : Int) =>
        some y6) a0 0) fuel (IntKind.wrap .i64 (a1 - ((List.length a0 : Int))), 0))
noncomputable def laws_szTxQueue (a0 : TxQueue) (a1 : Int) : Option (Int) :=
  bindO (laws_szPool a0.2.1 a1) fun r1 =>
  cond (decide (r1 < 0)) (
    some (-1)) (
    bindO (laws_szSentS a0.2.2.1 r1) fun r2 =>
    cond (decide (r2 < 0)) (
      some (-1)) (
      some r2))
noncomputable def laws_szSegment (a0 : Segment) (a1 : Int) : Option (Int) :=
  cond (decide ((IntKind.wrap .i64 (a1 - ((List.length a0.2.2.2.2.2.2.2 : Int)))) < 0)) (
    some (-1)) (
    some (IntKind.wrap .i64 (a1 - ((List.length a0.2.2.2.2.2.2.2 : Int)))))
noncomputable def laws_szPacket (a0 : Packet) (a1 : Int) : Option (Int) :=
  bindO (laws_szSegment a0.2.2.2.2.2.2.2.2 a1) fun r1 =>
  cond (decide (r1 < 0)) (
    some (-1)) (
    some r1)
noncomputable def laws_szSuper (a0 : Super) (a1 : Int) : Option (Int) :=
  bindO (laws_szPacket a0.1 a1) fun r1 =>
  cond (decide (r1 < 0)) (
    some (-1)) (
    some r1)
noncomputable def laws_szRxQueue (a0 : RxQueue) (a1 : Int) : Option (Int) :=
  bindO (laws_szSuper a0.2.2.2.1 a1) fun r1 =>
  cond (decide (r1 < 0)) (
    some (-1)) (
    some r1)
noncomputable def laws_szRxQueueS_T5 {R : Type} (k0 : Int → Int → Option R) (k1 : Int → Int → Int → Option R) (v0 : List RxQueue) (v4 : Int) (nx : (Int × Int) → Option R) (x : Int × Int) : Option R :=
  cond (decide (x.2 < ((List.length v0 : Int)))) (
    bindO (idx v0 x.2) fun x1 =>
    bindO (laws_szRxQueue x1 x.1) fun r2 =>
    cond (decide (r2 < 0)) (
      k1 r2 (-1) x.2) (
      nx (r2, IntKind.wrap .i64 (x.2 + 1)))) (
    k0 x.1 x.2)
noncomputable def laws_szRxQueueS (a0 : List RxQueue) (a1 : Int) : Option (Int) :=
  cond (decide ((IntKind.wrap .i64 (a1 - ((List.length a0 : Int)))) < 0)) (
    some (-1)) (
    iterL (laws_szRxQueueS_T5
      (fun (y3 : Int) (y4 : Int) =>
        some y3)
      (fun (y5 : Int) (y6 : Int) (y7 : Int) =>
        some y6) a0 0) fuel (IntKind.wrap .i64 (a1 - ((List.length a0 : Int))), 0))
noncomputable def laws_szPoolS_T5 {R : Type} (k0 : Int → Int → Option R) (k1 : Int → Int → Int → Option R) (v0 : List Pool) (v4 : Int) (nx : (Int × Int) → Option R) (x : Int × Int) : Option R :=
  cond (decide (x.2 < ((List.length v0 : Int)))) (
    bindO (idx v0 x.2) fun x1 =>
    bindO (laws_szPool x1 x.1) fun r2 =>
    cond (decide (r2 < 0)) (
      k1 r2 (-1) x.2) (
      nx (r2, IntKind.wrap .i64 (x.2 + 1)))) (
    k0 x.1 x.2)
noncomputable def laws_szPoolS (a0 : List Pool) (a1 : Int) : Option (Int) :=
  cond (decide ((IntKind.wrap .i64 (a1 - ((List.length a0 : Int)))) < 0)) (
    some (-1)) (
    iterL (laws_szPoolS_T5
      (fun (y3 : Int) (y4 : Int) =>
        some y3)
      (fun (y5 : Int) (y6 : Int) (y7 : Int) =>
        some y6) a0 0) fuel (IntKind.wrap .i64 (a1 - ((List.length a0 : Int))), 0))
noncomputable def laws_szVectorS (a0 : List Vector) (a1 : Int) : Option (Int) :=
  cond (decide ((IntKind.wrap .i64 (a1 - ((List.length a0 : Int)))) < 0)) (
    some (-1)) (
    some (IntKind.wrap .i64 (a1 - ((List.length a0 : Int)))))
noncomputable def laws_szBoolS (a0 : List Bool) (a1 : Int) : Option (Int) :=
  cond (decide ((IntKind.wrap .i64 (a1 - ((List.length a0 : Int)))) < 0)) (
    some (-1)) (
    some (IntKind.wrap .i64 (a1 - ((List.length a0 : Int)))))
noncomputable def laws_szFilter (a0 : Filter) (a1 : Int) : Option (Int) :=
  bindO (laws_szIntS a0.2.2 a1) fun r1 =>
  cond (decide (r1 < 0)) (
    some (-1)) (
    some r1)
noncomputable def laws_szRuleS (a0 : List Rule) (a1 : Int) : Option (Int) :=
  cond (decide ((IntKind.wrap .i64 (a1 - ((List.length a0 : Int)))) < 0)) (
    some (-1)) (
    some (IntKind.wrap .i64 (a1 - ((List.length a0 : Int)))))
noncomputable def laws_szSlotS (a0 : List Slot) (a1 : Int) : Option (Int) :=
  cond (decide ((IntKind.wrap .i64 (a1 - ((List.length a0 : Int)))) < 0)) (
    some (-1)) (
    some (IntKind.wrap .i64 (a1 - ((List.length a0 : Int)))))
noncomputable def laws_szFlowTable (a0 : List Slot) (a1 : Int) : Option (Int) :=
  bindO (laws_szSlotS a0 a1) fun r1 =>
  cond (decide (r1 < 0)) (
    some (-1)) (
    some r1)
noncomputable def laws_szSpread (a0 : Spread) (a1 : Int) : Option (Int) :=
  cond (decide ((IntKind.wrap .i64 (a1 - ((List.length a0.1 : Int)))) < 0)) (
    some (-1)) (
    bindO (laws_szIntS a0.2 (IntKind.wrap .i64 (a1 - ((List.length a0.1 : Int))))) fun r1 =>
    cond (decide (r1 < 0)) (
      some (-1)) (
      some r1))
noncomputable def laws_szSteering (a0 : Steering) (a1 : Int) : Option (Int) :=
  bindO (laws_szRuleS a0.1 a1) fun r1 =>
  cond (decide (r1 < 0)) (
    some (-1)) (
    bindO (laws_szFlowTable a0.2.1 r1) fun r2 =>
    cond (decide (r2 < 0)) (
      some (-1)) (
      bindO (laws_szSpread a0.2.2 r2) fun r3 =>
      cond (decide (r3 < 0)) (
        some (-1)) (
        some r3)))
noncomputable def laws_szStream (a0 : Stream) (a1 : Int) : Option (Int) :=
  cond (decide ((IntKind.wrap .i64 (a1 - ((List.length a0.2.2.1 : Int)))) < 0)) (
    some (-1)) (
    some (IntKind.wrap .i64 (a1 - ((List.length a0.2.2.1 : Int)))))
noncomputable def laws_szStreamS_T5 {R : Type} (k0 : Int → Int → Option R) (k1 : Int → Int → Int → Option R) (v0 : List Stream) (v4 : Int) (nx : (Int × Int) → Option R) (x : Int × Int) : Option R :=
  cond (decide (x.2 < ((List.length v0 : Int)))) (
    bindO (idx v0 x.2) fun x1 =>
    bindO (laws_szStream x1 x.1) fun r2 =>
    cond (decide (r2 < 0)) (
      k1 r2 (-1) x.2) (
      nx (r2, IntKind.wrap .i64 (x.2 + 1)))) (
    k0 x.1 x.2)
noncomputable def laws_szStreamS (a0 : List Stream) (a1 : Int) : Option (Int) :=
  cond (decide ((IntKind.wrap .i64 (a1 - ((List.length a0 : Int)))) < 0)) (
    some (-1)) (
    iterL (laws_szStreamS_T5
      (fun (y3 : Int) (y4 : Int) =>
        some y3)
      (fun (y5 : Int) (y6 : Int) (y7 : Int) =>
        some y6) a0 0) fuel (IntKind.wrap .i64 (a1 - ((List.length a0 : Int))), 0))
noncomputable def laws_szHost (a0 : Host) (a1 : Int) : Option (Int) :=
  bindO (laws_szMemory a0.1 a1) fun r1 =>
  cond (decide (r1 < 0)) (
    some (-1)) (
    bindO (laws_szMappingS a0.2.1 r1) fun r2 =>
    cond (decide (r2 < 0)) (
      some (-1)) (
      bindO (laws_szTxQueue a0.2.2.1 r2) fun r3 =>
      cond (decide (r3 < 0)) (
        some (-1)) (
        bindO (laws_szRxQueueS a0.2.2.2.1 r3) fun r4 =>
        cond (decide (r4 < 0)) (
          some (-1)) (
          bindO (laws_szPoolS a0.2.2.2.2.1 r4) fun r5 =>
          cond (decide (r5 < 0)) (
            some (-1)) (
            bindO (laws_szVectorS a0.2.2.2.2.2.1 r5) fun r6 =>
            cond (decide (r6 < 0)) (
              some (-1)) (
              bindO (laws_szBoolS a0.2.2.2.2.2.2.1 r6) fun r7 =>
              cond (decide (r7 < 0)) (
                some (-1)) (
                bindO (laws_szFilter a0.2.2.2.2.2.2.2.1 r7) fun r8 =>
                cond (decide (r8 < 0)) (
                  some (-1)) (
                  bindO (laws_szSteering a0.2.2.2.2.2.2.2.2.1 r8) fun r9 =>
                  cond (decide (r9 < 0)) (
                    some (-1)) (
                    bindO (laws_szStreamS a0.2.2.2.2.2.2.2.2.2.1 r9) fun r10 =>
                    cond (decide (r10 < 0)) (
                      some (-1)) (
                      bindO (laws_szStringS a0.2.2.2.2.2.2.2.2.2.2.2.1 r10) fun r11 =>
                      cond (decide (r11 < 0)) (
                        some (-1)) (
                        bindO (laws_szIntS a0.2.2.2.2.2.2.2.2.2.2.2.2.1 r11) fun r12 =>
                        cond (decide (r12 < 0)) (
                          some (-1)) (
                          bindO (laws_szIntS a0.2.2.2.2.2.2.2.2.2.2.2.2.2.1 r12) fun r13 =>
                          cond (decide (r13 < 0)) (
                            some (-1)) (
                            some r13)))))))))))))
noncomputable def spec_l16Copy (a0 : List Bytes) : Option (List Bytes) :=
  room (List.length ([] : List Bytes) + List.length a0) (
  some (([] : List Bytes) ++ a0))
noncomputable def spec_l39Copy (a0 : Move) : Option (Move) :=
  bindO (spec_l16Copy a0.1) fun r1 =>
  room (List.length ([] : List Int) + List.length a0.2.1) (
  some (r1, ([] : List Int) ++ a0.2.1, a0.2.2))
noncomputable def spec_CopyRound_T3 {R : Type} (k0 : Int → Move → Option R) (b2 : Move) (b3 : List Bytes) (b4 : Move) (nx : (Int × Move) → Option R) (x : Int × Move) : Option R :=
  cond (decide (x.1 < ((List.length b2.2.1 : Int)))) (
    bindO (idx b2.2.1 x.1) fun x2 =>
    bindO (
      cond (decide (x2 ≥ 0)) (
        cond (decide (x2 < ((List.length b3 : Int)))) (
          some (decide (x2 < ((List.length x.2.1 : Int))))) (
          some false)) (
        some false)) fun q3 =>
    cond q3 (
      bindO (idx b3 x2) fun x4 =>
      bindO (idx x.2.1 x2) fun x5 =>
      bindO (idx x.2.1 x2) fun x6 =>
      nx (IntKind.wrap .i64 (x.1 + 1), List.set x.2.1 (Int.toNat x2) x4, x.2.2.1, IntKind.wrap .i64 (x.2.2.2 + 1))) (
      nx (IntKind.wrap .i64 (x.1 + 1), x.2))) (
    k0 x.1 x.2)
noncomputable def spec_CopyRound (a0 : Move) (a1 : List Bytes) : Option (Move) :=
  bindO (spec_l39Copy a0) fun r1 =>
  iterL (spec_CopyRound_T3
    (fun (y7 : Int) (y8 : Move) =>
      some (y8.1, ([] : List Int), y8.2.2)) a0 a1 (([] : List Bytes), ([] : List Int), 0)) fuel (0, r1)
noncomputable def spec_l21Copy (a0 : Pool) : Option (Pool) :=
  room (List.length ([] : List Int) + List.length a0.2.2.2) (
  some (a0.1, a0.2.1, a0.2.2.1, ([] : List Int) ++ a0.2.2.2))
noncomputable def spec_l22Copy_T3 {R : Type} (k0 : Int → TxQueue → Option R) (b1 : TxQueue) (b2 : TxQueue) (nx : (Int × TxQueue) → Option R) (x : Int × TxQueue) : Option R :=
  cond (decide (x.1 < ((List.length b1.2.2.1 : Int)))) (
    bindO (idx b1.2.2.1 x.1) fun x2 =>
    room (List.length ([] : List Int) + List.length x2.2.2) (
    room (List.length x.2.2.2.1 + List.length ([(x2.1, x2.2.1, ([] : List Int) ++ x2.2.2)])) (
    nx (IntKind.wrap .i64 (x.1 + 1), x.2.1, x.2.2.1, x.2.2.2.1 ++ ([(x2.1, x2.2.1, ([] : List Int) ++ x2.2.2)]), x.2.2.2.2)))) (
    k0 x.1 x.2)
noncomputable def spec_l22Copy (a0 : TxQueue) : Option (TxQueue) :=
  bindO (spec_l21Copy a0.2.1) fun r1 =>
  iterL (spec_l22Copy_T3
    (fun (y3 : Int) (y4 : TxQueue) =>
      some y4) a0 ((0, 0, 0, 0), (0, 0, 0, ([] : List Int)), ([] : List Sent), 0)) fuel (0, a0.1, r1, ([] : List Sent), a0.2.2.2)
noncomputable def spec_l24Copy (a0 : Filter) : Option (Filter) :=
  room (List.length ([] : List Int) + List.length a0.2.2) (
  some (a0.1, a0.2.1, ([] : List Int) ++ a0.2.2))
noncomputable def spec_l13Copy (a0 : List Slot) : Option (List Slot) :=
  room (List.length ([] : List Slot) + List.length a0) (
  some (([] : List Slot) ++ a0))
noncomputable def spec_l15Copy (a0 : Steering) : Option (Steering) :=
  room (List.length ([] : List Rule) + List.length a0.1) (
  bindO (spec_l13Copy a0.2.1) fun r1 =>
  room (List.length ([] : List Int) + List.length a0.2.2.2) (
  some (([] : List Rule) ++ a0.1, r1, a0.2.2.1, ([] : List Int) ++ a0.2.2.2)))
noncomputable def spec_l37Copy_T8 {R : Type} (k0 : Int → Host → Option R) (b1 : Host) (b2 : Host) (nx : (Int × Host) → Option R) (x : Int × Host) : Option R :=
  cond (decide (x.1 < ((List.length b1.2.2.2.2.1 : Int)))) (
    bindO (idx b1.2.2.2.2.1 x.1) fun x3 =>
    bindO (spec_l21Copy x3) fun r4 =>
    room (List.length x.2.2.2.2.2.1 + List.length ([r4])) (
    nx (IntKind.wrap .i64 (x.1 + 1), x.2.1, x.2.2.1, x.2.2.2.1, x.2.2.2.2.1, x.2.2.2.2.2.1 ++ ([r4]), x.2.2.2.2.2.2))) (
    k0 x.1 x.2)
noncomputable def spec_l37Copy (a0 : Host) : Option (Host) :=
  bindO (spec_l16Copy a0.1) fun r1 =>
  room (List.length ([] : List Mapping) + List.length a0.2.1) (
  bindO (spec_l22Copy a0.2.2.1) fun r2 =>
  room (List.length ([] : List RxQueue) + List.length a0.2.2.2.1) (
  iterL (spec_l37Copy_T8
    (fun (y5 : Int) (y6 : Host) =>
      room (List.length ([] : List Vector) + List.length a0.2.2.2.2.2.1) (
      room (List.length ([] : List Bool) + List.length a0.2.2.2.2.2.2.1) (
      bindO (spec_l24Copy a0.2.2.2.2.2.2.2.1) fun r7 =>
      bindO (spec_l15Copy a0.2.2.2.2.2.2.2.2.1) fun r8 =>
      room (List.length ([] : List Stream) + List.length a0.2.2.2.2.2.2.2.2.2.1) (
      room (List.length ([] : List Bytes) + List.length a0.2.2.2.2.2.2.2.2.2.2.2.1) (
      room (List.length ([] : List Int) + List.length a0.2.2.2.2.2.2.2.2.2.2.2.2.1) (
      room (List.length ([] : List Int) + List.length a0.2.2.2.2.2.2.2.2.2.2.2.2.2.1) (
      some (y6.1, y6.2.1, y6.2.2.1, y6.2.2.2.1, y6.2.2.2.2.1, ([] : List Vector) ++ a0.2.2.2.2.2.1, ([] : List Bool) ++ a0.2.2.2.2.2.2.1, r7, r8, ([] : List Stream) ++ a0.2.2.2.2.2.2.2.2.2.1, y6.2.2.2.2.2.2.2.2.2.2.1, ([] : List Bytes) ++ a0.2.2.2.2.2.2.2.2.2.2.2.1, ([] : List Int) ++ a0.2.2.2.2.2.2.2.2.2.2.2.2.1, ([] : List Int) ++ a0.2.2.2.2.2.2.2.2.2.2.2.2.2.1, y6.2.2.2.2.2.2.2.2.2.2.2.2.2.2)))))))) a0 (([] : List Bytes), ([] : List Mapping), ((0, 0, 0, 0), (0, 0, 0, ([] : List Int)), ([] : List Sent), 0), ([] : List RxQueue), ([] : List Pool), ([] : List Vector), ([] : List Bool), (0, false, ([] : List Int)), (([] : List Rule), ([] : List Slot), ([] : Bytes), ([] : List Int)), ([] : List Stream), false, ([] : List Bytes), ([] : List Int), ([] : List Int), 0, 0, 0, 0, 0)) fuel (0, r1, ([] : List Mapping) ++ a0.2.1, r2, ([] : List RxQueue) ++ a0.2.2.2.1, ([] : List Pool), a0.2.2.2.2.2)))
noncomputable def spec_FinishMove_T6 {R : Type} (k0 : Bool → Int → Option R) (b3 : Host) (b4 : Host) (b6 : Move) (b7 : Host) (nx : (Bool × Int) → Option R) (x : Bool × Int) : Option R :=
  bindO (
    cond (decide (x.2 < ((List.length b6.1 : Int)))) (
      some x.1) (
      some false)) fun q3 =>
  cond q3 (
    bindO (idx b6.1 x.2) fun x4 =>
    bindO (idx b3.1 x.2) fun x5 =>
    nx (x4 == x5, IntKind.wrap .i64 (x.2 + 1))) (
    k0 x.1 x.2)
noncomputable def spec_FinishMove (a0 : Move) (a1 : Host) : Option (Host × Bool) :=
  bindO (spec_CopyRound a0 a1.1) fun r1 =>
  bindO (spec_l37Copy a1) fun r2 =>
  iterL (spec_FinishMove_T6
    (fun (y6 : Bool) (y7 : Int) =>
      some ((r1.1, r2.2), y6)) a1 (([] : List Bytes), ([] : List Mapping), ((0, 0, 0, 0), (0, 0, 0, ([] : List Int)), ([] : List Sent), 0), ([] : List RxQueue), ([] : List Pool), ([] : List Vector), ([] : List Bool), (0, false, ([] : List Int)), (([] : List Rule), ([] : List Slot), ([] : Bytes), ([] : List Int)), ([] : List Stream), false, ([] : List Bytes), ([] : List Int), ([] : List Int), 0, 0, 0, 0, 0) r1 (r1.1, r2.2)) fuel (((List.length r1.1 : Int)) == ((List.length a1.1 : Int)), 0)
noncomputable def laws_toStringS_T3 {R : Type} (k0 : (List Bytes) → Int → Option R) (v0 : List Bytes) (nx : ((List Bytes) × Int) → Option R) (x : (List Bytes) × Int) : Option R :=
  cond (decide (x.2 < ((List.length v0 : Int)))) (
    bindO (idx v0 x.2) fun x1 =>
    bindO (idx x.1 x.2) fun x2 =>
    bindO (idx x.1 x.2) fun x3 =>
    nx (List.set x.1 (Int.toNat x.2) x1, IntKind.wrap .i64 (x.2 + 1))) (
    k0 x.1 x.2)
noncomputable def laws_toStringS (a0 : List Bytes) : Option (List Bytes) :=
  if 0 ≤ ((List.length a0 : Int)) ∧ ((List.length a0 : Int)) ≤ ((List.length a0 : Int)) then (
  room (Int.toNat ((List.length a0 : Int))) (
  iterL (laws_toStringS_T3
    (fun (y4 : List Bytes) (y5 : Int) =>
      some y4) a0) fuel (List.replicate (Int.toNat ((List.length a0 : Int))) ([] : Bytes), 0))) else none
noncomputable def laws_toMemory (a0 : List Bytes) : Option (List Bytes) :=
  bindO (laws_toStringS a0) fun r1 =>
  some r1
noncomputable def laws_toIntS_T3 {R : Type} (k0 : (List Int) → Int → Option R) (v0 : List Int) (nx : ((List Int) × Int) → Option R) (x : (List Int) × Int) : Option R :=
  cond (decide (x.2 < ((List.length v0 : Int)))) (
    bindO (idx v0 x.2) fun x1 =>
    bindO (idx x.1 x.2) fun x2 =>
    bindO (idx x.1 x.2) fun x3 =>
    nx (List.set x.1 (Int.toNat x.2) x1, IntKind.wrap .i64 (x.2 + 1))) (
    k0 x.1 x.2)
noncomputable def laws_toIntS (a0 : List Int) : Option (List Int) :=
  if 0 ≤ ((List.length a0 : Int)) ∧ ((List.length a0 : Int)) ≤ ((List.length a0 : Int)) then (
  room (Int.toNat ((List.length a0 : Int))) (
  iterL (laws_toIntS_T3
    (fun (y4 : List Int) (y5 : Int) =>
      some y4) a0) fuel (List.replicate (Int.toNat ((List.length a0 : Int))) (0 : Int), 0))) else none
noncomputable def laws_toMove (a0 : Move) : Option (Move) :=
  bindO (laws_toMemory a0.1) fun r1 =>
  bindO (laws_toIntS a0.2.1) fun r2 =>
  some (r1, r2, a0.2.2)
noncomputable def laws_toMapping (a0 : Mapping) : Option (Mapping) :=
  some a0
noncomputable def laws_toMappingS_T3 {R : Type} (k0 : (List Mapping) → Int → Option R) (v0 : List Mapping) (nx : ((List Mapping) × Int) → Option R) (x : (List Mapping) × Int) : Option R :=
  cond (decide (x.2 < ((List.length v0 : Int)))) (
    bindO (idx v0 x.2) fun x1 =>
    bindO (laws_toMapping x1) fun r2 =>
    bindO (idx x.1 x.2) fun x3 =>
    bindO (idx x.1 x.2) fun x4 =>
    nx (List.set x.1 (Int.toNat x.2) r2, IntKind.wrap .i64 (x.2 + 1))) (
    k0 x.1 x.2)
noncomputable def laws_toMappingS (a0 : List Mapping) : Option (List Mapping) :=
  if 0 ≤ ((List.length a0 : Int)) ∧ ((List.length a0 : Int)) ≤ ((List.length a0 : Int)) then (
  room (Int.toNat ((List.length a0 : Int))) (
  iterL (laws_toMappingS_T3
    (fun (y5 : List Mapping) (y6 : Int) =>
      some y5) a0) fuel (List.replicate (Int.toNat ((List.length a0 : Int))) (0, 0, 0, false), 0))) else none
noncomputable def laws_toRing (a0 : Ring) : Option (Ring) :=
  some a0
noncomputable def laws_toPool (a0 : Pool) : Option (Pool) :=
  bindO (laws_toIntS a0.2.2.2) fun r1 =>
  some (a0.1, a0.2.1, a0.2.2.1, r1)
noncomputable def laws_toSent (a0 : Sent) : Option (Sent) :=
  bindO (laws_toIntS a0.2.2) fun r1 =>
  some (a0.1, a0.2.1, r1)
noncomputable def laws_toSentS_T3 {R : Type} (k0 : (List Sent) → Int → Option R) (v0 : List Sent) (nx : ((List Sent) × Int) → Option R) (x : (List Sent) × Int) : Option R :=
  cond (decide (x.2 < ((List.length v0 : Int)))) (
    bindO (idx v0 x.2) fun x1 =>
    bindO (laws_toSent x1) fun r2 =>
    bindO (idx x.1 x.2) fun x3 =>
    bindO (idx x.1 x.2) fun x4 =>
    nx (List.set x.1 (Int.toNat x.2) r2, IntKind.wrap .i64 (x.2 + 1))) (
    k0 x.1 x.2)
noncomputable def laws_toSentS (a0 : List Sent) : Option (List Sent) :=
  if 0 ≤ ((List.length a0 : Int)) ∧ ((List.length a0 : Int)) ≤ ((List.length a0 : Int)) then (
  room (Int.toNat ((List.length a0 : Int))) (
  iterL (laws_toSentS_T3
    (fun (y5 : List Sent) (y6 : Int) =>
      some y5) a0) fuel (List.replicate (Int.toNat ((List.length a0 : Int))) (0, 0, ([] : List Int)), 0))) else none
noncomputable def laws_toTxQueue (a0 : TxQueue) : Option (TxQueue) :=
  bindO (laws_toRing a0.1) fun r1 =>
  bindO (laws_toPool a0.2.1) fun r2 =>
  bindO (laws_toSentS a0.2.2.1) fun r3 =>
  some (r1, r2, r3, a0.2.2.2)
noncomputable def laws_toCompletionQueue (a0 : CompletionQueue) : Option (CompletionQueue) :=
  some a0
noncomputable def laws_toSegment (a0 : Segment) : Option (Segment) :=
  some a0
noncomputable def laws_toPacket (a0 : Packet) : Option (Packet) :=
  bindO (laws_toSegment a0.2.2.2.2.2.2.2.2) fun r1 =>
  some (a0.1, a0.2.1, a0.2.2.1, a0.2.2.2.1, a0.2.2.2.2.1, a0.2.2.2.2.2.1, a0.2.2.2.2.2.2.1, a0.2.2.2.2.2.2.2.1, r1)
noncomputable def laws_toSuper (a0 : Super) : Option (Super) :=
  bindO (laws_toPacket a0.1) fun r1 =>
  some (r1, a0.2)
noncomputable def laws_toRxQueue (a0 : RxQueue) : Option (RxQueue) :=
  bindO (laws_toRing a0.1) fun r1 =>
  bindO (laws_toCompletionQueue a0.2.1) fun r2 =>
  bindO (laws_toCompletionQueue a0.2.2.1) fun r3 =>
  bindO (laws_toSuper a0.2.2.2.1) fun r4 =>
  some (r1, r2, r3, r4, a0.2.2.2.2)
noncomputable def laws_toRxQueueS_T3 {R : Type} (k0 : (List RxQueue) → Int → Option R) (v0 : List RxQueue) (nx : ((List RxQueue) × Int) → Option R) (x : (List RxQueue) × Int) : Option R :=
  cond (decide (x.2 < ((List.length v0 : Int)))) (
    bindO (idx v0 x.2) fun x1 =>
    bindO (laws_toRxQueue x1) fun r2 =>
    bindO (idx x.1 x.2) fun x3 =>
    bindO (idx x.1 x.2) fun x4 =>
    nx (List.set x.1 (Int.toNat x.2) r2, IntKind.wrap .i64 (x.2 + 1))) (
    k0 x.1 x.2)
noncomputable def laws_toRxQueueS (a0 : List RxQueue) : Option (List RxQueue) :=
  if 0 ≤ ((List.length a0 : Int)) ∧ ((List.length a0 : Int)) ≤ ((List.length a0 : Int)) then (
  room (Int.toNat ((List.length a0 : Int))) (
  iterL (laws_toRxQueueS_T3
    (fun (y5 : List RxQueue) (y6 : Int) =>
      some y5) a0) fuel (List.replicate (Int.toNat ((List.length a0 : Int))) ((0, 0, 0, 0), (0, 0, 0), (0, 0, 0), ((0, 0, 0, 0, 0, 0, 0, 0, 0, 0, 0, 0, 0, 0, 0, ([] : Bytes)), 0, 0), false, 0), 0))) else none
noncomputable def laws_toPoolS_T3 {R : Type} (k0 : (List Pool) → Int → Option R) (v0 : List Pool) (nx : ((List Pool) × Int) → Option R) (x : (List Pool) × Int) : Option R :=
  cond (decide (x.2 < ((List.length v0 : Int)))) (
    bindO (idx v0 x.2) fun x1 =>
    bindO (laws_toPool x1) fun r2 =>
    bindO (idx x.1 x.2) fun x3 =>
    bindO (idx x.1 x.2) fun x4 =>
    nx (List.set x.1 (Int.toNat x.2) r2, IntKind.wrap .i64 (x.2 + 1))) (
    k0 x.1 x.2)
noncomputable def laws_toPoolS (a0 : List Pool) : Option (List Pool) :=
  if 0 ≤ ((List.length a0 : Int)) ∧ ((List.length a0 : Int)) ≤ ((List.length a0 : Int)) then (
  room (Int.toNat ((List.length a0 : Int))) (
  iterL (laws_toPoolS_T3
    (fun (y5 : List Pool) (y6 : Int) =>
      some y5) a0) fuel (List.replicate (Int.toNat ((List.length a0 : Int))) (0, 0, 0, ([] : List Int)), 0))) else none
noncomputable def laws_toVector (a0 : Vector) : Option (Vector) :=
  some a0
noncomputable def laws_toVectorS_T3 {R : Type} (k0 : (List Vector) → Int → Option R) (v0 : List Vector) (nx : ((List Vector) × Int) → Option R) (x : (List Vector) × Int) : Option R :=
  cond (decide (x.2 < ((List.length v0 : Int)))) (
    bindO (idx v0 x.2) fun x1 =>
    bindO (laws_toVector x1) fun r2 =>
    bindO (idx x.1 x.2) fun x3 =>
    bindO (idx x.1 x.2) fun x4 =>
    nx (List.set x.1 (Int.toNat x.2) r2, IntKind.wrap .i64 (x.2 + 1))) (
    k0 x.1 x.2)
noncomputable def laws_toVectorS (a0 : List Vector) : Option (List Vector) :=
  if 0 ≤ ((List.length a0 : Int)) ∧ ((List.length a0 : Int)) ≤ ((List.length a0 : Int)) then (
  room (Int.toNat ((List.length a0 : Int))) (
  iterL (laws_toVectorS_T3
    (fun (y5 : List Vector) (y6 : Int) =>
      some y5) a0) fuel (List.replicate (Int.toNat ((List.length a0 : Int))) (0, 0, 0, 0, false, false), 0))) else none
noncomputable def laws_toBoolS_T3 {R : Type} (k0 : (List Bool) → Int → Option R) (v0 : List Bool) (nx : ((List Bool) × Int) → Option R) (x : (List Bool) × Int) : Option R :=
  cond (decide (x.2 < ((List.length v0 : Int)))) (
    bindO (idx v0 x.2) fun x1 =>
    bindO (idx x.1 x.2) fun x2 =>
    bindO (idx x.1 x.2) fun x3 =>
    nx (List.set x.1 (Int.toNat x.2) x1, IntKind.wrap .i64 (x.2 + 1))) (
    k0 x.1 x.2)
noncomputable def laws_toBoolS (a0 : List Bool) : Option (List Bool) :=
  if 0 ≤ ((List.length a0 : Int)) ∧ ((List.length a0 : Int)) ≤ ((List.length a0 : Int)) then (
  room (Int.toNat ((List.length a0 : Int))) (
  iterL (laws_toBoolS_T3
    (fun (y4 : List Bool) (y5 : Int) =>
      some y4) a0) fuel (List.replicate (Int.toNat ((List.length a0 : Int))) false, 0))) else none
noncomputable def laws_toFilter (a0 : Filter) : Option (Filter) :=
  bindO (laws_toIntS a0.2.2) fun r1 =>
  some (a0.1, a0.2.1, r1)
noncomputable def laws_toRule (a0 : Rule) : Option (Rule) :=
  some a0
noncomputable def laws_toRuleS_T3 {R : Type} (k0 : (List Rule) → Int → Option R) (v0 : List Rule) (nx : ((List Rule) × Int) → Option R) (x : (List Rule) × Int) : Option R :=
  cond (decide (x.2 < ((List.length v0 : Int)))) (
    bindO (idx v0 x.2) fun x1 =>
    bindO (laws_toRule x1) fun r2 =>
    bindO (idx x.1 x.2) fun x3 =>
    bindO (idx x.1 x.2) fun x4 =>
    nx (List.set x.1 (Int.toNat x.2) r2, IntKind.wrap .i64 (x.2 + 1))) (
    k0 x.1 x.2)
noncomputable def laws_toRuleS (a0 : List Rule) : Option (List Rule) :=
  if 0 ≤ ((List.length a0 : Int)) ∧ ((List.length a0 : Int)) ≤ ((List.length a0 : Int)) then (
  room (Int.toNat ((List.length a0 : Int))) (
  iterL (laws_toRuleS_T3
    (fun (y5 : List Rule) (y6 : Int) =>
      some y5) a0) fuel (List.replicate (Int.toNat ((List.length a0 : Int))) (0, 0, 0, 0, 0, 0, 0, 0, 0), 0))) else none
noncomputable def laws_toFlow (a0 : Flow) : Option (Flow) :=
  some a0
noncomputable def laws_toSlot (a0 : Slot) : Option (Slot) :=
  bindO (laws_toFlow a0.2.1) fun r1 =>
  some (a0.1, r1, a0.2.2)
noncomputable def laws_toSlotS_T3 {R : Type} (k0 : (List Slot) → Int → Option R) (v0 : List Slot) (nx : ((List Slot) × Int) → Option R) (x : (List Slot) × Int) : Option R :=
  cond (decide (x.2 < ((List.length v0 : Int)))) (
    bindO (idx v0 x.2) fun x1 =>
    bindO (laws_toSlot x1) fun r2 =>
    bindO (idx x.1 x.2) fun x3 =>
    bindO (idx x.1 x.2) fun x4 =>
    nx (List.set x.1 (Int.toNat x.2) r2, IntKind.wrap .i64 (x.2 + 1))) (
    k0 x.1 x.2)
noncomputable def laws_toSlotS (a0 : List Slot) : Option (List Slot) :=
  if 0 ≤ ((List.length a0 : Int)) ∧ ((List.length a0 : Int)) ≤ ((List.length a0 : Int)) then (
  room (Int.toNat ((List.length a0 : Int))) (
  iterL (laws_toSlotS_T3
    (fun (y5 : List Slot) (y6 : Int) =>
      some y5) a0) fuel (List.replicate (Int.toNat ((List.length a0 : Int))) (0, (0, 0, 0, 0, 0), 0), 0))) else none
noncomputable def laws_toFlowTable (a0 : List Slot) : Option (List Slot) :=
  bindO (laws_toSlotS a0) fun r1 =>
  some r1
noncomputable def laws_toSpread (a0 : Spread) : Option (Spread) :=
  bindO (laws_toIntS a0.2) fun r1 =>
  some (a0.1, r1)
noncomputable def laws_toSteering (a0 : Steering) : Option (Steering) :=
  bindO (laws_toRuleS a0.1) fun r1 =>
  bindO (laws_toFlowTable a0.2.1) fun r2 =>
  bindO (laws_toSpread a0.2.2) fun r3 =>
  some (r1, r2, r3)
noncomputable def laws_toStream (a0 : Stream) : Option (Stream) :=
  bindO (laws_toFlow a0.1) fun r1 =>
  some (r1, a0.2)
noncomputable def laws_toStreamS_T3 {R : Type} (k0 : (List Stream) → Int → Option R) (v0 : List Stream) (nx : ((List Stream) × Int) → Option R) (x : (List Stream) × Int) : Option R :=
  cond (decide (x.2 < ((List.length v0 : Int)))) (
    bindO (idx v0 x.2) fun x1 =>
    bindO (laws_toStream x1) fun r2 =>
    bindO (idx x.1 x.2) fun x3 =>
    bindO (idx x.1 x.2) fun x4 =>
    nx (List.set x.1 (Int.toNat x.2) r2, IntKind.wrap .i64 (x.2 + 1))) (
    k0 x.1 x.2)
noncomputable def laws_toStreamS (a0 : List Stream) : Option (List Stream) :=
  if 0 ≤ ((List.length a0 : Int)) ∧ ((List.length a0 : Int)) ≤ ((List.length a0 : Int)) then (
  room (Int.toNat ((List.length a0 : Int))) (
  iterL (laws_toStreamS_T3
    (fun (y5 : List Stream) (y6 : Int) =>
      some y5) a0) fuel (List.replicate (Int.toNat ((List.length a0 : Int))) ((0, 0, 0, 0, 0), 0, ([] : Bytes), false), 0))) else none
noncomputable def laws_toCounters (a0 : Flow) : Option (Flow) :=
  some a0
noncomputable def laws_toHost (a0 : Host) : Option (Host) :=
  bindO (laws_toMemory a0.1) fun r1 =>
  bindO (laws_toMappingS a0.2.1) fun r2 =>
  bindO (laws_toTxQueue a0.2.2.1) fun r3 =>
  bindO (laws_toRxQueueS a0.2.2.2.1) fun r4 =>
  bindO (laws_toPoolS a0.2.2.2.2.1) fun r5 =>
  bindO (laws_toVectorS a0.2.2.2.2.2.1) fun r6 =>
  bindO (laws_toBoolS a0.2.2.2.2.2.2.1) fun r7 =>
  bindO (laws_toFilter a0.2.2.2.2.2.2.2.1) fun r8 =>
  bindO (laws_toSteering a0.2.2.2.2.2.2.2.2.1) fun r9 =>
  bindO (laws_toStreamS a0.2.2.2.2.2.2.2.2.2.1) fun r10 =>
  bindO (laws_toStringS a0.2.2.2.2.2.2.2.2.2.2.2.1) fun r11 =>
  bindO (laws_toIntS a0.2.2.2.2.2.2.2.2.2.2.2.2.1) fun r12 =>
  bindO (laws_toIntS a0.2.2.2.2.2.2.2.2.2.2.2.2.2.1) fun r13 =>
  bindO (laws_toCounters a0.2.2.2.2.2.2.2.2.2.2.2.2.2.2) fun r14 =>
  some (r1, r2, r3, r4, r5, r6, r7, r8, r9, r10, a0.2.2.2.2.2.2.2.2.2.2.1, r11, r12, r13, r14)
noncomputable def impl_copyStrings (a0 : List Bytes) : Option (List Bytes) :=
  room (List.length ([] : List Bytes) + List.length a0) (
  some (([] : List Bytes) ++ a0))
noncomputable def impl_copyMemory (a0 : List Bytes) : Option (List Bytes) :=
  bindO (impl_copyStrings a0) fun r1 =>
  some r1
noncomputable def impl_copyMappings (a0 : List Mapping) : Option (List Mapping) :=
  room (List.length ([] : List Mapping) + List.length a0) (
  some (([] : List Mapping) ++ a0))
noncomputable def impl_copyInts (a0 : List Int) : Option (List Int) :=
  room (List.length ([] : List Int) + List.length a0) (
  some (([] : List Int) ++ a0))
noncomputable def impl_copyPool (a0 : Pool) : Option (Pool) :=
  bindO (impl_copyInts a0.2.2.2) fun r1 =>
  some (a0.1, a0.2.1, a0.2.2.1, r1)
noncomputable def impl_copySent_T3 {R : Type} (k0 : (List Sent) → Int → Option R) (v7 : List Sent) (v8 : Int) (nx : ((List Sent) × Int) → Option R) (x : (List Sent) × Int) : Option R :=
  cond (decide (x.2 < v8)) (
    bindO (idx v7 x.2) fun x1 =>
    bindO (impl_copyInts x1.2.2) fun r2 =>
    room (List.length x.1 + List.length ([(x1.1, x1.2.1, r2)])) (
    nx (x.1 ++ ([(x1.1, x1.2.1, r2)]), IntKind.wrap .i64 (x.2 + 1)))) (
    k0 x.1 x.2)
noncomputable def impl_copySent (a0 : List Sent) : Option (List Sent) :=
  iterL (impl_copySent_T3
    (fun (y3 : List Sent) (y4 : Int) =>
      some y3) a0 ((List.length a0 : Int))) fuel (([] : List Sent), 0)
noncomputable def impl_copyTx (a0 : TxQueue) : Option (TxQueue) :=
  bindO (impl_copyPool a0.2.1) fun r1 =>
  bindO (impl_copySent a0.2.2.1) fun r2 =>
  some (a0.1, r1, r2, a0.2.2.2)
noncomputable def impl_copyFilter (a0 : Filter) : Option (Filter) :=
  bindO (impl_copyInts a0.2.2) fun r1 =>
  some (a0.1, a0.2.1, r1)
noncomputable def impl_copyTable (a0 : List Slot) : Option (List Slot) :=
  room (List.length ([] : List Slot) + List.length a0) (
  some (([] : List Slot) ++ a0))
noncomputable def impl_copySpread (a0 : Spread) : Option (Spread) :=
  bindO (impl_copyInts a0.2) fun r1 =>
  some (a0.1, r1)
noncomputable def impl_copySteering (a0 : Steering) : Option (Steering) :=
  room (List.length ([] : List Rule) + List.length a0.1) (
  bindO (impl_copyTable a0.2.1) fun r1 =>
  bindO (impl_copySpread a0.2.2) fun r2 =>
  some (([] : List Rule) ++ a0.1, r1, r2))
noncomputable def impl_copyStreams (a0 : List Stream) : Option (List Stream) :=
  room (List.length ([] : List Stream) + List.length a0) (
  some (([] : List Stream) ++ a0))
noncomputable def impl_copyHost_T8 {R : Type} (k0 : Int → Host → Option R) (v27 : List Pool) (v28 : Int) (b1 : Host) (b2 : Host) (nx : (Int × Host) → Option R) (x : Int × Host) : Option R :=
  cond (decide (x.1 < v28)) (
    bindO (idx v27 x.1) fun x4 =>
    bindO (impl_copyPool x4) fun r5 =>
    room (List.length x.2.2.2.2.2.1 + List.length ([r5])) (
    nx (IntKind.wrap .i64 (x.1 + 1), x.2.1, x.2.2.1, x.2.2.2.1, x.2.2.2.2.1, x.2.2.2.2.2.1 ++ ([r5]), x.2.2.2.2.2.2))) (
    k0 x.1 x.2)
noncomputable def impl_copyHost (a0 : Host) : Option (Host) :=
  bindO (impl_copyMemory a0.1) fun r1 =>
  bindO (impl_copyMappings a0.2.1) fun r2 =>
  bindO (impl_copyTx a0.2.2.1) fun r3 =>
  room (List.length ([] : List RxQueue) + List.length a0.2.2.2.1) (
  iterL (impl_copyHost_T8
    (fun (y6 : Int) (y7 : Host) =>
      room (List.length ([] : List Vector) + List.length a0.2.2.2.2.2.1) (
      room (List.length ([] : List Bool) + List.length a0.2.2.2.2.2.2.1) (
      bindO (impl_copyFilter a0.2.2.2.2.2.2.2.1) fun r8 =>
      bindO (impl_copySteering a0.2.2.2.2.2.2.2.2.1) fun r9 =>
      bindO (impl_copyStreams a0.2.2.2.2.2.2.2.2.2.1) fun r10 =>
      bindO (impl_copyStrings a0.2.2.2.2.2.2.2.2.2.2.2.1) fun r11 =>
      bindO (impl_copyInts a0.2.2.2.2.2.2.2.2.2.2.2.2.1) fun r12 =>
      bindO (impl_copyInts a0.2.2.2.2.2.2.2.2.2.2.2.2.2.1) fun r13 =>
      some (y7.1, y7.2.1, y7.2.2.1, y7.2.2.2.1, y7.2.2.2.2.1, ([] : List Vector) ++ a0.2.2.2.2.2.1, ([] : List Bool) ++ a0.2.2.2.2.2.2.1, r8, r9, r10, y7.2.2.2.2.2.2.2.2.2.2.1, r11, r12, r13, y7.2.2.2.2.2.2.2.2.2.2.2.2.2.2)))) a0.2.2.2.2.1 ((List.length a0.2.2.2.2.1 : Int)) a0 (([] : List Bytes), ([] : List Mapping), ((0, 0, 0, 0), (0, 0, 0, ([] : List Int)), ([] : List Sent), 0), ([] : List RxQueue), ([] : List Pool), ([] : List Vector), ([] : List Bool), (0, false, ([] : List Int)), (([] : List Rule), ([] : List Slot), ([] : Bytes), ([] : List Int)), ([] : List Stream), false, ([] : List Bytes), ([] : List Int), ([] : List Int), 0, 0, 0, 0, 0)) fuel (0, r1, r2, r3, ([] : List RxQueue) ++ a0.2.2.2.1, ([] : List Pool), a0.2.2.2.2.2))
noncomputable def impl_CopyRound_T3 {R : Type} (k0 : Int → Move → Option R) (v15 : List Int) (v16 : Int) (b3 : List Bytes) (b4 : Move) (nx : (Int × Move) → Option R) (x : Int × Move) : Option R :=
  cond (decide (x.1 < v16)) (
    bindO (idx v15 x.1) fun x2 =>
    bindO (
      cond (decide (x2 ≥ 0)) (
        cond (decide (x2 < ((List.length b3 : Int)))) (
          some (decide (x2 < ((List.length x.2.1 : Int))))) (
          some false)) (
        some false)) fun q3 =>
    cond q3 (
      bindO (idx b3 x2) fun x4 =>
      bindO (idx x.2.1 x2) fun x5 =>
      bindO (idx x.2.1 x2) fun x6 =>
      nx (IntKind.wrap .i64 (x.1 + 1), List.set x.2.1 (Int.toNat x2) x4, x.2.2.1, IntKind.wrap .i64 (x.2.2.2 + 1))) (
      nx (IntKind.wrap .i64 (x.1 + 1), x.2))) (
    k0 x.1 x.2)
noncomputable def impl_CopyRound (a0 : Move) (a1 : List Bytes) : Option (Move) :=
  bindO (impl_copyMemory a0.1) fun r1 =>
  iterL (impl_CopyRound_T3
    (fun (y7 : Int) (y8 : Move) =>
      some y8) a0.2.1 ((List.length a0.2.1 : Int)) a1 (([] : List Bytes), ([] : List Int), 0)) fuel (0, r1, ([] : List Int), a0.2.2)
noncomputable def slices_Equal_string_T4 {R : Type} (k0 : Int → Option R) (k1 : Bool → Int → Option R) (v0 : List Bytes) (v1 : List Bytes) (v4 : Bool) (v12 : Int) (nx : Int → Option R) (x : Int) : Option R :=
  cond (decide (x < v12)) (
    bindO (idx v0 x) fun x1 =>
    bindO (idx v1 x) fun x2 =>
    cond (!(x1 == x2)) (
      k1 false x) (
      nx (IntKind.wrap .i64 (x + 1)))) (
    k0 x)
noncomputable def slices_Equal_string (a0 : List Bytes) (a1 : List Bytes) : Option (Bool) :=
  cond (((List.length a0 : Int)) != ((List.length a1 : Int))) (
    some false) (
    iterL (slices_Equal_string_T4
      (fun (y3 : Int) =>
        some true)
      (fun (y4 : Bool) (y5 : Int) =>
        some y4) a0 a1 false ((List.length a0 : Int))) fuel 0)
noncomputable def impl_FinishMove (a0 : Move) (a1 : Host) : Option (Host × Bool) :=
  bindO (impl_copyHost a1) fun r1 =>
  bindO (impl_CopyRound a0 a1.1) fun r2 =>
  bindO (slices_Equal_string r2.1 a1.1) fun r3 =>
  some ((r2.1, r1.2), r3)
noncomputable def laws_eqStringS_T4 {R : Type} (k0 : Int → Option R) (k1 : Bool → Int → Option R) (v0 : List Bytes) (v1 : List Bytes) (v4 : Bool) (nx : Int → Option R) (x : Int) : Option R :=
  cond (decide (x < ((List.length v0 : Int)))) (
    bindO (idx v0 x) fun x1 =>
    bindO (idx v1 x) fun x2 =>
    cond (!(x1 == x2)) (
      k1 false x) (
      nx (IntKind.wrap .i64 (x + 1)))) (
    k0 x)
noncomputable def laws_eqStringS (a0 : List Bytes) (a1 : List Bytes) : Option (Bool) :=
  cond (((List.length a0 : Int)) != ((List.length a1 : Int))) (
    some false) (
    iterL (laws_eqStringS_T4
      (fun (y3 : Int) =>
        some true)
      (fun (y4 : Bool) (y5 : Int) =>
        some y4) a0 a1 false) fuel 0)
noncomputable def laws_eqMemory (a0 : List Bytes) (a1 : List Bytes) : Option (Bool) :=
  bindO (laws_eqStringS a0 a1) fun r1 =>
  cond (!r1) (
    some false) (
    some true)
noncomputable def laws_eqMapping (a0 : Mapping) (a1 : Mapping) : Option (Bool) :=
  cond (a0.1 != a1.1) (
    some false) (
    cond (a0.2.1 != a1.2.1) (
      some false) (
      cond (a0.2.2.1 != a1.2.2.1) (
        some false) (
        cond (!(a0.2.2.2 == a1.2.2.2)) (
          some false) (
          some true))))
noncomputable def laws_eqMappingS_T4 {R : Type} (k0 : Int → Option R) (k1 : Bool → Int → Option R) (v0 : List Mapping) (v1 : List Mapping) (v4 : Bool) (nx : Int → Option R) (x : Int) : Option R :=
  cond (decide (x < ((List.length v0 : Int)))) (
    bindO (idx v0 x) fun x1 =>
    bindO (idx v1 x) fun x2 =>
    bindO (laws_eqMapping x1 x2) fun r3 =>
    cond (!r3) (
      k1 false x) (
      nx (IntKind.wrap .i64 (x + 1)))) (
    k0 x)
noncomputable def laws_eqMappingS (a0 : List Mapping) (a1 : List Mapping) : Option (Bool) :=
  cond (((List.length a0 : Int)) != ((List.length a1 : Int))) (
    some false) (
    iterL (laws_eqMappingS_T4
      (fun (y4 : Int) =>
        some true)
      (fun (y5 : Bool) (y6 : Int) =>
        some y5) a0 a1 false) fuel 0)
noncomputable def laws_eqRing (a0 : Ring) (a1 : Ring) : Option (Bool) :=
  cond (a0.1 != a1.1) (
    some false) (
    cond (a0.2.1 != a1.2.1) (
      some false) (
      cond (a0.2.2.1 != a1.2.2.1) (
        some false) (
        cond (a0.2.2.2 != a1.2.2.2) (
          some false) (
          some true))))
noncomputable def laws_eqIntS_T4 {R : Type} (k0 : Int → Option R) (k1 : Bool → Int → Option R) (v0 : List Int) (v1 : List Int) (v4 : Bool) (nx : Int → Option R) (x : Int) : Option R :=
  cond (decide (x < ((List.length v0 : Int)))) (
    bindO (idx v0 x) fun x1 =>
    bindO (idx v1 x) fun x2 =>
    cond (x1 != x2) (
      k1 false x) (
      nx (IntKind.wrap .i64 (x + 1)))) (
    k0 x)
noncomputable def laws_eqIntS (a0 : List Int) (a1 : List Int) : Option (Bool) :=
  cond (((List.length a0 : Int)) != ((List.length a1 : Int))) (
    some false) (
    iterL (laws_eqIntS_T4
      (fun (y3 : Int) =>
        some true)
      (fun (y4 : Bool) (y5 : Int) =>
        some y4) a0 a1 false) fuel 0)
noncomputable def laws_eqPool (a0 : Pool) (a1 : Pool) : Option (Bool) :=
  cond (a0.1 != a1.1) (
    some false) (
    cond (a0.2.1 != a1.2.1) (
      some false) (
      cond (a0.2.2.1 != a1.2.2.1) (
        some false) (
        bindO (laws_eqIntS a0.2.2.2 a1.2.2.2) fun r1 =>
        cond (!r1) (
          some false) (
          some true))))
noncomputable def laws_eqSent (a0 : Sent) (a1 : Sent) : Option (Bool) :=
  cond (a0.1 != a1.1) (
    some false) (
    cond (a0.2.1 != a1.2.1) (
      some false) (
      bindO (laws_eqIntS a0.2.2 a1.2.2) fun r1 =>
      cond (!r1) (
        some false) (
        some true)))
noncomputable def laws_eqSentS_T4 {R : Type} (k0 : Int → Option R) (k1 : Bool → Int → Option R) (v0 : List Sent) (v1 : List Sent) (v4 : Bool) (nx : Int → Option R) (x : Int) : Option R :=
  cond (decide (x < ((List.length v0 : Int)))) (
    bindO (idx v0 x) fun x1 =>
    bindO (idx v1 x) fun x2 =>
    bindO (laws_eqSent x1 x2) fun r3 =>
    cond (!r3) (
      k1 false x) (
      nx (IntKind.wrap .i64 (x + 1)))) (
    k0 x)
noncomputable def laws_eqSentS (a0 : List Sent) (a1 : List Sent) : Option (Bool) :=
  cond (((List.length a0 : Int)) != ((List.length a1 : Int))) (
    some false) (
    iterL (laws_eqSentS_T4
      (fun (y4 : Int) =>
        some true)
      (fun (y5 : Bool) (y6 : Int) =>
        some y5) a0 a1 false) fuel 0)
noncomputable def laws_eqTxQueue (a0 : TxQueue) (a1 : TxQueue) : Option (Bool) :=
  bindO (laws_eqRing a0.1 a1.1) fun r1 =>
  cond (!r1) (
    some false) (
    bindO (laws_eqPool a0.2.1 a1.2.1) fun r2 =>
    cond (!r2) (
      some false) (
      bindO (laws_eqSentS a0.2.2.1 a1.2.2.1) fun r3 =>
      cond (!r3) (
        some false) (
        cond (a0.2.2.2 != a1.2.2.2) (
          some false) (
          some true))))
noncomputable def laws_eqCompletionQueue (a0 : CompletionQueue) (a1 : CompletionQueue) : Option (Bool) :=
  cond (a0.1 != a1.1) (
    some false) (
    cond (a0.2.1 != a1.2.1) (
      some false) (
      cond (a0.2.2 != a1.2.2) (
        some false) (
        some true)))
noncomputable def laws_eqSegment (a0 : Segment) (a1 : Segment) : Option (Bool) :=
  cond (a0.1 != a1.1) (
    some false) (
    cond (a0.2.1 != a1.2.1) (
      some false) (
      cond (a0.2.2.1 != a1.2.2.1) (
        some false) (
        cond (a0.2.2.2.1 != a1.2.2.2.1) (
          some false) (
          cond (a0.2.2.2.2.1 != a1.2.2.2.2.1) (
            some false) (
            cond (a0.2.2.2.2.2.1 != a1.2.2.2.2.2.1) (
              some false) (
              cond (a0.2.2.2.2.2.2.1 != a1.2.2.2.2.2.2.1) (
                some false) (
                cond (!(a0.2.2.2.2.2.2.2 == a1.2.2.2.2.2.2.2)) (
                  some false) (
                  some true))))))))
noncomputable def laws_eqPacket (a0 : Packet) (a1 : Packet) : Option (Bool) :=
  cond (a0.1 != a1.1) (
    some false) (
    cond (a0.2.1 != a1.2.1) (
      some false) (
      cond (a0.2.2.1 != a1.2.2.1) (
        some false) (
        cond (a0.2.2.2.1 != a1.2.2.2.1) (
          some false) (
          cond (a0.2.2.2.2.1 != a1.2.2.2.2.1) (
            some false) (
            cond (a0.2.2.2.2.2.1 != a1.2.2.2.2.2.1) (
              some false) (
              cond (a0.2.2.2.2.2.2.1 != a1.2.2.2.2.2.2.1) (
                some false) (
                cond (a0.2.2.2.2.2.2.2.1 != a1.2.2.2.2.2.2.2.1) (
                  some false) (
                  bindO (laws_eqSegment a0.2.2.2.2.2.2.2.2 a1.2.2.2.2.2.2.2.2) fun r1 =>
                  cond (!r1) (
                    some false) (
                    some true)))))))))
noncomputable def laws_eqSuper (a0 : Super) (a1 : Super) : Option (Bool) :=
  bindO (laws_eqPacket a0.1 a1.1) fun r1 =>
  cond (!r1) (
    some false) (
    cond (a0.2.1 != a1.2.1) (
      some false) (
      cond (a0.2.2 != a1.2.2) (
        some false) (
        some true)))
noncomputable def laws_eqRxQueue (a0 : RxQueue) (a1 : RxQueue) : Option (Bool) :=
  bindO (laws_eqRing a0.1 a1.1) fun r1 =>
  cond (!r1) (
    some false) (
    bindO (laws_eqCompletionQueue a0.2.1 a1.2.1) fun r2 =>
    cond (!r2) (
      some false) (
      bindO (laws_eqCompletionQueue a0.2.2.1 a1.2.2.1) fun r3 =>
      cond (!r3) (
        some false) (
        bindO (laws_eqSuper a0.2.2.2.1 a1.2.2.2.1) fun r4 =>
        cond (!r4) (
          some false) (
          cond (!(a0.2.2.2.2.1 == a1.2.2.2.2.1)) (
            some false) (
            cond (a0.2.2.2.2.2 != a1.2.2.2.2.2) (
              some false) (
              some true))))))
noncomputable def laws_eqRxQueueS_T4 {R : Type} (k0 : Int → Option R) (k1 : Bool → Int → Option R) (v0 : List RxQueue) (v1 : List RxQueue) (v4 : Bool) (nx : Int → Option R) (x : Int) : Option R :=
  cond (decide (x < ((List.length v0 : Int)))) (
    bindO (idx v0 x) fun x1 =>
    bindO (idx v1 x) fun x2 =>
    bindO (laws_eqRxQueue x1 x2) fun r3 =>
    cond (!r3) (
      k1 false x) (
      nx (IntKind.wrap .i64 (x + 1)))) (
    k0 x)
noncomputable def laws_eqRxQueueS (a0 : List RxQueue) (a1 : List RxQueue) : Option (Bool) :=
  cond (((List.length a0 : Int)) != ((List.length a1 : Int))) (
    some false) (
    iterL (laws_eqRxQueueS_T4
      (fun (y4 : Int) =>
        some true)
      (fun (y5 : Bool) (y6 : Int) =>
        some y5) a0 a1 false) fuel 0)
noncomputable def laws_eqPoolS_T4 {R : Type} (k0 : Int → Option R) (k1 : Bool → Int → Option R) (v0 : List Pool) (v1 : List Pool) (v4 : Bool) (nx : Int → Option R) (x : Int) : Option R :=
  cond (decide (x < ((List.length v0 : Int)))) (
    bindO (idx v0 x) fun x1 =>
    bindO (idx v1 x) fun x2 =>
    bindO (laws_eqPool x1 x2) fun r3 =>
    cond (!r3) (
      k1 false x) (
      nx (IntKind.wrap .i64 (x + 1)))) (
    k0 x)
noncomputable def laws_eqPoolS (a0 : List Pool) (a1 : List Pool) : Option (Bool) :=
  cond (((List.length a0 : Int)) != ((List.length a1 : Int))) (
    some false) (
    iterL (laws_eqPoolS_T4
      (fun (y4 : Int) =>
        some true)
      (fun (y5 : Bool) (y6 : Int) =>
        some y5) a0 a1 false) fuel 0)
noncomputable def laws_eqVector (a0 : Vector) (a1 : Vector) : Option (Bool) :=
  cond (a0.1 != a1.1) (
    some false) (
    cond (a0.2.1 != a1.2.1) (
      some false) (
      cond (a0.2.2.1 != a1.2.2.1) (
        some false) (
        cond (a0.2.2.2.1 != a1.2.2.2.1) (
          some false) (
          cond (!(a0.2.2.2.2.1 == a1.2.2.2.2.1)) (
            some false) (
            cond (!(a0.2.2.2.2.2 == a1.2.2.2.2.2)) (
              some false) (
              some true))))))
noncomputable def laws_eqVectorS_T4 {R : Type} (k0 : Int → Option R) (k1 : Bool → Int → Option R) (v0 : List Vector) (v1 : List Vector) (v4 : Bool) (nx : Int → Option R) (x : Int) : Option R :=
  cond (decide (x < ((List.length v0 : Int)))) (
    bindO (idx v0 x) fun x1 =>
    bindO (idx v1 x) fun x2 =>
    bindO (laws_eqVector x1 x2) fun r3 =>
    cond (!r3) (
      k1 false x) (
      nx (IntKind.wrap .i64 (x + 1)))) (
    k0 x)
noncomputable def laws_eqVectorS (a0 : List Vector) (a1 : List Vector) : Option (Bool) :=
  cond (((List.length a0 : Int)) != ((List.length a1 : Int))) (
    some false) (
    iterL (laws_eqVectorS_T4
      (fun (y4 : Int) =>
        some true)
      (fun (y5 : Bool) (y6 : Int) =>
        some y5) a0 a1 false) fuel 0)
noncomputable def laws_eqBoolS_T4 {R : Type} (k0 : Int → Option R) (k1 : Bool → Int → Option R) (v0 : List Bool) (v1 : List Bool) (v4 : Bool) (nx : Int → Option R) (x : Int) : Option R :=
  cond (decide (x < ((List.length v0 : Int)))) (
    bindO (idx v0 x) fun x1 =>
    bindO (idx v1 x) fun x2 =>
    cond (!(x1 == x2)) (
      k1 false x) (
      nx (IntKind.wrap .i64 (x + 1)))) (
    k0 x)
noncomputable def laws_eqBoolS (a0 : List Bool) (a1 : List Bool) : Option (Bool) :=
  cond (((List.length a0 : Int)) != ((List.length a1 : Int))) (
    some false) (
    iterL (laws_eqBoolS_T4
      (fun (y3 : Int) =>
        some true)
      (fun (y4 : Bool) (y5 : Int) =>
        some y4) a0 a1 false) fuel 0)
noncomputable def laws_eqFilter (a0 : Filter) (a1 : Filter) : Option (Bool) :=
  cond (a0.1 != a1.1) (
    some false) (
    cond (!(a0.2.1 == a1.2.1)) (
      some false) (
      bindO (laws_eqIntS a0.2.2 a1.2.2) fun r1 =>
      cond (!r1) (
        some false) (
        some true)))
noncomputable def laws_eqRule (a0 : Rule) (a1 : Rule) : Option (Bool) :=
  cond (a0.1 != a1.1) (
    some false) (
    cond (a0.2.1 != a1.2.1) (
      some false) (
      cond (a0.2.2.1 != a1.2.2.1) (
        some false) (
        cond (a0.2.2.2.1 != a1.2.2.2.1) (
          some false) (
          cond (a0.2.2.2.2.1 != a1.2.2.2.2.1) (
            some false) (
            cond (a0.2.2.2.2.2.1 != a1.2.2.2.2.2.1) (
              some false) (
              cond (a0.2.2.2.2.2.2.1 != a1.2.2.2.2.2.2.1) (
                some false) (
                cond (a0.2.2.2.2.2.2.2.1 != a1.2.2.2.2.2.2.2.1) (
                  some false) (
                  cond (a0.2.2.2.2.2.2.2.2 != a1.2.2.2.2.2.2.2.2) (
                    some false) (
                    some true)))))))))
noncomputable def laws_eqRuleS_T4 {R : Type} (k0 : Int → Option R) (k1 : Bool → Int → Option R) (v0 : List Rule) (v1 : List Rule) (v4 : Bool) (nx : Int → Option R) (x : Int) : Option R :=
  cond (decide (x < ((List.length v0 : Int)))) (
    bindO (idx v0 x) fun x1 =>
    bindO (idx v1 x) fun x2 =>
    bindO (laws_eqRule x1 x2) fun r3 =>
    cond (!r3) (
      k1 false x) (
      nx (IntKind.wrap .i64 (x + 1)))) (
    k0 x)
noncomputable def laws_eqRuleS (a0 : List Rule) (a1 : List Rule) : Option (Bool) :=
  cond (((List.length a0 : Int)) != ((List.length a1 : Int))) (
    some false) (
    iterL (laws_eqRuleS_T4
      (fun (y4 : Int) =>
        some true)
      (fun (y5 : Bool) (y6 : Int) =>
        some y5) a0 a1 false) fuel 0)
noncomputable def laws_eqFlow (a0 : Flow) (a1 : Flow) : Option (Bool) :=
  cond (a0.1 != a1.1) (
    some false) (
    cond (a0.2.1 != a1.2.1) (
      some false) (
      cond (a0.2.2.1 != a1.2.2.1) (
        some false) (
        cond (a0.2.2.2.1 != a1.2.2.2.1) (
          some false) (
          cond (a0.2.2.2.2 != a1.2.2.2.2) (
            some false) (
            some true)))))
noncomputable def laws_eqSlot (a0 : Slot) (a1 : Slot) : Option (Bool) :=
  cond (a0.1 != a1.1) (
    some false) (
    bindO (laws_eqFlow a0.2.1 a1.2.1) fun r1 =>
    cond (!r1) (
      some false) (
      cond (a0.2.2 != a1.2.2) (
        some false) (
        some true)))
noncomputable def laws_eqSlotS_T4 {R : Type} (k0 : Int → Option R) (k1 : Bool → Int → Option R) (v0 : List Slot) (v1 : List Slot) (v4 : Bool) (nx : Int → Option R) (x : Int) : Option R :=
  cond (decide (x < ((List.length v0 : Int)))) (
    bindO (idx v0 x) fun x1 =>
    bindO (idx v1 x) fun x2 =>
    bindO (laws_eqSlot x1 x2) fun r3 =>
    cond (!r3) (
      k1 false x) (
      nx (IntKind.wrap .i64 (x + 1)))) (
    k0 x)
noncomputable def laws_eqSlotS (a0 : List Slot) (a1 : List Slot) : Option (Bool) :=
  cond (((List.length a0 : Int)) != ((List.length a1 : Int))) (
    some false) (
    iterL (laws_eqSlotS_T4
      (fun (y4 : Int) =>
        some true)
      (fun (y5 : Bool) (y6 : Int) =>
        some y5) a0 a1 false) fuel 0)
noncomputable def laws_eqFlowTable (a0 : List Slot) (a1 : List Slot) : Option (Bool) :=
  bindO (laws_eqSlotS a0 a1) fun r1 =>
  cond (!r1) (
    some false) (
    some true)
noncomputable def laws_eqSpread (a0 : Spread) (a1 : Spread) : Option (Bool) :=
  cond (!(a0.1 == a1.1)) (
    some false) (
    bindO (laws_eqIntS a0.2 a1.2) fun r1 =>
    cond (!r1) (
      some false) (
      some true))
noncomputable def laws_eqSteering (a0 : Steering) (a1 : Steering) : Option (Bool) :=
  bindO (laws_eqRuleS a0.1 a1.1) fun r1 =>
  cond (!r1) (
    some false) (
    bindO (laws_eqFlowTable a0.2.1 a1.2.1) fun r2 =>
    cond (!r2) (
      some false) (
      bindO (laws_eqSpread a0.2.2 a1.2.2) fun r3 =>
      cond (!r3) (
        some false) (
        some true)))
noncomputable def laws_eqStream (a0 : Stream) (a1 : Stream) : Option (Bool) :=
  bindO (laws_eqFlow a0.1 a1.1) fun r1 =>
  cond (!r1) (
    some false) (
    cond (a0.2.1 != a1.2.1) (
      some false) (
      cond (!(a0.2.2.1 == a1.2.2.1)) (
        some false) (
        cond (!(a0.2.2.2 == a1.2.2.2)) (
          some false) (
          some true))))
noncomputable def laws_eqStreamS_T4 {R : Type} (k0 : Int → Option R) (k1 : Bool → Int → Option R) (v0 : List Stream) (v1 : List Stream) (v4 : Bool) (nx : Int → Option R) (x : Int) : Option R :=
  cond (decide (x < ((List.length v0 : Int)))) (
    bindO (idx v0 x) fun x1 =>
    bindO (idx v1 x) fun x2 =>
    bindO (laws_eqStream x1 x2) fun r3 =>
    cond (!r3) (
      k1 false x) (
      nx (IntKind.wrap .i64 (x + 1)))) (
    k0 x)
noncomputable def laws_eqStreamS (a0 : List Stream) (a1 : List Stream) : Option (Bool) :=
  cond (((List.length a0 : Int)) != ((List.length a1 : Int))) (
    some false) (
    iterL (laws_eqStreamS_T4
      (fun (y4 : Int) =>
        some true)
      (fun (y5 : Bool) (y6 : Int) =>
        some y5) a0 a1 false) fuel 0)
noncomputable def laws_eqCounters (a0 : Flow) (a1 : Flow) : Option (Bool) :=
  cond (a0.1 != a1.1) (
    some false) (
    cond (a0.2.1 != a1.2.1) (
      some false) (
      cond (a0.2.2.1 != a1.2.2.1) (
        some false) (
        cond (a0.2.2.2.1 != a1.2.2.2.1) (
          some false) (
          cond (a0.2.2.2.2 != a1.2.2.2.2) (
            some false) (
            some true)))))
noncomputable def laws_eqHost (a0 : Host) (a1 : Host) : Option (Bool) :=
  bindO (laws_eqMemory a0.1 a1.1) fun r1 =>
  cond (!r1) (
    some false) (
    bindO (laws_eqMappingS a0.2.1 a1.2.1) fun r2 =>
    cond (!r2) (
      some false) (
      bindO (laws_eqTxQueue a0.2.2.1 a1.2.2.1) fun r3 =>
      cond (!r3) (
        some false) (
        bindO (laws_eqRxQueueS a0.2.2.2.1 a1.2.2.2.1) fun r4 =>
        cond (!r4) (
          some false) (
          bindO (laws_eqPoolS a0.2.2.2.2.1 a1.2.2.2.2.1) fun r5 =>
          cond (!r5) (
            some false) (
            bindO (laws_eqVectorS a0.2.2.2.2.2.1 a1.2.2.2.2.2.1) fun r6 =>
            cond (!r6) (
              some false) (
              bindO (laws_eqBoolS a0.2.2.2.2.2.2.1 a1.2.2.2.2.2.2.1) fun r7 =>
              cond (!r7) (
                some false) (
                bindO (laws_eqFilter a0.2.2.2.2.2.2.2.1 a1.2.2.2.2.2.2.2.1) fun r8 =>
                cond (!r8) (
                  some false) (
                  bindO (laws_eqSteering a0.2.2.2.2.2.2.2.2.1 a1.2.2.2.2.2.2.2.2.1) fun r9 =>
                  cond (!r9) (
                    some false) (
                    bindO (laws_eqStreamS a0.2.2.2.2.2.2.2.2.2.1 a1.2.2.2.2.2.2.2.2.2.1) fun r10 =>
                    cond (!r10) (
                      some false) (
                      cond (!(a0.2.2.2.2.2.2.2.2.2.2.1 == a1.2.2.2.2.2.2.2.2.2.2.1)) (
                        some false) (
                        bindO (laws_eqStringS a0.2.2.2.2.2.2.2.2.2.2.2.1 a1.2.2.2.2.2.2.2.2.2.2.2.1) fun r11 =>
                        cond (!r11) (
                          some false) (
                          bindO (laws_eqIntS a0.2.2.2.2.2.2.2.2.2.2.2.2.1 a1.2.2.2.2.2.2.2.2.2.2.2.2.1) fun r12 =>
                          cond (!r12) (
                            some false) (
                            bindO (laws_eqIntS a0.2.2.2.2.2.2.2.2.2.2.2.2.2.1 a1.2.2.2.2.2.2.2.2.2.2.2.2.2.1) fun r13 =>
                            cond (!r13) (
                              some false) (
                              bindO (laws_eqCounters a0.2.2.2.2.2.2.2.2.2.2.2.2.2.2 a1.2.2.2.2.2.2.2.2.2.2.2.2.2.2) fun r14 =>
                              cond (!r14) (
                                some false) (
                                some true)))))))))))))))
noncomputable def laws_eqMove (a0 : Move) (a1 : Move) : Option (Bool) :=
  bindO (laws_eqMemory a0.1 a1.1) fun r1 =>
  cond (!r1) (
    some false) (
    bindO (laws_eqIntS a0.2.1 a1.2.1) fun r2 =>
    cond (!r2) (
      some false) (
      cond (a0.2.2 != a1.2.2) (
        some false) (
        some true)))
noncomputable def laws_markText_T4 {R : Type} (k0 : Int → Bytes → Option R) (nx : (Int × Bytes) → Option R) (x : Int × Bytes) : Option R :=
  cond (decide (x.1 > 0)) (
    if 10 = 0 then none else (
    room (List.length (bytesOf ([(IntKind.wrap .u8 (IntKind.wrap .i64 (48 + (Int.tmod x.1 10))))])) + List.length x.2) (
    if 10 = 0 then none else (
    nx (IntKind.wrap .i64 (Int.tdiv x.1 10), (bytesOf ([(IntKind.wrap .u8 (IntKind.wrap .i64 (48 + (Int.tmod x.1 10))))])) ++ x.2))))) (
    k0 x.1 x.2)
noncomputable def laws_markText (a0 : Int) : Option (Bytes) :=
  cond (decide (a0 ≤ 0)) (
    some ([109, 48] : Bytes)) (
    iterL (laws_markText_T4
      (fun (y1 : Int) (y2 : Bytes) =>
        room (List.length ([109] : Bytes) + List.length y2) (
        some (([109] : Bytes) ++ y2)))) fuel (a0, ([] : Bytes)))
noncomputable def laws_markStringS_T2 {R : Type} (k0 : (List Bytes) → Int → Int → (List Bytes) → Option R) (nx : ((List Bytes) × Int × Int × List Bytes) → Option R) (x : (List Bytes) × Int × Int × List Bytes) : Option R :=
  cond (decide (x.2.2.1 < ((List.length x.1 : Int)))) (
    bindO (laws_markText x.2.1) fun r1 =>
    bindO (idx x.1 x.2.2.1) fun x2 =>
    bindO (idx x.2.2.2 x.2.2.1) fun x3 =>
    nx (List.set x.2.2.2 (Int.toNat x.2.2.1) r1, IntKind.wrap .i64 (x.2.1 + 1), IntKind.wrap .i64 (x.2.2.1 + 1), List.set x.2.2.2 (Int.toNat x.2.2.1) r1)) (
    k0 x.2.2.2 x.2.1 x.2.2.1 x.2.2.2)
noncomputable def laws_markStringS (a0 : List Bytes) (a1 : Int) : Option (Int × List Bytes) :=
  iterL (laws_markStringS_T2
    (fun (y4 : List Bytes) (y5 : Int) (y6 : Int) (y7 : List Bytes) =>
      some (y5, y7))) fuel (a0, a1, 0, a0)
noncomputable def laws_markMemory (a0 : List Bytes) (a1 : Int) : Option (Int × List Bytes) :=
  bindO (laws_markStringS a0 a1) fun r1 =>
  some r1
noncomputable def laws_markIntS_T2 {R : Type} (k0 : (List Int) → Int → Int → (List Int) → Option R) (nx : ((List Int) × Int × Int × List Int) → Option R) (x : (List Int) × Int × Int × List Int) : Option R :=
  cond (decide (x.2.2.1 < ((List.length x.1 : Int)))) (
    bindO (idx x.1 x.2.2.1) fun x1 =>
    bindO (idx x.2.2.2 x.2.2.1) fun x2 =>
    nx (List.set x.2.2.2 (Int.toNat x.2.2.1) x.2.1, IntKind.wrap .i64 (x.2.1 + 1), IntKind.wrap .i64 (x.2.2.1 + 1), List.set x.2.2.2 (Int.toNat x.2.2.1) x.2.1)) (
    k0 x.2.2.2 x.2.1 x.2.2.1 x.2.2.2)
noncomputable def laws_markIntS (a0 : List Int) (a1 : Int) : Option (Int × List Int) :=
  iterL (laws_markIntS_T2
    (fun (y3 : List Int) (y4 : Int) (y5 : Int) (y6 : List Int) =>
      some (y4, y6))) fuel (a0, a1, 0, a0)
noncomputable def laws_markMove (a0 : Move) (a1 : Int) : Option (Int × Move) :=
  bindO (laws_markMemory a0.1 a1) fun r1 =>
  bindO (laws_markIntS a0.2.1 r1.1) fun r2 =>
  some (r2.1, r1.2, r2.2, a0.2.2)
noncomputable def laws_markMappingS_T2 {R : Type} (k0 : (List Mapping) → Int → Int → (List Mapping) → Option R) (nx : ((List Mapping) × Int × Int × List Mapping) → Option R) (x : (List Mapping) × Int × Int × List Mapping) : Option R :=
  cond (decide (x.2.2.1 < ((List.length x.1 : Int)))) (
    bindO (idx x.1 x.2.2.1) fun x1 =>
    bindO (idx x.2.2.2 x.2.2.1) fun x2 =>
    bindO (idx (List.set x.2.2.2 (Int.toNat x.2.2.1) (x.2.1, x2.2)) x.2.2.1) fun x3 =>
    bindO (some (List.set x.2.2.2 (Int.toNat x.2.2.1) (x.2.1, x2.2))) fun x4 =>
    bindO (idx x4 x.2.2.1) fun x5 =>
    bindO (idx (List.set x4 (Int.toNat x.2.2.1) (x5.1, IntKind.wrap .i64 (x.2.1 + 1), x5.2.2)) x.2.2.1) fun x6 =>
    bindO (some (List.set x4 (Int.toNat x.2.2.1) (x5.1, IntKind.wrap .i64 (x.2.1 + 1), x5.2.2))) fun x7 =>
    bindO (idx x7 x.2.2.1) fun x8 =>
    if 3 = 0 then none else (
    bindO (idx (List.set x7 (Int.toNat x.2.2.1) (x8.1, x8.2.1, IntKind.wrap .i64 ((IntKind.wrap .i64 (x.2.1 + 1)) + 1), x8.2.2.2)) x.2.2.1) fun x9 =>
    bindO (some (List.set x7 (Int.toNat x.2.2.1) (x8.1, x8.2.1, IntKind.wrap .i64 ((IntKind.wrap .i64 (x.2.1 + 1)) + 1), x8.2.2.2))) fun x10 =>
    bindO (idx x10 x.2.2.1) fun x11 =>
    nx (List.set x10 (Int.toNat x.2.2.1) (x11.1, x11.2.1, x11.2.2.1, (Int.tmod (IntKind.wrap .i64 ((IntKind.wrap .i64 ((IntKind.wrap .i64 (x.2.1 + 1)) + 1)) + 1)) 3) == 0), IntKind.wrap .i64 ((IntKind.wrap .i64 ((IntKind.wrap .i64 ((IntKind.wrap .i64 (x.2.1 + 1)) + 1)) + 1)) + 1), IntKind.wrap .i64 (x.2.2.1 + 1), List.set x10 (Int.toNat x.2.2.1) (x11.1, x11.2.1, x11.2.2.1, (Int.tmod (IntKind.wrap .i64 ((IntKind.wrap .i64 ((IntKind.wrap .i64 (x.2.1 + 1)) + 1)) + 1)) 3) == 0)))) (
    k0 x.2.2.2 x.2.1 x.2.2.1 x.2.2.2)
noncomputable def laws_markMappingS (a0 : List Mapping) (a1 : Int) : Option (Int × List Mapping) :=
  iterL (laws_markMappingS_T2
    (fun (y12 : List Mapping) (y13 : Int) (y14 : Int) (y15 : List Mapping) =>
      some (y13, y15))) fuel (a0, a1, 0, a0)
noncomputable def laws_markPool (a0 : Pool) (a1 : Int) : Option (Int × Pool) :=
  bindO (laws_markIntS a0.2.2.2 a1) fun r1 =>
  some (r1.1, a0.1, a0.2.1, a0.2.2.1, r1.2)
noncomputable def laws_markSentS_T2 {R : Type} (k0 : (List Sent) → Int → Int → (List Sent) → Option R) (nx : ((List Sent) × Int × Int × List Sent) → Option R) (x : (List Sent) × Int × Int × List Sent) : Option R :=
  cond (decide (x.2.2.1 < ((List.length x.1 : Int)))) (
    bindO (idx x.1 x.2.2.1) fun x1 =>
    bindO (idx x.2.2.2 x.2.2.1) fun x2 =>
    bindO (idx (List.set x.2.2.2 (Int.toNat x.2.2.1) (x.2.1, x2.2)) x.2.2.1) fun x3 =>
    bindO (some (List.set x.2.2.2 (Int.toNat x.2.2.1) (x.2.1, x2.2))) fun x4 =>
    bindO (idx x4 x.2.2.1) fun x5 =>
    bindO (idx (List.set x4 (Int.toNat x.2.2.1) (x5.1, IntKind.wrap .i64 (x.2.1 + 1), x5.2.2)) x.2.2.1) fun x6 =>
    bindO (some (List.set x4 (Int.toNat x.2.2.1) (x5.1, IntKind.wrap .i64 (x.2.1 + 1), x5.2.2))) fun x7 =>
    bindO (idx x7 x.2.2.1) fun x8 =>
    bindO (laws_markIntS x8.2.2 (IntKind.wrap .i64 ((IntKind.wrap .i64 (x.2.1 + 1)) + 1))) fun r9 =>
    nx (List.set x7 (Int.toNat x.2.2.1) (x8.1, x8.2.1, r9.2), r9.1, IntKind.wrap .i64 (x.2.2.1 + 1), List.set x7 (Int.toNat x.2.2.1) (x8.1, x8.2.1, r9.2))) (
    k0 x.2.2.2 x.2.1 x.2.2.1 x.2.2.2)
noncomputable def laws_markSentS (a0 : List Sent) (a1 : Int) : Option (Int × List Sent) :=
  iterL (laws_markSentS_T2
    (fun (y10 : List Sent) (y11 : Int) (y12 : Int) (y13 : List Sent) =>
      some (y11, y13))) fuel (a0, a1, 0, a0)
noncomputable def laws_markTxQueue (a0 : TxQueue) (a1 : Int) : Option (Int × TxQueue) :=
  bindO (laws_markPool a0.2.1 a1) fun r1 =>
  bindO (laws_markSentS a0.2.2.1 r1.1) fun r2 =>
  some (r2.1, a0.1, (a0.2.1.1, a0.2.1.2.1, a0.2.1.2.2.1, r1.2.2.2.2), r2.2, a0.2.2.2)
noncomputable def laws_markRxQueueS_T2 {R : Type} (k0 : (List RxQueue) → Int → Int → (List RxQueue) → Option R) (nx : ((List RxQueue) × Int × Int × List RxQueue) → Option R) (x : (List RxQueue) × Int × Int × List RxQueue) : Option R :=
  cond (decide (x.2.2.1 < ((List.length x.1 : Int)))) (
    bindO (idx x.1 x.2.2.1) fun x1 =>
    bindO (idx x.2.2.2 x.2.2.1) fun x2 =>
    bindO (idx (List.set x.2.2.2 (Int.toNat x.2.2.1) ((x.2.1, x2.1.2), x2.2)) x.2.2.1) fun x3 =>
    bindO (some (List.set x.2.2.2 (Int.toNat x.2.2.1) ((x.2.1, x2.1.2), x2.2))) fun x4 =>
    bindO (idx x4 x.2.2.1) fun x5 =>
    bindO (idx (List.set x4 (Int.toNat x.2.2.1) ((x5.1.1, IntKind.wrap .i64 (x.2.1 + 1), x5.1.2.2), x5.2)) x.2.2.1) fun x6 =>
    bindO (some (List.set x4 (Int.toNat x.2.2.1) ((x5.1.1, IntKind.wrap .i64 (x.2.1 + 1), x5.1.2.2), x5.2))) fun x7 =>
    bindO (idx x7 x.2.2.1) fun x8 =>
    bindO (idx (List.set x7 (Int.toNat x.2.2.1) ((x8.1.1, x8.1.2.1, IntKind.wrap .i64 ((IntKind.wrap .i64 (x.2.1 + 1)) + 1), x8.1.2.2.2), x8.2)) x.2.2.1) fun x9 =>
    bindO (some (List.set x7 (Int.toNat x.2.2.1) ((x8.1.1, x8.1.2.1, IntKind.wrap .i64 ((IntKind.wrap .i64 (x.2.1 + 1)) + 1), x8.1.2.2.2), x8.2))) fun x10 =>
    bindO (idx x10 x.2.2.1) fun x11 =>
    bindO (idx (List.set x10 (Int.toNat x.2.2.1) ((x11.1.1, x11.1.2.1, x11.1.2.2.1, IntKind.wrap .i64 ((IntKind.wrap .i64 ((IntKind.wrap .i64 (x.2.1 + 1)) + 1)) + 1)), x11.2)) x.2.2.1) fun x12 =>
    bindO (some (List.set x10 (Int.toNat x.2.2.1) ((x11.1.1, x11.1.2.1, x11.1.2.2.1, IntKind.wrap .i64 ((IntKind.wrap .i64 ((IntKind.wrap .i64 (x.2.1 + 1)) + 1)) + 1)), x11.2))) fun x13 =>
    bindO (idx x13 x.2.2.1) fun x14 =>
    bindO (idx (List.set x13 (Int.toNat x.2.2.1) (x14.1, (IntKind.wrap .i64 ((IntKind.wrap .i64 ((IntKind.wrap .i64 ((IntKind.wrap .i64 (x.2.1 + 1)) + 1)) + 1)) + 1), x14.2.1.2), x14.2.2)) x.2.2.1) fun x15 =>
    bindO (some (List.set x13 (Int.toNat x.2.2.1) (x14.1, (IntKind.wrap .i64 ((IntKind.wrap .i64 ((IntKind.wrap .i64 ((IntKind.wrap .i64 (x.2.1 + 1)) + 1)) + 1)) + 1), x14.2.1.2), x14.2.2))) fun x16 =>
    bindO (idx x16 x.2.2.1) fun x17 =>
    bindO (idx (List.set x16 (Int.toNat x.2.2.1) (x17.1, (x17.2.1.1, IntKind.wrap .i64 ((IntKind.wrap .i64 ((IntKind.wrap .i64 ((IntKind.wrap .i64 ((IntKind.wrap .i64 (x.2.1 + 1)) + 1)) + 1)) + 1)) + 1), x17.2.1.2.2), x17.2.2)) x.2.2.1) fun x18 =>
    bindO (some (List.set x16 (Int.toNat x.2.2.1) (x17.1, (x17.2.1.1, IntKind.wrap .i64 ((IntKind.wrap .i64 ((IntKind.wrap .i64 ((IntKind.wrap .i64 ((IntKind.wrap .i64 (x.2.1 + 1)) + 1)) + 1)) + 1)) + 1), x17.2.1.2.2), x17.2.2))) fun x19 =>
    bindO (idx x19 x.2.2.1) fun x20 =>
    bindO (idx (List.set x19 (Int.toNat x.2.2.1) (x20.1, (x20.2.1.1, x20.2.1.2.1, IntKind.wrap .i64 ((IntKind.wrap .i64 ((IntKind.wrap .i64 ((IntKind.wrap .i64 ((IntKind.wrap .i64 ((IntKind.wrap .i64 (x.2.1 + 1)) + 1)) + 1)) + 1)) + 1)) + 1)), x20.2.2)) x.2.2.1) fun x21 =>
    bindO (some (List.set x19 (Int.toNat x.2.2.1) (x20.1, (x20.2.1.1, x20.2.1.2.1, IntKind.wrap .i64 ((IntKind.wrap .i64 ((IntKind.wrap .i64 ((IntKind.wrap .i64 ((IntKind.wrap .i64 ((IntKind.wrap .i64 (x.2.1 + 1)) + 1)) + 1)) + 1)) + 1)) + 1)), x20.2.2))) fun x22 =>
    bindO (idx x22 x.2.2.1) fun x23 =>
    bindO (idx (List.set x22 (Int.toNat x.2.2.1) (x23.1, x23.2.1, (IntKind.wrap .i64 ((IntKind.wrap .i64 ((IntKind.wrap .i64 ((IntKind.wrap .i64 ((IntKind.wrap .i64 ((IntKind.wrap .i64 ((IntKind.wrap .i64 (x.2.1 + 1)) + 1)) + 1)) + 1)) + 1)) + 1)) + 1), x23.2.2.1.2), x23.2.2.2)) x.2.2.1) fun x24 =>
    bindO (some (List.set x22 (Int.toNat x.2.2.1) (x23.1, x23.2.1, (IntKind.wrap .i64 ((IntKind.wrap .i64 ((IntKind.wrap .i64 ((IntKind.wrap .i64 ((IntKind.wrap .i64 ((IntKind.wrap .i64 ((IntKind.wrap .i64 (x.2.1 + 1)) + 1)) + 1)) + 1)) + 1)) + 1)) + 1), x23.2.2.1.2), x23.2.2.2))) fun x25 =>
    bindO (idx x25 x.2.2.1) fun x26 =>
    bindO (idx (List.set x25 (Int.toNat x.2.2.1) (x26.1, x26.2.1, (x26.2.2.1.1, IntKind.wrap .i64 ((IntKind.wrap .i64 ((IntKind.wrap .i64 ((IntKind.wrap .i64 ((IntKind.wrap .i64 ((IntKind.wrap .i64 ((IntKind.wrap .i64 ((IntKind.wrap .i64 (x.2.1 + 1)) + 1)) + 1)) + 1)) + 1)) + 1)) + 1)) + 1), x26.2.2.1.2.2), x26.2.2.2)) x.2.2.1) fun x27 =>
    bindO (some (List.set x25 (Int.toNat x.2.2.1) (x26.1, x26.2.1, (x26.2.2.1.1, IntKind.wrap .i64 ((IntKind.wrap .i64 ((IntKind.wrap .i64 ((IntKind.wrap .i64 ((IntKind.wrap .i64 ((IntKind.wrap .i64 ((IntKind.wrap .i64 ((IntKind.wrap .i64 (x.2.1 + 1)) + 1)) + 1)) + 1)) + 1)) + 1)) + 1)) + 1), x26.2.2.1.2.2), x26.2.2.2))) fun x28 =>
    bindO (idx x28 x.2.2.1) fun x29 =>
    bindO (idx (List.set x28 (Int.toNat x.2.2.1) (x29.1, x29.2.1, (x29.2.2.1.1, x29.2.2.1.2.1, IntKind.wrap .i64 ((IntKind.wrap .i64 ((IntKind.wrap .i64 ((IntKind.wrap .i64 ((IntKind.wrap .i64 ((IntKind.wrap .i64 ((IntKind.wrap .i64 ((IntKind.wrap .i64 ((IntKind.wrap .i64 (x.2.1 + 1)) + 1)) + 1)) + 1)) + 1)) + 1)) + 1)) + 1)) + 1)), x29.2.2.2)) x.2.2.1) fun x30 =>
    bindO (some (List.set x28 (Int.toNat x.2.2.1) (x29.1, x29.2.1, (x29.2.2.1.1, x29.2.2.1.2.1, IntKind.wrap .i64 ((IntKind.wrap .i64 ((IntKind.wrap .i64 ((IntKind.wrap .i64 ((IntKind.wrap .i64 ((IntKind.wrap .i64 ((IntKind.wrap .i64 ((IntKind.wrap .i64 ((IntKind.wrap .i64 (x.2.1 + 1)) + 1)) + 1)) + 1)) + 1)) + 1)) + 1)) + 1)) + 1)), x29.2.2.2))) fun x31 =>
    bindO (idx x31 x.2.2.1) fun x32 =>
    bindO (idx (List.set x31 (Int.toNat x.2.2.1) (x32.1, x32.2.1, x32.2.2.1, ((IntKind.wrap .i64 ((IntKind.wrap .i64 ((IntKind.wrap .i64 ((IntKind.wrap .i64 ((IntKind.wrap .i64 ((IntKind.wrap .i64 ((IntKind.wrap .i64 ((IntKind.wrap .i64 ((IntKind.wrap .i64 ((IntKind.wrap .i64 (x.2.1 + 1)) + 1)) + 1)) + 1)) + 1)) + 1)) + 1)) + 1)) + 1)) + 1), x32.2.2.2.1.1.2), x32.2.2.2.1.2), x32.2.2.2.2)) x.2.2.1) fun x33 =>
    bindO (some (List.set x31 (Int.toNat x.2.2.1) (x32.1, x32.2.1, x32.2.2.1, ((IntKind.wrap .i64 ((IntKind.wrap .i64 ((IntKind.wrap .i64 ((IntKind.wrap .i64 ((IntKind.wrap .i64 ((IntKind.wrap .i64 ((IntKind.wrap .i64 ((IntKind.wrap .i64 ((IntKind.wrap .i64 ((IntKind.wrap .i64 (x.2.1 + 1)) + 1)) + 1)) + 1)) + 1)) + 1)) + 1)) + 1)) + 1)) + 1), x32.2.2.2.1.1.2), x32.2.2.2.1.2), x32.2.2.2.2))) fun x34 =>
    bindO (idx x34 x.2.2.1) fun x35 =>
    bindO (idx (List.set x34 (Int.toNat x.2.2.1) (x35.1, x35.2.1, x35.2.2.1, ((x35.2.2.2.1.1.1, IntKind.wrap .i64 ((IntKind.wrap .i64 ((IntKind.wrap .i64 ((IntKind.wrap .i64 ((IntKind.wrap .i64 ((IntKind.wrap .i64 ((IntKind.wrap .i64 ((IntKind.wrap .i64 ((IntKind.wrap .i64 ((IntKind.wrap .i64 ((IntKind.wrap .i64 (x.2.1 + 1)) + 1)) + 1)) + 1)) + 1)) + 1)) + 1)) + 1)) + 1)) + 1)) + 1), x35.2.2.2.1.1.2.2), x35.2.2.2.1.2), x35.2.2.2.2)) x.2.2.1) fun x36 =>
    bindO (some (List.set x34 (Int.toNat x.2.2.1) (x35.1, x35.2.1, x35.2.2.1, ((x35.2.2.2.1.1.1, IntKind.wrap .i64 ((IntKind.wrap .i64 ((IntKind.wrap .i64 ((IntKind.wrap .i64 ((IntKind.wrap .i64 ((IntKind.wrap .i64 ((IntKind.wrap .i64 ((IntKind.wrap .i64 ((IntKind.wrap .i64 ((IntKind.wrap .i64 ((IntKind.wrap .i64 (x.2.1 + 1)) + 1)) + 1)) + 1)) + 1)) + 1)) + 1)) + 1)) + 1)) + 1)) + 1), x35.2.2.2.1.1.2.2), x35.2.2.2.1.2), x35.2.2.2.2))) fun x37 =>
    bindO (idx x37 x.2.2.1) fun x38 =>
    bindO (idx (List.set x37 (Int.toNat x.2.2.1) (x38.1, x38.2.1, x38.2.2.1, ((x38.2.2.2.1.1.1, x38.2.2.2.1.1.2.1, IntKind.wrap .i64 ((IntKind.wrap .i64 ((IntKind.wrap .i64 ((IntKind.wrap .i64 ((IntKind.wrap .i64 ((IntKind.wrap .i64 ((IntKind.wrap .i64 ((IntKind.wrap .i64 ((IntKind.wrap .i64 ((IntKind.wrap .i64 ((IntKind.wrap .i64 ((IntKind.wrap .i64 (x.2.1 + 1)) + 1)) + 1)) + 1)) + 1)) + 1)) + 1)) + 1)) + 1)) + 1)) + 1)) + 1), x38.2.2.2.1.1.2.2.2), x38.2.2.2.1.2), x38.2.2.2.2)) x.2.2.1) fun x39 =>
    bindO (some (List.set x37 (Int.toNat x.2.2.1) (x38.1, x38.2.1, x38.2.2.1, ((x38.2.2.2.1.1.1, x38.2.2.2.1.1.2.1, IntKind.wrap .i64 ((IntKind.wrap .i64 ((IntKind.wrap .i64 ((IntKind.wrap .i64 ((IntKind.wrap .i64 ((IntKind.wrap .i64 ((IntKind.wrap .i64 ((IntKind.wrap .i64 ((IntKind.wrap .i64 ((IntKind.wrap .i64 ((IntKind.wrap .i64 ((IntKind.wrap .i64 (x.2.1 + 1)) + 1)) + 1)) + 1)) + 1)) + 1)) + 1)) + 1)) + 1)) + 1)) + 1)) + 1), x38.2.2.2.1.1.2.2.2), x38.2.2.2.1.2), x38.2.2.2.2))) fun x40 =>
    bindO (idx x40 x.2.2.1) fun x41 =>
    bindO (idx (List.set x40 (Int.toNat x.2.2.1) (x41.1, x41.2.1, x41.2.2.1, ((x41.2.2.2.1.1.1, x41.2.2.2.1.1.2.1, x41.2.2.2.1.1.2.2.1, IntKind.wrap .i64 ((IntKind.wrap .i64 ((IntKind.wrap .i64 ((IntKind.wrap .i64 ((IntKind.wrap .i64 ((IntKind.wrap .i64 ((IntKind.wrap .i64 ((IntKind.wrap .i64 ((IntKind.wrap .i64 ((IntKind.wrap .i64 ((IntKind.wrap .i64 ((IntKind.wrap .i64 ((IntKind.wrap .i64 (x.2.1 + 1)) + 1)) + 1)) + 1)) + 1)) + 1)) + 1)) + 1)) + 1)) + 1)) + 1)) + 1)) + 1), x41.2.2.2.1.1.2.2.2.2), x41.2.2.2.1.2), x41.2.2.2.2)) x.2.2.1) fun x42 =>
    bindO (some (List.set x40 (Int.toNat x.2.2.1) (x41.1, x41.2.1, x41.2.2.1, ((x41.2.2.2.1.1.1, x41.2.2.2.1.1.2.1, x41.2.2.2.1.1.2.2.1, IntKind.wrap .i64 ((IntKind.wrap .i64 ((IntKind.wrap .i64 ((IntKind.wrap .i64 ((IntKind.wrap .i64 ((IntKind.wrap .i64 ((IntKind.wrap .i64 ((IntKind.wrap .i64 ((IntKind.wrap .i64 ((IntKind.wrap .i64 ((IntKind.wrap .i64 ((IntKind.wrap .i64 ((IntKind.wrap .i64 (x.2.1 + 1)) + 1)) + 1)) + 1)) + 1)) + 1)) + 1)) + 1)) + 1)) + 1)) + 1)) + 1)) + 1), x41.2.2.2.1.1.2.2.2.2), x41.2.2.2.1.2), x41.2.2.2.2))) fun x43 =>
    bindO (idx x43 x.2.2.1) fun x44 =>
    bindO (idx (List.set x43 (Int.toNat x.2.2.1) (x44.1, x44.2.1, x44.2.2.1, ((x44.2.2.2.1.1.1, x44.2.2.2.1.1.2.1, x44.2.2.2.1.1.2.2.1, x44.2.2.2.1.1.2.2.2.1, IntKind.wrap .i64 ((IntKind.wrap .i64 ((IntKind.wrap .i64 ((IntKind.wrap .i64 ((IntKind.wrap .i64 ((IntKind.wrap .i64 ((IntKind.wrap .i64 ((IntKind.wrap .i64 ((IntKind.wrap .i64 ((IntKind.wrap .i64 ((IntKind.wrap .i64 ((IntKind.wrap .i64 ((IntKind.wrap .i64 ((IntKind.wrap .i64 (x.2.1 + 1)) + 1)) + 1)) + 1)) + 1)) + 1)) + 1)) + 1)) + 1)) + 1)) + 1)) + 1)) + 1)) + 1), x44.2.2.2.1.1.2.2.2.2.2), x44.2.2.2.1.2), x44.2.2.2.2)) x.2.2.1) fun x45 =>
    bindO (some (List.set x43 (Int.toNat x.2.2.1) (x44.1, x44.2.1, x44.2.2.1, ((x44.2.2.2.1.1.1, x44.2.2.2.1.1.2.1, x44.2.2.2.1.1.2.2.1, x44.2.2.2.1.1.2.2.2.1, IntKind.wrap .i64 ((IntKind.wrap .i64 ((IntKind.wrap .i64 ((IntKind.wrap .i64 ((IntKind.wrap .i64 ((IntKind.wrap .i64 ((IntKind.wrap .i64 ((IntKind.wrap .i64 ((IntKind.wrap .i64 ((IntKind.wrap .i64 ((IntKind.wrap .i64 ((IntKind.wrap .i64 ((IntKind.wrap .i64 ((IntKind.wrap .i64 (x.2.1 + 1)) + 1)) + 1)) + 1)) + 1)) + 1)) + 1)) + 1)) + 1)) + 1)) + 1)) + 1)) + 1)) + 1), x44.2.2.2.1.1.2.2.2.2.2), x44.2.2.2.1.2), x44.2.2.2.2))) fun x46 =>
    bindO (idx x46 x.2.2.1) fun x47 =>
    bindO (idx (List.set x46 (Int.toNat x.2.2.1) (x47.1, x47.2.1, x47.2.2.1, ((x47.2.2.2.1.1.1, x47.2.2.2.1.1.2.1, x47.2.2.2.1.1.2.2.1, x47.2.2.2.1.1.2.2.2.1, x47.2.2.2.1.1.2.2.2.2.1, IntKind.wrap .i64 ((IntKind.wrap .i64 ((IntKind.wrap .i64 ((IntKind.wrap .i64 ((IntKind.wrap .i64 ((IntKind.wrap .i64 ((IntKind.wrap .i64 ((IntKind.wrap .i64 ((IntKind.wrap .i64 ((IntKind.wrap .i64 ((IntKind.wrap .i64 ((IntKind.wrap .i64 ((IntKind.wrap .i64 ((IntKind.wrap .i64 ((IntKind.wrap .i64 (x.2.1 + 1)) + 1)) + 1)) + 1)) + 1)) + 1)) + 1)) + 1)) + 1)) + 1)) + 1)) + 1)) + 1)) + 1)) + 1), x47.2.2.2.1.1.2.2.2.2.2.2), x47.2.2.2.1.2), x47.2.2.2.2)) x.2.2.1) fun x48 =>
    bindO (some (List.set x46 (Int.toNat x.2.2.1) (x47.1, x47.2.1, x47.2.2.1, ((x47.2.2.2.1.1.1, x47.2.2.2.1.1.2.1, x47.2.2.2.1.1.2.2.1, x47.2.2.2.1.1.2.2.2.1, x47.2.2.2.1.1.2.2.2.2.1, IntKind.wrap .i64 ((IntKind.wrap .i64 ((IntKind.wrap .i64 ((IntKind.wrap .i64 ((IntKind.wrap .i64 ((IntKind.wrap .i64 ((IntKind.wrap .i64 ((IntKind.wrap .i64 ((IntKind.wrap .i64 ((IntKind.wrap .i64 ((IntKind.wrap .i64 ((IntKind.wrap .i64 ((IntKind.wrap .i64 ((IntKind.wrap .i64 ((IntKind.wrap .i64 (x.2.1 + 1)) + 1)) + 1)) + 1)) + 1)) + 1)) + 1)) + 1)) + 1)) + 1)) + 1)) + 1)) + 1)) + 1)) + 1), x47.2.2.2.1.1.2.2.2.2.2.2), x47.2.2.2.1.2), x47.2.2.2.2))) fun x49 =>
    bindO (idx x49 x.2.2.1) fun x50 =>
    bindO (idx (List.set x49 (Int.toNat x.2.2.1) (x50.1, x50.2.1, x50.2.2.1, ((x50.2.2.2.1.1.1, x50.2.2.2.1.1.2.1, x50.2.2.2.1.1.2.2.1, x50.2.2.2.1.1.2.2.2.1, x50.2.2.2.1.1.2.2.2.2.1, x50.2.2.2.1.1.2.2.2.2.2.1, IntKind.wrap .i64 ((IntKind.wrap .i64 ((IntKind.wrap .i64 ((IntKind.wrap .i64 ((IntKind.wrap .i64 ((IntKind.wrap .i64 ((IntKind.wrap .i64 ((IntKind.wrap .i64 ((IntKind.wrap .i64 ((IntKind.wrap .i64 ((IntKind.wrap .i64 ((IntKind.wrap .i64 ((IntKind.wrap .i64 ((IntKind.wrap .i64 ((IntKind.wrap .i64 ((IntKind.wrap .i64 (x.2.1 + 1)) + 1)) + 1)) + 1)) + 1)) + 1)) + 1)) + 1)) + 1)) + 1)) + 1)) + 1)) + 1)) + 1)) + 1)) + 1), x50.2.2.2.1.1.2.2.2.2.2.2.2), x50.2.2.2.1.2), x50.2.2.2.2)) x.2.2.1) fun x51 =>
    bindO (some (List.set x49 (Int.toNat x.2.2.1) (x50.1, x50.2.1, x50.2.2.1, ((x50.2.2.2.1.1.1, x50.2.2.2.1.1.2.1, x50.2.2.2.1.1.2.2.1, x50.2.2.2.1.1.2.2.2.1, x50.2.2.2.1.1.2.2.2.2.1, x50.2.2.2.1.1.2.2.2.2.2.1, IntKind.wrap .i64 ((IntKind.wrap .i64 ((IntKind.wrap .i64 ((IntKind.wrap .i64 ((IntKind.wrap .i64 ((IntKind.wrap .i64 ((IntKind.wrap .i64 ((IntKind.wrap .i64 ((IntKind.wrap .i64 ((IntKind.wrap .i64 ((IntKind.wrap .i64 ((IntKind.wrap .i64 ((IntKind.wrap .i64 ((IntKind.wrap .i64 ((IntKind.wrap .i64 ((IntKind.wrap .i64 (x.2.1 + 1)) + 1)) + 1)) + 1)) + 1)) + 1)) + 1)) + 1)) + 1)) + 1)) + 1)) + 1)) + 1)) + 1)) + 1)) + 1), x50.2.2.2.1.1.2.2.2.2.2.2.2), x50.2.2.2.1.2), x50.2.2.2.2))) fun x52 =>
    bindO (idx x52 x.2.2.1) fun x53 =>
    bindO (idx (List.set x52 (Int.toNat x.2.2.1) (x53.1, x53.2.1, x53.2.2.1, ((x53.2.2.2.1.1.1, x53.2.2.2.1.1.2.1, x53.2.2.2.1.1.2.2.1, x53.2.2.2.1.1.2.2.2.1, x53.2.2.2.1.1.2.2.2.2.1, x53.2.2.2.1.1.2.2.2.2.2.1, x53.2.2.2.1.1.2.2.2.2.2.2.1, IntKind.wrap .i64 ((IntKind.wrap .i64 ((IntKind.wrap .i64 ((IntKind.wrap .i64 ((IntKind.wrap .i64 ((IntKind.wrap .i64 ((IntKind.wrap .i64 ((IntKind.wrap .i64 ((IntKind.wrap .i64 ((IntKind.wrap .i64 ((IntKind.wrap .i64 ((IntKind.wrap .i64 ((IntKind.wrap .i64 ((IntKind.wrap .i64 ((IntKind.wrap .i64 ((IntKind.wrap .i64 ((IntKind.wrap .i64 (x.2.1 + 1)) + 1)) + 1)) + 1)) + 1)) + 1)) + 1)) + 1)) + 1)) + 1)) + 1)) + 1)) + 1)) + 1)) + 1)) + 1)) + 1), x53.2.2.2.1.1.2.2.2.2.2.2.2.2), x53.2.2.2.1.2), x53.2.2.2.2)) x.2.2.1) fun x54 =>
    bindO (some (List.set x52 (Int.toNat x.2.2.1) (x53.1, x53.2.1, x53.2.2.1, ((x53.2.2.2.1.1.1, x53.2.2.2.1.1.2.1, x53.2.2.2.1.1.2.2.1, x53.2.2.2.1.1.2.2.2.1, x53.2.2.2.1.1.2.2.2.2.1, x53.2.2.2.1.1.2.2.2.2.2.1, x53.2.2.2.1.1.2.2.2.2.2.2.1, IntKind.wrap .i64 ((IntKind.wrap .i64 ((IntKind.wrap .i64 ((IntKind.wrap .i64 ((IntKind.wrap .i64 ((IntKind.wrap .i64 ((IntKind.wrap .i64 ((IntKind.wrap .i64 ((IntKind.wrap .i64 ((IntKind.wrap .i64 ((IntKind.wrap .i64 ((IntKind.wrap .i64 ((IntKind.wrap .i64 ((IntKind.wrap .i64 ((IntKind.wrap .i64 ((IntKind.wrap .i64 ((IntKind.wrap .i64 (x.2.1 + 1)) + 1)) + 1)) + 1)) + 1)) + 1)) + 1)) + 1)) + 1)) + 1)) + 1)) + 1)) + 1)) + 1)) + 1)) + 1)) + 1), x53.2.2.2.1.1.2.2.2.2.2.2.2.2), x53.2.2.2.1.2), x53.2.2.2.2))) fun x55 =>
    bindO (idx x55 x.2.2.1) fun x56 =>
    bindO (idx (List.set x55 (Int.toNat x.2.2.1) (x56.1, x56.2.1, x56.2.2.1, ((x56.2.2.2.1.1.1, x56.2.2.2.1.1.2.1, x56.2.2.2.1.1.2.2.1, x56.2.2.2.1.1.2.2.2.1, x56.2.2.2.1.1.2.2.2.2.1, x56.2.2.2.1.1.2.2.2.2.2.1, x56.2.2.2.1.1.2.2.2.2.2.2.1, x56.2.2.2.1.1.2.2.2.2.2.2.2.1, IntKind.wrap .i64 ((IntKind.wrap .i64 ((IntKind.wrap .i64 ((IntKind.wrap .i64 ((IntKind.wrap .i64 ((IntKind.wrap .i64 ((IntKind.wrap .i64 ((IntKind.wrap .i64 ((IntKind.wrap .i64 ((IntKind.wrap .i64 ((IntKind.wrap .i64 ((IntKind.wrap .i64 ((IntKind.wrap .i64 ((IntKind.wrap .i64 ((IntKind.wrap .i64 ((IntKind.wrap .i64 ((IntKind.wrap .i64 ((IntKind.wrap .i64 (x.2.1 + 1)) + 1)) + 1)) + 1)) + 1)) + 1)) + 1)) + 1)) + 1)) + 1)) + 1)) + 1)) + 1)) + 1)) + 1)) + 1)) + 1)) + 1), x56.2.2.2.1.1.2.2.2.2.2.2.2.2.2), x56.2.2.2.1.2), x56.2.2.2.2)) x.2.2.1) fun x57 =>
    bindO (some (List.set x55 (Int.toNat x.2.2.1) (x56.1, x56.2.1, x56.2.2.1, ((x56.2.2.2.1.1.1, x56.2.2.2.1.1.2.1, x56.2.2.2.1.1.2.2.1, x56.2.2.2.1.1.2.2.2.1, x56.2.2.2.1.1.2.2.2.2.1, x56.2.2.2.1.1.2.2.2.2.2.1, x56.2.2.2.1.1.2.2.2.2.2.2.1, x56.2.2.2.1.1.2.2.2.2.2.2.2.1, IntKind.wrap .i64 ((IntKind.wrap .i64 ((IntKind.wrap .i64 ((IntKind.wrap .i64 ((IntKind.wrap .i64 ((IntKind.wrap .i64 ((IntKind.wrap .i64 ((IntKind.wrap .i64 ((IntKind.wrap .i64 ((IntKind.wrap .i64 ((IntKind.wrap .i64 ((IntKind.wrap .i64 ((IntKind.wrap .i64 ((IntKind.wrap .i64 ((IntKind.wrap .i64 ((IntKind.wrap .i64 ((IntKind.wrap .i64 ((IntKind.wrap .i64 (x.2.1 + 1)) + 1)) + 1)) + 1)) + 1)) + 1)) + 1)) + 1)) + 1)) + 1)) + 1)) + 1)) + 1)) + 1)) + 1)) + 1)) + 1)) + 1), x56.2.2.2.1.1.2.2.2.2.2.2.2.2.2), x56.2.2.2.1.2), x56.2.2.2.2))) fun x58 =>
    bindO (idx x58 x.2.2.1) fun x59 =>
    bindO (idx (List.set x58 (Int.toNat x.2.2.1) (x59.1, x59.2.1, x59.2.2.1, ((x59.2.2.2.1.1.1, x59.2.2.2.1.1.2.1, x59.2.2.2.1.1.2.2.1, x59.2.2.2.1.1.2.2.2.1, x59.2.2.2.1.1.2.2.2.2.1, x59.2.2.2.1.1.2.2.2.2.2.1, x59.2.2.2.1.1.2.2.2.2.2.2.1, x59.2.2.2.1.1.2.2.2.2.2.2.2.1, x59.2.2.2.1.1.2.2.2.2.2.2.2.2.1, IntKind.wrap .i64 ((IntKind.wrap .i64 ((IntKind.wrap .i64 ((IntKind.wrap .i64 ((IntKind.wrap .i64 ((IntKind.wrap .i64 ((IntKind.wrap .i64 ((IntKind.wrap .i64 ((IntKind.wrap .i64 ((IntKind.wrap .i64 ((IntKind.wrap .i64 ((IntKind.wrap .i64 ((IntKind.wrap .i64 ((IntKind.wrap .i64 ((IntKind.wrap .i64 ((IntKind.wrap .i64 ((IntKind.wrap .i64 ((IntKind.wrap .i64 ((IntKind.wrap .i64 (x.2.1 + 1)) + 1)) + 1)) + 1)) + 1)) + 1)) + 1)) + 1)) + 1)) + 1)) + 1)) + 1)) + 1)) + 1)) + 1)) + 1)) + 1)) + 1)) + 1), x59.2.2.2.1.1.2.2.2.2.2.2.2.2.2.2), x59.2.2.2.1.2), x59.2.2.2.2)) x.2.2.1) fun x60 =>
    bindO (some (List.set x58 (Int.toNat x.2.2.1) (x59.1, x59.2.1, x59.2.2.1, ((x59.2.2.2.1.1.1, x59.2.2.2.1.1.2.1, x59.2.2.2.1.1.2.2.1, x59.2.2.2.1.1.2.2.2.1, x59.2.2.2.1.1.2.2.2.2.1, x59.2.2.2.1.1.2.2.2.2.2.1, x59.2.2.2.1.1.2.2.2.2.2.2.1, x59.2.2.2.1.1.2.2.2.2.2.2.2.1, x59.2.2.2.1.1.2.2.2.2.2.2.2.2.1, IntKind.wrap .i64 ((IntKind.wrap .i64 ((IntKind.wrap .i64 ((IntKind.wrap .i64 ((IntKind.wrap .i64 ((IntKind.wrap .i64 ((IntKind.wrap .i64 ((IntKind.wrap .i64 ((IntKind.wrap .i64 ((IntKind.wrap .i64 ((IntKind.wrap .i64 ((IntKind.wrap .i64 ((IntKind.wrap .i64 ((IntKind.wrap .i64 ((IntKind.wrap .i64 ((IntKind.wrap .i64 ((IntKind.wrap .i64 ((IntKind.wrap .i64 ((IntKind.wrap .i64 (x.2.1 + 1)) + 1)) + 1)) + 1)) + 1)) + 1)) + 1)) + 1)) + 1)) + 1)) + 1)) + 1)) + 1)) + 1)) + 1)) + 1)) + 1)) + 1)) + 1), x59.2.2.2.1.1.2.2.2.2.2.2.2.2.2.2), x59.2.2.2.1.2), x59.2.2.2.2))) fun x61 =>
    bindO (idx x61 x.2.2.1) fun x62 =>
    bindO (idx (List.set x61 (Int.toNat x.2.2.1) (x62.1, x62.2.1, x62.2.2.1, ((x62.2.2.2.1.1.1, x62.2.2.2.1.1.2.1, x62.2.2.2.1.1.2.2.1, x62.2.2.2.1.1.2.2.2.1, x62.2.2.2.1.1.2.2.2.2.1, x62.2.2.2.1.1.2.2.2.2.2.1, x62.2.2.2.1.1.2.2.2.2.2.2.1, x62.2.2.2.1.1.2.2.2.2.2.2.2.1, x62.2.2.2.1.1.2.2.2.2.2.2.2.2.1, x62.2.2.2.1.1.2.2.2.2.2.2.2.2.2.1, IntKind.wrap .i64 ((IntKind.wrap .i64 ((IntKind.wrap .i64 ((IntKind.wrap .i64 ((IntKind.wrap .i64 ((IntKind.wrap .i64 ((IntKind.wrap .i64 ((IntKind.wrap .i64 ((IntKind.wrap .i64 ((IntKind.wrap .i64 ((IntKind.wrap .i64 ((IntKind.wrap .i64 ((IntKind.wrap .i64 ((IntKind.wrap .i64 ((IntKind.wrap .i64 ((IntKind.wrap .i64 ((IntKind.wrap .i64 ((IntKind.wrap .i64 ((IntKind.wrap .i64 ((IntKind.wrap .i64 (x.2.1 + 1)) + 1)) + 1)) + 1)) + 1)) + 1)) + 1)) + 1)) + 1)) + 1)) + 1)) + 1)) + 1)) + 1)) + 1)) + 1)) + 1)) + 1)) + 1)) + 1), x62.2.2.2.1.1.2.2.2.2.2.2.2.2.2.2.2), x62.2.2.2.1.2), x62.2.2.2.2)) x.2.2.1) fun x63 =>
    bindO (some (List.set x61 (Int.toNat x.2.2.1) (x62.1, x62.2.1, x62.2.2.1, ((x62.2.2.2.1.1.1, x62.2.2.2.1.1.2.1, x62.2.2.2.1.1.2.2.1, x62.2.2.2.1.1.2.2.2.1, x62.2.2.2.1.1.2.2.2.2.1, x62.2.2.2.1.1.2.2.2.2.2.1, x62.2.2.2.1.1.2.2.2.2.2.2.1, x62.2.2.2.1.1.2.2.2.2.2.2.2.1, x62.2.2.2.1.1.2.2.2.2.2.2.2.2.1, x62.2.2.2.1.1.2.2.2.2.2.2.2.2.2.1, IntKind.wrap .i64 ((IntKind.wrap .i64 ((IntKind.wrap .i64 ((IntKind.wrap .i64 ((IntKind.wrap .i64 ((IntKind.wrap .i64 ((IntKind.wrap .i64 ((IntKind.wrap .i64 ((IntKind.wrap .i64 ((IntKind.wrap .i64 ((IntKind.wrap .i64 ((IntKind.wrap .i64 ((IntKind.wrap .i64 ((IntKind.wrap .i64 ((IntKind.wrap .i64 ((IntKind.wrap .i64 ((IntKind.wrap .i64 ((IntKind.wrap .i64 ((IntKind.wrap .i64 ((IntKind.wrap .i64 (x.2.1 + 1)) + 1)) + 1)) + 1)) + 1)) + 1)) + 1)) + 1)) + 1)) + 1)) + 1)) + 1)) + 1)) + 1)) + 1)) + 1)) + 1)) + 1)) + 1)) + 1), x62.2.2.2.1.1.2.2.2.2.2.2.2.2.2.2.2), x62.2.2.2.1.2), x62.2.2.2.2))) fun x64 =>
    bindO (idx x64 x.2.2.1) fun x65 =>
    bindO (idx (List.set x64 (Int.toNat x.2.2.1) (x65.1, x65.2.1, x65.2.2.1, ((x65.2.2.2.1.1.1, x65.2.2.2.1.1.2.1, x65.2.2.2.1.1.2.2.1, x65.2.2.2.1.1.2.2.2.1, x65.2.2.2.1.1.2.2.2.2.1, x65.2.2.2.1.1.2.2.2.2.2.1, x65.2.2.2.1.1.2.2.2.2.2.2.1, x65.2.2.2.1.1.2.2.2.2.2.2.2.1, x65.2.2.2.1.1.2.2.2.2.2.2.2.2.1, x65.2.2.2.1.1.2.2.2.2.2.2.2.2.2.1, x65.2.2.2.1.1.2.2.2.2.2.2.2.2.2.2.1, IntKind.wrap .i64 ((IntKind.wrap .i64 ((IntKind.wrap .i64 ((IntKind.wrap .i64 ((IntKind.wrap .i64 ((IntKind.wrap .i64 ((IntKind.wrap .i64 ((IntKind.wrap .i64 ((IntKind.wrap .i64 ((IntKind.wrap .i64 ((IntKind.wrap .i64 ((IntKind.wrap .i64 ((IntKind.wrap .i64 ((IntKind.wrap .i64 ((IntKind.wrap .i64 ((IntKind.wrap .i64 ((IntKind.wrap .i64 ((IntKind.wrap .i64 ((IntKind.wrap .i64 ((IntKind.wrap .i64 ((IntKind.wrap .i64 (x.2.1 + 1)) + 1)) + 1)) + 1)) + 1)) + 1)) + 1)) + 1)) + 1)) + 1)) + 1)) + 1)) + 1)) + 1)) + 1)) + 1)) + 1)) + 1)) + 1)) + 1)) + 1), x65.2.2.2.1.1.2.2.2.2.2.2.2.2.2.2.2.2), x65.2.2.2.1.2), x65.2.2.2.2)) x.2.2.1) fun x66 =>
    bindO (some (List.set x64 (Int.toNat x.2.2.1) (x65.1, x65.2.1, x65.2.2.1, ((x65.2.2.2.1.1.1, x65.2.2.2.1.1.2.1, x65.2.2.2.1.1.2.2.1, x65.2.2.2.1.1.2.2.2.1, x65.2.2.2.1.1.2.2.2.2.1, x65.2.2.2.1.1.2.2.2.2.2.1, x65.2.2.2.1.1.2.2.2.2.2.2.1, x65.2.2.2.1.1.2.2.2.2.2.2.2.1, x65.2.2.2.1.1.2.2.2.2.2.2.2.2.1, x65.2.2.2.1.1.2.2.2.2.2.2.2.2.2.1, x65.2.2.2.1.1.2.2.2.2.2.2.2.2.2.2.1, IntKind.wrap .i64 ((IntKind.wrap .i64 ((IntKind.wrap .i64 ((IntKind.wrap .i64 ((IntKind.wrap .i64 ((IntKind.wrap .i64 ((IntKind.wrap .i64 ((IntKind.wrap .i64 ((IntKind.wrap .i64 ((IntKind.wrap .i64 ((IntKind.wrap .i64 ((IntKind.wrap .i64 ((IntKind.wrap .i64 ((IntKind.wrap .i64 ((IntKind.wrap .i64 ((IntKind.wrap .i64 ((IntKind.wrap .i64 ((IntKind.wrap .i64 ((IntKind.wrap .i64 ((IntKind.wrap .i64 ((IntKind.wrap .i64 (x.2.1 + 1)) + 1)) + 1)) + 1)) + 1)) + 1)) + 1)) + 1)) + 1)) + 1)) + 1)) + 1)) + 1)) + 1)) + 1)) + 1)) + 1)) + 1)) + 1)) + 1)) + 1), x65.2.2.2.1.1.2.2.2.2.2.2.2.2.2.2.2.2), x65.2.2.2.1.2), x65.2.2.2.2))) fun x67 =>
    bindO (idx x67 x.2.2.1) fun x68 =>
    bindO (idx (List.set x67 (Int.toNat x.2.2.1) (x68.1, x68.2.1, x68.2.2.1, ((x68.2.2.2.1.1.1, x68.2.2.2.1.1.2.1, x68.2.2.2.1.1.2.2.1, x68.2.2.2.1.1.2.2.2.1, x68.2.2.2.1.1.2.2.2.2.1, x68.2.2.2.1.1.2.2.2.2.2.1, x68.2.2.2.1.1.2.2.2.2.2.2.1, x68.2.2.2.1.1.2.2.2.2.2.2.2.1, x68.2.2.2.1.1.2.2.2.2.2.2.2.2.1, x68.2.2.2.1.1.2.2.2.2.2.2.2.2.2.1, x68.2.2.2.1.1.2.2.2.2.2.2.2.2.2.2.1, x68.2.2.2.1.1.2.2.2.2.2.2.2.2.2.2.2.1, IntKind.wrap .i64 ((IntKind.wrap .i64 ((IntKind.wrap .i64 ((IntKind.wrap .i64 ((IntKind.wrap .i64 ((IntKind.wrap .i64 ((IntKind.wrap .i64 ((IntKind.wrap .i64 ((IntKind.wrap .i64 ((IntKind.wrap .i64 ((IntKind.wrap .i64 ((IntKind.wrap .i64 ((IntKind.wrap .i64 ((IntKind.wrap .i64 ((IntKind.wrap .i64 ((IntKind.wrap .i64 ((IntKind.wrap .i64 ((IntKind.wrap .i64 ((IntKind.wrap .i64 ((IntKind.wrap .i64 ((IntKind.wrap .i64 ((IntKind.wrap .i64 (x.2.1 + 1)) + 1)) + 1)) + 1)) + 1)) + 1)) + 1)) + 1)) + 1)) + 1)) + 1)) + 1)) + 1)) + 1)) + 1)) + 1)) + 1)) + 1)) + 1)) + 1)) + 1)) + 1), x68.2.2.2.1.1.2.2.2.2.2.2.2.2.2.2.2.2.2), x68.2.2.2.1.2), x68.2.2.2.2)) x.2.2.1) fun x69 =>
    bindO (some (List.set x67 (Int.toNat x.2.2.1) (x68.1, x68.2.1, x68.2.2.1, ((x68.2.2.2.1.1.1, x68.2.2.2.1.1.2.1, x68.2.2.2.1.1.2.2.1, x68.2.2.2.1.1.2.2.2.1, x68.2.2.2.1.1.2.2.2.2.1, x68.2.2.2.1.1.2.2.2.2.2.1, x68.2.2.2.1.1.2.2.2.2.2.2.1, x68.2.2.2.1.1.2.2.2.2.2.2.2.1, x68.2.2.2.1.1.2.2.2.2.2.2.2.2.1, x68.2.2.2.1.1.2.2.2.2.2.2.2.2.2.1, x68.2.2.2.1.1.2.2.2.2.2.2.2.2.2.2.1, x68.2.2.2.1.1.2.2.2.2.2.2.2.2.2.2.2.1, IntKind.wrap .i64 ((IntKind.wrap .i64 ((IntKind.wrap .i64 ((IntKind.wrap .i64 ((IntKind.wrap .i64 ((IntKind.wrap .i64 ((IntKind.wrap .i64 ((IntKind.wrap .i64 ((IntKind.wrap .i64 ((IntKind.wrap .i64 ((IntKind.wrap .i64 ((IntKind.wrap .i64 ((IntKind.wrap .i64 ((IntKind.wrap .i64 ((IntKind.wrap .i64 ((IntKind.wrap .i64 ((IntKind.wrap .i64 ((IntKind.wrap .i64 ((IntKind.wrap .i64 ((IntKind.wrap .i64 ((IntKind.wrap .i64 ((IntKind.wrap .i64 (x.2.1 + 1)) + 1)) + 1)) + 1)) + 1)) + 1)) + 1)) + 1)) + 1)) + 1)) + 1)) + 1)) + 1)) + 1)) + 1)) + 1)) + 1)) + 1)) + 1)) + 1)) + 1)) + 1), x68.2.2.2.1.1.2.2.2.2.2.2.2.2.2.2.2.2.2), x68.2.2.2.1.2), x68.2.2.2.2))) fun x70 =>
    bindO (idx x70 x.2.2.1) fun x71 =>
    bindO (idx (List.set x70 (Int.toNat x.2.2.1) (x71.1, x71.2.1, x71.2.2.1, ((x71.2.2.2.1.1.1, x71.2.2.2.1.1.2.1, x71.2.2.2.1.1.2.2.1, x71.2.2.2.1.1.2.2.2.1, x71.2.2.2.1.1.2.2.2.2.1, x71.2.2.2.1.1.2.2.2.2.2.1, x71.2.2.2.1.1.2.2.2.2.2.2.1, x71.2.2.2.1.1.2.2.2.2.2.2.2.1, x71.2.2.2.1.1.2.2.2.2.2.2.2.2.1, x71.2.2.2.1.1.2.2.2.2.2.2.2.2.2.1, x71.2.2.2.1.1.2.2.2.2.2.2.2.2.2.2.1, x71.2.2.2.1.1.2.2.2.2.2.2.2.2.2.2.2.1, x71.2.2.2.1.1.2.2.2.2.2.2.2.2.2.2.2.2.1, IntKind.wrap .i64 ((IntKind.wrap .i64 ((IntKind.wrap .i64 ((IntKind.wrap .i64 ((IntKind.wrap .i64 ((IntKind.wrap .i64 ((IntKind.wrap .i64 ((IntKind.wrap .i64 ((IntKind.wrap .i64 ((IntKind.wrap .i64 ((IntKind.wrap .i64 ((IntKind.wrap .i64 ((IntKind.wrap .i64 ((IntKind.wrap .i64 ((IntKind.wrap .i64 ((IntKind.wrap .i64 ((IntKind.wrap .i64 ((IntKind.wrap .i64 ((IntKind.wrap .i64 ((IntKind.wrap .i64 ((IntKind.wrap .i64 ((IntKind.wrap .i64 ((IntKind.wrap .i64 (x.2.1 + 1)) + 1)) + 1)) + 1)) + 1)) + 1)) + 1)) + 1)) + 1)) + 1)) + 1)) + 1)) + 1)) + 1)) + 1)) + 1)) + 1)) + 1)) + 1)) + 1)) + 1)) + 1)) + 1), x71.2.2.2.1.1.2.2.2.2.2.2.2.2.2.2.2.2.2.2), x71.2.2.2.1.2), x71.2.2.2.2)) x.2.2.1) fun x72 =>
    bindO (some (List.set x70 (Int.toNat x.2.2.1) (x71.1, x71.2.1, x71.2.2.1, ((x71.2.2.2.1.1.1, x71.2.2.2.1.1.2.1, x71.2.2.2.1.1.2.2.1, x71.2.2.2.1.1.2.2.2.1, x71.2.2.2.1.1.2.2.2.2.1, x71.2.2.2.1.1.2.2.2.2.2.1, x71.2.2.2.1.1.2.2.2.2.2.2.1, x71.2.2.2.1.1.2.2.2.2.2.2.2.1, x71.2.2.2.1.1.2.2.2.2.2.2.2.2.1, x71.2.2.2.1.1.2.2.2.2.2.2.2.2.2.1, x71.2.2.2.1.1.2.2.2.2.2.2.2.2.2.2.1, x71.2.2.2.1.1.2.2.2.2.2.2.2.2.2.2.2.1, x71.2.2.2.1.1.2.2.2.2.2.2.2.2.2.2.2.2.1, IntKind.wrap .i64 ((IntKind.wrap .i64 ((IntKind.wrap .i64 ((IntKind.wrap .i64 ((IntKind.wrap .i64 ((IntKind.wrap .i64 ((IntKind.wrap .i64 ((IntKind.wrap .i64 ((IntKind.wrap .i64 ((IntKind.wrap .i64 ((IntKind.wrap .i64 ((IntKind.wrap .i64 ((IntKind.wrap .i64 ((IntKind.wrap .i64 ((IntKind.wrap .i64 ((IntKind.wrap .i64 ((IntKind.wrap .i64 ((IntKind.wrap .i64 ((IntKind.wrap .i64 ((IntKind.wrap .i64 ((IntKind.wrap .i64 ((IntKind.wrap .i64 ((IntKind.wrap .i64 (x.2.1 + 1)) + 1)) + 1)) + 1)) + 1)) + 1)) + 1)) + 1)) + 1)) + 1)) + 1)) + 1)) + 1)) + 1)) + 1)) + 1)) + 1)) + 1)) + 1)) + 1)) + 1)) + 1)) + 1), x71.2.2.2.1.1.2.2.2.2.2.2.2.2.2.2.2.2.2.2), x71.2.2.2.1.2), x71.2.2.2.2))) fun x73 =>
    bindO (idx x73 x.2.2.1) fun x74 =>
    bindO (laws_markText (IntKind.wrap .i64 ((IntKind.wrap .i64 ((IntKind.wrap .i64 ((IntKind.wrap .i64 ((IntKind.wrap .i64 ((IntKind.wrap .i64 ((IntKind.wrap .i64 ((IntKind.wrap .i64 ((IntKind.wrap .i64 ((IntKind.wrap .i64 ((IntKind.wrap .i64 ((IntKind.wrap .i64 ((IntKind.wrap .i64 ((IntKind.wrap .i64 ((IntKind.wrap .i64 ((IntKind.wrap .i64 ((IntKind.wrap .i64 ((IntKind.wrap .i64 ((IntKind.wrap .i64 ((IntKind.wrap .i64 ((IntKind.wrap .i64 ((IntKind.wrap .i64 ((IntKind.wrap .i64 ((IntKind.wrap .i64 ((IntKind.wrap .i64 (x.2.1 + 1)) + 1)) + 1)) + 1)) + 1)) + 1)) + 1)) + 1)) + 1)) + 1)) + 1)) + 1)) + 1)) + 1)) + 1)) + 1)) + 1)) + 1)) + 1)) + 1)) + 1)) + 1)) + 1)) + 1)) + 1))) fun r75 =>
    bindO (idx (List.set x73 (Int.toNat x.2.2.1) (x74.1, x74.2.1, x74.2.2.1, ((x74.2.2.2.1.1.1, x74.2.2.2.1.1.2.1, x74.2.2.2.1.1.2.2.1, x74.2.2.2.1.1.2.2.2.1, x74.2.2.2.1.1.2.2.2.2.1, x74.2.2.2.1.1.2.2.2.2.2.1, x74.2.2.2.1.1.2.2.2.2.2.2.1, x74.2.2.2.1.1.2.2.2.2.2.2.2.1, x74.2.2.2.1.1.2.2.2.2.2.2.2.2.1, x74.2.2.2.1.1.2.2.2.2.2.2.2.2.2.1, x74.2.2.2.1.1.2.2.2.2.2.2.2.2.2.2.1, x74.2.2.2.1.1.2.2.2.2.2.2.2.2.2.2.2.1, x74.2.2.2.1.1.2.2.2.2.2.2.2.2.2.2.2.2.1, x74.2.2.2.1.1.2.2.2.2.2.2.2.2.2.2.2.2.2.1, IntKind.wrap .i64 ((IntKind.wrap .i64 ((IntKind.wrap .i64 ((IntKind.wrap .i64 ((IntKind.wrap .i64 ((IntKind.wrap .i64 ((IntKind.wrap .i64 ((IntKind.wrap .i64 ((IntKind.wrap .i64 ((IntKind.wrap .i64 ((IntKind.wrap .i64 ((IntKind.wrap .i64 ((IntKind.wrap .i64 ((IntKind.wrap .i64 ((IntKind.wrap .i64 ((IntKind.wrap .i64 ((IntKind.wrap .i64 ((IntKind.wrap .i64 ((IntKind.wrap .i64 ((IntKind.wrap .i64 ((IntKind.wrap .i64 ((IntKind.wrap .i64 ((IntKind.wrap .i64 ((IntKind.wrap .i64 (x.2.1 + 1)) + 1)) + 1)) + 1)) + 1)) + 1)) + 1)) + 1)) + 1)) + 1)) + 1)) + 1)) + 1)) + 1)) + 1)) + 1)) + 1)) + 1)) + 1)) + 1)) + 1)) + 1)) + 1)) + 1), x74.2.2.2.1.1.2.2.2.2.2.2.2.2.2.2.2.2.2.2.2), x74.2.2.2.1.2), x74.2.2.2.2)) x.2.2.1) fun x76 =>
    bindO (some (List.set x73 (Int.toNat x.2.2.1) (x74.1, x74.2.1, x74.2.2.1, ((x74.2.2.2.1.1.1, x74.2.2.2.1.1.2.1, x74.2.2.2.1.1.2.2.1, x74.2.2.2.1.1.2.2.2.1, x74.2.2.2.1.1.2.2.2.2.1, x74.2.2.2.1.1.2.2.2.2.2.1, x74.2.2.2.1.1.2.2.2.2.2.2.1, x74.2.2.2.1.1.2.2.2.2.2.2.2.1, x74.2.2.2.1.1.2.2.2.2.2.2.2.2.1, x74.2.2.2.1.1.2.2.2.2.2.2.2.2.2.1, x74.2.2.2.1.1.2.2.2.2.2.2.2.2.2.2.1, x74.2.2.2.1.1.2.2.2.2.2.2.2.2.2.2.2.1, x74.2.2.2.1.1.2.2.2.2.2.2.2.2.2.2.2.2.1, x74.2.2.2.1.1.2.2.2.2.2.2.2.2.2.2.2.2.2.1, IntKind.wrap .i64 ((IntKind.wrap .i64 ((IntKind.wrap .i64 ((IntKind.wrap .i64 ((IntKind.wrap .i64 ((IntKind.wrap .i64 ((IntKind.wrap .i64 ((IntKind.wrap .i64 ((IntKind.wrap .i64 ((IntKind.wrap .i64 ((IntKind.wrap .i64 ((IntKind.wrap .i64 ((IntKind.wrap .i64 ((IntKind.wrap .i64 ((IntKind.wrap .i64 ((IntKind.wrap .i64 ((IntKind.wrap .i64 ((IntKind.wrap .i64 ((IntKind.wrap .i64 ((IntKind.wrap .i64 ((IntKind.wrap .i64 ((IntKind.wrap .i64 ((IntKind.wrap .i64 ((IntKind.wrap .i64 (x.2.1 + 1)) + 1)) + 1)) + 1)) + 1)) + 1)) + 1)) + 1)) + 1)) + 1)) + 1)) + 1)) + 1)) + 1)) + 1)) + 1)) + 1)) + 1)) + 1)) + 1)) + 1)) + 1)) + 1)) + 1), x74.2.2.2.1.1.2.2.2.2.2.2.2.2.2.2.2.2.2.2.2), x74.2.2.2.1.2), x74.2.2.2.2))) fun x77 =>
    bindO (idx x77 x.2.2.1) fun x78 =>
    bindO (idx (List.set x77 (Int.toNat x.2.2.1) (x78.1, x78.2.1, x78.2.2.1, ((x78.2.2.2.1.1.1, x78.2.2.2.1.1.2.1, x78.2.2.2.1.1.2.2.1, x78.2.2.2.1.1.2.2.2.1, x78.2.2.2.1.1.2.2.2.2.1, x78.2.2.2.1.1.2.2.2.2.2.1, x78.2.2.2.1.1.2.2.2.2.2.2.1, x78.2.2.2.1.1.2.2.2.2.2.2.2.1, x78.2.2.2.1.1.2.2.2.2.2.2.2.2.1, x78.2.2.2.1.1.2.2.2.2.2.2.2.2.2.1, x78.2.2.2.1.1.2.2.2.2.2.2.2.2.2.2.1, x78.2.2.2.1.1.2.2.2.2.2.2.2.2.2.2.2.1, x78.2.2.2.1.1.2.2.2.2.2.2.2.2.2.2.2.2.1, x78.2.2.2.1.1.2.2.2.2.2.2.2.2.2.2.2.2.2.1, x78.2.2.2.1.1.2.2.2.2.2.2.2.2.2.2.2.2.2.2.1, r75), x78.2.2.2.1.2), x78.2.2.2.2)) x.2.2.1) fun x79 =>
    bindO (some (List.set x77 (Int.toNat x.2.2.1) (x78.1, x78.2.1, x78.2.2.1, ((x78.2.2.2.1.1.1, x78.2.2.2.1.1.2.1, x78.2.2.2.1.1.2.2.1, x78.2.2.2.1.1.2.2.2.1, x78.2.2.2.1.1.2.2.2.2.1, x78.2.2.2.1.1.2.2.2.2.2.1, x78.2.2.2.1.1.2.2.2.2.2.2.1, x78.2.2.2.1.1.2.2.2.2.2.2.2.1, x78.2.2.2.1.1.2.2.2.2.2.2.2.2.1, x78.2.2.2.1.1.2.2.2.2.2.2.2.2.2.1, x78.2.2.2.1.1.2.2.2.2.2.2.2.2.2.2.1, x78.2.2.2.1.1.2.2.2.2.2.2.2.2.2.2.2.1, x78.2.2.2.1.1.2.2.2.2.2.2.2.2.2.2.2.2.1, x78.2.2.2.1.1.2.2.2.2.2.2.2.2.2.2.2.2.2.1, x78.2.2.2.1.1.2.2.2.2.2.2.2.2.2.2.2.2.2.2.1, r75), x78.2.2.2.1.2), x78.2.2.2.2))) fun x80 =>
    bindO (idx x80 x.2.2.1) fun x81 =>
    bindO (idx (List.set x80 (Int.toNat x.2.2.1) (x81.1, x81.2.1, x81.2.2.1, (x81.2.2.2.1.1, IntKind.wrap .i64 ((IntKind.wrap .i64 ((IntKind.wrap .i64 ((IntKind.wrap .i64 ((IntKind.wrap .i64 ((IntKind.wrap .i64 ((IntKind.wrap .i64 ((IntKind.wrap .i64 ((IntKind.wrap .i64 ((IntKind.wrap .i64 ((IntKind.wrap .i64 ((IntKind.wrap .i64 ((IntKind.wrap .i64 ((IntKind.wrap .i64 ((IntKind.wrap .i64 ((IntKind.wrap .i64 ((IntKind.wrap .i64 ((IntKind.wrap .i64 ((IntKind.wrap .i64 ((IntKind.wrap .i64 ((IntKind.wrap .i64 ((IntKind.wrap .i64 ((IntKind.wrap .i64 ((IntKind.wrap .i64 ((IntKind.wrap .i64 ((IntKind.wrap .i64 (x.2.1 + 1)) + 1)) + 1)) + 1)) + 1)) + 1)) + 1)) + 1)) + 1)) + 1)) + 1)) + 1)) + 1)) + 1)) + 1)) + 1)) + 1)) + 1)) + 1)) + 1)) + 1)) + 1)) + 1)) + 1)) + 1)) + 1), x81.2.2.2.1.2.2), x81.2.2.2.2)) x.2.2.1) fun x82 =>
    bindO (some (List.set x80 (Int.toNat x.2.2.1) (x81.1, x81.2.1, x81.2.2.1, (x81.2.2.2.1.1, IntKind.wrap .i64 ((IntKind.wrap .i64 ((IntKind.wrap .i64 ((IntKind.wrap .i64 ((IntKind.wrap .i64 ((IntKind.wrap .i64 ((IntKind.wrap .i64 ((IntKind.wrap .i64 ((IntKind.wrap .i64 ((IntKind.wrap .i64 ((IntKind.wrap .i64 ((IntKind.wrap .i64 ((IntKind.wrap .i64 ((IntKind.wrap .i64 ((IntKind.wrap .i64 ((IntKind.wrap .i64 ((IntKind.wrap .i64 ((IntKind.wrap .i64 ((IntKind.wrap .i64 ((IntKind.wrap .i64 ((IntKind.wrap .i64 ((IntKind.wrap .i64 ((IntKind.wrap .i64 ((IntKind.wrap .i64 ((IntKind.wrap .i64 ((IntKind.wrap .i64 (x.2.1 + 1)) + 1)) + 1)) + 1)) + 1)) + 1)) + 1)) + 1)) + 1)) + 1)) + 1)) + 1)) + 1)) + 1)) + 1)) + 1)) + 1)) + 1)) + 1)) + 1)) + 1)) + 1)) + 1)) + 1)) + 1)) + 1), x81.2.2.2.1.2.2), x81.2.2.2.2))) fun x83 =>
    bindO (idx x83 x.2.2.1) fun x84 =>
    if 3 = 0 then none else (
    bindO (idx (List.set x83 (Int.toNat x.2.2.1) (x84.1, x84.2.1, x84.2.2.1, (x84.2.2.2.1.1, x84.2.2.2.1.2.1, IntKind.wrap .i64 ((IntKind.wrap .i64 ((IntKind.wrap .i64 ((IntKind.wrap .i64 ((IntKind.wrap .i64 ((IntKind.wrap .i64 ((IntKind.wrap .i64 ((IntKind.wrap .i64 ((IntKind.wrap .i64 ((IntKind.wrap .i64 ((IntKind.wrap .i64 ((IntKind.wrap .i64 ((IntKind.wrap .i64 ((IntKind.wrap .i64 ((IntKind.wrap .i64 ((IntKind.wrap .i64 ((IntKind.wrap .i64 ((IntKind.wrap .i64 ((IntKind.wrap .i64 ((IntKind.wrap .i64 ((IntKind.wrap .i64 ((IntKind.wrap .i64 ((IntKind.wrap .i64 ((IntKind.wrap .i64 ((IntKind.wrap .i64 ((IntKind.wrap .i64 ((IntKind.wrap .i64 (x.2.1 + 1)) + 1)) + 1)) + 1)) + 1)) + 1)) + 1)) + 1)) + 1)) + 1)) + 1)) + 1)) + 1)) + 1)) + 1)) + 1)) + 1)) + 1)) + 1)) + 1)) + 1)) + 1)) + 1)) + 1)) + 1)) + 1)) + 1)), x84.2.2.2.2)) x.2.2.1) fun x85 =>
    bindO (some (List.set x83 (Int.toNat x.2.2.1) (x84.1, x84.2.1, x84.2.2.1, (x84.2.2.2.1.1, x84.2.2.2.1.2.1, IntKind.wrap .i64 ((IntKind.wrap .i64 ((IntKind.wrap .i64 ((IntKind.wrap .i64 ((IntKind.wrap .i64 ((IntKind.wrap .i64 ((IntKind.wrap .i64 ((IntKind.wrap .i64 ((IntKind.wrap .i64 ((IntKind.wrap .i64 ((IntKind.wrap .i64 ((IntKind.wrap .i64 ((IntKind.wrap .i64 ((IntKind.wrap .i64 ((IntKind.wrap .i64 ((IntKind.wrap .i64 ((IntKind.wrap .i64 ((IntKind.wrap .i64 ((IntKind.wrap .i64 ((IntKind.wrap .i64 ((IntKind.wrap .i64 ((IntKind.wrap .i64 ((IntKind.wrap .i64 ((IntKind.wrap .i64 ((IntKind.wrap .i64 ((IntKind.wrap .i64 ((IntKind.wrap .i64 (x.2.1 + 1)) + 1)) + 1)) + 1)) + 1)) + 1)) + 1)) + 1)) + 1)) + 1)) + 1)) + 1)) + 1)) + 1)) + 1)) + 1)) + 1)) + 1)) + 1)) + 1)) + 1)) + 1)) + 1)) + 1)) + 1)) + 1)) + 1)), x84.2.2.2.2))) fun x86 =>
    bindO (idx x86 x.2.2.1) fun x87 =>
    bindO (idx (List.set x86 (Int.toNat x.2.2.1) (x87.1, x87.2.1, x87.2.2.1, x87.2.2.2.1, (Int.tmod (IntKind.wrap .i64 ((IntKind.wrap .i64 ((IntKind.wrap .i64 ((IntKind.wrap .i64 ((IntKind.wrap .i64 ((IntKind.wrap .i64 ((IntKind.wrap .i64 ((IntKind.wrap .i64 ((IntKind.wrap .i64 ((IntKind.wrap .i64 ((IntKind.wrap .i64 ((IntKind.wrap .i64 ((IntKind.wrap .i64 ((IntKind.wrap .i64 ((IntKind.wrap .i64 ((IntKind.wrap .i64 ((IntKind.wrap .i64 ((IntKind.wrap .i64 ((IntKind.wrap .i64 ((IntKind.wrap .i64 ((IntKind.wrap .i64 ((IntKind.wrap .i64 ((IntKind.wrap .i64 ((IntKind.wrap .i64 ((IntKind.wrap .i64 ((IntKind.wrap .i64 ((IntKind.wrap .i64 ((IntKind.wrap .i64 (x.2.1 + 1)) + 1)) + 1)) + 1)) + 1)) + 1)) + 1)) + 1)) + 1)) + 1)) + 1)) + 1)) + 1)) + 1)) + 1)) + 1)) + 1)) + 1)) + 1)) + 1)) + 1)) + 1)) + 1)) + 1)) + 1)) + 1)) + 1)) + 1)) 3) == 0, x87.2.2.2.2.2)) x.2.2.1) fun x88 =>
    bindO (some (List.set x86 (Int.toNat x.2.2.1) (x87.1, x87.2.1, x87.2.2.1, x87.2.2.2.1, (Int.tmod (IntKind.wrap .i64 ((IntKind.wrap .i64 ((IntKind.wrap .i64 ((IntKind.wrap .i64 ((IntKind.wrap .i64 ((IntKind.wrap .i64 ((IntKind.wrap .i64 ((IntKind.wrap .i64 ((IntKind.wrap .i64 ((IntKind.wrap .i64 ((IntKind.wrap .i64 ((IntKind.wrap .i64 ((IntKind.wrap .i64 ((IntKind.wrap .i64 ((IntKind.wrap .i64 ((IntKind.wrap .i64 ((IntKind.wrap .i64 ((IntKind.wrap .i64 ((IntKind.wrap .i64 ((IntKind.wrap .i64 ((IntKind.wrap .i64 ((IntKind.wrap .i64 ((IntKind.wrap .i64 ((IntKind.wrap .i64 ((IntKind.wrap .i64 ((IntKind.wrap .i64 ((IntKind.wrap .i64 ((IntKind.wrap .i64 (x.2.1 + 1)) + 1)) + 1)) + 1)) + 1)) + 1)) + 1)) + 1)) + 1)) + 1)) + 1)) + 1)) + 1)) + 1)) + 1)) + 1)) + 1)) + 1)) + 1)) + 1)) + 1)) + 1)) + 1)) + 1)) + 1)) + 1)) + 1)) + 1)) 3) == 0, x87.2.2.2.2.2))) fun x89 =>
    bindO (idx x89 x.2.2.1) fun x90 =>
    nx (List.set x89 (Int.toNat x.2.2.1) (x90.1, x90.2.1, x90.2.2.1, x90.2.2.2.1, x90.2.2.2.2.1, IntKind.wrap .i64 ((IntKind.wrap .i64 ((IntKind.wrap .i64 ((IntKind.wrap .i64 ((IntKind.wrap .i64 ((IntKind.wrap .i64 ((IntKind.wrap .i64 ((IntKind.wrap .i64 ((IntKind.wrap .i64 ((IntKind.wrap .i64 ((IntKind.wrap .i64 ((IntKind.wrap .i64 ((IntKind.wrap .i64 ((IntKind.wrap .i64 ((IntKind.wrap .i64 ((IntKind.wrap .i64 ((IntKind.wrap .i64 ((IntKind.wrap .i64 ((IntKind.wrap .i64 ((IntKind.wrap .i64 ((IntKind.wrap .i64 ((IntKind.wrap .i64 ((IntKind.wrap .i64 ((IntKind.wrap .i64 ((IntKind.wrap .i64 ((IntKind.wrap .i64 ((IntKind.wrap .i64 ((IntKind.wrap .i64 ((IntKind.wrap .i64 (x.2.1 + 1)) + 1)) + 1)) + 1)) + 1)) + 1)) + 1)) + 1)) + 1)) + 1)) + 1)) + 1)) + 1)) + 1)) + 1)) + 1)) + 1)) + 1)) + 1)) + 1)) + 1)) + 1)) + 1)) + 1)) + 1)) + 1)) + 1)) + 1)) + 1)), IntKind.wrap .i64 ((IntKind.wrap .i64 ((IntKind.wrap .i64 ((IntKind.wrap .i64 ((IntKind.wrap .i64 ((IntKind.wrap .i64 ((IntKind.wrap .i64 ((IntKind.wrap .i64 ((IntKind.wrap .i64 ((IntKind.wrap .i64 ((IntKind.wrap .i64 ((IntKind.wrap .i64 ((IntKind.wrap .i64 ((IntKind.wrap .i64 ((IntKind.wrap .i64 ((IntKind.wrap .i64 ((IntKind.wrap .i64 ((IntKind.wrap .i64 ((IntKind.wrap .i64 ((IntKind.wrap .i64 ((IntKind.wrap .i64 ((IntKind.wrap .i64 ((IntKind.wrap .i64 ((IntKind.wrap .i64 ((IntKind.wrap .i64 ((IntKind.wrap .i64 ((IntKind.wrap .i64 ((IntKind.wrap .i64 ((IntKind.wrap .i64 ((IntKind.wrap .i64 (x.2.1 + 1)) + 1)) + 1)) + 1)) + 1)) + 1)) + 1)) + 1)) + 1)) + 1)) + 1)) + 1)) + 1)) + 1)) + 1)) + 1)) + 1)) + 1)) + 1)) + 1)) + 1)) + 1)) + 1)) + 1)) + 1)) + 1)) + 1)) + 1)) + 1)) + 1), IntKind.wrap .i64 (x.2.2.1 + 1), List.set x89 (Int.toNat x.2.2.1) (x90.1, x90.2.1, x90.2.2.1, x90.2.2.2.1, x90.2.2.2.2.1, IntKind.wrap .i64 ((IntKind.wrap .i64 ((IntKind.wrap .i64 ((IntKind.wrap .i64 ((IntKind.wrap .i64 ((IntKind.wrap .i64 ((IntKind.wrap .i64 ((IntKind.wrap .i64 ((IntKind.wrap .i64 ((IntKind.wrap .i64 ((IntKind.wrap .i64 ((IntKind.wrap .i64 ((IntKind.wrap .i64 ((IntKind.wrap .i64 ((IntKind.wrap .i64 ((IntKind.wrap .i64 ((IntKind.wrap .i64 ((IntKind.wrap .i64 ((IntKind.wrap .i64 ((IntKind.wrap .i64 ((IntKind.wrap .i64 ((IntKind.wrap .i64 ((IntKind.wrap .i64 ((IntKind.wrap .i64 ((IntKind.wrap .i64 ((IntKind.wrap .i64 ((IntKind.wrap .i64 ((IntKind.wrap .i64 ((IntKind.wrap .i64 (x.2.1 + 1)) + 1)) + 1)) + 1)) + 1)) + 1)) + 1)) + 1)) + 1)) + 1)) + 1)) + 1)) + 1)) + 1)) + 1)) + 1)) + 1)) + 1)) + 1)) + 1)) + 1)) + 1)) + 1)) + 1)) + 1)) + 1)) + 1)) + 1)) + 1))))) (
    k0 x.2.2.2 x.2.1 x.2.2.1 x.2.2.2)
noncomputable def laws_markRxQueueS (a0 : List RxQueue) (a1 : Int) : Option (Int × List RxQueue) :=
  iterL (laws_markRxQueueS_T2
    (fun (y91 : List RxQueue) (y92 : Int) (y93 : Int) (y94 : List RxQueue) =>
      some (y92, y94))) fuel (a0, a1, 0, a0)
noncomputable def laws_markPoolS_T2 {R : Type} (k0 : (List Pool) → Int → Int → (List Pool) → Option R) (nx : ((List Pool) × Int × Int × List Pool) → Option R) (x : (List Pool) × Int × Int × List Pool) : Option R :=
  cond (decide (x.2.2.1 < ((List.length x.1 : Int)))) (
    bindO (idx x.1 x.2.2.1) fun x1 =>
    bindO (idx x.2.2.2 x.2.2.1) fun x2 =>
    bindO (idx (List.set x.2.2.2 (Int.toNat x.2.2.1) (x.2.1, x2.2)) x.2.2.1) fun x3 =>
    bindO (some (List.set x.2.2.2 (Int.toNat x.2.2.1) (x.2.1, x2.2))) fun x4 =>
    bindO (idx x4 x.2.2.1) fun x5 =>
    bindO (idx (List.set x4 (Int.toNat x.2.2.1) (x5.1, IntKind.wrap .i64 (x.2.1 + 1), x5.2.2)) x.2.2.1) fun x6 =>
    bindO (some (List.set x4 (Int.toNat x.2.2.1) (x5.1, IntKind.wrap .i64 (x.2.1 + 1), x5.2.2))) fun x7 =>
    bindO (idx x7 x.2.2.1) fun x8 =>
    bindO (idx (List.set x7 (Int.toNat x.2.2.1) (x8.1, x8.2.1, IntKind.wrap .i64 ((IntKind.wrap .i64 (x.2.1 + 1)) + 1), x8.2.2.2)) x.2.2.1) fun x9 =>
    bindO (some (List.set x7 (Int.toNat x.2.2.1) (x8.1, x8.2.1, IntKind.wrap .i64 ((IntKind.wrap .i64 (x.2.1 + 1)) + 1), x8.2.2.2))) fun x10 =>
    bindO (idx x10 x.2.2.1) fun x11 =>
    bindO (laws_markIntS x11.2.2.2 (IntKind.wrap .i64 ((IntKind.wrap .i64 ((IntKind.wrap .i64 (x.2.1 + 1)) + 1)) + 1))) fun r12 =>
    nx (List.set x10 (Int.toNat x.2.2.1) (x11.1, x11.2.1, x11.2.2.1, r12.2), r12.1, IntKind.wrap .i64 (x.2.2.1 + 1), List.set x10 (Int.toNat x.2.2.1) (x11.1, x11.2.1, x11.2.2.1, r12.2))) (
    k0 x.2.2.2 x.2.1 x.2.2.1 x.2.2.2)
noncomputable def laws_markPoolS (a0 : List Pool) (a1 : Int) : Option (Int × List Pool) :=
  iterL (laws_markPoolS_T2
    (fun (y13 : List Pool) (y14 : Int) (y15 : Int) (y16 : List Pool) =>
      some (y14, y16))) fuel (a0, a1, 0, a0)
noncomputable def laws_markVectorS_T2 {R : Type} (k0 : (List Vector) → Int → Int → (List Vector) → Option R) (nx : ((List Vector) × Int × Int × List Vector) → Option R) (x : (List Vector) × Int × Int × List Vector) : Option R :=
  cond (decide (x.2.2.1 < ((List.length x.1 : Int)))) (
    bindO (idx x.1 x.2.2.1) fun x1 =>
    bindO (idx x.2.2.2 x.2.2.1) fun x2 =>
    bindO (idx (List.set x.2.2.2 (Int.toNat x.2.2.1) (x.2.1, x2.2)) x.2.2.1) fun x3 =>
    bindO (some (List.set x.2.2.2 (Int.toNat x.2.2.1) (x.2.1, x2.2))) fun x4 =>
    bindO (idx x4 x.2.2.1) fun x5 =>
    bindO (idx (List.set x4 (Int.toNat x.2.2.1) (x5.1, IntKind.wrap .i64 (x.2.1 + 1), x5.2.2)) x.2.2.1) fun x6 =>
    bindO (some (List.set x4 (Int.toNat x.2.2.1) (x5.1, IntKind.wrap .i64 (x.2.1 + 1), x5.2.2))) fun x7 =>
    bindO (idx x7 x.2.2.1) fun x8 =>
    bindO (idx (List.set x7 (Int.toNat x.2.2.1) (x8.1, x8.2.1, IntKind.wrap .i64 ((IntKind.wrap .i64 (x.2.1 + 1)) + 1), x8.2.2.2)) x.2.2.1) fun x9 =>
    bindO (some (List.set x7 (Int.toNat x.2.2.1) (x8.1, x8.2.1, IntKind.wrap .i64 ((IntKind.wrap .i64 (x.2.1 + 1)) + 1), x8.2.2.2))) fun x10 =>
    bindO (idx x10 x.2.2.1) fun x11 =>
    if 3 = 0 then none else (
    bindO (idx (List.set x10 (Int.toNat x.2.2.1) (x11.1, x11.2.1, x11.2.2.1, IntKind.wrap .i64 ((IntKind.wrap .i64 ((IntKind.wrap .i64 (x.2.1 + 1)) + 1)) + 1), x11.2.2.2.2)) x.2.2.1) fun x12 =>
    bindO (some (List.set x10 (Int.toNat x.2.2.1) (x11.1, x11.2.1, x11.2.2.1, IntKind.wrap .i64 ((IntKind.wrap .i64 ((IntKind.wrap .i64 (x.2.1 + 1)) + 1)) + 1), x11.2.2.2.2))) fun x13 =>
    bindO (idx x13 x.2.2.1) fun x14 =>
    if 3 = 0 then none else (
    bindO (idx (List.set x13 (Int.toNat x.2.2.1) (x14.1, x14.2.1, x14.2.2.1, x14.2.2.2.1, (Int.tmod (IntKind.wrap .i64 ((IntKind.wrap .i64 ((IntKind.wrap .i64 ((IntKind.wrap .i64 (x.2.1 + 1)) + 1)) + 1)) + 1)) 3) == 0, x14.2.2.2.2.2)) x.2.2.1) fun x15 =>
    bindO (some (List.set x13 (Int.toNat x.2.2.1) (x14.1, x14.2.1, x14.2.2.1, x14.2.2.2.1, (Int.tmod (IntKind.wrap .i64 ((IntKind.wrap .i64 ((IntKind.wrap .i64 ((IntKind.wrap .i64 (x.2.1 + 1)) + 1)) + 1)) + 1)) 3) == 0, x14.2.2.2.2.2))) fun x16 =>
    bindO (idx x16 x.2.2.1) fun x17 =>
    nx (List.set x16 (Int.toNat x.2.2.1) (x17.1, x17.2.1, x17.2.2.1, x17.2.2.2.1, x17.2.2.2.2.1, (Int.tmod (IntKind.wrap .i64 ((IntKind.wrap .i64 ((IntKind.wrap .i64 ((IntKind.wrap .i64 ((IntKind.wrap .i64 (x.2.1 + 1)) + 1)) + 1)) + 1)) + 1)) 3) == 0), IntKind.wrap .i64 ((IntKind.wrap .i64 ((IntKind.wrap .i64 ((IntKind.wrap .i64 ((IntKind.wrap .i64 ((IntKind.wrap .i64 (x.2.1 + 1)) + 1)) + 1)) + 1)) + 1)) + 1), IntKind.wrap .i64 (x.2.2.1 + 1), List.set x16 (Int.toNat x.2.2.1) (x17.1, x17.2.1, x17.2.2.1, x17.2.2.2.1, x17.2.2.2.2.1, (Int.tmod (IntKind.wrap .i64 ((IntKind.wrap .i64 ((IntKind.wrap .i64 ((IntKind.wrap .i64 ((IntKind.wrap .i64 (x.2.1 + 1)) + 1)) + 1)) + 1)) + 1)) 3) == 0))))) (
    k0 x.2.2.2 x.2.1 x.2.2.1 x.2.2.2)
noncomputable def laws_markVectorS (a0 : List Vector) (a1 : Int) : Option (Int × List Vector) :=
  iterL (laws_markVectorS_T2
    (fun (y18 : List Vector) (y19 : Int) (y20 : Int) (y21 : List Vector) =>
      some (y19, y21))) fuel (a0, a1, 0, a0)
noncomputable def laws_markBoolS_T2 {R : Type} (k0 : (List Bool) → Int → Int → (List Bool) → Option R) (nx : ((List Bool) × Int × Int × List Bool) → Option R) (x : (List Bool) × Int × Int × List Bool) : Option R :=
  cond (decide (x.2.2.1 < ((List.length x.1 : Int)))) (
    if 3 = 0 then none else (
    bindO (idx x.1 x.2.2.1) fun x1 =>
    bindO (idx x.2.2.2 x.2.2.1) fun x2 =>
    nx (List.set x.2.2.2 (Int.toNat x.2.2.1) ((Int.tmod x.2.1 3) == 0), IntKind.wrap .i64 (x.2.1 + 1), IntKind.wrap .i64 (x.2.2.1 + 1), List.set x.2.2.2 (Int.toNat x.2.2.1) ((Int.tmod x.2.1 3) == 0)))) (
    k0 x.2.2.2 x.2.1 x.2.2.1 x.2.2.2)
noncomputable def laws_markBoolS (a0 : List Bool) (a1 : Int) : Option (Int × List Bool) :=
  iterL (laws_markBoolS_T2
    (fun (y3 : List Bool) (y4 : Int) (y5 : Int) (y6 : List Bool) =>
      some (y4, y6))) fuel (a0, a1, 0, a0)
noncomputable def laws_markFilter (a0 : Filter) (a1 : Int) : Option (Int × Filter) :=
  bindO (laws_markIntS a0.2.2 a1) fun r1 =>
  some (r1.1, a0.1, a0.2.1, r1.2)
noncomputable def laws_markRuleS_T2 {R : Type} (k0 : (List Rule) → Int → Int → (List Rule) → Option R) (nx : ((List Rule) × Int × Int × List Rule) → Option R) (x : (List Rule) × Int × Int × List Rule) : Option R :=
  cond (decide (x.2.2.1 < ((List.length x.1 : Int)))) (
    bindO (idx x.1 x.2.2.1) fun x1 =>
    bindO (idx x.2.2.2 x.2.2.1) fun x2 =>
    bindO (idx (List.set x.2.2.2 (Int.toNat x.2.2.1) (x.2.1, x2.2)) x.2.2.1) fun x3 =>
    bindO (some (List.set x.2.2.2 (Int.toNat x.2.2.1) (x.2.1, x2.2))) fun x4 =>
    bindO (idx x4 x.2.2.1) fun x5 =>
    bindO (idx (List.set x4 (Int.toNat x.2.2.1) (x5.1, IntKind.wrap .i64 (x.2.1 + 1), x5.2.2)) x.2.2.1) fun x6 =>
    bindO (some (List.set x4 (Int.toNat x.2.2.1) (x5.1, IntKind.wrap .i64 (x.2.1 + 1), x5.2.2))) fun x7 =>
    bindO (idx x7 x.2.2.1) fun x8 =>
    bindO (idx (List.set x7 (Int.toNat x.2.2.1) (x8.1, x8.2.1, IntKind.wrap .i64 ((IntKind.wrap .i64 (x.2.1 + 1)) + 1), x8.2.2.2)) x.2.2.1) fun x9 =>
    bindO (some (List.set x7 (Int.toNat x.2.2.1) (x8.1, x8.2.1, IntKind.wrap .i64 ((IntKind.wrap .i64 (x.2.1 + 1)) + 1), x8.2.2.2))) fun x10 =>
    bindO (idx x10 x.2.2.1) fun x11 =>
    bindO (idx (List.set x10 (Int.toNat x.2.2.1) (x11.1, x11.2.1, x11.2.2.1, IntKind.wrap .i64 ((IntKind.wrap .i64 ((IntKind.wrap .i64 (x.2.1 + 1)) + 1)) + 1), x11.2.2.2.2)) x.2.2.1) fun x12 =>
    bindO (some (List.set x10 (Int.toNat x.2.2.1) (x11.1, x11.2.1, x11.2.2.1, IntKind.wrap .i64 ((IntKind.wrap .i64 ((IntKind.wrap .i64 (x.2.1 + 1)) + 1)) + 1), x11.2.2.2.2))) fun x13 =>
    bindO (idx x13 x.2.2.1) fun x14 =>
    bindO (idx (List.set x13 (Int.toNat x.2.2.1) (x14.1, x14.2.1, x14.2.2.1, x14.2.2.2.1, IntKind.wrap .i64 ((IntKind.wrap .i64 ((IntKind.wrap .i64 ((IntKind.wrap .i64 (x.2.1 + 1)) + 1)) + 1)) + 1), x14.2.2.2.2.2)) x.2.2.1) fun x15 =>
    bindO (some (List.set x13 (Int.toNat x.2.2.1) (x14.1, x14.2.1, x14.2.2.1, x14.2.2.2.1, IntKind.wrap .i64 ((IntKind.wrap .i64 ((IntKind.wrap .i64 ((IntKind.wrap .i64 (x.2.1 + 1)) + 1)) + 1)) + 1), x14.2.2.2.2.2))) fun x16 =>
    bindO (idx x16 x.2.2.1) fun x17 =>
    bindO (idx (List.set x16 (Int.toNat x.2.2.1) (x17.1, x17.2.1, x17.2.2.1, x17.2.2.2.1, x17.2.2.2.2.1, IntKind.wrap .i64 ((IntKind.wrap .i64 ((IntKind.wrap .i64 ((IntKind.wrap .i64 ((IntKind.wrap .i64 (x.2.1 + 1)) + 1)) + 1)) + 1)) + 1), x17.2.2.2.2.2.2)) x.2.2.1) fun x18 =>
    bindO (some (List.set x16 (Int.toNat x.2.2.1) (x17.1, x17.2.1, x17.2.2.1, x17.2.2.2.1, x17.2.2.2.2.1, IntKind.wrap .i64 ((IntKind.wrap .i64 ((IntKind.wrap .i64 ((IntKind.wrap .i64 ((IntKind.wrap .i64 (x.2.1 + 1)) + 1)) + 1)) + 1)) + 1), x17.2.2.2.2.2.2))) fun x19 =>
    bindO (idx x19 x.2.2.1) fun x20 =>
    bindO (idx (List.set x19 (Int.toNat x.2.2.1) (x20.1, x20.2.1, x20.2.2.1, x20.2.2.2.1, x20.2.2.2.2.1, x20.2.2.2.2.2.1, IntKind.wrap .i64 ((IntKind.wrap .i64 ((IntKind.wrap .i64 ((IntKind.wrap .i64 ((IntKind.wrap .i64 ((IntKind.wrap .i64 (x.2.1 + 1)) + 1)) + 1)) + 1)) + 1)) + 1), x20.2.2.2.2.2.2.2)) x.2.2.1) fun x21 =>
    bindO (some (List.set x19 (Int.toNat x.2.2.1) (x20.1, x20.2.1, x20.2.2.1, x20.2.2.2.1, x20.2.2.2.2.1, x20.2.2.2.2.2.1, IntKind.wrap .i64 ((IntKind.wrap .i64 ((IntKind.wrap .i64 ((IntKind.wrap .i64 ((IntKind.wrap .i64 ((IntKind.wrap .i64 (x.2.1 + 1)) + 1)) + 1)) + 1)) + 1)) + 1), x20.2.2.2.2.2.2.2))) fun x22 =>
    bindO (idx x22 x.2.2.1) fun x23 =>
    bindO (idx (List.set x22 (Int.toNat x.2.2.1) (x23.1, x23.2.1, x23.2.2.1, x23.2.2.2.1, x23.2.2.2.2.1, x23.2.2.2.2.2.1, x23.2.2.2.2.2.2.1, IntKind.wrap .i64 ((IntKind.wrap .i64 ((IntKind.wrap .i64 ((IntKind.wrap .i64 ((IntKind.wrap .i64 ((IntKind.wrap .i64 ((IntKind.wrap .i64 (x.2.1 + 1)) + 1)) + 1)) + 1)) + 1)) + 1)) + 1), x23.2.2.2.2.2.2.2.2)) x.2.2.1) fun x24 =>
    bindO (some (List.set x22 (Int.toNat x.2.2.1) (x23.1, x23.2.1, x23.2.2.1, x23.2.2.2.1, x23.2.2.2.2.1, x23.2.2.2.2.2.1, x23.2.2.2.2.2.2.1, IntKind.wrap .i64 ((IntKind.wrap .i64 ((IntKind.wrap .i64 ((IntKind.wrap .i64 ((IntKind.wrap .i64 ((IntKind.wrap .i64 ((IntKind.wrap .i64 (x.2.1 + 1)) + 1)) + 1)) + 1)) + 1)) + 1)) + 1), x23.2.2.2.2.2.2.2.2))) fun x25 =>
    bindO (idx x25 x.2.2.1) fun x26 =>
    nx (List.set x25 (Int.toNat x.2.2.1) (x26.1, x26.2.1, x26.2.2.1, x26.2.2.2.1, x26.2.2.2.2.1, x26.2.2.2.2.2.1, x26.2.2.2.2.2.2.1, x26.2.2.2.2.2.2.2.1, IntKind.wrap .i64 ((IntKind.wrap .i64 ((IntKind.wrap .i64 ((IntKind.wrap .i64 ((IntKind.wrap .i64 ((IntKind.wrap .i64 ((IntKind.wrap .i64 ((IntKind.wrap .i64 (x.2.1 + 1)) + 1)) + 1)) + 1)) + 1)) + 1)) + 1)) + 1)), IntKind.wrap .i64 ((IntKind.wrap .i64 ((IntKind.wrap .i64 ((IntKind.wrap .i64 ((IntKind.wrap .i64 ((IntKind.wrap .i64 ((IntKind.wrap .i64 ((IntKind.wrap .i64 ((IntKind.wrap .i64 (x.2.1 + 1)) + 1)) + 1)) + 1)) + 1)) + 1)) + 1)) + 1)) + 1), IntKind.wrap .i64 (x.2.2.1 + 1), List.set x25 (Int.toNat x.2.2.1) (x26.1, x26.2.1, x26.2.2.1, x26.2.2.2.1, x26.2.2.2.2.1, x26.2.2.2.2.2.1, x26.2.2.2.2.2.2.1, x26.2.2.2.2.2.2.2.1, IntKind.wrap .i64 ((IntKind.wrap .i64 ((IntKind.wrap .i64 ((IntKind.wrap .i64 ((IntKind.wrap .i64 ((IntKind.wrap .i64 ((IntKind.wrap .i64 ((IntKind.wrap .i64 (x.2.1 + 1)) + 1)) + 1)) + 1)) + 1)) + 1)) + 1)) + 1)))) (
    k0 x.2.2.2 x.2.1 x.2.2.1 x.2.2.2)
noncomputable def laws_markRuleS (a0 : List Rule) (a1 : Int) : Option (Int × List Rule) :=
  iterL (laws_markRuleS_T2
    (fun (y27 : List Rule) (y28 : Int) (y29 : Int) (y30 : List Rule) =>
      some (y28, y30))) fuel (a0, a1, 0, a0)
noncomputable def laws_markSlotS_T2 {R : Type} (k0 : (List Slot) → Int → Int → (List Slot) → Option R) (nx : ((List Slot) × Int × Int × List Slot) → Option R) (x : (List Slot) × Int × Int × List Slot) : Option R :=
  cond (decide (x.2.2.1 < ((List.length x.1 : Int)))) (
    bindO (idx x.1 x.2.2.1) fun x1 =>
    bindO (idx x.2.2.2 x.2.2.1) fun x2 =>
    bindO (idx (List.set x.2.2.2 (Int.toNat x.2.2.1) (x.2.1, x2.2)) x.2.2.1) fun x3 =>
    bindO (some (List.set x.2.2.2 (Int.toNat x.2.2.1) (x.2.1, x2.2))) fun x4 =>
    bindO (idx x4 x.2.2.1) fun x5 =>
    bindO (idx (List.set x4 (Int.toNat x.2.2.1) (x5.1, (IntKind.wrap .i64 (x.2.1 + 1), x5.2.1.2), x5.2.2)) x.2.2.1) fun x6 =>
    bindO (some (List.set x4 (Int.toNat x.2.2.1) (x5.1, (IntKind.wrap .i64 (x.2.1 + 1), x5.2.1.2), x5.2.2))) fun x7 =>
    bindO (idx x7 x.2.2.1) fun x8 =>
    bindO (idx (List.set x7 (Int.toNat x.2.2.1) (x8.1, (x8.2.1.1, IntKind.wrap .i64 ((IntKind.wrap .i64 (x.2.1 + 1)) + 1), x8.2.1.2.2), x8.2.2)) x.2.2.1) fun x9 =>
    bindO (some (List.set x7 (Int.toNat x.2.2.1) (x8.1, (x8.2.1.1, IntKind.wrap .i64 ((IntKind.wrap .i64 (x.2.1 + 1)) + 1), x8.2.1.2.2), x8.2.2))) fun x10 =>
    bindO (idx x10 x.2.2.1) fun x11 =>
    bindO (idx (List.set x10 (Int.toNat x.2.2.1) (x11.1, (x11.2.1.1, x11.2.1.2.1, IntKind.wrap .i64 ((IntKind.wrap .i64 ((IntKind.wrap .i64 (x.2.1 + 1)) + 1)) + 1), x11.2.1.2.2.2), x11.2.2)) x.2.2.1) fun x12 =>
    bindO (some (List.set x10 (Int.toNat x.2.2.1) (x11.1, (x11.2.1.1, x11.2.1.2.1, IntKind.wrap .i64 ((IntKind.wrap .i64 ((IntKind.wrap .i64 (x.2.1 + 1)) + 1)) + 1), x11.2.1.2.2.2), x11.2.2))) fun x13 =>
    bindO (idx x13 x.2.2.1) fun x14 =>
    bindO (idx (List.set x13 (Int.toNat x.2.2.1) (x14.1, (x14.2.1.1, x14.2.1.2.1, x14.2.1.2.2.1, IntKind.wrap .i64 ((IntKind.wrap .i64 ((IntKind.wrap .i64 ((IntKind.wrap .i64 (x.2.1 + 1)) + 1)) + 1)) + 1), x14.2.1.2.2.2.2), x14.2.2)) x.2.2.1) fun x15 =>
    bindO (some (List.set x13 (Int.toNat x.2.2.1) (x14.1, (x14.2.1.1, x14.2.1.2.1, x14.2.1.2.2.1, IntKind.wrap .i64 ((IntKind.wrap .i64 ((IntKind.wrap .i64 ((IntKind.wrap .i64 (x.2.1 + 1)) + 1)) + 1)) + 1), x14.2.1.2.2.2.2), x14.2.2))) fun x16 =>
    bindO (idx x16 x.2.2.1) fun x17 =>
    bindO (idx (List.set x16 (Int.toNat x.2.2.1) (x17.1, (x17.2.1.1, x17.2.1.2.1, x17.2.1.2.2.1, x17.2.1.2.2.2.1, IntKind.wrap .i64 ((IntKind.wrap .i64 ((IntKind.wrap .i64 ((IntKind.wrap .i64 ((IntKind.wrap .i64 (x.2.1 + 1)) + 1)) + 1)) + 1)) + 1)), x17.2.2)) x.2.2.1) fun x18 =>
    bindO (some (List.set x16 (Int.toNat x.2.2.1) (x17.1, (x17.2.1.1, x17.2.1.2.1, x17.2.1.2.2.1, x17.2.1.2.2.2.1, IntKind.wrap .i64 ((IntKind.wrap .i64 ((IntKind.wrap .i64 ((IntKind.wrap .i64 ((IntKind.wrap .i64 (x.2.1 + 1)) + 1)) + 1)) + 1)) + 1)), x17.2.2))) fun x19 =>
    bindO (idx x19 x.2.2.1) fun x20 =>
    nx (List.set x19 (Int.toNat x.2.2.1) (x20.1, x20.2.1, IntKind.wrap .i64 ((IntKind.wrap .i64 ((IntKind.wrap .i64 ((IntKind.wrap .i64 ((IntKind.wrap .i64 ((IntKind.wrap .i64 (x.2.1 + 1)) + 1)) + 1)) + 1)) + 1)) + 1)), IntKind.wrap .i64 ((IntKind.wrap .i64 ((IntKind.wrap .i64 ((IntKind.wrap .i64 ((IntKind.wrap .i64 ((IntKind.wrap .i64 ((IntKind.wrap .i64 (x.2.1 + 1)) + 1)) + 1)) + 1)) + 1)) + 1)) + 1), IntKind.wrap .i64 (x.2.2.1 + 1), List.set x19 (Int.toNat x.2.2.1) (x20.1, x20.2.1, IntKind.wrap .i64 ((IntKind.wrap .i64 ((IntKind.wrap .i64 ((IntKind.wrap .i64 ((IntKind.wrap .i64 ((IntKind.wrap .i64 (x.2.1 + 1)) + 1)) + 1)) + 1)) + 1)) + 1)))) (
    k0 x.2.2.2 x.2.1 x.2.2.1 x.2.2.2)
noncomputable def laws_markSlotS (a0 : List Slot) (a1 : Int) : Option (Int × List Slot) :=
  iterL (laws_markSlotS_T2
    (fun (y21 : List Slot) (y22 : Int) (y23 : Int) (y24 : List Slot) =>
      some (y22, y24))) fuel (a0, a1, 0, a0)
noncomputable def laws_markFlowTable (a0 : List Slot) (a1 : Int) : Option (Int × List Slot) :=
  bindO (laws_markSlotS a0 a1) fun r1 =>
  some r1
noncomputable def laws_markSpread (a0 : Spread) (a1 : Int) : Option (Int × Spread) :=
  bindO (laws_markIntS a0.2 a1) fun r1 =>
  some (r1.1, a0.1, r1.2)
noncomputable def laws_markSteering (a0 : Steering) (a1 : Int) : Option (Int × Steering) :=
  bindO (laws_markRuleS a0.1 a1) fun r1 =>
  bindO (laws_markFlowTable a0.2.1 r1.1) fun r2 =>
  bindO (laws_markSpread a0.2.2 r2.1) fun r3 =>
  some (r3.1, r1.2, r2.2, a0.2.2.1, r3.2.2)
noncomputable def laws_markStreamS_T2 {R : Type} (k0 : (List Stream) → Int → Int → (List Stream) → Option R) (nx : ((List Stream) × Int × Int × List Stream) → Option R) (x : (List Stream) × Int × Int × List Stream) : Option R :=
  cond (decide (x.2.2.1 < ((List.length x.1 : Int)))) (
    bindO (idx x.1 x.2.2.1) fun x1 =>
    bindO (idx x.2.2.2 x.2.2.1) fun x2 =>
    bindO (idx (List.set x.2.2.2 (Int.toNat x.2.2.1) ((x.2.1, x2.1.2), x2.2)) x.2.2.1) fun x3 =>
    bindO (some (List.set x.2.2.2 (Int.toNat x.2.2.1) ((x.2.1, x2.1.2), x2.2))) fun x4 =>
    bindO (idx x4 x.2.2.1) fun x5 =>
    bindO (idx (List.set x4 (Int.toNat x.2.2.1) ((x5.1.1, IntKind.wrap .i64 (x.2.1 + 1), x5.1.2.2), x5.2)) x.2.2.1) fun x6 =>
    bindO (some (List.set x4 (Int.toNat x.2.2.1) ((x5.1.1, IntKind.wrap .i64 (x.2.1 + 1), x5.1.2.2), x5.2))) fun x7 =>
    bindO (idx x7 x.2.2.1) fun x8 =>
    bindO (idx (List.set x7 (Int.toNat x.2.2.1) ((x8.1.1, x8.1.2.1, IntKind.wrap .i64 ((IntKind.wrap .i64 (x.2.1 + 1)) + 1), x8.1.2.2.2), x8.2)) x.2.2.1) fun x9 =>
    bindO (some (List.set x7 (Int.toNat x.2.2.1) ((x8.1.1, x8.1.2.1, IntKind.wrap .i64 ((IntKind.wrap .i64 (x.2.1 + 1)) + 1), x8.1.2.2.2), x8.2))) fun x10 =>
    bindO (idx x10 x.2.2.1) fun x11 =>
    bindO (idx (List.set x10 (Int.toNat x.2.2.1) ((x11.1.1, x11.1.2.1, x11.1.2.2.1, IntKind.wrap .i64 ((IntKind.wrap .i64 ((IntKind.wrap .i64 (x.2.1 + 1)) + 1)) + 1), x11.1.2.2.2.2), x11.2)) x.2.2.1) fun x12 =>
    bindO (some (List.set x10 (Int.toNat x.2.2.1) ((x11.1.1, x11.1.2.1, x11.1.2.2.1, IntKind.wrap .i64 ((IntKind.wrap .i64 ((IntKind.wrap .i64 (x.2.1 + 1)) + 1)) + 1), x11.1.2.2.2.2), x11.2))) fun x13 =>
    bindO (idx x13 x.2.2.1) fun x14 =>
    bindO (idx (List.set x13 (Int.toNat x.2.2.1) ((x14.1.1, x14.1.2.1, x14.1.2.2.1, x14.1.2.2.2.1, IntKind.wrap .i64 ((IntKind.wrap .i64 ((IntKind.wrap .i64 ((IntKind.wrap .i64 (x.2.1 + 1)) + 1)) + 1)) + 1)), x14.2)) x.2.2.1) fun x15 =>
    bindO (some (List.set x13 (Int.toNat x.2.2.1) ((x14.1.1, x14.1.2.1, x14.1.2.2.1, x14.1.2.2.2.1, IntKind.wrap .i64 ((IntKind.wrap .i64 ((IntKind.wrap .i64 ((IntKind.wrap .i64 (x.2.1 + 1)) + 1)) + 1)) + 1)), x14.2))) fun x16 =>
    bindO (idx x16 x.2.2.1) fun x17 =>
    bindO (laws_markText (IntKind.wrap .i64 ((IntKind.wrap .i64 ((IntKind.wrap .i64 ((IntKind.wrap .i64 ((IntKind.wrap .i64 ((IntKind.wrap .i64 (x.2.1 + 1)) + 1)) + 1)) + 1)) + 1)) + 1))) fun r18 =>
    bindO (idx (List.set x16 (Int.toNat x.2.2.1) (x17.1, IntKind.wrap .i64 ((IntKind.wrap .i64 ((IntKind.wrap .i64 ((IntKind.wrap .i64 ((IntKind.wrap .i64 (x.2.1 + 1)) + 1)) + 1)) + 1)) + 1), x17.2.2)) x.2.2.1) fun x19 =>
    bindO (some (List.set x16 (Int.toNat x.2.2.1) (x17.1, IntKind.wrap .i64 ((IntKind.wrap .i64 ((IntKind.wrap .i64 ((IntKind.wrap .i64 ((IntKind.wrap .i64 (x.2.1 + 1)) + 1)) + 1)) + 1)) + 1), x17.2.2))) fun x20 =>
    bindO (idx x20 x.2.2.1) fun x21 =>
    if 3 = 0 then none else (
    bindO (idx (List.set x20 (Int.toNat x.2.2.1) (x21.1, x21.2.1, r18, x21.2.2.2)) x.2.2.1) fun x22 =>
    bindO (some (List.set x20 (Int.toNat x.2.2.1) (x21.1, x21.2.1, r18, x21.2.2.2))) fun x23 =>
    bindO (idx x23 x.2.2.1) fun x24 =>
    nx (List.set x23 (Int.toNat x.2.2.1) (x24.1, x24.2.1, x24.2.2.1, (Int.tmod (IntKind.wrap .i64 ((IntKind.wrap .i64 ((IntKind.wrap .i64 ((IntKind.wrap .i64 ((IntKind.wrap .i64 ((IntKind.wrap .i64 ((IntKind.wrap .i64 (x.2.1 + 1)) + 1)) + 1)) + 1)) + 1)) + 1)) + 1)) 3) == 0), IntKind.wrap .i64 ((IntKind.wrap .i64 ((IntKind.wrap .i64 ((IntKind.wrap .i64 ((IntKind.wrap .i64 ((IntKind.wrap .i64 ((IntKind.wrap .i64 ((IntKind.wrap .i64 (x.2.1 + 1)) + 1)) + 1)) + 1)) + 1)) + 1)) + 1)) + 1), IntKind.wrap .i64 (x.2.2.1 + 1), List.set x23 (Int.toNat x.2.2.1) (x24.1, x24.2.1, x24.2.2.1, (Int.tmod (IntKind.wrap .i64 ((IntKind.wrap .i64 ((IntKind.wrap .i64 ((IntKind.wrap .i64 ((IntKind.wrap .i64 ((IntKind.wrap .i64 ((IntKind.wrap .i64 (x.2.1 + 1)) + 1)) + 1)) + 1)) + 1)) + 1)) + 1)) 3) == 0)))) (
    k0 x.2.2.2 x.2.1 x.2.2.1 x.2.2.2)
noncomputable def laws_markStreamS (a0 : List Stream) (a1 : Int) : Option (Int × List Stream) :=
  iterL (laws_markStreamS_T2
    (fun (y25 : List Stream) (y26 : Int) (y27 : Int) (y28 : List Stream) =>
      some (y26, y28))) fuel (a0, a1, 0, a0)
noncomputable def laws_markHost (a0 : Host) (a1 : Int) : Option (Int × Host) :=
  bindO (laws_markMemory a0.1 a1) fun r1 =>
  bindO (laws_markMappingS a0.2.1 r1.1) fun r2 =>
  bindO (laws_markTxQueue a0.2.2.1 r2.1) fun r3 =>
  bindO (laws_markRxQueueS a0.2.2.2.1 r3.1) fun r4 =>
  bindO (laws_markPoolS a0.2.2.2.2.1 r4.1) fun r5 =>
  bindO (laws_markVectorS a0.2.2.2.2.2.1 r5.1) fun r6 =>
  bindO (laws_markBoolS a0.2.2.2.2.2.2.1 r6.1) fun r7 =>
  bindO (laws_markFilter a0.2.2.2.2.2.2.2.1 r7.1) fun r8 =>
  bindO (laws_markSteering a0.2.2.2.2.2.2.2.2.1 r8.1) fun r9 =>
  bindO (laws_markStreamS a0.2.2.2.2.2.2.2.2.2.1 r9.1) fun r10 =>
  bindO (laws_markStringS a0.2.2.2.2.2.2.2.2.2.2.2.1 r10.1) fun r11 =>
  bindO (laws_markIntS a0.2.2.2.2.2.2.2.2.2.2.2.2.1 r11.1) fun r12 =>
  bindO (laws_markIntS a0.2.2.2.2.2.2.2.2.2.2.2.2.2.1 r12.1) fun r13 =>
  some (r13.1, r1.2, r2.2, (a0.2.2.1.1, (a0.2.2.1.2.1.1, a0.2.2.1.2.1.2.1, a0.2.2.1.2.1.2.2.1, r3.2.2.1.2.2.2), r3.2.2.2.1, a0.2.2.1.2.2.2), r4.2, r5.2, r6.2, r7.2, (a0.2.2.2.2.2.2.2.1.1, a0.2.2.2.2.2.2.2.1.2.1, r8.2.2.2), (r9.2.1, r9.2.2.1, a0.2.2.2.2.2.2.2.2.1.2.2.1, r9.2.2.2.2), r10.2, a0.2.2.2.2.2.2.2.2.2.2.1, r11.2, r12.2, r13.2, a0.2.2.2.2.2.2.2.2.2.2.2.2.2.2)
noncomputable def laws_heldStringS_T2 {R : Type} (k0 : Int → Int → Option R) (k1 : Int → Int → Int → Option R) (v0 : List Bytes) (v4 : Int) (nx : (Int × Int) → Option R) (x : Int × Int) : Option R :=
  cond (decide (x.2 < ((List.length v0 : Int)))) (
    bindO (idx v0 x.2) fun x1 =>
    bindO (laws_markText x.1) fun r2 =>
    cond (!(x1 == r2)) (
      k1 x.1 (-1) x.2) (
      nx (IntKind.wrap .i64 (x.1 + 1), IntKind.wrap .i64 (x.2 + 1)))) (
    k0 x.1 x.2)
noncomputable def laws_heldStringS (a0 : List Bytes) (a1 : Int) : Option (Int) :=
  iterL (laws_heldStringS_T2
    (fun (y3 : Int) (y4 : Int) =>
      some y3)
    (fun (y5 : Int) (y6 : Int) (y7 : Int) =>
      some y6) a0 0) fuel (a1, 0)
noncomputable def laws_heldMemory (a0 : List Bytes) (a1 : Int) : Option (Int) :=
  bindO (laws_heldStringS a0 a1) fun r1 =>
  cond (decide (r1 < 0)) (
    some (-1)) (
    some r1)
noncomputable def laws_heldMappingS_T2 {R : Type} (k0 : Int → Int → Option R) (k1 : Int → Int → Int → Option R) (v0 : List Mapping) (v4 : Int) (nx : (Int × Int) → Option R) (x : Int × Int) : Option R :=
  cond (decide (x.2 < ((List.length v0 : Int)))) (
    bindO (idx v0 x.2) fun x1 =>
    cond (x1.1 != x.1) (
      k1 x.1 (-1) x.2) (
      bindO (idx v0 x.2) fun x2 =>
      cond (x2.2.1 != (IntKind.wrap .i64 (x.1 + 1))) (
        k1 (IntKind.wrap .i64 (x.1 + 1)) (-1) x.2) (
        bindO (idx v0 x.2) fun x3 =>
        cond (x3.2.2.1 != (IntKind.wrap .i64 ((IntKind.wrap .i64 (x.1 + 1)) + 1))) (
          k1 (IntKind.wrap .i64 ((IntKind.wrap .i64 (x.1 + 1)) + 1)) (-1) x.2) (
          bindO (idx v0 x.2) fun x4 =>
          if 3 = 0 then none else (
          cond (!(x4.2.2.2 == ((Int.tmod (IntKind.wrap .i64 ((IntKind.wrap .i64 ((IntKind.wrap .i64 (x.1 + 1)) + 1)) + 1)) 3) == 0))) (
            k1 (IntKind.wrap .i64 ((IntKind.wrap .i64 ((IntKind.wrap .i64 (x.1 + 1)) + 1)) + 1)) (-1) x.2) (
            nx (IntKind.wrap .i64 ((IntKind.wrap .i64 ((IntKind.wrap .i64 ((IntKind.wrap .i64 (x.1 + 1)) + 1)) + 1)) + 1), IntKind.wrap .i64 (x.2 + 1)))))))) (
    k0 x.1 x.2)
noncomputable def laws_heldMappingS (a0 : List Mapping) (a1 : Int) : Option (Int) :=
  iterL (laws_heldMappingS_T2
    (fun (y5 : Int) (y6 : Int) =>
      some y5)
    (fun (y7 : Int) (y8 : Int) (y9 : Int) =>
      some y8) a0 0) fuel (a1, 0)
noncomputable def laws_heldIntS_T2 {R : Type} (k0 : Int → Int → Option R) (k1 : Int → Int → Int → Option R) (v0 : List Int) (v4 : Int) (nx : (Int × Int) → Option R) (x : Int × Int) : Option R :=
  cond (decide (x.2 < ((List.length v0 : Int)))) (
    bindO (idx v0 x.2) fun x1 =>
    cond (x1 != x.1) (
      k1 x.1 (-1) x.2) (
      nx (IntKind.wrap .i64 (x.1 + 1), IntKind.wrap .i64 (x.2 + 1)))) (
    k0 x.1 x.2)
noncomputable def laws_heldIntS (a0 : List Int) (a1 : Int) : Option (Int) :=
  iterL (laws_heldIntS_T2
    (fun (y2 : Int) (y3 : Int) =>
      some y2)
    (fun (y4 : Int) (y5 : Int) (y6 : Int) =>
      some y5) a0 0) fuel (a1, 0)
noncomputable def laws_heldPool (a0 : Pool) (a1 : Int) : Option (Int) :=
  bindO (laws_heldIntS a0.2.2.2 a1) fun r1 =>
  cond (decide (r1 < 0)) (
    some (-1)) (
    some r1)
noncomputable def laws_heldSentS_T2 {R : Type} (k0 : Int → Int → Option R) (k1 : Int → Int → Int → Option R) (v0 : List Sent) (v4 : Int) (nx : (Int × Int) → Option R) (x : Int × Int) : Option R :=
  cond (decide (x.2 < ((List.length v0 : Int)))) (
    bindO (idx v0 x.2) fun x1 =>
    cond (x1.1 != x.1) (
      k1 x.1 (-1) x.2) (
      bindO (idx v0 x.2) fun x2 =>
      cond (x2.2.1 != (IntKind.wrap .i64 (x.1 + 1))) (
        k1 (IntKind.wrap .i64 (x.1 + 1)) (-1) x.2) (
        bindO (idx v0 x.2) fun x3 =>
        bindO (laws_heldIntS x3.2.2 (IntKind.wrap .i64 ((IntKind.wrap .i64 (x.1 + 1)) + 1))) fun r4 =>
        cond (decide (r4 < 0)) (
          k1 r4 (-1) x.2) (
          nx (r4, IntKind.wrap .i64 (x.2 + 1)))))) (
    k0 x.1 x.2)
noncomputable def laws_heldSentS (a0 : List Sent) (a1 : Int) : Option (Int) :=
  iterL (laws_heldSentS_T2
    (fun (y5 : Int) (y6 : Int) =>
      some y5)
    (fun (y7 : Int) (y8 : Int) (y9 : Int) =>
      some y8) a0 0) fuel (a1, 0)
noncomputable def laws_heldTxQueue (a0 : TxQueue) (a1 : Int) : Option (Int) :=
  bindO (laws_heldPool a0.2.1 a1) fun r1 =>
  cond (decide (r1 < 0)) (
    some (-1)) (
    bindO (laws_heldSentS a0.2.2.1 r1) fun r2 =>
    cond (decide (r2 < 0)) (
      some (-1)) (
      some r2))
noncomputable def laws_heldRxQueueS_T2 {R : Type} (k0 : Int → Int → Option R) (k1 : Int → Int → Int → Option R) (v0 : List RxQueue) (v4 : Int) (nx : (Int × Int) → Option R) (x : Int × Int) : Option R :=
  cond (decide (x.2 < ((List.length v0 : Int)))) (
    bindO (idx v0 x.2) fun x1 =>
    cond (x1.1.1 != x.1) (
      k1 x.1 (-1) x.2) (
      bindO (idx v0 x.2) fun x2 =>
      cond (x2.1.2.1 != (IntKind.wrap .i64 (x.1 + 1))) (
        k1 (IntKind.wrap .i64 (x.1 + 1)) (-1) x.2) (
        bindO (idx v0 x.2) fun x3 =>
        cond (x3.1.2.2.1 != (IntKind.wrap .i64 ((IntKind.wrap .i64 (x.1 + 1)) + 1))) (
          k1 (IntKind.wrap .i64 ((IntKind.wrap .i64 (x.1 + 1)) + 1)) (-1) x.2) (
          bindO (idx v0 x.2) fun x4 =>
          cond (x4.1.2.2.2 != (IntKind.wrap .i64 ((IntKind.wrap .i64 ((IntKind.wrap .i64 (x.1 + 1)) + 1)) + 1))) (
            k1 (IntKind.wrap .i64 ((IntKind.wrap .i64 ((IntKind.wrap .i64 (x.1 + 1)) + 1)) + 1)) (-1) x.2) (
            bindO (idx v0 x.2) fun x5 =>
            cond (x5.2.1.1 != (IntKind.wrap .i64 ((IntKind.wrap .i64 ((IntKind.wrap .i64 ((IntKind.wrap .i64 (x.1 + 1)) + 1)) + 1)) + 1))) (
              k1 (IntKind.wrap .i64 ((IntKind.wrap .i64 ((IntKind.wrap .i64 ((IntKind.wrap .i64 (x.1 + 1)) + 1)) + 1)) + 1)) (-1) x.2) (
              bindO (idx v0 x.2) fun x6 =>
              cond (x6.2.1.2.1 != (IntKind.wrap .i64 ((IntKind.wrap .i64 ((IntKind.wrap .i64 ((IntKind.wrap .i64 ((IntKind.wrap .i64 (x.1 + 1)) + 1)) + 1)) + 1)) + 1))) (
                k1 (IntKind.wrap .i64 ((IntKind.wrap .i64 ((IntKind.wrap .i64 ((IntKind.wrap .i64 ((IntKind.wrap .i64 (x.1 + 1)) + 1)) + 1)) + 1)) + 1)) (-1) x.2) (
                bindO (idx v0 x.2) fun x7 =>
                cond (x7.2.1.2.2 != (IntKind.wrap .i64 ((IntKind.wrap .i64 ((IntKind.wrap .i64 ((IntKind.wrap .i64 ((IntKind.wrap .i64 ((IntKind.wrap .i64 (x.1 + 1)) + 1)) + 1)) + 1)) + 1)) + 1))) (
                  k1 (IntKind.wrap .i64 ((IntKind.wrap .i64 ((IntKind.wrap .i64 ((IntKind.wrap .i64 ((IntKind.wrap .i64 ((IntKind.wrap .i64 (x.1 + 1)) + 1)) + 1)) + 1)) + 1)) + 1)) (-1) x.2) (
                  bindO (idx v0 x.2) fun x8 =>
                  cond (x8.2.2.1.1 != (IntKind.wrap .i64 ((IntKind.wrap .i64 ((IntKind.wrap .i64 ((IntKind.wrap .i64 ((IntKind.wrap .i64 ((IntKind.wrap .i64 ((IntKind.wrap .i64 (x.1 + 1)) + 1)) + 1)) + 1)) + 1)) + 1)) + 1))) (
                    k1 (IntKind.wrap .i64 ((IntKind.wrap .i64 ((IntKind.wrap .i64 ((IntKind.wrap .i64 ((IntKind.wrap .i64 ((IntKind.wrap .i64 ((IntKind.wrap .i64 (x.1 + 1)) + 1)) + 1)) + 1)) + 1)) + 1)) + 1)) (-1) x.2) (
                    bindO (idx v0 x.2) fun x9 =>
                    cond (x9.2.2.1.2.1 != (IntKind.wrap .i64 ((IntKind.wrap .i64 ((IntKind.wrap .i64 ((IntKind.wrap .i64 ((IntKind.wrap .i64 ((IntKind.wrap .i64 ((IntKind.wrap .i64 ((IntKind.wrap .i64 (x.1 + 1)) + 1)) + 1)) + 1)) + 1)) + 1)) + 1)) + 1))) (
                      k1 (IntKind.wrap .i64 ((IntKind.wrap .i64 ((IntKind.wrap .i64 ((IntKind.wrap .i64 ((IntKind.wrap .i64 ((IntKind.wrap .i64 ((IntKind.wrap .i64 ((IntKind.wrap .i64 (x.1 + 1)) + 1)) + 1)) + 1)) + 1)) + 1)) + 1)) + 1)) (-1) x.2) (
                      bindO (idx v0 x.2) fun x10 =>
                      cond (x10.2.2.1.2.2 != (IntKind.wrap .i64 ((IntKind.wrap .i64 ((IntKind.wrap .i64 ((IntKind.wrap .i64 ((IntKind.wrap .i64 ((IntKind.wrap .i64 ((IntKind.wrap .i64 ((IntKind.wrap .i64 ((IntKind.wrap .i64 (x.1 + 1)) + 1)) + 1)) + 1)) + 1)) + 1)) + 1)) + 1)) + 1))) (
                        k1 (IntKind.wrap .i64 ((IntKind.wrap .i64 ((IntKind.wrap .i64 ((IntKind.wrap .i64 ((IntKind.wrap .i64 ((IntKind.wrap .i64 ((IntKind.wrap .i64 ((IntKind.wrap .i64 ((IntKind.wrap .i64 (x.1 + 1)) + 1)) + 1)) + 1)) + 1)) + 1)) + 1)) + 1)) + 1)) (-1) x.2) (
                        bindO (idx v0 x.2) fun x11 =>
                        cond (x11.2.2.2.1.1.1 != (IntKind.wrap .i64 ((IntKind.wrap .i64 ((IntKind.wrap .i64 ((IntKind.wrap .i64 ((IntKind.wrap .i64 ((IntKind.wrap .i64 ((IntKind.wrap .i64 ((IntKind.wrap .i64 ((IntKind.wrap .i64 ((IntKind.wrap .i64 (x.1 + 1)) + 1)) + 1)) + 1)) + 1)) + 1)) + 1)) + 1)) + 1)) + 1))) (
                          k1 (IntKind.wrap .i64 ((IntKind.wrap .i64 ((IntKind.wrap .i64 ((IntKind.wrap .i64 ((IntKind.wrap .i64 ((IntKind.wrap .i64 ((IntKind.wrap .i64 ((IntKind.wrap .i64 ((IntKind.wrap .i64 ((IntKind.wrap .i64 (x.1 + 1)) + 1)) + 1)) + 1)) + 1)) + 1)) + 1)) + 1)) + 1)) + 1)) (-1) x.2) (
                          bindO (idx v0 x.2) fun x12 =>
                          cond (x12.2.2.2.1.1.2.1 != (IntKind.wrap .i64 ((IntKind.wrap .i64 ((IntKind.wrap .i64 ((IntKind.wrap .i64 ((IntKind.wrap .i64 ((IntKind.wrap .i64 ((IntKind.wrap .i64 ((IntKind.wrap .i64 ((IntKind.wrap .i64 ((IntKind.wrap .i64 ((IntKind.wrap .i64 (x.1 + 1)) + 1)) + 1)) + 1)) + 1)) + 1)) + 1)) + 1)) + 1)) + 1)) + 1))) (
                            k1 (IntKind.wrap .i64 ((IntKind.wrap .i64 ((IntKind.wrap .i64 ((IntKind.wrap .i64 ((IntKind.wrap .i64 ((IntKind.wrap .i64 ((IntKind.wrap .i64 ((IntKind.wrap .i64 ((IntKind.wrap .i64 ((IntKind.wrap .i64 ((IntKind.wrap .i64 (x.1 + 1)) + 1)) + 1)) + 1)) + 1)) + 1)) + 1)) + 1)) + 1)) + 1)) + 1)) (-1) x.2) (
                            bindO (idx v0 x.2) fun x13 =>
                            cond (x13.2.2.2.1.1.2.2.1 != (IntKind.wrap .i64 ((IntKind.wrap .i64 ((IntKind.wrap .i64 ((IntKind.wrap .i64 ((IntKind.wrap .i64 ((IntKind.wrap .i64 ((IntKind.wrap .i64 ((IntKind.wrap .i64 ((IntKind.wrap .i64 ((IntKind.wrap .i64 ((IntKind.wrap .i64 ((IntKind.wrap .i64 (x.1 + 1)) + 1)) + 1)) + 1)) + 1)) + 1)) + 1)) + 1)) + 1)) + 1)) + 1)) + 1))) (
                              k1 (IntKind.wrap .i64 ((IntKind.wrap .i64 ((IntKind.wrap .i64 ((IntKind.wrap .i64 ((IntKind.wrap .i64 ((IntKind.wrap .i64 ((IntKind.wrap .i64 ((IntKind.wrap .i64 ((IntKind.wrap .i64 ((IntKind.wrap .i64 ((IntKind.wrap .i64 ((IntKind.wrap .i64 (x.1 + 1)) + 1)) + 1)) + 1)) + 1)) + 1)) + 1)) + 1)) + 1)) + 1)) + 1)) + 1)) (-1) x.2) (
                              bindO (idx v0 x.2) fun x14 =>
                              cond (x14.2.2.2.1.1.2.2.2.1 != (IntKind.wrap .i64 ((IntKind.wrap .i64 ((IntKind.wrap .i64 ((IntKind.wrap .i64 ((IntKind.wrap .i64 ((IntKind.wrap .i64 ((IntKind.wrap .i64 ((IntKind.wrap .i64 ((IntKind.wrap .i64 ((IntKind.wrap .i64 ((IntKind.wrap .i64 ((IntKind.wrap .i64 ((IntKind.wrap .i64 (x.1 + 1)) + 1)) + 1)) + 1)) + 1)) + 1)) + 1)) + 1)) + 1)) + 1)) + 1)) + 1)) + 1))) (
                                k1 (IntKind.wrap .i64 ((IntKind.wrap .i64 ((IntKind.wrap .i64 ((IntKind.wrap .i64 ((IntKind.wrap .i64 ((IntKind.wrap .i64 ((IntKind.wrap .i64 ((IntKind.wrap .i64 ((IntKind.wrap .i64 ((IntKind.wrap .i64 ((IntKind.wrap .i64 ((IntKind.wrap .i64 ((IntKind.wrap .i64 (x.1 + 1)) + 1)) + 1)) + 1)) + 1)) + 1)) + 1)) + 1)) + 1)) + 1)) + 1)) + 1)) + 1)) (-1) x.2) (
                                bindO (idx v0 x.2) fun x15 =>
                                cond (x15.2.2.2.1.1.2.2.2.2.1 != (IntKind.wrap .i64 ((IntKind.wrap .i64 ((IntKind.wrap .i64 ((IntKind.wrap .i64 ((IntKind.wrap .i64 ((IntKind.wrap .i64 ((IntKind.wrap .i64 ((IntKind.wrap .i64 ((IntKind.wrap .i64 ((IntKind.wrap .i64 ((IntKind.wrap .i64 ((IntKind.wrap .i64 ((IntKind.wrap .i64 ((IntKind.wrap .i64 (x.1 + 1)) + 1)) + 1)) + 1)) + 1)) + 1)) + 1)) + 1)) + 1)) + 1)) + 1)) + 1)) + 1)) + 1))) (
                                  k1 (IntKind.wrap .i64 ((IntKind.wrap .i64 ((IntKind.wrap .i64 ((IntKind.wrap .i64 ((IntKind.wrap .i64 ((IntKind.wrap .i64 ((IntKind.wrap .i64 ((IntKind.wrap .i64 ((IntKind.wrap .i64 ((IntKind.wrap .i64 ((IntKind.wrap .i64 ((IntKind.wrap .i64 ((IntKind.wrap .i64 ((IntKind.wrap .i64 (x.1 + 1)) + 1)) + 1)) + 1)) + 1)) + 1)) + 1)) + 1)) + 1)) + 1)) + 1)) + 1)) + 1)) + 1)) (-1) x.2) (
                                  bindO (idx v0 x.2) fun x16 =>
                                  cond (x16.2.2.2.1.1.2.2.2.2.2.1 != (IntKind.wrap .i64 ((IntKind.wrap .i64 ((IntKind.wrap .i64 ((IntKind.wrap .i64 ((IntKind.wrap .i64 ((IntKind.wrap .i64 ((IntKind.wrap .i64 ((IntKind.wrap .i64 ((IntKind.wrap .i64 ((IntKind.wrap .i64 ((IntKind.wrap .i64 ((IntKind.wrap .i64 ((IntKind.wrap .i64 ((IntKind.wrap .i64 ((IntKind.wrap .i64 (x.1 + 1)) + 1)) + 1)) + 1)) + 1)) + 1)) + 1)) + 1)) + 1)) + 1)) + 1)) + 1)) + 1)) + 1)) + 1))) (
                                    k1 (IntKind.wrap .i64 ((IntKind.wrap .i64 ((IntKind.wrap .i64 ((IntKind.wrap .i64 ((IntKind.wrap .i64 ((IntKind.wrap .i64 ((IntKind.wrap .i64 ((IntKind.wrap .i64 ((IntKind.wrap .i64 ((IntKind.wrap .i64 ((IntKind.wrap .i64 ((IntKind.wrap .i64 ((IntKind.wrap .i64 ((IntKind.wrap .i64 ((IntKind.wrap .i64 (x.1 + 1)) + 1)) + 1)) + 1)) + 1)) + 1)) + 1)) + 1)) + 1)) + 1)) + 1)) + 1)) + 1)) + 1)) + 1)) (-1) x.2) (
                                    bindO (idx v0 x.2) fun x17 =>
                                    cond (x17.2.2.2.1.1.2.2.2.2.2.2.1 != (IntKind.wrap .i64 ((IntKind.wrap .i64 ((IntKind.wrap .i64 ((IntKind.wrap .i64 ((IntKind.wrap .i64 ((IntKind.wrap .i64 ((IntKind.wrap .i64 ((IntKind.wrap .i64 ((IntKind.wrap .i64 ((IntKind.wrap .i64 ((IntKind.wrap .i64 ((IntKind.wrap .i64 ((IntKind.wrap .i64 ((IntKind.wrap .i64 ((IntKind.wrap .i64 ((IntKind.wrap .i64 (x.1 + 1)) + 1)) + 1)) + 1)) + 1)) + 1)) + 1)) + 1)) + 1)) + 1)) + 1)) + 1)) + 1)) + 1)) + 1)) + 1))) (
                                      k1 (IntKind.wrap .i64 ((IntKind.wrap .i64 ((IntKind.wrap .i64 ((IntKind.wrap .i64 ((IntKind.wrap .i64 ((IntKind.wrap .i64 ((IntKind.wrap .i64 ((IntKind.wrap .i64 ((IntKind.wrap .i64 ((IntKind.wrap .i64 ((IntKind.wrap .i64 ((IntKind.wrap .i64 ((IntKind.wrap .i64 ((IntKind.wrap .i64 ((IntKind.wrap .i64 ((IntKind.wrap .i64 (x.1 + 1)) + 1)) + 1)) + 1)) + 1)) + 1)) + 1)) + 1)) + 1)) + 1)) + 1)) + 1)) + 1)) + 1)) + 1)) + 1)) (-1) x.2) (
                                      bindO (idx v0 x.2) fun x18 =>
                                      cond (x18.2.2.2.1.1.2.2.2.2.2.2.2.1 != (IntKind.wrap .i64 ((IntKind.wrap .i64 ((IntKind.wrap .i64 ((IntKind.wrap .i64 ((IntKind.wrap .i64 ((IntKind.wrap .i64 ((IntKind.wrap .i64 ((IntKind.wrap .i64 ((IntKind.wrap .i64 ((IntKind.wrap .i64 ((IntKind.wrap .i64 ((IntKind.wrap .i64 ((IntKind.wrap .i64 ((IntKind.wrap .i64 ((IntKind.wrap .i64 ((IntKind.wrap .i64 ((IntKind.wrap .i64 (x.1 + 1)) + 1)) + 1)) + 1)) + 1)) + 1)) + 1)) + 1)) + 1)) + 1)) + 1)) + 1)) + 1)) + 1)) + 1)) + 1)) + 1))) (
                                        k1 (IntKind.wrap .i64 ((IntKind.wrap .i64 ((IntKind.wrap .i64 ((IntKind.wrap .i64 ((IntKind.wrap .i64 ((IntKind.wrap .i64 ((IntKind.wrap .i64 ((IntKind.wrap .i64 ((IntKind.wrap .i64 ((IntKind.wrap .i64 ((IntKind.wrap .i64 ((IntKind.wrap .i64 ((IntKind.wrap .i64 ((IntKind.wrap .i64 ((IntKind.wrap .i64 ((IntKind.wrap .i64 ((IntKind.wrap .i64 (x.1 + 1)) + 1)) + 1)) + 1)) + 1)) + 1)) + 1)) + 1)) + 1)) + 1)) + 1)) + 1)) + 1)) + 1)) + 1)) + 1)) + 1)) (-1) x.2) (
                                        bindO (idx v0 x.2) fun x19 =>
                                        cond (x19.2.2.2.1.1.2.2.2.2.2.2.2.2.1 != (IntKind.wrap .i64 ((IntKind.wrap .i64 ((IntKind.wrap .i64 ((IntKind.wrap .i64 ((IntKind.wrap .i64 ((IntKind.wrap .i64 ((IntKind.wrap .i64 ((IntKind.wrap .i64 ((IntKind.wrap .i64 ((IntKind.wrap .i64 ((IntKind.wrap .i64 ((IntKind.wrap .i64 ((IntKind.wrap .i64 ((IntKind.wrap .i64 ((IntKind.wrap .i64 ((IntKind.wrap .i64 ((IntKind.wrap .i64 ((IntKind.wrap .i64 (x.1 + 1)) + 1)) + 1)) + 1)) + 1)) + 1)) + 1)) + 1)) + 1)) + 1)) + 1)) + 1)) + 1)) + 1)) + 1)) + 1)) + 1)) + 1))) (
                                          k1 (IntKind.wrap .i64 ((IntKind.wrap .i64 ((IntKind.wrap .i64 ((IntKind.wrap .i64 ((IntKind.wrap .i64 ((IntKind.wrap .i64 ((IntKind.wrap .i64 ((IntKind.wrap .i64 ((IntKind.wrap .i64 ((IntKind.wrap .i64 ((IntKind.wrap .i64 ((IntKind.wrap .i64 ((IntKind.wrap .i64 ((IntKind.wrap .i64 ((IntKind.wrap .i64 ((IntKind.wrap .i64 ((IntKind.wrap .i64 ((IntKind.wrap .i64 (x.1 + 1)) + 1)) + 1)) + 1)) + 1)) + 1)) + 1)) + 1)) + 1)) + 1)) + 1)) + 1)) + 1)) + 1)) + 1)) + 1)) + 1)) + 1)) (-1) x.2) (
                                          bindO (idx v0 x.2) fun x20 =>
                                          cond (x20.2.2.2.1.1.2.2.2.2.2.2.2.2.2.1 != (IntKind.wrap .i64 ((IntKind.wrap .i64 ((IntKind.wrap .i64 ((IntKind.wrap .i64 ((IntKind.wrap .i64 ((IntKind.wrap .i64 ((IntKind.wrap .i64 ((IntKind.wrap .i64 ((IntKind.wrap .i64 ((IntKind.wrap .i64 ((IntKind.wrap .i64 ((IntKind.wrap .i64 ((IntKind.wrap .i64 ((IntKind.wrap .i64 ((IntKind.wrap .i64 ((IntKind.wrap .i64 ((IntKind.wrap .i64 ((IntKind.wrap .i64 ((IntKind.wrap .i64 (x.1 + 1)) + 1)) + 1)) + 1)) + 1)) + 1)) + 1)) + 1)) + 1)) + 1)) + 1)) + 1)) + 1)) + 1)) + 1)) + 1)) + 1)) + 1)) + 1))) (
                                            k1 (IntKind.wrap .i64 ((IntKind.wrap .i64 ((IntKind.wrap .i64 ((IntKind.wrap .i64 ((IntKind.wrap .i64 ((IntKind.wrap .i64 ((IntKind.wrap .i64 ((IntKind.wrap .i64 ((IntKind.wrap .i64 ((IntKind.wrap .i64 ((IntKind.wrap .i64 ((IntKind.wrap .i64 ((IntKind.wrap .i64 ((IntKind.wrap .i64 ((IntKind.wrap .i64 ((IntKind.wrap .i64 ((IntKind.wrap .i64 ((IntKind.wrap .i64 ((IntKind.wrap .i64 (x.1 + 1)) + 1)) + 1)) + 1)) + 1)) + 1)) + 1)) + 1)) + 1)) + 1)) + 1)) + 1)) + 1)) + 1)) + 1)) + 1)) + 1)) + 1)) + 1)) (-1) x.2) (
                                            bindO (idx v0 x.2) fun x21 =>
                                            cond (x21.2.2.2.1.1.2.2.2.2.2.2.2.2.2.2.1 != (IntKind.wrap .i64 ((IntKind.wrap .i64 ((IntKind.wrap .i64 ((IntKind.wrap .i64 ((IntKind.wrap .i64 ((IntKind.wrap .i64 ((IntKind.wrap .i64 ((IntKind.wrap .i64 ((IntKind.wrap .i64 ((IntKind.wrap .i64 ((IntKind.wrap .i64 ((IntKind.wrap .i64 ((IntKind.wrap .i64 ((IntKind.wrap .i64 ((IntKind.wrap .i64 ((IntKind.wrap .i64 ((IntKind.wrap .i64 ((IntKind.wrap .i64 ((IntKind.wrap .i64 ((IntKind.wrap .i64 (x.1 + 1)) + 1)) + 1)) + 1)) + 1)) + 1)) + 1)) + 1)) + 1)) + 1)) + 1)) + 1)) + 1)) + 1)) + 1)) + 1)) + 1)) + 1)) + 1)) + 1))) (
                                              k1 (IntKind.wrap .i64 ((IntKind.wrap .i64 ((IntKind.wrap .i64 ((IntKind.wrap .i64 ((IntKind.wrap .i64 ((IntKind.wrap .i64 ((IntKind.wrap .i64 ((IntKind.wrap .i64 ((IntKind.wrap .i64 ((IntKind.wrap .i64 ((IntKind.wrap .i64 ((IntKind.wrap .i64 ((IntKind.wrap .i64 ((IntKind.wrap .i64 ((IntKind.wrap .i64 ((IntKind.wrap .i64 ((IntKind.wrap .i64 ((IntKind.wrap .i64 ((IntKind.wrap .i64 ((IntKind.wrap .i64 (x.1 + 1)) + 1)) + 1)) + 1)) + 1)) + 1)) + 1)) + 1)) + 1)) + 1)) + 1)) + 1)) + 1)) + 1)) + 1)) + 1)) + 1)) + 1)) + 1)) + 1)) (-1) x.2) (
                                              bindO (idx v0 x.2) fun x22 =>
                                              cond (x22.2.2.2.1.1.2.2.2.2.2.2.2.2.2.2.2.1 != (IntKind.wrap .i64 ((IntKind.wrap .i64 ((IntKind.wrap .i64 ((IntKind.wrap .i64 ((IntKind.wrap .i64 ((IntKind.wrap .i64 ((IntKind.wrap .i64 ((IntKind.wrap .i64 ((IntKind.wrap .i64 ((IntKind.wrap .i64 ((IntKind.wrap .i64 ((IntKind.wrap .i64 ((IntKind.wrap .i64 ((IntKind.wrap .i64 ((IntKind.wrap .i64 ((IntKind.wrap .i64 ((IntKind.wrap .i64 ((IntKind.wrap .i64 ((IntKind.wrap .i64 ((IntKind.wrap .i64 ((IntKind.wrap .i64 (x.1 + 1)) + 1)) + 1)) + 1)) + 1)) + 1)) + 1)) + 1)) + 1)) + 1)) + 1)) + 1)) + 1)) + 1)) + 1)) + 1)) + 1)) + 1)) + 1)) + 1)) + 1))) (
                                                k1 (IntKind.wrap .i64 ((IntKind.wrap .i64 ((IntKind.wrap .i64 ((IntKind.wrap .i64 ((IntKind.wrap .i64 ((IntKind.wrap .i64 ((IntKind.wrap .i64 ((IntKind.wrap .i64 ((IntKind.wrap .i64 ((IntKind.wrap .i64 ((IntKind.wrap .i64 ((IntKind.wrap .i64 ((IntKind.wrap .i64 ((IntKind.wrap .i64 ((IntKind.wrap .i64 ((IntKind.wrap .i64 ((IntKind.wrap .i64 ((IntKind.wrap .i64 ((IntKind.wrap .i64 ((IntKind.wrap .i64 ((IntKind.wrap .i64 (x.1 + 1)) + 1)) + 1)) + 1)) + 1)) + 1)) + 1)) + 1)) + 1)) + 1)) + 1)) + 1)) + 1)) + 1)) + 1)) + 1)) + 1)) + 1)) + 1)) + 1)) + 1)) (-1) x.2) (
                                                bindO (idx v0 x.2) fun x23 =>
                                                cond (x23.2.2.2.1.1.2.2.2.2.2.2.2.2.2.2.2.2.1 != (IntKind.wrap .i64 ((IntKind.wrap .i64 ((IntKind.wrap .i64 ((IntKind.wrap .i64 ((IntKind.wrap .i64 ((IntKind.wrap .i64 ((IntKind.wrap .i64 ((IntKind.wrap .i64 ((IntKind.wrap .i64 ((IntKind.wrap .i64 ((IntKind.wrap .i64 ((IntKind.wrap .i64 ((IntKind.wrap .i64 ((IntKind.wrap .i64 ((IntKind.wrap .i64 ((IntKind.wrap .i64 ((IntKind.wrap .i64 ((IntKind.wrap .i64 ((IntKind.wrap .i64 ((IntKind.wrap .i64 ((IntKind.wrap .i64 ((IntKind.wrap .i64 (x.1 + 1)) + 1)) + 1)) + 1)) + 1)) + 1)) + 1)) + 1)) + 1)) + 1)) + 1)) + 1)) + 1)) + 1)) + 1)) + 1)) + 1)) + 1)) + 1)) + 1)) + 1)) + 1))) (
                                                  k1 (IntKind.wrap .i64 ((IntKind.wrap .i64 ((IntKind.wrap .i64 ((IntKind.wrap .i64 ((IntKind.wrap .i64 ((IntKind.wrap .i64 ((IntKind.wrap .i64 ((IntKind.wrap .i64 ((IntKind.wrap .i64 ((IntKind.wrap .i64 ((IntKind.wrap .i64 ((IntKind.wrap .i64 ((IntKind.wrap .i64 ((IntKind.wrap .i64 ((IntKind.wrap .i64 ((IntKind.wrap .i64 ((IntKind.wrap .i64 ((IntKind.wrap .i64 ((IntKind.wrap .i64 ((IntKind.wrap .i64 ((IntKind.wrap .i64 ((IntKind.wrap .i64 (x.1 + 1)) + 1)) + 1)) + 1)) + 1)) + 1)) + 1)) + 1)) + 1)) + 1)) + 1)) + 1)) + 1)) + 1)) + 1)) + 1)) + 1)) + 1)) + 1)) + 1)) + 1)) + 1)) (-1) x.2) (
                                                  bindO (idx v0 x.2) fun x24 =>
                                                  cond (x24.2.2.2.1.1.2.2.2.2.2.2.2.2.2.2.2.2.2.1 != (IntKind.wrap .i64 ((IntKind.wrap .i64 ((IntKind.wrap .i64 ((IntKind.wrap .i64 ((IntKind.wrap .i64 ((IntKind.wrap .i64 ((IntKind.wrap .i64 ((IntKind.wrap .i64 ((IntKind.wrap .i64 ((IntKind.wrap .i64 ((IntKind.wrap .i64 ((IntKind.wrap .i64 ((IntKind.wrap .i64 ((IntKind.wrap .i64 ((IntKind.wrap .i64 ((IntKind.wrap .i64 ((IntKind.wrap .i64 ((IntKind.wrap .i64 ((IntKind.wrap .i64 ((IntKind.wrap .i64 ((IntKind.wrap .i64 ((IntKind.wrap .i64 ((IntKind.wrap .i64 (x.1 + 1)) + 1)) + 1)) + 1)) + 1)) + 1)) + 1)) + 1)) + 1)) + 1)) + 1)) + 1)) + 1)) + 1)) + 1)) + 1)) + 1)) + 1)) + 1)) + 1)) + 1)) + 1)) + 1))) (
                                                    k1 (IntKind.wrap .i64 ((IntKind.wrap .i64 ((IntKind.wrap .i64 ((IntKind.wrap .i64 ((IntKind.wrap .i64 ((IntKind.wrap .i64 ((IntKind.wrap .i64 ((IntKind.wrap .i64 ((IntKind.wrap .i64 ((IntKind.wrap .i64 ((IntKind.wrap .i64 ((IntKind.wrap .i64 ((IntKind.wrap .i64 ((IntKind.wrap .i64 ((IntKind.wrap .i64 ((IntKind.wrap .i64 ((IntKind.wrap .i64 ((IntKind.wrap .i64 ((IntKind.wrap .i64 ((IntKind.wrap .i64 ((IntKind.wrap .i64 ((IntKind.wrap .i64 ((IntKind.wrap .i64 (x.1 + 1)) + 1)) + 1)) + 1)) + 1)) + 1)) + 1)) + 1)) + 1)) + 1)) + 1)) + 1)) + 1)) + 1)) + 1)) + 1)) + 1)) + 1)) + 1)) + 1)) + 1)) + 1)) + 1)) (-1) x.2) (
                                                    bindO (idx v0 x.2) fun x25 =>
                                                    cond (x25.2.2.2.1.1.2.2.2.2.2.2.2.2.2.2.2.2.2.2.1 != (IntKind.wrap .i64 ((IntKind.wrap .i64 ((IntKind.wrap .i64 ((IntKind.wrap .i64 ((IntKind.wrap .i64 ((IntKind.wrap .i64 ((IntKind.wrap .i64 ((IntKind.wrap .i64 ((IntKind.wrap .i64 ((IntKind.wrap .i64 ((IntKind.wrap .i64 ((IntKind.wrap .i64 ((IntKind.wrap .i64 ((IntKind.wrap .i64 ((IntKind.wrap .i64 ((IntKind.wrap .i64 ((IntKind.wrap .i64 ((IntKind.wrap .i64 ((IntKind.wrap .i64 ((IntKind.wrap .i64 ((IntKind.wrap .i64 ((IntKind.wrap .i64 ((IntKind.wrap .i64 ((IntKind.wrap .i64 (x.1 + 1)) + 1)) + 1)) + 1)) + 1)) + 1)) + 1)) + 1)) + 1)) + 1)) + 1)) + 1)) + 1)) + 1)) + 1)) + 1)) + 1)) + 1)) + 1)) + 1)) + 1)) + 1)) + 1)) + 1))) (
                                                      k1 (IntKind.wrap .i64 ((IntKind.wrap .i64 ((IntKind.wrap .i64 ((IntKind.wrap .i64 ((IntKind.wrap .i64 ((IntKind.wrap .i64 ((IntKind.wrap .i64 ((IntKind.wrap .i64 ((IntKind.wrap .i64 ((IntKind.wrap .i64 ((IntKind.wrap .i64 ((IntKind.wrap .i64 ((IntKind.wrap .i64 ((IntKind.wrap .i64 ((IntKind.wrap .i64 ((IntKind.wrap .i64 ((IntKind.wrap .i64 ((IntKind.wrap .i64 ((IntKind.wrap .i64 ((IntKind.wrap .i64 ((IntKind.wrap .i64 ((IntKind.wrap .i64 ((IntKind.wrap .i64 ((IntKind.wrap .i64 (x.1 + 1)) + 1)) + 1)) + 1)) + 1)) + 1)) + 1)) + 1)) + 1)) + 1)) + 1)) + 1)) + 1)) + 1)) + 1)) + 1)) + 1)) + 1)) + 1)) + 1)) + 1)) + 1)) + 1)) + 1)) (-1) x.2) (
                                                      bindO (idx v0 x.2) fun x26 =>
                                                      bindO (laws_markText (IntKind.wrap .i64 ((IntKind.wrap .i64 ((IntKind.wrap .i64 ((IntKind.wrap .i64 ((IntKind.wrap .i64 ((IntKind.wrap .i64 ((IntKind.wrap .i64 ((IntKind.wrap .i64 ((IntKind.wrap .i64 ((IntKind.wrap .i64 ((IntKind.wrap .i64 ((IntKind.wrap .i64 ((IntKind.wrap .i64 ((IntKind.wrap .i64 ((IntKind.wrap .i64 ((IntKind.wrap .i64 ((IntKind.wrap .i64 ((IntKind.wrap .i64 ((IntKind.wrap .i64 ((IntKind.wrap .i64 ((IntKind.wrap .i64 ((IntKind.wrap .i64 ((IntKind.wrap .i64 ((IntKind.wrap .i64 ((IntKind.wrap .i64 (x.1 + 1)) + 1)) + 1)) + 1)) + 1)) + 1)) + 1)) + 1)) + 1)) + 1)) + 1)) + 1)) + 1)) + 1)) + 1)) + 1)) + 1)) + 1)) + 1)) + 1)) + 1)) + 1)) + 1)) + 1)) + 1))) fun r27 =>
                                                      cond (!(x26.2.2.2.1.1.2.2.2.2.2.2.2.2.2.2.2.2.2.2.2 == r27)) (
                                                        k1 (IntKind.wrap .i64 ((IntKind.wrap .i64 ((IntKind.wrap .i64 ((IntKind.wrap .i64 ((IntKind.wrap .i64 ((IntKind.wrap .i64 ((IntKind.wrap .i64 ((IntKind.wrap .i64 ((IntKind.wrap .i64 ((IntKind.wrap .i64 ((IntKind.wrap .i64 ((IntKind.wrap .i64 ((IntKind.wrap .i64 ((IntKind.wrap .i64 ((IntKind.wrap .i64 ((IntKind.wrap .i64 ((IntKind.wrap .i64 ((IntKind.wrap .i64 ((IntKind.wrap .i64 ((IntKind.wrap .i64 ((IntKind.wrap .i64 ((IntKind.wrap .i64 ((IntKind.wrap .i64 ((IntKind.wrap .i64 ((IntKind.wrap .i64 (x.1 + 1)) + 1)) + 1)) + 1)) + 1)) + 1)) + 1)) + 1)) + 1)) + 1)) + 1)) + 1)) + 1)) + 1)) + 1)) + 1)) + 1)) + 1)) + 1)) + 1)) + 1)) + 1)) + 1)) + 1)) + 1)) (-1) x.2) (
                                                        bindO (idx v0 x.2) fun x28 =>
                                                        cond (x28.2.2.2.1.2.1 != (IntKind.wrap .i64 ((IntKind.wrap .i64 ((IntKind.wrap .i64 ((IntKind.wrap .i64 ((IntKind.wrap .i64 ((IntKind.wrap .i64 ((IntKind.wrap .i64 ((IntKind.wrap .i64 ((IntKind.wrap .i64 ((IntKind.wrap .i64 ((IntKind.wrap .i64 ((IntKind.wrap .i64 ((IntKind.wrap .i64 ((IntKind.wrap .i64 ((IntKind.wrap .i64 ((IntKind.wrap .i64 ((IntKind.wrap .i64 ((IntKind.wrap .i64 ((IntKind.wrap .i64 ((IntKind.wrap .i64 ((IntKind.wrap .i64 ((IntKind.wrap .i64 ((IntKind.wrap .i64 ((IntKind.wrap .i64 ((IntKind.wrap .i64 ((IntKind.wrap .i64 (x.1 + 1)) + 1)) + 1)) + 1)) + 1)) + 1)) + 1)) + 1)) + 1)) + 1)) + 1)) + 1)) + 1)) + 1)) + 1)) + 1)) + 1)) + 1)) + 1)) + 1)) + 1)) + 1)) + 1)) + 1)) + 1)) + 1))) (
                                                          k1 (IntKind.wrap .i64 ((IntKind.wrap .i64 ((IntKind.wrap .i64 ((IntKind.wrap .i64 ((IntKind.wrap .i64 ((IntKind.wrap .i64 ((IntKind.wrap .i64 ((IntKind.wrap .i64 ((IntKind.wrap .i64 ((IntKind.wrap .i64 ((IntKind.wrap .i64 ((IntKind.wrap .i64 ((IntKind.wrap .i64 ((IntKind.wrap .i64 ((IntKind.wrap .i64 ((IntKind.wrap .i64 ((IntKind.wrap .i64 ((IntKind.wrap .i64 ((IntKind.wrap .i64 ((IntKind.wrap .i64 ((IntKind.wrap .i64 ((IntKind.wrap .i64 ((IntKind.wrap .i64 ((IntKind.wrap .i64 ((IntKind.wrap .i64 ((IntKind.wrap .i64 (x.1 + 1)) + 1)) + 1)) + 1)) + 1)) + 1)) + 1)) + 1)) + 1)) + 1)) + 1)) + 1)) + 1)) + 1)) + 1)) + 1)) + 1)) + 1)) + 1)) + 1)) + 1)) + 1)) + 1)) + 1)) + 1)) + 1)) (-1) x.2) (
                                                          bindO (idx v0 x.2) fun x29 =>
                                                          cond (x29.2.2.2.1.2.2 != (IntKind.wrap .i64 ((IntKind.wrap .i64 ((IntKind.wrap .i64 ((IntKind.wrap .i64 ((IntKind.wrap .i64 ((IntKind.wrap .i64 ((IntKind.wrap .i64 ((IntKind.wrap .i64 ((IntKind.wrap .i64 ((IntKind.wrap .i64 ((IntKind.wrap .i64 ((IntKind.wrap .i64 ((IntKind.wrap .i64 ((IntKind.wrap .i64 ((IntKind.wrap .i64 ((IntKind.wrap .i64 ((IntKind.wrap .i64 ((IntKind.wrap .i64 ((IntKind.wrap .i64 ((IntKind.wrap .i64 ((IntKind.wrap .i64 ((IntKind.wrap .i64 ((IntKind.wrap .i64 ((IntKind.wrap .i64 ((IntKind.wrap .i64 ((IntKind.wrap .i64 ((IntKind.wrap .i64 (x.1 + 1)) + 1)) + 1)) + 1)) + 1)) + 1)) + 1)) + 1)) + 1)) + 1)) + 1)) + 1)) + 1)) + 1)) + 1)) + 1)) + 1)) + 1)) + 1)) + 1)) + 1)) + 1)) + 1)) + 1)) + 1)) + 1)) + 1))) (
                                                            k1 (IntKind.wrap .i64 ((IntKind.wrap .i64 ((IntKind.wrap .i64 ((IntKind.wrap .i64 ((IntKind.wrap .i64 ((IntKind.wrap .i64 ((IntKind.wrap .i64 ((IntKind.wrap .i64 ((IntKind.wrap .i64 ((IntKind.wrap .i64 ((IntKind.wrap .i64 ((IntKind.wrap .i64 ((IntKind.wrap .i64 ((IntKind.wrap .i64 ((IntKind.wrap .i64 ((IntKind.wrap .i64 ((IntKind.wrap .i64 ((IntKind.wrap .i64 ((IntKind.wrap .i64 ((IntKind.wrap .i64 ((IntKind.wrap .i64 ((IntKind.wrap .i64 ((IntKind.wrap .i64 ((IntKind.wrap .i64 ((IntKind.wrap .i64 ((IntKind.wrap .i64 ((IntKind.wrap .i64 (x.1 + 1)) + 1)) + 1)) + 1)) + 1)) + 1)) + 1)) + 1)) + 1)) + 1)) + 1)) + 1)) + 1)) + 1)) + 1)) + 1)) + 1)) + 1)) + 1)) + 1)) + 1)) + 1)) + 1)) + 1)) + 1)) + 1)) + 1)) (-1) x.2) (
                                                            bindO (idx v0 x.2) fun x30 =>
                                                            if 3 = 0 then none else (
                                                            cond (!(x30.2.2.2.2.1 == ((Int.tmod (IntKind.wrap .i64 ((IntKind.wrap .i64 ((IntKind.wrap .i64 ((IntKind.wrap .i64 ((IntKind.wrap .i64 ((IntKind.wrap .i64 ((IntKind.wrap .i64 ((IntKind.wrap .i64 ((IntKind.wrap .i64 ((IntKind.wrap .i64 ((IntKind.wrap .i64 ((IntKind.wrap .i64 ((IntKind.wrap .i64 ((IntKind.wrap .i64 ((IntKind.wrap .i64 ((IntKind.wrap .i64 ((IntKind.wrap .i64 ((IntKind.wrap .i64 ((IntKind.wrap .i64 ((IntKind.wrap .i64 ((IntKind.wrap .i64 ((IntKind.wrap .i64 ((IntKind.wrap .i64 ((IntKind.wrap .i64 ((IntKind.wrap .i64 ((IntKind.wrap .i64 ((IntKind.wrap .i64 ((IntKind.wrap .i64 (x.1 + 1)) + 1)) + 1)) + 1)) + 1)) + 1)) + 1)) + 1)) + 1)) + 1)) + 1)) + 1)) + 1)) + 1)) + 1)) + 1)) + 1)) + 1)) + 1)) + 1)) + 1)) + 1)) + 1)) + 1)) + 1)) + 1)) + 1)) + 1)) 3) == 0))) (
                                                              k1 (IntKind.wrap .i64 ((IntKind.wrap .i64 ((IntKind.wrap .i64 ((IntKind.wrap .i64 ((IntKind.wrap .i64 ((IntKind.wrap .i64 ((IntKind.wrap .i64 ((IntKind.wrap .i64 ((IntKind.wrap .i64 ((IntKind.wrap .i64 ((IntKind.wrap .i64 ((IntKind.wrap .i64 ((IntKind.wrap .i64 ((IntKind.wrap .i64 ((IntKind.wrap .i64 ((IntKind.wrap .i64 ((IntKind.wrap .i64 ((IntKind.wrap .i64 ((IntKind.wrap .i64 ((IntKind.wrap .i64 ((IntKind.wrap .i64 ((IntKind.wrap .i64 ((IntKind.wrap .i64 ((IntKind.wrap .i64 ((IntKind.wrap .i64 ((IntKind.wrap .i64 ((IntKind.wrap .i64 ((IntKind.wrap .i64 (x.1 + 1)) + 1)) + 1)) + 1)) + 1)) + 1)) + 1)) + 1)) + 1)) + 1)) + 1)) + 1)) + 1)) + 1)) + 1)) + 1)) + 1)) + 1)) + 1)) + 1)) + 1)) + 1)) + 1)) + 1)) + 1)) + 1)) + 1)) + 1)) (-1) x.2) (
                                                              bindO (idx v0 x.2) fun x31 =>
                                                              cond (x31.2.2.2.2.2 != (IntKind.wrap .i64 ((IntKind.wrap .i64 ((IntKind.wrap .i64 ((IntKind.wrap .i64 ((IntKind.wrap .i64 ((IntKind.wrap .i64 ((IntKind.wrap .i64 ((IntKind.wrap .i64 ((IntKind.wrap .i64 ((IntKind.wrap .i64 ((IntKind.wrap .i64 ((IntKind.wrap .i64 ((IntKind.wrap .i64 ((IntKind.wrap .i64 ((IntKind.wrap .i64 ((IntKind.wrap .i64 ((IntKind.wrap .i64 ((IntKind.wrap .i64 ((IntKind.wrap .i64 ((IntKind.wrap .i64 ((IntKind.wrap .i64 ((IntKind.wrap .i64 ((IntKind.wrap .i64 ((IntKind.wrap .i64 ((IntKind.wrap .i64 ((IntKind.wrap .i64 ((IntKind.wrap .i64 ((IntKind.wrap .i64 ((IntKind.wrap .i64 (x.1 + 1)) + 1)) + 1)) + 1)) + 1)) + 1)) + 1)) + 1)) + 1)) + 1)) + 1)) + 1)) + 1)) + 1)) + 1)) + 1)) + 1)) + 1)) + 1)) + 1)) + 1)) + 1)) + 1)) + 1)) + 1)) + 1)) + 1)) + 1)) + 1))) (
                                                                k1 (IntKind.wrap .i64 ((IntKind.wrap .i64 ((IntKind.wrap .i64 ((IntKind.wrap .i64 ((IntKind.wrap .i64 ((IntKind.wrap .i64 ((IntKind.wrap .i64 ((IntKind.wrap .i64 ((IntKind.wrap .i64 ((IntKind.wrap .i64 ((IntKind.wrap .i64 ((IntKind.wrap .i64 ((IntKind.wrap .i64 ((IntKind.wrap .i64 ((IntKind.wrap .i64 ((IntKind.wrap .i64 ((IntKind.wrap .i64 ((IntKind.wrap .i64 ((IntKind.wrap .i64 ((IntKind.wrap .i64 ((IntKind.wrap .i64 ((IntKind.wrap .i64 ((IntKind.wrap .i64 ((IntKind.wrap .i64 ((IntKind.wrap .i64 ((IntKind.wrap .i64 ((IntKind.wrap .i64 ((IntKind.wrap .i64 ((IntKind.wrap .i64 (x.1 + 1)) + 1)) + 1)) + 1)) + 1)) + 1)) + 1)) + 1)) + 1)) + 1)) + 1)) + 1)) + 1)) + 1)) + 1)) + 1)) + 1)) + 1)) + 1)) + 1)) + 1)) + 1)) + 1)) + 1)) + 1)) + 1)) + 1)) + 1)) + 1)) (-1) x.2) (
                                                                nx (IntKind.wrap .i64 ((IntKind.wrap .i64 ((IntKind.wrap .i64 ((IntKind.wrap .i64 ((IntKind.wrap .i64 ((IntKind.wrap .i64 ((IntKind.wrap .i64 ((IntKind.wrap .i64 ((IntKind.wrap .i64 ((IntKind.wrap .i64 ((IntKind.wrap .i64 ((IntKind.wrap .i64 ((IntKind.wrap .i64 ((IntKind.wrap .i64 ((IntKind.wrap .i64 ((IntKind.wrap .i64 ((IntKind.wrap .i64 ((IntKind.wrap .i64 ((IntKind.wrap .i64 ((IntKind.wrap .i64 ((IntKind.wrap .i64 ((IntKind.wrap .i64 ((IntKind.wrap .i64 ((IntKind.wrap .i64 ((IntKind.wrap .i64 ((IntKind.wrap .i64 ((IntKind.wrap .i64 ((IntKind.wrap .i64 ((IntKind.wrap .i64 ((IntKind.wrap .i64 (x.1 + 1)) + 1)) + 1)) + 1)) + 1)) + 1)) + 1)) + 1)) + 1)) + 1)) + 1)) + 1)) + 1)) + 1)) + 1)) + 1)) + 1)) + 1)) + 1)) + 1)) + 1)) + 1)) + 1)) + 1)) + 1)) + 1)) + 1)) + 1)) + 1)) + 1), IntKind.wrap .i64 (x.2 + 1)))))))))))))))))))))))))))))))))) (
    k0 x.1 x.2)
noncomputable def laws_heldRxQueueS (a0 : List RxQueue) (a1 : Int) : Option (Int) :=
  iterL (laws_heldRxQueueS_T2
    (fun (y32 : Int) (y33 : Int) =>
      some y32)
    (fun (y34 : Int) (y35 : Int) (y36 : Int) =>
      some y35) a0 0) fuel (a1, 0)
noncomputable def laws_heldPoolS_T2 {R : Type} (k0 : Int → Int → Option R) (k1 : Int → Int → Int → Option R) (v0 : List Pool) (v4 : Int) (nx : (Int × Int) → Option R) (x : Int × Int) : Option R :=
  cond (decide (x.2 < ((List.length v0 : Int)))) (
    bindO (idx v0 x.2) fun x1 =>
    cond (x1.1 != x.1) (
      k1 x.1 (-1) x.2) (
      bindO (idx v0 x.2) fun x2 =>
      cond (x2.2.1 != (IntKind.wrap .i64 (x.1 + 1))) (
        k1 (IntKind.wrap .i64 (x.1 + 1)) (-1) x.2) (
        bindO (idx v0 x.2) fun x3 =>
        cond (x3.2.2.1 != (IntKind.wrap .i64 ((IntKind.wrap .i64 (x.1 + 1)) + 1))) (
          k1 (IntKind.wrap .i64 ((IntKind.wrap .i64 (x.1 + 1)) + 1)) (-1) x.2) (
          bindO (idx v0 x.2) fun x4 =>
          bindO (laws_heldIntS x4.2.2.2 (IntKind.wrap .i64 ((IntKind.wrap .i64 ((IntKind.wrap .i64 (x.1 + 1)) + 1)) + 1))) fun r5 =>
          cond (decide (r5 < 0)) (
            k1 r5 (-1) x.2) (
            nx (r5, IntKind.wrap .i64 (x.2 + 1))))))) (
    k0 x.1 x.2)
noncomputable def laws_heldPoolS (a0 : List Pool) (a1 : Int) : Option (Int) :=
  iterL (laws_heldPoolS_T2
    (fun (y6 : Int) (y7 : Int) =>
      some y6)
    (fun (y8 : Int) (y9 : Int) (y10 : Int) =>
      some y9) a0 0) fuel (a1, 0)
noncomputable def laws_heldVectorS_T2 {R : Type} (k0 : Int → Int → Option R) (k1 : Int → Int → Int → Option R) (v0 : List Vector) (v4 : Int) (nx : (Int × Int) → Option R) (x : Int × Int) : Option R :=
  cond (decide (x.2 < ((List.length v0 : Int)))) (
    bindO (idx v0 x.2) fun x1 =>
    cond (x1.1 != x.1) (
      k1 x.1 (-1) x.2) (
      bindO (idx v0 x.2) fun x2 =>
      cond (x2.2.1 != (IntKind.wrap .i64 (x.1 + 1))) (
        k1 (IntKind.wrap .i64 (x.1 + 1)) (-1) x.2) (
        bindO (idx v0 x.2) fun x3 =>
        cond (x3.2.2.1 != (IntKind.wrap .i64 ((IntKind.wrap .i64 (x.1 + 1)) + 1))) (
          k1 (IntKind.wrap .i64 ((IntKind.wrap .i64 (x.1 + 1)) + 1)) (-1) x.2) (
          bindO (idx v0 x.2) fun x4 =>
          cond (x4.2.2.2.1 != (IntKind.wrap .i64 ((IntKind.wrap .i64 ((IntKind.wrap .i64 (x.1 + 1)) + 1)) + 1))) (
            k1 (IntKind.wrap .i64 ((IntKind.wrap .i64 ((IntKind.wrap .i64 (x.1 + 1)) + 1)) + 1)) (-1) x.2) (
            bindO (idx v0 x.2) fun x5 =>
            if 3 = 0 then none else (
            cond (!(x5.2.2.2.2.1 == ((Int.tmod (IntKind.wrap .i64 ((IntKind.wrap .i64 ((IntKind.wrap .i64 ((IntKind.wrap .i64 (x.1 + 1)) + 1)) + 1)) + 1)) 3) == 0))) (
              k1 (IntKind.wrap .i64 ((IntKind.wrap .i64 ((IntKind.wrap .i64 ((IntKind.wrap .i64 (x.1 + 1)) + 1)) + 1)) + 1)) (-1) x.2) (
              bindO (idx v0 x.2) fun x6 =>
              if 3 = 0 then none else (
              cond (!(x6.2.2.2.2.2 == ((Int.tmod (IntKind.wrap .i64 ((IntKind.wrap .i64 ((IntKind.wrap .i64 ((IntKind.wrap .i64 ((IntKind.wrap .i64 (x.1 + 1)) + 1)) + 1)) + 1)) + 1)) 3) == 0))) (
                k1 (IntKind.wrap .i64 ((IntKind.wrap .i64 ((IntKind.wrap .i64 ((IntKind.wrap .i64 ((IntKind.wrap .i64 (x.1 + 1)) + 1)) + 1)) + 1)) + 1)) (-1) x.2) (
                nx (IntKind.wrap .i64 ((IntKind.wrap .i64 ((IntKind.wrap .i64 ((IntKind.wrap .i64 ((IntKind.wrap .i64 ((IntKind.wrap .i64 (x.1 + 1)) + 1)) + 1)) + 1)) + 1)) + 1), IntKind.wrap .i64 (x.2 + 1))))))))))) (
    k0 x.1 x.2)
noncomputable def laws_heldVectorS (a0 : List Vector) (a1 : Int) : Option (Int) :=
  iterL (laws_heldVectorS_T2
    (fun (y7 : Int) (y8 : Int) =>
      some y7)
    (fun (y9 : Int) (y10 : Int) (y11 : Int) =>
      some y10) a0 0) fuel (a1, 0)
noncomputable def laws_heldBoolS_T2 {R : Type} (k0 : Int → Int → Option R) (k1 : Int → Int → Int → Option R) (v0 : List Bool) (v4 : Int) (nx : (Int × Int) → Option R) (x : Int × Int) : Option R :=
  cond (decide (x.2 < ((List.length v0 : Int)))) (
    bindO (idx v0 x.2) fun x1 =>
    if 3 = 0 then none else (
    cond (!(x1 == ((Int.tmod x.1 3) == 0))) (
      k1 x.1 (-1) x.2) (
      nx (IntKind.wrap .i64 (x.1 + 1), IntKind.wrap .i64 (x.2 + 1))))) (
    k0 x.1 x.2)
noncomputable def laws_heldBoolS (a0 : List Bool) (a1 : Int) : Option (Int) :=
  iterL (laws_heldBoolS_T2
    (fun (y2 : Int) (y3 : Int) =>
      some y2)
    (fun (y4 : Int) (y5 : Int) (y6 : Int) =>
      some y5) a0 0) fuel (a1, 0)
noncomputable def laws_heldFilter (a0 : Filter) (a1 : Int) : Option (Int) :=
  bindO (laws_heldIntS a0.2.2 a1) fun r1 =>
  cond (decide (r1 < 0)) (
    some (-1)) (
    some r1)
noncomputable def laws_heldRuleS_T2 {R : Type} (k0 : Int → Int → Option R) (k1 : Int → Int → Int → Option R) (v0 : List Rule) (v4 : Int) (nx : (Int × Int) → Option R) (x : Int × Int) : Option R :=
  cond (decide (x.2 < ((List.length v0 : Int)))) (
    bindO (idx v0 x.2) fun x1 =>
    cond (x1.1 != x.1) (
      k1 x.1 (-1) x.2) (
      bindO (idx v0 x.2) fun x2 =>
      cond (x2.2.1 != (IntKind.wrap .i64 (x.1 + 1))) (
        k1 (IntKind.wrap .i64 (x.1 + 1)) (-1) x.2) (
        bindO (idx v0 x.2) fun x3 =>
        cond (x3.2.2.1 != (IntKind.wrap .i64 ((IntKind.wrap .i64 (x.1 + 1)) + 1))) (
          k1 (IntKind.wrap .i64 ((IntKind.wrap .i64 (x.1 + 1)) + 1)) (-1) x.2) (
          bindO (idx v0 x.2) fun x4 =>
          cond (x4.2.2.2.1 != (IntKind.wrap .i64 ((IntKind.wrap .i64 ((IntKind.wrap .i64 (x.1 + 1)) + 1)) + 1))) (
            k1 (IntKind.wrap .i64 ((IntKind.wrap .i64 ((IntKind.wrap .i64 (x.1 + 1)) + 1)) + 1)) (-1) x.2) (
            bindO (idx v0 x.2) fun x5 =>
            cond (x5.2.2.2.2.1 != (IntKind.wrap .i64 ((IntKind.wrap .i64 ((IntKind.wrap .i64 ((IntKind.wrap .i64 (x.1 + 1)) + 1)) + 1)) + 1))) (
              k1 (IntKind.wrap .i64 ((IntKind.wrap .i64 ((IntKind.wrap .i64 ((IntKind.wrap .i64 (x.1 + 1)) + 1)) + 1)) + 1)) (-1) x.2) (
              bindO (idx v0 x.2) fun x6 =>
              cond (x6.2.2.2.2.2.1 != (IntKind.wrap .i64 ((IntKind.wrap .i64 ((IntKind.wrap .i64 ((IntKind.wrap .i64 ((IntKind.wrap .i64 (x.1 + 1)) + 1)) + 1)) + 1)) + 1))) (
                k1 (IntKind.wrap .i64 ((IntKind.wrap .i64 ((IntKind.wrap .i64 ((IntKind.wrap .i64 ((IntKind.wrap .i64 (x.1 + 1)) + 1)) + 1)) + 1)) + 1)) (-1) x.2) (
                bindO (idx v0 x.2) fun x7 =>
                cond (x7.2.2.2.2.2.2.1 != (IntKind.wrap .i64 ((IntKind.wrap .i64 ((IntKind.wrap .i64 ((IntKind.wrap .i64 ((IntKind.wrap .i64 ((IntKind.wrap .i64 (x.1 + 1)) + 1)) + 1)) + 1)) + 1)) + 1))) (
                  k1 (IntKind.wrap .i64 ((IntKind.wrap .i64 ((IntKind.wrap .i64 ((IntKind.wrap .i64 ((IntKind.wrap .i64 ((IntKind.wrap .i64 (x.1 + 1)) + 1)) + 1)) + 1)) + 1)) + 1)) (-1) x.2) (
                  bindO (idx v0 x.2) fun x8 =>
                  cond (x8.2.2.2.2.2.2.2.1 != (IntKind.wrap .i64 ((IntKind.wrap .i64 ((IntKind.wrap .i64 ((IntKind.wrap .i64 ((IntKind.wrap .i64 ((IntKind.wrap .i64 ((IntKind.wrap .i64 (x.1 + 1)) + 1)) + 1)) + 1)) + 1)) + 1)) + 1))) (
                    k1 (IntKind.wrap .i64 ((IntKind.wrap .i64 ((IntKind.wrap .i64 ((IntKind.wrap .i64 ((IntKind.wrap .i64 ((IntKind.wrap .i64 ((IntKind.wrap .i64 (x.1 + 1)) + 1)) + 1)) + 1)) + 1)) + 1)) + 1)) (-1) x.2) (
                    bindO (idx v0 x.2) fun x9 =>
                    cond (x9.2.2.2.2.2.2.2.2 != (IntKind.wrap .i64 ((IntKind.wrap .i64 ((IntKind.wrap .i64 ((IntKind.wrap .i64 ((IntKind.wrap .i64 ((IntKind.wrap .i64 ((IntKind.wrap .i64 ((IntKind.wrap .i64 (x.1 + 1)) + 1)) + 1)) + 1)) + 1)) + 1)) + 1)) + 1))) (
                      k1 (IntKind.wrap .i64 ((IntKind.wrap .i64 ((IntKind.wrap .i64 ((IntKind.wrap .i64 ((IntKind.wrap .i64 ((IntKind.wrap .i64 ((IntKind.wrap .i64 ((IntKind.wrap .i64 (x.1 + 1)) + 1)) + 1)) + 1)) + 1)) + 1)) + 1)) + 1)) (-1) x.2) (
                      nx (IntKind.wrap .i64 ((IntKind.wrap .i64 ((IntKind.wrap .i64 ((IntKind.wrap .i64 ((IntKind.wrap .i64 ((IntKind.wrap .i64 ((IntKind.wrap .i64 ((IntKind.wrap .i64 ((IntKind.wrap .i64 (x.1 + 1)) + 1)) + 1)) + 1)) + 1)) + 1)) + 1)) + 1)) + 1), IntKind.wrap .i64 (x.2 + 1)))))))))))) (
    k0 x.1 x.2)
noncomputable def laws_heldRuleS (a0 : List Rule) (a1 : Int) : Option (Int) :=
  iterL (laws_heldRuleS_T2
    (fun (y10 : Int) (y11 : Int) =>
      some y10)
    (fun (y12 : Int) (y13 : Int) (y14 : Int) =>
      some y13) a0 0) fuel (a1, 0)
noncomputable def laws_heldSlotS_T2 {R : Type} (k0 : Int → Int → Option R) (k1 : Int → Int → Int → Option R) (v0 : List Slot) (v4 : Int) (nx : (Int × Int) → Option R) (x : Int × Int) : Option R :=
  cond (decide (x.2 < ((List.length v0 : Int)))) (
    bindO (idx v0 x.2) fun x1 =>
    cond (x1.1 != x.1) (
      k1 x.1 (-1) x.2) (
      bindO (idx v0 x.2) fun x2 =>
      cond (x2.2.1.1 != (IntKind.wrap .i64 (x.1 + 1))) (
        k1 (IntKind.wrap .i64 (x.1 + 1)) (-1) x.2) (
        bindO (idx v0 x.2) fun x3 =>
        cond (x3.2.1.2.1 != (IntKind.wrap .i64 ((IntKind.wrap .i64 (x.1 + 1)) + 1))) (
          k1 (IntKind.wrap .i64 ((IntKind.wrap .i64 (x.1 + 1)) + 1)) (-1) x.2) (
          bindO (idx v0 x.2) fun x4 =>
          cond (x4.2.1.2.2.1 != (IntKind.wrap .i64 ((IntKind.wrap .i64 ((IntKind.wrap .i64 (x.1 + 1)) + 1)) + 1))) (
            k1 (IntKind.wrap .i64 ((IntKind.wrap .i64 ((IntKind.wrap .i64 (x.1 + 1)) + 1)) + 1)) (-1) x.2) (
            bindO (idx v0 x.2) fun x5 =>
            cond (x5.2.1.2.2.2.1 != (IntKind.wrap .i64 ((IntKind.wrap .i64 ((IntKind.wrap .i64 ((IntKind.wrap .i64 (x.1 + 1)) + 1)) + 1)) + 1))) (
              k1 (IntKind.wrap .i64 ((IntKind.wrap .i64 ((IntKind.wrap .i64 ((IntKind.wrap .i64 (x.1 + 1)) + 1)) + 1)) + 1)) (-1) x.2) (
              bindO (idx v0 x.2) fun x6 =>
              cond (x6.2.1.2.2.2.2 != (IntKind.wrap .i64 ((IntKind.wrap .i64 ((IntKind.wrap .i64 ((IntKind.wrap .i64 ((IntKind.wrap .i64 (x.1 + 1)) + 1)) + 1)) + 1)) + 1))) (
                k1 (IntKind.wrap .i64 ((IntKind.wrap .i64 ((IntKind.wrap .i64 ((IntKind.wrap .i64 ((IntKind.wrap .i64 (x.1 + 1)) + 1)) + 1)) + 1)) + 1)) (-1) x.2) (
                bindO (idx v0 x.2) fun x7 =>
                cond (x7.2.2 != (IntKind.wrap .i64 ((IntKind.wrap .i64 ((IntKind.wrap .i64 ((IntKind.wrap .i64 ((IntKind.wrap .i64 ((IntKind.wrap .i64 (x.1 + 1)) + 1)) + 1)) + 1)) + 1)) + 1))) (
                  k1 (IntKind.wrap .i64 ((IntKind.wrap .i64 ((IntKind.wrap .i64 ((IntKind.wrap .i64 ((IntKind.wrap .i64 ((IntKind.wrap .i64 (x.1 + 1)) + 1)) + 1)) + 1)) + 1)) + 1)) (-1) x.2) (
                  nx (IntKind.wrap .i64 ((IntKind.wrap .i64 ((IntKind.wrap .i64 ((IntKind.wrap .i64 ((IntKind.wrap .i64 ((IntKind.wrap .i64 ((IntKind.wrap .i64 (x.1 + 1)) + 1)) + 1)) + 1)) + 1)) + 1)) + 1), IntKind.wrap .i64 (x.2 + 1)))))))))) (
    k0 x.1 x.2)
noncomputable def laws_heldSlotS (a0 : List Slot) (a1 : Int) : Option (Int) :=
  iterL (laws_heldSlotS_T2
    (fun (y8 : Int) (y9 : Int) =>
      some y8)
    (fun (y10 : Int) (y11 : Int) (y12 : Int) =>
      some y11) a0 0) fuel (a1, 0)
noncomputable def laws_heldFlowTable (a0 : List Slot) (a1 : Int) : Option (Int) :=
  bindO (laws_heldSlotS a0 a1) fun r1 =>
  cond (decide (r1 < 0)) (
    some (-1)) (
    some r1)
noncomputable def laws_heldSpread (a0 : Spread) (a1 : Int) : Option (Int) :=
  bindO (laws_heldIntS a0.2 a1) fun r1 =>
  cond (decide (r1 < 0)) (
    some (-1)) (
    some r1)
noncomputable def laws_heldSteering (a0 : Steering) (a1 : Int) : Option (Int) :=
  bindO (laws_heldRuleS a0.1 a1) fun r1 =>
  cond (decide (r1 < 0)) (
    some (-1)) (
    bindO (laws_heldFlowTable a0.2.1 r1) fun r2 =>
    cond (decide (r2 < 0)) (
      some (-1)) (
      bindO (laws_heldSpread a0.2.2 r2) fun r3 =>
      cond (decide (r3 < 0)) (
        some (-1)) (
        some r3)))
noncomputable def laws_heldStreamS_T2 {R : Type} (k0 : Int → Int → Option R) (k1 : Int → Int → Int → Option R) (v0 : List Stream) (v4 : Int) (nx : (Int × Int) → Option R) (x : Int × Int) : Option R :=
  cond (decide (x.2 < ((List.length v0 : Int)))) (
    bindO (idx v0 x.2) fun x1 =>
    cond (x1.1.1 != x.1) (
      k1 x.1 (-1) x.2) (
      bindO (idx v0 x.2) fun x2 =>
      cond (x2.1.2.1 != (IntKind.wrap .i64 (x.1 + 1))) (
        k1 (IntKind.wrap .i64 (x.1 + 1)) (-1) x.2) (
        bindO (idx v0 x.2) fun x3 =>
        cond (x3.1.2.2.1 != (IntKind.wrap .i64 ((IntKind.wrap .i64 (x.1 + 1)) + 1))) (
          k1 (IntKind.wrap .i64 ((IntKind.wrap .i64 (x.1 + 1)) + 1)) (-1) x.2) (
          bindO (idx v0 x.2) fun x4 =>
          cond (x4.1.2.2.2.1 != (IntKind.wrap .i64 ((IntKind.wrap .i64 ((IntKind.wrap .i64 (x.1 + 1)) + 1)) + 1))) (
            k1 (IntKind.wrap .i64 ((IntKind.wrap .i64 ((IntKind.wrap .i64 (x.1 + 1)) + 1)) + 1)) (-1) x.2) (
            bindO (idx v0 x.2) fun x5 =>
            cond (x5.1.2.2.2.2 != (IntKind.wrap .i64 ((IntKind.wrap .i64 ((IntKind.wrap .i64 ((IntKind.wrap .i64 (x.1 + 1)) + 1)) + 1)) + 1))) (
              k1 (IntKind.wrap .i64 ((IntKind.wrap .i64 ((IntKind.wrap .i64 ((IntKind.wrap .i64 (x.1 + 1)) + 1)) + 1)) + 1)) (-1) x.2) (
              bindO (idx v0 x.2) fun x6 =>
              cond (x6.2.1 != (IntKind.wrap .i64 ((IntKind.wrap .i64 ((IntKind.wrap .i64 ((IntKind.wrap .i64 ((IntKind.wrap .i64 (x.1 + 1)) + 1)) + 1)) + 1)) + 1))) (
                k1 (IntKind.wrap .i64 ((IntKind.wrap .i64 ((IntKind.wrap .i64 ((IntKind.wrap .i64 ((IntKind.wrap .i64 (x.1 + 1)) + 1)) + 1)) + 1)) + 1)) (-1) x.2) (
                bindO (idx v0 x.2) fun x7 =>
                bindO (laws_markText (IntKind.wrap .i64 ((IntKind.wrap .i64 ((IntKind.wrap .i64 ((IntKind.wrap .i64 ((IntKind.wrap .i64 ((IntKind.wrap .i64 (x.1 + 1)) + 1)) + 1)) + 1)) + 1)) + 1))) fun r8 =>
                cond (!(x7.2.2.1 == r8)) (
                  k1 (IntKind.wrap .i64 ((IntKind.wrap .i64 ((IntKind.wrap .i64 ((IntKind.wrap .i64 ((IntKind.wrap .i64 ((IntKind.wrap .i64 (x.1 + 1)) + 1)) + 1)) + 1)) + 1)) + 1)) (-1) x.2) (
                  bindO (idx v0 x.2) fun x9 =>
                  if 3 = 0 then none else (
                  cond (!(x9.2.2.2 == ((Int.tmod (IntKind.wrap .i64 ((IntKind.wrap .i64 ((IntKind.wrap .i64 ((IntKind.wrap .i64 ((IntKind.wrap .i64 ((IntKind.wrap .i64 ((IntKind.wrap .i64 (x.1 + 1)) + 1)) + 1)) + 1)) + 1)) + 1)) + 1)) 3) == 0))) (
                    k1 (IntKind.wrap .i64 ((IntKind.wrap .i64 ((IntKind.wrap .i64 ((IntKind.wrap .i64 ((IntKind.wrap .i64 ((IntKind.wrap .i64 ((IntKind.wrap .i64 (x.1 + 1)) + 1)) + 1)) + 1)) + 1)) + 1)) + 1)) (-1) x.2) (
                    nx (IntKind.wrap .i64 ((IntKind.wrap .i64 ((IntKind.wrap .i64 ((IntKind.wrap .i64 ((IntKind.wrap .i64 ((IntKind.wrap .i64 ((IntKind.wrap .i64 ((IntKind.wrap .i64 (x.1 + 1)) + 1)) + 1)) + 1)) + 1)) + 1)) + 1)) + 1), IntKind.wrap .i64 (x.2 + 1)))))))))))) (
    k0 x.1 x.2)
noncomputable def laws_heldStreamS (a0 : List Stream) (a1 : Int) : Option (Int) :=
  iterL (laws_heldStreamS_T2
    (fun (y10 : Int) (y11 : Int) =>
      some y10)
    (fun (y12 : Int) (y13 : Int) (y14 : Int) =>
      some y13) a0 0) fuel (a1, 0)
noncomputable def laws_heldHost (a0 : Host) (a1 : Int) : Option (Int) :=
  bindO (laws_heldMemory a0.1 a1) fun r1 =>
  cond (decide (r1 < 0)) (
    some (-1)) (
    bindO (laws_heldMappingS a0.2.1 r1) fun r2 =>
    cond (decide (r2 < 0)) (
      some (-1)) (
      bindO (laws_heldTxQueue a0.2.2.1 r2) fun r3 =>
      cond (decide (r3 < 0)) (
        some (-1)) (
        bindO (laws_heldRxQueueS a0.2.2.2.1 r3) fun r4 =>
        cond (decide (r4 < 0)) (
          some (-1)) (
          bindO (laws_heldPoolS a0.2.2.2.2.1 r4) fun r5 =>
          cond (decide (r5 < 0)) (
            some (-1)) (
            bindO (laws_heldVectorS a0.2.2.2.2.2.1 r5) fun r6 =>
            cond (decide (r6 < 0)) (
              some (-1)) (
              bindO (laws_heldBoolS a0.2.2.2.2.2.2.1 r6) fun r7 =>
              cond (decide (r7 < 0)) (
                some (-1)) (
                bindO (laws_heldFilter a0.2.2.2.2.2.2.2.1 r7) fun r8 =>
                cond (decide (r8 < 0)) (
                  some (-1)) (
                  bindO (laws_heldSteering a0.2.2.2.2.2.2.2.2.1 r8) fun r9 =>
                  cond (decide (r9 < 0)) (
                    some (-1)) (
                    bindO (laws_heldStreamS a0.2.2.2.2.2.2.2.2.2.1 r9) fun r10 =>
                    cond (decide (r10 < 0)) (
                      some (-1)) (
                      bindO (laws_heldStringS a0.2.2.2.2.2.2.2.2.2.2.2.1 r10) fun r11 =>
                      cond (decide (r11 < 0)) (
                        some (-1)) (
                        bindO (laws_heldIntS a0.2.2.2.2.2.2.2.2.2.2.2.2.1 r11) fun r12 =>
                        cond (decide (r12 < 0)) (
                          some (-1)) (
                          bindO (laws_heldIntS a0.2.2.2.2.2.2.2.2.2.2.2.2.2.1 r12) fun r13 =>
                          cond (decide (r13 < 0)) (
                            some (-1)) (
                            some r13)))))))))))))
noncomputable def laws_FnExactFinishMove (a0 : Move) (a1 : Host) : Option (Bool) :=
  bindO (laws_szMove a0 1048576) fun r1 =>
  cond (decide (r1 < 0)) (
    some true) (
    bindO (laws_szHost a1 r1) fun r2 =>
    cond (decide (r2 < 0)) (
      some true) (
      bindO (laws_toMove a0) fun r3 =>
      bindO (laws_toHost a1) fun r4 =>
      bindO (spec_FinishMove r3 r4) fun r5 =>
      bindO (laws_toMove a0) fun r6 =>
      bindO (laws_toHost a1) fun r7 =>
      bindO (impl_FinishMove r6 r7) fun r8 =>
      bindO (
        bindO (laws_eqHost r8.1 r5.1) fun r9 =>
        cond (!r9) (
          some true) (
          some (!(r8.2 == r5.2)))) fun q10 =>
      cond q10 (
        some false) (
        bindO (laws_toMove a0) fun r11 =>
        bindO (laws_eqMove r6 r11) fun r12 =>
        cond (!r12) (
          some false) (
          bindO (laws_toHost a1) fun r13 =>
          bindO (laws_eqHost r7 r13) fun r14 =>
          cond (!r14) (
            some false) (
            bindO (laws_markMove r6 1) fun r15 =>
            bindO (laws_markHost r7 r15.1) fun r16 =>
            bindO (
              cond (decide (r16.1 < 0)) (
                some true) (
                bindO (laws_eqHost r8.1 r5.1) fun r17 =>
                cond (!r17) (
                  some true) (
                  some (!(r8.2 == r5.2))))) fun q18 =>
            cond q18 (
              some false) (
              bindO (laws_markHost r8.1 1) fun r19 =>
              bindO (laws_heldHost (r19.2.1, r19.2.2.1, (r8.1.2.2.1.1, (r8.1.2.2.1.2.1.1, r8.1.2.2.1.2.1.2.1, r8.1.2.2.1.2.1.2.2.1, r19.2.2.2.1.2.1.2.2.2), r19.2.2.2.1.2.2.1, r8.1.2.2.1.2.2.2), r19.2.2.2.2.1, r19.2.2.2.2.2.1, r19.2.2.2.2.2.2.1, r19.2.2.2.2.2.2.2.1, (r8.1.2.2.2.2.2.2.2.1.1, r8.1.2.2.2.2.2.2.2.1.2.1, r19.2.2.2.2.2.2.2.2.1.2.2), (r19.2.2.2.2.2.2.2.2.2.1.1, r19.2.2.2.2.2.2.2.2.2.1.2.1, r8.1.2.2.2.2.2.2.2.2.1.2.2.1, r19.2.2.2.2.2.2.2.2.2.1.2.2.2), r19.2.2.2.2.2.2.2.2.2.2.1, r8.1.2.2.2.2.2.2.2.2.2.2.1, r19.2.2.2.2.2.2.2.2.2.2.2.2.1, r19.2.2.2.2.2.2.2.2.2.2.2.2.2.1, r19.2.2.2.2.2.2.2.2.2.2.2.2.2.2.1, r8.1.2.2.2.2.2.2.2.2.2.2.2.2.2.2) 1) fun r20 =>
              cond (decide (r20 < 0)) (
                some false) (
                cond (r20 != r19.1) (
                  some false) (
                  bindO (laws_toMove a0) fun r21 =>
                  bindO (laws_toHost a1) fun r22 =>
                  bindO (impl_FinishMove r21 r22) fun r23 =>
                  bindO (
                    bindO (laws_eqHost r23.1 r5.1) fun r24 =>
                    cond (!r24) (
                      some true) (
                      some (!(r23.2 == r5.2)))) fun q25 =>
                  cond q25 (
                    some false) (
                    bindO (laws_heldHost (r19.2.1, r19.2.2.1, (r8.1.2.2.1.1, (r8.1.2.2.1.2.1.1, r8.1.2.2.1.2.1.2.1, r8.1.2.2.1.2.1.2.2.1, r19.2.2.2.1.2.1.2.2.2), r19.2.2.2.1.2.2.1, r8.1.2.2.1.2.2.2), r19.2.2.2.2.1, r19.2.2.2.2.2.1, r19.2.2.2.2.2.2.1, r19.2.2.2.2.2.2.2.1, (r8.1.2.2.2.2.2.2.2.1.1, r8.1.2.2.2.2.2.2.2.1.2.1, r19.2.2.2.2.2.2.2.2.1.2.2), (r19.2.2.2.2.2.2.2.2.2.1.1, r19.2.2.2.2.2.2.2.2.2.1.2.1, r8.1.2.2.2.2.2.2.2.2.1.2.2.1, r19.2.2.2.2.2.2.2.2.2.1.2.2.2), r19.2.2.2.2.2.2.2.2.2.2.1, r8.1.2.2.2.2.2.2.2.2.2.2.1, r19.2.2.2.2.2.2.2.2.2.2.2.2.1, r19.2.2.2.2.2.2.2.2.2.2.2.2.2.1, r19.2.2.2.2.2.2.2.2.2.2.2.2.2.2.1, r8.1.2.2.2.2.2.2.2.2.2.2.2.2.2.2) 1) fun r26 =>
                    cond (decide (r26 < 0)) (
                      some false) (
                      cond (r26 != r19.1) (
                        some false) (
                        some true)))))))))))

end Go.Pu
