import Derived.Test.YtclgaiiidllehafGreatPuLib
import Derived.Test.YtclgaiiidllehafGreatPure
/- The laws' own helpers: they weigh, copy and compare data (made by codec.py). -/
namespace Go.Pu
open Go.Dn
set_option linter.unusedVariables false
set_option linter.unusedSimpArgs false

theorem sz_IntS (a : List Int) (hm : In64 (.sl (.int .i64)) a) : SzOk (laws_szIntS a) (szC (.sl (.int .i64)) a) :=
  (SzOk.flat (n := a.length) hm.1).cast (by simp only [szC]; rw [sum_zero (fun x _ => by simp only [szC])]; rfl)
theorem sz_StringS (a : List Bytes) (hm : In64 (.sl .str) a) : SzOk (laws_szStringS a) (szC (.sl .str) a) :=
  SzOk.strs hm
theorem sz_Memory (a : List Bytes) (hm : In64 (.sl .str) a) : SzOk (laws_szMemory a) (szC (.sl .str) a) :=
  SzOk.cast (f := laws_szMemory a) (SzOk.sub (sz_StringS a hm) SzOk.nil) (by simp only [szC]; try omega)
theorem sz_MappingS (a : List Mapping) (hm : In64 (.sl TMapping) a) : SzOk (laws_szMappingS a) (szC (.sl TMapping) a) :=
  (SzOk.flat (n := a.length) hm.1).cast (by simp only [szC]; rw [sum_zero (fun x _ => by simp only [szC])]; rfl)
theorem sz_Pool (a : Pool) (hm : In64 TPool a) : SzOk (laws_szPool a) (szC TPool a) :=
  SzOk.cast (f := laws_szPool a) (SzOk.sub (sz_IntS a.2.2.2 hm.2.2.2) SzOk.nil) (by simp only [szC]; try omega)
theorem sz_Sent (a : Sent) (hm : In64 TSent a) : SzOk (laws_szSent a) (szC TSent a) :=
  SzOk.cast (f := laws_szSent a) (SzOk.sub (sz_IntS a.2.2 hm.2.2) SzOk.nil) (by simp only [szC]; try omega)
theorem sz_SentS (a : List Sent) (hm : In64 (.sl TSent) a) : SzOk (laws_szSentS a) (szC (.sl TSent) a) :=
  SzOk.list (f := laws_szSent) (s := szC TSent) hm.1 (fun x hx => sz_Sent x (hm.2 x hx))
theorem sz_TxQueue (a : TxQueue) (hm : In64 TTxQueue a) : SzOk (laws_szTxQueue a) (szC TTxQueue a) :=
  SzOk.cast (f := laws_szTxQueue a) (SzOk.sub (sz_Pool a.2.1 hm.2.1) (SzOk.sub (sz_SentS a.2.2.1 hm.2.2.1) SzOk.nil)) (by simp only [szC]; try omega)
theorem sz_Segment (a : Segment) (hm : In64 TSegment a) : SzOk (laws_szSegment a) (szC TSegment a) :=
  SzOk.cast (f := laws_szSegment a) (SzOk.len (n := a.2.2.2.2.2.2.2.length) hm.2.2.2.2.2.2.2 SzOk.nil) (by simp only [szC]; try omega)
theorem sz_Packet (a : Packet) (hm : In64 TPacket a) : SzOk (laws_szPacket a) (szC TPacket a) :=
  SzOk.cast (f := laws_szPacket a) (SzOk.sub (sz_Segment a.2.2.2.2.2.2.2.2 hm.2.2.2.2.2.2.2.2) SzOk.nil) (by simp only [szC]; try omega)
theorem sz_Super (a : Super) (hm : In64 TSuper a) : SzOk (laws_szSuper a) (szC TSuper a) :=
  SzOk.cast (f := laws_szSuper a) (SzOk.sub (sz_Packet a.1 hm.1) SzOk.nil) (by simp only [szC]; try omega)
theorem sz_RxQueue (a : RxQueue) (hm : In64 TRxQueue a) : SzOk (laws_szRxQueue a) (szC TRxQueue a) :=
  SzOk.cast (f := laws_szRxQueue a) (SzOk.sub (sz_Super a.2.2.2.1 hm.2.2.2.1) SzOk.nil) (by simp only [szC]; try omega)
theorem sz_RxQueueS (a : List RxQueue) (hm : In64 (.sl TRxQueue) a) : SzOk (laws_szRxQueueS a) (szC (.sl TRxQueue) a) :=
  SzOk.list (f := laws_szRxQueue) (s := szC TRxQueue) hm.1 (fun x hx => sz_RxQueue x (hm.2 x hx))
theorem sz_PoolS (a : List Pool) (hm : In64 (.sl TPool) a) : SzOk (laws_szPoolS a) (szC (.sl TPool) a) :=
  SzOk.list (f := laws_szPool) (s := szC TPool) hm.1 (fun x hx => sz_Pool x (hm.2 x hx))
theorem sz_VectorS (a : List Vector) (hm : In64 (.sl TVector) a) : SzOk (laws_szVectorS a) (szC (.sl TVector) a) :=
  (SzOk.flat (n := a.length) hm.1).cast (by simp only [szC]; rw [sum_zero (fun x _ => by simp only [szC])]; rfl)
theorem sz_BoolS (a : List Bool) (hm : In64 (.sl .bool) a) : SzOk (laws_szBoolS a) (szC (.sl .bool) a) :=
  (SzOk.flat (n := a.length) hm.1).cast (by simp only [szC]; rw [sum_zero (fun x _ => by simp only [szC])]; rfl)
theorem sz_Filter (a : Filter) (hm : In64 TFilter a) : SzOk (laws_szFilter a) (szC TFilter a) :=
  SzOk.cast (f := laws_szFilter a) (SzOk.sub (sz_IntS a.2.2 hm.2.2) SzOk.nil) (by simp only [szC]; try omega)
theorem sz_RuleS (a : List Rule) (hm : In64 (.sl TRule) a) : SzOk (laws_szRuleS a) (szC (.sl TRule) a) :=
  (SzOk.flat (n := a.length) hm.1).cast (by simp only [szC]; rw [sum_zero (fun x _ => by simp only [szC])]; rfl)
theorem sz_SlotS (a : List Slot) (hm : In64 (.sl TSlot) a) : SzOk (laws_szSlotS a) (szC (.sl TSlot) a) :=
  (SzOk.flat (n := a.length) hm.1).cast (by simp only [szC]; rw [sum_zero (fun x _ => by simp only [szC])]; rfl)
theorem sz_FlowTable (a : List Slot) (hm : In64 (.sl TSlot) a) : SzOk (laws_szFlowTable a) (szC (.sl TSlot) a) :=
  SzOk.cast (f := laws_szFlowTable a) (SzOk.sub (sz_SlotS a hm) SzOk.nil) (by simp only [szC]; try omega)
theorem sz_Spread (a : Spread) (hm : In64 TSpread a) : SzOk (laws_szSpread a) (szC TSpread a) :=
  SzOk.cast (f := laws_szSpread a) (SzOk.len (n := a.1.length) hm.1 (SzOk.sub (sz_IntS a.2 hm.2) SzOk.nil)) (by simp only [szC]; try omega)
theorem sz_Steering (a : Steering) (hm : In64 TSteering a) : SzOk (laws_szSteering a) (szC TSteering a) :=
  SzOk.cast (f := laws_szSteering a) (SzOk.sub (sz_RuleS a.1 hm.1) (SzOk.sub (sz_FlowTable a.2.1 hm.2.1) (SzOk.sub (sz_Spread a.2.2 hm.2.2) SzOk.nil))) (by simp only [szC]; try omega)
theorem sz_Stream (a : Stream) (hm : In64 TStream a) : SzOk (laws_szStream a) (szC TStream a) :=
  SzOk.cast (f := laws_szStream a) (SzOk.len (n := a.2.2.1.length) hm.2.2.1 SzOk.nil) (by simp only [szC]; try omega)
theorem sz_StreamS (a : List Stream) (hm : In64 (.sl TStream) a) : SzOk (laws_szStreamS a) (szC (.sl TStream) a) :=
  SzOk.list (f := laws_szStream) (s := szC TStream) hm.1 (fun x hx => sz_Stream x (hm.2 x hx))
theorem sz_Host (a : Host) (hm : In64 THost a) : SzOk (laws_szHost a) (szC THost a) :=
  SzOk.cast (f := laws_szHost a) (SzOk.sub (sz_Memory a.1 hm.1) (SzOk.sub (sz_MappingS a.2.1 hm.2.1) (SzOk.sub (sz_TxQueue a.2.2.1 hm.2.2.1) (SzOk.sub (sz_RxQueueS a.2.2.2.1 hm.2.2.2.1) (SzOk.sub (sz_PoolS a.2.2.2.2.1 hm.2.2.2.2.1) (SzOk.sub (sz_VectorS a.2.2.2.2.2.1 hm.2.2.2.2.2.1) (SzOk.sub (sz_BoolS a.2.2.2.2.2.2.1 hm.2.2.2.2.2.2.1) (SzOk.sub (sz_Filter a.2.2.2.2.2.2.2.1 hm.2.2.2.2.2.2.2.1) (SzOk.sub (sz_Steering a.2.2.2.2.2.2.2.2.1 hm.2.2.2.2.2.2.2.2.1) (SzOk.sub (sz_StreamS a.2.2.2.2.2.2.2.2.2.1 hm.2.2.2.2.2.2.2.2.2.1) (SzOk.sub (sz_StringS a.2.2.2.2.2.2.2.2.2.2.2.1 hm.2.2.2.2.2.2.2.2.2.2.2.1) (SzOk.sub (sz_IntS a.2.2.2.2.2.2.2.2.2.2.2.2.1 hm.2.2.2.2.2.2.2.2.2.2.2.2.1) (SzOk.sub (sz_IntS a.2.2.2.2.2.2.2.2.2.2.2.2.2.1 hm.2.2.2.2.2.2.2.2.2.2.2.2.2.1) SzOk.nil))))))))))))) (by simp only [szC]; try omega)
theorem sz_HostS (a : List Host) (hm : In64 (.sl THost) a) : SzOk (laws_szHostS a) (szC (.sl THost) a) :=
  SzOk.list (f := laws_szHost) (s := szC THost) hm.1 (fun x hx => sz_Host x (hm.2 x hx))
theorem sz_VirtualFunctionS (a : List VirtualFunction) (hm : In64 (.sl TVirtualFunction) a) : SzOk (laws_szVirtualFunctionS a) (szC (.sl TVirtualFunction) a) :=
  (SzOk.flat (n := a.length) hm.1).cast (by simp only [szC]; rw [sum_zero (fun x _ => by simp only [szC])]; rfl)
theorem sz_Mailbox (a : Mailbox) (hm : In64 TMailbox a) : SzOk (laws_szMailbox a) (szC TMailbox a) :=
  SzOk.cast (f := laws_szMailbox a) (SzOk.sub (sz_Filter a.1 hm.1) SzOk.nil) (by simp only [szC]; try omega)
theorem sz_MailboxS (a : List Mailbox) (hm : In64 (.sl TMailbox) a) : SzOk (laws_szMailboxS a) (szC (.sl TMailbox) a) :=
  SzOk.list (f := laws_szMailbox) (s := szC TMailbox) hm.1 (fun x hx => sz_Mailbox x (hm.2 x hx))
theorem sz_Flash (a : List Bytes) (hm : In64 (.sl .str) a) : SzOk (laws_szFlash a) (szC (.sl .str) a) :=
  SzOk.cast (f := laws_szFlash a) (SzOk.sub (sz_StringS a hm) SzOk.nil) (by simp only [szC]; try omega)
theorem sz_Card (a : Card) (hm : In64 TCard a) : SzOk (laws_szCard a) (szC TCard a) :=
  SzOk.cast (f := laws_szCard a) (SzOk.sub (sz_HostS a.1 hm.1) (SzOk.sub (sz_VirtualFunctionS a.2.1 hm.2.1) (SzOk.sub (sz_MailboxS a.2.2.1 hm.2.2.1) (SzOk.sub (sz_Flash a.2.2.2.1 hm.2.2.2.1) (SzOk.sub (sz_IntS a.2.2.2.2.2.1 hm.2.2.2.2.2.1) (SzOk.sub (sz_StringS a.2.2.2.2.2.2 hm.2.2.2.2.2.2) SzOk.nil)))))) (by simp only [szC]; try omega)
theorem to_IntS (a : List Int) (h : LenB 1048576 (.sl (.int .i64)) a) : laws_toIntS a = some a :=
  toFlatG_id (z := 0) (Nat.le_trans h.1 (by omega))
theorem to_StringS (a : List Bytes) (h : LenB 1048576 (.sl .str) a) : laws_toStringS a = some a :=
  toFlatG_id (z := ([] : Bytes)) (Nat.le_trans h.1 (by omega))
theorem to_Memory (a : List Bytes) (h : LenB 1048576 (.sl .str) a) : laws_toMemory a = some a := by
  first | (simp only [laws_toMemory, to_StringS _ h, bindO_some]; done) | (simp only [laws_toMemory, to_StringS _ h, bindO_some]; rfl)
theorem to_Mapping (a : Mapping) (h : LenB 1048576 TMapping a) : laws_toMapping a = some a := rfl
theorem to_MappingS (a : List Mapping) (h : LenB 1048576 (.sl TMapping) a) : laws_toMappingS a = some a :=
  toListG_id (f := laws_toMapping) (z := (0, 0, 0, false)) (Nat.le_trans h.1 (by omega)) (fun x hx => to_Mapping x (h.2 x hx))
theorem to_Ring (a : Clock) (h : LenB 1048576 TClock a) : laws_toRing a = some a := rfl
theorem to_Pool (a : Pool) (h : LenB 1048576 TPool a) : laws_toPool a = some a := by
  first | (simp only [laws_toPool, to_IntS _ h.2.2.2, bindO_some]; done) | (simp only [laws_toPool, to_IntS _ h.2.2.2, bindO_some]; rfl)
theorem to_Sent (a : Sent) (h : LenB 1048576 TSent a) : laws_toSent a = some a := by
  first | (simp only [laws_toSent, to_IntS _ h.2.2, bindO_some]; done) | (simp only [laws_toSent, to_IntS _ h.2.2, bindO_some]; rfl)
theorem to_SentS (a : List Sent) (h : LenB 1048576 (.sl TSent) a) : laws_toSentS a = some a :=
  toListG_id (f := laws_toSent) (z := (0, 0, ([] : List Int))) (Nat.le_trans h.1 (by omega)) (fun x hx => to_Sent x (h.2 x hx))
theorem to_TxQueue (a : TxQueue) (h : LenB 1048576 TTxQueue a) : laws_toTxQueue a = some a := by
  first | (simp only [laws_toTxQueue, to_Ring _ h.1, to_Pool _ h.2.1, to_SentS _ h.2.2.1, bindO_some]; done) | (simp only [laws_toTxQueue, to_Ring _ h.1, to_Pool _ h.2.1, to_SentS _ h.2.2.1, bindO_some]; rfl)
theorem to_CompletionQueue (a : Bucket) (h : LenB 1048576 TBucket a) : laws_toCompletionQueue a = some a := rfl
theorem to_Segment (a : Segment) (h : LenB 1048576 TSegment a) : laws_toSegment a = some a := rfl
theorem to_Packet (a : Packet) (h : LenB 1048576 TPacket a) : laws_toPacket a = some a := by
  first | (simp only [laws_toPacket, to_Segment _ h.2.2.2.2.2.2.2.2, bindO_some]; done) | (simp only [laws_toPacket, to_Segment _ h.2.2.2.2.2.2.2.2, bindO_some]; rfl)
theorem to_Super (a : Super) (h : LenB 1048576 TSuper a) : laws_toSuper a = some a := by
  first | (simp only [laws_toSuper, to_Packet _ h.1, bindO_some]; done) | (simp only [laws_toSuper, to_Packet _ h.1, bindO_some]; rfl)
theorem to_RxQueue (a : RxQueue) (h : LenB 1048576 TRxQueue a) : laws_toRxQueue a = some a := by
  first | (simp only [laws_toRxQueue, to_Ring _ h.1, to_CompletionQueue _ h.2.1, to_CompletionQueue _ h.2.2.1, to_Super _ h.2.2.2.1, bindO_some]; done) | (simp only [laws_toRxQueue, to_Ring _ h.1, to_CompletionQueue _ h.2.1, to_CompletionQueue _ h.2.2.1, to_Super _ h.2.2.2.1, bindO_some]; rfl)
theorem to_RxQueueS (a : List RxQueue) (h : LenB 1048576 (.sl TRxQueue) a) : laws_toRxQueueS a = some a :=
  toListG_id (f := laws_toRxQueue) (z := ((0, 0, 0, 0), (0, 0, 0), (0, 0, 0), ((0, 0, 0, 0, 0, 0, 0, 0, 0, 0, 0, 0, 0, 0, 0, ([] : Bytes)), 0, 0), false, 0)) (Nat.le_trans h.1 (by omega)) (fun x hx => to_RxQueue x (h.2 x hx))
theorem to_PoolS (a : List Pool) (h : LenB 1048576 (.sl TPool) a) : laws_toPoolS a = some a :=
  toListG_id (f := laws_toPool) (z := (0, 0, 0, ([] : List Int))) (Nat.le_trans h.1 (by omega)) (fun x hx => to_Pool x (h.2 x hx))
theorem to_Vector (a : Vector) (h : LenB 1048576 TVector a) : laws_toVector a = some a := rfl
theorem to_VectorS (a : List Vector) (h : LenB 1048576 (.sl TVector) a) : laws_toVectorS a = some a :=
  toListG_id (f := laws_toVector) (z := (0, 0, 0, 0, false, false)) (Nat.le_trans h.1 (by omega)) (fun x hx => to_Vector x (h.2 x hx))
theorem to_BoolS (a : List Bool) (h : LenB 1048576 (.sl .bool) a) : laws_toBoolS a = some a :=
  toFlatG_id (z := false) (Nat.le_trans h.1 (by omega))
theorem to_Filter (a : Filter) (h : LenB 1048576 TFilter a) : laws_toFilter a = some a := by
  first | (simp only [laws_toFilter, to_IntS _ h.2.2, bindO_some]; done) | (simp only [laws_toFilter, to_IntS _ h.2.2, bindO_some]; rfl)
theorem to_Rule (a : Rule) (h : LenB 1048576 TRule a) : laws_toRule a = some a := rfl
theorem to_RuleS (a : List Rule) (h : LenB 1048576 (.sl TRule) a) : laws_toRuleS a = some a :=
  toListG_id (f := laws_toRule) (z := (0, 0, 0, 0, 0, 0, 0, 0, 0)) (Nat.le_trans h.1 (by omega)) (fun x hx => to_Rule x (h.2 x hx))
theorem to_Flow (a : Flow) (h : LenB 1048576 TFlow a) : laws_toFlow a = some a := rfl
theorem to_Slot (a : Slot) (h : LenB 1048576 TSlot a) : laws_toSlot a = some a := by
  first | (simp only [laws_toSlot, to_Flow _ h.2.1, bindO_some]; done) | (simp only [laws_toSlot, to_Flow _ h.2.1, bindO_some]; rfl)
theorem to_SlotS (a : List Slot) (h : LenB 1048576 (.sl TSlot) a) : laws_toSlotS a = some a :=
  toListG_id (f := laws_toSlot) (z := (0, (0, 0, 0, 0, 0), 0)) (Nat.le_trans h.1 (by omega)) (fun x hx => to_Slot x (h.2 x hx))
theorem to_FlowTable (a : List Slot) (h : LenB 1048576 (.sl TSlot) a) : laws_toFlowTable a = some a := by
  first | (simp only [laws_toFlowTable, to_SlotS _ h, bindO_some]; done) | (simp only [laws_toFlowTable, to_SlotS _ h, bindO_some]; rfl)
theorem to_Spread (a : Spread) (h : LenB 1048576 TSpread a) : laws_toSpread a = some a := by
  first | (simp only [laws_toSpread, to_IntS _ h.2, bindO_some]; done) | (simp only [laws_toSpread, to_IntS _ h.2, bindO_some]; rfl)
theorem to_Steering (a : Steering) (h : LenB 1048576 TSteering a) : laws_toSteering a = some a := by
  first | (simp only [laws_toSteering, to_RuleS _ h.1, to_FlowTable _ h.2.1, to_Spread _ h.2.2, bindO_some]; done) | (simp only [laws_toSteering, to_RuleS _ h.1, to_FlowTable _ h.2.1, to_Spread _ h.2.2, bindO_some]; rfl)
theorem to_Stream (a : Stream) (h : LenB 1048576 TStream a) : laws_toStream a = some a := by
  first | (simp only [laws_toStream, to_Flow _ h.1, bindO_some]; done) | (simp only [laws_toStream, to_Flow _ h.1, bindO_some]; rfl)
theorem to_StreamS (a : List Stream) (h : LenB 1048576 (.sl TStream) a) : laws_toStreamS a = some a :=
  toListG_id (f := laws_toStream) (z := ((0, 0, 0, 0, 0), 0, ([] : Bytes), false)) (Nat.le_trans h.1 (by omega)) (fun x hx => to_Stream x (h.2 x hx))
theorem to_Counters (a : Flow) (h : LenB 1048576 TFlow a) : laws_toCounters a = some a := rfl
theorem to_Host (a : Host) (h : LenB 1048576 THost a) : laws_toHost a = some a := by
  first | (simp only [laws_toHost, to_Memory _ h.1, to_MappingS _ h.2.1, to_TxQueue _ h.2.2.1, to_RxQueueS _ h.2.2.2.1, to_PoolS _ h.2.2.2.2.1, to_VectorS _ h.2.2.2.2.2.1, to_BoolS _ h.2.2.2.2.2.2.1, to_Filter _ h.2.2.2.2.2.2.2.1, to_Steering _ h.2.2.2.2.2.2.2.2.1, to_StreamS _ h.2.2.2.2.2.2.2.2.2.1, to_StringS _ h.2.2.2.2.2.2.2.2.2.2.2.1, to_IntS _ h.2.2.2.2.2.2.2.2.2.2.2.2.1, to_IntS _ h.2.2.2.2.2.2.2.2.2.2.2.2.2.1, to_Counters _ h.2.2.2.2.2.2.2.2.2.2.2.2.2.2, bindO_some]; done) | (simp only [laws_toHost, to_Memory _ h.1, to_MappingS _ h.2.1, to_TxQueue _ h.2.2.1, to_RxQueueS _ h.2.2.2.1, to_PoolS _ h.2.2.2.2.1, to_VectorS _ h.2.2.2.2.2.1, to_BoolS _ h.2.2.2.2.2.2.1, to_Filter _ h.2.2.2.2.2.2.2.1, to_Steering _ h.2.2.2.2.2.2.2.2.1, to_StreamS _ h.2.2.2.2.2.2.2.2.2.1, to_StringS _ h.2.2.2.2.2.2.2.2.2.2.2.1, to_IntS _ h.2.2.2.2.2.2.2.2.2.2.2.2.1, to_IntS _ h.2.2.2.2.2.2.2.2.2.2.2.2.2.1, to_Counters _ h.2.2.2.2.2.2.2.2.2.2.2.2.2.2, bindO_some]; rfl)
theorem to_HostS (a : List Host) (h : LenB 1048576 (.sl THost) a) : laws_toHostS a = some a :=
  toListG_id (f := laws_toHost) (z := (([] : List Bytes), ([] : List Mapping), ((0, 0, 0, 0), (0, 0, 0, ([] : List Int)), ([] : List Sent), 0), ([] : List RxQueue), ([] : List Pool), ([] : List Vector), ([] : List Bool), (0, false, ([] : List Int)), (([] : List Rule), ([] : List Slot), ([] : Bytes), ([] : List Int)), ([] : List Stream), false, ([] : List Bytes), ([] : List Int), ([] : List Int), 0, 0, 0, 0, 0)) (Nat.le_trans h.1 (by omega)) (fun x hx => to_Host x (h.2 x hx))
theorem to_Bucket (a : Bucket) (h : LenB 1048576 TBucket a) : laws_toBucket a = some a := rfl
theorem to_VirtualFunction (a : VirtualFunction) (h : LenB 1048576 TVirtualFunction a) : laws_toVirtualFunction a = some a := by
  first | (simp only [laws_toVirtualFunction, to_Bucket _ h.2.2.1, bindO_some]; done) | (simp only [laws_toVirtualFunction, to_Bucket _ h.2.2.1, bindO_some]; rfl)
theorem to_VirtualFunctionS (a : List VirtualFunction) (h : LenB 1048576 (.sl TVirtualFunction) a) : laws_toVirtualFunctionS a = some a :=
  toListG_id (f := laws_toVirtualFunction) (z := (0, 0, (0, 0, 0), false, 0, 0)) (Nat.le_trans h.1 (by omega)) (fun x hx => to_VirtualFunction x (h.2 x hx))
theorem to_Mailbox (a : Mailbox) (h : LenB 1048576 TMailbox a) : laws_toMailbox a = some a := by
  first | (simp only [laws_toMailbox, to_Filter _ h.1, bindO_some]; done) | (simp only [laws_toMailbox, to_Filter _ h.1, bindO_some]; rfl)
theorem to_MailboxS (a : List Mailbox) (h : LenB 1048576 (.sl TMailbox) a) : laws_toMailboxS a = some a :=
  toListG_id (f := laws_toMailbox) (z := ((0, false, ([] : List Int)), 0, 0, 0)) (Nat.le_trans h.1 (by omega)) (fun x hx => to_Mailbox x (h.2 x hx))
theorem to_Flash (a : List Bytes) (h : LenB 1048576 (.sl .str) a) : laws_toFlash a = some a := by
  first | (simp only [laws_toFlash, to_StringS _ h, bindO_some]; done) | (simp only [laws_toFlash, to_StringS _ h, bindO_some]; rfl)
theorem to_Clock (a : Clock) (h : LenB 1048576 TClock a) : laws_toClock a = some a := rfl
theorem to_Card (a : Card) (h : LenB 1048576 TCard a) : laws_toCard a = some a := by
  first | (simp only [laws_toCard, to_HostS _ h.1, to_VirtualFunctionS _ h.2.1, to_MailboxS _ h.2.2.1, to_Flash _ h.2.2.2.1, to_Clock _ h.2.2.2.2.1, to_IntS _ h.2.2.2.2.2.1, to_StringS _ h.2.2.2.2.2.2, bindO_some]; done) | (simp only [laws_toCard, to_HostS _ h.1, to_VirtualFunctionS _ h.2.1, to_MailboxS _ h.2.2.1, to_Flash _ h.2.2.2.1, to_Clock _ h.2.2.2.2.1, to_IntS _ h.2.2.2.2.2.1, to_StringS _ h.2.2.2.2.2.2, bindO_some]; rfl)
theorem to_Message (a : Bucket) (h : LenB 1048576 TBucket a) : laws_toMessage a = some a := rfl
theorem eq_IntS (a : List Int) (h : LenB 1000000000000 (.sl (.int .i64)) a) : laws_eqIntS a a = some true :=
  eqFlatG_self h.1
theorem eq_StringS (a : List Bytes) (h : LenB 1000000000000 (.sl .str) a) : laws_eqStringS a a = some true :=
  eqFlatG_self h.1
theorem eq_Memory (a : List Bytes) (h : LenB 1000000000000 (.sl .str) a) : laws_eqMemory a a = some true := by
  simp [laws_eqMemory, eq_StringS _ h]
theorem eq_Mapping (a : Mapping) (h : LenB 1000000000000 TMapping a) : laws_eqMapping a a = some true := by
  simp [laws_eqMapping]
theorem eq_MappingS (a : List Mapping) (h : LenB 1000000000000 (.sl TMapping) a) : laws_eqMappingS a a = some true :=
  eqListG_self (f := laws_eqMapping) h.1 (fun x hx => eq_Mapping x (h.2 x hx))
theorem eq_Ring (a : Clock) (h : LenB 1000000000000 TClock a) : laws_eqRing a a = some true := by
  simp [laws_eqRing]
theorem eq_Pool (a : Pool) (h : LenB 1000000000000 TPool a) : laws_eqPool a a = some true := by
  simp [laws_eqPool, eq_IntS _ h.2.2.2]
theorem eq_Sent (a : Sent) (h : LenB 1000000000000 TSent a) : laws_eqSent a a = some true := by
  simp [laws_eqSent, eq_IntS _ h.2.2]
theorem eq_SentS (a : List Sent) (h : LenB 1000000000000 (.sl TSent) a) : laws_eqSentS a a = some true :=
  eqListG_self (f := laws_eqSent) h.1 (fun x hx => eq_Sent x (h.2 x hx))
theorem eq_TxQueue (a : TxQueue) (h : LenB 1000000000000 TTxQueue a) : laws_eqTxQueue a a = some true := by
  simp [laws_eqTxQueue, eq_Ring _ h.1, eq_Pool _ h.2.1, eq_SentS _ h.2.2.1]
theorem eq_CompletionQueue (a : Bucket) (h : LenB 1000000000000 TBucket a) : laws_eqCompletionQueue a a = some true := by
  simp [laws_eqCompletionQueue]
theorem eq_Segment (a : Segment) (h : LenB 1000000000000 TSegment a) : laws_eqSegment a a = some true := by
  simp [laws_eqSegment]
theorem eq_Packet (a : Packet) (h : LenB 1000000000000 TPacket a) : laws_eqPacket a a = some true := by
  simp [laws_eqPacket, eq_Segment _ h.2.2.2.2.2.2.2.2]
theorem eq_Super (a : Super) (h : LenB 1000000000000 TSuper a) : laws_eqSuper a a = some true := by
  simp [laws_eqSuper, eq_Packet _ h.1]
theorem eq_RxQueue (a : RxQueue) (h : LenB 1000000000000 TRxQueue a) : laws_eqRxQueue a a = some true := by
  simp [laws_eqRxQueue, eq_Ring _ h.1, eq_CompletionQueue _ h.2.1, eq_CompletionQueue _ h.2.2.1, eq_Super _ h.2.2.2.1]
theorem eq_RxQueueS (a : List RxQueue) (h : LenB 1000000000000 (.sl TRxQueue) a) : laws_eqRxQueueS a a = some true :=
  eqListG_self (f := laws_eqRxQueue) h.1 (fun x hx => eq_RxQueue x (h.2 x hx))
theorem eq_PoolS (a : List Pool) (h : LenB 1000000000000 (.sl TPool) a) : laws_eqPoolS a a = some true :=
  eqListG_self (f := laws_eqPool) h.1 (fun x hx => eq_Pool x (h.2 x hx))
theorem eq_Vector (a : Vector) (h : LenB 1000000000000 TVector a) : laws_eqVector a a = some true := by
  simp [laws_eqVector]
theorem eq_VectorS (a : List Vector) (h : LenB 1000000000000 (.sl TVector) a) : laws_eqVectorS a a = some true :=
  eqListG_self (f := laws_eqVector) h.1 (fun x hx => eq_Vector x (h.2 x hx))
theorem eq_BoolS (a : List Bool) (h : LenB 1000000000000 (.sl .bool) a) : laws_eqBoolS a a = some true :=
  eqFlatG_self h.1
theorem eq_Filter (a : Filter) (h : LenB 1000000000000 TFilter a) : laws_eqFilter a a = some true := by
  simp [laws_eqFilter, eq_IntS _ h.2.2]
theorem eq_Rule (a : Rule) (h : LenB 1000000000000 TRule a) : laws_eqRule a a = some true := by
  simp [laws_eqRule]
theorem eq_RuleS (a : List Rule) (h : LenB 1000000000000 (.sl TRule) a) : laws_eqRuleS a a = some true :=
  eqListG_self (f := laws_eqRule) h.1 (fun x hx => eq_Rule x (h.2 x hx))
theorem eq_Flow (a : Flow) (h : LenB 1000000000000 TFlow a) : laws_eqFlow a a = some true := by
  simp [laws_eqFlow]
theorem eq_Slot (a : Slot) (h : LenB 1000000000000 TSlot a) : laws_eqSlot a a = some true := by
  simp [laws_eqSlot, eq_Flow _ h.2.1]
theorem eq_SlotS (a : List Slot) (h : LenB 1000000000000 (.sl TSlot) a) : laws_eqSlotS a a = some true :=
  eqListG_self (f := laws_eqSlot) h.1 (fun x hx => eq_Slot x (h.2 x hx))
theorem eq_FlowTable (a : List Slot) (h : LenB 1000000000000 (.sl TSlot) a) : laws_eqFlowTable a a = some true := by
  simp [laws_eqFlowTable, eq_SlotS _ h]
theorem eq_Spread (a : Spread) (h : LenB 1000000000000 TSpread a) : laws_eqSpread a a = some true := by
  simp [laws_eqSpread, eq_IntS _ h.2]
theorem eq_Steering (a : Steering) (h : LenB 1000000000000 TSteering a) : laws_eqSteering a a = some true := by
  simp [laws_eqSteering, eq_RuleS _ h.1, eq_FlowTable _ h.2.1, eq_Spread _ h.2.2]
theorem eq_Stream (a : Stream) (h : LenB 1000000000000 TStream a) : laws_eqStream a a = some true := by
  simp [laws_eqStream, eq_Flow _ h.1]
theorem eq_StreamS (a : List Stream) (h : LenB 1000000000000 (.sl TStream) a) : laws_eqStreamS a a = some true :=
  eqListG_self (f := laws_eqStream) h.1 (fun x hx => eq_Stream x (h.2 x hx))
theorem eq_Counters (a : Flow) (h : LenB 1000000000000 TFlow a) : laws_eqCounters a a = some true := by
  simp [laws_eqCounters]
theorem eq_Host (a : Host) (h : LenB 1000000000000 THost a) : laws_eqHost a a = some true := by
  simp [laws_eqHost, eq_Memory _ h.1, eq_MappingS _ h.2.1, eq_TxQueue _ h.2.2.1, eq_RxQueueS _ h.2.2.2.1, eq_PoolS _ h.2.2.2.2.1, eq_VectorS _ h.2.2.2.2.2.1, eq_BoolS _ h.2.2.2.2.2.2.1, eq_Filter _ h.2.2.2.2.2.2.2.1, eq_Steering _ h.2.2.2.2.2.2.2.2.1, eq_StreamS _ h.2.2.2.2.2.2.2.2.2.1, eq_StringS _ h.2.2.2.2.2.2.2.2.2.2.2.1, eq_IntS _ h.2.2.2.2.2.2.2.2.2.2.2.2.1, eq_IntS _ h.2.2.2.2.2.2.2.2.2.2.2.2.2.1, eq_Counters _ h.2.2.2.2.2.2.2.2.2.2.2.2.2.2]
theorem eq_HostS (a : List Host) (h : LenB 1000000000000 (.sl THost) a) : laws_eqHostS a a = some true :=
  eqListG_self (f := laws_eqHost) h.1 (fun x hx => eq_Host x (h.2 x hx))
theorem eq_Bucket (a : Bucket) (h : LenB 1000000000000 TBucket a) : laws_eqBucket a a = some true := by
  simp [laws_eqBucket]
theorem eq_VirtualFunction (a : VirtualFunction) (h : LenB 1000000000000 TVirtualFunction a) : laws_eqVirtualFunction a a = some true := by
  simp [laws_eqVirtualFunction, eq_Bucket _ h.2.2.1]
theorem eq_VirtualFunctionS (a : List VirtualFunction) (h : LenB 1000000000000 (.sl TVirtualFunction) a) : laws_eqVirtualFunctionS a a = some true :=
  eqListG_self (f := laws_eqVirtualFunction) h.1 (fun x hx => eq_VirtualFunction x (h.2 x hx))
theorem eq_Mailbox (a : Mailbox) (h : LenB 1000000000000 TMailbox a) : laws_eqMailbox a a = some true := by
  simp [laws_eqMailbox, eq_Filter _ h.1]
theorem eq_MailboxS (a : List Mailbox) (h : LenB 1000000000000 (.sl TMailbox) a) : laws_eqMailboxS a a = some true :=
  eqListG_self (f := laws_eqMailbox) h.1 (fun x hx => eq_Mailbox x (h.2 x hx))
theorem eq_Flash (a : List Bytes) (h : LenB 1000000000000 (.sl .str) a) : laws_eqFlash a a = some true := by
  simp [laws_eqFlash, eq_StringS _ h]
theorem eq_Clock (a : Clock) (h : LenB 1000000000000 TClock a) : laws_eqClock a a = some true := by
  simp [laws_eqClock]
theorem eq_Card (a : Card) (h : LenB 1000000000000 TCard a) : laws_eqCard a a = some true := by
  simp [laws_eqCard, eq_HostS _ h.1, eq_VirtualFunctionS _ h.2.1, eq_MailboxS _ h.2.2.1, eq_Flash _ h.2.2.2.1, eq_Clock _ h.2.2.2.2.1, eq_IntS _ h.2.2.2.2.2.1, eq_StringS _ h.2.2.2.2.2.2]

end Go.Pu
