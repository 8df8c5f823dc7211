import Derived.Test.YtoickmmiogbhgaaGreatPuLib
import Derived.Test.YtoickmmiogbhgaaGreatPure
/- The laws' own helpers: they weigh, copy and compare data (made by codec.py). -/
namespace Go.Pu
open Go.Dn
set_option linter.unusedVariables false
set_option linter.unusedSimpArgs false

theorem sz_StringS (a : List Bytes) (hm : In64 (.sl .str) a) : SzOk (laws_szStringS a) (szC (.sl .str) a) :=
  SzOk.strs hm
theorem sz_IntS (a : List Int) (hm : In64 (.sl (.int .i64)) a) : SzOk (laws_szIntS a) (szC (.sl (.int .i64)) a) :=
  (SzOk.flat (n := a.length) hm.1).cast (by simp only [szC]; rw [sum_zero (fun x _ => by simp only [szC])]; rfl)
theorem sz_Filter (a : Filter) (hm : In64 TFilter a) : SzOk (laws_szFilter a) (szC TFilter a) :=
  SzOk.cast (f := laws_szFilter a) (SzOk.sub (sz_IntS a.2.2 hm.2.2) SzOk.nil) (by simp only [szC]; try omega)
theorem sz_RuleS (a : List Rule) (hm : In64 (.sl TRule) a) : SzOk (laws_szRuleS a) (szC (.sl TRule) a) :=
  (SzOk.flat (n := a.length) hm.1).cast (by simp only [szC]; rw [sum_zero (fun x _ => by simp only [szC])]; rfl)
theorem sz_SlotS (a : List Slot) (hm : In64 (.sl TSlot) a) : SzOk (laws_szSlotS a) (szC (.sl TSlot) a) :=
  (SzOk.flat (n := a.length) hm.1).cast (by simp only [szC]; rw [sum_zero (fun x _ => by simp only [szC])]; rfl)
theorem sz_FlowTable (a : List Slot) (hm : In64 (.sl TSlot) a) : SzOk (laws_szFlowTable a) (szC (.sl TSlot) a) :=
  SzOk.cast (f := laws_szFlowTable a) (SzOk.sub (sz_SlotS a hm) SzOk.nil) (by simp only [szC]; try omega)
theorem sz_Spread (a : Spread) (hm : In64 TSpread a) : SzOk (laws_szSpread a) (szC TSpread a) :=
  SzOk.cast (f := laws_szSpread a) (SzOk.len (n := a.1.length) hm.1 (SzOk.sub (sz_IntS a.2 hm.2) SzOk.nil)) (by simp only [szC]; try omega)
theorem sz_Steering (a : Steering) (hm : In64 TSteering a) : SzOk (laws_szSteering a) (szC TSteering a) :=
  SzOk.cast (f := laws_szSteering a) (SzOk.sub (sz_RuleS a.1 hm.1) (SzOk.sub (sz_FlowTable a.2.1 hm.2.1) (SzOk.sub (sz_Spread a.2.2 hm.2.2) SzOk.nil))) (by simp only [szC]; try omega)
theorem sz_Stream (a : Stream) (hm : In64 TStream a) : SzOk (laws_szStream a) (szC TStream a) :=
  SzOk.cast (f := laws_szStream a) (SzOk.len (n := a.2.2.1.length) hm.2.2.1 SzOk.nil) (by simp only [szC]; try omega)
theorem sz_StreamS (a : List Stream) (hm : In64 (.sl TStream) a) : SzOk (laws_szStreamS a) (szC (.sl TStream) a) :=
  SzOk.list (f := laws_szStream) (s := szC TStream) hm.1 (fun x hx => sz_Stream x (hm.2 x hx))
theorem sz_Soft (a : Soft) (hm : In64 TSoft a) : SzOk (laws_szSoft a) (szC TSoft a) :=
  SzOk.cast (f := laws_szSoft a) (SzOk.sub (sz_Filter a.1 hm.1) (SzOk.sub (sz_Steering a.2.1 hm.2.1) (SzOk.sub (sz_StreamS a.2.2.2.1 hm.2.2.2.1) (SzOk.sub (sz_StringS a.2.2.2.2 hm.2.2.2.2) SzOk.nil)))) (by simp only [szC]; try omega)
theorem sz_SoftS (a : List Soft) (hm : In64 (.sl TSoft) a) : SzOk (laws_szSoftS a) (szC (.sl TSoft) a) :=
  SzOk.list (f := laws_szSoft) (s := szC TSoft) hm.1 (fun x hx => sz_Soft x (hm.2 x hx))
theorem sz_StringSS (a : List (List Bytes)) (hm : In64 (.sl (.sl .str)) a) : SzOk (laws_szStringSS a) (szC (.sl (.sl .str)) a) :=
  SzOk.list (f := laws_szStringS) (s := szC (.sl .str)) hm.1 (fun x hx => sz_StringS x (hm.2 x hx))
theorem sz_VirtualFunctionS (a : List VirtualFunction) (hm : In64 (.sl TVirtualFunction) a) : SzOk (laws_szVirtualFunctionS a) (szC (.sl TVirtualFunction) a) :=
  (SzOk.flat (n := a.length) hm.1).cast (by simp only [szC]; rw [sum_zero (fun x _ => by simp only [szC])]; rfl)
theorem sz_Mailbox (a : Mailbox) (hm : In64 TMailbox a) : SzOk (laws_szMailbox a) (szC TMailbox a) :=
  SzOk.cast (f := laws_szMailbox a) (SzOk.sub (sz_Filter a.1 hm.1) SzOk.nil) (by simp only [szC]; try omega)
theorem sz_MailboxS (a : List Mailbox) (hm : In64 (.sl TMailbox) a) : SzOk (laws_szMailboxS a) (szC (.sl TMailbox) a) :=
  SzOk.list (f := laws_szMailbox) (s := szC TMailbox) hm.1 (fun x hx => sz_Mailbox x (hm.2 x hx))
theorem sz_Ideal (a : Ideal) (hm : In64 TIdeal a) : SzOk (laws_szIdeal a) (szC TIdeal a) :=
  SzOk.cast (f := laws_szIdeal a) (SzOk.sub (sz_SoftS a.1 hm.1) (SzOk.sub (sz_StringSS a.2.1 hm.2.1) (SzOk.sub (sz_VirtualFunctionS a.2.2.1 hm.2.2.1) (SzOk.sub (sz_MailboxS a.2.2.2.1 hm.2.2.2.1) (SzOk.sub (sz_StringS a.2.2.2.2 hm.2.2.2.2) SzOk.nil))))) (by simp only [szC]; try omega)
theorem sz_Segment (a : Segment) (hm : In64 TSegment a) : SzOk (laws_szSegment a) (szC TSegment a) :=
  SzOk.cast (f := laws_szSegment a) (SzOk.len (n := a.2.2.2.2.2.2.2.length) hm.2.2.2.2.2.2.2 SzOk.nil) (by simp only [szC]; try omega)
theorem sz_Packet (a : Packet) (hm : In64 TPacket a) : SzOk (laws_szPacket a) (szC TPacket a) :=
  SzOk.cast (f := laws_szPacket a) (SzOk.sub (sz_Segment a.2.2.2.2.2.2.2.2 hm.2.2.2.2.2.2.2.2) SzOk.nil) (by simp only [szC]; try omega)
theorem to_StringS (a : List Bytes) (h : LenB 1048576 (.sl .str) a) : laws_toStringS a = some a :=
  toFlatG_id (z := ([] : Bytes)) (Nat.le_trans h.1 (by omega))
theorem to_IntS (a : List Int) (h : LenB 1048576 (.sl (.int .i64)) a) : laws_toIntS a = some a :=
  toFlatG_id (z := 0) (Nat.le_trans h.1 (by omega))
theorem to_Filter (a : Filter) (h : LenB 1048576 TFilter a) : laws_toFilter a = some a := by
  first | (simp only [laws_toFilter, to_IntS _ h.2.2, bindO_some]; done) | (simp only [laws_toFilter, to_IntS _ h.2.2, bindO_some]; rfl)
theorem to_Rule (a : Rule) (h : LenB 1048576 TRule a) : laws_toRule a = some a := rfl
theorem to_RuleS (a : List Rule) (h : LenB 1048576 (.sl TRule) a) : laws_toRuleS a = some a :=
  toListG_id (f := laws_toRule) (z := (0, 0, 0, 0, 0, 0, 0, 0, 0)) (Nat.le_trans h.1 (by omega)) (fun x hx => to_Rule x (h.2 x hx))
theorem to_Flow (a : Flow) (h : LenB 1048576 TFlow a) : laws_toFlow a = some a := rfl
theorem to_Slot (a : Slot) (h : LenB 1048576 TSlot a) : laws_toSlot a = some a := by
  first | (simp only [laws_toSlot, to_Flow _ h.2.1, bindO_some]; done) | (simp only [laws_toSlot, to_Flow _ h.2.1, bindO_some]; rfl)
theorem to_SlotS (a : List Slot) (h : LenB 1048576 (.sl TSlot) a) : laws_toSlotS a = some a :=
  toListG_id (f := laws_toSlot) (z := (0, (0, 0, 0, 0, 0), 0)) (Nat.le_trans h.1 (by omega)) (fun x hx => to_Slot x (h.2 x hx))
theorem to_FlowTable (a : List Slot) (h : LenB 1048576 (.sl TSlot) a) : laws_toFlowTable a = some a := by
  first | (simp only [laws_toFlowTable, to_SlotS _ h, bindO_some]; done) | (simp only [laws_toFlowTable, to_SlotS _ h, bindO_some]; rfl)
theorem to_Spread (a : Spread) (h : LenB 1048576 TSpread a) : laws_toSpread a = some a := by
  first | (simp only [laws_toSpread, to_IntS _ h.2, bindO_some]; done) | (simp only [laws_toSpread, to_IntS _ h.2, bindO_some]; rfl)
theorem to_Steering (a : Steering) (h : LenB 1048576 TSteering a) : laws_toSteering a = some a := by
  first | (simp only [laws_toSteering, to_RuleS _ h.1, to_FlowTable _ h.2.1, to_Spread _ h.2.2, bindO_some]; done) | (simp only [laws_toSteering, to_RuleS _ h.1, to_FlowTable _ h.2.1, to_Spread _ h.2.2, bindO_some]; rfl)
theorem to_Stream (a : Stream) (h : LenB 1048576 TStream a) : laws_toStream a = some a := by
  first | (simp only [laws_toStream, to_Flow _ h.1, bindO_some]; done) | (simp only [laws_toStream, to_Flow _ h.1, bindO_some]; rfl)
theorem to_StreamS (a : List Stream) (h : LenB 1048576 (.sl TStream) a) : laws_toStreamS a = some a :=
  toListG_id (f := laws_toStream) (z := ((0, 0, 0, 0, 0), 0, ([] : Bytes), false)) (Nat.le_trans h.1 (by omega)) (fun x hx => to_Stream x (h.2 x hx))
theorem to_Soft (a : Soft) (h : LenB 1048576 TSoft a) : laws_toSoft a = some a := by
  first | (simp only [laws_toSoft, to_Filter _ h.1, to_Steering _ h.2.1, to_StreamS _ h.2.2.2.1, to_StringS _ h.2.2.2.2, bindO_some]; done) | (simp only [laws_toSoft, to_Filter _ h.1, to_Steering _ h.2.1, to_StreamS _ h.2.2.2.1, to_StringS _ h.2.2.2.2, bindO_some]; rfl)
theorem to_SoftS (a : List Soft) (h : LenB 1048576 (.sl TSoft) a) : laws_toSoftS a = some a :=
  toListG_id (f := laws_toSoft) (z := ((0, false, ([] : List Int)), (([] : List Rule), ([] : List Slot), ([] : Bytes), ([] : List Int)), 0, ([] : List Stream), ([] : List Bytes))) (Nat.le_trans h.1 (by omega)) (fun x hx => to_Soft x (h.2 x hx))
theorem to_StringSS (a : List (List Bytes)) (h : LenB 1048576 (.sl (.sl .str)) a) : laws_toStringSS a = some a :=
  toListG_id (f := laws_toStringS) (z := ([] : List Bytes)) (Nat.le_trans h.1 (by omega)) (fun x hx => to_StringS x (h.2 x hx))
theorem to_Bucket (a : Bucket) (h : LenB 1048576 TBucket a) : laws_toBucket a = some a := rfl
theorem to_VirtualFunction (a : VirtualFunction) (h : LenB 1048576 TVirtualFunction a) : laws_toVirtualFunction a = some a := by
  first | (simp only [laws_toVirtualFunction, to_Bucket _ h.2.2.1, bindO_some]; done) | (simp only [laws_toVirtualFunction, to_Bucket _ h.2.2.1, bindO_some]; rfl)
theorem to_VirtualFunctionS (a : List VirtualFunction) (h : LenB 1048576 (.sl TVirtualFunction) a) : laws_toVirtualFunctionS a = some a :=
  toListG_id (f := laws_toVirtualFunction) (z := (0, 0, (0, 0, 0), false, 0, 0)) (Nat.le_trans h.1 (by omega)) (fun x hx => to_VirtualFunction x (h.2 x hx))
theorem to_Mailbox (a : Mailbox) (h : LenB 1048576 TMailbox a) : laws_toMailbox a = some a := by
  first | (simp only [laws_toMailbox, to_Filter _ h.1, bindO_some]; done) | (simp only [laws_toMailbox, to_Filter _ h.1, bindO_some]; rfl)
theorem to_MailboxS (a : List Mailbox) (h : LenB 1048576 (.sl TMailbox) a) : laws_toMailboxS a = some a :=
  toListG_id (f := laws_toMailbox) (z := ((0, false, ([] : List Int)), 0, 0, 0)) (Nat.le_trans h.1 (by omega)) (fun x hx => to_Mailbox x (h.2 x hx))
theorem to_Ideal (a : Ideal) (h : LenB 1048576 TIdeal a) : laws_toIdeal a = some a := by
  first | (simp only [laws_toIdeal, to_SoftS _ h.1, to_StringSS _ h.2.1, to_VirtualFunctionS _ h.2.2.1, to_MailboxS _ h.2.2.2.1, to_StringS _ h.2.2.2.2, bindO_some]; done) | (simp only [laws_toIdeal, to_SoftS _ h.1, to_StringSS _ h.2.1, to_VirtualFunctionS _ h.2.2.1, to_MailboxS _ h.2.2.2.1, to_StringS _ h.2.2.2.2, bindO_some]; rfl)
theorem to_Segment (a : Segment) (h : LenB 1048576 TSegment a) : laws_toSegment a = some a := rfl
theorem to_Packet (a : Packet) (h : LenB 1048576 TPacket a) : laws_toPacket a = some a := by
  first | (simp only [laws_toPacket, to_Segment _ h.2.2.2.2.2.2.2.2, bindO_some]; done) | (simp only [laws_toPacket, to_Segment _ h.2.2.2.2.2.2.2.2, bindO_some]; rfl)
theorem eq_StringS (a : List Bytes) (h : LenB 1000000000000 (.sl .str) a) : laws_eqStringS a a = some true :=
  eqFlatG_self h.1
theorem eq_IntS (a : List Int) (h : LenB 1000000000000 (.sl (.int .i64)) a) : laws_eqIntS a a = some true :=
  eqFlatG_self h.1
theorem eq_Filter (a : Filter) (h : LenB 1000000000000 TFilter a) : laws_eqFilter a a = some true := by
  simp [laws_eqFilter, eq_IntS _ h.2.2]
theorem eq_Rule (a : Rule) (h : LenB 1000000000000 TRule a) : laws_eqRule a a = some true := by
  simp [laws_eqRule]
theorem eq_RuleS (a : List Rule) (h : LenB 1000000000000 (.sl TRule) a) : laws_eqRuleS a a = some true :=
  eqListG_self (f := laws_eqRule) h.1 (fun x hx => eq_Rule x (h.2 x hx))
theorem eq_Flow (a : Flow) (h : LenB 1000000000000 TFlow a) : laws_eqFlow a a = some true := by
  simp [laws_eqFlow]
theorem eq_Slot (a : Slot) (h : LenB 1000000000000 TSlot a) : laws_eqSlot a a = some true := by
  simp [laws_eqSlot, eq_Flow _ h.2.1]
theorem eq_SlotS (a : List Slot) (h : LenB 1000000000000 (.sl TSlot) a) : laws_eqSlotS a a = some true :=
  eqListG_self (f := laws_eqSlot) h.1 (fun x hx => eq_Slot x (h.2 x hx))
theorem eq_FlowTable (a : List Slot) (h : LenB 1000000000000 (.sl TSlot) a) : laws_eqFlowTable a a = some true := by
  simp [laws_eqFlowTable, eq_SlotS _ h]
theorem eq_Spread (a : Spread) (h : LenB 1000000000000 TSpread a) : laws_eqSpread a a = some true := by
  simp [laws_eqSpread, eq_IntS _ h.2]
theorem eq_Steering (a : Steering) (h : LenB 1000000000000 TSteering a) : laws_eqSteering a a = some true := by
  simp [laws_eqSteering, eq_RuleS _ h.1, eq_FlowTable _ h.2.1, eq_Spread _ h.2.2]
theorem eq_Stream (a : Stream) (h : LenB 1000000000000 TStream a) : laws_eqStream a a = some true := by
  simp [laws_eqStream, eq_Flow _ h.1]
theorem eq_StreamS (a : List Stream) (h : LenB 1000000000000 (.sl TStream) a) : laws_eqStreamS a a = some true :=
  eqListG_self (f := laws_eqStream) h.1 (fun x hx => eq_Stream x (h.2 x hx))
theorem eq_Soft (a : Soft) (h : LenB 1000000000000 TSoft a) : laws_eqSoft a a = some true := by
  simp [laws_eqSoft, eq_Filter _ h.1, eq_Steering _ h.2.1, eq_StreamS _ h.2.2.2.1, eq_StringS _ h.2.2.2.2]
theorem eq_SoftS (a : List Soft) (h : LenB 1000000000000 (.sl TSoft) a) : laws_eqSoftS a a = some true :=
  eqListG_self (f := laws_eqSoft) h.1 (fun x hx => eq_Soft x (h.2 x hx))
theorem eq_StringSS (a : List (List Bytes)) (h : LenB 1000000000000 (.sl (.sl .str)) a) : laws_eqStringSS a a = some true :=
  eqListG_self (f := laws_eqStringS) h.1 (fun x hx => eq_StringS x (h.2 x hx))
theorem eq_Bucket (a : Bucket) (h : LenB 1000000000000 TBucket a) : laws_eqBucket a a = some true := by
  simp [laws_eqBucket]
theorem eq_VirtualFunction (a : VirtualFunction) (h : LenB 1000000000000 TVirtualFunction a) : laws_eqVirtualFunction a a = some true := by
  simp [laws_eqVirtualFunction, eq_Bucket _ h.2.2.1]
theorem eq_VirtualFunctionS (a : List VirtualFunction) (h : LenB 1000000000000 (.sl TVirtualFunction) a) : laws_eqVirtualFunctionS a a = some true :=
  eqListG_self (f := laws_eqVirtualFunction) h.1 (fun x hx => eq_VirtualFunction x (h.2 x hx))
theorem eq_Mailbox (a : Mailbox) (h : LenB 1000000000000 TMailbox a) : laws_eqMailbox a a = some true := by
  simp [laws_eqMailbox, eq_Filter _ h.1]
theorem eq_MailboxS (a : List Mailbox) (h : LenB 1000000000000 (.sl TMailbox) a) : laws_eqMailboxS a a = some true :=
  eqListG_self (f := laws_eqMailbox) h.1 (fun x hx => eq_Mailbox x (h.2 x hx))
theorem eq_Ideal (a : Ideal) (h : LenB 1000000000000 TIdeal a) : laws_eqIdeal a a = some true := by
  simp [laws_eqIdeal, eq_SoftS _ h.1, eq_StringSS _ h.2.1, eq_VirtualFunctionS _ h.2.2.1, eq_MailboxS _ h.2.2.2.1, eq_StringS _ h.2.2.2.2]

end Go.Pu
