import Derived.Test.YtjilbinhppledaaPuLib
import Derived.Test.YtjilbinhppledaaPure
/- The laws' own helpers: they weigh, copy and compare data (made by codec.py). -/
namespace Go.Pu
open Go.Dn
set_option linter.unusedVariables false
set_option linter.unusedSimpArgs false

theorem sz_Stream (a : Stream) (hm : In64 TStream a) : SzOk (laws_szStream a) (szC TStream a) :=
  SzOk.cast (f := laws_szStream a) (SzOk.len (n := a.2.2.1.length) hm.2.2.1 SzOk.nil) (by simp only [szC]; try omega)
theorem sz_StreamS (a : List Stream) (hm : In64 (.sl TStream) a) : SzOk (laws_szStreamS a) (szC (.sl TStream) a) :=
  SzOk.list (f := laws_szStream) (s := szC TStream) hm.1 (fun x hx => sz_Stream x (hm.2 x hx))
theorem to_Flow (a : Flow) (h : LenB 1048576 TFlow a) : laws_toFlow a = some a := rfl
theorem to_Stream (a : Stream) (h : LenB 1048576 TStream a) : laws_toStream a = some a := by
  first | (simp only [laws_toStream, to_Flow _ h.1, bindO_some]; done) | (simp only [laws_toStream, to_Flow _ h.1, bindO_some]; rfl)
theorem to_StreamS (a : List Stream) (h : LenB 1048576 (.sl TStream) a) : laws_toStreamS a = some a :=
  toListG_id (f := laws_toStream) (z := ((0, 0, 0, 0, 0), 0, ([] : Bytes), false)) (Nat.le_trans h.1 (by omega)) (fun x hx => to_Stream x (h.2 x hx))
theorem eq_Flow (a : Flow) (h : LenB 1000000000000 TFlow a) : laws_eqFlow a a = some true := by
  simp [laws_eqFlow]
theorem eq_Stream (a : Stream) (h : LenB 1000000000000 TStream a) : laws_eqStream a a = some true := by
  simp [laws_eqStream, eq_Flow _ h.1]
theorem eq_StreamS (a : List Stream) (h : LenB 1000000000000 (.sl TStream) a) : laws_eqStreamS a a = some true :=
  eqListG_self (f := laws_eqStream) h.1 (fun x hx => eq_Stream x (h.2 x hx))
theorem sz_Segment (a : Segment) (hm : In64 TSegment a) : SzOk (laws_szSegment a) (szC TSegment a) :=
  SzOk.cast (f := laws_szSegment a) (SzOk.len (n := a.2.2.2.2.2.2.2.length) hm.2.2.2.2.2.2.2 SzOk.nil) (by simp only [szC]; try omega)
theorem sz_Packet (a : Packet) (hm : In64 TPacket a) : SzOk (laws_szPacket a) (szC TPacket a) :=
  SzOk.cast (f := laws_szPacket a) (SzOk.sub (sz_Segment a.2.2.2.2.2.2.2.2 hm.2.2.2.2.2.2.2.2) SzOk.nil) (by simp only [szC]; try omega)
theorem sz_Act (a : Act) (hm : In64 TAct a) : SzOk (laws_szAct a) (szC TAct a) :=
  SzOk.cast (f := laws_szAct a) (SzOk.sub (sz_Packet a.2.1 hm.2.1) (SzOk.len (n := a.2.2.2.2.1.length) hm.2.2.2.2.1 SzOk.nil)) (by simp only [szC]; try omega)
theorem sz_ActS (a : List Act) (hm : In64 (.sl TAct) a) : SzOk (laws_szActS a) (szC (.sl TAct) a) :=
  SzOk.list (f := laws_szAct) (s := szC TAct) hm.1 (fun x hx => sz_Act x (hm.2 x hx))
theorem to_Segment (a : Segment) (h : LenB 1048576 TSegment a) : laws_toSegment a = some a := rfl
theorem to_Packet (a : Packet) (h : LenB 1048576 TPacket a) : laws_toPacket a = some a := by
  first | (simp only [laws_toPacket, to_Segment _ h.2.2.2.2.2.2.2.2, bindO_some]; done) | (simp only [laws_toPacket, to_Segment _ h.2.2.2.2.2.2.2.2, bindO_some]; rfl)
theorem to_Act (a : Act) (h : LenB 1048576 TAct a) : laws_toAct a = some a := by
  first | (simp only [laws_toAct, to_Packet _ h.2.1, bindO_some]; done) | (simp only [laws_toAct, to_Packet _ h.2.1, bindO_some]; rfl)
theorem to_ActS (a : List Act) (h : LenB 1048576 (.sl TAct) a) : laws_toActS a = some a :=
  toListG_id (f := laws_toAct) (z := (0, (0, 0, 0, 0, 0, 0, 0, 0, 0, 0, 0, 0, 0, 0, 0, ([] : Bytes)), 0, 0, ([] : Bytes), 0)) (Nat.le_trans h.1 (by omega)) (fun x hx => to_Act x (h.2 x hx))
theorem eq_Segment (a : Segment) (h : LenB 1000000000000 TSegment a) : laws_eqSegment a a = some true := by
  simp [laws_eqSegment]
theorem eq_Packet (a : Packet) (h : LenB 1000000000000 TPacket a) : laws_eqPacket a a = some true := by
  simp [laws_eqPacket, eq_Segment _ h.2.2.2.2.2.2.2.2]
theorem eq_Act (a : Act) (h : LenB 1000000000000 TAct a) : laws_eqAct a a = some true := by
  simp [laws_eqAct, eq_Packet _ h.2.1]
theorem eq_ActS (a : List Act) (h : LenB 1000000000000 (.sl TAct) a) : laws_eqActS a a = some true :=
  eqListG_self (f := laws_eqAct) h.1 (fun x hx => eq_Act x (h.2 x hx))
theorem sz_StringS (a : List Bytes) (hm : In64 (.sl .str) a) : SzOk (laws_szStringS a) (szC (.sl .str) a) :=
  SzOk.strs hm
theorem sz_Memory (a : List Bytes) (hm : In64 (.sl .str) a) : SzOk (laws_szMemory a) (szC (.sl .str) a) :=
  SzOk.cast (f := laws_szMemory a) (SzOk.sub (sz_StringS a hm) SzOk.nil) (by simp only [szC]; try omega)
theorem to_StringS (a : List Bytes) (h : LenB 1048576 (.sl .str) a) : laws_toStringS a = some a :=
  toFlatG_id (z := ([] : Bytes)) (Nat.le_trans h.1 (by omega))
theorem to_Memory (a : List Bytes) (h : LenB 1048576 (.sl .str) a) : laws_toMemory a = some a := by
  first | (simp only [laws_toMemory, to_StringS _ h, bindO_some]; done) | (simp only [laws_toMemory, to_StringS _ h, bindO_some]; rfl)
theorem eq_StringS (a : List Bytes) (h : LenB 1000000000000 (.sl .str) a) : laws_eqStringS a a = some true :=
  eqFlatG_self h.1
theorem eq_Memory (a : List Bytes) (h : LenB 1000000000000 (.sl .str) a) : laws_eqMemory a a = some true := by
  simp [laws_eqMemory, eq_StringS _ h]
theorem eq_IntS (a : List Int) (h : LenB 1000000000000 (.sl (.int .i64)) a) : laws_eqIntS a a = some true :=
  eqFlatG_self h.1
theorem eq_Move (a : Move) (h : LenB 1000000000000 TMove a) : laws_eqMove a a = some true := by
  simp [laws_eqMove, eq_Memory _ h.1, eq_IntS _ h.2.1]
theorem sz_IntS (a : List Int) (hm : In64 (.sl (.int .i64)) a) : SzOk (laws_szIntS a) (szC (.sl (.int .i64)) a) :=
  (SzOk.flat (n := a.length) hm.1).cast (by simp only [szC]; rw [sum_zero (fun x _ => by simp only [szC])]; rfl)
theorem sz_Move (a : Move) (hm : In64 TMove a) : SzOk (laws_szMove a) (szC TMove a) :=
  SzOk.cast (f := laws_szMove a) (SzOk.sub (sz_Memory a.1 hm.1) (SzOk.sub (sz_IntS a.2.1 hm.2.1) SzOk.nil)) (by simp only [szC]; try omega)
theorem to_IntS (a : List Int) (h : LenB 1048576 (.sl (.int .i64)) a) : laws_toIntS a = some a :=
  toFlatG_id (z := 0) (Nat.le_trans h.1 (by omega))
theorem to_Move (a : Move) (h : LenB 1048576 TMove a) : laws_toMove a = some a := by
  first | (simp only [laws_toMove, to_Memory _ h.1, to_IntS _ h.2.1, bindO_some]; done) | (simp only [laws_toMove, to_Memory _ h.1, to_IntS _ h.2.1, bindO_some]; rfl)

end Go.Pu
