import Derived.Test.YtoickmmiogbhgaaGreatPuRules
import Derived.Test.YtoickmmiogbhgaaGreatPuParse
import Derived.Test.YtoickmmiogbhgaaGreatPuCopy
import Derived.Test.YtoickmmiogbhgaaGreatPuSoft
/- Frames received: the program's and the reference's results are one. -/
namespace Go.Pu
open Go.Dn
set_option linter.unusedSimpArgs false
set_option linter.unusedVariables false
noncomputable section

def atF (f : Int × Int × Int × Int × Int) (s : Stream) : Bool := decide (s.1 = f)
def strI (l : List Stream) (f : Int × Int × Int × Int × Int) : Int := match l.findIdx? (atF f) with | some i => (i : Int) | none => -1
theorem specStrI (l : List Stream) (f : Int × Int × Int × Int × Int) (h : l.length ≤ 1000000000) : spec_StreamIndex l f = some (strI l f) := by
  unfold spec_StreamIndex strI
  rw [find_iter (p := atF f) (hit := fun i => some i) (fin := some (-1)) l (by omega) (fun i hi nx => ?hs) (fun nx => ?hf)]
  case hs =>
    simp only [spec_StreamIndex_T2]
    rw [decide_eq_true (by omega), idx_lt hi, wrap64 (by omega) (by omega)]
    simp only [cond_true, bindO_some, flow_eq, atF]; rfl
  case hf =>
    simp only [spec_StreamIndex_T2]
    rw [decide_eq_false (by omega)]; rfl
  cases l.findIdx? (atF f) <;> rfl
theorem implStrI (l : List Stream) (f : Int × Int × Int × Int × Int) (h : l.length ≤ 1000000000) : impl_StreamIndex l f = some (strI l f) := by
  unfold impl_StreamIndex strI
  rw [find_iter (p := atF f) (hit := fun i => some i) (fin := some (-1)) l (by omega) (fun i hi nx => ?hs) (fun nx => ?hf)]
  case hs =>
    simp only [impl_StreamIndex_T2]
    rw [decide_eq_true (by omega), idx_lt hi, wrap64 (by omega) (by omega)]
    simp only [cond_true, bindO_some, flow_eq, atF]; rfl
  case hf =>
    simp only [impl_StreamIndex_T2]
    rw [decide_eq_false (by omega)]; rfl
  cases l.findIdx? (atF f) <;> rfl
def strZ : Stream := ((0, 0, 0, 0, 0), 0, ([] : Bytes), false)
def body (p : Packet) : Bytes := p.2.2.2.2.2.2.2.2.2.2.2.2.2.2.2
def udp (p : Packet) : Bytes := word16 ((body p).length : Int) ++ body p
def bitF (p : Packet) (b : Int) : Bool := IntKind.wrap .i64 (BitVec.toNat (BitVec.ofInt (IntKind.bits .i64) p.2.2.2.2.2.2.2.2.2.2.2.2.2.1 &&& BitVec.ofInt (IntKind.bits .i64) b)) != 0
def aheadI (s : Stream) (p : Packet) : Int := (s.2.1 - p.2.2.2.2.2.2.2.2.2.2.2.1) % 4294967296
def restB (p : Packet) (r : Int) : Bytes := ((body p).take (body p).length).drop r.toNat
def tcpR (s : Stream) (p : Packet) : Stream := (s.1, (s.2.1 + ((body p).length : Int) - aheadI s p) % 4294967296, s.2.2.1 ++ (body p).drop (aheadI s p).toNat, bitF p 1)
def deliverR (l : List Stream) (p : Packet) : List Stream :=
  bif !superB p then l else
  match l.findIdx? (atF (flowOf p)) with
  | none =>
    bif p.2.2.2.2.2.2.2.2.1 == 17 then l ++ [(flowOf p, 0, udp p, false)] else
    bif bitF p 2 then l ++ [(flowOf p, Int.tmod (IntKind.wrap .i64 (p.2.2.2.2.2.2.2.2.2.2.2.1 + 1)) 4294967296, ([] : Bytes), false)] else l
  | some i =>
    bif p.2.2.2.2.2.2.2.2.1 == 17 then l.set i ((l.getD i strZ).1, (l.getD i strZ).2.1, (l.getD i strZ).2.2.1 ++ udp p, (l.getD i strZ).2.2.2) else
    bif bitF p 2 then l else
    bif (l.getD i strZ).2.2.2 || bitF p 4 then l else
    bif decide (aheadI (l.getD i strZ) p ≤ ((body p).length : Int)) then l.set i (tcpR (l.getD i strZ) p) else l
theorem ahead_in (s : Stream) (p : Packet) : 0 ≤ aheadI s p ∧ aheadI s p < 4294967296 := by unfold aheadI; omega
theorem mask32 (x : Int) : IntKind.wrap .i64 (BitVec.toNat (BitVec.ofInt (IntKind.bits .i64) x &&& BitVec.ofInt (IntKind.bits .i64) 4294967295)) = x % 4294967296 := by
  have := and_mask x 32 (by omega)
  rw [show ((2 : Int) ^ 32 - 1) = 4294967295 from rfl, show ((2 : Int) ^ 32) = 4294967296 from rfl] at this
  rw [this, wrap64 (by omega) (by omega)]
theorem wrapm (x : Int) : IntKind.wrap .i64 x % 4294967296 = x % 4294967296 := by
  have := wrap_emod x 32 (by omega)
  rwa [show ((2 : Int) ^ 32) = 4294967296 from rfl] at this
theorem set_app_last {α : Type} (l : List α) (x y : α) : (l ++ [x]).set l.length y = l ++ [y] := by
  rw [List.set_append_right _ _ (Nat.le_refl _), Nat.sub_self, List.set_cons_zero]
theorem idx_put {α : Type} {l : List α} {i : Nat} (h : i < l.length) (x : α) : idx (l.set i x) (i : Int) = some x := by
  rw [idx_nat, List.getElem?_set_self h]
theorem idx_app_last {α : Type} (l : List α) (x : α) : idx (l ++ [x]) (l.length : Int) = some x := by
  rw [idx_nat, List.getElem?_append_right (Nat.le_refl _), Nat.sub_self]; rfl
theorem body_len {p : Packet} (h : superB p = true) : (body p).length ≤ 320 := super_body h
theorem implDeliverG (l : List Stream) (p : Packet) (h : LenB 900000000 (.sl TStream) l) : impl_Deliver l p = some (deliverR l p) := by
  have hl : l.length ≤ 900000000 := h.1
  unfold impl_Deliver deliverR
  simp only [implCopyStreams l (by omega), implSuper, bindO_some, implFlow, implStrI l _ (show l.length ≤ 1000000000 by omega), implWord16]
  cases hs : superB p with | false => rfl | true => ?_
  have hb := body_len hs
  have hw := word16_le ((body p).length : Int)
  simp only [Bool.not_true, cond_false]
  rw [show p.2.2.2.2.2.2.2.2.2.2.2.2.2.2.2 = body p from rfl]
  cases hf : l.findIdx? (atF (flowOf p)) with
  | none =>
    have e1 : strI l (flowOf p) = -1 := by rw [strI, hf]
    simp only [e1, show decide ((-1 : Int) < 0) = true from rfl, cond_true]
    cases p.2.2.2.2.2.2.2.2.1 == 17 with
    | true =>
      simp only [cond_true]
      rw [room_le (by simp; omega), idx_app_last, bindO_some]
      simp only
      rw [room_le (by omega), room_le (by simp only [List.length_append, List.length_nil]; omega), bindO_some, Int.toNat_natCast]
      simp only [bindO_some, idx_app_last, set_app_last, List.nil_append]; rfl
    | false =>
      simp only [cond_false]
      rw [show (IntKind.wrap .i64 (BitVec.toNat (BitVec.ofInt (IntKind.bits .i64) p.2.2.2.2.2.2.2.2.2.2.2.2.2.1 &&& BitVec.ofInt (IntKind.bits .i64) 2)) != 0) = bitF p 2 from rfl]
      cases bitF p 2 with
      | true =>
        simp only [cond_true]
        rw [if_neg (by omega), room_le (by simp; omega)]
      | false => rfl
  | some i =>
    obtain ⟨hi, _⟩ := List.findIdx?_eq_some_iff_getElem.1 hf
    have hd : (l[i].2.2.1).length ≤ 900000000 := (h.2 _ (List.getElem_mem hi)).2.2.1
    have e1 : strI l (flowOf p) = (i : Int) := by rw [strI, hf]
    simp only [e1, decide_eq_false (show ¬ (i : Int) < 0 by omega), cond_false, idx_lt hi, bindO_some, getD_lt hi, Int.toNat_natCast]
    cases p.2.2.2.2.2.2.2.2.1 == 17 with
    | true =>
      simp only [cond_true]
      rw [room_le (by omega), room_le (by simp only [List.length_append]; omega)]; rfl
    | false =>
      simp only [cond_false]
      rw [show (IntKind.wrap .i64 (BitVec.toNat (BitVec.ofInt (IntKind.bits .i64) p.2.2.2.2.2.2.2.2.2.2.2.2.2.1 &&& BitVec.ofInt (IntKind.bits .i64) 2)) != 0) = bitF p 2 from rfl,
        show (IntKind.wrap .i64 (BitVec.toNat (BitVec.ofInt (IntKind.bits .i64) p.2.2.2.2.2.2.2.2.2.2.2.2.2.1 &&& BitVec.ofInt (IntKind.bits .i64) 4)) != 0) = bitF p 4 from rfl,
        show (IntKind.wrap .i64 (BitVec.toNat (BitVec.ofInt (IntKind.bits .i64) p.2.2.2.2.2.2.2.2.2.2.2.2.2.1 &&& BitVec.ofInt (IntKind.bits .i64) 1)) != 0) = bitF p 1 from rfl]
      cases bitF p 2 with | true => rfl | false => ?_
      simp only [cond_false]
      rw [show (bindO (cond l[i].2.2.2 (some true) (some (bitF p 4))) : (Bool → Option (List Stream)) → Option (List Stream)) = fun K => K (l[i].2.2.2 || bitF p 4) from by funext K; cases l[i].2.2.2 <;> rfl]
      simp only
      cases l[i].2.2.2 || bitF p 4 with | true => rfl | false => ?_
      simp only [cond_false, modulo_eq _ 4294967296 (by omega) (by omega), bindO_some, wrapm]
      rw [show (l[i].2.1 - p.2.2.2.2.2.2.2.2.2.2.2.1) % 4294967296 = aheadI l[i] p from rfl]
      have ha := ahead_in l[i] p
      by_cases hq : aheadI l[i] p ≤ ((body p).length : Int)
      · rw [decide_eq_true hq, sub_end (l := body p) (aheadI l[i] p).toNat (by omega) (by omega)]
        simp only [cond_true, bindO_some]
        rw [room_le (by rw [List.length_drop]; omega)]
        simp only [idx_put hi, bindO_some, List.set_set]
        refine congrArg some (congrArg (l.set i) ?_)
        simp only [tcpR]
        rw [show (IntKind.wrap .i64 (l[i].2.1 + ((body p).length : Int)) - aheadI l[i] p) % 4294967296 = (l[i].2.1 + ((body p).length : Int) - aheadI l[i] p) % 4294967296 from by
          rw [Int.sub_emod, wrapm, ← Int.sub_emod]]
      · rw [decide_eq_false hq]; rfl
theorem specDeliverG (l : List Stream) (p : Packet) (h : LenB 900000000 (.sl TStream) l) : spec_Deliver l p = some (deliverR l p) := by
  have hl : l.length ≤ 900000000 := h.1
  unfold spec_Deliver deliverR
  rw [room_nil (by omega)]
  simp only [List.nil_append, specSuper, bindO_some, specFlow, specStrI l _ (show l.length ≤ 1000000000 by omega), specWord16]
  cases hs : superB p with | false => rfl | true => ?_
  have hb := body_len hs
  have hw := word16_le ((body p).length : Int)
  simp only [Bool.not_true, cond_false]
  rw [show p.2.2.2.2.2.2.2.2.2.2.2.2.2.2.2 = body p from rfl]
  cases hf : l.findIdx? (atF (flowOf p)) with
  | none =>
    have e1 : strI l (flowOf p) = -1 := by rw [strI, hf]
    simp only [e1, show decide ((-1 : Int) < 0) = true from rfl, cond_true]
    cases p.2.2.2.2.2.2.2.2.1 == 17 with
    | true =>
      simp only [cond_true]
      rw [room_le (by simp; omega), idx_app_last, bindO_some]
      simp only
      rw [room_le (by simp only [List.length_nil]; omega), room_le (by simp only [List.length_append, List.length_nil]; omega), bindO_some, Int.toNat_natCast]
      simp only [bindO_some, idx_app_last, set_app_last, List.nil_append]; rfl
    | false =>
      simp only [cond_false]
      rw [show (IntKind.wrap .i64 (BitVec.toNat (BitVec.ofInt (IntKind.bits .i64) p.2.2.2.2.2.2.2.2.2.2.2.2.2.1 &&& BitVec.ofInt (IntKind.bits .i64) 2)) != 0) = bitF p 2 from rfl]
      cases bitF p 2 with
      | true =>
        simp only [cond_true]
        rw [if_neg (by omega), room_le (by simp; omega)]
      | false => rfl
  | some i =>
    obtain ⟨hi, _⟩ := List.findIdx?_eq_some_iff_getElem.1 hf
    have hd : (l[i].2.2.1).length ≤ 900000000 := (h.2 _ (List.getElem_mem hi)).2.2.1
    have e1 : strI l (flowOf p) = (i : Int) := by rw [strI, hf]
    simp only [e1, decide_eq_false (show ¬ (i : Int) < 0 by omega), cond_false, idx_lt hi, bindO_some, getD_lt hi, Int.toNat_natCast]
    cases p.2.2.2.2.2.2.2.2.1 == 17 with
    | true =>
      simp only [cond_true]
      rw [room_le (by omega), room_le (by simp only [List.length_append]; omega), List.append_assoc]; rfl
    | false =>
      simp only [cond_false]
      rw [show (IntKind.wrap .i64 (BitVec.toNat (BitVec.ofInt (IntKind.bits .i64) p.2.2.2.2.2.2.2.2.2.2.2.2.2.1 &&& BitVec.ofInt (IntKind.bits .i64) 2)) != 0) = bitF p 2 from rfl,
        show (IntKind.wrap .i64 (BitVec.toNat (BitVec.ofInt (IntKind.bits .i64) p.2.2.2.2.2.2.2.2.2.2.2.2.2.1 &&& BitVec.ofInt (IntKind.bits .i64) 4)) != 0) = bitF p 4 from rfl,
        show (IntKind.wrap .i64 (BitVec.toNat (BitVec.ofInt (IntKind.bits .i64) p.2.2.2.2.2.2.2.2.2.2.2.2.2.1 &&& BitVec.ofInt (IntKind.bits .i64) 1)) != 0) = bitF p 1 from rfl]
      cases bitF p 2 with | true => rfl | false => ?_
      simp only [cond_false]
      rw [show (bindO (cond l[i].2.2.2 (some true) (some (bitF p 4))) : (Bool → Option (List Stream)) → Option (List Stream)) = fun K => K (l[i].2.2.2 || bitF p 4) from by funext K; cases l[i].2.2.2 <;> rfl]
      simp only
      cases l[i].2.2.2 || bitF p 4 with | true => rfl | false => ?_
      simp only [cond_false, mask32, bindO_some, wrapm]
      rw [show (l[i].2.1 - p.2.2.2.2.2.2.2.2.2.2.2.1) % 4294967296 = aheadI l[i] p from rfl]
      have ha := ahead_in l[i] p
      by_cases hq : aheadI l[i] p ≤ ((body p).length : Int)
      · rw [decide_eq_true hq, sub_end (l := body p) (aheadI l[i] p).toNat (by omega) (by omega)]
        simp only [cond_true, bindO_some]
        rw [room_le (by rw [List.length_drop]; omega)]
        simp only [idx_put hi, bindO_some, List.set_set, if_neg (show ¬ (4294967296 : Nat) = 0 by omega)]
        refine congrArg some (congrArg (l.set i) ?_)
        simp only [tcpR]
        have e : Int.tmod (IntKind.wrap .i64 (IntKind.wrap .i64 (l[i].2.1 % 4294967296 + ((body p).length : Int)) - aheadI l[i] p)) 4294967296 = (l[i].2.1 + ((body p).length : Int) - aheadI l[i] p) % 4294967296 := by
          rw [wrap64 (n := l[i].2.1 % 4294967296 + ((body p).length : Int)) (by omega) (by omega), wrap64 (by omega) (by omega), Int.tmod_eq_emod_of_nonneg (by omega)]
          omega
        rw [e]
      · rw [decide_eq_false hq]; rfl
theorem implDeliver (l : List Stream) (p : Packet) (h : LenB 100000000 (.sl TStream) l) : impl_Deliver l p = some (deliverR l p) := implDeliverG l p (h.mono (by omega))
theorem specDeliver (l : List Stream) (p : Packet) (h : LenB 100000000 (.sl TStream) l) : spec_Deliver l p = some (deliverR l p) := specDeliverG l p (h.mono (by omega))
theorem deliverR_len {l : List Stream} {p : Packet} {n : Nat} (h : LenB n (.sl TStream) l) : LenB (n + 322) (.sl TStream) (deliverR l p) := by
  have h' : LenB (n + 322) (.sl TStream) l := h.mono (by omega)
  unfold deliverR
  cases hs : superB p with | false => exact h' | true => ?_
  have hb := body_len hs
  have hw := word16_le ((body p).length : Int)
  have hu : (udp p).length ≤ 322 := by simp only [udp, List.length_append]; omega
  simp only [Bool.not_true, cond_false]
  have app : ∀ x : Stream, x.2.2.1.length ≤ n + 322 → LenB (n + 322) (.sl TStream) (l ++ [x]) := by
    intro x hx
    refine ⟨?_, fun y hy => ?_⟩
    · have : l.length ≤ n := h.1
      simp only [List.length_append, List.length_singleton]; omega
    · rcases List.mem_append.1 hy with g | g
      · exact h'.2 y g
      · rw [List.mem_singleton.1 g]; exact ⟨⟨trivial, trivial, trivial, trivial, trivial⟩, trivial, hx, trivial⟩
  have put : ∀ (i : Nat) (x : Stream), x.2.2.1.length ≤ n + 322 → LenB (n + 322) (.sl TStream) (l.set i x) := by
    intro i x hx
    refine ⟨?_, fun y hy => ?_⟩
    · show (l.set i x).length ≤ _
      rw [List.length_set]; exact h'.1
    · rcases List.mem_or_eq_of_mem_set hy with g | rfl
      · exact h'.2 y g
      · exact ⟨⟨trivial, trivial, trivial, trivial, trivial⟩, trivial, hx, trivial⟩
  split
  · cases p.2.2.2.2.2.2.2.2.1 == 17 with
    | true => exact app _ (show (udp p).length ≤ _ by omega)
    | false =>
      cases bitF p 2 with
      | true => exact app _ (Nat.zero_le _)
      | false => exact h'
  · rename_i i hf
    obtain ⟨hi, _⟩ := List.findIdx?_eq_some_iff_getElem.1 hf
    have hd : (l[i].2.2.1).length ≤ n := (h.2 _ (List.getElem_mem hi)).2.2.1
    simp only [getD_lt hi]
    cases p.2.2.2.2.2.2.2.2.1 == 17 with
    | true => exact put _ _ (by simp only [List.length_append]; omega)
    | false =>
      cases bitF p 2 with | true => exact h' | false => ?_
      cases l[i].2.2.2 || bitF p 4 with | true => exact h' | false => ?_
      cases decide (aheadI l[i] p ≤ ((body p).length : Int)) with
      | false => exact h'
      | true => exact put _ _ (by simp only [tcpR, List.length_append, List.length_drop]; omega)

-- the whole of it
theorem specCopySoft (s : Soft) (z : LenB 1000000000 TSoft s) : spec_l40Copy s = some s := by
  simp only [spec_l40Copy, specCopyFilter _ z.1.2.2.1, specCopySteer _ z.2.1.1.1 z.2.1.2.1.1 z.2.1.2.2.2.1, room_nil z.2.2.2.1.1, room_nil z.2.2.2.2.1, bindO_some, List.nil_append]
def takesB (s : Soft) (x : Bytes) : Bool := softB s && (((readF x).2 == 0) && (acceptsB s.1 (readF x).1 && (steerR s.2.1 s.2.2.1 (readF x).1 != -1)))
def receiveR (s : Soft) (x : Bytes) : Soft := bif takesB s x then (s.1, s.2.1, s.2.2.1, deliverR s.2.2.2.1 (readF x).1, s.2.2.2.2) else s
theorem implReceive (s : Soft) (x : Bytes) (z : LenB 100000000 TSoft s) (h : x.length ≤ 1000000000) : impl_SoftReceive s x = some (receiveR s x) := by
  have z9 : LenB 1000000000 TSoft s := z.mono (by omega)
  unfold impl_SoftReceive receiveR takesB
  simp only [implCopySoft s z9, implReadF x h, implSoft s z9.1.2.2.1 z9.2.1.1.1 z9.2.1.2.1.1 z9.2.1.2.2.2.1, implAccepts s.1 _ z9.1.2.2.1, implSteer s.2.1 _ _ z9.2.1.1.1 z9.2.1.2.1.1 z9.2.1.2.2.2.1, implDeliver s.2.2.2.1 _ z.2.2.2.1, bindO_some]
  cases softB s <;> cases (readF x).2 == 0 <;> cases acceptsB s.1 (readF x).1 <;> cases steerR s.2.1 s.2.2.1 (readF x).1 != -1 <;> rfl
theorem specReceive (s : Soft) (x : Bytes) (z : LenB 100000000 TSoft s) (h : x.length ≤ 1000000000) : spec_SoftReceive s x = some (receiveR s x) := by
  have z9 : LenB 1000000000 TSoft s := z.mono (by omega)
  unfold spec_SoftReceive receiveR takesB
  simp only [specCopySoft s z9, specReadF x h, specSoft s z9.1.2.2.1 z9.2.1.1.1 z9.2.1.2.1.1 z9.2.1.2.2.2.1, specAccepts s.1 _ z9.1.2.2.1, specSteer s.2.1 _ _ z9.2.1.1.1 z9.2.1.2.1.1 z9.2.1.2.2.2.1, specDeliver s.2.2.2.1 _ z.2.2.2.1, bindO_some]
  cases softB s <;> cases (readF x).2 == 0 <;> cases acceptsB s.1 (readF x).1 <;> cases steerR s.2.1 s.2.2.1 (readF x).1 != -1 <;> rfl
theorem receiveR_len {s : Soft} {x : Bytes} {n : Nat} (z : LenB n TSoft s) : LenB (n + 322) TSoft (receiveR s x) := by
  have z' : LenB (n + 322) TSoft s := z.mono (by omega)
  unfold receiveR
  cases takesB s x with
  | false => exact z'
  | true => exact ⟨z'.1, z'.2.1, trivial, deliverR_len z.2.2.2.1, z'.2.2.2.2⟩

end

end Go.Pu
