import Derived.Test.YtoickmmiogbhgaaGreatPuPacket
/- Frames built and packets split: the program's and the reference's are one. -/
namespace Go.Pu
open Go.Dn
set_option linter.unusedSimpArgs false
set_option linter.unusedVariables false
noncomputable section

-- datagrams
def ipB (d : Ip) : Bool := inB d.1 0 255 && (inB d.2.2.1 0 255 && (inB d.2.2.2.1 0 255 && (inB d.2.1 0 65535 && (inB d.2.2.2.2.1 0 4294967295 && (inB d.2.2.2.2.2.1 0 4294967295 && decide ((d.2.2.2.2.2.2.length : Int) ≤ 380))))))
theorem specIpOk (d : Ip) : spec_IpOk d = some (ipB d) := by
  simp only [spec_IpOk, l01In_eq, bindO_some, cond_some, cF, ipB]
theorem implIpOk (d : Ip) : impl_IpOk d = some (ipB d) := specIpOk d
def ipPre (d : Ip) : Bytes := ((((((bs2 69 (IntKind.wrap .u8 d.1) ++ word16 (20 + (d.2.2.2.2.2.2.length : Int))) ++ word16 d.2.1) ++ word16 16384) ++ bs2 (IntKind.wrap .u8 d.2.2.1) (IntKind.wrap .u8 d.2.2.2.1)) ++ word16 0) ++ word32 d.2.2.2.2.1) ++ word32 d.2.2.2.2.2.1
theorem ipPre_le (d : Ip) : (ipPre d).length ≤ 20 := by
  have := word16_le (20 + (d.2.2.2.2.2.2.length : Int))
  have := word16_le d.2.1
  have := word16_le 16384
  have := word16_le 0
  have := word32_le d.2.2.2.2.1
  have := word32_le d.2.2.2.2.2.1
  simp only [ipPre, List.length_append, bs2_len]; omega
def ipHead (d : Ip) : Bytes := putB (ipPre d) 10 (word16 (chk (ipPre d)))
theorem specIpHead (d : Ip) : spec_IpHeader d = some (bif ipB d then (ipHead d, true) else ([], false)) := by
  unfold spec_IpHeader
  rw [specIpOk, bindO_some]
  cases hd : ipB d with | false => rfl | true => ?_
  have hn : (d.2.2.2.2.2.2.length : Int) ≤ 380 := by simp only [ipB, Bool.and_eq_true, decide_eq_true_eq] at hd; omega
  have := word16_le (20 + (d.2.2.2.2.2.2.length : Int))
  have := word16_le d.2.1
  have := word16_le 16384
  have := word16_le 0
  have := word32_le d.2.2.2.2.1
  have := word32_le d.2.2.2.2.2.1
  have hl := ipPre_le d
  have e : ∀ x y, (bytesOf [x, y]).length = 2 := fun _ _ => rfl
  rw [wrap64 (n := 20 + (d.2.2.2.2.2.2.length : Int)) (by omega) (by omega)]
  simp only [specWord16, specWord32, bindO_some, Bool.not_true, cond_false, cond_true]
  rw [room_le (by simp only [List.length_append, e]; omega), room_le (by simp only [List.length_append, e]; omega), room_le (by simp only [List.length_append, e]; omega), room_le (by simp only [List.length_append, e]; omega), room_le (by simp only [List.length_append, e]; omega), room_le (by simp only [List.length_append, e]; omega), room_le (by simp only [List.length_append, e]; omega)]
  have hp : ((((((bytesOf [69, IntKind.wrap .u8 d.1] ++ word16 (20 + (d.2.2.2.2.2.2.length : Int))) ++ word16 d.2.1) ++ word16 16384) ++ bytesOf [IntKind.wrap .u8 d.2.2.1, IntKind.wrap .u8 d.2.2.2.1]) ++ word16 0) ++ word32 d.2.2.2.2.1) ++ word32 d.2.2.2.2.2.1 = ipPre d := rfl
  rw [hp, specChk _ (by omega), bindO_some, specPut _ _ _ (by omega)]; rfl
theorem implIpHead (d : Ip) : impl_IpHeader d = some (bif ipB d then (ipHead d, true) else ([], false)) := by
  unfold impl_IpHeader
  rw [implIpOk, bindO_some]
  cases hd : ipB d with | false => rfl | true => ?_
  have hn : (d.2.2.2.2.2.2.length : Int) ≤ 380 := by simp only [ipB, Bool.and_eq_true, decide_eq_true_eq] at hd; omega
  have := word16_le (20 + (d.2.2.2.2.2.2.length : Int))
  have := word16_le d.2.1
  have := word16_le 16384
  have := word16_le 0
  have := word32_le d.2.2.2.2.1
  have := word32_le d.2.2.2.2.2.1
  have hl := ipPre_le d
  have hw := word16_le (chk (ipPre d))
  have e : ∀ x y, (bytesOf [x, y]).length = 2 := fun _ _ => rfl
  rw [wrap64 (n := 20 + (d.2.2.2.2.2.2.length : Int)) (by omega) (by omega)]
  simp only [implWord16, implWord32, bindO_some, Bool.not_true, cond_false, cond_true]
  rw [room_le (by simp only [List.length_append, e]; omega), room_le (by simp only [List.length_append, e]; omega), room_le (by simp only [List.length_append, e]; omega), room_le (by simp only [List.length_append, e]; omega), room_le (by simp only [List.length_append, e]; omega), room_le (by simp only [List.length_append, e]; omega), room_le (by simp only [List.length_append, e]; omega)]
  have hp : ((((((bytesOf [69, IntKind.wrap .u8 d.1] ++ word16 (20 + (d.2.2.2.2.2.2.length : Int))) ++ word16 d.2.1) ++ word16 16384) ++ bytesOf [IntKind.wrap .u8 d.2.2.1, IntKind.wrap .u8 d.2.2.2.1]) ++ word16 0) ++ word32 d.2.2.2.2.1) ++ word32 d.2.2.2.2.2.1 = ipPre d := rfl
  rw [hp, implChk _ (by omega), bindO_some, implPut _ _ _ (by omega) (by omega)]; rfl
def ipR (d : Ip) : Bytes × Bool := bif ipB d then (ipHead d ++ d.2.2.2.2.2.2, true) else ([], false)
theorem ipHead_le (d : Ip) : (ipHead d).length ≤ 20 := by unfold ipHead; rw [putB_len]; exact ipPre_le d
theorem specIp (d : Ip) : spec_BuildIp d = some (ipR d) := by
  unfold spec_BuildIp ipR
  rw [specIpHead, bindO_some]
  cases hd : ipB d with | false => rfl | true => ?_
  have hn : (d.2.2.2.2.2.2.length : Int) ≤ 380 := by simp only [ipB, Bool.and_eq_true, decide_eq_true_eq] at hd; omega
  have := ipHead_le d
  simp only [cond_true, Bool.not_true, cond_false]
  rw [room_le (by omega)]
theorem implIp (d : Ip) : impl_BuildIp d = some (ipR d) := by
  unfold impl_BuildIp ipR
  rw [implIpHead, bindO_some]
  cases hd : ipB d with | false => rfl | true => ?_
  have hn : (d.2.2.2.2.2.2.length : Int) ≤ 380 := by simp only [ipB, Bool.and_eq_true, decide_eq_true_eq] at hd; omega
  have := ipHead_le d
  simp only [cond_true, Bool.not_true, cond_false]
  rw [room_le (by omega)]

-- padding
def zeros (n : Nat) : Bytes := bytesOf (List.replicate n (0 : Int))
theorem zeros_len (n : Nat) : (zeros n).length = n := by simp [zeros, bytesOf]
theorem specLong (n : Nat) (h : n ≤ 1000000000) : spec_l01Long (n : Int) 0 = some (zeros n) := by
  unfold spec_l01Long
  rw [if_pos (by omega), room_le (by rw [Int.toNat_natCast]; omega), Int.toNat_natCast]
  refine walk_iter (fun i => (List.replicate n (0 : Int), (i : Int))) n (by omega) (fun i nx hi => ?_) (fun nx => ?_)
  · simp only [spec_l01Long_T3]
    rw [decide_eq_true (by omega), idx_lt (by simpa using hi), wrap64 (by omega) (by omega)]
    simp only [cond_true, bindO_some, Int.toNat_natCast, List.set_replicate_self]; rfl
  · simp only [spec_l01Long_T3]
    rw [decide_eq_false (by omega)]; rfl
theorem implRep (n : Nat) (h : n ≤ 1000000000) : impl_repeat 0 (n : Int) = some (zeros n) := by
  unfold impl_repeat
  rw [if_pos (by omega), room_le (by rw [Int.toNat_natCast]; omega), Int.toNat_natCast]
  refine walk_iter (fun i => (List.replicate n (0 : Int), (i : Int))) n (by omega) (fun i nx hi => ?_) (fun nx => ?_)
  · simp only [impl_repeat_T3]
    rw [decide_eq_true (by simp; omega), idx_lt (by simpa using hi), wrap64 (by omega) (by omega)]
    simp only [cond_true, bindO_some, Int.toNat_natCast, List.set_replicate_self]; rfl
  · simp only [impl_repeat_T3]
    rw [decide_eq_false (by simp)]; rfl
def pad (s : Bytes) : Bytes := if s.length < 46 then s ++ zeros (46 - s.length) else s
theorem pad_len (s : Bytes) : (pad s).length = max 46 s.length := by
  unfold pad
  split
  · simp only [List.length_append, zeros_len]; omega
  · omega
theorem specPad (s : Bytes) (h : s.length ≤ 1000000000) : spec_PadBody s = some (pad s) := by
  unfold spec_PadBody pad
  by_cases hc : s.length < 46
  · rw [decide_eq_true (by omega), if_pos hc, wrap64 (by omega) (by omega), show (46 : Int) - (s.length : Int) = ((46 - s.length : Nat) : Int) by omega, specLong _ (by omega)]
    simp only [cond_true, bindO_some]
    rw [room_le (by rw [zeros_len]; omega)]
  · rw [decide_eq_false (by omega), if_neg hc]; rfl
theorem implPad (s : Bytes) (h : s.length ≤ 1000000000) : impl_PadBody s = some (pad s) := by
  unfold impl_PadBody pad
  by_cases hc : s.length < 46
  · rw [decide_eq_false (by omega), if_pos hc, wrap64 (by omega) (by omega), show (46 : Int) - (s.length : Int) = ((46 - s.length : Nat) : Int) by omega, implRep _ (by omega)]
    simp only [cond_false, bindO_some]
    rw [room_le (by rw [zeros_len]; omega)]
  · rw [decide_eq_true (by omega), if_neg hc]; rfl

-- the wire's own frames
def ethB (e : Eth) : Bool := inB e.1 0 281474976710655 && (inB e.2.1 0 281474976710655 && (inB e.2.2.1 (-1) 4095 && (inB e.2.2.2.1 1536 65535 && ((e.2.2.2.1 != 33024) && inB (e.2.2.2.2.length : Int) 46 400))))
theorem specEthOk (e : Eth) : spec_EthOk e = some (ethB e) := by
  simp only [spec_EthOk, l01In_eq, bindO_some, cond_some, cF, ethB]
theorem implEthOk (e : Eth) : impl_EthOk e = some (ethB e) := specEthOk e
def mac (a : Int) : Bytes := (spec_l04Address a).getD []
theorem specMac (a : Int) : spec_l04Address a = some (mac a) ∧ (mac a).length ≤ 6 := by
  have h : ∃ x, spec_l04Address a = some x ∧ x.length ≤ 6 := by
    unfold spec_l04Address
    rw [if_neg (by omega)]
    simp only [specWord16, specWord32, bindO_some]
    have h1 := word16_le (Int.fdiv a (2 ^ (min (Int.toNat 32) (IntKind.bits .i64))))
    have h2 := word32_le (IntKind.wrap .i64 (BitVec.toNat (BitVec.ofInt (IntKind.bits .i64) a &&& BitVec.ofInt (IntKind.bits .i64) 4294967295)))
    rw [room_le (by omega)]
    exact ⟨_, rfl, by simp only [List.length_append]; omega⟩
  obtain ⟨x, hx, hl⟩ := h
  unfold mac
  rw [hx]
  exact ⟨rfl, hl⟩
theorem implMac (a : Int) : impl_macBytes a = some (mac a) := (specMac a).1
def ethOf (e : Eth) : Bytes := (bif decide (e.2.2.1 ≥ 0) then (((mac e.1 ++ mac e.2.1) ++ word16 33024) ++ word16 e.2.2.1) else mac e.1 ++ mac e.2.1) ++ word16 e.2.2.2.1 ++ e.2.2.2.2
theorem ethOf_le (e : Eth) : (ethOf e).length ≤ 18 + e.2.2.2.2.length := by
  have := (specMac e.1).2
  have := (specMac e.2.1).2
  have := word16_le 33024
  have := word16_le e.2.2.1
  have := word16_le e.2.2.2.1
  unfold ethOf
  cases decide (e.2.2.1 ≥ 0) <;> simp only [cond_true, cond_false, List.length_append] <;> omega
def ethR (e : Eth) : Bytes × Bool := bif ethB e then (ethOf e, true) else ([], false)
theorem specEth (e : Eth) : spec_BuildEth e = some (ethR e) := by
  unfold spec_BuildEth ethR
  rw [specEthOk, bindO_some]
  cases he : ethB e with | false => rfl | true => ?_
  have hn : (e.2.2.2.2.length : Int) ≤ 400 := by simp only [ethB, Bool.and_eq_true, inB_iff] at he; omega
  have := (specMac e.1).2
  have := (specMac e.2.1).2
  have := word16_le 33024
  have := word16_le e.2.2.1
  have := word16_le e.2.2.2.1
  simp only [(specMac _).1, specWord16, bindO_some, Bool.not_true, cond_false, cond_true, ethOf]
  rw [room_le (by omega)]
  cases decide (e.2.2.1 ≥ 0) with
  | true =>
    simp only [cond_true]
    rw [room_le (by simp only [List.length_append]; omega), room_le (by simp only [List.length_append]; omega), room_le (by simp only [List.length_append]; omega), room_le (by simp only [List.length_append]; omega)]
  | false =>
    simp only [cond_false]
    rw [room_le (by simp only [List.length_append]; omega), room_le (by simp only [List.length_append]; omega)]
theorem implEth (e : Eth) : impl_BuildEth e = some (ethR e) := by
  unfold impl_BuildEth ethR
  rw [implEthOk, bindO_some]
  cases he : ethB e with | false => rfl | true => ?_
  have hn : (e.2.2.2.2.length : Int) ≤ 400 := by simp only [ethB, Bool.and_eq_true, inB_iff] at he; omega
  have := (specMac e.1).2
  have := (specMac e.2.1).2
  have := word16_le 33024
  have := word16_le e.2.2.1
  have := word16_le e.2.2.2.1
  simp only [implMac, implWord16, bindO_some, Bool.not_true, cond_false, cond_true, ethOf]
  rw [room_le (by omega)]
  cases decide (e.2.2.1 ≥ 0) with
  | true =>
    simp only [cond_true]
    rw [room_le (by omega), room_le (by simp only [List.length_append]; omega), room_le (by simp only [List.length_append]; omega), room_le (by simp only [List.length_append]; omega)]
    simp only [List.append_assoc]
  | false =>
    simp only [cond_false]
    rw [room_le (by simp only [List.length_append]; omega), room_le (by simp only [List.length_append]; omega)]

-- images and frames
def segP (p : Packet) : Bytes × Bool := segR p.2.2.2.2.2.2.1 p.2.2.2.2.2.2.2.1 p.2.2.2.2.2.2.2.2
def ipP (p : Packet) : Bytes × Bool := ipR (p.2.2.2.1, p.2.2.2.2.1, p.2.2.2.2.2.1, p.2.2.2.2.2.2.2.2.1, p.2.2.2.2.2.2.1, p.2.2.2.2.2.2.2.1, (segP p).1)
def ethP (p : Packet) : Bytes × Bool := ethR (p.1, p.2.1, p.2.2.1, 2048, pad (ipP p).1)
def imageR (p : Packet) : Bytes × Bool := bif superB p then ethP p else ([], false)
theorem ipP_le (p : Packet) : (ipP p).1.length ≤ 360 := by
  have h1 := segR_le p.2.2.2.2.2.2.1 p.2.2.2.2.2.2.2.1 p.2.2.2.2.2.2.2.2
  unfold ipP ipR
  cases ipB (p.2.2.2.1, p.2.2.2.2.1, p.2.2.2.2.2.1, p.2.2.2.2.2.2.2.2.1, p.2.2.2.2.2.2.1, p.2.2.2.2.2.2.2.1, (segP p).1) with
  | false => exact Nat.zero_le _
  | true =>
    have h2 := ipHead_le (p.2.2.2.1, p.2.2.2.2.1, p.2.2.2.2.2.1, p.2.2.2.2.2.2.2.2.1, p.2.2.2.2.2.2.1, p.2.2.2.2.2.2.2.1, (segP p).1)
    have h3 : (segP p).1.length ≤ 340 := h1
    simp only [cond_true, List.length_append]
    omega
theorem specImage (p : Packet) : spec_BuildImage p = some (imageR p) := by
  have hl := ipP_le p
  unfold spec_BuildImage imageR
  simp only [specSuper, specSegment, specIp, bindO_some]
  rw [show (ipR (p.2.2.2.1, p.2.2.2.2.1, p.2.2.2.2.2.1, p.2.2.2.2.2.2.2.2.1, p.2.2.2.2.2.2.1, p.2.2.2.2.2.2.2.1, (segR p.2.2.2.2.2.2.1 p.2.2.2.2.2.2.2.1 p.2.2.2.2.2.2.2.2).1)) = ipP p from rfl, specPad _ (by omega), bindO_some, specEth]
  cases superB p <;> rfl
theorem implImage (p : Packet) : impl_BuildImage p = some (imageR p) := by
  have hl := ipP_le p
  unfold impl_BuildImage imageR
  simp only [implSuper, implSegment, implIp, bindO_some]
  rw [show (ipR (p.2.2.2.1, p.2.2.2.2.1, p.2.2.2.2.2.1, p.2.2.2.2.2.2.2.2.1, p.2.2.2.2.2.2.1, p.2.2.2.2.2.2.2.1, (segR p.2.2.2.2.2.2.1 p.2.2.2.2.2.2.2.1 p.2.2.2.2.2.2.2.2).1)) = ipP p from rfl, implPad _ (by omega), bindO_some, implEth]
  cases superB p <;> rfl
theorem imageR_ok {p : Packet} (h : superB p = true) : (imageR p).2 = true := by
  have hl := ipP_le p
  have hh : headB p = true := by simp only [superB, Bool.and_eq_true] at h; exact h.1
  have hp := pad_len (ipP p).1
  unfold imageR ethP ethR
  rw [h, cond_true]
  have : ethB (p.1, p.2.1, p.2.2.1, 2048, pad (ipP p).1) = true := by
    simp only [headB, Bool.and_eq_true] at hh
    simp only [ethB, Bool.and_eq_true]
    refine ⟨hh.1, hh.2.1, hh.2.2.1, by decide, by decide, inB_iff.2 ?_⟩
    omega
  rw [this]; rfl
theorem imageR_le (p : Packet) : (imageR p).1.length ≤ 378 := by
  have hl := ipP_le p
  have hp := pad_len (ipP p).1
  unfold imageR ethP ethR
  cases superB p with
  | false => exact Nat.zero_le _
  | true =>
    cases ethB (p.1, p.2.1, p.2.2.1, 2048, pad (ipP p).1) with
    | false => exact Nat.zero_le _
    | true =>
      have := ethOf_le (p.1, p.2.1, p.2.2.1, 2048, pad (ipP p).1)
      simp only [cond_true] at this ⊢
      omega
def fcs (c : Int) : Bytes := bytesOf [IntKind.wrap .u8 c, IntKind.wrap .u8 (Int.fdiv c (2 ^ (min (Int.toNat 8) (IntKind.bits .i64)))), IntKind.wrap .u8 (Int.fdiv c (2 ^ (min (Int.toNat 16) (IntKind.bits .i64)))), IntKind.wrap .u8 (Int.fdiv c (2 ^ (min (Int.toNat 24) (IntKind.bits .i64))))]
def withFcs (s : Bytes) : Bytes := s ++ fcs (crc32 s)
theorem fcs_len (c : Int) : (fcs c).length = 4 := rfl
theorem specFcs (s : Bytes) (h : s.length ≤ 1000000000) : spec_WithFcs s = some (withFcs s) := by
  unfold spec_WithFcs
  rw [specCrc s h, bindO_some, if_neg (by omega), if_neg (by omega), if_neg (by omega)]
  exact room_le (by show s.length + 4 ≤ _; omega)
theorem implFcs (s : Bytes) (h : s.length ≤ 1000000000) : impl_WithFcs s = some (withFcs s) := by
  unfold impl_WithFcs
  rw [implCrc s h, bindO_some, if_neg (by omega), if_neg (by omega), if_neg (by omega)]
  exact room_le (by show s.length + 4 ≤ _; omega)
def packetB (p : Packet) : Bool := superB p && decide ((p.2.2.2.2.2.2.2.2.2.2.2.2.2.2.2.length : Int) ≤ 128)
theorem specPacket (p : Packet) : spec_PacketOk p = some (packetB p) := by
  simp only [spec_PacketOk, specSuper, bindO_some, cond_some, cF, packetB]
theorem implPacket (p : Packet) : impl_PacketOk p = some (packetB p) := by
  simp only [impl_PacketOk, implSuper, bindO_some, cond_some, cF, packetB]
def frameR (p : Packet) : Bytes × Bool := bif packetB p then (withFcs (imageR p).1, true) else ([], false)
theorem specFrame (p : Packet) : spec_BuildFrame p = some (frameR p) := by
  have hl := imageR_le p
  simp only [spec_BuildFrame, specPacket, specImage, specFcs _ (show (imageR p).1.length ≤ 1000000000 by omega), bindO_some, frameR]
  cases packetB p <;> rfl
theorem implFrame (p : Packet) : impl_BuildFrame p = some (frameR p) := by
  have hl := imageR_le p
  simp only [impl_BuildFrame, implPacket, implImage, implFcs _ (show (imageR p).1.length ≤ 1000000000 by omega), bindO_some, frameR]
  cases hp : packetB p with
  | false => rfl
  | true =>
    have : superB p = true := by simp only [packetB, Bool.and_eq_true] at hp; exact hp.1
    rw [imageR_ok this]; rfl
theorem frameR_le (p : Packet) : (frameR p).1.length ≤ 382 := by
  have hl := imageR_le p
  unfold frameR
  cases packetB p with
  | false => exact Nat.zero_le _
  | true => simp only [cond_true, withFcs, List.length_append, fcs_len]; omega

-- packets split
def pieceN (p : Packet) (z : Int) (k : Nat) : Packet :=
  (p.1, p.2.1, p.2.2.1, p.2.2.2.1, Int.tmod (IntKind.wrap .i64 (p.2.2.2.2.1 + (k : Int))) 65536, p.2.2.2.2.2.1, p.2.2.2.2.2.2.1, p.2.2.2.2.2.2.2.1, p.2.2.2.2.2.2.2.2.1, p.2.2.2.2.2.2.2.2.2.1, p.2.2.2.2.2.2.2.2.2.2.1,
    Int.tmod (IntKind.wrap .i64 (p.2.2.2.2.2.2.2.2.2.2.2.1 + ((k : Int) * z))) 4294967296, p.2.2.2.2.2.2.2.2.2.2.2.2.1,
    (bif decide (((k : Int) + 1) * z < (p.2.2.2.2.2.2.2.2.2.2.2.2.2.2.2.length : Int)) then IntKind.wrap .i64 (BitVec.toNat (BitVec.ofInt (IntKind.bits .i64) p.2.2.2.2.2.2.2.2.2.2.2.2.2.1 &&& ~~~ BitVec.ofInt (IntKind.bits .i64) 9)) else p.2.2.2.2.2.2.2.2.2.2.2.2.2.1),
    p.2.2.2.2.2.2.2.2.2.2.2.2.2.2.1, (p.2.2.2.2.2.2.2.2.2.2.2.2.2.2.2.take (min ((k + 1) * z.toNat) p.2.2.2.2.2.2.2.2.2.2.2.2.2.2.2.length)).drop (k * z.toNat))
def piecesN (n z : Nat) : Nat := (n + z - 1) / z
def splitR (p : Packet) (z : Int) : List Packet := bif superB p && inB z 1 128 then
    (bif (p.2.2.2.2.2.2.2.2.1 != 6) || decide ((p.2.2.2.2.2.2.2.2.2.2.2.2.2.2.2.length : Int) ≤ z) then [p] else (List.range (piecesN p.2.2.2.2.2.2.2.2.2.2.2.2.2.2.2.length z.toNat)).map (pieceN p z)) else []
theorem pieces_lt {n z k : Nat} (hz : 0 < z) : k < piecesN n z ↔ k * z < n := by
  unfold piecesN
  rw [Nat.lt_div_iff_mul_lt hz]
  omega
theorem super_body {p : Packet} (h : superB p = true) : p.2.2.2.2.2.2.2.2.2.2.2.2.2.2.2.length ≤ 320 := by
  have hh : headB p = true := by simp only [superB, Bool.and_eq_true] at h; exact h.1
  exact segB_len (head_seg hh)
theorem split_sub {b : Bytes} {k z : Nat} (hk : k * z < b.length) (hb : b.length ≤ 320) : sub b ((k * z : Nat) : Int) ((min ((k + 1) * z) b.length : Nat) : Int) = some ((b.take (min ((k + 1) * z) b.length)).drop (k * z)) := by
  have : k * z ≤ (k + 1) * z := Nat.mul_le_mul_right _ (by omega)
  unfold sub
  rw [if_pos (by omega), Int.toNat_natCast, Int.toNat_natCast]
theorem splitR_len (p : Packet) (z : Int) : (splitR p z).length ≤ 320 := by
  unfold splitR
  cases hs : superB p && inB z 1 128 with | false => exact Nat.zero_le _ | true => ?_
  simp only [Bool.and_eq_true, inB_iff] at hs
  have hb := super_body hs.1
  cases (p.2.2.2.2.2.2.2.2.1 != 6) || decide ((p.2.2.2.2.2.2.2.2.2.2.2.2.2.2.2.length : Int) ≤ z) with
  | true => simp only [cond_true, List.length_singleton]; omega
  | false =>
    simp only [cond_true, cond_false, List.length_map, List.length_range]
    rcases Nat.lt_or_ge 320 (piecesN p.2.2.2.2.2.2.2.2.2.2.2.2.2.2.2.length z.toNat) with h | h
    · have := (pieces_lt (by omega)).1 h
      have : 320 * 1 ≤ 320 * z.toNat := Nat.mul_le_mul_left _ (by omega)
      omega
    · exact h

-- all frames
def addF (acc : List Bytes) (p : Packet) : List Bytes := bif (frameR p).2 then acc ++ [(frameR p).1] else acc
theorem addF_len (acc : List Bytes) (p : Packet) : (addF acc p).length ≤ acc.length + 1 := by
  unfold addF; cases (frameR p).2 <;> simp
def framesR (l : List Packet) : List Bytes := l.foldl addF []
theorem framesR_len : ∀ (l : List Packet) (acc : List Bytes), (l.foldl addF acc).length ≤ acc.length + l.length
  | [], acc => by simp
  | p :: l, acc => by
    have := framesR_len l (addF acc p)
    have := addF_len acc p
    simp only [List.foldl_cons, List.length_cons]; omega
theorem framesR_bytes : ∀ (l : List Packet) (acc : List Bytes), (∀ x ∈ acc, x.length ≤ 382) → ∀ x ∈ l.foldl addF acc, x.length ≤ 382
  | [], acc, h => h
  | p :: l, acc, h => by
    rw [List.foldl_cons]
    refine framesR_bytes l _ (fun x hx => ?_)
    unfold addF at hx
    cases hf : (frameR p).2 with
    | false => rw [hf] at hx; exact h x hx
    | true =>
      rw [hf] at hx
      simp only [cond_true, List.mem_append, List.mem_singleton] at hx
      rcases hx with hx | hx
      · exact h x hx
      · rw [hx]; exact frameR_le p
def sendR (p : Packet) (z : Int) : List Bytes := framesR (splitR p z)
theorem sendR_len (p : Packet) (z : Int) : (sendR p z).length ≤ 320 ∧ ∀ x ∈ sendR p z, x.length ≤ 382 := by
  have := splitR_len p z
  have := framesR_len (splitR p z) []
  exact ⟨by unfold sendR framesR; simp only [List.length_nil] at this; omega, framesR_bytes _ [] (by simp)⟩

end

end Go.Pu
