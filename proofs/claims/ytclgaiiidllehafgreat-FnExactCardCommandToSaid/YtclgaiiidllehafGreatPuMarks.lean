import Derived.Test.YtclgaiiidllehafGreatPuMk
/- The laws' marks, type by type (made by codec.py). -/
namespace Go.Pu
open Go.Dn
set_option linter.unusedVariables false
set_option linter.unusedSimpArgs false
set_option maxRecDepth 100000
set_option maxHeartbeats 4000000

theorem mk_IntS : MkM (.sl (.int .i64)) laws_markIntS := by
  refine mkM_of (e := (.int .i64)) (T := laws_markIntS_T2 (fun _ y _ z => some (y, z))) (fun l i hi k nx h1 h2 h3 hx => ?_) (fun l k nx => ?_)
  · try simp only [cnt_pair, cnt_int, cnt_bool, cnt_str, Int.natCast_add, Int.natCast_one, ← Int.add_assoc] at h2
    simp only [laws_markIntS_T2]
    rw [decide_eq_true (by omega)]
    simp (disch := omega) only [cond_true, idx_lt hi, bindO_some, idx_set_self, List.length_set, List.set_set, Int.toNat_natCast, wrap64, if_neg, ne3, txt_eq]
    try simp only [mk_pair, mk_int, mk_bool, mk_str, cnt_pair, cnt_int, cnt_bool, cnt_str, Int.natCast_add, Int.natCast_one, ← Int.add_assoc]
  · simp only [laws_markIntS_T2]
    rw [decide_eq_false (by omega)]; rfl
theorem mk_StringS : MkM (.sl .str) laws_markStringS := by
  refine mkM_of (e := .str) (T := laws_markStringS_T2 (fun _ y _ z => some (y, z))) (fun l i hi k nx h1 h2 h3 hx => ?_) (fun l k nx => ?_)
  · try simp only [cnt_pair, cnt_int, cnt_bool, cnt_str, Int.natCast_add, Int.natCast_one, ← Int.add_assoc] at h2
    simp only [laws_markStringS_T2]
    rw [decide_eq_true (by omega)]
    simp (disch := omega) only [cond_true, idx_lt hi, bindO_some, idx_set_self, List.length_set, List.set_set, Int.toNat_natCast, wrap64, if_neg, ne3, txt_eq]
    try simp only [mk_pair, mk_int, mk_bool, mk_str, cnt_pair, cnt_int, cnt_bool, cnt_str, Int.natCast_add, Int.natCast_one, ← Int.add_assoc]
  · simp only [laws_markStringS_T2]
    rw [decide_eq_false (by omega)]; rfl
theorem mk_MappingS : MkM (.sl TMapping) laws_markMappingS 
  := mkM_w (e := TMapping) (T := laws_markMappingS_T2 (fun _ y _ z => some (y, z))) (f := laws_markText) (.pair (.int _) (.pair (.int _) (.pair (.int _) .bool))) txt_eq ⟨trivial, ⟨trivial, ⟨trivial, trivial⟩⟩⟩ (fun l k i nx => by kernel_rfl)
theorem mk_SentS : MkM (.sl TSent) laws_markSentS 
  := mkM_w (e := TSent) (T := laws_markSentS_T2 (fun _ y _ z => some (y, z))) (f := laws_markText) (.pair (.int _) (.pair (.int _) (.sl (e := (.int .i64)) laws_markIntS))) txt_eq ⟨trivial, ⟨trivial, mk_IntS⟩⟩ (fun l k i nx => by kernel_rfl)
theorem mk_RxQueueS : MkM (.sl TRxQueue) laws_markRxQueueS 
  := mkM_w (e := TRxQueue) (T := laws_markRxQueueS_T2 (fun _ y _ z => some (y, z))) (f := laws_markText) (.pair (.pair (.int _) (.pair (.int _) (.pair (.int _) (.int _)))) (.pair (.pair (.int _) (.pair (.int _) (.int _))) (.pair (.pair (.int _) (.pair (.int _) (.int _))) (.pair (.pair (.pair (.int _) (.pair (.int _) (.pair (.int _) (.pair (.int _) (.pair (.int _) (.pair (.int _) (.pair (.int _) (.pair (.int _) (.pair (.int _) (.pair (.int _) (.pair (.int _) (.pair (.int _) (.pair (.int _) (.pair (.int _) (.pair (.int _) .str))))))))))))))) (.pair (.int _) (.int _))) (.pair .bool (.int _)))))) txt_eq ⟨⟨trivial, ⟨trivial, ⟨trivial, trivial⟩⟩⟩, ⟨⟨trivial, ⟨trivial, trivial⟩⟩, ⟨⟨trivial, ⟨trivial, trivial⟩⟩, ⟨⟨⟨trivial, ⟨trivial, ⟨trivial, ⟨trivial, ⟨trivial, ⟨trivial, ⟨trivial, ⟨trivial, ⟨trivial, ⟨trivial, ⟨trivial, ⟨trivial, ⟨trivial, ⟨trivial, ⟨trivial, trivial⟩⟩⟩⟩⟩⟩⟩⟩⟩⟩⟩⟩⟩⟩⟩, ⟨trivial, trivial⟩⟩, ⟨trivial, trivial⟩⟩⟩⟩⟩ (fun l k i nx => by kernel_rfl)
theorem mk_PoolS : MkM (.sl TPool) laws_markPoolS 
  := mkM_w (e := TPool) (T := laws_markPoolS_T2 (fun _ y _ z => some (y, z))) (f := laws_markText) (.pair (.int _) (.pair (.int _) (.pair (.int _) (.sl (e := (.int .i64)) laws_markIntS)))) txt_eq ⟨trivial, ⟨trivial, ⟨trivial, mk_IntS⟩⟩⟩ (fun l k i nx => by kernel_rfl)
theorem mk_VectorS : MkM (.sl TVector) laws_markVectorS 
  := mkM_w (e := TVector) (T := laws_markVectorS_T2 (fun _ y _ z => some (y, z))) (f := laws_markText) (.pair (.int _) (.pair (.int _) (.pair (.int _) (.pair (.int _) (.pair .bool .bool))))) txt_eq ⟨trivial, ⟨trivial, ⟨trivial, ⟨trivial, ⟨trivial, trivial⟩⟩⟩⟩⟩ (fun l k i nx => by kernel_rfl)
theorem mk_BoolS : MkM (.sl .bool) laws_markBoolS := by
  refine mkM_of (e := .bool) (T := laws_markBoolS_T2 (fun _ y _ z => some (y, z))) (fun l i hi k nx h1 h2 h3 hx => ?_) (fun l k nx => ?_)
  · try simp only [cnt_pair, cnt_int, cnt_bool, cnt_str, Int.natCast_add, Int.natCast_one, ← Int.add_assoc] at h2
    simp only [laws_markBoolS_T2]
    rw [decide_eq_true (by omega)]
    simp (disch := omega) only [cond_true, idx_lt hi, bindO_some, idx_set_self, List.length_set, List.set_set, Int.toNat_natCast, wrap64, if_neg, ne3, txt_eq]
    try simp only [mk_pair, mk_int, mk_bool, mk_str, cnt_pair, cnt_int, cnt_bool, cnt_str, Int.natCast_add, Int.natCast_one, ← Int.add_assoc]
  · simp only [laws_markBoolS_T2]
    rw [decide_eq_false (by omega)]; rfl
theorem mk_RuleS : MkM (.sl TRule) laws_markRuleS 
  := mkM_w (e := TRule) (T := laws_markRuleS_T2 (fun _ y _ z => some (y, z))) (f := laws_markText) (.pair (.int _) (.pair (.int _) (.pair (.int _) (.pair (.int _) (.pair (.int _) (.pair (.int _) (.pair (.int _) (.pair (.int _) (.int _))))))))) txt_eq ⟨trivial, ⟨trivial, ⟨trivial, ⟨trivial, ⟨trivial, ⟨trivial, ⟨trivial, ⟨trivial, trivial⟩⟩⟩⟩⟩⟩⟩⟩ (fun l k i nx => by kernel_rfl)
theorem mk_SlotS : MkM (.sl TSlot) laws_markSlotS 
  := mkM_w (e := TSlot) (T := laws_markSlotS_T2 (fun _ y _ z => some (y, z))) (f := laws_markText) (.pair (.int _) (.pair (.pair (.int _) (.pair (.int _) (.pair (.int _) (.pair (.int _) (.int _))))) (.int _))) txt_eq ⟨trivial, ⟨⟨trivial, ⟨trivial, ⟨trivial, ⟨trivial, trivial⟩⟩⟩⟩, trivial⟩⟩ (fun l k i nx => by kernel_rfl)
theorem mk_StreamS : MkM (.sl TStream) laws_markStreamS 
  := mkM_w (e := TStream) (T := laws_markStreamS_T2 (fun _ y _ z => some (y, z))) (f := laws_markText) (.pair (.pair (.int _) (.pair (.int _) (.pair (.int _) (.pair (.int _) (.int _))))) (.pair (.int _) (.pair .str .bool))) txt_eq ⟨⟨trivial, ⟨trivial, ⟨trivial, ⟨trivial, trivial⟩⟩⟩⟩, ⟨trivial, ⟨trivial, trivial⟩⟩⟩ (fun l k i nx => by kernel_rfl)
theorem mk_HostS : MkM (.sl THost) laws_markHostS 
  := mkM_w (e := THost) (T := laws_markHostS_T2 (fun _ y _ z => some (y, z))) (f := laws_markText) (.pair (.sl (e := .str) laws_markStringS) (.pair (.sl (e := TMapping) laws_markMappingS) (.pair (.pair (.pair (.int _) (.pair (.int _) (.pair (.int _) (.int _)))) (.pair (.pair (.int _) (.pair (.int _) (.pair (.int _) (.sl (e := (.int .i64)) laws_markIntS)))) (.pair (.sl (e := TSent) laws_markSentS) (.int _)))) (.pair (.sl (e := TRxQueue) laws_markRxQueueS) (.pair (.sl (e := TPool) laws_markPoolS) (.pair (.sl (e := TVector) laws_markVectorS) (.pair (.sl (e := .bool) laws_markBoolS) (.pair (.pair (.int _) (.pair .bool (.sl (e := (.int .i64)) laws_markIntS))) (.pair (.pair (.sl (e := TRule) laws_markRuleS) (.pair (.sl (e := TSlot) laws_markSlotS) (.pair .str (.sl (e := (.int .i64)) laws_markIntS)))) (.pair (.sl (e := TStream) laws_markStreamS) (.pair .bool (.pair (.sl (e := .str) laws_markStringS) (.pair (.sl (e := (.int .i64)) laws_markIntS) (.pair (.sl (e := (.int .i64)) laws_markIntS) (.pair (.int _) (.pair (.int _) (.pair (.int _) (.pair (.int _) (.int _))))))))))))))))))) txt_eq ⟨mk_StringS, ⟨mk_MappingS, ⟨⟨⟨trivial, ⟨trivial, ⟨trivial, trivial⟩⟩⟩, ⟨⟨trivial, ⟨trivial, ⟨trivial, mk_IntS⟩⟩⟩, ⟨mk_SentS, trivial⟩⟩⟩, ⟨mk_RxQueueS, ⟨mk_PoolS, ⟨mk_VectorS, ⟨mk_BoolS, ⟨⟨trivial, ⟨trivial, mk_IntS⟩⟩, ⟨⟨mk_RuleS, ⟨mk_SlotS, ⟨trivial, mk_IntS⟩⟩⟩, ⟨mk_StreamS, ⟨trivial, ⟨mk_StringS, ⟨mk_IntS, ⟨mk_IntS, ⟨trivial, ⟨trivial, ⟨trivial, ⟨trivial, trivial⟩⟩⟩⟩⟩⟩⟩⟩⟩⟩⟩⟩⟩⟩⟩⟩⟩⟩ (fun l k i nx => by kernel_rfl)
theorem mk_VirtualFunctionS : MkM (.sl TVirtualFunction) laws_markVirtualFunctionS 
  := mkM_w (e := TVirtualFunction) (T := laws_markVirtualFunctionS_T2 (fun _ y _ z => some (y, z))) (f := laws_markText) (.pair (.int _) (.pair (.int _) (.pair (.pair (.int _) (.pair (.int _) (.int _))) (.pair .bool (.pair (.int _) (.int _)))))) txt_eq ⟨trivial, ⟨trivial, ⟨⟨trivial, ⟨trivial, trivial⟩⟩, ⟨trivial, ⟨trivial, trivial⟩⟩⟩⟩⟩ (fun l k i nx => by kernel_rfl)
theorem mk_MailboxS : MkM (.sl TMailbox) laws_markMailboxS 
  := mkM_w (e := TMailbox) (T := laws_markMailboxS_T2 (fun _ y _ z => some (y, z))) (f := laws_markText) (.pair (.pair (.int _) (.pair .bool (.sl (e := (.int .i64)) laws_markIntS))) (.pair (.int _) (.pair (.int _) (.int _)))) txt_eq ⟨⟨trivial, ⟨trivial, mk_IntS⟩⟩, ⟨trivial, ⟨trivial, trivial⟩⟩⟩ (fun l k i nx => by kernel_rfl)
theorem mt_Flash : MtM (.sl .str) laws_markFlash := by
  intro a h k h1 h2
  simp (disch := omega) only [laws_markFlash, bindO_some, mk_StringS.top a h]
theorem ce_Card (a : Card) : cntT TCard a = cntT (.sl THost) a.1 + (cntT (.sl TVirtualFunction) a.2.1 + (cntT (.sl TMailbox) a.2.2.1 + (cntT (.sl .str) a.2.2.2.1 + ((0 + (0 + (0 + 0))) + (cntT (.sl (.int .i64)) a.2.2.2.2.2.1 + (cntT (.sl .str) a.2.2.2.2.2.2)))))) := rfl
theorem me_Card (a : Card) (k : Int) : mkT TCard a k = (mkT (.sl THost) a.1 (k), mkT (.sl TVirtualFunction) a.2.1 (k + ((cntT (.sl THost) a.1 : Nat) : Int)), mkT (.sl TMailbox) a.2.2.1 (k + ((cntT (.sl THost) a.1 : Nat) : Int) + ((cntT (.sl TVirtualFunction) a.2.1 : Nat) : Int)), mkT (.sl .str) a.2.2.2.1 (k + ((cntT (.sl THost) a.1 : Nat) : Int) + ((cntT (.sl TVirtualFunction) a.2.1 : Nat) : Int) + ((cntT (.sl TMailbox) a.2.2.1 : Nat) : Int)), a.2.2.2.2.1, mkT (.sl (.int .i64)) a.2.2.2.2.2.1 (k + ((cntT (.sl THost) a.1 : Nat) : Int) + ((cntT (.sl TVirtualFunction) a.2.1 : Nat) : Int) + ((cntT (.sl TMailbox) a.2.2.1 : Nat) : Int) + ((cntT (.sl .str) a.2.2.2.1 : Nat) : Int)), mkT (.sl .str) a.2.2.2.2.2.2 (k + ((cntT (.sl THost) a.1 : Nat) : Int) + ((cntT (.sl TVirtualFunction) a.2.1 : Nat) : Int) + ((cntT (.sl TMailbox) a.2.2.1 : Nat) : Int) + ((cntT (.sl .str) a.2.2.2.1 : Nat) : Int) + ((cntT (.sl (.int .i64)) a.2.2.2.2.2.1 : Nat) : Int))) := by
  simp only [mkT_pair, mkT_int, mkT_bool, mkT_str, cntT_pair, cntT_int, cntT_bool, cntT_str, Int.natCast_add, Int.natCast_zero, Int.add_zero, ← Int.add_assoc]
theorem mt_Card : MtM TCard laws_markCard := by
  intro a h k h1 h2
  rw [ce_Card] at h2
  simp (disch := omega) only [laws_markCard, bindO_some, mk_HostS.top _ h.1, mk_VirtualFunctionS.top _ h.2.1, mk_MailboxS.top _ h.2.2.1, mt_Flash _ h.2.2.2.1, mk_StringS.top _ h.2.2.2.1, mk_IntS.top _ h.2.2.2.2.2.1, mt_Flash _ h.2.2.2.2.2.2, mk_StringS.top _ h.2.2.2.2.2.2]
  rw [me_Card, ce_Card]
  refine congrArg some (Prod.ext (by simp only; omega) ?_)
  first | rfl | simp only [mkT_pair, mkT_int, mkT_bool, mkT_str, cntT_pair, cntT_int, cntT_bool, cntT_str, Int.natCast_add, Int.natCast_zero, Int.add_zero, ← Int.add_assoc]
theorem hd_IntS : MkH (.sl (.int .i64)) laws_heldIntS := by
  refine mkH_of (e := (.int .i64)) (H := fun v => laws_heldIntS_T2 (fun y _ => some y) (fun _ y _ => some y) v 0) (fun l i hi x k nx hm h1 h2 h3 hx => ?_) (fun l k nx => ?_)
  · try simp only [cnt_pair, cnt_int, cnt_bool, cnt_str, Int.natCast_add, Int.natCast_one, ← Int.add_assoc] at h2
    try simp only [mk_pair, mk_int, mk_bool, mk_str, cnt_pair, cnt_int, cnt_bool, cnt_str, Int.natCast_add, Int.natCast_one, ← Int.add_assoc] at hm
    simp only [laws_heldIntS_T2]
    rw [decide_eq_true (by omega)]
    simp (disch := omega) only [cond_true, idx_lt hi, hm, bindO_some, bne_self_eq_false, beq_self_eq_true, Bool.not_true, cond_false, wrap64, if_neg, ne3, dec_neg, txt_eq]
    try simp only [cnt_pair, cnt_int, cnt_bool, cnt_str, Int.natCast_add, Int.natCast_one, ← Int.add_assoc]
  · simp only [laws_heldIntS_T2]
    rw [decide_eq_false (by omega)]; rfl
theorem hd_StringS : MkH (.sl .str) laws_heldStringS := by
  refine mkH_of (e := .str) (H := fun v => laws_heldStringS_T2 (fun y _ => some y) (fun _ y _ => some y) v 0) (fun l i hi x k nx hm h1 h2 h3 hx => ?_) (fun l k nx => ?_)
  · try simp only [cnt_pair, cnt_int, cnt_bool, cnt_str, Int.natCast_add, Int.natCast_one, ← Int.add_assoc] at h2
    try simp only [mk_pair, mk_int, mk_bool, mk_str, cnt_pair, cnt_int, cnt_bool, cnt_str, Int.natCast_add, Int.natCast_one, ← Int.add_assoc] at hm
    simp only [laws_heldStringS_T2]
    rw [decide_eq_true (by omega)]
    simp (disch := omega) only [cond_true, idx_lt hi, hm, bindO_some, bne_self_eq_false, beq_self_eq_true, Bool.not_true, cond_false, wrap64, if_neg, ne3, dec_neg, txt_eq]
    try simp only [cnt_pair, cnt_int, cnt_bool, cnt_str, Int.natCast_add, Int.natCast_one, ← Int.add_assoc]
  · simp only [laws_heldStringS_T2]
    rw [decide_eq_false (by omega)]; rfl
theorem hd_MappingS : MkH (.sl TMapping) laws_heldMappingS 
  := mkH_w (e := TMapping) (H := fun v => laws_heldMappingS_T2 (fun y _ => some y) (fun _ y _ => some y) v 0) (bad := fun _ i k => some (-1)) (f := laws_markText) (.pair (.int _) (.pair (.int _) (.pair (.int _) .bool))) txt_eq ⟨trivial, ⟨trivial, ⟨trivial, trivial⟩⟩⟩ (fun l k i nx => by kernel_rfl)
theorem hd_SentS : MkH (.sl TSent) laws_heldSentS 
  := mkH_w (e := TSent) (H := fun v => laws_heldSentS_T2 (fun y _ => some y) (fun _ y _ => some y) v 0) (bad := fun _ i k => some (-1)) (f := laws_markText) (.pair (.int _) (.pair (.int _) (.sl (e := (.int .i64)) laws_heldIntS))) txt_eq ⟨trivial, ⟨trivial, hd_IntS⟩⟩ (fun l k i nx => by kernel_rfl)
theorem hd_RxQueueS : MkH (.sl TRxQueue) laws_heldRxQueueS 
  := mkH_w (e := TRxQueue) (H := fun v => laws_heldRxQueueS_T2 (fun y _ => some y) (fun _ y _ => some y) v 0) (bad := fun _ i k => some (-1)) (f := laws_markText) (.pair (.pair (.int _) (.pair (.int _) (.pair (.int _) (.int _)))) (.pair (.pair (.int _) (.pair (.int _) (.int _))) (.pair (.pair (.int _) (.pair (.int _) (.int _))) (.pair (.pair (.pair (.int _) (.pair (.int _) (.pair (.int _) (.pair (.int _) (.pair (.int _) (.pair (.int _) (.pair (.int _) (.pair (.int _) (.pair (.int _) (.pair (.int _) (.pair (.int _) (.pair (.int _) (.pair (.int _) (.pair (.int _) (.pair (.int _) .str))))))))))))))) (.pair (.int _) (.int _))) (.pair .bool (.int _)))))) txt_eq ⟨⟨trivial, ⟨trivial, ⟨trivial, trivial⟩⟩⟩, ⟨⟨trivial, ⟨trivial, trivial⟩⟩, ⟨⟨trivial, ⟨trivial, trivial⟩⟩, ⟨⟨⟨trivial, ⟨trivial, ⟨trivial, ⟨trivial, ⟨trivial, ⟨trivial, ⟨trivial, ⟨trivial, ⟨trivial, ⟨trivial, ⟨trivial, ⟨trivial, ⟨trivial, ⟨trivial, ⟨trivial, trivial⟩⟩⟩⟩⟩⟩⟩⟩⟩⟩⟩⟩⟩⟩⟩, ⟨trivial, trivial⟩⟩, ⟨trivial, trivial⟩⟩⟩⟩⟩ (fun l k i nx => by kernel_rfl)
theorem hd_PoolS : MkH (.sl TPool) laws_heldPoolS 
  := mkH_w (e := TPool) (H := fun v => laws_heldPoolS_T2 (fun y _ => some y) (fun _ y _ => some y) v 0) (bad := fun _ i k => some (-1)) (f := laws_markText) (.pair (.int _) (.pair (.int _) (.pair (.int _) (.sl (e := (.int .i64)) laws_heldIntS)))) txt_eq ⟨trivial, ⟨trivial, ⟨trivial, hd_IntS⟩⟩⟩ (fun l k i nx => by kernel_rfl)
theorem hd_VectorS : MkH (.sl TVector) laws_heldVectorS 
  := mkH_w (e := TVector) (H := fun v => laws_heldVectorS_T2 (fun y _ => some y) (fun _ y _ => some y) v 0) (bad := fun _ i k => some (-1)) (f := laws_markText) (.pair (.int _) (.pair (.int _) (.pair (.int _) (.pair (.int _) (.pair .bool .bool))))) txt_eq ⟨trivial, ⟨trivial, ⟨trivial, ⟨trivial, ⟨trivial, trivial⟩⟩⟩⟩⟩ (fun l k i nx => by kernel_rfl)
theorem hd_BoolS : MkH (.sl .bool) laws_heldBoolS := by
  refine mkH_of (e := .bool) (H := fun v => laws_heldBoolS_T2 (fun y _ => some y) (fun _ y _ => some y) v 0) (fun l i hi x k nx hm h1 h2 h3 hx => ?_) (fun l k nx => ?_)
  · try simp only [cnt_pair, cnt_int, cnt_bool, cnt_str, Int.natCast_add, Int.natCast_one, ← Int.add_assoc] at h2
    try simp only [mk_pair, mk_int, mk_bool, mk_str, cnt_pair, cnt_int, cnt_bool, cnt_str, Int.natCast_add, Int.natCast_one, ← Int.add_assoc] at hm
    simp only [laws_heldBoolS_T2]
    rw [decide_eq_true (by omega)]
    simp (disch := omega) only [cond_true, idx_lt hi, hm, bindO_some, bne_self_eq_false, beq_self_eq_true, Bool.not_true, cond_false, wrap64, if_neg, ne3, dec_neg, txt_eq]
    try simp only [cnt_pair, cnt_int, cnt_bool, cnt_str, Int.natCast_add, Int.natCast_one, ← Int.add_assoc]
  · simp only [laws_heldBoolS_T2]
    rw [decide_eq_false (by omega)]; rfl
theorem hd_RuleS : MkH (.sl TRule) laws_heldRuleS 
  := mkH_w (e := TRule) (H := fun v => laws_heldRuleS_T2 (fun y _ => some y) (fun _ y _ => some y) v 0) (bad := fun _ i k => some (-1)) (f := laws_markText) (.pair (.int _) (.pair (.int _) (.pair (.int _) (.pair (.int _) (.pair (.int _) (.pair (.int _) (.pair (.int _) (.pair (.int _) (.int _))))))))) txt_eq ⟨trivial, ⟨trivial, ⟨trivial, ⟨trivial, ⟨trivial, ⟨trivial, ⟨trivial, ⟨trivial, trivial⟩⟩⟩⟩⟩⟩⟩⟩ (fun l k i nx => by kernel_rfl)
theorem hd_SlotS : MkH (.sl TSlot) laws_heldSlotS 
  := mkH_w (e := TSlot) (H := fun v => laws_heldSlotS_T2 (fun y _ => some y) (fun _ y _ => some y) v 0) (bad := fun _ i k => some (-1)) (f := laws_markText) (.pair (.int _) (.pair (.pair (.int _) (.pair (.int _) (.pair (.int _) (.pair (.int _) (.int _))))) (.int _))) txt_eq ⟨trivial, ⟨⟨trivial, ⟨trivial, ⟨trivial, ⟨trivial, trivial⟩⟩⟩⟩, trivial⟩⟩ (fun l k i nx => by kernel_rfl)
theorem hd_StreamS : MkH (.sl TStream) laws_heldStreamS 
  := mkH_w (e := TStream) (H := fun v => laws_heldStreamS_T2 (fun y _ => some y) (fun _ y _ => some y) v 0) (bad := fun _ i k => some (-1)) (f := laws_markText) (.pair (.pair (.int _) (.pair (.int _) (.pair (.int _) (.pair (.int _) (.int _))))) (.pair (.int _) (.pair .str .bool))) txt_eq ⟨⟨trivial, ⟨trivial, ⟨trivial, ⟨trivial, trivial⟩⟩⟩⟩, ⟨trivial, ⟨trivial, trivial⟩⟩⟩ (fun l k i nx => by kernel_rfl)
theorem hd_HostS : MkH (.sl THost) laws_heldHostS 
  := mkH_w (e := THost) (H := fun v => laws_heldHostS_T2 (fun y _ => some y) (fun _ y _ => some y) v 0) (bad := fun _ i k => some (-1)) (f := laws_markText) (.pair (.sl (e := .str) laws_heldStringS) (.pair (.sl (e := TMapping) laws_heldMappingS) (.pair (.pair (.pair (.int _) (.pair (.int _) (.pair (.int _) (.int _)))) (.pair (.pair (.int _) (.pair (.int _) (.pair (.int _) (.sl (e := (.int .i64)) laws_heldIntS)))) (.pair (.sl (e := TSent) laws_heldSentS) (.int _)))) (.pair (.sl (e := TRxQueue) laws_heldRxQueueS) (.pair (.sl (e := TPool) laws_heldPoolS) (.pair (.sl (e := TVector) laws_heldVectorS) (.pair (.sl (e := .bool) laws_heldBoolS) (.pair (.pair (.int _) (.pair .bool (.sl (e := (.int .i64)) laws_heldIntS))) (.pair (.pair (.sl (e := TRule) laws_heldRuleS) (.pair (.sl (e := TSlot) laws_heldSlotS) (.pair .str (.sl (e := (.int .i64)) laws_heldIntS)))) (.pair (.sl (e := TStream) laws_heldStreamS) (.pair .bool (.pair (.sl (e := .str) laws_heldStringS) (.pair (.sl (e := (.int .i64)) laws_heldIntS) (.pair (.sl (e := (.int .i64)) laws_heldIntS) (.pair (.int _) (.pair (.int _) (.pair (.int _) (.pair (.int _) (.int _))))))))))))))))))) txt_eq ⟨hd_StringS, ⟨hd_MappingS, ⟨⟨⟨trivial, ⟨trivial, ⟨trivial, trivial⟩⟩⟩, ⟨⟨trivial, ⟨trivial, ⟨trivial, hd_IntS⟩⟩⟩, ⟨hd_SentS, trivial⟩⟩⟩, ⟨hd_RxQueueS, ⟨hd_PoolS, ⟨hd_VectorS, ⟨hd_BoolS, ⟨⟨trivial, ⟨trivial, hd_IntS⟩⟩, ⟨⟨hd_RuleS, ⟨hd_SlotS, ⟨trivial, hd_IntS⟩⟩⟩, ⟨hd_StreamS, ⟨trivial, ⟨hd_StringS, ⟨hd_IntS, ⟨hd_IntS, ⟨trivial, ⟨trivial, ⟨trivial, ⟨trivial, trivial⟩⟩⟩⟩⟩⟩⟩⟩⟩⟩⟩⟩⟩⟩⟩⟩⟩⟩ (fun l k i nx => by kernel_rfl)
theorem hd_VirtualFunctionS : MkH (.sl TVirtualFunction) laws_heldVirtualFunctionS 
  := mkH_w (e := TVirtualFunction) (H := fun v => laws_heldVirtualFunctionS_T2 (fun y _ => some y) (fun _ y _ => some y) v 0) (bad := fun _ i k => some (-1)) (f := laws_markText) (.pair (.int _) (.pair (.int _) (.pair (.pair (.int _) (.pair (.int _) (.int _))) (.pair .bool (.pair (.int _) (.int _)))))) txt_eq ⟨trivial, ⟨trivial, ⟨⟨trivial, ⟨trivial, trivial⟩⟩, ⟨trivial, ⟨trivial, trivial⟩⟩⟩⟩⟩ (fun l k i nx => by kernel_rfl)
theorem hd_MailboxS : MkH (.sl TMailbox) laws_heldMailboxS 
  := mkH_w (e := TMailbox) (H := fun v => laws_heldMailboxS_T2 (fun y _ => some y) (fun _ y _ => some y) v 0) (bad := fun _ i k => some (-1)) (f := laws_markText) (.pair (.pair (.int _) (.pair .bool (.sl (e := (.int .i64)) laws_heldIntS))) (.pair (.int _) (.pair (.int _) (.int _)))) txt_eq ⟨⟨trivial, ⟨trivial, hd_IntS⟩⟩, ⟨trivial, ⟨trivial, trivial⟩⟩⟩ (fun l k i nx => by kernel_rfl)
theorem ht_Flash : MtH (.sl .str) laws_heldFlash := by
  intro a h k h1 h2
  simp (disch := omega) only [laws_heldFlash, bindO_some, hd_StringS.top a h, dec_neg, cond_false]
theorem ht_Card : MtH TCard laws_heldCard := by
  intro a h k h1 h2
  rw [ce_Card] at h2
  rw [me_Card]
  simp (disch := omega) only [laws_heldCard, bindO_some, hd_HostS.top _ h.1, hd_VirtualFunctionS.top _ h.2.1, hd_MailboxS.top _ h.2.2.1, ht_Flash _ h.2.2.2.1, hd_StringS.top _ h.2.2.2.1, hd_IntS.top _ h.2.2.2.2.2.1, ht_Flash _ h.2.2.2.2.2.2, hd_StringS.top _ h.2.2.2.2.2.2, dec_neg, cond_false]
  rw [ce_Card]
  refine congrArg some (by omega)

end Go.Pu
