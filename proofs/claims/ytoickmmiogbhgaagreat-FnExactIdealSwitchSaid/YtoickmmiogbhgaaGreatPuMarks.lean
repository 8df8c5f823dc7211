import Derived.Test.YtoickmmiogbhgaaGreatPuMk
/- The laws' marks, type by type (made by codec.py). -/
namespace Go.Pu
open Go.Dn
set_option linter.unusedVariables false
set_option linter.unusedSimpArgs false
set_option maxRecDepth 100000
set_option maxHeartbeats 4000000

theorem mk_StringS : MkM (.sl .str) laws_markStringS := by
  refine mkM_of (e := .str) (T := laws_markStringS_T2 (fun _ y _ z => some (y, z))) (fun l i hi k nx h1 h2 h3 hx => ?_) (fun l k nx => ?_)
  · try simp only [cnt_pair, cnt_int, cnt_bool, cnt_str, Int.natCast_add, Int.natCast_one, ← Int.add_assoc] at h2
    simp only [laws_markStringS_T2]
    rw [decide_eq_true (by omega)]
    simp (disch := omega) only [cond_true, idx_lt hi, bindO_some, idx_set_self, List.length_set, List.set_set, Int.toNat_natCast, wrap64, if_neg, ne3, txt_eq]
    try simp only [mk_pair, mk_int, mk_bool, mk_str, cnt_pair, cnt_int, cnt_bool, cnt_str, Int.natCast_add, Int.natCast_one, ← Int.add_assoc]
  · simp only [laws_markStringS_T2]
    rw [decide_eq_false (by omega)]; rfl
theorem mk_IntS : MkM (.sl (.int .i64)) laws_markIntS := by
  refine mkM_of (e := (.int .i64)) (T := laws_markIntS_T2 (fun _ y _ z => some (y, z))) (fun l i hi k nx h1 h2 h3 hx => ?_) (fun l k nx => ?_)
  · try simp only [cnt_pair, cnt_int, cnt_bool, cnt_str, Int.natCast_add, Int.natCast_one, ← Int.add_assoc] at h2
    simp only [laws_markIntS_T2]
    rw [decide_eq_true (by omega)]
    simp (disch := omega) only [cond_true, idx_lt hi, bindO_some, idx_set_self, List.length_set, List.set_set, Int.toNat_natCast, wrap64, if_neg, ne3, txt_eq]
    try simp only [mk_pair, mk_int, mk_bool, mk_str, cnt_pair, cnt_int, cnt_bool, cnt_str, Int.natCast_add, Int.natCast_one, ← Int.add_assoc]
  · simp only [laws_markIntS_T2]
    rw [decide_eq_false (by omega)]; rfl
theorem mk_RuleS : MkM (.sl TRule) laws_markRuleS 
  := mkM_w (e := TRule) (T := laws_markRuleS_T2 (fun _ y _ z => some (y, z))) (f := laws_markText) (.pair (.int _) (.pair (.int _) (.pair (.int _) (.pair (.int _) (.pair (.int _) (.pair (.int _) (.pair (.int _) (.pair (.int _) (.int _))))))))) txt_eq ⟨trivial, ⟨trivial, ⟨trivial, ⟨trivial, ⟨trivial, ⟨trivial, ⟨trivial, ⟨trivial, trivial⟩⟩⟩⟩⟩⟩⟩⟩ (fun l k i nx => by kernel_rfl)
theorem mk_SlotS : MkM (.sl TSlot) laws_markSlotS 
  := mkM_w (e := TSlot) (T := laws_markSlotS_T2 (fun _ y _ z => some (y, z))) (f := laws_markText) (.pair (.int _) (.pair (.pair (.int _) (.pair (.int _) (.pair (.int _) (.pair (.int _) (.int _))))) (.int _))) txt_eq ⟨trivial, ⟨⟨trivial, ⟨trivial, ⟨trivial, ⟨trivial, trivial⟩⟩⟩⟩, trivial⟩⟩ (fun l k i nx => by kernel_rfl)
theorem mk_StreamS : MkM (.sl TStream) laws_markStreamS 
  := mkM_w (e := TStream) (T := laws_markStreamS_T2 (fun _ y _ z => some (y, z))) (f := laws_markText) (.pair (.pair (.int _) (.pair (.int _) (.pair (.int _) (.pair (.int _) (.int _))))) (.pair (.int _) (.pair .str .bool))) txt_eq ⟨⟨trivial, ⟨trivial, ⟨trivial, ⟨trivial, trivial⟩⟩⟩⟩, ⟨trivial, ⟨trivial, trivial⟩⟩⟩ (fun l k i nx => by kernel_rfl)
theorem mk_SoftS : MkM (.sl TSoft) laws_markSoftS 
  := mkM_w (e := TSoft) (T := laws_markSoftS_T2 (fun _ y _ z => some (y, z))) (f := laws_markText) (.pair (.pair (.int _) (.pair .bool (.sl (e := (.int .i64)) laws_markIntS))) (.pair (.pair (.sl (e := TRule) laws_markRuleS) (.pair (.sl (e := TSlot) laws_markSlotS) (.pair .str (.sl (e := (.int .i64)) laws_markIntS)))) (.pair (.int _) (.pair (.sl (e := TStream) laws_markStreamS) (.sl (e := .str) laws_markStringS))))) txt_eq ⟨⟨trivial, ⟨trivial, mk_IntS⟩⟩, ⟨⟨mk_RuleS, ⟨mk_SlotS, ⟨trivial, mk_IntS⟩⟩⟩, ⟨trivial, ⟨mk_StreamS, mk_StringS⟩⟩⟩⟩ (fun l k i nx => by kernel_rfl)
theorem mk_StringSS : MkM (.sl (.sl .str)) laws_markStringSS := by
  refine mkM_of (e := (.sl .str)) (T := laws_markStringSS_T2 (fun _ y _ z => some (y, z))) (fun l i hi k nx h1 h2 h3 hx => ?_) (fun l k nx => ?_)
  · try simp only [cnt_pair, cnt_int, cnt_bool, cnt_str, Int.natCast_add, Int.natCast_one, ← Int.add_assoc] at h2
    simp only [laws_markStringSS_T2]
    rw [decide_eq_true (by omega)]
    simp (disch := omega) only [cond_true, idx_lt hi, bindO_some, idx_set_self, List.length_set, List.set_set, Int.toNat_natCast, wrap64, if_neg, ne3, txt_eq, mk_StringS _ hx]
    try simp only [mk_pair, mk_int, mk_bool, mk_str, cnt_pair, cnt_int, cnt_bool, cnt_str, Int.natCast_add, Int.natCast_one, ← Int.add_assoc]
  · simp only [laws_markStringSS_T2]
    rw [decide_eq_false (by omega)]; rfl
theorem mk_VirtualFunctionS : MkM (.sl TVirtualFunction) laws_markVirtualFunctionS 
  := mkM_w (e := TVirtualFunction) (T := laws_markVirtualFunctionS_T2 (fun _ y _ z => some (y, z))) (f := laws_markText) (.pair (.int _) (.pair (.int _) (.pair (.pair (.int _) (.pair (.int _) (.int _))) (.pair .bool (.pair (.int _) (.int _)))))) txt_eq ⟨trivial, ⟨trivial, ⟨⟨trivial, ⟨trivial, trivial⟩⟩, ⟨trivial, ⟨trivial, trivial⟩⟩⟩⟩⟩ (fun l k i nx => by kernel_rfl)
theorem mk_MailboxS : MkM (.sl TMailbox) laws_markMailboxS 
  := mkM_w (e := TMailbox) (T := laws_markMailboxS_T2 (fun _ y _ z => some (y, z))) (f := laws_markText) (.pair (.pair (.int _) (.pair .bool (.sl (e := (.int .i64)) laws_markIntS))) (.pair (.int _) (.pair (.int _) (.int _)))) txt_eq ⟨⟨trivial, ⟨trivial, mk_IntS⟩⟩, ⟨trivial, ⟨trivial, trivial⟩⟩⟩ (fun l k i nx => by kernel_rfl)
theorem ce_Ideal (a : Ideal) : cntT TIdeal a = cntT (.sl TSoft) a.1 + (cntT (.sl (.sl .str)) a.2.1 + (cntT (.sl TVirtualFunction) a.2.2.1 + (cntT (.sl TMailbox) a.2.2.2.1 + (cntT (.sl .str) a.2.2.2.2)))) := rfl
theorem me_Ideal (a : Ideal) (k : Int) : mkT TIdeal a k = (mkT (.sl TSoft) a.1 (k), mkT (.sl (.sl .str)) a.2.1 (k + ((cntT (.sl TSoft) a.1 : Nat) : Int)), mkT (.sl TVirtualFunction) a.2.2.1 (k + ((cntT (.sl TSoft) a.1 : Nat) : Int) + ((cntT (.sl (.sl .str)) a.2.1 : Nat) : Int)), mkT (.sl TMailbox) a.2.2.2.1 (k + ((cntT (.sl TSoft) a.1 : Nat) : Int) + ((cntT (.sl (.sl .str)) a.2.1 : Nat) : Int) + ((cntT (.sl TVirtualFunction) a.2.2.1 : Nat) : Int)), mkT (.sl .str) a.2.2.2.2 (k + ((cntT (.sl TSoft) a.1 : Nat) : Int) + ((cntT (.sl (.sl .str)) a.2.1 : Nat) : Int) + ((cntT (.sl TVirtualFunction) a.2.2.1 : Nat) : Int) + ((cntT (.sl TMailbox) a.2.2.2.1 : Nat) : Int))) := by
  simp only [mkT_pair, mkT_int, mkT_bool, mkT_str, cntT_pair, cntT_int, cntT_bool, cntT_str, Int.natCast_add, Int.natCast_zero, Int.add_zero, ← Int.add_assoc]
theorem mt_Ideal : MtM TIdeal laws_markIdeal := by
  intro a h k h1 h2
  rw [ce_Ideal] at h2
  simp (disch := omega) only [laws_markIdeal, bindO_some, mk_SoftS.top _ h.1, mk_StringSS.top _ h.2.1, mk_VirtualFunctionS.top _ h.2.2.1, mk_MailboxS.top _ h.2.2.2.1, mk_StringS.top _ h.2.2.2.2]
  rw [me_Ideal, ce_Ideal]
  refine congrArg some (Prod.ext (by simp only; omega) ?_)
  first | rfl | simp only [mkT_pair, mkT_int, mkT_bool, mkT_str, cntT_pair, cntT_int, cntT_bool, cntT_str, Int.natCast_add, Int.natCast_zero, Int.add_zero, ← Int.add_assoc]
theorem hd_StringS : MkH (.sl .str) laws_heldStringS := by
  refine mkH_of (e := .str) (H := fun v => laws_heldStringS_T2 (fun y _ => some y) (fun _ y _ => some y) v 0) (fun l i hi x k nx hm h1 h2 h3 hx => ?_) (fun l k nx => ?_)
  · try simp only [cnt_pair, cnt_int, cnt_bool, cnt_str, Int.natCast_add, Int.natCast_one, ← Int.add_assoc] at h2
    try simp only [mk_pair, mk_int, mk_bool, mk_str, cnt_pair, cnt_int, cnt_bool, cnt_str, Int.natCast_add, Int.natCast_one, ← Int.add_assoc] at hm
    simp only [laws_heldStringS_T2]
    rw [decide_eq_true (by omega)]
    simp (disch := omega) only [cond_true, idx_lt hi, hm, bindO_some, bne_self_eq_false, beq_self_eq_true, Bool.not_true, cond_false, wrap64, if_neg, ne3, dec_neg, txt_eq]
    try simp only [cnt_pair, cnt_int, cnt_bool, cnt_str, Int.natCast_add, Int.natCast_one, ← Int.add_assoc]
  · simp only [laws_heldStringS_T2]
    rw [decide_eq_false (by omega)]; rfl
theorem hd_IntS : MkH (.sl (.int .i64)) laws_heldIntS := by
  refine mkH_of (e := (.int .i64)) (H := fun v => laws_heldIntS_T2 (fun y _ => some y) (fun _ y _ => some y) v 0) (fun l i hi x k nx hm h1 h2 h3 hx => ?_) (fun l k nx => ?_)
  · try simp only [cnt_pair, cnt_int, cnt_bool, cnt_str, Int.natCast_add, Int.natCast_one, ← Int.add_assoc] at h2
    try simp only [mk_pair, mk_int, mk_bool, mk_str, cnt_pair, cnt_int, cnt_bool, cnt_str, Int.natCast_add, Int.natCast_one, ← Int.add_assoc] at hm
    simp only [laws_heldIntS_T2]
    rw [decide_eq_true (by omega)]
    simp (disch := omega) only [cond_true, idx_lt hi, hm, bindO_some, bne_self_eq_false, beq_self_eq_true, Bool.not_true, cond_false, wrap64, if_neg, ne3, dec_neg, txt_eq]
    try simp only [cnt_pair, cnt_int, cnt_bool, cnt_str, Int.natCast_add, Int.natCast_one, ← Int.add_assoc]
  · simp only [laws_heldIntS_T2]
    rw [decide_eq_false (by omega)]; rfl
theorem hd_RuleS : MkH (.sl TRule) laws_heldRuleS 
  := mkH_w (e := TRule) (H := fun v => laws_heldRuleS_T2 (fun y _ => some y) (fun _ y _ => some y) v 0) (bad := fun _ i k => some (-1)) (f := laws_markText) (.pair (.int _) (.pair (.int _) (.pair (.int _) (.pair (.int _) (.pair (.int _) (.pair (.int _) (.pair (.int _) (.pair (.int _) (.int _))))))))) txt_eq ⟨trivial, ⟨trivial, ⟨trivial, ⟨trivial, ⟨trivial, ⟨trivial, ⟨trivial, ⟨trivial, trivial⟩⟩⟩⟩⟩⟩⟩⟩ (fun l k i nx => by kernel_rfl)
theorem hd_SlotS : MkH (.sl TSlot) laws_heldSlotS 
  := mkH_w (e := TSlot) (H := fun v => laws_heldSlotS_T2 (fun y _ => some y) (fun _ y _ => some y) v 0) (bad := fun _ i k => some (-1)) (f := laws_markText) (.pair (.int _) (.pair (.pair (.int _) (.pair (.int _) (.pair (.int _) (.pair (.int _) (.int _))))) (.int _))) txt_eq ⟨trivial, ⟨⟨trivial, ⟨trivial, ⟨trivial, ⟨trivial, trivial⟩⟩⟩⟩, trivial⟩⟩ (fun l k i nx => by kernel_rfl)
theorem hd_StreamS : MkH (.sl TStream) laws_heldStreamS 
  := mkH_w (e := TStream) (H := fun v => laws_heldStreamS_T2 (fun y _ => some y) (fun _ y _ => some y) v 0) (bad := fun _ i k => some (-1)) (f := laws_markText) (.pair (.pair (.int _) (.pair (.int _) (.pair (.int _) (.pair (.int _) (.int _))))) (.pair (.int _) (.pair .str .bool))) txt_eq ⟨⟨trivial, ⟨trivial, ⟨trivial, ⟨trivial, trivial⟩⟩⟩⟩, ⟨trivial, ⟨trivial, trivial⟩⟩⟩ (fun l k i nx => by kernel_rfl)
theorem hd_SoftS : MkH (.sl TSoft) laws_heldSoftS 
  := mkH_w (e := TSoft) (H := fun v => laws_heldSoftS_T2 (fun y _ => some y) (fun _ y _ => some y) v 0) (bad := fun _ i k => some (-1)) (f := laws_markText) (.pair (.pair (.int _) (.pair .bool (.sl (e := (.int .i64)) laws_heldIntS))) (.pair (.pair (.sl (e := TRule) laws_heldRuleS) (.pair (.sl (e := TSlot) laws_heldSlotS) (.pair .str (.sl (e := (.int .i64)) laws_heldIntS)))) (.pair (.int _) (.pair (.sl (e := TStream) laws_heldStreamS) (.sl (e := .str) laws_heldStringS))))) txt_eq ⟨⟨trivial, ⟨trivial, hd_IntS⟩⟩, ⟨⟨hd_RuleS, ⟨hd_SlotS, ⟨trivial, hd_IntS⟩⟩⟩, ⟨trivial, ⟨hd_StreamS, hd_StringS⟩⟩⟩⟩ (fun l k i nx => by kernel_rfl)
theorem hd_StringSS : MkH (.sl (.sl .str)) laws_heldStringSS := by
  refine mkH_of (e := (.sl .str)) (H := fun v => laws_heldStringSS_T2 (fun y _ => some y) (fun _ y _ => some y) v 0) (fun l i hi x k nx hm h1 h2 h3 hx => ?_) (fun l k nx => ?_)
  · try simp only [cnt_pair, cnt_int, cnt_bool, cnt_str, Int.natCast_add, Int.natCast_one, ← Int.add_assoc] at h2
    try simp only [mk_pair, mk_int, mk_bool, mk_str, cnt_pair, cnt_int, cnt_bool, cnt_str, Int.natCast_add, Int.natCast_one, ← Int.add_assoc] at hm
    simp only [laws_heldStringSS_T2]
    rw [decide_eq_true (by omega)]
    simp (disch := omega) only [cond_true, idx_lt hi, hm, bindO_some, bne_self_eq_false, beq_self_eq_true, Bool.not_true, cond_false, wrap64, if_neg, ne3, dec_neg, txt_eq, hd_StringS _ hx]
    try simp only [cnt_pair, cnt_int, cnt_bool, cnt_str, Int.natCast_add, Int.natCast_one, ← Int.add_assoc]
  · simp only [laws_heldStringSS_T2]
    rw [decide_eq_false (by omega)]; rfl
theorem hd_VirtualFunctionS : MkH (.sl TVirtualFunction) laws_heldVirtualFunctionS 
  := mkH_w (e := TVirtualFunction) (H := fun v => laws_heldVirtualFunctionS_T2 (fun y _ => some y) (fun _ y _ => some y) v 0) (bad := fun _ i k => some (-1)) (f := laws_markText) (.pair (.int _) (.pair (.int _) (.pair (.pair (.int _) (.pair (.int _) (.int _))) (.pair .bool (.pair (.int _) (.int _)))))) txt_eq ⟨trivial, ⟨trivial, ⟨⟨trivial, ⟨trivial, trivial⟩⟩, ⟨trivial, ⟨trivial, trivial⟩⟩⟩⟩⟩ (fun l k i nx => by kernel_rfl)
theorem hd_MailboxS : MkH (.sl TMailbox) laws_heldMailboxS 
  := mkH_w (e := TMailbox) (H := fun v => laws_heldMailboxS_T2 (fun y _ => some y) (fun _ y _ => some y) v 0) (bad := fun _ i k => some (-1)) (f := laws_markText) (.pair (.pair (.int _) (.pair .bool (.sl (e := (.int .i64)) laws_heldIntS))) (.pair (.int _) (.pair (.int _) (.int _)))) txt_eq ⟨⟨trivial, ⟨trivial, hd_IntS⟩⟩, ⟨trivial, ⟨trivial, trivial⟩⟩⟩ (fun l k i nx => by kernel_rfl)
theorem ht_Ideal : MtH TIdeal laws_heldIdeal := by
  intro a h k h1 h2
  rw [ce_Ideal] at h2
  rw [me_Ideal]
  simp (disch := omega) only [laws_heldIdeal, bindO_some, hd_SoftS.top _ h.1, hd_StringSS.top _ h.2.1, hd_VirtualFunctionS.top _ h.2.2.1, hd_MailboxS.top _ h.2.2.2.1, hd_StringS.top _ h.2.2.2.2, dec_neg, cond_false]
  rw [ce_Ideal]
  refine congrArg some (by omega)

end Go.Pu
