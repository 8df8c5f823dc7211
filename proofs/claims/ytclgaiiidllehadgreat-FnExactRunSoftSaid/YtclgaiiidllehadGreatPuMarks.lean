import Derived.Test.YtclgaiiidllehadGreatPuMk
/- The laws' marks, type by type (made by codec.py). -/
namespace Go.Pu
open Go.Dn
set_option linter.unusedVariables false
set_option linter.unusedSimpArgs false
set_option maxRecDepth 100000
set_option maxHeartbeats 4000000

theorem mk_IntS : MkM (.sl (.int .i64)) laws_markIntS := by
  refine mkM_of (e := (.int .i64)) (T := laws_markIntS_T2 (fun _ y _ z => some (y, z))) (fun l i hi k nx h1 h2 h3 hx => ?_) (fun l k nx => ?_)
  · try simp only [cnt_pair, cnt_int, cnt_bool, cnt_str, Int.natCast_add, Int.natCast_one, ← Int.add_assoc] at h2
    simp only [laws_markIntS_T2]
    rw [decide_eq_true (by omega)]
    simp (disch := omega) only [cond_true, idx_lt hi, bindO_some, idx_set_self, List.length_set, List.set_set, Int.toNat_natCast, wrap64, if_neg, ne3, txt_eq]
    try simp only [mk_pair, mk_int, mk_bool, mk_str, cnt_pair, cnt_int, cnt_bool, cnt_str, Int.natCast_add, Int.natCast_one, ← Int.add_assoc]
  · simp only [laws_markIntS_T2]
    rw [decide_eq_false (by omega)]; rfl
theorem ce_Filter (a : Filter) : cntT TFilter a = 0 + (0 + (cntT (.sl (.int .i64)) a.2.2)) := rfl
theorem me_Filter (a : Filter) (k : Int) : mkT TFilter a k = (a.1, a.2.1, mkT (.sl (.int .i64)) a.2.2 (k)) := by
  simp only [mkT_pair, mkT_int, mkT_bool, mkT_str, cntT_pair, cntT_int, cntT_bool, cntT_str, Int.natCast_add, Int.natCast_zero, Int.add_zero, ← Int.add_assoc]
theorem mt_Filter : MtM TFilter laws_markFilter := by
  intro a h k h1 h2
  rw [ce_Filter] at h2
  simp (disch := omega) only [laws_markFilter, bindO_some, mk_IntS.top _ h.2.2]
  rw [me_Filter, ce_Filter]
  refine congrArg some (Prod.ext (by simp only; omega) ?_)
  first | rfl | simp only [mkT_pair, mkT_int, mkT_bool, mkT_str, cntT_pair, cntT_int, cntT_bool, cntT_str, Int.natCast_add, Int.natCast_zero, Int.add_zero, ← Int.add_assoc]
theorem mk_RuleS : MkM (.sl TRule) laws_markRuleS 
  := mkM_w (e := TRule) (T := laws_markRuleS_T2 (fun _ y _ z => some (y, z))) (f := laws_markText) (.pair (.int _) (.pair (.int _) (.pair (.int _) (.pair (.int _) (.pair (.int _) (.pair (.int _) (.pair (.int _) (.pair (.int _) (.int _))))))))) txt_eq ⟨trivial, ⟨trivial, ⟨trivial, ⟨trivial, ⟨trivial, ⟨trivial, ⟨trivial, ⟨trivial, trivial⟩⟩⟩⟩⟩⟩⟩⟩ (fun l k i nx => by kernel_rfl)
theorem mk_SlotS : MkM (.sl TSlot) laws_markSlotS 
  := mkM_w (e := TSlot) (T := laws_markSlotS_T2 (fun _ y _ z => some (y, z))) (f := laws_markText) (.pair (.int _) (.pair (.pair (.int _) (.pair (.int _) (.pair (.int _) (.pair (.int _) (.int _))))) (.int _))) txt_eq ⟨trivial, ⟨⟨trivial, ⟨trivial, ⟨trivial, ⟨trivial, trivial⟩⟩⟩⟩, trivial⟩⟩ (fun l k i nx => by kernel_rfl)
theorem mt_FlowTable : MtM (.sl TSlot) laws_markFlowTable := by
  intro a h k h1 h2
  simp (disch := omega) only [laws_markFlowTable, bindO_some, mk_SlotS.top a h]
theorem ce_Spread (a : Spread) : cntT TSpread a = 0 + (cntT (.sl (.int .i64)) a.2) := rfl
theorem me_Spread (a : Spread) (k : Int) : mkT TSpread a k = (a.1, mkT (.sl (.int .i64)) a.2 (k)) := by
  simp only [mkT_pair, mkT_int, mkT_bool, mkT_str, cntT_pair, cntT_int, cntT_bool, cntT_str, Int.natCast_add, Int.natCast_zero, Int.add_zero, ← Int.add_assoc]
theorem mt_Spread : MtM TSpread laws_markSpread := by
  intro a h k h1 h2
  rw [ce_Spread] at h2
  simp (disch := omega) only [laws_markSpread, bindO_some, mk_IntS.top _ h.2]
  rw [me_Spread, ce_Spread]
  refine congrArg some (Prod.ext (by simp only; omega) ?_)
  first | rfl | simp only [mkT_pair, mkT_int, mkT_bool, mkT_str, cntT_pair, cntT_int, cntT_bool, cntT_str, Int.natCast_add, Int.natCast_zero, Int.add_zero, ← Int.add_assoc]
theorem ce_Steering (a : Steering) : cntT TSteering a = cntT (.sl TRule) a.1 + (cntT (.sl TSlot) a.2.1 + (cntT TSpread a.2.2)) := rfl
theorem me_Steering (a : Steering) (k : Int) : mkT TSteering a k = (mkT (.sl TRule) a.1 (k), mkT (.sl TSlot) a.2.1 (k + ((cntT (.sl TRule) a.1 : Nat) : Int)), mkT TSpread a.2.2 (k + ((cntT (.sl TRule) a.1 : Nat) : Int) + ((cntT (.sl TSlot) a.2.1 : Nat) : Int))) := by
  simp only [mkT_pair, mkT_int, mkT_bool, mkT_str, cntT_pair, cntT_int, cntT_bool, cntT_str, Int.natCast_add, Int.natCast_zero, Int.add_zero, ← Int.add_assoc]
theorem mt_Steering : MtM TSteering laws_markSteering := by
  intro a h k h1 h2
  rw [ce_Steering] at h2
  simp (disch := omega) only [laws_markSteering, bindO_some, mk_RuleS.top _ h.1, mt_FlowTable _ h.2.1, mt_Spread _ h.2.2]
  rw [me_Steering, ce_Steering]
  refine congrArg some (Prod.ext (by simp only; omega) ?_)
  first | rfl | simp only [mkT_pair, mkT_int, mkT_bool, mkT_str, cntT_pair, cntT_int, cntT_bool, cntT_str, Int.natCast_add, Int.natCast_zero, Int.add_zero, ← Int.add_assoc]
theorem mk_StreamS : MkM (.sl TStream) laws_markStreamS 
  := mkM_w (e := TStream) (T := laws_markStreamS_T2 (fun _ y _ z => some (y, z))) (f := laws_markText) (.pair (.pair (.int _) (.pair (.int _) (.pair (.int _) (.pair (.int _) (.int _))))) (.pair (.int _) (.pair .str .bool))) txt_eq ⟨⟨trivial, ⟨trivial, ⟨trivial, ⟨trivial, trivial⟩⟩⟩⟩, ⟨trivial, ⟨trivial, trivial⟩⟩⟩ (fun l k i nx => by kernel_rfl)
theorem mk_StringS : MkM (.sl .str) laws_markStringS := by
  refine mkM_of (e := .str) (T := laws_markStringS_T2 (fun _ y _ z => some (y, z))) (fun l i hi k nx h1 h2 h3 hx => ?_) (fun l k nx => ?_)
  · try simp only [cnt_pair, cnt_int, cnt_bool, cnt_str, Int.natCast_add, Int.natCast_one, ← Int.add_assoc] at h2
    simp only [laws_markStringS_T2]
    rw [decide_eq_true (by omega)]
    simp (disch := omega) only [cond_true, idx_lt hi, bindO_some, idx_set_self, List.length_set, List.set_set, Int.toNat_natCast, wrap64, if_neg, ne3, txt_eq]
    try simp only [mk_pair, mk_int, mk_bool, mk_str, cnt_pair, cnt_int, cnt_bool, cnt_str, Int.natCast_add, Int.natCast_one, ← Int.add_assoc]
  · simp only [laws_markStringS_T2]
    rw [decide_eq_false (by omega)]; rfl
theorem ce_Soft (a : Soft) : cntT TSoft a = cntT TFilter a.1 + (cntT TSteering a.2.1 + (0 + (cntT (.sl TStream) a.2.2.2.1 + (cntT (.sl .str) a.2.2.2.2)))) := rfl
theorem me_Soft (a : Soft) (k : Int) : mkT TSoft a k = (mkT TFilter a.1 (k), mkT TSteering a.2.1 (k + ((cntT TFilter a.1 : Nat) : Int)), a.2.2.1, mkT (.sl TStream) a.2.2.2.1 (k + ((cntT TFilter a.1 : Nat) : Int) + ((cntT TSteering a.2.1 : Nat) : Int)), mkT (.sl .str) a.2.2.2.2 (k + ((cntT TFilter a.1 : Nat) : Int) + ((cntT TSteering a.2.1 : Nat) : Int) + ((cntT (.sl TStream) a.2.2.2.1 : Nat) : Int))) := by
  simp only [mkT_pair, mkT_int, mkT_bool, mkT_str, cntT_pair, cntT_int, cntT_bool, cntT_str, Int.natCast_add, Int.natCast_zero, Int.add_zero, ← Int.add_assoc]
theorem mt_Soft : MtM TSoft laws_markSoft := by
  intro a h k h1 h2
  rw [ce_Soft] at h2
  simp (disch := omega) only [laws_markSoft, bindO_some, mt_Filter _ h.1, mt_Steering _ h.2.1, mk_StreamS.top _ h.2.2.2.1, mk_StringS.top _ h.2.2.2.2]
  rw [me_Soft, ce_Soft]
  refine congrArg some (Prod.ext (by simp only; omega) ?_)
  first | rfl | simp only [mkT_pair, mkT_int, mkT_bool, mkT_str, cntT_pair, cntT_int, cntT_bool, cntT_str, Int.natCast_add, Int.natCast_zero, Int.add_zero, ← Int.add_assoc]
theorem mk_ActS : MkM (.sl TAct) laws_markActS 
  := mkM_w (e := TAct) (T := laws_markActS_T2 (fun _ y _ z => some (y, z))) (f := laws_markText) (.pair (.int _) (.pair (.pair (.int _) (.pair (.int _) (.pair (.int _) (.pair (.int _) (.pair (.int _) (.pair (.int _) (.pair (.int _) (.pair (.int _) (.pair (.int _) (.pair (.int _) (.pair (.int _) (.pair (.int _) (.pair (.int _) (.pair (.int _) (.pair (.int _) .str))))))))))))))) (.pair (.int _) (.pair (.int _) (.pair .str (.int _)))))) txt_eq ⟨trivial, ⟨⟨trivial, ⟨trivial, ⟨trivial, ⟨trivial, ⟨trivial, ⟨trivial, ⟨trivial, ⟨trivial, ⟨trivial, ⟨trivial, ⟨trivial, ⟨trivial, ⟨trivial, ⟨trivial, ⟨trivial, trivial⟩⟩⟩⟩⟩⟩⟩⟩⟩⟩⟩⟩⟩⟩⟩, ⟨trivial, ⟨trivial, ⟨trivial, trivial⟩⟩⟩⟩⟩ (fun l k i nx => by kernel_rfl)
theorem hd_IntS : MkH (.sl (.int .i64)) laws_heldIntS := by
  refine mkH_of (e := (.int .i64)) (H := fun v => laws_heldIntS_T2 (fun y _ => some y) (fun _ y _ => some y) v 0) (fun l i hi x k nx hm h1 h2 h3 hx => ?_) (fun l k nx => ?_)
  · try simp only [cnt_pair, cnt_int, cnt_bool, cnt_str, Int.natCast_add, Int.natCast_one, ← Int.add_assoc] at h2
    try simp only [mk_pair, mk_int, mk_bool, mk_str, cnt_pair, cnt_int, cnt_bool, cnt_str, Int.natCast_add, Int.natCast_one, ← Int.add_assoc] at hm
    simp only [laws_heldIntS_T2]
    rw [decide_eq_true (by omega)]
    simp (disch := omega) only [cond_true, idx_lt hi, hm, bindO_some, bne_self_eq_false, beq_self_eq_true, Bool.not_true, cond_false, wrap64, if_neg, ne3, dec_neg, txt_eq]
    try simp only [cnt_pair, cnt_int, cnt_bool, cnt_str, Int.natCast_add, Int.natCast_one, ← Int.add_assoc]
  · simp only [laws_heldIntS_T2]
    rw [decide_eq_false (by omega)]; rfl
theorem ht_Filter : MtH TFilter laws_heldFilter := by
  intro a h k h1 h2
  rw [ce_Filter] at h2
  rw [me_Filter]
  simp (disch := omega) only [laws_heldFilter, bindO_some, hd_IntS.top _ h.2.2, dec_neg, cond_false]
  rw [ce_Filter]
  refine congrArg some (by omega)
theorem hd_RuleS : MkH (.sl TRule) laws_heldRuleS 
  := mkH_w (e := TRule) (H := fun v => laws_heldRuleS_T2 (fun y _ => some y) (fun _ y _ => some y) v 0) (bad := fun _ i k => some (-1)) (f := laws_markText) (.pair (.int _) (.pair (.int _) (.pair (.int _) (.pair (.int _) (.pair (.int _) (.pair (.int _) (.pair (.int _) (.pair (.int _) (.int _))))))))) txt_eq ⟨trivial, ⟨trivial, ⟨trivial, ⟨trivial, ⟨trivial, ⟨trivial, ⟨trivial, ⟨trivial, trivial⟩⟩⟩⟩⟩⟩⟩⟩ (fun l k i nx => by kernel_rfl)
theorem hd_SlotS : MkH (.sl TSlot) laws_heldSlotS 
  := mkH_w (e := TSlot) (H := fun v => laws_heldSlotS_T2 (fun y _ => some y) (fun _ y _ => some y) v 0) (bad := fun _ i k => some (-1)) (f := laws_markText) (.pair (.int _) (.pair (.pair (.int _) (.pair (.int _) (.pair (.int _) (.pair (.int _) (.int _))))) (.int _))) txt_eq ⟨trivial, ⟨⟨trivial, ⟨trivial, ⟨trivial, ⟨trivial, trivial⟩⟩⟩⟩, trivial⟩⟩ (fun l k i nx => by kernel_rfl)
theorem ht_FlowTable : MtH (.sl TSlot) laws_heldFlowTable := by
  intro a h k h1 h2
  simp (disch := omega) only [laws_heldFlowTable, bindO_some, hd_SlotS.top a h, dec_neg, cond_false]
theorem ht_Spread : MtH TSpread laws_heldSpread := by
  intro a h k h1 h2
  rw [ce_Spread] at h2
  rw [me_Spread]
  simp (disch := omega) only [laws_heldSpread, bindO_some, hd_IntS.top _ h.2, dec_neg, cond_false]
  rw [ce_Spread]
  refine congrArg some (by omega)
theorem ht_Steering : MtH TSteering laws_heldSteering := by
  intro a h k h1 h2
  rw [ce_Steering] at h2
  rw [me_Steering]
  simp (disch := omega) only [laws_heldSteering, bindO_some, hd_RuleS.top _ h.1, ht_FlowTable _ h.2.1, ht_Spread _ h.2.2, dec_neg, cond_false]
  rw [ce_Steering]
  refine congrArg some (by omega)
theorem hd_StreamS : MkH (.sl TStream) laws_heldStreamS 
  := mkH_w (e := TStream) (H := fun v => laws_heldStreamS_T2 (fun y _ => some y) (fun _ y _ => some y) v 0) (bad := fun _ i k => some (-1)) (f := laws_markText) (.pair (.pair (.int _) (.pair (.int _) (.pair (.int _) (.pair (.int _) (.int _))))) (.pair (.int _) (.pair .str .bool))) txt_eq ⟨⟨trivial, ⟨trivial, ⟨trivial, ⟨trivial, trivial⟩⟩⟩⟩, ⟨trivial, ⟨trivial, trivial⟩⟩⟩ (fun l k i nx => by kernel_rfl)
theorem hd_StringS : MkH (.sl .str) laws_heldStringS := by
  refine mkH_of (e := .str) (H := fun v => laws_heldStringS_T2 (fun y _ => some y) (fun _ y _ => some y) v 0) (fun l i hi x k nx hm h1 h2 h3 hx => ?_) (fun l k nx => ?_)
  · try simp only [cnt_pair, cnt_int, cnt_bool, cnt_str, Int.natCast_add, Int.natCast_one, ← Int.add_assoc] at h2
    try simp only [mk_pair, mk_int, mk_bool, mk_str, cnt_pair, cnt_int, cnt_bool, cnt_str, Int.natCast_add, Int.natCast_one, ← Int.add_assoc] at hm
    simp only [laws_heldStringS_T2]
    rw [decide_eq_true (by omega)]
    simp (disch := omega) only [cond_true, idx_lt hi, hm, bindO_some, bne_self_eq_false, beq_self_eq_true, Bool.not_true, cond_false, wrap64, if_neg, ne3, dec_neg, txt_eq]
    try simp only [cnt_pair, cnt_int, cnt_bool, cnt_str, Int.natCast_add, Int.natCast_one, ← Int.add_assoc]
  · simp only [laws_heldStringS_T2]
    rw [decide_eq_false (by omega)]; rfl
theorem ht_Soft : MtH TSoft laws_heldSoft := by
  intro a h k h1 h2
  rw [ce_Soft] at h2
  rw [me_Soft]
  simp (disch := omega) only [laws_heldSoft, bindO_some, ht_Filter _ h.1, ht_Steering _ h.2.1, hd_StreamS.top _ h.2.2.2.1, hd_StringS.top _ h.2.2.2.2, dec_neg, cond_false]
  rw [ce_Soft]
  refine congrArg some (by omega)

end Go.Pu
