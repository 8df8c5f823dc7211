import Derived.Test.YtdkhimfkfepnjaaPuMk
/- The laws' marks, type by type (made by codec.py). -/
namespace Go.Pu
open Go.Dn
set_option linter.unusedVariables false
set_option linter.unusedSimpArgs false
set_option maxRecDepth 100000
set_option maxHeartbeats 4000000

theorem mk_IntS : MkM (.sl (.int .i64)) laws_markIntS := by
  refine mkM_of (e := (.int .i64)) (T := laws_markIntS_T2 (fun _ y _ z => some (y, z))) (fun l i hi k nx h1 h2 h3 hx => ?_) (fun l k nx => ?_)
  · try simp only [cnt_pair, cnt_int, cnt_bool, cnt_str, Int.natCast_add, Int.natCast_one, ← Int.add_assoc] at h2
    simp only [laws_markIntS_T2]
    rw [decide_eq_true (by omega)]
    simp (disch := omega) only [cond_true, idx_lt hi, bindO_some, idx_set_self, List.length_set, List.set_set, Int.toNat_natCast, wrap64, if_neg, ne3, cond_true]
    try simp only [mk_pair, mk_int, mk_bool, mk_str, cnt_pair, cnt_int, cnt_bool, cnt_str, Int.natCast_add, Int.natCast_one, ← Int.add_assoc]
  · simp only [laws_markIntS_T2]
    rw [decide_eq_false (by omega)]; rfl
theorem mk_MailboxS : MkM (.sl TMailbox) laws_markMailboxS := by
  refine mkM_of (e := TMailbox) (T := laws_markMailboxS_T2 (fun _ y _ z => some (y, z))) (fun l i hi k nx h1 h2 h3 hx => ?_) (fun l k nx => ?_)
  · try simp only [cnt_pair, cnt_int, cnt_bool, cnt_str, Int.natCast_add, Int.natCast_one, ← Int.add_assoc] at h2
    simp only [laws_markMailboxS_T2]
    rw [decide_eq_true (by omega)]
    simp (disch := omega) only [cond_true, idx_lt hi, bindO_some, idx_set_self, List.length_set, List.set_set, Int.toNat_natCast, wrap64, if_neg, ne3, cond_true, mk_IntS _ hx.1.2.2]
    try simp only [mk_pair, mk_int, mk_bool, mk_str, cnt_pair, cnt_int, cnt_bool, cnt_str, Int.natCast_add, Int.natCast_one, ← Int.add_assoc]
  · simp only [laws_markMailboxS_T2]
    rw [decide_eq_false (by omega)]; rfl
theorem mk_PortS : MkM (.sl TPort) laws_markPortS := by
  refine mkM_of (e := TPort) (T := laws_markPortS_T2 (fun _ y _ z => some (y, z))) (fun l i hi k nx h1 h2 h3 hx => ?_) (fun l k nx => ?_)
  · try simp only [cnt_pair, cnt_int, cnt_bool, cnt_str, Int.natCast_add, Int.natCast_one, ← Int.add_assoc] at h2
    simp only [laws_markPortS_T2]
    rw [decide_eq_true (by omega)]
    simp (disch := omega) only [cond_true, idx_lt hi, bindO_some, idx_set_self, List.length_set, List.set_set, Int.toNat_natCast, wrap64, if_neg, ne3, cond_true, mk_IntS _ hx.2.1]
    try simp only [mk_pair, mk_int, mk_bool, mk_str, cnt_pair, cnt_int, cnt_bool, cnt_str, Int.natCast_add, Int.natCast_one, ← Int.add_assoc]
  · simp only [laws_markPortS_T2]
    rw [decide_eq_false (by omega)]; rfl
theorem hd_IntS : MkH (.sl (.int .i64)) laws_heldIntS := by
  refine mkH_of (e := (.int .i64)) (H := fun v => laws_heldIntS_T2 (fun y _ => some y) (fun _ y _ => some y) v 0) (fun l i hi x k nx hm h1 h2 h3 hx => ?_) (fun l k nx => ?_)
  · try simp only [cnt_pair, cnt_int, cnt_bool, cnt_str, Int.natCast_add, Int.natCast_one, ← Int.add_assoc] at h2
    try simp only [mk_pair, mk_int, mk_bool, mk_str, cnt_pair, cnt_int, cnt_bool, cnt_str, Int.natCast_add, Int.natCast_one, ← Int.add_assoc] at hm
    simp only [laws_heldIntS_T2]
    rw [decide_eq_true (by omega)]
    simp (disch := omega) only [cond_true, idx_lt hi, hm, bindO_some, bne_self_eq_false, beq_self_eq_true, Bool.not_true, cond_false, wrap64, if_neg, ne3, dec_neg, cond_true]
    try simp only [cnt_pair, cnt_int, cnt_bool, cnt_str, Int.natCast_add, Int.natCast_one, ← Int.add_assoc]
  · simp only [laws_heldIntS_T2]
    rw [decide_eq_false (by omega)]; rfl
theorem hd_PortS : MkH (.sl TPort) laws_heldPortS := by
  refine mkH_of (e := TPort) (H := fun v => laws_heldPortS_T2 (fun y _ => some y) (fun _ y _ => some y) v 0) (fun l i hi x k nx hm h1 h2 h3 hx => ?_) (fun l k nx => ?_)
  · try simp only [cnt_pair, cnt_int, cnt_bool, cnt_str, Int.natCast_add, Int.natCast_one, ← Int.add_assoc] at h2
    try simp only [mk_pair, mk_int, mk_bool, mk_str, cnt_pair, cnt_int, cnt_bool, cnt_str, Int.natCast_add, Int.natCast_one, ← Int.add_assoc] at hm
    simp only [laws_heldPortS_T2]
    rw [decide_eq_true (by omega)]
    simp (disch := omega) only [cond_true, idx_lt hi, hm, bindO_some, bne_self_eq_false, beq_self_eq_true, Bool.not_true, cond_false, wrap64, if_neg, ne3, dec_neg, cond_true, hd_IntS _ hx.2.1]
    try simp only [cnt_pair, cnt_int, cnt_bool, cnt_str, Int.natCast_add, Int.natCast_one, ← Int.add_assoc]
  · simp only [laws_heldPortS_T2]
    rw [decide_eq_false (by omega)]; rfl

end Go.Pu
