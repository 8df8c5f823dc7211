import Derived.Test.YtclgaiiidllehacGreatPuMk
/- The laws' marks, type by type (made by codec.py). -/
namespace Go.Pu
open Go.Dn
set_option linter.unusedVariables false
set_option linter.unusedSimpArgs false
set_option maxRecDepth 100000
set_option maxHeartbeats 4000000

theorem mk_StringS : MkM (.sl .str) laws_markStringS := by
  refine mkM_of (e := .str) (T := laws_markStringS_T2 (fun _ y _ z => some (y, z))) (fun l i hi k nx h1 h2 h3 hx => ?_) (fun l k nx => ?_)
  · try simp only [cnt_pair, cnt_int, cnt_bool, cnt_str, Int.natCast_add, Int.natCast_one, ← Int.add_assoc] at h2
    simp only [laws_markStringS_T2]
    rw [decide_eq_true (by omega)]
    simp (disch := omega) only [cond_true, idx_lt hi, bindO_some, idx_set_self, List.length_set, List.set_set, Int.toNat_natCast, wrap64, if_neg, ne3, txt_eq]
    try simp only [mk_pair, mk_int, mk_bool, mk_str, cnt_pair, cnt_int, cnt_bool, cnt_str, Int.natCast_add, Int.natCast_one, ← Int.add_assoc]
  · simp only [laws_markStringS_T2]
    rw [decide_eq_false (by omega)]; rfl
theorem mt_Memory : MtM (.sl .str) laws_markMemory := by
  intro a h k h1 h2
  simp (disch := omega) only [laws_markMemory, bindO_some, mk_StringS.top a h]
theorem mk_IntS : MkM (.sl (.int .i64)) laws_markIntS := by
  refine mkM_of (e := (.int .i64)) (T := laws_markIntS_T2 (fun _ y _ z => some (y, z))) (fun l i hi k nx h1 h2 h3 hx => ?_) (fun l k nx => ?_)
  · try simp only [cnt_pair, cnt_int, cnt_bool, cnt_str, Int.natCast_add, Int.natCast_one, ← Int.add_assoc] at h2
    simp only [laws_markIntS_T2]
    rw [decide_eq_true (by omega)]
    simp (disch := omega) only [cond_true, idx_lt hi, bindO_some, idx_set_self, List.length_set, List.set_set, Int.toNat_natCast, wrap64, if_neg, ne3, txt_eq]
    try simp only [mk_pair, mk_int, mk_bool, mk_str, cnt_pair, cnt_int, cnt_bool, cnt_str, Int.natCast_add, Int.natCast_one, ← Int.add_assoc]
  · simp only [laws_markIntS_T2]
    rw [decide_eq_false (by omega)]; rfl
theorem ce_Move (a : Move) : cntT TMove a = cntT (.sl .str) a.1 + (cntT (.sl (.int .i64)) a.2.1 + (0)) := rfl
theorem me_Move (a : Move) (k : Int) : mkT TMove a k = (mkT (.sl .str) a.1 (k), mkT (.sl (.int .i64)) a.2.1 (k + ((cntT (.sl .str) a.1 : Nat) : Int)), a.2.2) := by
  simp only [mkT_pair, mkT_int, mkT_bool, mkT_str, cntT_pair, cntT_int, cntT_bool, cntT_str, Int.natCast_add, Int.natCast_zero, Int.add_zero, ← Int.add_assoc]
theorem mt_Move : MtM TMove laws_markMove := by
  intro a h k h1 h2
  rw [ce_Move] at h2
  simp (disch := omega) only [laws_markMove, bindO_some, mt_Memory _ h.1, mk_IntS.top _ h.2.1]
  rw [me_Move, ce_Move]
  refine congrArg some (Prod.ext (by simp only; omega) ?_)
  first | rfl | simp only [mkT_pair, mkT_int, mkT_bool, mkT_str, cntT_pair, cntT_int, cntT_bool, cntT_str, Int.natCast_add, Int.natCast_zero, Int.add_zero, ← Int.add_assoc]
def st_MappingS : List (Stp Mapping) := [.fl fun y k => (k, y.2),
  .fl fun y k => (y.1, k, y.2.2),
  .fl fun y k => (y.1, y.2.1, k, y.2.2.2),
  .fl fun y k => (y.1, y.2.1, y.2.2.1, (Int.tmod k 3) == 0)]
theorem se_MappingS {R : Type} (k0 : List Mapping → Int → Int → List Mapping → Option R) (l : List Mapping) (k i : Int) (nx : List Mapping × Int × Int × List Mapping → Option R) : laws_markMappingS_T2 k0 nx (l, k, i, l) = cond (decide (i < (l.length : Int))) (runS laws_markText i st_MappingS l k (fun L k' => nx (L, k', IntKind.wrap .i64 (i + 1), L))) (k0 l k i l) := by kernel_rfl
theorem mk_MappingS : MkM (.sl TMapping) laws_markMappingS := by
  refine mkM_of (e := TMapping) (T := laws_markMappingS_T2 (fun _ y _ z => some (y, z))) (fun l i hi k nx h1 h2 h3 hx => ?_) (fun l k nx => ?_)
  · have hc : cnt TMapping l[i] = 4 := rfl
    have hst : st_MappingS.length = 4 := rfl
    have hl : l = l.set i l[i] := (List.set_getElem_self hi).symm
    have hm : finS txt st_MappingS l[i] k = mk TMapping l[i] k := by
      simp only [st_MappingS, finS, mk_pair, mk_int, mk_bool, mk_str, cnt_pair, cnt_int, cnt_bool, cnt_str, Int.natCast_add, Int.natCast_one, ← Int.add_assoc]
    rw [se_MappingS, decide_eq_true (by omega), cond_true]
    conv => lhs; rw [hl]
    rw [runS_ok (g := txt) txt_eq hi _ st_MappingS l[i] k h1 (by omega), hm, hst, hc, wrap64 (by omega) (by omega)]
  · rw [se_MappingS, decide_eq_false (by omega)]; rfl
theorem ce_Pool (a : Pool) : cntT TPool a = 0 + (0 + (0 + (cntT (.sl (.int .i64)) a.2.2.2))) := rfl
theorem me_Pool (a : Pool) (k : Int) : mkT TPool a k = (a.1, a.2.1, a.2.2.1, mkT (.sl (.int .i64)) a.2.2.2 (k)) := by
  simp only [mkT_pair, mkT_int, mkT_bool, mkT_str, cntT_pair, cntT_int, cntT_bool, cntT_str, Int.natCast_add, Int.natCast_zero, Int.add_zero, ← Int.add_assoc]
theorem mt_Pool : MtM TPool laws_markPool := by
  intro a h k h1 h2
  rw [ce_Pool] at h2
  simp (disch := omega) only [laws_markPool, bindO_some, mk_IntS.top _ h.2.2.2]
  rw [me_Pool, ce_Pool]
  refine congrArg some (Prod.ext (by simp only; omega) ?_)
  first | rfl | simp only [mkT_pair, mkT_int, mkT_bool, mkT_str, cntT_pair, cntT_int, cntT_bool, cntT_str, Int.natCast_add, Int.natCast_zero, Int.add_zero, ← Int.add_assoc]
theorem mk_SentS : MkM (.sl TSent) laws_markSentS := by
  refine mkM_of (e := TSent) (T := laws_markSentS_T2 (fun _ y _ z => some (y, z))) (fun l i hi k nx h1 h2 h3 hx => ?_) (fun l k nx => ?_)
  · try simp only [cnt_pair, cnt_int, cnt_bool, cnt_str, Int.natCast_add, Int.natCast_one, ← Int.add_assoc] at h2
    simp only [laws_markSentS_T2]
    rw [decide_eq_true (by omega)]
    simp (disch := omega) only [cond_true, idx_lt hi, bindO_some, idx_set_self, List.length_set, List.set_set, Int.toNat_natCast, wrap64, if_neg, ne3, txt_eq, mk_IntS _ hx.2.2]
    try simp only [mk_pair, mk_int, mk_bool, mk_str, cnt_pair, cnt_int, cnt_bool, cnt_str, Int.natCast_add, Int.natCast_one, ← Int.add_assoc]
  · simp only [laws_markSentS_T2]
    rw [decide_eq_false (by omega)]; rfl
theorem ce_TxQueue (a : TxQueue) : cntT TTxQueue a = (0 + (0 + (0 + 0))) + (cntT TPool a.2.1 + (cntT (.sl TSent) a.2.2.1 + (0))) := rfl
theorem me_TxQueue (a : TxQueue) (k : Int) : mkT TTxQueue a k = (a.1, mkT TPool a.2.1 (k), mkT (.sl TSent) a.2.2.1 (k + ((cntT TPool a.2.1 : Nat) : Int)), a.2.2.2) := by
  simp only [mkT_pair, mkT_int, mkT_bool, mkT_str, cntT_pair, cntT_int, cntT_bool, cntT_str, Int.natCast_add, Int.natCast_zero, Int.add_zero, ← Int.add_assoc]
theorem mt_TxQueue : MtM TTxQueue laws_markTxQueue := by
  intro a h k h1 h2
  rw [ce_TxQueue] at h2
  simp (disch := omega) only [laws_markTxQueue, bindO_some, mt_Pool _ h.2.1, mk_SentS.top _ h.2.2.1]
  rw [me_TxQueue, ce_TxQueue]
  refine congrArg some (Prod.ext (by simp only; omega) ?_)
  first | rfl | simp only [mkT_pair, mkT_int, mkT_bool, mkT_str, cntT_pair, cntT_int, cntT_bool, cntT_str, Int.natCast_add, Int.natCast_zero, Int.add_zero, ← Int.add_assoc]
def st_RxQueueS : List (Stp RxQueue) := [.fl fun y k => ((k, y.1.2), y.2),
  .fl fun y k => ((y.1.1, k, y.1.2.2), y.2),
  .fl fun y k => ((y.1.1, y.1.2.1, k, y.1.2.2.2), y.2),
  .fl fun y k => ((y.1.1, y.1.2.1, y.1.2.2.1, k), y.2),
  .fl fun y k => (y.1, (k, y.2.1.2), y.2.2),
  .fl fun y k => (y.1, (y.2.1.1, k, y.2.1.2.2), y.2.2),
  .fl fun y k => (y.1, (y.2.1.1, y.2.1.2.1, k), y.2.2),
  .fl fun y k => (y.1, y.2.1, (k, y.2.2.1.2), y.2.2.2),
  .fl fun y k => (y.1, y.2.1, (y.2.2.1.1, k, y.2.2.1.2.2), y.2.2.2),
  .fl fun y k => (y.1, y.2.1, (y.2.2.1.1, y.2.2.1.2.1, k), y.2.2.2),
  .fl fun y k => (y.1, y.2.1, y.2.2.1, ((k, y.2.2.2.1.1.2), y.2.2.2.1.2), y.2.2.2.2),
  .fl fun y k => (y.1, y.2.1, y.2.2.1, ((y.2.2.2.1.1.1, k, y.2.2.2.1.1.2.2), y.2.2.2.1.2), y.2.2.2.2),
  .fl fun y k => (y.1, y.2.1, y.2.2.1, ((y.2.2.2.1.1.1, y.2.2.2.1.1.2.1, k, y.2.2.2.1.1.2.2.2), y.2.2.2.1.2), y.2.2.2.2),
  .fl fun y k => (y.1, y.2.1, y.2.2.1, ((y.2.2.2.1.1.1, y.2.2.2.1.1.2.1, y.2.2.2.1.1.2.2.1, k, y.2.2.2.1.1.2.2.2.2), y.2.2.2.1.2), y.2.2.2.2),
  .fl fun y k => (y.1, y.2.1, y.2.2.1, ((y.2.2.2.1.1.1, y.2.2.2.1.1.2.1, y.2.2.2.1.1.2.2.1, y.2.2.2.1.1.2.2.2.1, k, y.2.2.2.1.1.2.2.2.2.2), y.2.2.2.1.2), y.2.2.2.2),
  .fl fun y k => (y.1, y.2.1, y.2.2.1, ((y.2.2.2.1.1.1, y.2.2.2.1.1.2.1, y.2.2.2.1.1.2.2.1, y.2.2.2.1.1.2.2.2.1, y.2.2.2.1.1.2.2.2.2.1, k, y.2.2.2.1.1.2.2.2.2.2.2), y.2.2.2.1.2), y.2.2.2.2),
  .fl fun y k => (y.1, y.2.1, y.2.2.1, ((y.2.2.2.1.1.1, y.2.2.2.1.1.2.1, y.2.2.2.1.1.2.2.1, y.2.2.2.1.1.2.2.2.1, y.2.2.2.1.1.2.2.2.2.1, y.2.2.2.1.1.2.2.2.2.2.1, k, y.2.2.2.1.1.2.2.2.2.2.2.2), y.2.2.2.1.2), y.2.2.2.2),
  .fl fun y k => (y.1, y.2.1, y.2.2.1, ((y.2.2.2.1.1.1, y.2.2.2.1.1.2.1, y.2.2.2.1.1.2.2.1, y.2.2.2.1.1.2.2.2.1, y.2.2.2.1.1.2.2.2.2.1, y.2.2.2.1.1.2.2.2.2.2.1, y.2.2.2.1.1.2.2.2.2.2.2.1, k, y.2.2.2.1.1.2.2.2.2.2.2.2.2), y.2.2.2.1.2), y.2.2.2.2),
  .fl fun y k => (y.1, y.2.1, y.2.2.1, ((y.2.2.2.1.1.1, y.2.2.2.1.1.2.1, y.2.2.2.1.1.2.2.1, y.2.2.2.1.1.2.2.2.1, y.2.2.2.1.1.2.2.2.2.1, y.2.2.2.1.1.2.2.2.2.2.1, y.2.2.2.1.1.2.2.2.2.2.2.1, y.2.2.2.1.1.2.2.2.2.2.2.2.1, k, y.2.2.2.1.1.2.2.2.2.2.2.2.2.2), y.2.2.2.1.2), y.2.2.2.2),
  .fl fun y k => (y.1, y.2.1, y.2.2.1, ((y.2.2.2.1.1.1, y.2.2.2.1.1.2.1, y.2.2.2.1.1.2.2.1, y.2.2.2.1.1.2.2.2.1, y.2.2.2.1.1.2.2.2.2.1, y.2.2.2.1.1.2.2.2.2.2.1, y.2.2.2.1.1.2.2.2.2.2.2.1, y.2.2.2.1.1.2.2.2.2.2.2.2.1, y.2.2.2.1.1.2.2.2.2.2.2.2.2.1, k, y.2.2.2.1.1.2.2.2.2.2.2.2.2.2.2), y.2.2.2.1.2), y.2.2.2.2),
  .fl fun y k => (y.1, y.2.1, y.2.2.1, ((y.2.2.2.1.1.1, y.2.2.2.1.1.2.1, y.2.2.2.1.1.2.2.1, y.2.2.2.1.1.2.2.2.1, y.2.2.2.1.1.2.2.2.2.1, y.2.2.2.1.1.2.2.2.2.2.1, y.2.2.2.1.1.2.2.2.2.2.2.1, y.2.2.2.1.1.2.2.2.2.2.2.2.1, y.2.2.2.1.1.2.2.2.2.2.2.2.2.1, y.2.2.2.1.1.2.2.2.2.2.2.2.2.2.1, k, y.2.2.2.1.1.2.2.2.2.2.2.2.2.2.2.2), y.2.2.2.1.2), y.2.2.2.2),
  .fl fun y k => (y.1, y.2.1, y.2.2.1, ((y.2.2.2.1.1.1, y.2.2.2.1.1.2.1, y.2.2.2.1.1.2.2.1, y.2.2.2.1.1.2.2.2.1, y.2.2.2.1.1.2.2.2.2.1, y.2.2.2.1.1.2.2.2.2.2.1, y.2.2.2.1.1.2.2.2.2.2.2.1, y.2.2.2.1.1.2.2.2.2.2.2.2.1, y.2.2.2.1.1.2.2.2.2.2.2.2.2.1, y.2.2.2.1.1.2.2.2.2.2.2.2.2.2.1, y.2.2.2.1.1.2.2.2.2.2.2.2.2.2.2.1, k, y.2.2.2.1.1.2.2.2.2.2.2.2.2.2.2.2.2), y.2.2.2.1.2), y.2.2.2.2),
  .fl fun y k => (y.1, y.2.1, y.2.2.1, ((y.2.2.2.1.1.1, y.2.2.2.1.1.2.1, y.2.2.2.1.1.2.2.1, y.2.2.2.1.1.2.2.2.1, y.2.2.2.1.1.2.2.2.2.1, y.2.2.2.1.1.2.2.2.2.2.1, y.2.2.2.1.1.2.2.2.2.2.2.1, y.2.2.2.1.1.2.2.2.2.2.2.2.1, y.2.2.2.1.1.2.2.2.2.2.2.2.2.1, y.2.2.2.1.1.2.2.2.2.2.2.2.2.2.1, y.2.2.2.1.1.2.2.2.2.2.2.2.2.2.2.1, y.2.2.2.1.1.2.2.2.2.2.2.2.2.2.2.2.1, k, y.2.2.2.1.1.2.2.2.2.2.2.2.2.2.2.2.2.2), y.2.2.2.1.2), y.2.2.2.2),
  .fl fun y k => (y.1, y.2.1, y.2.2.1, ((y.2.2.2.1.1.1, y.2.2.2.1.1.2.1, y.2.2.2.1.1.2.2.1, y.2.2.2.1.1.2.2.2.1, y.2.2.2.1.1.2.2.2.2.1, y.2.2.2.1.1.2.2.2.2.2.1, y.2.2.2.1.1.2.2.2.2.2.2.1, y.2.2.2.1.1.2.2.2.2.2.2.2.1, y.2.2.2.1.1.2.2.2.2.2.2.2.2.1, y.2.2.2.1.1.2.2.2.2.2.2.2.2.2.1, y.2.2.2.1.1.2.2.2.2.2.2.2.2.2.2.1, y.2.2.2.1.1.2.2.2.2.2.2.2.2.2.2.2.1, y.2.2.2.1.1.2.2.2.2.2.2.2.2.2.2.2.2.1, k, y.2.2.2.1.1.2.2.2.2.2.2.2.2.2.2.2.2.2.2), y.2.2.2.1.2), y.2.2.2.2),
  .fl fun y k => (y.1, y.2.1, y.2.2.1, ((y.2.2.2.1.1.1, y.2.2.2.1.1.2.1, y.2.2.2.1.1.2.2.1, y.2.2.2.1.1.2.2.2.1, y.2.2.2.1.1.2.2.2.2.1, y.2.2.2.1.1.2.2.2.2.2.1, y.2.2.2.1.1.2.2.2.2.2.2.1, y.2.2.2.1.1.2.2.2.2.2.2.2.1, y.2.2.2.1.1.2.2.2.2.2.2.2.2.1, y.2.2.2.1.1.2.2.2.2.2.2.2.2.2.1, y.2.2.2.1.1.2.2.2.2.2.2.2.2.2.2.1, y.2.2.2.1.1.2.2.2.2.2.2.2.2.2.2.2.1, y.2.2.2.1.1.2.2.2.2.2.2.2.2.2.2.2.2.1, y.2.2.2.1.1.2.2.2.2.2.2.2.2.2.2.2.2.2.1, k, y.2.2.2.1.1.2.2.2.2.2.2.2.2.2.2.2.2.2.2.2), y.2.2.2.1.2), y.2.2.2.2),
  .tx fun y k => (y.1, y.2.1, y.2.2.1, ((y.2.2.2.1.1.1, y.2.2.2.1.1.2.1, y.2.2.2.1.1.2.2.1, y.2.2.2.1.1.2.2.2.1, y.2.2.2.1.1.2.2.2.2.1, y.2.2.2.1.1.2.2.2.2.2.1, y.2.2.2.1.1.2.2.2.2.2.2.1, y.2.2.2.1.1.2.2.2.2.2.2.2.1, y.2.2.2.1.1.2.2.2.2.2.2.2.2.1, y.2.2.2.1.1.2.2.2.2.2.2.2.2.2.1, y.2.2.2.1.1.2.2.2.2.2.2.2.2.2.2.1, y.2.2.2.1.1.2.2.2.2.2.2.2.2.2.2.2.1, y.2.2.2.1.1.2.2.2.2.2.2.2.2.2.2.2.2.1, y.2.2.2.1.1.2.2.2.2.2.2.2.2.2.2.2.2.2.1, y.2.2.2.1.1.2.2.2.2.2.2.2.2.2.2.2.2.2.2.1, k), y.2.2.2.1.2), y.2.2.2.2),
  .fl fun y k => (y.1, y.2.1, y.2.2.1, (y.2.2.2.1.1, k, y.2.2.2.1.2.2), y.2.2.2.2),
  .fl fun y k => (y.1, y.2.1, y.2.2.1, (y.2.2.2.1.1, y.2.2.2.1.2.1, k), y.2.2.2.2),
  .fl fun y k => (y.1, y.2.1, y.2.2.1, y.2.2.2.1, (Int.tmod k 3) == 0, y.2.2.2.2.2),
  .fl fun y k => (y.1, y.2.1, y.2.2.1, y.2.2.2.1, y.2.2.2.2.1, k)]
theorem se_RxQueueS {R : Type} (k0 : List RxQueue → Int → Int → List RxQueue → Option R) (l : List RxQueue) (k i : Int) (nx : List RxQueue × Int × Int × List RxQueue → Option R) : laws_markRxQueueS_T2 k0 nx (l, k, i, l) = cond (decide (i < (l.length : Int))) (runS laws_markText i st_RxQueueS l k (fun L k' => nx (L, k', IntKind.wrap .i64 (i + 1), L))) (k0 l k i l) := by kernel_rfl
theorem mk_RxQueueS : MkM (.sl TRxQueue) laws_markRxQueueS := by
  refine mkM_of (e := TRxQueue) (T := laws_markRxQueueS_T2 (fun _ y _ z => some (y, z))) (fun l i hi k nx h1 h2 h3 hx => ?_) (fun l k nx => ?_)
  · have hc : cnt TRxQueue l[i] = 30 := rfl
    have hst : st_RxQueueS.length = 30 := rfl
    have hl : l = l.set i l[i] := (List.set_getElem_self hi).symm
    have hm : finS txt st_RxQueueS l[i] k = mk TRxQueue l[i] k := by
      simp only [st_RxQueueS, finS, mk_pair, mk_int, mk_bool, mk_str, cnt_pair, cnt_int, cnt_bool, cnt_str, Int.natCast_add, Int.natCast_one, ← Int.add_assoc]
    rw [se_RxQueueS, decide_eq_true (by omega), cond_true]
    conv => lhs; rw [hl]
    rw [runS_ok (g := txt) txt_eq hi _ st_RxQueueS l[i] k h1 (by omega), hm, hst, hc, wrap64 (by omega) (by omega)]
  · rw [se_RxQueueS, decide_eq_false (by omega)]; rfl
theorem mk_PoolS : MkM (.sl TPool) laws_markPoolS := by
  refine mkM_of (e := TPool) (T := laws_markPoolS_T2 (fun _ y _ z => some (y, z))) (fun l i hi k nx h1 h2 h3 hx => ?_) (fun l k nx => ?_)
  · try simp only [cnt_pair, cnt_int, cnt_bool, cnt_str, Int.natCast_add, Int.natCast_one, ← Int.add_assoc] at h2
    simp only [laws_markPoolS_T2]
    rw [decide_eq_true (by omega)]
    simp (disch := omega) only [cond_true, idx_lt hi, bindO_some, idx_set_self, List.length_set, List.set_set, Int.toNat_natCast, wrap64, if_neg, ne3, txt_eq, mk_IntS _ hx.2.2.2]
    try simp only [mk_pair, mk_int, mk_bool, mk_str, cnt_pair, cnt_int, cnt_bool, cnt_str, Int.natCast_add, Int.natCast_one, ← Int.add_assoc]
  · simp only [laws_markPoolS_T2]
    rw [decide_eq_false (by omega)]; rfl
def st_VectorS : List (Stp Vector) := [.fl fun y k => (k, y.2),
  .fl fun y k => (y.1, k, y.2.2),
  .fl fun y k => (y.1, y.2.1, k, y.2.2.2),
  .fl fun y k => (y.1, y.2.1, y.2.2.1, k, y.2.2.2.2),
  .fl fun y k => (y.1, y.2.1, y.2.2.1, y.2.2.2.1, (Int.tmod k 3) == 0, y.2.2.2.2.2),
  .fl fun y k => (y.1, y.2.1, y.2.2.1, y.2.2.2.1, y.2.2.2.2.1, (Int.tmod k 3) == 0)]
theorem se_VectorS {R : Type} (k0 : List Vector → Int → Int → List Vector → Option R) (l : List Vector) (k i : Int) (nx : List Vector × Int × Int × List Vector → Option R) : laws_markVectorS_T2 k0 nx (l, k, i, l) = cond (decide (i < (l.length : Int))) (runS laws_markText i st_VectorS l k (fun L k' => nx (L, k', IntKind.wrap .i64 (i + 1), L))) (k0 l k i l) := by kernel_rfl
theorem mk_VectorS : MkM (.sl TVector) laws_markVectorS := by
  refine mkM_of (e := TVector) (T := laws_markVectorS_T2 (fun _ y _ z => some (y, z))) (fun l i hi k nx h1 h2 h3 hx => ?_) (fun l k nx => ?_)
  · have hc : cnt TVector l[i] = 6 := rfl
    have hst : st_VectorS.length = 6 := rfl
    have hl : l = l.set i l[i] := (List.set_getElem_self hi).symm
    have hm : finS txt st_VectorS l[i] k = mk TVector l[i] k := by
      simp only [st_VectorS, finS, mk_pair, mk_int, mk_bool, mk_str, cnt_pair, cnt_int, cnt_bool, cnt_str, Int.natCast_add, Int.natCast_one, ← Int.add_assoc]
    rw [se_VectorS, decide_eq_true (by omega), cond_true]
    conv => lhs; rw [hl]
    rw [runS_ok (g := txt) txt_eq hi _ st_VectorS l[i] k h1 (by omega), hm, hst, hc, wrap64 (by omega) (by omega)]
  · rw [se_VectorS, decide_eq_false (by omega)]; rfl
theorem mk_BoolS : MkM (.sl .bool) laws_markBoolS := by
  refine mkM_of (e := .bool) (T := laws_markBoolS_T2 (fun _ y _ z => some (y, z))) (fun l i hi k nx h1 h2 h3 hx => ?_) (fun l k nx => ?_)
  · try simp only [cnt_pair, cnt_int, cnt_bool, cnt_str, Int.natCast_add, Int.natCast_one, ← Int.add_assoc] at h2
    simp only [laws_markBoolS_T2]
    rw [decide_eq_true (by omega)]
    simp (disch := omega) only [cond_true, idx_lt hi, bindO_some, idx_set_self, List.length_set, List.set_set, Int.toNat_natCast, wrap64, if_neg, ne3, txt_eq]
    try simp only [mk_pair, mk_int, mk_bool, mk_str, cnt_pair, cnt_int, cnt_bool, cnt_str, Int.natCast_add, Int.natCast_one, ← Int.add_assoc]
  · simp only [laws_markBoolS_T2]
    rw [decide_eq_false (by omega)]; rfl
theorem ce_Filter (a : Filter) : cntT TFilter a = 0 + (0 + (cntT (.sl (.int .i64)) a.2.2)) := rfl
theorem me_Filter (a : Filter) (k : Int) : mkT TFilter a k = (a.1, a.2.1, mkT (.sl (.int .i64)) a.2.2 (k)) := by
  simp only [mkT_pair, mkT_int, mkT_bool, mkT_str, cntT_pair, cntT_int, cntT_bool, cntT_str, Int.natCast_add, Int.natCast_zero, Int.add_zero, ← Int.add_assoc]
theorem mt_Filter : MtM TFilter laws_markFilter := by
  intro a h k h1 h2
  rw [ce_Filter] at h2
  simp (disch := omega) only [laws_markFilter, bindO_some, mk_IntS.top _ h.2.2]
  rw [me_Filter, ce_Filter]
  refine congrArg some (Prod.ext (by simp only; omega) ?_)
  first | rfl | simp only [mkT_pair, mkT_int, mkT_bool, mkT_str, cntT_pair, cntT_int, cntT_bool, cntT_str, Int.natCast_add, Int.natCast_zero, Int.add_zero, ← Int.add_assoc]
def st_RuleS : List (Stp Rule) := [.fl fun y k => (k, y.2),
  .fl fun y k => (y.1, k, y.2.2),
  .fl fun y k => (y.1, y.2.1, k, y.2.2.2),
  .fl fun y k => (y.1, y.2.1, y.2.2.1, k, y.2.2.2.2),
  .fl fun y k => (y.1, y.2.1, y.2.2.1, y.2.2.2.1, k, y.2.2.2.2.2),
  .fl fun y k => (y.1, y.2.1, y.2.2.1, y.2.2.2.1, y.2.2.2.2.1, k, y.2.2.2.2.2.2),
  .fl fun y k => (y.1, y.2.1, y.2.2.1, y.2.2.2.1, y.2.2.2.2.1, y.2.2.2.2.2.1, k, y.2.2.2.2.2.2.2),
  .fl fun y k => (y.1, y.2.1, y.2.2.1, y.2.2.2.1, y.2.2.2.2.1, y.2.2.2.2.2.1, y.2.2.2.2.2.2.1, k, y.2.2.2.2.2.2.2.2),
  .fl fun y k => (y.1, y.2.1, y.2.2.1, y.2.2.2.1, y.2.2.2.2.1, y.2.2.2.2.2.1, y.2.2.2.2.2.2.1, y.2.2.2.2.2.2.2.1, k)]
theorem se_RuleS {R : Type} (k0 : List Rule → Int → Int → List Rule → Option R) (l : List Rule) (k i : Int) (nx : List Rule × Int × Int × List Rule → Option R) : laws_markRuleS_T2 k0 nx (l, k, i, l) = cond (decide (i < (l.length : Int))) (runS laws_markText i st_RuleS l k (fun L k' => nx (L, k', IntKind.wrap .i64 (i + 1), L))) (k0 l k i l) := by kernel_rfl
theorem mk_RuleS : MkM (.sl TRule) laws_markRuleS := by
  refine mkM_of (e := TRule) (T := laws_markRuleS_T2 (fun _ y _ z => some (y, z))) (fun l i hi k nx h1 h2 h3 hx => ?_) (fun l k nx => ?_)
  · have hc : cnt TRule l[i] = 9 := rfl
    have hst : st_RuleS.length = 9 := rfl
    have hl : l = l.set i l[i] := (List.set_getElem_self hi).symm
    have hm : finS txt st_RuleS l[i] k = mk TRule l[i] k := by
      simp only [st_RuleS, finS, mk_pair, mk_int, mk_bool, mk_str, cnt_pair, cnt_int, cnt_bool, cnt_str, Int.natCast_add, Int.natCast_one, ← Int.add_assoc]
    rw [se_RuleS, decide_eq_true (by omega), cond_true]
    conv => lhs; rw [hl]
    rw [runS_ok (g := txt) txt_eq hi _ st_RuleS l[i] k h1 (by omega), hm, hst, hc, wrap64 (by omega) (by omega)]
  · rw [se_RuleS, decide_eq_false (by omega)]; rfl
def st_SlotS : List (Stp Slot) := [.fl fun y k => (k, y.2),
  .fl fun y k => (y.1, (k, y.2.1.2), y.2.2),
  .fl fun y k => (y.1, (y.2.1.1, k, y.2.1.2.2), y.2.2),
  .fl fun y k => (y.1, (y.2.1.1, y.2.1.2.1, k, y.2.1.2.2.2), y.2.2),
  .fl fun y k => (y.1, (y.2.1.1, y.2.1.2.1, y.2.1.2.2.1, k, y.2.1.2.2.2.2), y.2.2),
  .fl fun y k => (y.1, (y.2.1.1, y.2.1.2.1, y.2.1.2.2.1, y.2.1.2.2.2.1, k), y.2.2),
  .fl fun y k => (y.1, y.2.1, k)]
theorem se_SlotS {R : Type} (k0 : List Slot → Int → Int → List Slot → Option R) (l : List Slot) (k i : Int) (nx : List Slot × Int × Int × List Slot → Option R) : laws_markSlotS_T2 k0 nx (l, k, i, l) = cond (decide (i < (l.length : Int))) (runS laws_markText i st_SlotS l k (fun L k' => nx (L, k', IntKind.wrap .i64 (i + 1), L))) (k0 l k i l) := by kernel_rfl
theorem mk_SlotS : MkM (.sl TSlot) laws_markSlotS := by
  refine mkM_of (e := TSlot) (T := laws_markSlotS_T2 (fun _ y _ z => some (y, z))) (fun l i hi k nx h1 h2 h3 hx => ?_) (fun l k nx => ?_)
  · have hc : cnt TSlot l[i] = 7 := rfl
    have hst : st_SlotS.length = 7 := rfl
    have hl : l = l.set i l[i] := (List.set_getElem_self hi).symm
    have hm : finS txt st_SlotS l[i] k = mk TSlot l[i] k := by
      simp only [st_SlotS, finS, mk_pair, mk_int, mk_bool, mk_str, cnt_pair, cnt_int, cnt_bool, cnt_str, Int.natCast_add, Int.natCast_one, ← Int.add_assoc]
    rw [se_SlotS, decide_eq_true (by omega), cond_true]
    conv => lhs; rw [hl]
    rw [runS_ok (g := txt) txt_eq hi _ st_SlotS l[i] k h1 (by omega), hm, hst, hc, wrap64 (by omega) (by omega)]
  · rw [se_SlotS, decide_eq_false (by omega)]; rfl
theorem mt_FlowTable : MtM (.sl TSlot) laws_markFlowTable := by
  intro a h k h1 h2
  simp (disch := omega) only [laws_markFlowTable, bindO_some, mk_SlotS.top a h]
theorem ce_Spread (a : Spread) : cntT TSpread a = 0 + (cntT (.sl (.int .i64)) a.2) := rfl
theorem me_Spread (a : Spread) (k : Int) : mkT TSpread a k = (a.1, mkT (.sl (.int .i64)) a.2 (k)) := by
  simp only [mkT_pair, mkT_int, mkT_bool, mkT_str, cntT_pair, cntT_int, cntT_bool, cntT_str, Int.natCast_add, Int.natCast_zero, Int.add_zero, ← Int.add_assoc]
theorem mt_Spread : MtM TSpread laws_markSpread := by
  intro a h k h1 h2
  rw [ce_Spread] at h2
  simp (disch := omega) only [laws_markSpread, bindO_some, mk_IntS.top _ h.2]
  rw [me_Spread, ce_Spread]
  refine congrArg some (Prod.ext (by simp only; omega) ?_)
  first | rfl | simp only [mkT_pair, mkT_int, mkT_bool, mkT_str, cntT_pair, cntT_int, cntT_bool, cntT_str, Int.natCast_add, Int.natCast_zero, Int.add_zero, ← Int.add_assoc]
theorem ce_Steering (a : Steering) : cntT TSteering a = cntT (.sl TRule) a.1 + (cntT (.sl TSlot) a.2.1 + (cntT TSpread a.2.2)) := rfl
theorem me_Steering (a : Steering) (k : Int) : mkT TSteering a k = (mkT (.sl TRule) a.1 (k), mkT (.sl TSlot) a.2.1 (k + ((cntT (.sl TRule) a.1 : Nat) : Int)), mkT TSpread a.2.2 (k + ((cntT (.sl TRule) a.1 : Nat) : Int) + ((cntT (.sl TSlot) a.2.1 : Nat) : Int))) := by
  simp only [mkT_pair, mkT_int, mkT_bool, mkT_str, cntT_pair, cntT_int, cntT_bool, cntT_str, Int.natCast_add, Int.natCast_zero, Int.add_zero, ← Int.add_assoc]
theorem mt_Steering : MtM TSteering laws_markSteering := by
  intro a h k h1 h2
  rw [ce_Steering] at h2
  simp (disch := omega) only [laws_markSteering, bindO_some, mk_RuleS.top _ h.1, mt_FlowTable _ h.2.1, mt_Spread _ h.2.2]
  rw [me_Steering, ce_Steering]
  refine congrArg some (Prod.ext (by simp only; omega) ?_)
  first | rfl | simp only [mkT_pair, mkT_int, mkT_bool, mkT_str, cntT_pair, cntT_int, cntT_bool, cntT_str, Int.natCast_add, Int.natCast_zero, Int.add_zero, ← Int.add_assoc]
def st_StreamS : List (Stp Stream) := [.fl fun y k => ((k, y.1.2), y.2),
  .fl fun y k => ((y.1.1, k, y.1.2.2), y.2),
  .fl fun y k => ((y.1.1, y.1.2.1, k, y.1.2.2.2), y.2),
  .fl fun y k => ((y.1.1, y.1.2.1, y.1.2.2.1, k, y.1.2.2.2.2), y.2),
  .fl fun y k => ((y.1.1, y.1.2.1, y.1.2.2.1, y.1.2.2.2.1, k), y.2),
  .fl fun y k => (y.1, k, y.2.2),
  .tx fun y k => (y.1, y.2.1, k, y.2.2.2),
  .fl fun y k => (y.1, y.2.1, y.2.2.1, (Int.tmod k 3) == 0)]
theorem se_StreamS {R : Type} (k0 : List Stream → Int → Int → List Stream → Option R) (l : List Stream) (k i : Int) (nx : List Stream × Int × Int × List Stream → Option R) : laws_markStreamS_T2 k0 nx (l, k, i, l) = cond (decide (i < (l.length : Int))) (runS laws_markText i st_StreamS l k (fun L k' => nx (L, k', IntKind.wrap .i64 (i + 1), L))) (k0 l k i l) := by kernel_rfl
theorem mk_StreamS : MkM (.sl TStream) laws_markStreamS := by
  refine mkM_of (e := TStream) (T := laws_markStreamS_T2 (fun _ y _ z => some (y, z))) (fun l i hi k nx h1 h2 h3 hx => ?_) (fun l k nx => ?_)
  · have hc : cnt TStream l[i] = 8 := rfl
    have hst : st_StreamS.length = 8 := rfl
    have hl : l = l.set i l[i] := (List.set_getElem_self hi).symm
    have hm : finS txt st_StreamS l[i] k = mk TStream l[i] k := by
      simp only [st_StreamS, finS, mk_pair, mk_int, mk_bool, mk_str, cnt_pair, cnt_int, cnt_bool, cnt_str, Int.natCast_add, Int.natCast_one, ← Int.add_assoc]
    rw [se_StreamS, decide_eq_true (by omega), cond_true]
    conv => lhs; rw [hl]
    rw [runS_ok (g := txt) txt_eq hi _ st_StreamS l[i] k h1 (by omega), hm, hst, hc, wrap64 (by omega) (by omega)]
  · rw [se_StreamS, decide_eq_false (by omega)]; rfl
theorem ce_Host (a : Host) : cntT THost a = cntT (.sl .str) a.1 + (cntT (.sl TMapping) a.2.1 + (cntT TTxQueue a.2.2.1 + (cntT (.sl TRxQueue) a.2.2.2.1 + (cntT (.sl TPool) a.2.2.2.2.1 + (cntT (.sl TVector) a.2.2.2.2.2.1 + (cntT (.sl .bool) a.2.2.2.2.2.2.1 + (cntT TFilter a.2.2.2.2.2.2.2.1 + (cntT TSteering a.2.2.2.2.2.2.2.2.1 + (cntT (.sl TStream) a.2.2.2.2.2.2.2.2.2.1 + (0 + (cntT (.sl .str) a.2.2.2.2.2.2.2.2.2.2.2.1 + (cntT (.sl (.int .i64)) a.2.2.2.2.2.2.2.2.2.2.2.2.1 + (cntT (.sl (.int .i64)) a.2.2.2.2.2.2.2.2.2.2.2.2.2.1 + ((0 + (0 + (0 + (0 + 0)))))))))))))))))) := rfl
theorem me_Host (a : Host) (k : Int) : mkT THost a k = (mkT (.sl .str) a.1 (k), mkT (.sl TMapping) a.2.1 (k + ((cntT (.sl .str) a.1 : Nat) : Int)), mkT TTxQueue a.2.2.1 (k + ((cntT (.sl .str) a.1 : Nat) : Int) + ((cntT (.sl TMapping) a.2.1 : Nat) : Int)), mkT (.sl TRxQueue) a.2.2.2.1 (k + ((cntT (.sl .str) a.1 : Nat) : Int) + ((cntT (.sl TMapping) a.2.1 : Nat) : Int) + ((cntT TTxQueue a.2.2.1 : Nat) : Int)), mkT (.sl TPool) a.2.2.2.2.1 (k + ((cntT (.sl .str) a.1 : Nat) : Int) + ((cntT (.sl TMapping) a.2.1 : Nat) : Int) + ((cntT TTxQueue a.2.2.1 : Nat) : Int) + ((cntT (.sl TRxQueue) a.2.2.2.1 : Nat) : Int)), mkT (.sl TVector) a.2.2.2.2.2.1 (k + ((cntT (.sl .str) a.1 : Nat) : Int) + ((cntT (.sl TMapping) a.2.1 : Nat) : Int) + ((cntT TTxQueue a.2.2.1 : Nat) : Int) + ((cntT (.sl TRxQueue) a.2.2.2.1 : Nat) : Int) + ((cntT (.sl TPool) a.2.2.2.2.1 : Nat) : Int)), mkT (.sl .bool) a.2.2.2.2.2.2.1 (k + ((cntT (.sl .str) a.1 : Nat) : Int) + ((cntT (.sl TMapping) a.2.1 : Nat) : Int) + ((cntT TTxQueue a.2.2.1 : Nat) : Int) + ((cntT (.sl TRxQueue) a.2.2.2.1 : Nat) : Int) + ((cntT (.sl TPool) a.2.2.2.2.1 : Nat) : Int) + ((cntT (.sl TVector) a.2.2.2.2.2.1 : Nat) : Int)), mkT TFilter a.2.2.2.2.2.2.2.1 (k + ((cntT (.sl .str) a.1 : Nat) : Int) + ((cntT (.sl TMapping) a.2.1 : Nat) : Int) + ((cntT TTxQueue a.2.2.1 : Nat) : Int) + ((cntT (.sl TRxQueue) a.2.2.2.1 : Nat) : Int) + ((cntT (.sl TPool) a.2.2.2.2.1 : Nat) : Int) + ((cntT (.sl TVector) a.2.2.2.2.2.1 : Nat) : Int) + ((cntT (.sl .bool) a.2.2.2.2.2.2.1 : Nat) : Int)), mkT TSteering a.2.2.2.2.2.2.2.2.1 (k + ((cntT (.sl .str) a.1 : Nat) : Int) + ((cntT (.sl TMapping) a.2.1 : Nat) : Int) + ((cntT TTxQueue a.2.2.1 : Nat) : Int) + ((cntT (.sl TRxQueue) a.2.2.2.1 : Nat) : Int) + ((cntT (.sl TPool) a.2.2.2.2.1 : Nat) : Int) + ((cntT (.sl TVector) a.2.2.2.2.2.1 : Nat) : Int) + ((cntT (.sl .bool) a.2.2.2.2.2.2.1 : Nat) : Int) + ((cntT TFilter a.2.2.2.2.2.2.2.1 : Nat) : Int)), mkT (.sl TStream) a.2.2.2.2.2.2.2.2.2.1 (k + ((cntT (.sl .str) a.1 : Nat) : Int) + ((cntT (.sl TMapping) a.2.1 : Nat) : Int) + ((cntT TTxQueue a.2.2.1 : Nat) : Int) + ((cntT (.sl TRxQueue) a.2.2.2.1 : Nat) : Int) + ((cntT (.sl TPool) a.2.2.2.2.1 : Nat) : Int) + ((cntT (.sl TVector) a.2.2.2.2.2.1 : Nat) : Int) + ((cntT (.sl .bool) a.2.2.2.2.2.2.1 : Nat) : Int) + ((cntT TFilter a.2.2.2.2.2.2.2.1 : Nat) : Int) + ((cntT TSteering a.2.2.2.2.2.2.2.2.1 : Nat) : Int)), a.2.2.2.2.2.2.2.2.2.2.1, mkT (.sl .str) a.2.2.2.2.2.2.2.2.2.2.2.1 (k + ((cntT (.sl .str) a.1 : Nat) : Int) + ((cntT (.sl TMapping) a.2.1 : Nat) : Int) + ((cntT TTxQueue a.2.2.1 : Nat) : Int) + ((cntT (.sl TRxQueue) a.2.2.2.1 : Nat) : Int) + ((cntT (.sl TPool) a.2.2.2.2.1 : Nat) : Int) + ((cntT (.sl TVector) a.2.2.2.2.2.1 : Nat) : Int) + ((cntT (.sl .bool) a.2.2.2.2.2.2.1 : Nat) : Int) + ((cntT TFilter a.2.2.2.2.2.2.2.1 : Nat) : Int) + ((cntT TSteering a.2.2.2.2.2.2.2.2.1 : Nat) : Int) + ((cntT (.sl TStream) a.2.2.2.2.2.2.2.2.2.1 : Nat) : Int)), mkT (.sl (.int .i64)) a.2.2.2.2.2.2.2.2.2.2.2.2.1 (k + ((cntT (.sl .str) a.1 : Nat) : Int) + ((cntT (.sl TMapping) a.2.1 : Nat) : Int) + ((cntT TTxQueue a.2.2.1 : Nat) : Int) + ((cntT (.sl TRxQueue) a.2.2.2.1 : Nat) : Int) + ((cntT (.sl TPool) a.2.2.2.2.1 : Nat) : Int) + ((cntT (.sl TVector) a.2.2.2.2.2.1 : Nat) : Int) + ((cntT (.sl .bool) a.2.2.2.2.2.2.1 : Nat) : Int) + ((cntT TFilter a.2.2.2.2.2.2.2.1 : Nat) : Int) + ((cntT TSteering a.2.2.2.2.2.2.2.2.1 : Nat) : Int) + ((cntT (.sl TStream) a.2.2.2.2.2.2.2.2.2.1 : Nat) : Int) + ((cntT (.sl .str) a.2.2.2.2.2.2.2.2.2.2.2.1 : Nat) : Int)), mkT (.sl (.int .i64)) a.2.2.2.2.2.2.2.2.2.2.2.2.2.1 (k + ((cntT (.sl .str) a.1 : Nat) : Int) + ((cntT (.sl TMapping) a.2.1 : Nat) : Int) + ((cntT TTxQueue a.2.2.1 : Nat) : Int) + ((cntT (.sl TRxQueue) a.2.2.2.1 : Nat) : Int) + ((cntT (.sl TPool) a.2.2.2.2.1 : Nat) : Int) + ((cntT (.sl TVector) a.2.2.2.2.2.1 : Nat) : Int) + ((cntT (.sl .bool) a.2.2.2.2.2.2.1 : Nat) : Int) + ((cntT TFilter a.2.2.2.2.2.2.2.1 : Nat) : Int) + ((cntT TSteering a.2.2.2.2.2.2.2.2.1 : Nat) : Int) + ((cntT (.sl TStream) a.2.2.2.2.2.2.2.2.2.1 : Nat) : Int) + ((cntT (.sl .str) a.2.2.2.2.2.2.2.2.2.2.2.1 : Nat) : Int) + ((cntT (.sl (.int .i64)) a.2.2.2.2.2.2.2.2.2.2.2.2.1 : Nat) : Int)), a.2.2.2.2.2.2.2.2.2.2.2.2.2.2) := by
  simp only [mkT_pair, mkT_int, mkT_bool, mkT_str, cntT_pair, cntT_int, cntT_bool, cntT_str, Int.natCast_add, Int.natCast_zero, Int.add_zero, ← Int.add_assoc]
theorem mt_Host : MtM THost laws_markHost := by
  intro a h k h1 h2
  rw [ce_Host] at h2
  simp (disch := omega) only [laws_markHost, bindO_some, mt_Memory _ h.1, mk_StringS.top _ h.1, mk_MappingS.top _ h.2.1, mt_TxQueue _ h.2.2.1, mk_RxQueueS.top _ h.2.2.2.1, mk_PoolS.top _ h.2.2.2.2.1, mk_VectorS.top _ h.2.2.2.2.2.1, mk_BoolS.top _ h.2.2.2.2.2.2.1, mt_Filter _ h.2.2.2.2.2.2.2.1, mt_Steering _ h.2.2.2.2.2.2.2.2.1, mk_StreamS.top _ h.2.2.2.2.2.2.2.2.2.1, mt_Memory _ h.2.2.2.2.2.2.2.2.2.2.2.1, mk_StringS.top _ h.2.2.2.2.2.2.2.2.2.2.2.1, mk_IntS.top _ h.2.2.2.2.2.2.2.2.2.2.2.2.1, mk_IntS.top _ h.2.2.2.2.2.2.2.2.2.2.2.2.2.1]
  rw [me_Host, ce_Host]
  refine congrArg some (Prod.ext (by simp only; omega) ?_)
  first | rfl | simp only [mkT_pair, mkT_int, mkT_bool, mkT_str, cntT_pair, cntT_int, cntT_bool, cntT_str, Int.natCast_add, Int.natCast_zero, Int.add_zero, ← Int.add_assoc]
theorem hd_StringS : MkH (.sl .str) laws_heldStringS := by
  refine mkH_of (e := .str) (H := fun v => laws_heldStringS_T2 (fun y _ => some y) (fun _ y _ => some y) v 0) (fun l i hi x k nx hm h1 h2 h3 hx => ?_) (fun l k nx => ?_)
  · try simp only [cnt_pair, cnt_int, cnt_bool, cnt_str, Int.natCast_add, Int.natCast_one, ← Int.add_assoc] at h2
    try simp only [mk_pair, mk_int, mk_bool, mk_str, cnt_pair, cnt_int, cnt_bool, cnt_str, Int.natCast_add, Int.natCast_one, ← Int.add_assoc] at hm
    simp only [laws_heldStringS_T2]
    rw [decide_eq_true (by omega)]
    simp (disch := omega) only [cond_true, idx_lt hi, hm, bindO_some, bne_self_eq_false, beq_self_eq_true, Bool.not_true, cond_false, wrap64, if_neg, ne3, dec_neg, txt_eq]
    try simp only [cnt_pair, cnt_int, cnt_bool, cnt_str, Int.natCast_add, Int.natCast_one, ← Int.add_assoc]
  · simp only [laws_heldStringS_T2]
    rw [decide_eq_false (by omega)]; rfl
theorem ht_Memory : MtH (.sl .str) laws_heldMemory := by
  intro a h k h1 h2
  simp (disch := omega) only [laws_heldMemory, bindO_some, hd_StringS.top a h, dec_neg, cond_false]
def ch_MappingS : List (Chk Mapping) := [.fl fun x k => x.1 != k,
  .fl fun x k => x.2.1 != k,
  .fl fun x k => x.2.2.1 != k,
  .fl fun x k => !(x.2.2.2 == ((Int.tmod k 3) == 0))]
theorem he_MappingS {R : Type} (k0 : Int → Int → Option R) (k1 : Int → Int → Int → Option R) (l : List Mapping) (v4 : Int) (k i : Int) (nx : Int × Int → Option R) : laws_heldMappingS_T2 k0 k1 l v4 nx (k, i) = cond (decide (i < (l.length : Int))) (runH laws_markText i l (fun k => k1 k (-1) i) (fun k' => nx (k', IntKind.wrap .i64 (i + 1))) ch_MappingS k) (k0 k i) := by kernel_rfl
theorem hd_MappingS : MkH (.sl TMapping) laws_heldMappingS := by
  refine mkH_of (e := TMapping) (H := fun v => laws_heldMappingS_T2 (fun y _ => some y) (fun _ y _ => some y) v 0) (fun l i hi x k nx hm h1 h2 h3 hx => ?_) (fun l k nx => ?_)
  · have hc : cnt TMapping x = 4 := rfl
    have hst : ch_MappingS.length = 4 := rfl
    have ho : okH txt l[i] ch_MappingS k := by
      rw [hm]
      simp only [ch_MappingS, okH, mk_pair, mk_int, mk_bool, mk_str, cnt_pair, cnt_int, cnt_bool, cnt_str, Int.natCast_add, Int.natCast_one, ← Int.add_assoc, bne_self_eq_false, beq_self_eq_true, Bool.not_true, and_self]
    rw [he_MappingS, decide_eq_true (by omega), cond_true, runH_ok (g := txt) txt_eq hi _ _ ch_MappingS k h1 (by omega) ho, hst, hc, wrap64 (by omega) (by omega)]
  · rw [he_MappingS, decide_eq_false (by omega)]; rfl
theorem hd_IntS : MkH (.sl (.int .i64)) laws_heldIntS := by
  refine mkH_of (e := (.int .i64)) (H := fun v => laws_heldIntS_T2 (fun y _ => some y) (fun _ y _ => some y) v 0) (fun l i hi x k nx hm h1 h2 h3 hx => ?_) (fun l k nx => ?_)
  · try simp only [cnt_pair, cnt_int, cnt_bool, cnt_str, Int.natCast_add, Int.natCast_one, ← Int.add_assoc] at h2
    try simp only [mk_pair, mk_int, mk_bool, mk_str, cnt_pair, cnt_int, cnt_bool, cnt_str, Int.natCast_add, Int.natCast_one, ← Int.add_assoc] at hm
    simp only [laws_heldIntS_T2]
    rw [decide_eq_true (by omega)]
    simp (disch := omega) only [cond_true, idx_lt hi, hm, bindO_some, bne_self_eq_false, beq_self_eq_true, Bool.not_true, cond_false, wrap64, if_neg, ne3, dec_neg, txt_eq]
    try simp only [cnt_pair, cnt_int, cnt_bool, cnt_str, Int.natCast_add, Int.natCast_one, ← Int.add_assoc]
  · simp only [laws_heldIntS_T2]
    rw [decide_eq_false (by omega)]; rfl
theorem ht_Pool : MtH TPool laws_heldPool := by
  intro a h k h1 h2
  rw [ce_Pool] at h2
  rw [me_Pool]
  simp (disch := omega) only [laws_heldPool, bindO_some, hd_IntS.top _ h.2.2.2, dec_neg, cond_false]
  rw [ce_Pool]
  refine congrArg some (by omega)
theorem hd_SentS : MkH (.sl TSent) laws_heldSentS := by
  refine mkH_of (e := TSent) (H := fun v => laws_heldSentS_T2 (fun y _ => some y) (fun _ y _ => some y) v 0) (fun l i hi x k nx hm h1 h2 h3 hx => ?_) (fun l k nx => ?_)
  · try simp only [cnt_pair, cnt_int, cnt_bool, cnt_str, Int.natCast_add, Int.natCast_one, ← Int.add_assoc] at h2
    try simp only [mk_pair, mk_int, mk_bool, mk_str, cnt_pair, cnt_int, cnt_bool, cnt_str, Int.natCast_add, Int.natCast_one, ← Int.add_assoc] at hm
    simp only [laws_heldSentS_T2]
    rw [decide_eq_true (by omega)]
    simp (disch := omega) only [cond_true, idx_lt hi, hm, bindO_some, bne_self_eq_false, beq_self_eq_true, Bool.not_true, cond_false, wrap64, if_neg, ne3, dec_neg, txt_eq, hd_IntS _ hx.2.2]
    try simp only [cnt_pair, cnt_int, cnt_bool, cnt_str, Int.natCast_add, Int.natCast_one, ← Int.add_assoc]
  · simp only [laws_heldSentS_T2]
    rw [decide_eq_false (by omega)]; rfl
theorem ht_TxQueue : MtH TTxQueue laws_heldTxQueue := by
  intro a h k h1 h2
  rw [ce_TxQueue] at h2
  rw [me_TxQueue]
  simp (disch := omega) only [laws_heldTxQueue, bindO_some, ht_Pool _ h.2.1, hd_SentS.top _ h.2.2.1, dec_neg, cond_false]
  rw [ce_TxQueue]
  refine congrArg some (by omega)
def ch_RxQueueS : List (Chk RxQueue) := [.fl fun x k => x.1.1 != k,
  .fl fun x k => x.1.2.1 != k,
  .fl fun x k => x.1.2.2.1 != k,
  .fl fun x k => x.1.2.2.2 != k,
  .fl fun x k => x.2.1.1 != k,
  .fl fun x k => x.2.1.2.1 != k,
  .fl fun x k => x.2.1.2.2 != k,
  .fl fun x k => x.2.2.1.1 != k,
  .fl fun x k => x.2.2.1.2.1 != k,
  .fl fun x k => x.2.2.1.2.2 != k,
  .fl fun x k => x.2.2.2.1.1.1 != k,
  .fl fun x k => x.2.2.2.1.1.2.1 != k,
  .fl fun x k => x.2.2.2.1.1.2.2.1 != k,
  .fl fun x k => x.2.2.2.1.1.2.2.2.1 != k,
  .fl fun x k => x.2.2.2.1.1.2.2.2.2.1 != k,
  .fl fun x k => x.2.2.2.1.1.2.2.2.2.2.1 != k,
  .fl fun x k => x.2.2.2.1.1.2.2.2.2.2.2.1 != k,
  .fl fun x k => x.2.2.2.1.1.2.2.2.2.2.2.2.1 != k,
  .fl fun x k => x.2.2.2.1.1.2.2.2.2.2.2.2.2.1 != k,
  .fl fun x k => x.2.2.2.1.1.2.2.2.2.2.2.2.2.2.1 != k,
  .fl fun x k => x.2.2.2.1.1.2.2.2.2.2.2.2.2.2.2.1 != k,
  .fl fun x k => x.2.2.2.1.1.2.2.2.2.2.2.2.2.2.2.2.1 != k,
  .fl fun x k => x.2.2.2.1.1.2.2.2.2.2.2.2.2.2.2.2.2.1 != k,
  .fl fun x k => x.2.2.2.1.1.2.2.2.2.2.2.2.2.2.2.2.2.2.1 != k,
  .fl fun x k => x.2.2.2.1.1.2.2.2.2.2.2.2.2.2.2.2.2.2.2.1 != k,
  .tx fun x t => !(x.2.2.2.1.1.2.2.2.2.2.2.2.2.2.2.2.2.2.2.2 == t),
  .fl fun x k => x.2.2.2.1.2.1 != k,
  .fl fun x k => x.2.2.2.1.2.2 != k,
  .fl fun x k => !(x.2.2.2.2.1 == ((Int.tmod k 3) == 0)),
  .fl fun x k => x.2.2.2.2.2 != k]
theorem he_RxQueueS {R : Type} (k0 : Int → Int → Option R) (k1 : Int → Int → Int → Option R) (l : List RxQueue) (v4 : Int) (k i : Int) (nx : Int × Int → Option R) : laws_heldRxQueueS_T2 k0 k1 l v4 nx (k, i) = cond (decide (i < (l.length : Int))) (runH laws_markText i l (fun k => k1 k (-1) i) (fun k' => nx (k', IntKind.wrap .i64 (i + 1))) ch_RxQueueS k) (k0 k i) := by kernel_rfl
theorem hd_RxQueueS : MkH (.sl TRxQueue) laws_heldRxQueueS := by
  refine mkH_of (e := TRxQueue) (H := fun v => laws_heldRxQueueS_T2 (fun y _ => some y) (fun _ y _ => some y) v 0) (fun l i hi x k nx hm h1 h2 h3 hx => ?_) (fun l k nx => ?_)
  · have hc : cnt TRxQueue x = 30 := rfl
    have hst : ch_RxQueueS.length = 30 := rfl
    have ho : okH txt l[i] ch_RxQueueS k := by
      rw [hm]
      simp only [ch_RxQueueS, okH, mk_pair, mk_int, mk_bool, mk_str, cnt_pair, cnt_int, cnt_bool, cnt_str, Int.natCast_add, Int.natCast_one, ← Int.add_assoc, bne_self_eq_false, beq_self_eq_true, Bool.not_true, and_self]
    rw [he_RxQueueS, decide_eq_true (by omega), cond_true, runH_ok (g := txt) txt_eq hi _ _ ch_RxQueueS k h1 (by omega) ho, hst, hc, wrap64 (by omega) (by omega)]
  · rw [he_RxQueueS, decide_eq_false (by omega)]; rfl
theorem hd_PoolS : MkH (.sl TPool) laws_heldPoolS := by
  refine mkH_of (e := TPool) (H := fun v => laws_heldPoolS_T2 (fun y _ => some y) (fun _ y _ => some y) v 0) (fun l i hi x k nx hm h1 h2 h3 hx => ?_) (fun l k nx => ?_)
  · try simp only [cnt_pair, cnt_int, cnt_bool, cnt_str, Int.natCast_add, Int.natCast_one, ← Int.add_assoc] at h2
    try simp only [mk_pair, mk_int, mk_bool, mk_str, cnt_pair, cnt_int, cnt_bool, cnt_str, Int.natCast_add, Int.natCast_one, ← Int.add_assoc] at hm
    simp only [laws_heldPoolS_T2]
    rw [decide_eq_true (by omega)]
    simp (disch := omega) only [cond_true, idx_lt hi, hm, bindO_some, bne_self_eq_false, beq_self_eq_true, Bool.not_true, cond_false, wrap64, if_neg, ne3, dec_neg, txt_eq, hd_IntS _ hx.2.2.2]
    try simp only [cnt_pair, cnt_int, cnt_bool, cnt_str, Int.natCast_add, Int.natCast_one, ← Int.add_assoc]
  · simp only [laws_heldPoolS_T2]
    rw [decide_eq_false (by omega)]; rfl
def ch_VectorS : List (Chk Vector) := [.fl fun x k => x.1 != k,
  .fl fun x k => x.2.1 != k,
  .fl fun x k => x.2.2.1 != k,
  .fl fun x k => x.2.2.2.1 != k,
  .fl fun x k => !(x.2.2.2.2.1 == ((Int.tmod k 3) == 0)),
  .fl fun x k => !(x.2.2.2.2.2 == ((Int.tmod k 3) == 0))]
theorem he_VectorS {R : Type} (k0 : Int → Int → Option R) (k1 : Int → Int → Int → Option R) (l : List Vector) (v4 : Int) (k i : Int) (nx : Int × Int → Option R) : laws_heldVectorS_T2 k0 k1 l v4 nx (k, i) = cond (decide (i < (l.length : Int))) (runH laws_markText i l (fun k => k1 k (-1) i) (fun k' => nx (k', IntKind.wrap .i64 (i + 1))) ch_VectorS k) (k0 k i) := by kernel_rfl
theorem hd_VectorS : MkH (.sl TVector) laws_heldVectorS := by
  refine mkH_of (e := TVector) (H := fun v => laws_heldVectorS_T2 (fun y _ => some y) (fun _ y _ => some y) v 0) (fun l i hi x k nx hm h1 h2 h3 hx => ?_) (fun l k nx => ?_)
  · have hc : cnt TVector x = 6 := rfl
    have hst : ch_VectorS.length = 6 := rfl
    have ho : okH txt l[i] ch_VectorS k := by
      rw [hm]
      simp only [ch_VectorS, okH, mk_pair, mk_int, mk_bool, mk_str, cnt_pair, cnt_int, cnt_bool, cnt_str, Int.natCast_add, Int.natCast_one, ← Int.add_assoc, bne_self_eq_false, beq_self_eq_true, Bool.not_true, and_self]
    rw [he_VectorS, decide_eq_true (by omega), cond_true, runH_ok (g := txt) txt_eq hi _ _ ch_VectorS k h1 (by omega) ho, hst, hc, wrap64 (by omega) (by omega)]
  · rw [he_VectorS, decide_eq_false (by omega)]; rfl
theorem hd_BoolS : MkH (.sl .bool) laws_heldBoolS := by
  refine mkH_of (e := .bool) (H := fun v => laws_heldBoolS_T2 (fun y _ => some y) (fun _ y _ => some y) v 0) (fun l i hi x k nx hm h1 h2 h3 hx => ?_) (fun l k nx => ?_)
  · try simp only [cnt_pair, cnt_int, cnt_bool, cnt_str, Int.natCast_add, Int.natCast_one, ← Int.add_assoc] at h2
    try simp only [mk_pair, mk_int, mk_bool, mk_str, cnt_pair, cnt_int, cnt_bool, cnt_str, Int.natCast_add, Int.natCast_one, ← Int.add_assoc] at hm
    simp only [laws_heldBoolS_T2]
    rw [decide_eq_true (by omega)]
    simp (disch := omega) only [cond_true, idx_lt hi, hm, bindO_some, bne_self_eq_false, beq_self_eq_true, Bool.not_true, cond_false, wrap64, if_neg, ne3, dec_neg, txt_eq]
    try simp only [cnt_pair, cnt_int, cnt_bool, cnt_str, Int.natCast_add, Int.natCast_one, ← Int.add_assoc]
  · simp only [laws_heldBoolS_T2]
    rw [decide_eq_false (by omega)]; rfl
theorem ht_Filter : MtH TFilter laws_heldFilter := by
  intro a h k h1 h2
  rw [ce_Filter] at h2
  rw [me_Filter]
  simp (disch := omega) only [laws_heldFilter, bindO_some, hd_IntS.top _ h.2.2, dec_neg, cond_false]
  rw [ce_Filter]
  refine congrArg some (by omega)
def ch_RuleS : List (Chk Rule) := [.fl fun x k => x.1 != k,
  .fl fun x k => x.2.1 != k,
  .fl fun x k => x.2.2.1 != k,
  .fl fun x k => x.2.2.2.1 != k,
  .fl fun x k => x.2.2.2.2.1 != k,
  .fl fun x k => x.2.2.2.2.2.1 != k,
  .fl fun x k => x.2.2.2.2.2.2.1 != k,
  .fl fun x k => x.2.2.2.2.2.2.2.1 != k,
  .fl fun x k => x.2.2.2.2.2.2.2.2 != k]
theorem he_RuleS {R : Type} (k0 : Int → Int → Option R) (k1 : Int → Int → Int → Option R) (l : List Rule) (v4 : Int) (k i : Int) (nx : Int × Int → Option R) : laws_heldRuleS_T2 k0 k1 l v4 nx (k, i) = cond (decide (i < (l.length : Int))) (runH laws_markText i l (fun k => k1 k (-1) i) (fun k' => nx (k', IntKind.wrap .i64 (i + 1))) ch_RuleS k) (k0 k i) := by kernel_rfl
theorem hd_RuleS : MkH (.sl TRule) laws_heldRuleS := by
  refine mkH_of (e := TRule) (H := fun v => laws_heldRuleS_T2 (fun y _ => some y) (fun _ y _ => some y) v 0) (fun l i hi x k nx hm h1 h2 h3 hx => ?_) (fun l k nx => ?_)
  · have hc : cnt TRule x = 9 := rfl
    have hst : ch_RuleS.length = 9 := rfl
    have ho : okH txt l[i] ch_RuleS k := by
      rw [hm]
      simp only [ch_RuleS, okH, mk_pair, mk_int, mk_bool, mk_str, cnt_pair, cnt_int, cnt_bool, cnt_str, Int.natCast_add, Int.natCast_one, ← Int.add_assoc, bne_self_eq_false, beq_self_eq_true, Bool.not_true, and_self]
    rw [he_RuleS, decide_eq_true (by omega), cond_true, runH_ok (g := txt) txt_eq hi _ _ ch_RuleS k h1 (by omega) ho, hst, hc, wrap64 (by omega) (by omega)]
  · rw [he_RuleS, decide_eq_false (by omega)]; rfl
def ch_SlotS : List (Chk Slot) := [.fl fun x k => x.1 != k,
  .fl fun x k => x.2.1.1 != k,
  .fl fun x k => x.2.1.2.1 != k,
  .fl fun x k => x.2.1.2.2.1 != k,
  .fl fun x k => x.2.1.2.2.2.1 != k,
  .fl fun x k => x.2.1.2.2.2.2 != k,
  .fl fun x k => x.2.2 != k]
theorem he_SlotS {R : Type} (k0 : Int → Int → Option R) (k1 : Int → Int → Int → Option R) (l : List Slot) (v4 : Int) (k i : Int) (nx : Int × Int → Option R) : laws_heldSlotS_T2 k0 k1 l v4 nx (k, i) = cond (decide (i < (l.length : Int))) (runH laws_markText i l (fun k => k1 k (-1) i) (fun k' => nx (k', IntKind.wrap .i64 (i + 1))) ch_SlotS k) (k0 k i) := by kernel_rfl
theorem hd_SlotS : MkH (.sl TSlot) laws_heldSlotS := by
  refine mkH_of (e := TSlot) (H := fun v => laws_heldSlotS_T2 (fun y _ => some y) (fun _ y _ => some y) v 0) (fun l i hi x k nx hm h1 h2 h3 hx => ?_) (fun l k nx => ?_)
  · have hc : cnt TSlot x = 7 := rfl
    have hst : ch_SlotS.length = 7 := rfl
    have ho : okH txt l[i] ch_SlotS k := by
      rw [hm]
      simp only [ch_SlotS, okH, mk_pair, mk_int, mk_bool, mk_str, cnt_pair, cnt_int, cnt_bool, cnt_str, Int.natCast_add, Int.natCast_one, ← Int.add_assoc, bne_self_eq_false, beq_self_eq_true, Bool.not_true, and_self]
    rw [he_SlotS, decide_eq_true (by omega), cond_true, runH_ok (g := txt) txt_eq hi _ _ ch_SlotS k h1 (by omega) ho, hst, hc, wrap64 (by omega) (by omega)]
  · rw [he_SlotS, decide_eq_false (by omega)]; rfl
theorem ht_FlowTable : MtH (.sl TSlot) laws_heldFlowTable := by
  intro a h k h1 h2
  simp (disch := omega) only [laws_heldFlowTable, bindO_some, hd_SlotS.top a h, dec_neg, cond_false]
theorem ht_Spread : MtH TSpread laws_heldSpread := by
  intro a h k h1 h2
  rw [ce_Spread] at h2
  rw [me_Spread]
  simp (disch := omega) only [laws_heldSpread, bindO_some, hd_IntS.top _ h.2, dec_neg, cond_false]
  rw [ce_Spread]
  refine congrArg some (by omega)
theorem ht_Steering : MtH TSteering laws_heldSteering := by
  intro a h k h1 h2
  rw [ce_Steering] at h2
  rw [me_Steering]
  simp (disch := omega) only [laws_heldSteering, bindO_some, hd_RuleS.top _ h.1, ht_FlowTable _ h.2.1, ht_Spread _ h.2.2, dec_neg, cond_false]
  rw [ce_Steering]
  refine congrArg some (by omega)
def ch_StreamS : List (Chk Stream) := [.fl fun x k => x.1.1 != k,
  .fl fun x k => x.1.2.1 != k,
  .fl fun x k => x.1.2.2.1 != k,
  .fl fun x k => x.1.2.2.2.1 != k,
  .fl fun x k => x.1.2.2.2.2 != k,
  .fl fun x k => x.2.1 != k,
  .tx fun x t => !(x.2.2.1 == t),
  .fl fun x k => !(x.2.2.2 == ((Int.tmod k 3) == 0))]
theorem he_StreamS {R : Type} (k0 : Int → Int → Option R) (k1 : Int → Int → Int → Option R) (l : List Stream) (v4 : Int) (k i : Int) (nx : Int × Int → Option R) : laws_heldStreamS_T2 k0 k1 l v4 nx (k, i) = cond (decide (i < (l.length : Int))) (runH laws_markText i l (fun k => k1 k (-1) i) (fun k' => nx (k', IntKind.wrap .i64 (i + 1))) ch_StreamS k) (k0 k i) := by kernel_rfl
theorem hd_StreamS : MkH (.sl TStream) laws_heldStreamS := by
  refine mkH_of (e := TStream) (H := fun v => laws_heldStreamS_T2 (fun y _ => some y) (fun _ y _ => some y) v 0) (fun l i hi x k nx hm h1 h2 h3 hx => ?_) (fun l k nx => ?_)
  · have hc : cnt TStream x = 8 := rfl
    have hst : ch_StreamS.length = 8 := rfl
    have ho : okH txt l[i] ch_StreamS k := by
      rw [hm]
      simp only [ch_StreamS, okH, mk_pair, mk_int, mk_bool, mk_str, cnt_pair, cnt_int, cnt_bool, cnt_str, Int.natCast_add, Int.natCast_one, ← Int.add_assoc, bne_self_eq_false, beq_self_eq_true, Bool.not_true, and_self]
    rw [he_StreamS, decide_eq_true (by omega), cond_true, runH_ok (g := txt) txt_eq hi _ _ ch_StreamS k h1 (by omega) ho, hst, hc, wrap64 (by omega) (by omega)]
  · rw [he_StreamS, decide_eq_false (by omega)]; rfl
theorem ht_Host : MtH THost laws_heldHost := by
  intro a h k h1 h2
  rw [ce_Host] at h2
  rw [me_Host]
  simp (disch := omega) only [laws_heldHost, bindO_some, ht_Memory _ h.1, hd_StringS.top _ h.1, hd_MappingS.top _ h.2.1, ht_TxQueue _ h.2.2.1, hd_RxQueueS.top _ h.2.2.2.1, hd_PoolS.top _ h.2.2.2.2.1, hd_VectorS.top _ h.2.2.2.2.2.1, hd_BoolS.top _ h.2.2.2.2.2.2.1, ht_Filter _ h.2.2.2.2.2.2.2.1, ht_Steering _ h.2.2.2.2.2.2.2.2.1, hd_StreamS.top _ h.2.2.2.2.2.2.2.2.2.1, ht_Memory _ h.2.2.2.2.2.2.2.2.2.2.2.1, hd_StringS.top _ h.2.2.2.2.2.2.2.2.2.2.2.1, hd_IntS.top _ h.2.2.2.2.2.2.2.2.2.2.2.2.1, hd_IntS.top _ h.2.2.2.2.2.2.2.2.2.2.2.2.2.1, dec_neg, cond_false]
  rw [ce_Host]
  refine congrArg some (by omega)

end Go.Pu
