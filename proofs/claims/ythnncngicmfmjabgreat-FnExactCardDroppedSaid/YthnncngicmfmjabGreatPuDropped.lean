import Derived.Test.YthnncngicmfmjabGreatPuCodec
/- HostDropped, CardDropped: the program's and the reference's answers are one. -/
namespace Go.Pu
open Go.Dn

def hostDropped (h : Host) : Int := h.2.2.2.1.foldl (fun n q => IntKind.wrap .i64 (n + q.2.2.2.2.2)) 0
theorem specHostDropped (h : Host) (hl : h.2.2.2.1.length ≤ 1000000000) : spec_HostDropped h = some (hostDropped h) := by
  unfold spec_HostDropped hostDropped
  refine fold_iter h.2.2.2.1 (fun (s : Int) i => (s, (i : Int))) (fun n q => IntKind.wrap .i64 (n + q.2.2.2.2.2)) (fun s => some s) (by omega) (fun i hi s nx => ?_) (fun s nx => ?_) 0
  · simp only [spec_HostDropped_T3]
    rw [decide_eq_true (by omega), idx_lt hi, wrap64 (n := (i : Int) + 1) (by omega) (by omega)]; rfl
  · simp only [spec_HostDropped_T3]
    rw [decide_eq_false (by omega)]; rfl
theorem implHostDropped (h : Host) (hl : h.2.2.2.1.length ≤ 1000000000) : impl_HostDropped h = some (hostDropped h) := specHostDropped h hl

def cardDropped (c : Card) : Int := c.1.foldl (fun n h => IntKind.wrap .i64 (n + hostDropped h)) 0
theorem specCardDropped (c : Card) (hl : c.1.length ≤ 1000000000) (hh : ∀ h ∈ c.1, h.2.2.2.1.length ≤ 1000000000) : spec_CardDropped c = some (cardDropped c) := by
  unfold spec_CardDropped cardDropped
  refine fold_iter c.1 (fun (s : Int) i => (s, (i : Int))) (fun n h => IntKind.wrap .i64 (n + hostDropped h)) (fun s => some s) (by omega) (fun i hi s nx => ?_) (fun s nx => ?_) 0
  · simp only [spec_CardDropped_T3]
    rw [decide_eq_true (by omega), idx_lt hi, wrap64 (n := (i : Int) + 1) (by omega) (by omega)]
    simp only [cond_true, bindO_some, specHostDropped _ (hh _ (List.getElem_mem hi))]; rfl
  · simp only [spec_CardDropped_T3]
    rw [decide_eq_false (by omega)]; rfl
theorem implCardDropped (c : Card) (hl : c.1.length ≤ 1000000000) (hh : ∀ h ∈ c.1, h.2.2.2.1.length ≤ 1000000000) : impl_CardDropped c = some (cardDropped c) := specCardDropped c hl hh

end Go.Pu
