import Derived.Test.YtclgaiiidllehadGreatPuReceive
/- Packets sent by the ideal end, and its runs. -/
namespace Go.Pu
open Go.Dn
set_option linter.unusedSimpArgs false
set_option linter.unusedVariables false
noncomputable section

def softSendR (s : Soft) (p : Packet) (z : Int) : Soft := bif softB s then (s.1, s.2.1, s.2.2.1, s.2.2.2.1, s.2.2.2.2 ++ sendR p z) else s
theorem specSoftSend (s : Soft) (p : Packet) (z : Int) (h : LenB 100000000 TSoft s) : spec_SoftSend s p z = some (softSendR s p z) := by
  have hl := (sendR_len p z).1
  have hs : s.2.2.2.2.length ≤ 100000000 := h.2.2.2.2.1
  have h' : LenB 1000000000 TSoft s := h.mono (by omega)
  simp only [spec_SoftSend, specCopySoft s h', specSoft s h'.1.2.2.1 h'.2.1.1.1 h'.2.1.2.1.1 h'.2.1.2.2.2.1, specSend, bindO_some, softSendR]
  rw [room_le (by omega)]
  cases softB s <;> rfl
theorem implSoftSend (s : Soft) (p : Packet) (z : Int) (h : LenB 100000000 TSoft s) : impl_SoftSend s p z = some (softSendR s p z) := by
  have hl := (sendR_len p z).1
  have hs : s.2.2.2.2.length ≤ 100000000 := h.2.2.2.2.1
  have h' : LenB 1000000000 TSoft s := h.mono (by omega)
  simp only [impl_SoftSend, implCopySoft s h', implSoft s h'.1.2.2.1 h'.2.1.1.1 h'.2.1.2.1.1 h'.2.1.2.2.2.1, implSend, bindO_some, softSendR]
  rw [room_le (by omega)]
  cases softB s <;> rfl
theorem softSendR_len {s : Soft} {n : Nat} (h : LenB n TSoft s) (p : Packet) (z : Int) (hn : 382 ≤ n) : LenB (n + 320) TSoft (softSendR s p z) := by
  have hl := sendR_len p z
  unfold softSendR
  cases softB s with
  | false => exact h.mono (by omega)
  | true =>
    have h' : LenB (n + 320) TSoft s := h.mono (by omega)
    refine ⟨h'.1, h'.2.1, h'.2.2.1, h'.2.2.2.1, ?_, fun x hx => ?_⟩
    · have : s.2.2.2.2.length ≤ n := h.2.2.2.2.1
      show (s.2.2.2.2 ++ sendR p z).length ≤ _
      rw [List.length_append]; omega
    · rcases List.mem_append.1 hx with hx | hx
      · exact h'.2.2.2.2.2 x hx
      · have := hl.2 x hx
        show x.length ≤ _; omega

-- acts
theorem actOk_same (a : Act) : impl_ActOk a = spec_ActOk a := rfl
theorem actOk_some (a : Act) : ∃ b, spec_ActOk a = some b := by
  simp only [spec_ActOk, spec_l01In, cond_some, bindO_some]
  exact ⟨_, rfl⟩
def actB (a : Act) : Bool := (spec_ActOk a).getD false
theorem specAct (a : Act) : spec_ActOk a = some (actB a) := by
  obtain ⟨b, hb⟩ := actOk_some a
  simp [actB, hb]
theorem implAct (a : Act) : impl_ActOk a = some (actB a) := specAct a

-- runs
def actZ : Act := (0, pk0, 0, 0, ([] : Bytes), 0)
def stepS (v : Int) (a : Act) (s : Soft) : Soft :=
  bif !actB a then s else bif a.1 == 2 then receiveR s a.2.2.2.2.1 else bif (a.1 == 0) && (v == 1) then softSendR s a.2.1 a.2.2.1 else s
theorem stepS_len {v : Int} {a : Act} {s : Soft} {n : Nat} (hn : 382 ≤ n) (h : LenB n TSoft s) : LenB (n + 322) TSoft (stepS v a s) := by
  have h' : LenB (n + 322) TSoft s := h.mono (by omega)
  unfold stepS
  cases actB a with | false => exact h' | true => ?_
  cases a.1 == 2 with | true => exact receiveR_len h | false => ?_
  cases (a.1 == 0) && (v == 1) with | true => exact (softSendR_len h a.2.1 a.2.2.1 hn).mono (by omega) | false => exact h'
def runS (l : List Act) (v : List Int) (s : Soft) : Nat → Soft
  | 0 => s
  | i + 1 => stepS (v.getD i 0) (l.getD i actZ) (runS l v s i)
theorem runS_len {l : List Act} {v : List Int} {s : Soft} {n : Nat} (hn : 382 ≤ n) (h : LenB n TSoft s) : ∀ i, LenB (n + 322 * i) TSoft (runS l v s i)
  | 0 => h
  | i + 1 => (stepS_len (by omega) (runS_len hn h i)).mono (by omega)
def runSoftR (s : Soft) (l : List Act) (v : List Int) : Soft :=
  bif !softB s || (decide ((l.length : Int) > 40) || ((v.length : Int) != (l.length : Int))) then s else runS l v s l.length
theorem runSoftR_len {l : List Act} {v : List Int} {s : Soft} {n : Nat} (hn : 382 ≤ n) (h : LenB n TSoft s) : LenB (n + 12880) TSoft (runSoftR s l v) := by
  unfold runSoftR
  cases hc : !softB s || (decide ((l.length : Int) > 40) || ((v.length : Int) != (l.length : Int))) with
  | true => exact h.mono (by omega)
  | false =>
    simp only [Bool.or_eq_false_iff, decide_eq_false_iff_not] at hc
    exact (runS_len hn h l.length).mono (by omega)
theorem implRunSoft (s : Soft) (l : List Act) (v : List Int) (h : LenB 10000000 TSoft s) (hl : LenB 100000000 (.sl TAct) l) : impl_RunSoft s l v = some (runSoftR s l v) := by
  have z9 : LenB 1000000000 TSoft s := h.mono (by omega)
  unfold impl_RunSoft runSoftR
  simp only [implCopySoft s z9, implSoft s z9.1.2.2.1 z9.2.1.1.1 z9.2.1.2.1.1 z9.2.1.2.2.2.1, bindO_some]
  cases softB s with | false => rfl | true => ?_
  cases h4 : decide ((l.length : Int) > 40) with | true => rfl | false => ?_
  cases hv : (v.length : Int) != (l.length : Int) with | true => rfl | false => ?_
  have h40 : l.length ≤ 40 := by have := of_decide_eq_false h4; omega
  have hvl : v.length = l.length := by simp at hv; omega
  simp only [Bool.not_true, cond_false, bindO_some, Bool.or_self]
  refine walk_iter (fun i => ((i : Int), runS l v s i)) l.length (by omega) (fun i nx hi => ?_) (fun nx => ?_)
  · have hR := (runS_len (l := l) (v := v) (show 382 ≤ 10000000 by omega) h i).mono (show 10000000 + 322 * i ≤ 100000000 by omega)
    have hx : (l[i].2.2.2.2.1).length ≤ 100000000 := (hl.2 _ (List.getElem_mem hi)).2.2.2.2.1
    simp only [impl_RunSoft_T5]
    rw [decide_eq_true (by omega), idx_lt hi, wrap64 (by omega) (by omega)]
    simp only [cond_true, bindO_some, implAct, implReceive _ _ hR (show (l[i].2.2.2.2.1).length ≤ 1000000000 by omega), implSoftSend _ _ _ hR, idx_lt (show i < v.length by omega)]
    rw [runS, getD_lt hi, getD_lt (show i < v.length by omega)]
    unfold stepS
    cases actB l[i] <;> cases l[i].1 == 2 <;> cases l[i].1 == 0 <;> cases v[i] == 1 <;> rfl
  · simp only [impl_RunSoft_T5]
    rw [decide_eq_false (by omega)]; rfl
theorem specRunSoft (s : Soft) (l : List Act) (v : List Int) (h : LenB 10000000 TSoft s) (hl : LenB 100000000 (.sl TAct) l) : spec_RunSoft s l v = some (runSoftR s l v) := by
  have z9 : LenB 1000000000 TSoft s := h.mono (by omega)
  unfold spec_RunSoft runSoftR
  simp only [specCopySoft s z9, specSoft s z9.1.2.2.1 z9.2.1.1.1 z9.2.1.2.1.1 z9.2.1.2.2.2.1, bindO_some]
  cases softB s with | false => rfl | true => ?_
  cases h4 : decide ((l.length : Int) > 40) with | true => rfl | false => ?_
  cases hv : (v.length : Int) != (l.length : Int) with | true => rfl | false => ?_
  have h40 : l.length ≤ 40 := by have := of_decide_eq_false h4; omega
  have hvl : v.length = l.length := by simp at hv; omega
  simp only [Bool.not_true, cond_false, bindO_some, Bool.or_self]
  refine walk_iter (fun i => ((i : Int), runS l v s i)) l.length (by omega) (fun i nx hi => ?_) (fun nx => ?_)
  · have hR := (runS_len (l := l) (v := v) (show 382 ≤ 10000000 by omega) h i).mono (show 10000000 + 322 * i ≤ 100000000 by omega)
    have hx : (l[i].2.2.2.2.1).length ≤ 100000000 := (hl.2 _ (List.getElem_mem hi)).2.2.2.2.1
    simp only [spec_RunSoft_T5]
    rw [decide_eq_true (by omega), idx_lt hi, wrap64 (by omega) (by omega)]
    simp only [cond_true, bindO_some, specAct, specReceive _ _ hR (show (l[i].2.2.2.2.1).length ≤ 1000000000 by omega), specSoftSend _ _ _ hR, idx_lt (show i < v.length by omega)]
    rw [runS, getD_lt hi, getD_lt (show i < v.length by omega)]
    unfold stepS
    cases actB l[i] with | false => rfl | true => ?_
    by_cases h2 : l[i].1 = 2
    · rw [h2]; rfl
    · rw [show (l[i].1 == 2) = false from by simpa using h2]
      cases l[i].1 == 0 <;> cases v[i] == 1 <;> rfl
  · simp only [spec_RunSoft_T5]
    rw [decide_eq_false (by omega)]; rfl

end

end Go.Pu
