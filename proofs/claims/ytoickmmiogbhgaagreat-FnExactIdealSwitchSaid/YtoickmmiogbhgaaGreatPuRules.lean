import Derived.Test.YtoickmmiogbhgaaGreatPuHash
import Derived.Test.YtoickmmiogbhgaaGreatPuHostOk
import Derived.Test.YtoickmmiogbhgaaGreatPuPorts
/- Steering of packets: rules, the table, the spread. -/
namespace Go.Pu
open Go.Dn
set_option linter.unusedSimpArgs false
set_option linter.unusedVariables false
noncomputable section

def acceptsB (f : Filter) (p : Packet) : Bool := filterB f && (((p.1 == f.1) || ((p.1 == 281474976710655) || f.2.1)) && ((p.2.2.1 == -1) || hasB f.2.2 p.2.2.1))
theorem implAccepts (f : Filter) (p : Packet) (h : f.2.2.length ≤ 1000000000) : impl_Accepts f p = some (acceptsB f p) := by
  simp only [impl_Accepts, implFilter f h, implHas f.2.2 _ h, bindO_some, acceptsB]
  cases filterB f <;> cases p.1 == f.1 <;> cases p.1 == 281474976710655 <;> cases f.2.1 <;> cases p.2.2.1 == -1 <;> rfl
theorem specAccepts (f : Filter) (p : Packet) (h : f.2.2.length ≤ 1000000000) : spec_Accepts f p = some (acceptsB f p) := by
  simp only [spec_Accepts, specFilter f h, specHas f.2.2 _ h, bindO_some, acceptsB]
  cases filterB f <;> cases p.1 == f.1 <;> cases p.1 == 281474976710655 <;> cases f.2.1 <;> cases p.2.2.1 == -1 <;> rfl

-- rules
def preB (a b n : Int) : Bool := Int.fdiv a (2 ^ (min (Int.toNat (IntKind.wrap .i64 (32 - n))) (IntKind.bits .i64))) == Int.fdiv b (2 ^ (min (Int.toNat (IntKind.wrap .i64 (32 - n))) (IntKind.bits .i64)))
theorem ruleB_pre {r : Rule} (h : ruleB r = true) : 0 ≤ r.2.2.2.1 ∧ r.2.2.2.1 ≤ 32 := by
  rw [← inB_iff]
  unfold ruleB at h
  simp only [spec_RuleOk, l01In_eq, bindO_some, cond_some] at h
  cases hp : inB r.2.2.2.1 0 32 with
  | true => rfl
  | false =>
    rw [hp] at h
    revert h
    cases inB r.1 0 1000 <;> cases r.2.1 != 0 <;> cases r.2.1 != 6 <;> cases r.2.1 != 17 <;> cases inB r.2.2.1 0 4294967295 <;> simp
def coreB (r : Rule) (p : Packet) : Bool := preB r.2.2.1 p.2.2.2.2.2.2.1 r.2.2.2.1 && (inB p.2.2.2.2.2.2.2.2.2.2.1 r.2.2.2.2.1 r.2.2.2.2.2.1 && ((r.2.2.2.2.2.2.1 == -2) || (r.2.2.2.2.2.2.1 == p.2.2.1)))
def matchB (r : Rule) (p : Packet) : Bool := ruleB r && (superB p && (((r.2.1 == 0) || (r.2.1 == p.2.2.2.2.2.2.2.2.1)) && coreB r p))
theorem implPre (a b n : Int) (h0 : 0 ≤ n) (h1 : n ≤ 32) : impl_samePrefix a b n = some (preB a b n) := by
  unfold impl_samePrefix preB
  rw [if_neg (by rw [wrap64 (n := 32 - n) (by omega) (by omega)]; omega), if_neg (by rw [wrap64 (n := 32 - n) (by omega) (by omega)]; omega)]
theorem implMatch (r : Rule) (p : Packet) : impl_RuleMatches r p = some (matchB r p) := by
  unfold impl_RuleMatches matchB
  rw [implRule, bindO_some]
  cases hr : ruleB r with | false => rfl | true => ?_
  have hp := ruleB_pre hr
  simp only [implSuper, implPre _ _ _ hp.1 hp.2, between_eq, bindO_some, coreB]
  cases superB p <;> cases r.2.1 == 0 <;> cases r.2.1 == p.2.2.2.2.2.2.2.2.1 <;> cases preB r.2.2.1 p.2.2.2.2.2.2.1 r.2.2.2.1 <;> cases inB p.2.2.2.2.2.2.2.2.2.2.1 r.2.2.2.2.1 r.2.2.2.2.2.1 <;> cases r.2.2.2.2.2.2.1 == -2 <;> rfl
theorem specMatch (r : Rule) (p : Packet) : spec_RuleMatches r p = some (matchB r p) := by
  unfold spec_RuleMatches matchB
  rw [specRule, bindO_some]
  cases hr : ruleB r with | false => rfl | true => ?_
  have hp := ruleB_pre hr
  have hw : ¬ IntKind.wrap .i64 (32 - r.2.2.2.1) < 0 := by rw [wrap64 (n := 32 - r.2.2.2.1) (by omega) (by omega)]; omega
  simp only [specSuper, spec_l14Matches, if_neg hw, l01In_eq, bindO_some, coreB]
  rw [show (Int.fdiv r.2.2.1 (2 ^ (min (Int.toNat (IntKind.wrap .i64 (32 - r.2.2.2.1))) (IntKind.bits .i64))) == Int.fdiv p.2.2.2.2.2.2.1 (2 ^ (min (Int.toNat (IntKind.wrap .i64 (32 - r.2.2.2.1))) (IntKind.bits .i64)))) = preB r.2.2.1 p.2.2.2.2.2.2.1 r.2.2.2.1 from rfl]
  cases superB p <;> cases r.2.1 == 0 <;> cases r.2.1 == p.2.2.2.2.2.2.2.2.1 <;> cases preB r.2.2.1 p.2.2.2.2.2.2.1 r.2.2.2.1 <;> cases inB p.2.2.2.2.2.2.2.2.2.2.1 r.2.2.2.2.1 r.2.2.2.2.2.1 <;> cases r.2.2.2.2.2.2.1 == -2 <;> rfl
def ruleZ : Rule := (0, 0, 0, 0, 0, 0, 0, 0, 0)
def bestI (l : List Rule) (p : Packet) : Nat → Int
  | 0 => -1
  | i + 1 => bif matchB (l.getD i ruleZ) p && (decide (bestI l p i < 0) || decide ((l.getD i ruleZ).1 < (l.getD (bestI l p i).toNat ruleZ).1)) then (i : Int) else bestI l p i
theorem bestI_in (l : List Rule) (p : Packet) : ∀ i, bestI l p i = -1 ∨ ∃ n : Nat, bestI l p i = (n : Int) ∧ n < i
  | 0 => .inl rfl
  | i + 1 => by
    rw [bestI]
    cases matchB (l.getD i ruleZ) p && (decide (bestI l p i < 0) || decide ((l.getD i ruleZ).1 < (l.getD (bestI l p i).toNat ruleZ).1)) with
    | true => exact .inr ⟨i, rfl, by omega⟩
    | false =>
      rcases bestI_in l p i with h | ⟨n, h, hn⟩
      · exact .inl h
      · exact .inr ⟨n, h, by omega⟩
theorem best_step {R : Type} (l : List Rule) (p : Packet) (i : Nat) (hi : i < l.length) (nx : Int × Int → Option R) :
    (bindO (cond (matchB l[i] p) (cond (decide (bestI l p i < 0)) (some true) (bindO (idx l (bestI l p i)) fun x4 => some (decide (l[i].1 < x4.1)))) (some false)) fun q5 => cond q5 (nx ((i : Int), ((i + 1 : Nat) : Int))) (nx (bestI l p i, ((i + 1 : Nat) : Int)))) = nx (bestI l p (i + 1), ((i + 1 : Nat) : Int)) := by
  rw [bestI, getD_lt hi]
  cases matchB l[i] p with | false => rfl | true => ?_
  rcases bestI_in l p i with h | ⟨n, h, hn⟩
  · rw [h]; rfl
  · have hl : n < l.length := by omega
    rw [h, decide_eq_false (show ¬ (n : Int) < 0 by omega), idx_lt hl]
    simp only [cond_true, cond_false, bindO_some, Int.toNat_natCast, getD_lt hl, Bool.true_and, Bool.false_or]
    cases decide (l[i].1 < l[n].1) <;> rfl
def findR (l : List Rule) (p : Packet) : Int := bif rulesB l then bestI l p l.length else -1
theorem findR_in (l : List Rule) (p : Packet) (h : findR l p ≥ 0) : ∃ n : Nat, findR l p = (n : Int) ∧ n < l.length := by
  unfold findR at h ⊢
  cases hr : rulesB l with
  | false => rw [hr] at h; simp at h
  | true =>
    rw [hr] at h
    simp only [cond_true] at h ⊢
    rcases bestI_in l p l.length with g | g
    · omega
    · exact g
theorem implFindR (l : List Rule) (p : Packet) (h : l.length ≤ 1000000000) : impl_FindRule l p = some (findR l p) := by
  unfold impl_FindRule findR
  rw [implRules l h, bindO_some]
  cases rulesB l with | false => rfl | true => ?_
  simp only [Bool.not_true, cond_false, cond_true]
  refine walk_iter (fun i => (bestI l p i, (i : Int))) l.length (by omega) (fun i nx hi => ?_) (fun nx => ?_)
  · simp only [impl_FindRule_T5]
    rw [decide_eq_true (by omega), idx_lt hi, wrap64 (n := (i : Int) + 1) (by omega) (by omega)]
    simp only [cond_true, bindO_some, implMatch]
    exact best_step l p i hi nx
  · simp only [impl_FindRule_T5]
    rw [decide_eq_false (by omega)]; rfl
theorem specFindR (l : List Rule) (p : Packet) (h : l.length ≤ 1000000000) : spec_FindRule l p = some (findR l p) := by
  have hfu := fuel_ge
  unfold spec_FindRule findR
  cases hr : rulesB l with
  | false =>
    obtain ⟨f, hf⟩ : ∃ f, fuel = f + 1 := ⟨fuel - 1, by omega⟩
    rw [hf, iterL]
    simp only [spec_FindRule_T3, specRules l h, hr, bindO_some]
    cases decide ((0 : Int) < (l.length : Int)) <;> rfl
  | true =>
    simp only [cond_true]
    refine walk_iter (fun i => (bestI l p i, (i : Int))) l.length (by omega) (fun i nx hi => ?_) (fun nx => ?_)
    · simp only [spec_FindRule_T3, specRules l h, hr]
      rw [decide_eq_true (by omega), idx_lt hi, wrap64 (n := (i : Int) + 1) (by omega) (by omega)]
      simp only [cond_true, bindO_some, specMatch]
      exact best_step l p i hi nx
    · simp only [spec_FindRule_T3]
      rw [decide_eq_false (by omega)]; rfl

-- the queue of a packet
def flowOf (p : Packet) : Int × Int × Int × Int × Int := (p.2.2.2.2.2.2.2.2.1, p.2.2.2.2.2.2.1, p.2.2.2.2.2.2.2.1, p.2.2.2.2.2.2.2.2.2.1, p.2.2.2.2.2.2.2.2.2.2.1)
theorem implFlow (p : Packet) : impl_FlowOf p = some (flowOf p) := rfl
theorem specFlow (p : Packet) : spec_FlowOf p = some (flowOf p) := rfl
def slotZ : Slot := (0, (0, 0, 0, 0, 0), 0)
def steerR (s : Steering) (q : Int) (p : Packet) : Int :=
  bif !steeringB s q || !superB p then -1 else
  bif decide (findR s.1 p ≥ 0) then (bif (s.1.getD (findR s.1 p).toNat ruleZ).2.2.2.2.2.2.2.1 == 1 then -1 else (s.1.getD (findR s.1 p).toNat ruleZ).2.2.2.2.2.2.2.2) else
  bif decide (findF s.2.1 (flowOf p) ≥ 0) then (s.2.1.getD (findF s.2.1 (flowOf p)).toNat slotZ).2.2 else spreadR s.2.2 q (flowOf p)
theorem implSteer (s : Steering) (q : Int) (p : Packet) (h1 : s.1.length ≤ 1000000000) (h2 : s.2.1.length ≤ 1000000000) (h3 : s.2.2.2.length ≤ 1000000000) : impl_SteerPacket s q p = some (steerR s q p) := by
  unfold impl_SteerPacket steerR
  rw [implSteering s q h1 h2 h3, bindO_some, implSuper, bindO_some]
  cases steeringB s q with | false => rfl | true => ?_
  cases superB p with | false => rfl | true => ?_
  simp only [Bool.not_true, cond_false, bindO_some, Bool.or_self, implFindR s.1 p h1, implFlow, implFindFlow s.2.1 _ h2, implSpreadQ s.2.2 q _ h3]
  cases hd : decide (findR s.1 p ≥ 0) with
  | true =>
    obtain ⟨n, hn, hl⟩ := findR_in s.1 p (of_decide_eq_true hd)
    simp only [cond_true, hn, idx_lt hl, bindO_some, Int.toNat_natCast, getD_lt hl]
    cases s.1[n].2.2.2.2.2.2.2.1 == 1 <;> rfl
  | false =>
    simp only [cond_false]
    cases hd2 : decide (findF s.2.1 (flowOf p) ≥ 0) with
    | true =>
      obtain ⟨n, hn, hl⟩ := findF_in s.2.1 (flowOf p) (of_decide_eq_true hd2)
      simp only [cond_true, hn, idx_lt hl, bindO_some, Int.toNat_natCast, getD_lt hl]
    | false => rfl
theorem specSteer (s : Steering) (q : Int) (p : Packet) (h1 : s.1.length ≤ 1000000000) (h2 : s.2.1.length ≤ 1000000000) (h3 : s.2.2.2.length ≤ 1000000000) : spec_SteerPacket s q p = some (steerR s q p) := by
  unfold spec_SteerPacket steerR
  rw [specSteering s q h1 h2 h3, bindO_some, specSuper, bindO_some]
  cases steeringB s q with | false => rfl | true => ?_
  cases superB p with | false => rfl | true => ?_
  simp only [Bool.not_true, cond_false, bindO_some, Bool.or_self, specFindR s.1 p h1, specFlow, specFindFlow s.2.1 _, specSpreadQ s.2.2 q _ h3]
  cases hd : decide (findR s.1 p ≥ 0) with
  | true =>
    obtain ⟨n, hn, hl⟩ := findR_in s.1 p (of_decide_eq_true hd)
    simp only [cond_true, hn, idx_lt hl, bindO_some, Int.toNat_natCast, getD_lt hl]
    cases s.1[n].2.2.2.2.2.2.2.1 == 1 <;> rfl
  | false =>
    simp only [cond_false]
    cases hd2 : decide (findF s.2.1 (flowOf p) ≥ 0) with
    | true =>
      obtain ⟨n, hn, hl⟩ := findF_in s.2.1 (flowOf p) (of_decide_eq_true hd2)
      simp only [cond_true, hn, idx_lt hl, bindO_some, Int.toNat_natCast, getD_lt hl]
    | false => rfl

end

end Go.Pu
