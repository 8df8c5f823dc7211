import Derived.Test.YtclgaiiidllehafGreatPuCommand
import Derived.Test.YtclgaiiidllehafGreatPuMarks
/- FnExactCardCommandTo, the plain law. -/
namespace Go.Pu
open Go.Dn
set_option linter.unusedSimpArgs false

theorem cardSz_c {c : Card} (k : szC TCard c ≤ 1048576) : CardSz c := by
  have hA : LenB 1048576 TCard c := szC_len k
  have g : ∀ {n : Nat}, n ≤ 1048576 → n ≤ 1000000000 := fun h => Nat.le_trans h (by omega)
  refine ⟨g hA.1.1, g hA.2.1.1, fun m hm => g (hA.2.2.1.2 m hm).1.2.2.1, fun h hh => hostSz_c ?_⟩
  have h1 := mem_sum_le (szC THost) c.1 h hh
  have h2 : (c.1.map (szC THost)).sum ≤ szC TCard c := by
    show _ ≤ (c.1.length + (c.1.map (szC THost)).sum) + _
    omega
  omega

theorem cardCommandR_len {c : Card} {a : Int} {m : Int × Int × Int} {n : Nat} (hn : 8 ≤ n) (z : LenB n TCard c) : LenB n TCard (cardCommandR c a m).1 := by
  have hb := boxesR_len c.2.2.1 a.toNat m hn (fun b hb => (z.2.2.1.2 b hb).1.2.2.1)
  have hl := boxesR_length c.2.2.1 a.toNat m
  unfold cardCommandR
  cases cardB c && inB a 0 ((c.2.2.1.length : Int) - 1) with | false => exact z | true => ?_
  simp only [cond_true]
  split
  · rename_i h b h1 h2
    have e2 := List.mem_of_getElem? h2
    have e1 := List.mem_of_getElem? h1
    refine ⟨⟨?_, fun x hx => ?_⟩, z.2.1, ⟨?_, fun x hx => ?_⟩, z.2.2.2⟩
    · show (c.1.set _ _).length ≤ n
      rw [List.length_set]; exact z.1.1
    · rcases mem_set_of hx with g | rfl
      · exact z.1.2 _ g
      · obtain ⟨w1, w2, w3, w4, w5, w6, w7, w8, w9⟩ := z.1.2 _ e1
        exact ⟨w1, w2, w3, w4, w5, w6, w7, ⟨trivial, trivial, ⟨hb _ e2, fun _ _ => trivial⟩⟩, w9⟩
    · show (boxesR c.2.2.1 a.toNat m).1.length ≤ n
      rw [hl]; exact z.2.2.1.1
    · exact ⟨⟨trivial, trivial, ⟨hb _ hx, fun _ _ => trivial⟩⟩, trivial, trivial, trivial⟩
  · exact z

theorem cnt_mem {e : CT} {l : List e.D} {x : e.D} (h : x ∈ l) : cnt e x ≤ cnt (.sl e) l := mem_sum_le (cnt e) l x h
theorem cnt_set {e : CT} : ∀ (l : List e.D) (i : Nat) (x : e.D), cnt (.sl e) (l.set i x) ≤ cnt (.sl e) l + cnt e x
  | [], _, _ => by simp [cnt]
  | y :: l, 0, x => by simp [cnt]; omega
  | y :: l, i + 1, x => by
    have := cnt_set l i x
    simp only [cnt, List.set_cons_succ, List.map_cons, List.sum_cons] at this ⊢
    omega
theorem cardCommandR_cnt {c : Card} {a : Int} {m : Int × Int × Int} {n : Nat} (hn : 8 ≤ n) (z : LenB n TCard c) : cntT TCard (cardCommandR c a m).1 ≤ 2 * cnt TCard c + (2 + n) + bnd n (.sl TMailbox) := by
  have hT : cntT TCard c ≤ cnt TCard c := cntT_le
  have hR := (cardCommandR_len (a := a) (m := m) hn z).2.2.1
  have hb := boxesR_len c.2.2.1 a.toNat m hn (fun b hb => (z.2.2.1.2 b hb).1.2.2.1)
  unfold cardCommandR at hR ⊢
  cases hq : cardB c && inB a 0 ((c.2.2.1.length : Int) - 1) with
  | false => simp only [cond_false]; omega
  | true =>
    rw [hq] at hR
    simp only [cond_true] at hR ⊢
    split
    · rename_i h b h1 h2
      rw [h1, h2] at hR
      have e2 := hb _ (List.mem_of_getElem? h2)
      have e1 := cnt_mem (e := THost) (List.mem_of_getElem? h1)
      have e3 := cnt_set (e := THost) c.1 a.toNat (withFilter h b.1)
      have hR2 : LenB n (.sl TMailbox) (boxesR c.2.2.1 a.toNat m).1 := hR
      have e4 := cnt_len hR2
      have e5 : cnt THost (withFilter h b.1) ≤ cnt THost h + cnt TFilter b.1 := by
        have w : cnt THost (withFilter h b.1) + cnt TFilter h.2.2.2.2.2.2.2.1 = cnt THost h + cnt TFilter b.1 := by
          obtain ⟨x1, x2, x3, x4, x5, x6, x7, x8, x9⟩ := h
          simp only [withFilter, cnt_pair]
          omega
        omega
      have e6 : cnt TFilter b.1 = 1 + (1 + b.1.2.2.length) := by
        have : ∀ l : List Int, (l.map (cnt (.int .i64))).sum = l.length := by
          intro l
          induction l with
          | nil => rfl
          | cons y l ih => simp only [List.map_cons, List.sum_cons, List.length_cons, ih]; show 1 + _ = _; omega
        show 1 + (1 + (b.1.2.2.map (cnt (.int .i64))).sum) = _
        rw [this]
      have e7 : cntT TCard (c.1.set a.toNat (withFilter h b.1), c.2.1, (boxesR c.2.2.1 a.toNat m).1, c.2.2.2) + (cnt (.sl THost) c.1 + cnt (.sl TMailbox) c.2.2.1) = cntT TCard c + cnt (.sl THost) (c.1.set a.toNat (withFilter h b.1)) + cnt (.sl TMailbox) (boxesR c.2.2.1 a.toNat m).1 := by
        simp only [cntT_pair, cntT_sl]
        omega
      have e8 : cnt (.sl THost) c.1 ≤ cntT TCard c := by simp only [cntT_pair, cntT_sl]; omega
      show cntT TCard (c.1.set a.toNat (withFilter h b.1), c.2.1, (boxesR c.2.2.1 a.toNat m).1, c.2.2.2) ≤ _
      omega
    · show cntT TCard c ≤ _
      omega

theorem cardCommandTo_true (a : Card) (i : Int) (m : Int × Int × Int) (ha : In64 TCard a) (hi0 : In64 (.int .i64) i) (hm0 : In64 (.pair (.int .i64) (.pair (.int .i64) (.int .i64))) m) : laws_FnExactCardCommandTo a i m = some true := by
  unfold laws_FnExactCardCommandTo
  refine (sz_Card a ha).use (by omega) (by omega) fun hl => ?_
  have hA : LenB 1048576 TCard a := szC_len (by omega)
  have hz : CardSz a := cardSz_c (by omega)
  have hs := specCardCommand a i m (hA.mono (by omega)) hz hm0.1.2
  have hi := implCardCommand a i m (hA.mono (by omega)) hz
  have hR : LenB 1048576 TCard (cardCommandR a i m).1 := cardCommandR_len (by omega) hA
  have hC := cardCommandR_cnt (c := a) (a := i) (m := m) (n := 1048576) (by omega) hA
  have tm : laws_toMessage m = some m := rfl
  generalize cardCommandR a i m = r at hs hi hR hC
  have c0 : cnt TCard a ≤ wt TCard * (szC TCard a + 1) := cnt_sz
  have w0 : wt TCard ≤ 1000 := by decide
  have c2 : cnt TCard a ≤ 1000 * (szC TCard a + 1) := Nat.le_trans c0 (Nat.mul_le_mul_right _ w0)
  have c1 : cntT TCard a ≤ cnt TCard a := cntT_le
  have b1 : bnd 1048576 (.sl TMailbox) ≤ 90000000000000 := by decide
  have m1 := mt_Card a (hA.mono (by omega)) 1 (by omega) (by omega)
  have m2 := mt_Card r.1 (hR.mono (by omega)) 1 (by omega) (by omega)
  have m3 : ∀ t, t = mkT TCard r.1 1 → laws_heldCard t 1 = some (1 + (cntT TCard r.1 : Int)) := by rintro _ rfl; exact ht_Card r.1 (hR.mono (by omega)) 1 (by omega) (by omega)
  simp (disch := omega) only [to_Card a hA, tm, bindO_some, hs, hi, eq_Card r.1 (hR.mono (by omega)), eq_Card a (hA.mono (by omega)), beq_self_eq_true, bne_self_eq_false, Bool.not_true, cond_false, m1, m2, dec_neg]
  rw [m3]
  · simp (disch := omega) only [bindO_some, dec_neg, cond_false, bne_self_eq_false]
  · rfl

end Go.Pu
