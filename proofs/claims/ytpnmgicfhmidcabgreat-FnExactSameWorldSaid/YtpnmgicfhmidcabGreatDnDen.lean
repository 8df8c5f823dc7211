import Derived.Test.YtpnmgicfhmidcabGreatDnCall
/- The soundness of the abstract semantics: operations, regions, loops, functions. -/
namespace Go.Dn
open Go.RowKit

variable {P : Program} {C : Ctx} {st : AS} {a : Act} {w : World} {R : Type} {r : R}

structure Sound (P : Program) (E : Env) (Γ : Gam) : Prop where
  ty : TysOk P E.ty
  eqs : EqsOk P E.eqs
  fns : ∀ f, FnOk P f (Γ f)
  mixed : P.follows .mixedOrders = true

theorem Goes.wp {o : Oper} {K : AS → Option R} (h : Goes P C o a w K r) (next : Act → World → Prop) (Q : Exit → Act → World → Prop) (hnext : ∀ st' a' w', Sim C st' a' w' → K st' = some r → next a' w') : o.wp P a w next Q := by
  obtain ⟨v, w', st', hrun, hs, hk⟩ := h
  unfold Oper.wp
  rcases hrun with hrun | ⟨rfl, hrun⟩
  · rw [hrun]; exact hnext _ _ _ hs hk
  · rw [hrun]; exact hnext _ _ _ hs hk

theorem step_wp {E : Env} {Γ : Gam} {an : An} (hS : Sound P E Γ) {o : Oper} (h : Sim C st a w) {K : AS → Option R} (hk : stepC E Γ an o st K = some r)
    (next : Act → World → Prop) (Q : Exit → Act → World → Prop) (hnext : ∀ st' a' w', Sim C st' a' w' → K st' = some r → next a' w') : o.wp P a w next Q := by
  unfold stepC at hk
  split at hk
  · rename_i x ho; exact (move_goes ho h hk).wp next Q hnext
  · rename_i x ho; exact (assign_goes ho h hk).wp next Q hnext
  · rename_i c x y ho; exact (pick_goes ho h hk).wp next Q hnext
  · rename_i T ho; exact (alloc_goes hS.ty ho h hk).wp next Q hnext
  · rename_i T x ho; exact (box_goes ho h hk).wp next Q hnext
  · rename_i T p ho; exact (load_goes hS.ty ho h hk).wp next Q hnext
  · rename_i T p x ho
    split at hk
    · rename_i hd; exact (store_goes hS.ty hd ho h hk).wp next Q hnext
    · cases hk
  · rename_i x ho
    split at hk
    · rename_i s off hx; exact (nilCheck_goes ho h hx hk).wp next Q hnext
    · rename_i fl e y i off hx; exact (nilCheckElt_goes ho h hx hk).wp next Q hnext
    · cases hk
  · rename_i op T x y T' ho; exact (bin_goes hS.ty hS.eqs ho h hk).wp next Q hnext
  · rename_i op T x ho; exact (un_goes ho h hk).wp next Q hnext
  · rename_i S p f ho; exact (field_goes hS.ty ho h hk).wp next Q hnext
  · rename_i T x i ho; exact (indexAddr_goes hS.ty ho h hk).wp next Q hnext
  · rename_i T x i ho; exact (index_goes hS.ty ho h hk).wp next Q hnext
  · rename_i T parts ho; exact (build_goes hS.ty ho h hk).wp next Q hnext
  · rename_i T len parts ho; exact (buildSlice_goes hS.ty ho h hk).wp next Q hnext
  · rename_i T n c ho; exact (makeSlice_goes hS.ty ho h hk).wp next Q hnext
  · rename_i T x lo hi ho; exact (slice_goes hS.ty ho h hk).wp next Q hnext
  · rename_i src dst x ho; exact (convert_goes hS.ty ho h hk).wp next Q hnext
  · rename_i t i ho; exact (extract_goes ho h hk).wp next Q hnext
  · rename_i args ts ho; exact (len_goes hS.ty ho h hk).wp next Q hnext
  · rename_i args ts ho; exact (min_goes ho h hk).wp next Q hnext
  · rename_i args ts ho; exact (max_goes ho h hk).wp next Q hnext
  · rename_i args ts ho; exact (append_goes hS.ty ho h hk).wp next Q hnext
  · rename_i f args ts ho; exact call_wp hS.fns ho h hk next Q hnext
  · cases hk

/-- a slot is forgotten -/
theorem Sim.forget (h : Sim C st a w) (d : Option Nat) : Sim C (st.put d (.one .un)) (a.put d undef) w := h.put d (fun _ _ => one_mk ⟨rfl, rfl⟩)

/-- a slot's bool, known -/
theorem Sim.known (h : Sim C st a w) {d : Nat} {b : Bool} (hg : st.get d = .val false [.bool b]) : a.tmps.getD d undef = .bool b := by
  obtain ⟨g, hg'⟩ := h
  obtain ⟨fp, hr, _⟩ := hg'.slot d
  rw [hg] at hr
  exact one_bool hr

theorem put_same_val {d : Nat} : a.put (some d) (a.tmps.getD d undef) = a := by
  cases a with
  | mk tmps defers =>
    simp only [Act.put]
    congr 1
    apply Array.ext_getElem?
    intro i
    rw [Array.getElem?_setIfInBounds]
    by_cases h : d = i
    · subst h
      by_cases hs : d < tmps.size
      · simp [hs, Array.getD]
      · simp [hs]
    · simp [h]

theorem Sim.refine (h : Sim C st a w) {d : Nat} {b : Bool} (hg : st.get d = .val false [.bool b]) : Sim C (st.put (some d) (.one (.bool b))) a w := by
  have hk := h.known hg
  have := h.put (some d) (v := .bool b) (av := .one (.bool b)) (fun _ _ => one_mk ⟨rfl, rfl⟩)
  rw [← hk, put_same_val] at this
  exact this

theorem guard_wp {E : Env} {Γ : Gam} {an : An} (hS : Sound P E Γ) {ops : Array Oper} {o : Oper} (h : Sim C st a w) {K : AS → Option R} (hk : guardC E Γ an ops.toList o st K = some r)
    (next : Act → World → Prop) (Q : Exit → Act → World → Prop) (hnext : ∀ st' a' w', Sim C st' a' w' → K st' = some r → next a' w') :
    if Region.wanted o (yielded ops a.tmps) then o.wp P a w next Q ∨ (o.asks P a w ∧ LetsOut Q) else next (a.put o.dst undef) w := by
  unfold guardC at hk
  split at hk
  · rename_i hgd
    rw [if_pos (by simp [Region.wanted, hgd])]
    exact .inl (step_wp hS h hk next Q hnext)
  · rename_i j want hgd
    split at hk
    · rename_i d hdst
      have hdst' : (ops[j]?).bind (·.dst) = some d := by rw [nth_eq] at hdst; simpa using hdst
      split at hk
      · rename_i b hb
        have hkn := h.known hb
        have hdl : d < a.tmps.size := by
          rcases Nat.lt_or_ge d a.tmps.size with hlt | hge
          · exact hlt
          · simp [Array.getD, Nat.not_lt.2 hge, undef] at hkn
        have hy : yielded ops a.tmps j = some b := by
          unfold yielded
          rw [hdst']
          have : a.tmps[d]? = some (.bool b) := by
            rw [Array.getElem?_eq_getElem hdl]
            simp [Array.getD, hdl] at hkn
            rw [hkn]
          simp [this]
        have hr := h.refine hb
        have main : ∀ t, b = t → (if t == want then stepC E Γ an o (st.put (some d) (.one (.bool t))) K else K ((st.put (some d) (.one (.bool t))).put o.dst (.one .un))) = some r →
            if Region.wanted o (yielded ops a.tmps) then o.wp P a w next Q ∨ (o.asks P a w ∧ LetsOut Q) else next (a.put o.dst undef) w := by
          rintro t rfl hk
          have hw : Region.wanted o (yielded ops a.tmps) = (b == want) := by
            simp only [Region.wanted, hgd, hy]
            cases b <;> cases want <;> rfl
          rw [hw]
          cases hbw : (b == want) with
          | true =>
            rw [hbw] at hk
            simp only [if_true] at hk ⊢
            exact .inl (step_wp hS hr hk next Q hnext)
          | false =>
            rw [hbw] at hk
            simp only [Bool.false_eq_true, if_false] at hk ⊢
            exact hnext _ _ _ (hr.forget o.dst) hk
        cases b with
        | true => exact main true rfl hk
        | false => exact main false rfl hk
      · rename_i hb
        obtain ⟨g, hg⟩ := id h
        obtain ⟨fp, hr, _⟩ := hg.slot d
        rw [hb] at hr
        have hun := (one_cell hr).1
        have hy : yielded ops a.tmps j = none := by
          unfold yielded
          rw [hdst']
          simp only [Option.bind_some]
          rcases Nat.lt_or_ge d a.tmps.size with hlt | hge
          · have : a.tmps[d]? = some undef := by
              rw [Array.getElem?_eq_getElem hlt]
              simp [Array.getD, hlt] at hun
              rw [hun]
            rw [this]; rfl
          · rw [Array.getElem?_eq_none hge]
        have hw : Region.wanted o (yielded ops a.tmps) = false := by
          simp only [Region.wanted, hgd, hy]
          cases want <;> rfl
        rw [hw]
        exact hnext _ _ _ (h.forget o.dst) hk
      · cases hk
    · cases hk

theorem ops_wp {E : Env} {Γ : Gam} {an : An} (hS : Sound P E Γ) {ops : Array Oper} {Q : Exit → Act → World → Prop} {K : AS → Option R}
    (hq : ∀ st' a' w', Sim C st' a' w' → K st' = some r → Q .normal a' w') : ∀ (n i : Nat) (st : AS) (a : Act) (w : World), i + n = ops.size → Sim C st a w → opsC E Γ an ops.toList (ops.toList.drop i) st K = some r →
      wpOps P ops Q ((List.range' i n)) a w
  | 0, i, st, a, w, hi, h, hk => by
    rw [List.drop_of_length_le (by simp; omega)] at hk
    exact hq st a w h hk
  | n + 1, i, st, a, w, hi, h, hk => by
    have hil : i < ops.toList.length := by simp; omega
    rw [List.drop_eq_getElem_cons hil] at hk
    have ho : ops[i]? = some ops.toList[i] := by rw [← Array.getElem?_toList]; exact List.getElem?_eq_getElem hil
    rw [List.range'_succ, wpOps, ho]
    simp only
    have := guard_wp hS (ops := ops) h hk (wpOps P ops Q (List.range' (i + 1) n)) Q (fun st' a' w' hs hk' => ops_wp hS hq n (i + 1) st' a' w' (by omega) hs hk')
    exact this

end Go.Dn
