import Derived.Test.YtclgaiiidllehaeGreatDnUpd
/- Operations that are apart may change places. -/
namespace Go.Dn

variable {E : Env} {Γ : Gam} {an : An} {ops : List Oper}

/-- an operation of a drawn region -/
def stepG (E : Env) (Γ : Gam) (an : An) (ops : List Oper) (X : List Nat) (o : Oper) (st : AS) : Option AS :=
  bif freeOf an X o st then guardC E Γ an ops o st some else none

structure AgreeG (ops : List Oper) (X : List Nat) (o : Oper) (st st2 : AS) : Prop where
  base : Agree X o st st2
  gd : ∀ t ∈ gslot ops o, st2.get t = st.get t

theorem put_self {st : AS} {d : Nat} {b : Bool} (h : st.get d = .val false [.bool b]) : st.put (some d) (.one (.bool b)) = st := by
  cases st with
  | mk slots boxes ep iss io =>
    simp only [AS.put, AS.mk.injEq, and_true]
    rw [setl_eq]
    apply List.ext_getElem?
    intro i
    rw [List.getElem?_set]
    split
    · rename_i hd
      subst hd
      simp only [AS.get, nth_eq] at h
      split
      · rename_i hlt
        rw [List.getElem?_eq_getElem hlt] at h ⊢
        simp only [Option.getD_some] at h
        rw [h]
      · rename_i hge
        rw [List.getElem?_eq_none (Nat.le_of_not_lt hge)]
    · rfl

theorem free_agree {X : List Nat} {o : Oper} {st st2 : AS} (ha : Agree X o st st2) : freeOf an X o st2 = freeOf an X o st := by
  unfold freeOf
  split
  · rename_i T p ho
    rw [ha.rd (fun t ht => by simp [looks, ho, ht]), ha.ep]
  · rename_i ho
    rw [ha.rd (fun t ht => by simp [looks, ho, ht]), ha.ep]
  · rename_i f args ts ho
    rw [Bool.eq_iff_iff]
    simp only [List.all_eq_true]
    constructor
    · intro hx x hm
      have := hx x hm
      rwa [ha.rd (fun t ht => by simp only [looks, ho, List.mem_append, tms, List.mem_flatMap]; exact .inr ⟨x, hm, ht⟩), ha.ep] at this
    · intro hx x hm
      rw [ha.rd (fun t ht => by simp only [looks, ho, List.mem_append, tms, List.mem_flatMap]; exact .inr ⟨x, hm, ht⟩), ha.ep]
      exact hx x hm
  · rename_i ho
    rw [ha.rd (fun t ht => by simpa [looks, ho] using ht), ha.ep]
  · rename_i ho
    rw [ha.rd (fun t ht => by simp only [looks, ho, List.mem_append]; exact .inl ht)]
  · rename_i ho
    rw [ha.get _ (by simp [looks, ho])]
  · rfl

theorem stepG_moves (hΓ : ∀ f, (Γ f).io = false ∧ (Γ f).bx = false) {X : List Nat} {o : Oper} {st st' : AS} (hm : mobile an o = true) (h : stepG E Γ an ops X o st = some st') :
    ∃ u : Upd, u.Within an o ∧ st' = u.apply st ∧ ∀ st2, AgreeG ops X o st st2 → stepG E Γ an ops X o st2 = some (u.apply st2) := by
  unfold stepG at h
  cases hf : freeOf an X o st with
  | false => rw [hf] at h; cases h
  | true =>
    rw [hf] at h
    simp only [cond_true] at h
    unfold guardC at h
    split at h
    · rename_i hg
      obtain ⟨u, h1, h2, h3⟩ := step_moves (X := X) hΓ hm hf h
      refine ⟨u, h1, h2, fun st2 ha => ?_⟩
      unfold stepG
      rw [free_agree ha.base, hf]
      simp only [cond_true, guardC, hg]
      exact h3 st2 ha.base
    · rename_i j want hg
      split at h
      · rename_i d hd
        have hin : d ∈ gslot ops o := by simp [gslot, hg, hd]
        split at h
        · rename_i b hb
          have hgo : (if (b == want) = true then stepC E Γ an o st some else some (st.put o.dst (.one .un))) = some st' := by
            cases b <;> simpa only [cond_true, cond_false, put_self hb] using h
          have h2g : ∀ st2, AgreeG ops X o st st2 → stepG E Γ an ops X o st2 = (if (b == want) = true then stepC E Γ an o st2 some else some (st2.put o.dst (.one .un))) := by
            intro st2 ha
            have hb2 : st2.get d = .val false [.bool b] := by rw [ha.gd d hin]; exact hb
            unfold stepG
            rw [free_agree ha.base, hf]
            simp only [cond_true, guardC, hg, hd, hb2]
            cases b <;> simp only [cond_true, cond_false, put_self hb2]
          split at hgo
          · rename_i hw
            obtain ⟨u, h1, h2, h3⟩ := step_moves (X := X) hΓ hm hf hgo
            exact ⟨u, h1, h2, fun st2 ha => by rw [h2g st2 ha, if_pos hw]; exact h3 st2 ha.base⟩
          · rename_i hw
            cases hgo
            exact ⟨updPut o (.one .un), updPut_within _, by rw [updPut_apply], fun st2 ha => by rw [h2g st2 ha, if_neg hw, updPut_apply]⟩
        · rename_i hb
          cases h
          refine ⟨updPut o (.one .un), updPut_within _, by rw [updPut_apply], fun st2 ha => ?_⟩
          have hb2 : st2.get d = .val false [.un] := by rw [ha.gd d hin]; exact hb
          unfold stepG
          rw [free_agree ha.base, hf, updPut_apply]
          simp only [cond_true, guardC, hg, hd, hb2]
        · cases h
      · cases h

theorem setl_comm {α : Type} (l : List α) {i j : Nat} (h : i ≠ j) (v w : α) : setl (setl l i v) j w = setl (setl l j w) i v := by
  rw [setl_eq, setl_eq, setl_eq, setl_eq, List.set_comm _ _ h]

theorem putAll_set (l : List AV) (a : List (Nat × AV)) {i : Nat} (v : AV) (h : ∀ x ∈ a, x.1 ≠ i) : putAll (setl l i v) a = setl (putAll l a) i v := by
  induction a generalizing l with
  | nil => rfl
  | cons x a ih =>
    simp only [putAll]
    rw [setl_comm _ (Ne.symm (h x (by simp))), ih _ (fun y hy => h y (by simp [hy]))]

theorem putAll_comm (l : List AV) (a b : List (Nat × AV)) (h : ∀ x ∈ a, ∀ y ∈ b, x.1 ≠ y.1) : putAll (putAll l a) b = putAll (putAll l b) a := by
  induction b generalizing l with
  | nil => rfl
  | cons y b ih =>
    simp only [putAll]
    rw [← putAll_set l a y.2 (fun x hx => h x hx y (by simp)), ih _ (fun x hx z hz => h x hx z (by simp [hz]))]

theorem putAll_nth_ne (l : List AV) (a : List (Nat × AV)) {t : Nat} (h : ∀ x ∈ a, x.1 ≠ t) : nth (putAll l a) t = nth l t := by
  induction a generalizing l with
  | nil => rfl
  | cons x a ih =>
    rw [putAll, ih _ (fun y hy => h y (by simp [hy])), nth_setl, if_neg (h x (by simp))]

theorem meets_false {a b : List Nat} (h : meets a b = false) : ∀ x ∈ a, x ∉ b := by
  intro x hx hb
  unfold meets at h
  rw [List.any_eq_false] at h
  exact h x hx (by simpa using hb)

theorem Upd.agree {u : Upd} {o p : Oper} {Y : List Nat} {st : AS} (hw : u.Within an o) (h1 : ∀ x ∈ writes an o, x ∉ looks p ++ gslot ops p ++ writes an p) (h2 : ∀ d ∈ wbox an o, Y.contains d = true) (h3 : ∀ d ∈ wbox an o, p.dst ≠ some d) :
    AgreeG ops Y p (u.apply st) st ∧ AgreeG ops Y p st (u.apply st) := by
  have hget : ∀ t, t ∈ looks p ++ gslot ops p ++ writes an p → (u.apply st).get t = st.get t := by
    intro t ht
    unfold AS.get
    have : nth (u.apply st).slots t = nth st.slots t := putAll_nth_ne _ _ (fun x hx he => h1 _ (hw.slots x hx) (by rw [he]; exact ht))
    rw [this]
  have hdst : ∀ d, p.dst = some d → nth (u.apply st).iss d = nth st.iss d ∧ nth (u.apply st).boxes d = nth st.boxes d := by
    intro d hd
    have hd' : d ∈ looks p ++ gslot ops p ++ writes an p := by simp [writes, hd]
    have hne : o.dst ≠ some d := fun he => h1 d (by simp [writes, he]) hd'
    constructor
    · unfold Upd.apply
      cases hi : u.iss with
      | none => rfl
      | some k =>
        simp only
        rw [nth_setl, if_neg]
        rintro rfl
        exact hne (hw.iss _ hi)
    · unfold Upd.apply
      cases hi : u.box with
      | none => rfl
      | some k =>
        simp only
        rw [nth_setl, if_neg]
        intro he
        exact h3 _ (hw.box k hi) (by rw [he]; exact hd)
  have hbox : ∀ s, Y.contains s = false → nth (u.apply st).boxes s = nth st.boxes s := by
    intro s hs
    unfold Upd.apply
    cases hi : u.box with
    | none => rfl
    | some k =>
      simp only
      rw [nth_setl, if_neg]
      rintro rfl
      have := h2 k.1 (hw.box k hi)
      rw [this] at hs; cases hs
  have hlen : (u.apply st).slots.length = st.slots.length := putAll_len _ _
  exact ⟨⟨⟨hlen.symm, fun t ht => (hget t (by simp [ht])).symm, rfl, fun d hd => ⟨((hdst d hd).1).symm, ((hdst d hd).2).symm⟩, fun s hs => (hbox s hs).symm⟩, fun t ht => (hget t (by simp [ht])).symm⟩,
    ⟨⟨hlen, fun t ht => hget t (by simp [ht]), rfl, hdst, hbox⟩, fun t ht => hget t (by simp [ht])⟩⟩

theorem apply_comm {u v : Upd} {o p : Oper} {st : AS} (hu : u.Within an o) (hv : v.Within an p) (h : ∀ x ∈ writes an o, x ∉ writes an p) (hb : ∀ x ∈ wbox an o, x ∉ wbox an p) : v.apply (u.apply st) = u.apply (v.apply st) := by
  have hdd : ∀ a b, o.dst = some a → p.dst = some b → a ≠ b := fun a b ha hb he => h a (by simp [writes, ha]) (by simp [writes, hb, he])
  have hs := putAll_comm st.slots u.slots v.slots (fun x hx y hy he => h _ (hu.slots x hx) (by rw [he]; exact hv.slots y hy))
  simp only [Upd.apply, AS.mk.injEq, true_and, and_true]
  refine ⟨hs, ?_, ?_⟩
  · cases hub : u.box with
    | none => cases v.box <;> rfl
    | some k =>
      cases hvb : v.box with
      | none => rfl
      | some l => exact setl_comm _ (fun he => hb _ (hu.box k hub) (by rw [he]; exact hv.box l hvb)) _ _
  · cases hui : u.iss with
    | none => cases v.iss <;> rfl
    | some k =>
      cases hvi : v.iss with
      | none => rfl
      | some l => exact setl_comm _ (hdd _ _ (hu.iss k hui) (hv.iss l hvi)) _ _

/-- two operations that are apart change places -/
theorem stepG_comm (hΓ : ∀ f, (Γ f).io = false ∧ (Γ f).bx = false) {X Y : List Nat} {o p : Oper} {st s1 s2 : AS} (ha : apartB an ops X Y o p = true) (h1 : stepG E Γ an ops X o st = some s1) (h2 : stepG E Γ an ops Y p s1 = some s2) :
    ∃ t1, stepG E Γ an ops Y p st = some t1 ∧ stepG E Γ an ops X o t1 = some s2 := by
  simp only [apartB, Bool.and_eq_true, Bool.not_eq_true', List.all_eq_true] at ha
  obtain ⟨⟨⟨⟨⟨⟨⟨mo, mp⟩, w1⟩, w2⟩, b1⟩, b2⟩, b3⟩, b4⟩ := ha
  have w1 := meets_false w1
  have w2 := meets_false w2
  have b3 := meets_false b3
  have b4 := meets_false b4
  obtain ⟨u, hu, rfl, hu2⟩ := stepG_moves hΓ mo h1
  obtain ⟨v, hv, rfl, hv2⟩ := stepG_moves hΓ mp h2
  have ag1 := Upd.agree (ops := ops) (p := p) (Y := Y) (st := st) hu w1 b1 (fun d hd he => b3 d hd (by simp [he]))
  have hww : ∀ x ∈ writes an p, x ∉ looks o ++ gslot ops o ++ writes an o := by
    intro x hx hm
    rcases List.mem_append.1 hm with hm | hm
    · exact w2 x hx hm
    · exact w1 x hm (by simp [hx])
  have ag2 := Upd.agree (ops := ops) (p := o) (Y := X) (st := st) hv hww b2 (fun d hd he => b4 d hd (by simp [he]))
  refine ⟨v.apply st, hv2 st ag1.1, ?_⟩
  rw [hu2 _ ag2.2, apply_comm hu hv (fun x hx hm => w1 x hx (by simp [hm])) (fun x hx hm => b3 x hx (by simp [hm]))]

theorem get_put_same {st : AS} {t : Nat} {v w : AV} (h : st.get t = v) (hv : v ≠ .bot) : (st.put (some t) w).get t = w := by
  unfold AS.get at h
  cases hn : nth st.slots t with
  | none => rw [hn] at h; exact absurd h.symm hv
  | some q =>
    have hl : t < st.slots.length := by rw [nth_eq] at hn; exact (List.getElem?_eq_some_iff.1 hn).1
    unfold AS.get AS.put
    simp only [nth_eq, setl_eq]
    rw [List.getElem?_set_self hl]; rfl
theorem get_put_ne {st : AS} {t d : Nat} {w : AV} (h : d ≠ t) : (st.put (some d) w).get t = st.get t := by
  unfold AS.get AS.put
  simp only [nth_setl, if_neg h]
theorem ext_step {X : List Nat} {o : Oper} {st s : AS} {t i d : Nat} (ho : o.op = .extract (.tmp t) i) (hd : o.dst = some d) (hg : o.guard = none) : stepG E Γ an ops X o st = some s ↔
    ∃ vs g cs, st.get t = .tup vs ∧ nth vs i = some (g, cs) ∧ (cs.all AC.flatB || an.mv.contains d) = true ∧ s = (st.put (some t) (.tup (setl vs i (g, borrowBare st.ep cs)))).put (some d) (.val g cs) := by
  unfold stepG
  simp only [freeOf, ho, hd]
  constructor
  · intro h
    cases hv : st.get t with
    | val g cs => simp only [hv, cond_true, guardC, hg, stepC, ho, extractC] at h; cases h
    | tup vs =>
      simp only [hv] at h
      cases hn : nth vs i with
      | none => simp only [hn, cond_true, guardC, hg, stepC, ho, extractC, hv] at h; cases h
      | some x =>
        obtain ⟨g, cs⟩ := x
        simp only [hn] at h
        cases hf : (cs.all AC.flatB || an.mv.contains d) with
        | false => rw [hf] at h; cases h
        | true =>
          rw [hf] at h
          simp only [cond_true, guardC, hg, stepC, ho, extractC, hv, hn, hd] at h
          cases h
          exact ⟨vs, g, cs, rfl, hn, hf, rfl⟩
  · rintro ⟨vs, g, cs, hv, hn, hf, rfl⟩
    simp only [hv, hn, hf, cond_true, guardC, hg, stepC, ho, extractC, hd]
theorem setl_setl {α : Type} (l : List α) (i : Nat) (v w : α) : setl (setl l i v) i w = setl l i w := by
  rw [setl_eq, setl_eq, setl_eq, List.set_set]
theorem ext_comm {X Y : List Nat} {o p : Oper} {st s1 s2 : AS} (ha : exPair o p = true) (h1 : stepG E Γ an ops X o st = some s1) (h2 : stepG E Γ an ops Y p s1 = some s2) :
    ∃ t1, stepG E Γ an ops Y p st = some t1 ∧ stepG E Γ an ops X o t1 = some s2 := by
  unfold exPair at ha
  split at ha
  · rename_i t i t' j d d' ho hp hd hd' hg hg'
    simp only [Bool.and_eq_true, beq_iff_eq, Bool.not_eq_true', beq_eq_false_iff_ne, ne_eq] at ha
    obtain ⟨⟨⟨⟨rfl, hij⟩, hdd⟩, hdt⟩, hdt'⟩ := ha
    obtain ⟨vs, g, cs, hv, hn, hf, rfl⟩ := (ext_step ho hd hg).1 h1
    obtain ⟨vs2, g2, cs2, hv2, hn2, hf2, rfl⟩ := (ext_step hp hd' hg').1 h2
    have hq : ((st.put (some t) (.tup (setl vs i (g, borrowBare st.ep cs)))).put (some d) (.val g cs)).get t = .tup (setl vs i (g, borrowBare st.ep cs)) := by
      rw [get_put_ne hdt, get_put_same hv (by simp)]
    rw [hq] at hv2
    cases hv2
    rw [nth_setl, if_neg hij] at hn2
    refine ⟨_, (ext_step hp hd' hg').2 ⟨vs, g2, cs2, hv, hn2, hf2, rfl⟩, (ext_step ho hd hg).2 ⟨setl vs j (g2, borrowBare st.ep cs2), g, cs, ?_, ?_, hf, ?_⟩⟩
    · rw [get_put_ne hdt', get_put_same hv (by simp)]
    · rw [nth_setl, if_neg (Ne.symm hij)]; exact hn
    · have e := setl_comm vs hij (g, borrowBare st.ep cs) (g2, borrowBare st.ep cs2)
      have a : ∀ (A B : AV) (q : Nat) (v : AV), q ≠ t → setl (setl (setl st.slots t A) q v) t B = setl (setl st.slots t B) q v := fun A B q v hq => by
        rw [setl_comm _ hq, setl_setl]
      simp only [AS.put, AS.mk.injEq, and_true]
      rw [a _ _ _ _ hdt, a _ _ _ _ hdt', e, setl_comm _ hdd]
  · cases ha

/-- operations one after another, each by its number -/
def seqG (E : Env) (Γ : Gam) (an : An) (ops : List Oper) (X : Nat → List Nat) : List Nat → AS → Option AS
  | [], st => some st
  | i :: r, st => match nth ops i with
    | some o => (stepG E Γ an ops (X i) o st).bind (seqG E Γ an ops X r)
    | none => none

/-- what is apart from all ahead of it may go first -/
theorem seqG_front (hΓ : ∀ f, (Γ f).io = false ∧ (Γ f).bx = false) {X : Nat → List Nat} {i : Nat} {oi : Oper} (hi : nth ops i = some oi) : ∀ (pre post : List Nat) (st r : AS), (∀ j ∈ pre, ∀ oj, nth ops j = some oj → apartX an ops (X j) (X i) oj oi = true) →
    seqG E Γ an ops X (pre ++ i :: post) st = some r → seqG E Γ an ops X (i :: (pre ++ post)) st = some r
  | [], post, st, r, _, h => h
  | j :: pre, post, st, r, ha, h => by
    simp only [List.cons_append, seqG] at h
    cases hj : nth ops j with
    | none => rw [hj] at h; cases h
    | some oj =>
      rw [hj] at h
      simp only at h
      obtain ⟨s1, h1, h2⟩ := Option.bind_eq_some_iff.1 h
      have h3 := seqG_front hΓ hi pre post s1 r (fun k hk => ha k (by simp [hk])) h2
      simp only [seqG, hi] at h3
      obtain ⟨s2, h4, h5⟩ := Option.bind_eq_some_iff.1 h3
      have hap := ha j (by simp) oj hj
      obtain ⟨t1, k1, k2⟩ : ∃ t1, stepG E Γ an ops (X i) oi st = some t1 ∧ stepG E Γ an ops (X j) oj t1 = some s2 := by
        cases hx : exPair oj oi with
        | true => exact ext_comm hx h1 h4
        | false => rw [apartX, hx, Bool.false_or] at hap; exact stepG_comm hΓ hap h1 h4
      simp only [seqG, hi, k1, Option.bind_some, List.cons_append, hj, k2]
      exact h5

end Go.Dn
