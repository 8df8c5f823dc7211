import Derived.Test.YtoickmmiogbhgaaGreatDnMask
/- What an operation looks at and what it turns: for regions whose order is drawn. -/
namespace Go.Dn

structure Upd where
  slots : List (Nat × AV) := []
  box : Option (Nat × List AC) := none
  iss : Option Nat := none

def putAll (l : List AV) : List (Nat × AV) → List AV
  | [] => l
  | x :: r => putAll (setl l x.1 x.2) r

def Upd.apply (u : Upd) (st : AS) : AS :=
  ⟨putAll st.slots u.slots, (match u.box with | some b => setl st.boxes b.1 (some b.2) | none => st.boxes), st.ep, (match u.iss with | some d => setl st.iss d true | none => st.iss), st.io⟩

structure Agree (an : An) (X : List Nat) (o : Oper) (st st2 : AS) : Prop where
  len : st2.slots.length = st.slots.length
  get : ∀ t ∈ looks o, st2.get t = st.get t
  ep : st2.ep = st.ep
  dst : ∀ d, o.dst = some d → nth st2.iss d = nth st.iss d ∧ nth st2.boxes d = nth st.boxes d
  box : ∀ s, X.contains s = false → nth st2.boxes s = nth st.boxes s
  er : ∀ t ∈ erS an o, st2.get t = st.get t

structure Upd.Within (an : An) (u : Upd) (o : Oper) : Prop where
  slots : ∀ x ∈ u.slots, x.1 ∈ writes an o
  box : ∀ b, u.box = some b → b.1 ∈ wbox an o
  iss : ∀ d, u.iss = some d → o.dst = some d

variable {E : Env} {Γ : Gam} {an : An} {X : List Nat} {o : Oper} {st st2 st' : AS}

theorem rd_agree {x : Operand} (hep : st2.ep = st.ep) (h : ∀ t ∈ tm x, st2.get t = st.get t) : st2.rd x = st.rd x := by
  cases x with
  | tmp t => simp only [AS.rd, hep, h t (by simp [tm])]
  | const v => rfl
  | func f => rfl
  | global g => rfl

/-- what an operation does, as an update -/
def Moves (E : Env) (Γ : Gam) (an : An) (X : List Nat) (o : Oper) (st st' : AS) : Prop :=
  ∃ u : Upd, u.Within an o ∧ st' = u.apply st ∧ ∀ st2, Agree an X o st st2 → stepC E Γ an o st2 some = some (u.apply st2)

def updPut (o : Oper) (v : AV) : Upd := { slots := o.dst.toList.map fun d => (d, v) }
theorem updPut_apply (v : AV) : (updPut o v).apply st = st.put o.dst v := by
  unfold updPut Upd.apply AS.put
  cases o.dst <;> rfl
theorem updPut_within (v : AV) : (updPut o v).Within an o := by
  refine ⟨fun x hx => ?_, fun b hb => by simp [updPut] at hb, fun d hd => by simp [updPut] at hd⟩
  simp only [updPut, List.mem_map] at hx
  obtain ⟨d, hd, rfl⟩ := hx
  simp [writes, hd]

def updNew (o : Oper) (v : AV) : Upd := { slots := o.dst.toList.map fun d => (d, v), iss := o.dst }
theorem updNew_apply (v : AV) : (updNew o v).apply st = (st.issue o.dst).put o.dst v := by
  unfold updNew Upd.apply AS.put AS.issue
  cases o.dst <;> rfl
theorem updNew_within (v : AV) : (updNew o v).Within an o := by
  refine ⟨fun x hx => ?_, fun b hb => by simp [updNew] at hb, fun d hd => by simpa [updNew] using hd⟩
  simp only [updNew, List.mem_map] at hx
  obtain ⟨d, hd, rfl⟩ := hx
  simp [writes, hd]

theorem Moves.put {v : AV} (h : st' = st.put o.dst v) (h2 : ∀ st2, Agree an X o st st2 → stepC E Γ an o st2 some = some (st2.put o.dst v)) : Moves E Γ an X o st st' :=
  ⟨updPut o v, updPut_within v, by rw [updPut_apply]; exact h, fun st2 ha => by rw [updPut_apply]; exact h2 st2 ha⟩

theorem Agree.rd (ha : Agree an X o st st2) {x : Operand} (hx : ∀ t ∈ tm x, t ∈ looks o) : st2.rd x = st.rd x := rd_agree ha.ep fun t ht => ha.get t (hx t ht)

theorem moves_pick {c x y : Operand} (ho : o.op = .pick c x y) (h : pickC o c x y st some = some st') : Moves E Γ an X o st st' := by
  have hr : ∀ st2, Agree an X o st st2 → st2.rd c = st.rd c ∧ st2.rd x = st.rd x ∧ st2.rd y = st.rd y := fun st2 ha =>
    ⟨ha.rd (fun t ht => by simp [looks, ho, ht]), ha.rd (fun t ht => by simp [looks, ho, ht]), ha.rd (fun t ht => by simp [looks, ho, ht])⟩
  unfold pickC at h
  split at h
  · rename_i t hc
    split at h
    · rename_i a b hx hy
      cases h
      refine Moves.put rfl fun st2 ha => ?_
      obtain ⟨h1, h2, h3⟩ := hr st2 ha
      simp only [stepC, ho, pickC, h1, h2, h3, hc, hx, hy]
    · rename_i va vb hno
      have hgo : ∀ st2, Agree an X o st st2 → stepC E Γ an o st2 some = cond t (some (st2.put o.dst (st.rd x))) (some (st2.put o.dst (st.rd y))) := by
        intro st2 ha
        obtain ⟨h1, h2, h3⟩ := hr st2 ha
        simp only [stepC, ho, pickC, h1, h2, h3, hc]
      cases t with
      | true => cases h; exact Moves.put rfl fun st2 ha => hgo st2 ha
      | false => cases h; exact Moves.put rfl fun st2 ha => hgo st2 ha
  · cases h

theorem load_apply {d s : Nat} {cs : List AC} {v : AV} : (⟨[(d, v)], some (s, cs), none⟩ : Upd).apply st = (st.setBox s (some cs)).put (some d) v := rfl
theorem moves_load {T : TypeId} {p : Operand} (ho : o.op = .load T p) (hm : mobile an o = true) (hfree : freeOf E an X o st = true) (h : loadC E an o T p st some = some st') : Moves E Γ an X o st st' := by
  have hr : ∀ st2, Agree an X o st st2 → st2.rd p = st.rd p := fun st2 ha => ha.rd (fun t ht => by simpa [looks, ho] using ht)
  have htk : tookE an o = false := by
    simp only [mobile, ho] at hm
    unfold tookE
    cases hdd : o.dst with
    | none => rfl
    | some d =>
      rw [hdd] at hm
      simp only [Bool.or_eq_true, Bool.not_eq_true'] at hm
      rcases hm with hm | hm
      · simp only [hm, Bool.false_and]
      · cases hmb : an.mb d with
        | none => rw [hmb] at hm; cases hm
        | some _ => simp [hmb]
  unfold loadC at h
  split at h
  · rename_i sh s off hT hp
    simp only [freeOf, ho, hp, Bool.and_eq_true, Bool.not_eq_true'] at hfree
    split at h
    · rename_i cs hb
      split at h
      · rename_i hfit
        split at h
        · rename_i d hd
          have hbx : ∀ st2, Agree an X o st st2 → nth st2.boxes s = nth st.boxes s := fun st2 ha => ha.box s hfree.1.1
          cases hf : an.mv.contains d with
          | false =>
            simp only [hf, Bool.false_eq_true, if_false] at h
            cases h
            refine Moves.put (by rw [hd]) fun st2 ha => ?_
            simp only [stepC, ho, loadC, hT, hr st2 ha, hp, hbx st2 ha, hb, if_pos hfit, hd, hf, Bool.false_eq_true, if_false, ha.ep]
          | true =>
            simp only [hf, if_true] at h
            have hmb : an.mb d = some s := by
              have := hfree.1.2
              rw [hd] at this
              simp only [hf, Bool.not_true, Bool.false_or, beq_iff_eq] at this
              exact this
            cases h
            refine ⟨⟨[(d, .val sh.agg ((cs.drop off).take sh.ct.size))], some (s, splice cs off (borrowBare st.ep ((cs.drop off).take sh.ct.size))), none⟩, ⟨fun x hx => ?_, fun b hb' => ?_, fun _ hh => by cases hh⟩, ?_, fun st2 ha => ?_⟩
            · simp only [List.mem_singleton] at hx; subst hx; simp [writes, hd]
            · cases hb'; simp only [wbox, ho, hd, hf, cond_true, hmb]; simp
            · rw [load_apply, hd]
            · simp only [stepC, ho, loadC, hT, hr st2 ha, hp, hbx st2 ha, hb, if_pos hfit, hd, hf, if_true, ha.ep, load_apply]
        · cases h
      · cases h
    · cases h
  · rename_i sh fl e x i off hT hp
    rw [if_neg (by simp [htk])] at h
    split at h
    · rename_i hl
      split at h
      · rename_i hfit
        cases h
        refine Moves.put rfl fun st2 ha => ?_
        simp only [stepC, ho, loadC, hT, hr st2 ha, hp, ha.ep, htk, Bool.false_eq_true, if_false, if_pos hl, if_pos hfit]
      · cases h
    · rename_i hl
      have hroot : ∀ r t ep0, fl = .loc ep0 (some (r, t)) → ∀ st2, Agree an X o st st2 → st2.rootGet r = st.rootGet r := by
        rintro r t ep0 rfl st2 ha
        simp only [freeOf, ho, hp, Bool.and_eq_true, Bool.or_eq_true] at hfree
        rcases hfree.1 with hq | hq
        · exact absurd hq hl
        · cases r with
          | slot b j => simp only [AS.rootGet]; rw [ha.er b (by simpa using hq)]
          | box b j => simp only [AS.rootGet]; rw [ha.box b (by simpa using hq)]
          | io j => cases hq
      unfold staleC at h
      split at h
      · rename_i ep0 r t
        split at h
        · rename_i t' e' ys hrg
          split at h
          · rename_i he
            split at h
            · rename_i hc
              cases hi : idx (he ▸ ys : List _) i with
              | none => rw [hi] at h; cases h
              | some y =>
                rw [hi] at h
                simp only [bindO] at h
                cases h
                refine Moves.put rfl fun st2 ha => ?_
                simp only [stepC, ho, loadC, hT, hr st2 ha, hp, ha.ep, htk, Bool.false_eq_true, if_false, if_neg hl, staleC, hroot _ _ _ rfl st2 ha, hrg, dif_pos he, if_pos hc, hi, bindO]
            · cases h
          · cases h
        · cases h
      · cases h
  · cases h

theorem moves_nilCheck {x : Operand} (ho : o.op = .nilCheck x) (h : stepC E Γ an o st some = some st') : Moves E Γ an X o st st' := by
  have hr : ∀ st2, Agree an X o st st2 → st2.rd x = st.rd x := fun st2 ha => ha.rd (fun t ht => by simpa [looks, ho] using ht)
  simp only [stepC, ho] at h
  split at h
  · rename_i s off hx
    cases h
    refine Moves.put rfl fun st2 ha => ?_
    simp only [stepC, ho, hr st2 ha, hx]
  · rename_i fl e y i off hx
    cases h
    refine Moves.put rfl fun st2 ha => ?_
    simp only [stepC, ho, hr st2 ha, hx]
  · cases h

/-- a value that goes to the slot, whatever the state -/
theorem val_binC {op : BinOp} {x y : AV} (h : (binC op x y fun c => some (st.put o.dst (.one c))) = some st') : ∃ v, st' = st.put o.dst v ∧ ∀ st2 : AS, (binC op x y fun c => some (st2.put o.dst (.one c))) = some (st2.put o.dst v) := by
  have key : ∀ s : AS, (binC op x y fun c => some (s.put o.dst (.one c))) = (binC op x y some).bind fun c => some (s.put o.dst (.one c)) := fun s => (binC_bind op x y some _).symm
  rw [key st] at h
  cases hb : binC op x y some with
  | none => rw [hb] at h; cases h
  | some c =>
    rw [hb] at h
    cases h
    exact ⟨_, rfl, fun st2 => by rw [key st2, hb]; rfl⟩

theorem val_eqNil {op : BinOp} {b : Bool} (h : (eqNil op b fun c => some (st.put o.dst (.one c))) = some st') : ∃ v, st' = st.put o.dst v ∧ ∀ st2 : AS, (eqNil op b fun c => some (st2.put o.dst (.one c))) = some (st2.put o.dst v) := by
  unfold eqNil at h
  split at h
  · cases h; exact ⟨_, rfl, fun st2 => rfl⟩
  · cases h; exact ⟨_, rfl, fun st2 => rfl⟩
  · cases h

theorem moves_bin {op : BinOp} {T T' : TypeId} {x y : Operand} (ho : o.op = .binOp op T x y T') (h : binTC E o op T x y st some = some st') : Moves E Γ an X o st st' := by
  have hr : ∀ st2, Agree an X o st st2 → st2.rd x = st.rd x ∧ st2.rd y = st.rd y := fun st2 ha =>
    ⟨ha.rd (fun t ht => by simp [looks, ho, ht]), ha.rd (fun t ht => by simp [looks, ho, ht])⟩
  unfold binTC at h
  split at h
  · rename_i a b hx hy
    split at h
    · rename_i hT
      obtain ⟨v, rfl, hv⟩ := val_binC h
      refine Moves.put rfl fun st2 ha => ?_
      simp only [stepC, ho, binTC, (hr st2 ha).1, (hr st2 ha).2, hx, hy, if_pos hT]
      exact hv st2
    · cases h
  · rename_i xs ys hx hy
    split at h
    · rename_i ls hq
      split at h
      · rename_i hfit
        obtain ⟨v, rfl, hv⟩ := val_binC h
        refine Moves.put rfl fun st2 ha => ?_
        simp only [stepC, ho, binTC, (hr st2 ha).1, (hr st2 ha).2, hx, hy, hq, if_pos hfit]
        exact hv st2
      · cases h
    · cases h
  · rename_i fl e xs hx hy
    split at h
    · rename_i hT
      split at h
      · cases h
      · rename_i hlen
        obtain ⟨v, rfl, hv⟩ := val_eqNil h
        refine Moves.put rfl fun st2 ha => ?_
        simp only [stepC, ho, binTC, (hr st2 ha).1, (hr st2 ha).2, hx, hy, ha.ep, if_pos hT, if_neg hlen]
        exact hv st2
    · cases h
  · rename_i hx hy
    split at h
    · rename_i hT
      obtain ⟨v, rfl, hv⟩ := val_eqNil h
      refine Moves.put rfl fun st2 ha => ?_
      simp only [stepC, ho, binTC, (hr st2 ha).1, (hr st2 ha).2, hx, hy, if_pos hT]
      exact hv st2
    · cases h
  · rename_i a b hn1 hn2 hn3 hn4
    obtain ⟨v, rfl, hv⟩ := val_binC h
    refine Moves.put rfl fun st2 ha => ?_
    simp only [stepC, ho, binTC, (hr st2 ha).1, (hr st2 ha).2]
    exact hv st2

theorem moves_un {op : UnOp} {T : TypeId} {x : Operand} (ho : o.op = .unOp op T x) (h : (unC op (st.rd x) fun c => some (st.put o.dst (.one c))) = some st') : Moves E Γ an X o st st' := by
  have hr : ∀ st2, Agree an X o st st2 → st2.rd x = st.rd x := fun st2 ha => ha.rd (fun t ht => by simpa [looks, ho] using ht)
  have key : ∀ s : AS, (unC op (st.rd x) fun c => some (s.put o.dst (.one c))) = (unC op (st.rd x) some).bind fun c => some (s.put o.dst (.one c)) := fun s => (unC_bind op (st.rd x) some _).symm
  rw [key st] at h
  cases hb : unC op (st.rd x) some with
  | none => rw [hb] at h; cases h
  | some c =>
    rw [hb] at h
    cases h
    refine Moves.put rfl fun st2 ha => ?_
    simp only [stepC, ho, hr st2 ha]
    rw [key st2, hb]; rfl

theorem moves_field {S : TypeId} {p : Operand} {f : Nat} (ho : o.op = .fieldAddr S p f) (h : fieldC E o S p f st some = some st') : Moves E Γ an X o st st' := by
  have hr : ∀ st2, Agree an X o st st2 → st2.rd p = st.rd p := fun st2 ha => ha.rd (fun t ht => by simpa [looks, ho] using ht)
  unfold fieldC at h
  split at h
  · rename_i hT hp
    split at h
    · rename_i hf
      cases h
      refine Moves.put rfl fun st2 ha => ?_
      simp only [stepC, ho, fieldC, hr st2 ha, hT, hp, hf]
    · cases h
  · rename_i hT hp
    split at h
    · rename_i hf
      cases h
      refine Moves.put rfl fun st2 ha => ?_
      simp only [stepC, ho, fieldC, hr st2 ha, hT, hp, hf]
    · cases h
  · cases h

theorem fresh_now {v : AV} {s : AS} (h : v.now s.ep = true) : v.fresh s = v := by
  cases v with
  | tup vs => rfl
  | val g cs =>
    simp only [AV.now, List.all_eq_true] at h
    simp only [AV.fresh]
    congr 1
    have : cs.map s.fresh = cs.map id := List.map_congr_left fun c hc => by
      have hn := h c hc
      unfold AS.fresh
      split
      · simp only [AC.now] at hn; rw [hn]; rfl
      · rfl
    rw [this, List.map_id]

theorem moves_indexAddr {T : TypeId} {x i : Operand} (ho : o.op = .indexAddr T x i) (hfree : freeOf E an X o st = true) (h : indexAddrC E o T x i st some = some st') : Moves E Γ an X o st st' := by
  have hr : ∀ st2, Agree an X o st st2 → st2.rd x = st.rd x ∧ st2.rd i = st.rd i := fun st2 ha =>
    ⟨ha.rd (fun t ht => by simp [looks, ho, ht]), ha.rd (fun t ht => by simp [looks, ho, ht])⟩
  have hnow : (st.rd x).now st.ep = true := by simpa [freeOf, ho] using hfree
  have hf2 : ∀ st2, Agree an X o st st2 → (st.rd x).fresh st2 = st.rd x := fun st2 ha => fresh_now (by rw [ha.ep]; exact hnow)
  unfold indexAddrC at h
  rw [fresh_now hnow] at h
  split at h
  · rename_i e' fl e xs k n hT hx hi
    split at h
    · rename_i hc
      cases hix : idx xs n with
      | none => rw [hix] at h; cases h
      | some y =>
        rw [hix] at h
        cases h
        refine Moves.put rfl fun st2 ha => ?_
        have hf3 := hf2 st2 ha
        rw [hx] at hf3
        simp only [stepC, ho, indexAddrC, (hr st2 ha).1, (hr st2 ha).2, hf3, hT, hx, hi, ha.ep, if_pos hc, hix, bindO]
    · cases h
  · cases h

theorem moves_index {T : TypeId} {x i : Operand} (ho : o.op = .index T x i) (h : indexC E o T x i st some = some st') : Moves E Γ an X o st st' := by
  have hr : ∀ st2, Agree an X o st st2 → st2.rd x = st.rd x ∧ st2.rd i = st.rd i := fun st2 ha =>
    ⟨ha.rd (fun t ht => by simp [looks, ho, ht]), ha.rd (fun t ht => by simp [looks, ho, ht])⟩
  unfold indexC at h
  split at h
  · rename_i s k n hx hi
    split at h
    · rename_i hc
      cases hix : idx s n with
      | none => rw [hix] at h; cases h
      | some y =>
        rw [hix] at h
        cases h
        refine Moves.put rfl fun st2 ha => ?_
        simp only [stepC, ho, indexC, (hr st2 ha).1, (hr st2 ha).2, hx, hi, if_pos hc, hix, bindO]
    · cases h
  · cases h

theorem Moves.new {v : AV} (h : st' = (st.issue o.dst).put o.dst v) (h2 : ∀ st2, Agree an X o st st2 → stepC E Γ an o st2 some = some ((st2.issue o.dst).put o.dst v)) : Moves E Γ an X o st st' :=
  ⟨updNew o v, updNew_within v, by rw [updNew_apply]; exact h, fun st2 ha => by rw [updNew_apply]; exact h2 st2 ha⟩

theorem Agree.mint (ha : Agree an X o st st2) : st2.mint o.dst = st.mint o.dst := by
  funext j
  cases hd : o.dst with
  | none => rfl
  | some d => simp only [AS.mint, (ha.dst d hd).1]

theorem moves_bounds {lo hi : Option Operand} {n : Nat} {f : AS → Int → Int → Option AS} (hs : ∀ st2, Agree an X o st st2 → lo.map st2.rd = lo.map st.rd ∧ hi.map st2.rd = hi.map st.rd)
    (h : boundsC st lo hi n (f st) = some st') : ∃ a b, f st a b = some st' ∧ ∀ st2, Agree an X o st st2 → boundsC st2 lo hi n (f st2) = f st2 a b := by
  unfold boundsC at h
  split at h
  · rename_i h1 h2
    exact ⟨_, _, h, fun st2 ha => by simp only [boundsC, (hs st2 ha).1, (hs st2 ha).2, h1, h2]⟩
  · rename_i h1 h2
    exact ⟨_, _, h, fun st2 ha => by simp only [boundsC, (hs st2 ha).1, (hs st2 ha).2, h1, h2]⟩
  · rename_i h1 h2
    exact ⟨_, _, h, fun st2 ha => by simp only [boundsC, (hs st2 ha).1, (hs st2 ha).2, h1, h2]⟩
  · rename_i h1 h2
    exact ⟨_, _, h, fun st2 ha => by simp only [boundsC, (hs st2 ha).1, (hs st2 ha).2, h1, h2]⟩
  · cases h

theorem moves_slice {T : TypeId} {x : Operand} {lo hi : Option Operand} (ho : o.op = .slice T x lo hi none) (hm : mobile an o = true) (hfree : freeOf E an X o st = true) (h : sliceC E an o T x lo hi st some = some st') : Moves E Γ an X o st st' := by
  have hr : ∀ st2, Agree an X o st st2 → st2.rd x = st.rd x := fun st2 ha => ha.rd (fun t ht => by simp [looks, ho, ht])
  have hb : ∀ st2, Agree an X o st st2 → lo.map st2.rd = lo.map st.rd ∧ hi.map st2.rd = hi.map st.rd := by
    intro st2 ha
    constructor
    · cases lo with
      | none => rfl
      | some y => simp only [Option.map_some]; rw [ha.rd (fun t ht => by simp [looks, ho, tmO, ht])]
    · cases hi with
      | none => rfl
      | some y => simp only [Option.map_some]; rw [ha.rd (fun t ht => by simp [looks, ho, tmO, ht])]
  have hnow : (st.rd x).now st.ep = true := by simpa [freeOf, ho] using hfree
  have hf2 : ∀ st2, Agree an X o st st2 → (st.rd x).fresh st2 = st.rd x := fun st2 ha => fresh_now (by rw [ha.ep]; exact hnow)
  have htk : tookE an o = false := by simpa [mobile, ho] using hm
  unfold sliceC at h
  rw [if_neg (by simp [htk]), fresh_now hnow] at h
  split at h
  · rename_i s hx
    split at h
    · rename_i hT
      obtain ⟨a, b, h1, h2⟩ := moves_bounds (f := fun s0 a b => bindO (sub s a b) fun s' => some (s0.put o.dst (.one (.str s')))) hb h
      cases hsub : sub s a b with
      | none => rw [hsub] at h1; cases h1
      | some s' =>
        rw [hsub] at h1
        cases h1
        refine Moves.put rfl fun st2 ha => ?_
        have hf3 := hf2 st2 ha
        rw [hx] at hf3
        simp only [stepC, ho, sliceC, htk, Bool.false_eq_true, if_false, hr st2 ha, hx, hf3, if_pos hT]
        rw [h2 st2 ha, hsub]; rfl
    · cases h
  · rename_i fl e xs hx
    split at h
    · rename_i hT
      obtain ⟨a, b, h1, h2⟩ := moves_bounds (f := fun s0 a b => bindO (sub xs a b) fun xs' => some (s0.put o.dst (.one (.sl (partF an o fl a) e xs')))) hb h
      cases hsub : sub xs a b with
      | none => rw [hsub] at h1; cases h1
      | some s' =>
        rw [hsub] at h1
        cases h1
        refine Moves.put rfl fun st2 ha => ?_
        have hf3 := hf2 st2 ha
        rw [hx] at hf3
        simp only [stepC, ho, sliceC, htk, Bool.false_eq_true, if_false, hr st2 ha, hx, hf3, ha.ep, if_pos hT]
        rw [h2 st2 ha, hsub]; rfl
    · cases h
  · cases h

theorem args_agree {args : List Operand} (hl : ∀ t, t ∈ tms args → t ∈ looks o) (ha : Agree an X o st st2) : args.map st2.rd = args.map st.rd := by
  apply List.map_congr_left
  intro x hx
  exact ha.rd (fun t ht => hl t (by simp only [tms, List.mem_flatMap]; exact ⟨x, hx, ht⟩))

theorem moves_len {ts : Array TypeId} {args : Array Operand} (ho : o.op = .call { callee := .builtin .len, args, argTypes := ts }) (h : lenC E o ts.toList args.toList st some = some st') : Moves E Γ an X o st st' := by
  have hr : ∀ st2, Agree an X o st st2 → args.toList.map st2.rd = args.toList.map st.rd := fun st2 ha => args_agree (fun t ht => by simp only [looks, ho]; exact ht) ha
  unfold lenC at h
  split at h
  · rename_i t s hts hx
    split at h
    · rename_i hT
      cases h
      refine Moves.put rfl fun st2 ha => ?_
      simp only [stepC, ho, lenC, hr st2 ha, hts, hx, if_pos hT]
    · cases h
  · rename_i t _ _ xs hts hx
    split at h
    · rename_i hT
      cases h
      refine Moves.put rfl fun st2 ha => ?_
      simp only [stepC, ho, lenC, hr st2 ha, hts, hx, if_pos hT]
    · cases h
  · cases h

theorem moves_min {ts : Array TypeId} {args : Array Operand} (ho : o.op = .call { callee := .builtin .min, args, argTypes := ts }) (h : minC o args.toList st some = some st') : Moves E Γ an X o st st' := by
  have hr : ∀ st2, Agree an X o st st2 → args.toList.map st2.rd = args.toList.map st.rd := fun st2 ha => args_agree (fun t ht => by simp only [looks, ho]; exact ht) ha
  unfold minC at h
  split at h
  · rename_i hx
    cases h
    refine Moves.put rfl fun st2 ha => ?_
    simp only [stepC, ho, minC, hr st2 ha, hx]
  · cases h
theorem moves_max {ts : Array TypeId} {args : Array Operand} (ho : o.op = .call { callee := .builtin .max, args, argTypes := ts }) (h : maxC o args.toList st some = some st') : Moves E Γ an X o st st' := by
  have hr : ∀ st2, Agree an X o st st2 → args.toList.map st2.rd = args.toList.map st.rd := fun st2 ha => args_agree (fun t ht => by simp only [looks, ho]; exact ht) ha
  unfold maxC at h
  split at h
  · rename_i hx
    cases h
    refine Moves.put rfl fun st2 ha => ?_
    simp only [stepC, ho, maxC, hr st2 ha, hx]
  · cases h

theorem moves_call (hΓ : ∀ f, (Γ f).io = false ∧ (Γ f).bx = false) {f : Operand} {ts : Array TypeId} {args : Array Operand} (ho : o.op = .call { callee := .value f, args, argTypes := ts }) (hfree : freeOf E an X o st = true) (h : callC Γ o f args.toList st some = some st') : Moves E Γ an X o st st' := by
  have hr : ∀ st2, Agree an X o st st2 → st2.rd f = st.rd f ∧ (args.toList.map fun x => ((st2.rd x).fresh st2).asArg st2.ep) = args.toList.map fun x => ((st.rd x).fresh st).asArg st.ep := by
    intro st2 ha
    refine ⟨ha.rd (fun t ht => by simp [looks, ho, ht]), ?_⟩
    apply List.map_congr_left
    intro x hx
    have hnow : (st.rd x).now st.ep = true := by
      simp only [freeOf, ho, List.all_eq_true] at hfree
      exact hfree x hx
    rw [ha.rd (fun t ht => by simp only [looks, ho, List.mem_append, tms, List.mem_flatMap]; exact .inr ⟨x, hx, ht⟩), fresh_now hnow, fresh_now (s := st2) (by rw [ha.ep]; exact hnow), ha.ep]
  unfold callC at h
  split at h
  · rename_i k hf
    rw [(hΓ k).2, (hΓ k).1] at h
    simp only [cond_false] at h
    cases hg : (Γ k).fn (args.toList.map fun x => ((st.rd x).fresh st).asArg st.ep) with
    | none => rw [hg] at h; cases h
    | some y =>
      rw [hg] at h
      simp only [bindO] at h
      cases hsel : (Γ k).sel y with
      | true =>
        rw [hsel] at h
        cases h
        refine Moves.new rfl fun st2 ha => ?_
        simp only [stepC, ho, callC, (hr st2 ha).1, hf, (hΓ k).1, (hΓ k).2, cond_false]
        rw [(hr st2 ha).2, hg]
        simp only [bindO, hsel, cond_true, ha.ep, ha.mint]
      | false =>
        rw [hsel] at h
        cases h
        refine Moves.new rfl fun st2 ha => ?_
        simp only [stepC, ho, callC, (hr st2 ha).1, hf, (hΓ k).1, (hΓ k).2, cond_false]
        rw [(hr st2 ha).2, hg]
        simp only [bindO, hsel, cond_false, ha.ep, ha.mint]
  · cases h

theorem moves_convert {src dst : TypeId} {x : Operand} (ho : o.op = .convert src dst x) (h : convertC E o src dst x st some = some st') : Moves E Γ an X o st st' := by
  have hr : ∀ st2, Agree an X o st st2 → st2.rd x = st.rd x := fun st2 ha => ha.rd (fun t ht => by simpa [looks, ho] using ht)
  unfold convertC at h
  split at h
  · rename_i h1 h2 h3
    cases h
    refine Moves.put rfl fun st2 ha => ?_
    simp only [stepC, ho, convertC, hr st2 ha, h1, h2, h3]
  · rename_i h1 h2 h3
    cases h
    refine Moves.put rfl fun st2 ha => ?_
    simp only [stepC, ho, convertC, hr st2 ha, h1, h2, h3]
  · rename_i offs val s hno h1 h2 h3
    split at h
    · rename_i hb
      unfold room at h
      split at h
      · rename_i hrm
        cases h
        refine Moves.new (v := .one (.sl (.own (st.mint o.dst 0)) (.int .u8) (intsOf s))) rfl fun st2 ha => ?_
        have hval : ∀ k : AS → Option AS, convertC E o src dst x st2 k = if E.bytes dst then room s.length (k (st2.putNew o.dst (.int .u8) (intsOf s))) else none := by
          intro k
          unfold convertC
          rw [hr st2 ha, h1, h2, h3]
          obtain ⟨ag, ct, of⟩ := val
          cases ag with
          | true => rfl
          | false =>
            cases ct with
            | str => exact (hno _ rfl).elim
            | _ => rfl
        simp only [stepC, ho]
        rw [hval, if_pos hb, room, if_pos hrm, AS.putNew, ha.mint]
      · cases h
    · cases h
  · rename_i val offs fl xs h1 h2 h3
    split at h
    · rename_i hb
      cases h
      refine Moves.put rfl fun st2 ha => ?_
      have hval : ∀ k : AS → Option AS, convertC E o src dst x st2 k = if E.bytes src ∧ fl.live st2.ep then k (st2.put o.dst (.one (.str (bytesOf xs)))) else none := by
        intro k
        unfold convertC
        rw [hr st2 ha, h1, h2, h3]
        obtain ⟨ag, ct, of⟩ := val
        cases ag with
        | true => rfl
        | false => cases ct <;> rfl
      simp only [stepC, ho]
      rw [hval, ha.ep, if_pos hb]
    · cases h
  · cases h

theorem alloc_apply {d : Nat} {cs : List AC} {v : AV} : (⟨[(d, v)], some (d, cs), none⟩ : Upd).apply st = (st.setBox d (some cs)).put (some d) v := rfl

theorem moves_alloc {T : TypeId} (ho : o.op = .alloc T) (h : allocC E o T st some = some st') : Moves E Γ an X o st st' := by
  unfold allocC at h
  split at h
  · rename_i d sh hd hT
    split at h
    · rename_i hb
      cases h
      refine ⟨⟨[(d, .one (.ptr d 0))], some (d, cellsOf sh.ct (.own none) sh.ct.zero), none⟩, ⟨fun x hx => ?_, fun b hb' => ?_, fun _ hh => by cases hh⟩, ?_, fun st2 ha => ?_⟩
      · simp only [List.mem_singleton] at hx; subst hx; simp [writes, hd]
      · cases hb'; simp [wbox, ho, hd]
      · rw [alloc_apply, hd]
      · simp only [stepC, ho, allocC, hd, hT, (ha.dst d hd).2, hb, alloc_apply]
    · cases h
  · cases h

/-- an operand taken over, as slots -/
def tookS (st : AS) : Operand → List (Nat × AV)
  | .tmp t => [(t, (st.get t).borrowBare st.ep)]
  | _ => []

theorem putAll_append (l : List AV) (a b : List (Nat × AV)) : putAll l (a ++ b) = putAll (putAll l a) b := by
  induction a generalizing l with
  | nil => rfl
  | cons x a ih => exact ih _

def AS.puts (st : AS) (l : List (Nat × AV)) : AS := { st with slots := putAll st.slots l }
theorem puts_nil : st.puts [] = st := rfl
theorem puts_append (a b : List (Nat × AV)) : st.puts (a ++ b) = (st.puts a).puts b := by simp only [AS.puts, putAll_append]
theorem put_puts (d : Nat) (v : AV) : st.put (some d) v = st.puts [(d, v)] := rfl
theorem take_puts (x : Operand) : (st.take x).2 = st.puts (tookS st x) := by cases x <;> rfl

theorem take_agree {x : Operand} (hep : st2.ep = st.ep) (h : ∀ t ∈ tm x, st2.get t = st.get t) : (st2.take x).1 = (st.take x).1 ∧ (st2.take x).2 = st2.puts (tookS st x) := by
  cases x with
  | tmp t =>
    have := h t (by simp [tm])
    refine ⟨this, ?_⟩
    rw [take_puts]
    simp only [tookS, this, hep]
  | const v => exact ⟨rfl, rfl⟩
  | func f => exact ⟨rfl, rfl⟩
  | global g => exact ⟨rfl, rfl⟩

theorem tookS_in {x : Operand} : ∀ y ∈ tookS st x, y.1 ∈ tm x := by
  cases x <;> simp [tookS, tm]

theorem moves_move {x : Operand} (ho : o.op = .move x) (h : moveC an o x st some = some st') : Moves E Γ an X o st st' := by
  unfold moveC at h
  cases hd : o.dst with
  | none => rw [hd] at h; cases h
  | some d =>
    rw [hd] at h
    cases hf : an.mv.contains d with
    | false =>
      simp only [hf, Bool.false_eq_true, if_false] at h
      cases h
      refine Moves.put (v := st.rd x) (by rw [hd]) fun st2 ha => ?_
      have hr : st2.rd x = st.rd x := ha.rd (fun t ht => by simpa [looks, ho] using ht)
      simp only [stepC, ho, moveC, hd, hf, Bool.false_eq_true, if_false, hr]
    | true =>
      simp only [hf, if_true] at h
      cases h
      have hr : ∀ st2, Agree an X o st st2 → (st2.take x).1 = (st.take x).1 ∧ (st2.take x).2 = st2.puts (tookS st x) := fun st2 ha => take_agree ha.ep fun t ht => ha.get t (by simpa [looks, ho] using ht)
      refine ⟨⟨tookS st x ++ [(d, (st.take x).1)], none, none⟩, ⟨fun y hy => ?_, fun _ hh => (by cases hh), fun _ hh => (by cases hh)⟩, ?_, fun st2 ha => ?_⟩
      · rcases List.mem_append.1 hy with hy | hy
        · have := tookS_in y hy
          have hf' : d ∈ an.mv := by simpa using hf
          simp [writes, takes, ho, hd, hf', looks, this]
        · simp only [List.mem_singleton] at hy; subst hy; simp [writes, hd]
      · rw [take_puts]
        show _ = st.puts _
        rw [puts_append]; rfl
      · simp only [stepC, ho, moveC, hd, hf, if_true, (hr st2 ha).1, (hr st2 ha).2]
        show some ((st2.puts (tookS st x)).put (some d) (st.take x).1) = some (st2.puts _)
        rw [puts_append]; rfl

theorem flat_borrow {ep : Nat} {cs : List AC} (h : cs.all AC.flatB = true) : borrowBare ep cs = cs := by
  rw [List.all_eq_true] at h
  unfold borrowBare
  have : cs.map (AC.borrow ep none) = cs.map id := List.map_congr_left fun c hc => by
    have := h c hc
    cases c <;> first | rfl | (simp [AC.flatB] at this)
  rw [this, List.map_id]
theorem put_tup {s : AS} {t : Nat} {vs : List (Bool × List AC)} (h : s.get t = .tup vs) : s.put (some t) (.tup vs) = s := by
  cases s with
  | mk slots boxes ep iss io =>
    simp only [AS.put, AS.mk.injEq, and_true]
    rw [setl_eq]
    apply List.ext_getElem?
    intro i
    rw [List.getElem?_set]
    split
    · rename_i hd
      subst hd
      simp only [AS.get, nth_eq] at h
      split
      · rename_i hlt
        rw [List.getElem?_eq_getElem hlt] at h ⊢
        simp only [Option.getD_some] at h
        rw [h]
      · rename_i hge
        rw [List.getElem?_eq_none (Nat.le_of_not_lt hge)]
    · rfl
theorem moves_extract {t i : Nat} (ho : o.op = .extract (.tmp t) i) (hfree : freeOf E an X o st = true) (h : extractC o t i st some = some st') : Moves E Γ an X o st st' := by
  have hr : ∀ st2, Agree an X o st st2 → st2.get t = st.get t := fun st2 ha => ha.get t (by simp [looks, ho])
  unfold extractC at h
  simp only [freeOf, ho] at hfree
  split at h
  · rename_i vs hv
    rw [hv] at hfree
    split at h
    · rename_i g cs hn
      simp only [hn] at hfree
      have hfl : cs.all AC.flatB = true ∨ ∃ d, o.dst = some d ∧ an.mv.contains d = true := by
        cases hd : o.dst with
        | none => simp only [hd, Bool.or_false] at hfree; exact .inl hfree
        | some d =>
          simp only [hd, Bool.or_eq_true] at hfree
          rcases hfree with h | h
          · exact .inl h
          · exact .inr ⟨d, rfl, h⟩
      rcases hfl with hfree | ⟨d, hd, hmv⟩
      rotate_left
      · cases h
        refine ⟨⟨[(t, .tup (setl vs i (g, borrowBare 0 cs))), (d, .val g cs)], none, none⟩, ⟨fun x hx => ?_, (fun _ hb => by cases hb), (fun _ hh => by cases hh)⟩, ?_, fun st2 ha => ?_⟩
        · simp only [List.mem_cons, List.not_mem_nil, or_false] at hx
          rcases hx with rfl | rfl
          · simp only [writes, takes, ho, hd, hmv, cond_true, looks]; simp
          · simp only [writes, hd]; simp
        · rw [hd]; rfl
        · have h2 : st2.get t = .tup vs := by rw [hr st2 ha, hv]
          simp only [stepC, ho, extractC, h2, hn, hd, ha.ep]; rfl
      · skip
        have hset : setl vs i (g, cs) = vs := by
          rw [setl_eq]
          rw [nth_eq] at hn
          apply List.ext_getElem?
          intro k
          rw [List.getElem?_set]
          split
          · rename_i hk; subst hk
            obtain ⟨hl, he⟩ := List.getElem?_eq_some_iff.1 hn
            rw [if_pos hl, hn]
          · rfl
        have key : ∀ s : AS, s.get t = .tup vs → (s.put (some t) (.tup (setl vs i (g, borrowBare 0 cs)))) = s := fun s hs => by rw [flat_borrow hfree, hset, put_tup hs]
        rw [key st hv] at h
        cases h
        refine Moves.put rfl fun st2 ha => ?_
        have h2 : st2.get t = .tup vs := by rw [hr st2 ha, hv]
        simp only [stepC, ho, extractC, h2, hn]
        rw [key st2 h2]
    · cases h
  · cases h

/-- what taking over leaves in the slots -/
def takeUpd (st : AS) : Operand → List (Nat × AV)
  | .tmp t => [(t, (st.get t).borrowBare st.ep)]
  | _ => []
theorem take_slots (st : AS) (x : Operand) : (st.take x).2 = ⟨putAll st.slots (takeUpd st x), st.boxes, st.ep, st.iss, st.io⟩ := by
  cases x <;> rfl
theorem moves_store {T : TypeId} {pp : Nat} {x : Operand} (ho : o.op = .store T (.tmp pp) x) (hd : o.dst = none) (hm : mobile an o = true) (hfree : freeOf E an X o st = true) (h : storeC E T (.tmp pp) x st some = some st') : Moves E Γ an X o st st' := by
  have hr : ∀ st2, Agree an X o st st2 → st2.rd (.tmp pp) = st.rd (.tmp pp) := fun st2 ha => ha.rd (fun t ht => by simp only [looks, ho, List.mem_append]; exact .inl ht)
  have hsb : (an.sb pp).isNone = false := by
    simp only [mobile, ho, Bool.and_eq_true] at hm
    cases hb : an.sb pp with
    | none => rw [hb] at hm; cases hm.1
    | some _ => rfl
  simp only [freeOf, ho, hsb, Bool.false_and, Bool.false_or] at hfree
  unfold storeC at h
  split at h
  · rename_i sh s off hT hp
    rw [hp] at hfree
    simp only [Bool.and_eq_true, Bool.not_eq_true', beq_iff_eq] at hfree
    split at h
    · rename_i gg vs st1 htk
      have htk1 : (st.take x).1 = .val gg vs := by rw [htk]
      have hst1 : st1 = ⟨putAll st.slots (takeUpd st x), st.boxes, st.ep, st.iss, st.io⟩ := by rw [← take_slots, htk]
      split at h
      · rename_i cs hb
        split at h
        · rename_i hlen
          split at h
          · rename_i hfit
            cases h
            have hbx : ∀ st2, Agree an X o st st2 → nth st2.boxes s = nth st.boxes s := fun st2 ha => ha.box s hfree.1
            refine ⟨⟨takeUpd st x, some (s, splice cs off vs), none⟩, ⟨fun y hy => ?_, fun b hb' => ?_, fun _ hh => by cases hh⟩, ?_, fun st2 ha => ?_⟩
            · cases x with
              | tmp t =>
                simp only [takeUpd, List.mem_singleton] at hy
                subst hy
                simp only [writes, takes, ho, cond_true, looks, hd]
                simp [tm]
              | _ => simp [takeUpd] at hy
            · cases hb'; simp only [wbox, ho, hfree.2]; simp
            · rw [hst1]; rfl
            · have hx2 : (st2.take x).1 = (st.take x).1 ∧ takeUpd st2 x = takeUpd st x := by
                cases x with
                | tmp t =>
                  have hg : st2.get t = st.get t := ha.get t (by simp [looks, ho, tm])
                  simp only [AS.take, takeUpd, hg, ha.ep]; simp
                | const v => exact ⟨rfl, rfl⟩
                | func f => exact ⟨rfl, rfl⟩
                | global g => exact ⟨rfl, rfl⟩
              have ht2 : st2.take x = (.val gg vs, ⟨putAll st2.slots (takeUpd st x), st2.boxes, st2.ep, st2.iss, st2.io⟩) := by
                rw [← hx2.2, ← take_slots, ← htk1, ← hx2.1]
              have hb2 : (nth st2.boxes s).getD none = some cs := by
                rw [hbx st2 ha]
                rw [hst1] at hb
                exact hb
              have hlate : lateB an o = false := by
                simp only [mobile, ho, Bool.and_eq_true, Bool.not_eq_true'] at hm
                exact hm.2
              simp only [stepC, ho, hd, hlate, Bool.false_eq_true, if_false, storeC, hT, hr st2 ha, hp, ht2, hb2, if_pos hlen, if_pos hfit]
              rfl
          · cases h
        · cases h
      · cases h
    · cases h
  · rename_i r _ _ _ _ _ _ hp
    rw [hp] at hfree
    cases r <;> simp at hfree
  · cases h

theorem moves_assign {x : Operand} (ho : o.op = .assign x) (hm : mobile an o = true) (h : assignC E an o x st some = some st') : Moves E Γ an X o st st' := by
  have hr : ∀ st2, Agree an X o st st2 → (st2.take x).1 = (st.take x).1 ∧ (st2.take x).2 = st2.puts (tookS st x) := fun st2 ha => take_agree ha.ep fun t ht => ha.get t (by simpa [looks, ho] using ht)
  have hlate : lateB an o = false := by simpa [mobile, ho] using hm
  unfold assignC at h
  split at h
  · rename_i st1 htk
    split at h
    · rename_i e hT
      cases h
      refine Moves.put rfl fun st2 ha => ?_
      have h2 : st2.take x = (.val false [.nilsl], st2.puts (tookS st x)) := Prod.ext (by rw [(hr st2 ha).1, htk]) (hr st2 ha).2
      simp only [stepC, ho, assignC, hlate, Bool.false_eq_true, if_false, h2, hT]
    · cases h
  · rename_i v st1 hno htk
    cases h
    have hst1 : st1 = st.puts (tookS st x) := by rw [← take_puts, htk]
    refine ⟨⟨tookS st x ++ o.dst.toList.map fun d => (d, v), none, none⟩, ⟨fun y hy => ?_, fun _ hh => (by cases hh), fun _ hh => (by cases hh)⟩, ?_, fun st2 ha => ?_⟩
    · rcases List.mem_append.1 hy with hy | hy
      · have := tookS_in y hy
        simp [writes, takes, ho, looks, this]
      · obtain ⟨d, hd, rfl⟩ := List.mem_map.1 hy
        simp [writes, hd]
    · rw [hst1]
      show _ = st.puts _
      rw [puts_append]
      cases o.dst <;> rfl
    · have h2 : st2.take x = (v, st2.puts (tookS st x)) := Prod.ext (by rw [(hr st2 ha).1, htk]) (hr st2 ha).2
      simp only [stepC, ho, assignC, hlate, Bool.false_eq_true, if_false, h2]
      show some ((st2.puts (tookS st x)).put o.dst v) = some (st2.puts _)
      rw [puts_append]
      cases o.dst <;> rfl

theorem nth_setl {α : Type} (l : List α) (i : Nat) (v : α) (t : Nat) : nth (setl l i v) t = if i = t then (if i < l.length then some v else none) else nth l t := by
  rw [nth_eq, setl_eq, nth_eq, List.getElem?_set]

theorem putAll_len (l : List AV) (a : List (Nat × AV)) : (putAll l a).length = l.length := by
  induction a generalizing l with
  | nil => rfl
  | cons x a ih => rw [putAll, ih, setl_eq, List.length_set]

theorem putAll_nth {l l2 : List AV} (a : List (Nat × AV)) (hl : l2.length = l.length) (t : Nat) (h : nth l2 t = nth l t) : nth (putAll l2 a) t = nth (putAll l a) t := by
  induction a generalizing l l2 with
  | nil => exact h
  | cons x a ih =>
    refine ih (by rw [setl_eq, setl_eq, List.length_set, List.length_set, hl]) ?_
    rw [nth_setl, nth_setl, hl, h]

theorem nth_of_get {t : Nat} (h : st2.get t = st.get t) (hl : st2.slots.length = st.slots.length) : nth st2.slots t = nth st.slots t := by
  unfold AS.get at h
  rw [nth_eq, nth_eq] at h ⊢
  rcases Nat.lt_or_ge t st.slots.length with hlt | hge
  · rw [List.getElem?_eq_getElem hlt, List.getElem?_eq_getElem (by omega)] at h ⊢
    simpa using h
  · rw [List.getElem?_eq_none hge, List.getElem?_eq_none (by omega)]

def tookAll (st : AS) : List Operand → List (Nat × AV)
  | [] => []
  | x :: xs => tookS st x ++ tookAll (st.puts (tookS st x)) xs

theorem tookAll_in : ∀ (xs : List Operand) (st : AS), ∀ y ∈ tookAll st xs, y.1 ∈ tms xs
  | [], _, y, hy => by cases hy
  | x :: xs, st, y, hy => by
    simp only [tms, List.flatMap_cons, List.mem_append]
    rcases List.mem_append.1 hy with hy | hy
    · exact .inl (tookS_in y hy)
    · exact .inr (tookAll_in xs _ y hy)

theorem takeAll_agree : ∀ (xs : List Operand) (st st2 : AS), st2.ep = st.ep → st2.slots.length = st.slots.length → (∀ t ∈ tms xs, nth st2.slots t = nth st.slots t) →
    (takeAll st2 xs).1 = (takeAll st xs).1 ∧ (takeAll st2 xs).2 = st2.puts (tookAll st xs)
  | [], st, st2, _, _, _ => ⟨rfl, rfl⟩
  | x :: xs, st, st2, hep, hl, hg => by
    have hx : ∀ t ∈ tm x, st2.get t = st.get t := fun t ht => by unfold AS.get; rw [hg t (by simp [tms, ht])]
    obtain ⟨h1, h2⟩ := take_agree (st := st) (st2 := st2) hep hx
    have h3 := take_puts (st := st) x
    obtain ⟨k1, k2⟩ := takeAll_agree xs (st.puts (tookS st x)) (st2.puts (tookS st x)) hep (by simp only [AS.puts, putAll_len, hl])
      (fun t ht => putAll_nth _ hl t (hg t (by simp only [tms, List.flatMap_cons, List.mem_append]; exact .inr ht)))
    have e1 : takeAll st (x :: xs) = ((st.take x).1 :: (takeAll (st.take x).2 xs).1, (takeAll (st.take x).2 xs).2) := rfl
    have e2 : takeAll st2 (x :: xs) = ((st2.take x).1 :: (takeAll (st2.take x).2 xs).1, (takeAll (st2.take x).2 xs).2) := rfl
    rw [e1, e2, h1, h2, h3]
    refine ⟨by rw [k1], ?_⟩
    show (takeAll (st2.puts (tookS st x)) xs).2 = _
    rw [k2, tookAll, puts_append]

theorem takeAll_self (xs : List Operand) : (takeAll st xs).2 = st.puts (tookAll st xs) := (takeAll_agree xs st st rfl rfl (fun _ _ => rfl)).2

theorem Agree.takeAll (ha : Agree an X o st st2) {xs : List Operand} (hx : ∀ t ∈ tms xs, t ∈ looks o) : (takeAll st2 xs).1 = (Dn.takeAll st xs).1 ∧ (Dn.takeAll st2 xs).2 = st2.puts (tookAll st xs) :=
  takeAll_agree xs st st2 ha.ep ha.len fun t ht => nth_of_get (ha.get t (hx t ht)) ha.len

theorem moves_build {T : TypeId} {parts : Array (Nat × Operand)} (ho : o.op = .build T parts) (h : buildC E o T parts.toList st some = some st') : Moves E Γ an X o st st' := by
  have hl : ∀ t ∈ tms (parts.toList.map (·.2)), t ∈ looks o := fun t ht => by simp only [looks, ho]; exact ht
  unfold buildC at h
  split at h
  · rename_i ct offs hT
    split at h
    rename_i vs st1 htk
    have hst1 : st1 = st.puts (tookAll st (parts.toList.map (·.2))) := by rw [← takeAll_self, htk]
    split at h
    · rename_i cs hb
      cases h
      refine ⟨⟨tookAll st (parts.toList.map (·.2)) ++ o.dst.toList.map fun d => (d, .val true cs), none, none⟩, ⟨fun y hy => ?_, fun _ hh => (by cases hh), fun _ hh => (by cases hh)⟩, ?_, fun st2 ha => ?_⟩
      · rcases List.mem_append.1 hy with hy | hy
        · have := hl _ (tookAll_in _ _ y hy)
          simp [writes, takes, ho, this]
        · obtain ⟨d, hd, rfl⟩ := List.mem_map.1 hy
          simp [writes, hd]
      · rw [hst1]
        show _ = st.puts _
        rw [puts_append]
        cases o.dst <;> rfl
      · obtain ⟨k1, k2⟩ := ha.takeAll hl
        have h2 : takeAll st2 (parts.toList.map (·.2)) = (vs, st2.puts (tookAll st (parts.toList.map (·.2)))) := Prod.ext (by rw [k1, htk]) k2
        simp only [stepC, ho, buildC, hT, h2, hb]
        show some ((st2.puts _).put o.dst _) = some (st2.puts _)
        rw [puts_append]
        cases o.dst <;> rfl
    · cases h
  · cases h

/-- new, behind what was taken -/
theorem Moves.took {tl : List (Nat × AV)} {v : AV} (ht : takes an o = true) (hl : ∀ y ∈ tl, y.1 ∈ looks o) (h : st' = ((st.puts tl).issue o.dst).put o.dst v)
    (h2 : ∀ st2, Agree an X o st st2 → stepC E Γ an o st2 some = some (((st2.puts tl).issue o.dst).put o.dst v)) : Moves E Γ an X o st st' := by
  have key : ∀ s : AS, (⟨tl ++ o.dst.toList.map fun d => (d, v), none, o.dst⟩ : Upd).apply s = ((s.puts tl).issue o.dst).put o.dst v := by
    intro s
    cases o.dst with
    | none => simp only [Upd.apply, Option.toList, List.map_nil, List.append_nil, AS.puts, AS.issue, AS.put]
    | some d => simp only [Upd.apply, Option.toList, List.map_cons, List.map_nil, putAll_append, AS.puts, AS.issue, AS.put, putAll]
  refine ⟨⟨tl ++ o.dst.toList.map fun d => (d, v), none, o.dst⟩, ⟨fun y hy => ?_, fun _ hh => (by cases hh), fun d hh => hh⟩, by rw [key]; exact h, fun st2 ha => by rw [key]; exact h2 st2 ha⟩
  rcases List.mem_append.1 hy with hy | hy
  · simp [writes, ht, hl y hy]
  · obtain ⟨d, hd, rfl⟩ := List.mem_map.1 hy
    simp [writes, hd]

theorem mint_puts {tl : List (Nat × AV)} {d : Option Nat} : (st.puts tl).mint d = st.mint d := rfl

theorem moves_buildSlice {T : TypeId} {len : Nat} {parts : Array (Nat × Operand)} (ho : o.op = .buildSlice T len parts) (h : buildSliceC E o T len parts.toList st some = some st') : Moves E Γ an X o st st' := by
  have hl : ∀ t ∈ tms (parts.toList.map (·.2)), t ∈ looks o := fun t ht => by simp only [looks, ho]; exact ht
  unfold buildSliceC at h
  split at h
  · rename_i e hT
    split at h
    · rename_i hc
      split at h
      rename_i vs st1 htk
      have hst1 : st1 = st.puts (tookAll st (parts.toList.map (·.2))) := by rw [← takeAll_self, htk]
      split at h
      · rename_i xs hb
        cases h
        refine Moves.took (tl := tookAll st (parts.toList.map (·.2))) (v := .one (.sl (.own (st.mint o.dst 0)) e xs)) (by simp [takes, ho]) (fun y hy => hl _ (tookAll_in _ _ y hy)) ?_ fun st2 ha => ?_
        · rw [hst1, AS.putNew, mint_puts]
        · obtain ⟨k1, k2⟩ := ha.takeAll hl
          have h2 : takeAll st2 (parts.toList.map (·.2)) = (vs, st2.puts (tookAll st (parts.toList.map (·.2)))) := Prod.ext (by rw [k1, htk]) k2
          simp only [stepC, ho, buildSliceC, hT, h2, hb, if_pos hc]
          rw [AS.putNew, mint_puts, ha.mint]
      · cases h
    · cases h
  · cases h

theorem moves_makeSlice {T : TypeId} {n c : Operand} (ho : o.op = .makeSlice T n c) (h : makeSliceC E o T n c st some = some st') : Moves E Γ an X o st st' := by
  have hr : ∀ st2, Agree an X o st st2 → st2.rd n = st.rd n ∧ st2.rd c = st.rd c := fun st2 ha =>
    ⟨ha.rd (fun t ht => by simp [looks, ho, ht]), ha.rd (fun t ht => by simp [looks, ho, ht])⟩
  unfold makeSliceC at h
  split at h
  · rename_i e len cap hT hn hc
    split at h
    · rename_i hlc
      unfold room at h
      split at h
      · rename_i hrm
        cases h
        refine Moves.new (v := .one (.sl (.own (st.mint o.dst 0)) e (List.replicate len.toNat e.zero))) rfl fun st2 ha => ?_
        simp only [stepC, ho, makeSliceC, (hr st2 ha).1, (hr st2 ha).2, hT, hn, hc, if_pos hlc, room, if_pos hrm, AS.putNew, ha.mint]
      · cases h
    · cases h
  · cases h

theorem moves_append {ts : Array TypeId} {args : Array Operand} (ho : o.op = .call { callee := .builtin .append, args, argTypes := ts }) (h : appendC E o ts.toList args.toList st some = some st') : Moves E Γ an X o st st' := by
  have hlk : ∀ t ∈ tms args.toList, t ∈ looks o := fun t ht => by simp only [looks, ho]; exact ht
  unfold appendC at h
  split at h
  · rename_i t t' s x hts hargs
    have hl : ∀ u ∈ tms [s, x], u ∈ looks o := by rw [← hargs]; exact hlk
    have hboth : ∀ st2, Agree an X o st st2 → (st2.take s).1 = (st.take s).1 ∧ ((st2.take s).2.take x).1 = ((st.take s).2.take x).1 ∧ ((st2.take s).2.take x).2 = st2.puts (tookAll st [s, x]) := by
      intro st2 ha
      obtain ⟨k1, k2⟩ := ha.takeAll hl
      simp only [Dn.takeAll, List.cons.injEq, and_true] at k1 k2
      exact ⟨k1.1, k1.2, k2⟩
    have hself : ((st.take s).2.take x).2 = st.puts (tookAll st [s, x]) := takeAll_self (st := st) [s, x]
    split at h
    · rename_i tag e xs st1 htk1
      split at h
      · rename_i fl e' ys st1' htk2
        split at h
        · rename_i he
          subst he
          split at h
          · rename_i hc
            unfold room at h
            split at h
            · rename_i hrm
              cases h
              have hst1 : (st.take s).2 = st1 := by rw [htk1]
              have hst2 : st1' = st.puts (tookAll st [s, x]) := by rw [← hself, hst1, htk2]
              refine Moves.took (tl := tookAll st [s, x]) (v := .one (.sl (.own (st.mint o.dst 0)) e' (xs ++ ys))) (by simp [takes, ho]) (fun y hy => hl _ (tookAll_in _ _ y hy)) ?_ fun st2 ha => ?_
              · rw [hst2, AS.putNew, mint_puts]
              · obtain ⟨k1, k2, k3⟩ := hboth st2 ha
                have e1 : st2.take s = (.val false [.sl (.own tag) e' xs], (st2.take s).2) := Prod.ext (by rw [k1, htk1]) rfl
                have e2 : (st2.take s).2.take x = (.val false [.sl fl e' ys], st2.puts (tookAll st [s, x])) := Prod.ext (by rw [k2, hst1, htk2]) k3
                simp only [stepC, ho, appendC, hts, hargs]
                rw [e1]
                simp only
                rw [e2]
                simp only [dite_true, ha.ep, if_pos hc, room, if_pos hrm, AS.putNew, mint_puts, ha.mint]
            · cases h
          · cases h
        · cases h
      · rename_i sx st1' htk2
        split at h
        · rename_i he
          subst he
          split at h
          · rename_i hc
            unfold room at h
            split at h
            · rename_i hrm
              cases h
              have hst1 : (st.take s).2 = st1 := by rw [htk1]
              have hst2 : st1' = st.puts (tookAll st [s, x]) := by rw [← hself, hst1, htk2]
              refine Moves.took (tl := tookAll st [s, x]) (v := .one (.sl (.own (st.mint o.dst 0)) (.int .u8) (xs ++ intsOf sx))) (by simp [takes, ho]) (fun y hy => hl _ (tookAll_in _ _ y hy)) ?_ fun st2 ha => ?_
              · rw [hst2, AS.putNew, mint_puts]
              · obtain ⟨k1, k2, k3⟩ := hboth st2 ha
                have e1 : st2.take s = (.val false [.sl (.own tag) (.int .u8) xs], (st2.take s).2) := Prod.ext (by rw [k1, htk1]) rfl
                have e2 : (st2.take s).2.take x = (.val false [.str sx], st2.puts (tookAll st [s, x])) := Prod.ext (by rw [k2, hst1, htk2]) k3
                simp only [stepC, ho, appendC, hts, hargs]
                rw [e1]
                simp only
                rw [e2]
                simp only [dite_true, if_pos hc, room, if_pos hrm, AS.putNew, mint_puts, ha.mint]
            · cases h
          · cases h
        · cases h
      · cases h
    · cases h
  · cases h

theorem moves_box {T : TypeId} {x : Operand} (ho : o.op = .box T x) (h : boxC o x st some = some st') : Moves E Γ an X o st st' := by
  have hr : ∀ st2, Agree an X o st st2 → (st2.take x).1 = (st.take x).1 ∧ (st2.take x).2 = st2.puts (tookS st x) := fun st2 ha => take_agree ha.ep fun t ht => ha.get t (by simpa [looks, ho] using ht)
  unfold boxC at h
  split at h
  · rename_i d g cs st1 hd htk
    have hst1 : st1 = st.puts (tookS st x) := by rw [← take_puts, htk]
    split at h
    · rename_i hb
      split at h
      · rename_i hs
        cases h
        have hb0 : nth st.boxes d = some none := by rw [hst1] at hb; exact hb
        have key : ∀ s : AS, (⟨tookS st x ++ [(d, .one (.ptr d 0))], some (d, cs), none⟩ : Upd).apply s = ((s.puts (tookS st x)).setBox d (some cs)).put (some d) (.one (.ptr d 0)) := by
          intro s
          simp only [Upd.apply, putAll_append, AS.puts, AS.setBox, AS.put, putAll]
        refine ⟨⟨tookS st x ++ [(d, .one (.ptr d 0))], some (d, cs), none⟩, ⟨fun y hy => ?_, fun b hb' => ?_, fun _ hh => (by cases hh)⟩, ?_, fun st2 ha => ?_⟩
        · rcases List.mem_append.1 hy with hy | hy
          · have := tookS_in y hy
            simp [writes, takes, ho, looks, this]
          · simp only [List.mem_singleton] at hy; subst hy; simp [writes, hd]
        · cases hb'; simp [wbox, ho, hd]
        · rw [key, hst1, hd]
        · have h2 : st2.take x = (.val g cs, st2.puts (tookS st x)) := Prod.ext (by rw [(hr st2 ha).1, htk]) (hr st2 ha).2
          have hb2 : nth (st2.puts (tookS st x)).boxes d = some none := by show nth st2.boxes d = _; rw [(ha.dst d hd).2]; exact hb0
          simp only [stepC, ho, boxC, hd, h2, hb2, if_pos hs, key]
      · cases h
    · cases h
  · cases h

/-- every mobile operation is an update -/
theorem step_moves (hΓ : ∀ f, (Γ f).io = false ∧ (Γ f).bx = false) (hm : mobile an o = true) (hfree : freeOf E an X o st = true) (h : stepC E Γ an o st some = some st') : Moves E Γ an X o st st' := by
  have h0 := h
  unfold stepC at h
  split at h
  · rename_i ho; exact moves_move ho h
  · rename_i ho
    have hlate : lateB an o = false := by simpa [mobile, ho] using hm
    rw [if_neg (by simp [hlate])] at h
    exact moves_assign ho hm h
  · rename_i ho; exact moves_pick ho h
  · rename_i ho; exact moves_alloc ho h
  · rename_i ho; exact moves_box ho h
  · rename_i ho; exact moves_load ho hm hfree h
  · rename_i T p x ho
    split at h
    · rename_i hd
      cases p with
      | tmp pp =>
        have hlate : lateB an o = false := by
          simp only [mobile, ho, Bool.and_eq_true, Bool.not_eq_true'] at hm
          exact hm.2
        rw [if_neg (by simp [hlate])] at h
        exact moves_store ho hd hm hfree h
      | const v => simp [mobile, ho] at hm
      | func f => simp [mobile, ho] at hm
      | global g => simp [mobile, ho] at hm
    · cases h
  · rename_i ho; exact moves_nilCheck ho h0
  · rename_i ho; exact moves_bin ho h
  · rename_i ho; exact moves_un ho h
  · rename_i ho; exact moves_field ho h
  · rename_i ho; exact moves_indexAddr ho hfree h
  · rename_i ho; exact moves_index ho h
  · rename_i ho; exact moves_build ho h
  · rename_i ho; exact moves_buildSlice ho h
  · rename_i ho; exact moves_makeSlice ho h
  · rename_i ho; exact moves_slice ho hm hfree h
  · rename_i ho; simp [mobile, ho] at hm
  · rename_i ho; simp [mobile, ho] at hm
  · rename_i ho; exact moves_convert ho h
  · rename_i ho; exact moves_extract ho hfree h
  · rename_i ho; exact moves_len ho h
  · rename_i ho; exact moves_min ho h
  · rename_i ho; exact moves_max ho h
  · rename_i ho; exact moves_append ho h
  · rename_i ho; exact moves_call hΓ ho hfree h
  · cases h

end Go.Dn
