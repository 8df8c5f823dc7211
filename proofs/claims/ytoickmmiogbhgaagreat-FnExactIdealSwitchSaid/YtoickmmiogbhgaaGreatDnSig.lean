import Derived.Test.YtoickmmiogbhgaaGreatDnLaw
/- Functions by the data that they take; loops by the data that they keep. -/
namespace Go.Dn

/-- a parameter: data, or a function that is known -/
inductive PS where
  | data (g : Bool) (t : CT) | fn (f : Nat)

@[reducible] def Args : List PS → Type
  | [] => Unit
  | .data _ t :: r => t.D × Args r
  | .fn _ :: r => Args r

/-- the data of an argument's cells, and the cells behind -/
def ofArg : (t : CT) → List AC → Option (t.D × List AC)
  | .int k, .int k' n :: r => if k' = k then some (n, r) else none
  | .bool, .bool b :: r => some (b, r)
  | .str, .str s :: r => some (s, r)
  | .sl e, .sl .arg e' xs :: r => if h : e' = e then some (h ▸ xs, r) else none
  | .sl _, .nilsl :: r => some ([], r)
  | .pair a b, cs => (ofArg a cs).bind fun x => (ofArg b x.2).bind fun y => some ((x.1, y.1), y.2)
  | _, _ => none

def ofArgs : (s : List PS) → List AV → Option (Args s)
  | [], [] => some ()
  | .data g e :: s, .val g' cs :: xs => bif g == g' then
      (match ofArg e cs with
       | some (x, []) => (ofArgs s xs).bind fun r => some (x, r)
       | _ => none) else none
  | .fn f :: s, v :: xs => bif v.isFn f then ofArgs s xs else none
  | _, _ => none

def argsOf : (s : List PS) → Args s → List AV
  | [], _ => []
  | .data g e :: s, a => .val g (cellsOf e .arg a.1) :: argsOf s a.2
  | .fn f :: s, a => .one (.fn f) :: argsOf s a

theorem ofArg_rel {A : Nat → Nat → Prop} {hw : Nat → Nat} {w : World} : ∀ {t : CT} {cs r : List AC} {x : t.D}, ofArg t cs = some (x, r) → ∀ {vs : List Value} {fp : List Nat}, RelCs (rcArg A hw w) vs cs fp →
    ∃ v1 v2 f1 f2, vs = v1 ++ v2 ∧ fp = f1 ++ f2 ∧ RelCs (rcArg A hw w) v1 (cellsOf t .arg x) f1 ∧ RelCs (rcArg A hw w) v2 r f2 := by
  intro t
  have one : ∀ {y : AC} {ys : List AC} {vs : List Value} {fp : List Nat} {z : AC}, RelCs (rcArg A hw w) vs (y :: ys) fp → (∀ v f, RelC (rcArg A hw w) v y f → RelC (rcArg A hw w) v z f) →
      ∃ v1 v2 f1 f2, vs = v1 ++ v2 ∧ fp = f1 ++ f2 ∧ RelCs (rcArg A hw w) v1 [z] f1 ∧ RelCs (rcArg A hw w) v2 ys f2 := by
    intro y ys vs fp z h hz
    cases vs with
    | nil => exact h.elim
    | cons v vs =>
      obtain ⟨f1, f2, rfl, h1, h2⟩ := h
      exact ⟨[v], vs, f1, f2, rfl, rfl, ⟨f1, [], by simp, hz v f1 h1, rfl⟩, h2⟩
  induction t with
  | int k =>
    intro cs r x h vs fp hr
    cases cs with
    | nil => simp [ofArg] at h
    | cons y ys =>
      cases y <;> simp [ofArg] at h
      obtain ⟨rfl, rfl, rfl⟩ := h
      exact one hr fun v f h => h
  | bool =>
    intro cs r x h vs fp hr
    cases cs with
    | nil => simp [ofArg] at h
    | cons y ys =>
      cases y <;> simp [ofArg] at h
      obtain ⟨rfl, rfl⟩ := h
      exact one hr fun v f h => h
  | str =>
    intro cs r x h vs fp hr
    cases cs with
    | nil => simp [ofArg] at h
    | cons y ys =>
      cases y <;> simp [ofArg] at h
      obtain ⟨rfl, rfl⟩ := h
      exact one hr fun v f h => h
  | sl e _ =>
    intro cs r x h vs fp hr
    cases cs with
    | nil => simp [ofArg] at h
    | cons y ys =>
      cases y with
      | sl fl e' xs =>
        cases fl with
        | arg =>
          simp only [ofArg] at h
          split at h
          · rename_i he
            subst he
            cases h
            exact one hr fun v f h => h
          · cases h
        | own t => simp [ofArg] at h
        | nest _ _ _ _ _ _ => simp [ofArg] at h
        | part _ _ _ _ => simp [ofArg] at h
        | holed _ _ _ => simp [ofArg] at h
        | loc ep pv => simp [ofArg] at h
      | nilsl =>
        simp [ofArg] at h
        obtain ⟨rfl, rfl⟩ := h
        refine one hr fun v f h => ?_
        obtain ⟨rfl, rfl⟩ := h
        exact ⟨rfl, _, rfl, .inl ⟨⟨none, rfl⟩, rfl⟩⟩
      | _ => simp [ofArg] at h
  | pair a b iha ihb =>
    intro cs r x h vs fp hr
    simp only [ofArg] at h
    obtain ⟨⟨x1, r1⟩, h1, h⟩ := Option.bind_eq_some_iff.1 h
    obtain ⟨⟨x2, r2⟩, h2, h⟩ := Option.bind_eq_some_iff.1 h
    cases h
    obtain ⟨v1, v2, f1, f2, rfl, rfl, k1, k2⟩ := iha h1 hr
    obtain ⟨v3, v4, f3, f4, rfl, rfl, k3, k4⟩ := ihb h2 k2
    exact ⟨v1 ++ v3, v4, f1 ++ f3, f4, by simp, by simp, by simpa [cellsOf] using RelCs.append k1 k3, k4⟩

theorem isFn_spec {v : AV} {f : Nat} (h : v.isFn f = true) : v = .one (.fn f) := by
  unfold AV.isFn at h
  split at h
  · rename_i f'
    have : f = f' := by simpa using h
    subst this; rfl
  · cases h
theorem isBot_spec {v : AV} (h : v.isBot = true) : v = .bot := by
  unfold AV.isBot at h
  split at h
  · rfl
  · cases h
theorem isPtr_spec {v : AV} {s off : Nat} (h : v.isPtr s off = true) : v = .one (.ptr s off) := by
  unfold AV.isPtr at h
  split at h
  · simp only [Bool.and_eq_true, beq_iff_eq] at h
    obtain ⟨rfl, rfl⟩ := h
    rfl
  · cases h

theorem ofArgs_rel {A : Nat → Nat → Prop} {w : World} : ∀ {s : List PS} {xs : List AV} {a : Args s}, ofArgs s xs = some a → ∀ {vs : List Value}, ArgsRel A w vs xs → ArgsRel A w vs (argsOf s a)
  | [], [], a, _, vs, h => h
  | [], _ :: _, _, h, _, _ => by simp [ofArgs] at h
  | .data g e :: s, [], _, h, _, _ => by simp [ofArgs] at h
  | .data g e :: s, .tup _ :: xs, _, h, _, _ => by simp [ofArgs] at h
  | .data g e :: s, .val g' cs :: xs, a, h, vs, hr => by
    simp only [ofArgs] at h
    cases hg : g == g' with
    | false => rw [hg] at h; cases h
    | true =>
      rw [hg] at h
      simp only [cond_true] at h
      have hg' : g = g' := by simpa using hg
      subst hg'
      split at h
      · rename_i x hx
        obtain ⟨r, hr', h⟩ := Option.bind_eq_some_iff.1 h
        cases h
        cases vs with
        | nil => exact hr.elim
        | cons v vs =>
          obtain ⟨⟨us, hcut, hu⟩, h2⟩ := hr
          obtain ⟨v1, v2, f1, f2, rfl, hf, k1, k2⟩ := ofArg_rel hx hu
          have hv2 : v2 = [] := by
            cases v2 with
            | nil => rfl
            | cons _ _ => exact k2.elim
          subst hv2
          have hf1 : f1 = [] := by
            have := hf.symm
            simp at this
            exact this.1
          subst hf1
          rw [List.append_nil] at hcut
          exact ⟨⟨v1, hcut, k1⟩, ofArgs_rel hr' h2⟩
      · cases h
  | .fn f :: s, [], a, h, vs, hr => by simp [ofArgs] at h
  | .fn f :: s, v :: xs, a, h, vs, hr => by
    simp only [ofArgs] at h
    cases hg : v.isFn f with
    | false => rw [hg] at h; cases h
    | true =>
      rw [hg] at h
      have := isFn_spec hg
      subst this
      cases vs with
      | nil => exact hr.elim
      | cons v vs => exact ⟨hr.1, ofArgs_rel h hr.2⟩

/-- a function of data, as a row of the table -/
def entOf (s : List PS) (rs : List (Bool × FT)) (F : Args s → Option (resD rs)) : GEnt := { R := resD rs, fn := fun xs => bindO (ofArgs s xs) F, av := avOf rs }

theorem FnOk.of {P : Program} {f : Nat} {s : List PS} {rs : List (Bool × FT)} {G : List AV → Option (resD rs)} (h : FnOk P f { R := resD rs, fn := G, av := avOf rs }) {F : Args s → Option (resD rs)} (hF : ∀ a, G (argsOf s a) = F a) : FnOk P f (entOf s rs F) := by
  intro xs y hy
  simp only [entOf] at hy y
  cases ha : ofArgs s xs with
  | none => rw [ha] at hy; cases hy
  | some a =>
    rw [ha] at hy
    have hy' : G (argsOf s a) = some y := by rw [hF a]; exact hy
    have hh := h (argsOf s a) y hy'
    exact ⟨hh.1, fun _ _ A w vs hA hr => hh.2.1 rfl rfl A w vs hA (ofArgs_rel ha hr), fun h => (by cases h), fun h => (by cases h)⟩

/-- a function with results of two kinds -/
def entAlt (s : List PS) (rs rs2 : List (Bool × FT)) (h : resD rs2 = resD rs) (F : Args s → Option (Bool × resD rs)) : GEnt :=
  { R := Bool × resD rs, fn := fun xs => bindO (ofArgs s xs) F, av := fun y => avOf rs y.2, sel := fun y => y.1, alt := fun y => avOf rs2 (cast h.symm y.2) }

theorem FnOk.ofAlt {P : Program} {f : Nat} {s : List PS} {rs rs2 : List (Bool × FT)} {h2 : resD rs2 = resD rs} {G : List AV → Option (Bool × resD rs)} (h : FnOk P f { R := Bool × resD rs, fn := G, av := fun y => avOf rs y.2, sel := fun y => y.1, alt := fun y => avOf rs2 (cast h2.symm y.2) })
    {F : Args s → Option (Bool × resD rs)} (hF : ∀ a, G (argsOf s a) = F a) : FnOk P f (entAlt s rs rs2 h2 F) := by
  intro xs y hy
  simp only [entAlt] at hy y
  cases ha : ofArgs s xs with
  | none => rw [ha] at hy; cases hy
  | some a =>
    rw [ha] at hy
    have hy' : G (argsOf s a) = some y := by rw [hF a]; exact hy
    have hh := h (argsOf s a) y hy'
    exact ⟨hh.1, fun _ _ A w vs hA hr => hh.2.1 rfl rfl A w vs hA (ofArgs_rel ha hr), fun h => (by cases h), fun h => (by cases h)⟩

/-- a function that writes what its first argument holds -/
def entIo (t : CT) (gg : Bool) (s : List PS) (rs : List (Bool × FT)) (F : t.D → Args s → Option (resD rs × t.D)) : GEnt :=
  { R := resD rs × t.D, fn := fun xs => match xs with
    | .val g cs :: rest => bif gg == g then (match ofCells t cs with | some (x, []) => bindO (ofArgs s rest) (F x) | _ => none) else none
    | _ => none, av := fun y => avOf rs y.1, io := true, back := fun y => cellsOf t (.own none) y.2 }

theorem FnOk.ofIo {P : Program} {f : Nat} {t : CT} {gg : Bool} {s : List PS} {rs : List (Bool × FT)} {G : List AV → Option (resD rs × t.D)} (h : FnOk P f { R := resD rs × t.D, fn := G, av := fun y => avOf rs y.1, io := true, back := fun y => cellsOf t (.own none) y.2 })
    {F : t.D → Args s → Option (resD rs × t.D)} (hF : ∀ x a, G (.val gg (cellsOf t (.own none) x) :: argsOf s a) = F x a) : FnOk P f (entIo t gg s rs F) := by
  intro xs y hy
  simp only [entIo] at hy y
  split at hy
  · rename_i g cs rest
    cases hg : (gg == g) with
    | false => rw [hg] at hy; cases hy
    | true =>
      rw [hg] at hy
      have : gg = g := by simpa using hg
      subst this
      simp only [cond_true] at hy
      split at hy
      · rename_i x hx
        cases ha : ofArgs s rest with
        | none => rw [ha] at hy; cases hy
        | some a =>
          rw [ha] at hy
          have hy' : G (.val gg (cellsOf t (.own none) x) :: argsOf s a) = some y := by rw [hF x a]; exact hy
          have hh := h _ y hy'
          refine ⟨hh.1, fun h => (by cases h), fun _ g0 cs0 rest0 he A w v0 vs hw fp hA hrel hn hlt hargs => ?_, fun h => (by cases h)⟩
          injection he with he1 he2
          injection he1 with he1 he3
          subst he1; subst he2; subst he3
          refine hh.2.2.1 rfl gg (cellsOf t (.own none) x) (argsOf s a) rfl A w v0 vs hw fp hA ?_ hn hlt (ofArgs_rel ha hargs)
          obtain ⟨us, hcut, hrel⟩ := hrel
          obtain ⟨f1, f2, rfl, hown, hrest⟩ := ofCells_own hrel hx
          have hnil : us.drop t.size = [] := by
            cases hd : us.drop t.size with
            | nil => rfl
            | cons _ _ => rw [hd] at hrest; exact hrest.elim
          rw [hnil] at hrest
          have hf2 : f2 = [] := hrest
          subst hf2
          have htake : us.take t.size = us := by
            have := List.take_append_drop t.size us
            rw [hnil, List.append_nil] at this; exact this
          rw [htake] at hown
          rw [List.append_nil]
          exact ⟨us, hcut, own_cells (c := rcArg A hw w) hown⟩
      · cases hy
  · cases hy

/-- a function that writes the block that its first argument points to -/
def entBox (t : CT) (s : List PS) (rs : List (Bool × FT)) (F : t.D → Args s → Option (resD rs × t.D)) : GEnt :=
  { R := resD rs × t.D, fn := fun xs => match xs with
    | .val true cs :: rest => (match ofCells t cs with | some (x, []) => bindO (ofArgs s rest) (F x) | _ => none)
    | _ => none, av := fun y => avOf rs y.1, back := fun y => cellsOf t (.own none) y.2, bx := true }

theorem FnOk.ofBox {P : Program} {f : Nat} {t : CT} {s : List PS} {rs : List (Bool × FT)} {G : List AV → Option (resD rs × t.D)} (h : FnOk P f { R := resD rs × t.D, fn := G, av := fun y => avOf rs y.1, back := fun y => cellsOf t (.own none) y.2, bx := true })
    {F : t.D → Args s → Option (resD rs × t.D)} (hF : ∀ x a, G (.val true (cellsOf t (.own none) x) :: argsOf s a) = F x a) : FnOk P f (entBox t s rs F) := by
  intro xs y hy
  simp only [entBox] at hy y
  split at hy
  · rename_i cs rest
    split at hy
    · rename_i x hx
      cases ha : ofArgs s rest with
      | none => rw [ha] at hy; cases hy
      | some a =>
        rw [ha] at hy
        have hy' : G (.val true (cellsOf t (.own none) x) :: argsOf s a) = some y := by rw [hF x a]; exact hy
        have hh := h _ y hy'
        refine ⟨hh.1, fun _ h => (by cases h), fun h => (by cases h), fun _ cs0 rest0 he A w b vs arr T fr hw fp hA hblk hth hrel hn hnb hlt hw0 hargs => ?_⟩
        injection he with he1 he2
        injection he1 with _ he3
        subst he2; subst he3
        refine hh.2.2.2 rfl (cellsOf t (.own none) x) (argsOf s a) rfl A w b vs arr T fr hw fp hA hblk hth ?_ hn hnb hlt hw0 (ofArgs_rel ha hargs)
        obtain ⟨f1, f2, rfl, hown, hrest⟩ := ofCells_own hrel hx
        have hnil : arr.toList.drop t.size = [] := by
          cases hd : arr.toList.drop t.size with
          | nil => rfl
          | cons _ _ => rw [hd] at hrest; exact hrest.elim
        rw [hnil] at hrest
        have hf2 : f2 = [] := hrest
        subst hf2
        have htake : arr.toList.take t.size = arr.toList := by
          have := List.take_append_drop t.size arr.toList
          rw [hnil, List.append_nil] at this; exact this
        rw [htake] at hown
        rw [List.append_nil]
        exact own_cells (c := rcArg A hw w) hown
    · cases hy
  · cases hy

theorem loop_iter {R σ : Type} {key : List Nat} {B : AS → (Ex → AS → Option R) → Option R} {K : Ex → AS → Option R} (enc : σ → AS) (T : (σ → Option R) → σ → Option R)
    (h : ∀ m x, loopC key B (m + 1) (enc x) K = T (fun y => loopC key B m (enc y) K) x) : ∀ m x, loopC key B m (enc x) K = iterL T m x
  | 0, _ => rfl
  | m + 1, x => by
    rw [h m x]
    have : (fun y => loopC key B m (enc y) K) = iterL T m := funext fun y => loop_iter enc T h m y
    rw [this]; rfl

theorem decSlots_spec : ∀ {l : List PD} {vs : List AV} {x : slotsD l}, decSlots l vs = some x → vs = encSlots l x
  | [], [], _, _ => rfl
  | [], _ :: _, _, h => by simp [decSlots] at h
  | .data g t :: l, [], _, h => by simp [decSlots] at h
  | .data g t :: l, .tup _ :: vs, _, h => by simp [decSlots] at h
  | .data g t :: l, .val g' cs :: vs, x, h => by
    simp only [decSlots] at h
    cases hg : g == g' with
    | false => rw [hg] at h; cases h
    | true =>
      rw [hg] at h
      simp only [cond_true] at h
      have hg' : g = g' := by simpa using hg
      subst hg'
      split at h
      · rename_i y hy
        obtain ⟨r, hr, h⟩ := Option.bind_eq_some_iff.1 h
        cases h
        have h1 := ofF_spec hy
        rw [List.append_nil] at h1
        rw [encSlots, h1, decSlots_spec hr]
      · cases h
  | .bot :: l, [], x, h => by simp [decSlots] at h
  | .ptr s off :: l, [], x, h => by simp [decSlots] at h
  | .fn f :: l, [], x, h => by simp [decSlots] at h
  | .bot :: l, v :: vs, x, h => by
    simp only [decSlots] at h
    cases hg : v.isBot with
    | false => rw [hg] at h; cases h
    | true => rw [hg] at h; rw [isBot_spec hg, encSlots, decSlots_spec (l := l) h]
  | .ptr s off :: l, v :: vs, x, h => by
    simp only [decSlots] at h
    cases hg : v.isPtr s off with
    | false => rw [hg] at h; cases h
    | true => rw [hg] at h; rw [isPtr_spec hg, encSlots, decSlots_spec (l := l) h]
  | .fn f :: l, v :: vs, x, h => by
    simp only [decSlots] at h
    cases hg : v.isFn f with
    | false => rw [hg] at h; cases h
    | true => rw [hg] at h; rw [isFn_spec hg, encSlots, decSlots_spec (l := l) h]

theorem decBoxes_spec : ∀ {l : List (Option FT)} {bs : List (Option (List AC))} {x : boxesD l}, decBoxes l bs = some x → bs = encBoxes l x
  | [], [], _, _ => rfl
  | [], _ :: _, _, h => by simp [decBoxes] at h
  | some t :: l, [], _, h => by simp [decBoxes] at h
  | none :: l, [], _, h => by simp [decBoxes] at h
  | some t :: l, none :: bs, _, h => by simp [decBoxes] at h
  | none :: l, some _ :: bs, _, h => by simp [decBoxes] at h
  | none :: l, none :: bs, x, h => by
    simp only [decBoxes] at h
    rw [encBoxes, decBoxes_spec h]
  | some t :: l, some cs :: bs, x, h => by
    simp only [decBoxes] at h
    split at h
    · rename_i y hy
      obtain ⟨r, hr, h⟩ := Option.bind_eq_some_iff.1 h
      cases h
      have h1 := ofF_spec hy
      rw [List.append_nil] at h1
      rw [encBoxes, h1, decBoxes_spec hr]
    · cases h

theorem decIo_spec : ∀ {o : IoD} {cs : List AC} {x : ioD o}, decIo o cs = some x → cs = encIo o x
  | .none, [], _, _ => rfl
  | .none, _ :: _, _, h => by simp [decIo] at h
  | .ptr, cs, x, h => by
    simp only [decIo] at h
    cases hp : isPtr0 cs with
    | false => rw [hp] at h; cases h
    | true =>
      unfold isPtr0 at hp
      split at hp
      · rfl
      · cases hp
  | .some t, cs, x, h => by
    simp only [decIo] at h
    split at h
    · rename_i y hy
      cases h
      have h1 := ofF_spec hy
      rw [List.append_nil] at h1
      rw [encIo, h1]
    · cases h

theorem SD.dec_spec {d : SD} {st : AS} {x : d.D} (h : d.dec st = some x) : st = d.enc x := by
  unfold SD.dec at h
  cases hc : (st.ep == 0 && st.iss == List.replicate d.slots.length false) with
  | false => rw [hc] at h; cases h
  | true =>
    rw [hc] at h
    simp only [cond_true] at h
    obtain ⟨y, hy, h⟩ := Option.bind_eq_some_iff.1 h
    obtain ⟨z, hz, h⟩ := Option.bind_eq_some_iff.1 h
    obtain ⟨u, hu, h⟩ := Option.bind_eq_some_iff.1 h
    cases h
    simp only [Bool.and_eq_true, beq_iff_eq] at hc
    cases st with
    | mk slots boxes ep iss io =>
      simp only at hc hy hz hu
      obtain ⟨rfl, rfl⟩ := hc
      rw [decSlots_spec hy, decBoxes_spec hz, decIo_spec hu]
      rfl

theorem lok {E : Env} {Γ : Gam} {an : An} {Λ : Lam} {c : Code} (l : LEnt) (h1 : Λ (firstReg c) = l) (n : Nat)
    (h2 : ∀ (R : Type) (x : l.sd.D) (K : Ex → AS → Option R), l.run x K = loopC (an.mask (firstReg c)) (den E Γ an Λ c) n (l.sd.enc x) K) : LOk E Γ an Λ c := by
  refine ⟨n, fun R st K r h => ?_⟩
  rw [h1] at h
  unfold LEnt.go at h
  cases hd : l.sd.dec st with
  | none => rw [hd] at h; cases h
  | some x =>
    rw [hd] at h
    rw [SD.dec_spec hd, ← h2]
    exact h

end Go.Dn
