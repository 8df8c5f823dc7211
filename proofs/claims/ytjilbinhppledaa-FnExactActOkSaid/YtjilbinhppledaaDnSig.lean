import Derived.Test.YtjilbinhppledaaDnLaw
/- Functions by the data that they take. -/
namespace Go.Dn

@[reducible] def Args : List (Bool × CT) → Type
  | [] => Unit
  | s :: r => s.2.D × Args r

/-- the data of an argument's cells, and the cells behind -/
def ofArg : (t : CT) → List AC → Option (t.D × List AC)
  | .int k, .int k' n :: r => if k' = k then some (n, r) else none
  | .bool, .bool b :: r => some (b, r)
  | .str, .str s :: r => some (s, r)
  | .sl e, .sl .arg e' xs :: r => if h : e' = e then some (h ▸ xs, r) else none
  | .pair a b, cs => (ofArg a cs).bind fun x => (ofArg b x.2).bind fun y => some ((x.1, y.1), y.2)
  | _, _ => none

theorem ofArg_spec : ∀ {t : CT} {cs r : List AC} {x : t.D}, ofArg t cs = some (x, r) → cs = cellsOf t .arg x ++ r := by
  intro t
  induction t with
  | int k =>
    intro cs r x h
    cases cs with
    | nil => simp [ofArg] at h
    | cons y ys =>
      cases y <;> simp [ofArg] at h
      obtain ⟨rfl, rfl, rfl⟩ := h
      rfl
  | bool =>
    intro cs r x h
    cases cs with
    | nil => simp [ofArg] at h
    | cons y ys =>
      cases y <;> simp [ofArg] at h
      obtain ⟨rfl, rfl⟩ := h
      rfl
  | str =>
    intro cs r x h
    cases cs with
    | nil => simp [ofArg] at h
    | cons y ys =>
      cases y <;> simp [ofArg] at h
      obtain ⟨rfl, rfl⟩ := h
      rfl
  | sl e _ =>
    intro cs r x h
    cases cs with
    | nil => simp [ofArg] at h
    | cons y ys =>
      cases y with
      | sl fl e' xs =>
        cases fl with
        | arg =>
          simp only [ofArg] at h
          split at h
          · rename_i he
            subst he
            cases h
            rfl
          · cases h
        | own t => simp [ofArg] at h
        | loc ep pv => simp [ofArg] at h
      | _ => simp [ofArg] at h
  | pair a b iha ihb =>
    intro cs r x h
    simp only [ofArg] at h
    obtain ⟨⟨x1, r1⟩, h1, h⟩ := Option.bind_eq_some_iff.1 h
    obtain ⟨⟨x2, r2⟩, h2, h⟩ := Option.bind_eq_some_iff.1 h
    cases h
    have h3 : r1 = cellsOf b .arg x2 ++ r2 := ihb h2
    rw [iha h1, h3]
    simp [cellsOf]

def ofArgs : (s : List (Bool × CT)) → List AV → Option (Args s)
  | [], [] => some ()
  | (g, e) :: s, .val g' cs :: xs => bif g == g' then
      (match ofArg e cs with
       | some (x, []) => (ofArgs s xs).bind fun r => some (x, r)
       | _ => none) else none
  | _, _ => none

def argsOf : (s : List (Bool × CT)) → Args s → List AV
  | [], _ => []
  | (g, e) :: s, a => .val g (cellsOf e .arg a.1) :: argsOf s a.2

theorem ofArgs_spec : ∀ {s : List (Bool × CT)} {xs : List AV} {a : Args s}, ofArgs s xs = some a → xs = argsOf s a
  | [], [], a, _ => rfl
  | [], _ :: _, _, h => by simp [ofArgs] at h
  | (g, e) :: s, [], _, h => by simp [ofArgs] at h
  | (g, e) :: s, .tup _ :: xs, _, h => by simp [ofArgs] at h
  | (g, e) :: s, .val g' cs :: xs, a, h => by
    simp only [ofArgs] at h
    cases hg : g == g' with
    | false => rw [hg] at h; cases h
    | true =>
      rw [hg] at h
      simp only [cond_true] at h
      have hg' : g = g' := by simpa using hg
      subst hg'
      split at h
      · rename_i x hx
        obtain ⟨r, hr, h⟩ := Option.bind_eq_some_iff.1 h
        cases h
        have h1 := ofArg_spec hx
        rw [List.append_nil] at h1
        rw [argsOf, h1, ofArgs_spec hr]
      · cases h

/-- a function of data, as a row of the table -/
def fnOf (s : List (Bool × CT)) (F : Args s → Option AV) : List AV → Option AV := fun xs => bindO (ofArgs s xs) F

theorem FnOk.of {P : Program} {f : Nat} {G : List AV → Option AV} (h : FnOk P f G) {s : List (Bool × CT)} {F : Args s → Option AV} (hF : ∀ a, F a = G (argsOf s a)) : FnOk P f (fnOf s F) := by
  refine h.mono fun xs y hy => ?_
  unfold fnOf at hy
  cases ha : ofArgs s xs with
  | none => rw [ha] at hy; cases hy
  | some a =>
    rw [ha] at hy
    rw [ofArgs_spec ha, ← hF a]
    exact hy

/-- only booleans come out -/
def IsB (o : Option AV) : Prop := ∃ b, o = some (.one (.bool b))
theorem IsB.cond {c : Bool} {x y : Option AV} (h : IsB x) (k : IsB y) : IsB (cond c x y) := by cases c <;> assumption
theorem IsB.bind {o : Option Bool} {k : Bool → Option AV} (h : ∃ b, o = some b) (hk : ∀ b, IsB (k b)) : IsB (bindO o k) := by obtain ⟨b, rfl⟩ := h; exact hk b
theorem IsB.ret (b : Bool) : IsB (some (.one (.bool b))) := ⟨b, rfl⟩
theorem isS_cond {c : Bool} {x y : Option Bool} (h : ∃ b, x = some b) (k : ∃ b, y = some b) : ∃ b, cond c x y = some b := by cases c <;> assumption
theorem isS_ret (b : Bool) : ∃ c, some b = some c := ⟨b, rfl⟩
theorem isS_bind {o : Option Bool} {k : Bool → Option Bool} (h : ∃ b, o = some b) (hk : ∀ b, ∃ c, k b = some c) : ∃ c, bindO o k = some c := by obtain ⟨b, rfl⟩ := h; exact hk b
def theB : Option AV → Bool
  | some (.val _ [.bool b]) => b
  | _ => false
theorem IsB.eq {o : Option AV} (h : IsB o) : o = some (.one (.bool (theB o))) := by obtain ⟨b, rfl⟩ := h; rfl

end Go.Dn
