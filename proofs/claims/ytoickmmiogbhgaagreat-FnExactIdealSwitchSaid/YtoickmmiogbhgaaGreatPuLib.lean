import Derived.Test.YtoickmmiogbhgaaGreatDnData
/- Plain laws of the partial operations and of loops. -/
namespace Go.Pu
open Go.Dn

theorem wrap64 {n : Int} (h1 : -9223372036854775808 ≤ n) (h2 : n ≤ 9223372036854775807) : IntKind.wrap .i64 n = n := by
  simp only [IntKind.wrap, IntKind.bits, IntKind.signed]
  simp
  omega

@[simp] theorem bindO_some {α R : Type} (a : α) (k : α → Option R) : bindO (some a) k = k a := rfl
@[simp] theorem bindO_none {α R : Type} (k : α → Option R) : bindO none k = none := rfl
theorem bindO_cond {α R : Type} (c : Bool) (x y : Option α) (k : α → Option R) : bindO (cond c x y) k = cond c (bindO x k) (bindO y k) := by cases c <;> rfl
@[simp] theorem bindO_cond_some {α R : Type} (c : Bool) (x y : α) (k : α → Option R) : bindO (cond c (some x) (some y)) k = k (cond c x y) := by cases c <;> rfl
theorem cond_some {α : Type} (c : Bool) (x y : α) : cond c (some x) (some y) = some (cond c x y) := by cases c <;> rfl
theorem room_le {R : Type} {n : Nat} {k : Option R} (h : n ≤ 1073741824) : room n k = k := by simp [room, h]

theorem idx_nat {α : Type} (xs : List α) (i : Nat) : idx xs (i : Int) = xs[i]? := rfl
theorem idx_lt {α : Type} {xs : List α} {i : Nat} (h : i < xs.length) : idx xs (i : Int) = some xs[i] := by rw [idx_nat]; exact List.getElem?_eq_getElem h
theorem idx_neg {α : Type} {xs : List α} {i : Int} (h : i < 0) : idx xs i = none := by
  cases i with
  | ofNat n => simp at h; omega
  | negSucc n => rfl

/-- a loop that counts up to N -/
def upK {σ R : Type} (step : Nat → σ → (σ → Option R) → Option R) (fin : σ → Option R) (N : Nat) : Nat → Nat → σ → Option R
  | 0, _, s => fin s
  | n + 1, i, s => step i s (fun s' => upK step fin N n (i + 1) s')

theorem iter_up {X σ R : Type} {T : (X → Option R) → X → Option R} (N : Nat) (e : σ → Nat → X) (step : Nat → σ → (σ → Option R) → Option R) (fin : σ → Option R)
    (hs : ∀ i s nx, i < N → T nx (e s i) = step i s (fun s' => nx (e s' (i + 1)))) (hf : ∀ s nx, T nx (e s N) = fin s) :
    ∀ n i s, i ≤ N → N - i < n → iterL T n (e s i) = upK step fin N (N - i) i s := by
  intro n
  induction n with
  | zero => intro i s _ h; omega
  | succ n ih =>
    intro i s hi hn
    rw [iterL]
    rcases Nat.lt_or_ge i N with hlt | hge
    · rw [hs i s _ hlt, show N - i = (N - (i + 1)) + 1 by omega, upK]
      congr 1
      funext s'
      exact ih (i + 1) s' (by omega) (by omega)
    · have : i = N := by omega
      subst this
      rw [hf, Nat.sub_self, upK]

/-- the same along a list -/
def foldK {α σ R : Type} (step : α → σ → (σ → Option R) → Option R) (fin : σ → Option R) : List α → σ → Option R
  | [], s => fin s
  | x :: xs, s => step x s (foldK step fin xs)

theorem iter_list {α X σ R : Type} {T : (X → Option R) → X → Option R} (xs : List α) (e : σ → Nat → X) (step : α → σ → (σ → Option R) → Option R) (fin : σ → Option R)
    (hs : ∀ i (h : i < xs.length) s nx, T nx (e s i) = step xs[i] s (fun s' => nx (e s' (i + 1)))) (hf : ∀ s nx, T nx (e s xs.length) = fin s) :
    ∀ n i s, i ≤ xs.length → xs.length - i < n → iterL T n (e s i) = foldK step fin (xs.drop i) s := by
  intro n
  induction n with
  | zero => intro i s _ h; omega
  | succ n ih =>
    intro i s hi hn
    rw [iterL]
    rcases Nat.lt_or_ge i xs.length with hlt | hge
    · rw [hs i hlt s _, List.drop_eq_getElem_cons hlt, foldK]
      congr 1
      funext s'
      exact ih (i + 1) s' (by omega) (by omega)
    · have : i = xs.length := by omega
      subst this
      rw [hf, List.drop_length, foldK]

-- sizes
def szC : (t : CT) → t.D → Nat
  | .int _, _ => 0
  | .bool, _ => 0
  | .str, s => s.length
  | .sl e, xs => xs.length + (xs.map (szC e)).sum
  | .pair a b, x => szC a x.1 + szC b x.2

/-- no list longer than n -/
def LenB (n : Nat) : (t : CT) → t.D → Prop
  | .int _, _ => True
  | .bool, _ => True
  | .str, s => s.length ≤ n
  | .sl e, xs => xs.length ≤ n ∧ ∀ x ∈ xs, LenB n e x
  | .pair a b, x => LenB n a x.1 ∧ LenB n b x.2

theorem mem_sum_le {α : Type} (f : α → Nat) : ∀ (xs : List α) (x : α), x ∈ xs → f x ≤ (xs.map f).sum
  | y :: ys, x, h => by
    rcases List.mem_cons.1 h with rfl | h
    · simp
    · have := mem_sum_le f ys x h; simp; omega

theorem szC_len {n : Nat} : ∀ {t : CT} {x : t.D}, szC t x ≤ n → LenB n t x
  | .int _, _, _ => trivial
  | .bool, _, _ => trivial
  | .str, _, h => h
  | .sl e, xs, h => by
    simp only [szC] at h
    exact ⟨by omega, fun x hx => szC_len (by have := mem_sum_le (szC e) xs x hx; omega)⟩
  | .pair a b, x, h => by
    simp only [szC] at h
    exact ⟨szC_len (by omega), szC_len (by omega)⟩

theorem LenB.mono {n m : Nat} (h : n ≤ m) : ∀ {t : CT} {x : t.D}, LenB n t x → LenB m t x
  | .int _, _, _ => trivial
  | .bool, _, _ => trivial
  | .str, _, k => Nat.le_trans k h
  | .sl _, _, k => ⟨Nat.le_trans k.1 h, fun x hx => LenB.mono h (k.2 x hx)⟩
  | .pair _ _, _, k => ⟨LenB.mono h k.1, LenB.mono h k.2⟩

/-- numbers within 64 bits, lengths that a machine holds -/
def In64 : (t : CT) → t.D → Prop
  | .int k, n => k.min ≤ n ∧ n ≤ k.max
  | .bool, _ => True
  | .str, s => s.length ≤ 9223372036854775807
  | .sl e, xs => xs.length ≤ 9223372036854775807 ∧ ∀ x ∈ xs, In64 e x
  | .pair a b, x => In64 a x.1 ∧ In64 b x.2

/-- what is left of a budget -/
def leftOf (l n : Int) : Int := if n ≤ l then l - n else -1

-- copies of lists
def toListT {α β R : Type} (f : α → Option β) (k0 : List β → Int → Option R) (v0 : List α) (nx : List β × Int → Option R) (x : List β × Int) : Option R :=
  cond (decide (x.2 < (List.length v0 : Int))) (
    bindO (idx v0 x.2) fun x1 =>
    bindO (f x1) fun r2 =>
    bindO (idx x.1 x.2) fun _ =>
    bindO (idx x.1 x.2) fun _ =>
    nx (List.set x.1 (Int.toNat x.2) r2, IntKind.wrap .i64 (x.2 + 1))) (
    k0 x.1 x.2)
noncomputable def toListG {α β : Type} (f : α → Option β) (z : β) (a0 : List α) : Option (List β) :=
  if 0 ≤ ((List.length a0 : Int)) ∧ ((List.length a0 : Int)) ≤ ((List.length a0 : Int)) then (
  room (Int.toNat ((List.length a0 : Int))) (
  iterL (toListT f (fun y5 _ => some y5) a0) fuel (List.replicate (Int.toNat ((List.length a0 : Int))) z, 0))) else none

theorem toListG_id {α : Type} {f : α → Option α} {z : α} {a : List α} (hn : a.length ≤ 1073741824) (hf : ∀ x ∈ a, f x = some x) : toListG f z a = some a := by
  unfold toListG
  have hfu := fuel_ge
  rw [if_pos (by omega), room_le (by simp; omega)]
  have key := iter_up (T := toListT f (fun y5 _ => some y5) a) a.length (fun (_ : Unit) i => (a.take i ++ List.replicate (a.length - i) z, (i : Int))) (fun _ s k => k s) (fun _ => some a)
    (fun i s nx hi => by
      have h1 : (a.take i).length = i := by simp; omega
      have hl : i < (a.take i ++ List.replicate (a.length - i) z).length := by simp; omega
      simp only [toListT]
      rw [decide_eq_true (by omega)]
      simp only [cond_true, idx_lt hi, bindO_some, hf _ (List.getElem_mem hi), idx_lt hl]
      congr 1
      refine Prod.ext ?_ (wrap64 (by omega) (by omega))
      simp only [Int.toNat_natCast]
      rw [List.set_append_right _ _ (by omega), h1, Nat.sub_self, List.take_succ_eq_append_getElem hi, show a.length - i = (a.length - (i + 1)) + 1 by omega, List.replicate_succ, List.set_cons_zero, List.append_assoc, List.singleton_append])
    (fun s nx => by
      simp only [toListT]
      rw [decide_eq_false (by omega)]
      simp)
    fuel 0 () (by omega) (by omega)
  simp only [List.take_zero, List.nil_append, Nat.sub_zero, Int.toNat_natCast] at key ⊢
  have e : ((0 : Nat) : Int) = 0 := rfl
  rw [e] at key
  rw [key]
  have : ∀ n i, upK (R := List α) (fun _ (s : Unit) k => k s) (fun _ => some a) a.length n i () = some a := by
    intro n
    induction n with
    | zero => intro i; rfl
    | succ n ih => intro i; rw [upK]; exact ih _
  exact this _ _

-- sizes of lists
def szListT {α R : Type} (f : α → Int → Option Int) (k0 : Int → Int → Option R) (k1 : Int → Int → Int → Option R) (v0 : List α) (nx : Int × Int → Option R) (x : Int × Int) : Option R :=
  cond (decide (x.2 < ((List.length v0 : Int)))) (
    bindO (idx v0 x.2) fun x1 =>
    bindO (f x1 x.1) fun r2 =>
    cond (decide (r2 < 0)) (
      k1 r2 (-1) x.2) (
      nx (r2, IntKind.wrap .i64 (x.2 + 1)))) (
    k0 x.1 x.2)
noncomputable def szListG {α : Type} (f : α → Int → Option Int) (a0 : List α) (a1 : Int) : Option Int :=
  cond (decide ((IntKind.wrap .i64 (a1 - ((List.length a0 : Int)))) < 0)) (
    some (-1)) (
    iterL (szListT f (fun y3 _ => some y3) (fun _ y6 _ => some y6) a0) fuel (IntKind.wrap .i64 (a1 - ((List.length a0 : Int))), 0))

theorem szListG_eq {α : Type} {f : α → Int → Option Int} {s : α → Nat} {a : List α} {l : Int} (h0 : 0 ≤ l) (h1 : l ≤ 1048576) (hm : a.length ≤ 9223372036854775807)
    (hf : ∀ x ∈ a, ∀ l : Int, 0 ≤ l → l ≤ 1048576 → ∃ r, f x l = some r ∧ ((s x : Int) ≤ l → r = l - s x) ∧ (¬ (s x : Int) ≤ l → r < 0)) : szListG f a l = some (leftOf l ((a.length + (a.map s).sum : Nat) : Int)) := by
  unfold szListG
  have hfu := fuel_ge
  rw [wrap64 (by omega) (by omega)]
  rcases Int.lt_or_le (l - a.length) 0 with hneg | hpos
  · rw [decide_eq_true hneg]
    simp only [cond_true, leftOf]
    rw [if_neg (by omega)]
  · rw [decide_eq_false (by omega)]
    simp only [cond_false]
    have key := iter_list (T := szListT f (fun y3 _ => some y3) (fun _ y6 _ => some y6) a) a (fun (q : Int) i => (q, (i : Int)))
      (fun x q k => bindO (f x q) fun r => cond (decide (r < 0)) (some (-1)) (k r)) (fun q => some q)
      (fun i hi q nx => by
        simp only [szListT]
        rw [decide_eq_true (by omega)]
        simp only [cond_true, idx_lt hi, bindO_some]
        rw [wrap64 (by omega) (by omega)]
        rfl)
      (fun q nx => by
        simp only [szListT]
        rw [decide_eq_false (by omega)]
        rfl)
      fuel 0 (l - a.length) (by omega) (by omega)
    have e : ((0 : Nat) : Int) = 0 := rfl
    rw [e, List.drop_zero] at key
    rw [key]
    have main : ∀ (b : List α) (q : Int), 0 ≤ q → q ≤ 1048576 → (∀ x ∈ b, x ∈ a) → foldK (fun x q k => bindO (f x q) fun r => cond (decide (r < 0)) (some (-1)) (k r)) (fun q => some q) b q = some (leftOf q ((b.map s).sum : Nat)) := by
      intro b
      induction b with
      | nil => intro q hq _ _; simp [foldK, leftOf, hq]
      | cons x b ih =>
        intro q hq hq2 hb
        obtain ⟨r, hr, hr1, hr2⟩ := hf x (hb x (by simp)) q hq hq2
        rw [foldK, hr, bindO_some]
        by_cases hle : (s x : Int) ≤ q
        · have := hr1 hle
          subst this
          rw [decide_eq_false (by omega)]
          simp only [cond_false]
          rw [ih _ (by omega) (by omega) (fun y hy => hb y (by simp [hy]))]
          simp only [leftOf, List.map_cons, List.sum_cons]
          congr 1
          split <;> split <;> omega
        · rw [decide_eq_true (hr2 hle)]
          simp only [cond_true, leftOf, List.map_cons, List.sum_cons]
          rw [if_neg (by omega)]
    rw [main a _ (by omega) (by omega) (fun x h => h)]
    simp only [leftOf]
    congr 1
    split <;> split <;> omega

-- lists compared
def eqListT {α R : Type} (f : α → α → Option Bool) (k0 : Int → Option R) (k1 : Bool → Int → Option R) (v0 v1 : List α) (nx : Int → Option R) (x : Int) : Option R :=
  cond (decide (x < ((List.length v0 : Int)))) (
    bindO (idx v0 x) fun x1 =>
    bindO (idx v1 x) fun x2 =>
    bindO (f x1 x2) fun r3 =>
    cond (!r3) (
      k1 false x) (
      nx (IntKind.wrap .i64 (x + 1)))) (
    k0 x)
noncomputable def eqListG {α : Type} (f : α → α → Option Bool) (a0 a1 : List α) : Option Bool :=
  cond (((List.length a0 : Int)) != ((List.length a1 : Int))) (
    some false) (
    iterL (eqListT f (fun _ => some true) (fun y5 _ => some y5) a0 a1) fuel 0)

theorem eqListG_self {α : Type} {f : α → α → Option Bool} {a : List α} (hm : a.length ≤ 1000000000000) (hf : ∀ x ∈ a, f x x = some true) : eqListG f a a = some true := by
  unfold eqListG
  have hfu := fuel_ge
  simp only [bne_self_eq_false, cond_false]
  have key := iter_list (T := eqListT f (fun _ => some true) (fun y5 _ => some y5) a a) a (fun (_ : Unit) i => (i : Int)) (fun x s k => bindO (f x x) fun r => cond (!r) (some false) (k s)) (fun _ => some true)
    (fun i hi s nx => by
      simp only [eqListT]
      rw [decide_eq_true (by omega)]
      simp only [cond_true, idx_lt hi, bindO_some]
      rw [wrap64 (by omega) (by omega)]
      rfl)
    (fun s nx => by
      simp only [eqListT]
      rw [decide_eq_false (by omega)]
      rfl)
    fuel 0 () (by omega) (by omega)
  have e : ((0 : Nat) : Int) = 0 := rfl
  rw [e, List.drop_zero] at key
  rw [key]
  have main : ∀ (b : List α), (∀ x ∈ b, x ∈ a) → foldK (fun x s k => bindO (f x x) fun r => cond (!r) (some false) (k s)) (fun _ => some true) b () = some true := by
    intro b
    induction b with
    | nil => intro _; rfl
    | cons x b ih => intro hb; rw [foldK, hf x (hb x (by simp))]; simp only [bindO_some, Bool.not_true, cond_false]; exact ih (fun y hy => hb y (by simp [hy]))
  exact main a (fun x h => h)

-- lists of plain things
theorem toFlatG_id {α : Type} {z : α} {a : List α} (hn : a.length ≤ 1073741824) : toListG some z a = some a := toListG_id hn (fun _ _ => rfl)
theorem eqFlatG_self {α : Type} [BEq α] [LawfulBEq α] {a : List α} (hm : a.length ≤ 1000000000000) : eqListG (fun x y : α => some (x == y)) a a = some true := eqListG_self hm (fun x _ => by simp)
theorem sum_zero {α : Type} {f : α → Nat} : ∀ {xs : List α}, (∀ x ∈ xs, f x = 0) → (xs.map f).sum = 0
  | [], _ => rfl
  | x :: xs, h => by
    have := sum_zero (xs := xs) (f := f) (fun y hy => h y (by simp [hy]))
    simp [h x (by simp), this]

-- budgets
def SzOk (f : Int → Option Int) (n : Nat) : Prop := ∀ l : Int, 0 ≤ l → l ≤ 1048576 → f l = some (leftOf l n)

theorem SzOk.nil : SzOk (fun l => some l) 0 := fun l h0 _ => by simp [leftOf, h0]
theorem SzOk.len {n m : Nat} (hn : n ≤ 9223372036854775807) {k : Int → Option Int} (h : SzOk k m) :
    SzOk (fun l => cond (decide (IntKind.wrap .i64 (l - (n : Int)) < 0)) (some (-1)) (k (IntKind.wrap .i64 (l - (n : Int))))) (n + m) := by
  intro l h0 h1
  simp only
  rw [wrap64 (by omega) (by omega)]
  by_cases hl : l - (n : Int) < 0
  · rw [decide_eq_true hl]; simp only [cond_true, leftOf]; rw [if_neg (by omega)]
  · rw [decide_eq_false hl]
    simp only [cond_false]
    rw [h _ (by omega) (by omega)]
    simp only [leftOf]
    congr 1
    split <;> split <;> omega
theorem SzOk.sub {f k : Int → Option Int} {n m : Nat} (hf : SzOk f n) (h : SzOk k m) : SzOk (fun l => bindO (f l) fun r => cond (decide (r < 0)) (some (-1)) (k r)) (n + m) := by
  intro l h0 h1
  simp only
  rw [hf l h0 h1, bindO_some]
  by_cases hl : (n : Int) ≤ l
  · have e : leftOf l n = l - n := by simp [leftOf, hl]
    rw [e, decide_eq_false (by omega)]
    simp only [cond_false]
    rw [h _ (by omega) (by omega)]
    simp only [leftOf]
    congr 1
    split <;> split <;> omega
  · have e : leftOf l n = -1 := by simp [leftOf, hl]
    rw [e]
    simp only [leftOf]
    rw [if_neg (by omega)]
    rfl
theorem SzOk.cast {f : Int → Option Int} {n m : Nat} (h : SzOk f n) (e : n = m) : SzOk f m := e ▸ h
theorem SzOk.list {α : Type} {f : α → Int → Option Int} {s : α → Nat} {a : List α} (hm : a.length ≤ 9223372036854775807) (hf : ∀ x ∈ a, SzOk (f x) (s x)) : SzOk (szListG f a) (a.length + (a.map s).sum) :=
  fun _ h0 h1 => szListG_eq h0 h1 hm (fun x hx l h0 h1 => ⟨_, hf x hx l h0 h1, fun h => by simp [leftOf, h], fun h => by simp [leftOf, h]⟩)

theorem SzOk.flat {n : Nat} (hn : n ≤ 9223372036854775807) : SzOk (fun l => cond (decide (IntKind.wrap .i64 (l - (n : Int)) < 0)) (some (-1)) (some (IntKind.wrap .i64 (l - (n : Int))))) n :=
  (SzOk.len (n := n) hn SzOk.nil).cast (by omega)
theorem SzOk.strs {a : List (List UInt8)} (hm : In64 (.sl .str) a) : SzOk (szListG (fun x l => some (IntKind.wrap .i64 (l - (x.length : Int)))) a) (szC (.sl .str) a) :=
  fun _ h0 h1 => szListG_eq (s := szC .str) h0 h1 hm.1 (fun x hx l h0 h1 => ⟨l - x.length, by
    have : x.length ≤ 9223372036854775807 := hm.2 x hx
    rw [wrap64 (by omega) (by omega)], fun _ => rfl, fun h => by simp only [szC] at h; omega⟩)

/-- a law's budget: either it is used up, or what was weighed is small -/
theorem SzOk.use {f : Int → Option Int} {n : Nat} (hf : SzOk f n) {l : Int} (h0 : 0 ≤ l) (h1 : l ≤ 1048576) {k : Int → Option Bool} (hk : (n : Int) ≤ l → k (l - n) = some true) :
    (bindO (f l) fun r => cond (decide (r < 0)) (some true) (k r)) = some true := by
  rw [hf l h0 h1, bindO_some]
  by_cases hl : (n : Int) ≤ l
  · have e : leftOf l n = l - n := by simp [leftOf, hl]
    rw [e, decide_eq_false (by omega)]
    exact hk hl
  · have e : leftOf l n = -1 := by simp [leftOf, hl]
    rw [e]; rfl

/-- a search that ends at the first hit -/
theorem any_iter {α R : Type} {T : (Int → Option R) → Int → Option R} {fin hit : Option R} (p : α → Bool) (a : List α) (h : a.length ≤ 1000000000000)
    (hs : ∀ i (hi : i < a.length) nx, T nx (i : Int) = cond (p a[i]) hit (nx ((i + 1 : Nat) : Int))) (hf : ∀ nx, T nx (a.length : Int) = fin) :
    iterL T fuel 0 = cond (a.any p) hit fin := by
  have hfu := fuel_ge
  have key : ∀ n i, i ≤ a.length → a.length - i < n → iterL T n (i : Int) = cond ((a.drop i).any p) hit fin := by
    intro n
    induction n with
    | zero => intro i _ h; omega
    | succ n ih =>
      intro i hi hn
      rw [iterL]
      rcases Nat.lt_or_ge i a.length with hlt | hge
      · rw [hs i hlt, List.drop_eq_getElem_cons hlt, List.any_cons]
        cases hq : p a[i] with
        | true => rfl
        | false => exact ih (i + 1) (by omega) (by omega)
      · have : i = a.length := by omega
        subst this
        rw [hf, List.drop_length]; rfl
  exact key fuel 0 (by omega) (by omega)

/-- a loop that counts, and ends at the first number that fails -/
theorem alln_iter {R : Type} {T : (Int → Option R) → Int → Option R} {fin hit : Option R} (p : Nat → Bool) (N : Nat) (h : N ≤ 1000000000000)
    (hs : ∀ i nx, i < N → T nx (i : Int) = cond (!(p i)) hit (nx ((i + 1 : Nat) : Int))) (hf : ∀ nx, T nx (N : Int) = fin) :
    iterL T fuel 0 = cond ((List.range N).all p) fin hit := by
  have hfu := fuel_ge
  have key : ∀ n i, i ≤ N → N - i < n → iterL T n (i : Int) = cond ((List.range' i (N - i)).all p) fin hit := by
    intro n
    induction n with
    | zero => intro i _ h; omega
    | succ n ih =>
      intro i hi hn
      rw [iterL]
      rcases Nat.lt_or_ge i N with hlt | hge
      · rw [hs i _ hlt, show N - i = (N - (i + 1)) + 1 by omega, List.range'_succ, List.all_cons]
        cases hq : p i with
        | false => rfl
        | true => exact ih (i + 1) (by omega) (by omega)
      · have : i = N := by omega
        subst this
        rw [hf, Nat.sub_self]; rfl
  have := key fuel 0 (by omega) (by omega)
  rw [Nat.sub_zero, ← List.range_eq_range'] at this
  exact this

/-- the same along a list -/
theorem all_iter' {α R : Type} {T : (Int → Option R) → Int → Option R} {fin hit : Option R} (p : α → Bool) (a : List α) (h : a.length ≤ 1000000000000)
    (hs : ∀ i (hi : i < a.length) nx, T nx (i : Int) = cond (!(p a[i])) hit (nx ((i + 1 : Nat) : Int))) (hf : ∀ nx, T nx (a.length : Int) = fin) :
    iterL T fuel 0 = cond (a.all p) fin hit := by
  have := any_iter (T := T) (fin := fin) (hit := hit) (fun x => !(p x)) a h hs hf
  rw [this]
  have e : a.any (fun x => !(p x)) = !(a.all p) := by
    rw [Bool.eq_iff_iff]; simp
  rw [e]
  cases a.all p <;> rfl

/-- a loop along a list that gathers -/
theorem fold_iter {α X σ R : Type} {T : (X → Option R) → X → Option R} (xs : List α) (e : σ → Nat → X) (g : σ → α → σ) (fin : σ → Option R) (h : xs.length ≤ 1000000000000)
    (hs : ∀ i (hi : i < xs.length) s nx, T nx (e s i) = nx (e (g s xs[i]) (i + 1))) (hf : ∀ s nx, T nx (e s xs.length) = fin s) (s : σ) :
    iterL T fuel (e s 0) = fin (xs.foldl g s) := by
  have hfu := fuel_ge
  have key := iter_list (T := T) xs e (fun x s k => k (g s x)) fin hs hf fuel 0 s (by omega) (by omega)
  rw [key, List.drop_zero]
  clear key hs hf h
  induction xs generalizing s with
  | nil => rfl
  | cons x xs ih => rw [foldK, List.foldl_cons]; exact ih _

/-- a loop that ends at the first round that fails; its state is known by the round -/
theorem allx_iter {X R : Type} {T : (X → Option R) → X → Option R} {fin hit : Option R} (e : Nat → X) (p : Nat → Bool) (N : Nat) (h : N ≤ 1000000000000)
    (hs : ∀ i nx, i < N → (∀ j, j < i → p j = true) → T nx (e i) = cond (!(p i)) hit (nx (e (i + 1)))) (hf : (∀ j, j < N → p j = true) → ∀ nx, T nx (e N) = fin) :
    iterL T fuel (e 0) = cond ((List.range N).all p) fin hit := by
  have hfu := fuel_ge
  have key : ∀ n i, i ≤ N → N - i < n → (∀ j, j < i → p j = true) → iterL T n (e i) = cond ((List.range' i (N - i)).all p) fin hit := by
    intro n
    induction n with
    | zero => intro i _ h; omega
    | succ n ih =>
      intro i hi hn hp
      rw [iterL]
      rcases Nat.lt_or_ge i N with hlt | hge
      · rw [hs i _ hlt hp, show N - i = (N - (i + 1)) + 1 by omega, List.range'_succ, List.all_cons]
        cases hq : p i with
        | false => rfl
        | true =>
          refine ih (i + 1) (by omega) (by omega) fun j hj => ?_
          by_cases hji : j = i
          · rw [hji]; exact hq
          · exact hp j (by omega)
      · have : i = N := by omega
        subst this
        rw [hf hp, Nat.sub_self]; rfl
  have := key fuel 0 (by omega) (by omega) (fun j hj => absurd hj (by omega))
  rw [Nat.sub_zero, ← List.range_eq_range'] at this
  exact this

/-- a search for the first place -/
theorem find_iter {α R : Type} {T : (Int → Option R) → Int → Option R} {fin : Option R} {hit : Int → Option R} (p : α → Bool) (a : List α) (h : a.length ≤ 1000000000000)
    (hs : ∀ i (hi : i < a.length) nx, T nx (i : Int) = cond (p a[i]) (hit (i : Int)) (nx ((i + 1 : Nat) : Int))) (hf : ∀ nx, T nx (a.length : Int) = fin) :
    iterL T fuel 0 = (match a.findIdx? p with | some i => hit (i : Int) | none => fin) := by
  have hfu := fuel_ge
  have key : ∀ n i, i ≤ a.length → a.length - i < n → iterL T n (i : Int) = (match (a.drop i).findIdx? p with | some j => hit ((i + j : Nat) : Int) | none => fin) := by
    intro n
    induction n with
    | zero => intro i _ h; omega
    | succ n ih =>
      intro i hi hn
      rw [iterL]
      rcases Nat.lt_or_ge i a.length with hlt | hge
      · rw [hs i hlt, List.drop_eq_getElem_cons hlt, List.findIdx?_cons]
        cases hq : p a[i] with
        | true => rfl
        | false =>
          have := ih (i + 1) (by omega) (by omega)
          simp only [cond_false]
          refine this.trans ?_
          cases (a.drop (i + 1)).findIdx? p with
          | none => rfl
          | some j => simp only [Option.map_some, Bool.false_eq_true, if_false]; congr 2; omega
      · have : i = a.length := by omega
        subst this
        rw [hf, List.drop_length]; rfl
  have := key fuel 0 (by omega) (by omega)
  refine this.trans ?_
  rw [List.drop_zero]
  cases a.findIdx? p with
  | none => rfl
  | some j => simp only [Nat.zero_add]

-- conditions as truth values
theorem cF (a b : Bool) : (bif a then b else false) = (a && b) := by cases a <;> rfl
theorem cT (a b : Bool) : (bif a then true else b) = (a || b) := by cases a <;> rfl
theorem cN (a b : Bool) : (bif a then false else b) = (!a && b) := by cases a <;> rfl

/-- loops whose rounds end or go on, with an invariant -/
def runG {α σ R : Type} (g : α → σ → Except (Option R) σ) (fin : σ → Option R) : List α → σ → Option R
  | [], s => fin s
  | x :: xs, s => match g x s with | .error r => r | .ok s' => runG g fin xs s'
theorem run_iter {α X σ R : Type} {T : (X → Option R) → X → Option R} (xs : List α) (e : σ → Nat → X) (Inv : Nat → σ → Prop) (g : α → σ → Except (Option R) σ) (fin : σ → Option R) (h : xs.length ≤ 1000000000000)
    (hs : ∀ i (hi : i < xs.length) s nx, Inv i s → T nx (e s i) = match g xs[i] s with | .error r => r | .ok s' => nx (e s' (i + 1)))
    (hn : ∀ i (hi : i < xs.length) s s', Inv i s → g xs[i] s = .ok s' → Inv (i + 1) s') (hf : ∀ s nx, Inv xs.length s → T nx (e s xs.length) = fin s) (s : σ) (h0 : Inv 0 s) :
    iterL T fuel (e s 0) = runG g fin xs s := by
  have key : ∀ n i s, i ≤ xs.length → xs.length - i < n → Inv i s → iterL T n (e s i) = runG g fin (xs.drop i) s := by
    intro n
    induction n with
    | zero => intro i s _ h; omega
    | succ n ih =>
      intro i s hi hn' hI
      rw [iterL]
      rcases Nat.lt_or_ge i xs.length with hlt | hge
      · rw [hs i hlt s _ hI, List.drop_eq_getElem_cons hlt, runG]
        cases hg : g xs[i] s with
        | error r => rfl
        | ok s' => exact ih (i + 1) s' (by omega) (by omega) (hn i hlt s s' hI hg)
      · have : i = xs.length := by omega
        subst this
        rw [hf s _ hI, List.drop_length, runG]
  have hfu := fuel_ge
  have := key fuel 0 s (by omega) (by omega) h0
  rwa [List.drop_zero] at this
theorem runG_ok {α σ R : Type} (f : σ → α → σ) (fin : σ → Option R) : ∀ (xs : List α) (s : σ), runG (fun x s => .ok (f s x)) fin xs s = fin (xs.foldl f s)
  | [], _ => rfl
  | x :: xs, s => by rw [runG]; exact runG_ok f fin xs (f s x)

/-- a loop whose state is known by the round -/
theorem walk_iter {X R : Type} {T : (X → Option R) → X → Option R} {fin : Option R} (e : Nat → X) (N : Nat) (h : N ≤ 1000000000000)
    (hs : ∀ i nx, i < N → T nx (e i) = nx (e (i + 1))) (hf : ∀ nx, T nx (e N) = fin) : iterL T fuel (e 0) = fin := by
  rw [allx_iter (hit := fin) (fin := fin) e (fun _ => true) N h (fun i nx hi _ => by rw [hs i nx hi]; rfl) (fun _ nx => hf nx)]
  cases (List.range N).all (fun _ => true) <;> rfl
theorem room_nil {α R : Type} {l : List α} {k : Option R} (h : l.length ≤ 1000000000) : room (List.length ([] : List α) + l.length) k = k := room_le (by simp only [List.length_nil]; omega)


end Go.Pu
