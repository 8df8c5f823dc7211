import Derived.Test.YtoickmmiogbhgaaGreatPuCodec
/- Marks, once for all types: what the laws write into data, and that it is found there again. -/
namespace Go.Pu
open Go.Dn
noncomputable section

theorem markText_loop {R : Type} (K : Int → Bytes → Option R) : ∀ (n : Nat) (v : Int) (s : Bytes) (m : Nat), 0 ≤ v → v ≤ 1000000000000000 → v < 10 ^ n → s.length + n ≤ 1000 → n < m → ∃ s' : Bytes, s'.length ≤ 1000 ∧ ∃ v', iterL (laws_markText_T4 K) m (v, s) = K v' s'
  | 0, v, s, m, h0, _, h1, hs, hm => by
    have hv : v = 0 := by simp at h1; omega
    subst hv
    cases m with
    | zero => omega
    | succ m => exact ⟨s, by omega, 0, by rw [iterL]; rfl⟩
  | n + 1, v, s, m, h0, hb, h1, hs, hm => by
    cases m with
    | zero => omega
    | succ m =>
      rw [iterL]
      simp only [laws_markText_T4]
      by_cases hv : v > 0
      · have hq : Int.tdiv v 10 = v / 10 := Int.tdiv_eq_ediv_of_nonneg h0
        rw [decide_eq_true hv]
        simp only [cond_true]
        rw [if_neg (by omega), room_le (by simp [bytesOf]; omega), if_neg (by omega), hq, wrap64 (n := v / 10) (by omega) (by omega)]
        exact markText_loop K n (v / 10) _ m (by omega) (by omega) (by rw [Int.pow_succ] at h1; omega) (by simp [bytesOf]; omega) (by omega)
      · rw [decide_eq_false hv]
        exact ⟨s, by omega, v, rfl⟩
theorem markText_some (k : Int) (h1 : 1 ≤ k) (h2 : k ≤ 1000000000000000) : ∃ s, laws_markText k = some s := by
  have hfu := fuel_ge
  unfold laws_markText
  rw [decide_eq_false (by omega)]
  simp only [cond_false]
  obtain ⟨s, hs, v, h⟩ := markText_loop (fun (_ : Int) (y2 : Bytes) => room (List.length ([109] : Bytes) + List.length y2) (some (([109] : Bytes) ++ y2))) 16 k [] fuel (by omega) h2 (by omega) (by simp) (by omega)
  rw [h, room_le (by simp; omega)]
  exact ⟨_, rfl⟩
def txt (k : Int) : Bytes := (laws_markText k).getD []
theorem txt_eq (k : Int) (h1 : 1 ≤ k) (h2 : k ≤ 1000000000000000) : laws_markText k = some (txt k) := by
  obtain ⟨s, hs⟩ := markText_some k h1 h2
  rw [txt, hs]; rfl

/-- how many marks a thing takes -/
def cnt : (t : CT) → t.D → Nat
  | .int _, _ => 1
  | .bool, _ => 1
  | .str, _ => 1
  | .sl e, xs => (xs.map (cnt e)).sum
  | .pair a b, x => cnt a x.1 + cnt b x.2
def mkL {α : Type} (f : α → Int → α) (c : α → Nat) : List α → Int → List α
  | [], _ => []
  | x :: xs, k => f x k :: mkL f c xs (k + c x)
/-- the thing with its marks -/
def mk : (t : CT) → t.D → Int → t.D
  | .int _, _, k => k
  | .bool, _, k => Int.tmod k 3 == 0
  | .str, _, k => txt k
  | .sl e, xs, k => mkL (mk e) (cnt e) xs k
  | .pair a b, x, k => (mk a x.1 k, mk b x.2 (k + cnt a x.1))
/-- the same of what is handed by value: its slices alone -/
def cntT : (t : CT) → t.D → Nat
  | .int _, _ => 0
  | .bool, _ => 0
  | .str, _ => 0
  | .sl e, xs => cnt (.sl e) xs
  | .pair a b, x => cntT a x.1 + cntT b x.2
def mkT : (t : CT) → t.D → Int → t.D
  | .int _, x, _ => x
  | .bool, x, _ => x
  | .str, x, _ => x
  | .sl e, xs, k => mk (.sl e) xs k
  | .pair a b, x, k => (mkT a x.1 k, mkT b x.2 (k + cntT a x.1))

theorem mk_int {k : IntKind} (x k' : Int) : mk (.int k) x k' = k' := rfl
theorem mk_bool (x : Bool) (k : Int) : mk .bool x k = (Int.tmod k 3 == 0) := rfl
theorem mk_str (x : Bytes) (k : Int) : mk .str x k = txt k := rfl
theorem mk_pair {a b : CT} (x : a.D × b.D) (k : Int) : mk (.pair a b) x k = (mk a x.1 k, mk b x.2 (k + cnt a x.1)) := rfl
theorem cnt_int {k : IntKind} (x : Int) : cnt (.int k) x = 1 := rfl
theorem cnt_bool (x : Bool) : cnt .bool x = 1 := rfl
theorem cnt_str (x : Bytes) : cnt .str x = 1 := rfl
theorem cnt_pair {a b : CT} (x : a.D × b.D) : cnt (.pair a b) x = cnt a x.1 + cnt b x.2 := rfl
theorem mkT_int {k : IntKind} (x k' : Int) : mkT (.int k) x k' = x := rfl
theorem mkT_bool (x : Bool) (k : Int) : mkT .bool x k = x := rfl
theorem mkT_str (x : Bytes) (k : Int) : mkT .str x k = x := rfl
theorem mkT_sl {e : CT} (x : List e.D) (k : Int) : mkT (.sl e) x k = mk (.sl e) x k := rfl
theorem mkT_pair {a b : CT} (x : a.D × b.D) (k : Int) : mkT (.pair a b) x k = (mkT a x.1 k, mkT b x.2 (k + cntT a x.1)) := rfl
theorem cntT_int {k : IntKind} (x : Int) : cntT (.int k) x = 0 := rfl
theorem cntT_bool (x : Bool) : cntT .bool x = 0 := rfl
theorem cntT_str (x : Bytes) : cntT .str x = 0 := rfl
theorem cntT_sl {e : CT} (x : List e.D) : cntT (.sl e) x = cnt (.sl e) x := rfl
theorem cntT_pair {a b : CT} (x : a.D × b.D) : cntT (.pair a b) x = cntT a x.1 + cntT b x.2 := rfl

theorem ne3 : ¬ (3 : Int) = 0 := by omega
theorem dec_neg {n : Int} (h : ¬ n < 0) : decide (n < 0) = false := decide_eq_false h
theorem idx_set_self {α : Type} {l : List α} {i : Nat} (x : α) (h : i < l.length) : idx (l.set i x) (i : Int) = some x := by
  rw [idx_nat, List.getElem?_set_self h]

theorem mark_loop {e : CT} {T : ((List e.D × Int × Int × List e.D) → Option (Int × List e.D)) → (List e.D × Int × Int × List e.D) → Option (Int × List e.D)}
    (hs : ∀ (l : List e.D) (i : Nat) (hi : i < l.length) (k : Int) nx, 1 ≤ k → k + cnt e l[i] ≤ 1000000000000000 → l.length ≤ 1000000000000 → LenB 1000000000000 e l[i] →
      T nx (l, k, (i : Int), l) = nx (l.set i (mk e l[i] k), k + cnt e l[i], (i : Int) + 1, l.set i (mk e l[i] k)))
    (hf : ∀ (l : List e.D) (k : Int) nx, T nx (l, k, (l.length : Int), l) = some (k, l)) :
    ∀ (xs pre : List e.D) (k : Int) (n : Nat), 1 ≤ k → k + cnt (.sl e) xs ≤ 1000000000000000 → pre.length + xs.length ≤ 1000000000000 → (∀ x ∈ xs, LenB 1000000000000 e x) → xs.length < n →
      iterL T n (pre ++ xs, k, (pre.length : Int), pre ++ xs) = some (k + cnt (.sl e) xs, pre ++ mk (.sl e) xs k)
  | [], pre, k, n, _, _, _, _, hn => by
    cases n with
    | zero => omega
    | succ n =>
      rw [iterL, List.append_nil, hf]
      simp [cnt, mk, mkL]
  | x :: xs, pre, k, n, h1, h2, h3, h4, hn => by
    cases n with
    | zero => omega
    | succ n =>
      have hc : cnt (.sl e) (x :: xs) = cnt e x + cnt (.sl e) xs := by simp [cnt]
      have hi : pre.length < (pre ++ x :: xs).length := by simp
      have hx : (pre ++ x :: xs)[pre.length] = x := by simp
      simp only [List.length_cons] at h3 hn
      rw [iterL, hs _ pre.length hi k _ h1 (by rw [hx]; omega) (by simp; omega) (by rw [hx]; exact h4 x (by simp)), hx]
      have hset : (pre ++ x :: xs).set pre.length (mk e x k) = (pre ++ [mk e x k]) ++ xs := by
        rw [List.set_append_right _ _ (Nat.le_refl _), Nat.sub_self, List.set_cons_zero, List.append_assoc]; rfl
      have hl : ((pre.length : Int) + 1) = (((pre ++ [mk e x k]).length : Nat) : Int) := by simp
      rw [hset, hl, mark_loop hs hf xs _ _ n (by omega) (by omega) (by simp; omega) (fun y hy => h4 y (by simp [hy])) (by omega)]
      rw [hc]
      congr 1
      refine Prod.ext (by simp only; omega) ?_
      simp only [mk, mkL, List.append_assoc, List.singleton_append]

theorem held_loop {e : CT} {T : List e.D → ((Int × Int) → Option Int) → (Int × Int) → Option Int}
    (hs : ∀ (l : List e.D) (i : Nat) (hi : i < l.length) (x : e.D) (k : Int) nx, l[i] = mk e x k → 1 ≤ k → k + cnt e x ≤ 1000000000000000 → l.length ≤ 1000000000000 → LenB 1000000000000 e x →
      T l nx (k, (i : Int)) = nx (k + cnt e x, (i : Int) + 1))
    (hf : ∀ (l : List e.D) (k : Int) nx, T l nx (k, (l.length : Int)) = some k) :
    ∀ (xs pre : List e.D) (k : Int) (n : Nat), 1 ≤ k → k + cnt (.sl e) xs ≤ 1000000000000000 → pre.length + xs.length ≤ 1000000000000 → (∀ x ∈ xs, LenB 1000000000000 e x) → xs.length < n →
      iterL (T (pre ++ mk (.sl e) xs k)) n (k, (pre.length : Int)) = some (k + cnt (.sl e) xs)
  | [], pre, k, n, _, _, _, _, hn => by
    cases n with
    | zero => omega
    | succ n =>
      have : pre ++ mk (.sl e) ([] : List e.D) k = pre := by simp [mk, mkL]
      rw [iterL, this, hf]
      simp [cnt]
  | x :: xs, pre, k, n, h1, h2, h3, h4, hn => by
    cases n with
    | zero => omega
    | succ n =>
      have hc : cnt (.sl e) (x :: xs) = cnt e x + cnt (.sl e) xs := by simp [cnt]
      have hm : pre ++ mk (.sl e) (x :: xs) k = (pre ++ [mk e x k]) ++ mk (.sl e) xs (k + cnt e x) := by simp [mk, mkL]
      have hlen : ∀ (ys : List e.D) (k : Int), (mk (.sl e) ys k).length = ys.length := by
        intro ys
        induction ys with
        | nil => intro k; rfl
        | cons y ys ih => intro k; have := ih (k + cnt e y); simp only [mk, mkL, List.length_cons] at this ⊢; omega
      simp only [List.length_cons] at h3 hn
      rw [iterL, hm, hs _ pre.length (by simp) x k _ (by simp) h1 (by omega) (by have := hlen xs (k + cnt e x); simp; omega) (h4 x (by simp))]
      have hl : ((pre.length : Int) + 1) = (((pre ++ [mk e x k]).length : Nat) : Int) := by simp
      rw [hl, held_loop hs hf xs _ _ n (by omega) (by omega) (by simp; omega) (fun y hy => h4 y (by simp [hy])) (by omega), hc]
      congr 1
      omega

/-- marks of a thing: n numbers are used, and they are found again -/
def MkM (t : CT) (mark : t.D → Int → Option (Int × t.D)) : Prop := ∀ (a : t.D) (_ : LenB 1000000000000 t a) (k : Int) (_ : 1 ≤ k) (_ : k + cnt t a ≤ 1000000000000000), mark a k = some (k + cnt t a, mk t a k)
def MkH (t : CT) (held : t.D → Int → Option Int) : Prop := ∀ (a : t.D) (_ : LenB 1000000000000 t a) (k : Int) (_ : 1 ≤ k) (_ : k + cnt t a ≤ 1000000000000000), held (mk t a k) k = some (k + cnt t a)
theorem mkM_of {e : CT} {T : ((List e.D × Int × Int × List e.D) → Option (Int × List e.D)) → (List e.D × Int × Int × List e.D) → Option (Int × List e.D)}
    (hs : ∀ (l : List e.D) (i : Nat) (hi : i < l.length) (k : Int) nx, 1 ≤ k → k + cnt e l[i] ≤ 1000000000000000 → l.length ≤ 1000000000000 → LenB 1000000000000 e l[i] →
      T nx (l, k, (i : Int), l) = nx (l.set i (mk e l[i] k), k + cnt e l[i], (i : Int) + 1, l.set i (mk e l[i] k)))
    (hf : ∀ (l : List e.D) (k : Int) nx, T nx (l, k, (l.length : Int), l) = some (k, l)) : MkM (.sl e) (fun a k => iterL T fuel (a, k, 0, a)) := by
  have hfu := fuel_ge
  intro a h k h1 h2
  have hl : a.length ≤ 1000000000000 := h.1
  exact mark_loop hs hf a [] k fuel h1 h2 (by simp; omega) h.2 (by omega)
theorem mkH_of {e : CT} {H : List e.D → ((Int × Int) → Option Int) → (Int × Int) → Option Int}
    (gs : ∀ (l : List e.D) (i : Nat) (hi : i < l.length) (x : e.D) (k : Int) nx, l[i] = mk e x k → 1 ≤ k → k + cnt e x ≤ 1000000000000000 → l.length ≤ 1000000000000 → LenB 1000000000000 e x →
      H l nx (k, (i : Int)) = nx (k + cnt e x, (i : Int) + 1))
    (gf : ∀ (l : List e.D) (k : Int) nx, H l nx (k, (l.length : Int)) = some k) : MkH (.sl e) (fun a k => iterL (H a) fuel (k, 0)) := by
  have hfu := fuel_ge
  intro a h k h1 h2
  have hl : a.length ≤ 1000000000000 := h.1
  exact held_loop gs gf a [] k fuel h1 h2 (by simp; omega) h.2 (by omega)
/-- the same of what is handed by value -/
def MtM (t : CT) (mark : t.D → Int → Option (Int × t.D)) : Prop := ∀ (a : t.D) (_ : LenB 1000000000000 t a) (k : Int) (_ : 1 ≤ k) (_ : k + cntT t a ≤ 1000000000000000), mark a k = some (k + cntT t a, mkT t a k)
def MtH (t : CT) (held : t.D → Int → Option Int) : Prop := ∀ (a : t.D) (_ : LenB 1000000000000 t a) (k : Int) (_ : 1 ≤ k) (_ : k + cntT t a ≤ 1000000000000000), held (mkT t a k) k = some (k + cntT t a)
theorem MkM.top {e : CT} {mark : List e.D → Int → Option (Int × List e.D)} (h : MkM (.sl e) mark) : MtM (.sl e) mark := h
theorem MkH.top {e : CT} {held : List e.D → Int → Option Int} (h : MkH (.sl e) held) : MtH (.sl e) held := h

-- elements that are pairs: what lies inside is marked part by part
def OkW : {t : CT} → Nst FM t → Prop
  | _, .sl (e := e) m => MkM (.sl e) m
  | _, .pair a b => OkW a ∧ OkW b
  | _, _ => True
theorem runW_ok {α R : Type} {f : Int → Option Bytes} (hf : ∀ k, 1 ≤ k → k ≤ 1000000000000000 → f k = some (txt k)) {l : List α} {i : Nat} (hi : i < l.length) : ∀ {t : CT} (n : Nst FM t) (_ : OkW n) (g : α → t.D) (s : α → t.D → α) (_ : ∀ y v, g (s y v) = v) (_ : ∀ y v w, s (s y v) w = s y w) (x : α) (k : Int) (K : List α → Int → Option R), 1 ≤ k → k + cnt t (g x) ≤ 1000000000000000 → LenB 1000000000000 t (g x) →
    runW f (i : Int) n g s (l.set i x) (l.set i x) k K = K (l.set i (s x (mk t (g x) k))) (k + cnt t (g x))
  | _, .int _, _, g, s, _, _, x, k, K, h1, h2, _ => by
    simp only [cnt_int] at h2 ⊢
    rw [runW, idx_set_self x hi, bindO_some, bindO_some, Int.toNat_natCast, List.set_set, wrap64 (by omega) (by omega)]; rfl
  | _, .bool, _, g, s, _, _, x, k, K, h1, h2, _ => by
    simp only [cnt_bool] at h2 ⊢
    rw [runW, idx_set_self x hi, bindO_some, bindO_some, Int.toNat_natCast, List.set_set, wrap64 (by omega) (by omega)]; rfl
  | _, .str, _, g, s, _, _, x, k, K, h1, h2, _ => by
    simp only [cnt_str] at h2 ⊢
    rw [runW, hf k h1 (by omega), bindO_some, idx_set_self x hi, bindO_some, bindO_some, Int.toNat_natCast, List.set_set, wrap64 (by omega) (by omega)]; rfl
  | _, .sl m, hn, g, s, _, _, x, k, K, h1, h2, h3 => by
    rw [runW, idx_set_self x hi, bindO_some, bindO_some, hn (g x) h3 k h1 h2, bindO_some, Int.toNat_natCast, List.set_set]
  | _, .pair (a := ca) (b := cb) a b, hn, g, s, l1, l2, x, k, K, h1, h2, h3 => by
    rw [cnt_pair] at h2 ⊢
    have e1 := runW_ok (R := R) hf hi a hn.1 (fun y => (g y).1) (fun y v => s y (v, (g y).2)) (fun y v => by simp only [l1]) (fun y v w => by simp only [l1, l2]) x k
    rw [runW, e1 _ h1 (by show k + ((cnt ca (g x).1 : Nat) : Int) ≤ _; omega) h3.1]
    have e2 := runW_ok (R := R) hf hi b hn.2 (fun y => (g y).2) (fun y v => s y ((g y).1, v)) (fun y v => by simp only [l1]) (fun y v w => by simp only [l1, l2]) (s x (mk ca (g x).1 k, (g x).2)) (k + cnt ca (g x).1) K (by omega) (by simp only [l1]; omega) (by simp only [l1]; exact h3.2)
    rw [e2]
    simp only [l1, l2, mk_pair]
    congr 1
    omega
theorem mkM_w {e : CT} (n : Nst FM e) {T : ((List e.D × Int × Int × List e.D) → Option (Int × List e.D)) → (List e.D × Int × Int × List e.D) → Option (Int × List e.D)} {f : Int → Option Bytes} (hf : ∀ k, 1 ≤ k → k ≤ 1000000000000000 → f k = some (txt k)) (hn : OkW n)
    (he : ∀ (l : List e.D) (k i : Int) nx, T nx (l, k, i, l) = cond (decide (i < (l.length : Int))) (runW f i n (fun y => y) (fun _ v => v) l l k (fun L k' => nx (L, k', IntKind.wrap .i64 (i + 1), L))) (some (k, l))) : MkM (.sl e) (fun a k => iterL T fuel (a, k, 0, a)) := by
  refine mkM_of (fun l i hi k nx h1 h2 h3 hx => ?_) (fun l k nx => ?_)
  · have hl : l = l.set i l[i] := (List.set_getElem_self hi).symm
    rw [he, decide_eq_true (by omega), cond_true]
    conv => lhs; rw [hl]
    rw [runW_ok hf hi n hn (fun y => y) (fun _ v => v) (fun _ _ => rfl) (fun _ _ _ => rfl) l[i] k _ h1 h2 hx]
    rw [wrap64 (by omega) (by omega)]
  · rw [he, decide_eq_false (by omega)]; rfl
def OkV : {t : CT} → Nst FH t → Prop
  | _, .sl (e := e) m => MkH (.sl e) m
  | _, .pair a b => OkV a ∧ OkV b
  | _, _ => True
theorem runV_ok {α R : Type} {f : Int → Option Bytes} (hf : ∀ k, 1 ≤ k → k ≤ 1000000000000000 → f k = some (txt k)) {v : List α} {i : Nat} (hi : i < v.length) (bad : Int → Option R) : ∀ {t : CT} (n : Nst FH t) (_ : OkV n) (g : α → t.D) (K : Int → Option R) (x : t.D) (k : Int), 1 ≤ k → k + cnt t x ≤ 1000000000000000 → LenB 1000000000000 t x → g v[i] = mk t x k →
    runV f (i : Int) v bad n g K k = K (k + cnt t x)
  | _, .int _, _, g, K, x, k, h1, h2, _, h4 => by
    simp only [cnt_int] at h2 ⊢
    have h5 : g v[i] = k := h4
    rw [runV, idx_lt hi, bindO_some, h5, bne_self_eq_false, cond_false, wrap64 (by omega) (by omega)]; rfl
  | _, .bool, _, g, K, x, k, h1, h2, _, h4 => by
    simp only [cnt_bool] at h2 ⊢
    have h5 : g v[i] = (Int.tmod k 3 == 0) := h4
    rw [runV, idx_lt hi, bindO_some, h5, beq_self_eq_true, Bool.not_true, cond_false, wrap64 (by omega) (by omega)]; rfl
  | _, .str, _, g, K, x, k, h1, h2, _, h4 => by
    simp only [cnt_str] at h2 ⊢
    have h5 : g v[i] = txt k := h4
    rw [runV, idx_lt hi, bindO_some, hf k h1 (by omega), bindO_some, h5, beq_self_eq_true, Bool.not_true, cond_false, wrap64 (by omega) (by omega)]; rfl
  | _, .sl m, hn, g, K, x, k, h1, h2, h3, h4 => by
    rw [runV, idx_lt hi, bindO_some, h4, hn x h3 k h1 h2, bindO_some, decide_eq_false (by omega), cond_false]
  | _, .pair a b, hn, g, K, x, k, h1, h2, h3, h4 => by
    rw [cnt_pair] at h2 ⊢
    rw [mk_pair] at h4
    rw [runV, runV_ok hf hi bad a hn.1 _ _ x.1 k h1 (by omega) h3.1 (by simp only [h4]), runV_ok hf hi bad b hn.2 _ _ x.2 _ (by omega) (by omega) h3.2 (by simp only [h4])]
    congr 1
    omega
theorem mkH_w {e : CT} (n : Nst FH e) {H : List e.D → ((Int × Int) → Option Int) → (Int × Int) → Option Int} {bad : List e.D → Int → Int → Option Int} {f : Int → Option Bytes} (hf : ∀ k, 1 ≤ k → k ≤ 1000000000000000 → f k = some (txt k)) (hn : OkV n)
    (he : ∀ (l : List e.D) (k i : Int) nx, H l nx (k, i) = cond (decide (i < (l.length : Int))) (runV f i l (bad l i) n (fun y => y) (fun k' => nx (k', IntKind.wrap .i64 (i + 1))) k) (some k)) : MkH (.sl e) (fun a k => iterL (H a) fuel (k, 0)) := by
  refine mkH_of (fun l i hi x k nx hm h1 h2 h3 hx => ?_) (fun l k nx => ?_)
  · rw [he, decide_eq_true (by omega), cond_true, runV_ok hf hi _ n hn _ _ x k h1 h2 hx hm, wrap64 (by omega) (by omega)]
  · rw [he, decide_eq_false (by omega)]; rfl

theorem cntT_le : ∀ {t : CT} {x : t.D}, cntT t x ≤ cnt t x
  | .int _, _ => by simp [cntT]
  | .bool, _ => by simp [cntT]
  | .str, _ => by simp [cntT]
  | .sl _, _ => Nat.le_refl _
  | .pair a b, x => by simp only [cntT, cnt]; exact Nat.add_le_add cntT_le cntT_le
/-- bounds of the marks' number: by the size, by the lengths -/
def wt : CT → Nat
  | .sl e => wt e
  | .pair a b => wt a + wt b
  | _ => 1
theorem cnt_sz : ∀ {t : CT} {x : t.D}, cnt t x ≤ wt t * (szC t x + 1)
  | .int _, _ => by simp [cnt, wt]
  | .bool, _ => by simp [cnt, wt]
  | .str, _ => by simp [cnt, wt]
  | .sl e, xs => by
    have h : ∀ l : List e.D, (l.map (cnt e)).sum ≤ wt e * ((l.map (szC e)).sum + l.length) := by
      intro l
      induction l with
      | nil => simp
      | cons y l ih =>
        have := cnt_sz (t := e) (x := y)
        simp only [List.map_cons, List.sum_cons, List.length_cons]
        have e1 : wt e * (szC e y + (l.map (szC e)).sum + (l.length + 1)) = wt e * (szC e y + 1) + wt e * ((l.map (szC e)).sum + l.length) := by
          rw [← Nat.mul_add]; congr 1; omega
        omega
    have h1 := h xs
    simp only [cnt, wt, szC]
    refine Nat.le_trans h1 (Nat.mul_le_mul_left _ (by omega))
  | .pair a b, x => by
    have h1 := cnt_sz (t := a) (x := x.1)
    have h2 := cnt_sz (t := b) (x := x.2)
    simp only [cnt, wt, szC]
    rw [Nat.add_mul]
    exact Nat.add_le_add (Nat.le_trans h1 (Nat.mul_le_mul_left _ (by omega))) (Nat.le_trans h2 (Nat.mul_le_mul_left _ (by omega)))
def bnd (n : Nat) : CT → Nat
  | .sl e => n * bnd n e
  | .pair a b => bnd n a + bnd n b
  | _ => 1
theorem cnt_len {n : Nat} : ∀ {t : CT} {x : t.D}, LenB n t x → cnt t x ≤ bnd n t
  | .int _, _, _ => by simp [cnt, bnd]
  | .bool, _, _ => by simp [cnt, bnd]
  | .str, _, _ => by simp [cnt, bnd]
  | .sl e, xs, h => by
    have h1 : ∀ l : List e.D, (∀ x ∈ l, LenB n e x) → (l.map (cnt e)).sum ≤ l.length * bnd n e := by
      intro l
      induction l with
      | nil => simp
      | cons y l ih =>
        intro hl
        have := cnt_len (hl y (by simp))
        have := ih (fun x hx => hl x (by simp [hx]))
        simp only [List.map_cons, List.sum_cons, List.length_cons, Nat.add_mul, Nat.one_mul]
        omega
    simp only [cnt, bnd]
    exact Nat.le_trans (h1 xs h.2) (Nat.mul_le_mul_right _ h.1)
  | .pair a b, x, h => by
    simp only [cnt, bnd]
    exact Nat.add_le_add (cnt_len h.1) (cnt_len h.2)

end
end Go.Pu
