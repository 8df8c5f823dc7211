import Derived.Test.YtjilbinhppledaaDnOps7
/- A call by value: what a callee promises, and what the caller makes of it. -/
namespace Go.Dn
open Go.RowKit

variable {P : Program} {C : Ctx} {st : AS} {a : Act} {w : World} {R : Type} {r : R}

/-- the context of what passes a function's door -/
def rcArg (A : Nat → Nat → Prop) (hw : Nat → Nat) (w : World) : RC := ⟨hw, fun _ => 0, A, fun _ => undef, fun _ => False, 0, fun _ => False, w⟩

def ArgsRel (A : Nat → Nat → Prop) (w : World) : List Value → List AV → Prop
  | [], [] => True
  | v :: vs, x :: xs => RelV (rcArg A (fun _ => 0) w) v x [] ∧ ArgsRel A w vs xs
  | _, _ => False

/-- WHAT A FUNCTION PROMISES: it returns what F says of the data that it was handed, in memory of its own; nothing that was there has turned -/
def FnOk (P : Program) (f : Nat) (F : GEnt) : Prop :=
  ∀ (xs : List AV) (y : F.R), F.fn xs = some y →
    (∃ fn c, P.funcs[f]? = some fn ∧ fn.body = some c ∧ (fn.name == "runtime.NumGoroutine") = false) ∧
    ∀ (A : Nat → Nat → Prop) (w : World) (vs : List Value), (∀ b o, A b o → b < w.heap.size) → ArgsRel A w vs xs →
      Calls P f vs.toArray w fun e w' => ∃ v hw fp, e = .returned v ∧ RelV (rcArg A hw w') v (F.av y) fp ∧ fp.Nodup ∧ (∀ b ∈ fp, w.heap.size ≤ b ∧ b < w'.heap.size) ∧ Fr (fun _ => False) w w'

theorem asArg_cell {c : RC} {v : Value} {x : AC} {fp : List Nat} (h : RelC c v x fp) : RelC (rcArg (fun b o => c.S b o ∧ b < c.w.heap.size) (fun _ => 0) c.w) v (x.asArg c.ep) [] := by
  have hS : ∀ {e : CT} {xs : List e.D}, RepL c.w c.S (.sl e) [v] xs → RepL c.w (fun b o => c.S b o ∧ b < c.w.heap.size) (.sl e) [v] xs := fun hr =>
    RepL.mono (fun b o u hs hu => ⟨⟨hs, World.block_lt_of_cell? c.w _ hu⟩, hu⟩) hr
  cases x with
  | int k n => exact ⟨h.1, rfl⟩
  | bool b => exact ⟨h.1, rfl⟩
  | str s => exact ⟨h.1, rfl⟩
  | nilsl => exact ⟨h.1, rfl⟩
  | fn f => exact ⟨h.1, rfl⟩
  | ptr s off => exact rfl
  | un => exact rfl
  | bot => exact rfl
  | elt fl e y i off => exact rfl
  | sl fl e xs =>
    cases fl with
    | own t => exact ⟨rfl, hS (OwnL.rep (fun b o ho => .inr ho) h.1)⟩
    | arg => exact ⟨rfl, hS (RepL.mono (fun b o u hs hu => ⟨.inl hs, hu⟩) h.2)⟩
    | loc ep pv =>
      simp only [AC.asArg]
      split
      · rename_i he
        exact ⟨rfl, hS (h.2.2.2.1 (by simpa using he))⟩
      · exact rfl

theorem asArg_cells {c : RC} : ∀ {vs : List Value} {xs : List AC} {fp : List Nat}, RelCs c vs xs fp → RelCs (rcArg (fun b o => c.S b o ∧ b < c.w.heap.size) (fun _ => 0) c.w) vs (xs.map (AC.asArg c.ep)) []
  | [], [], _, _ => rfl
  | _ :: _, _ :: _, _, h => by
    obtain ⟨f1, f2, rfl, h1, h2⟩ := h
    exact ⟨[], [], rfl, asArg_cell h1, asArg_cells h2⟩
  | [], _ :: _, _, h => h.elim
  | _ :: _, [], _, h => h.elim

theorem asArg_val {c : RC} {v : Value} {x : AV} {fp : List Nat} (h : RelV c v x fp) : RelV (rcArg (fun b o => c.S b o ∧ b < c.w.heap.size) (fun _ => 0) c.w) v (x.asArg c.ep) [] := by
  cases x with
  | val g cs => obtain ⟨vs, hv, h⟩ := h; exact ⟨vs, hv, asArg_cells h⟩
  | tup ts => exact RelV.bot _ _

theorem args_rel {g : Gh} (h : SimG C g st a w []) : ∀ (args : List Operand),
    ArgsRel (fun b o => (rcOf C g st w).S b o ∧ b < w.heap.size) w (args.map a.eval) (args.map fun x => (st.rd x).asArg st.ep)
  | [] => trivial
  | x :: xs => ⟨asArg_val (c := rcOf C g st w) (h.rd x), args_rel h xs⟩

/-- the result, in the caller's eyes -/
theorem asRes_cell {c : RC} {A' : Nat → Nat → Prop} {hw : Nat → Nat} {v : Value} {x : AC} {fp : List Nat} {tag : Option Nat} (h : RelC (rcArg A' hw c.w) v x fp) (hA : ∀ b o, A' b o → c.S b o) (hhw : ∀ b ∈ fp, c.hw b = hw b)
    (ht : ∀ t, tag = some t → c.iss t ∧ v = c.hdr t) : RelC c v (x.asRes c.ep tag) fp := by
  cases x with
  | int k n => exact h
  | bool b => exact h
  | str s => exact h
  | nilsl => exact h
  | fn f => exact h
  | ptr s off => exact h.2.2
  | un => exact h
  | bot => exact h
  | elt fl e y i off =>
    cases fl with
    | own t => exact h.elim
    | arg => exact h.1
    | loc ep pv => exact h.1
  | sl fl e xs =>
    cases fl with
    | own t => exact ⟨OwnL.mono h.1 (fun b hb => ⟨rfl, hhw b hb⟩), ht⟩
    | loc ep pv => exact h.1
    | arg =>
      have hr : RepL c.w c.S (.sl e) [v] xs := RepL.mono (fun b o u hs hu => ⟨hA b o hs, hu⟩) h.2
      refine ⟨h.1, Nat.le_refl _, ?_, fun _ => hr, by simp⟩
      obtain ⟨u, hu, k⟩ := hr
      simp at hu; subst hu
      rcases k with ⟨⟨ad, rfl⟩, rfl⟩ | ⟨b, o, cap, rfl, _⟩
      · exact ⟨_, _, _, rfl, rfl⟩
      · exact ⟨_, _, _, rfl, rfl⟩

theorem asRes_cells {c : RC} {A' : Nat → Nat → Prop} {hw : Nat → Nat} {mk : Nat → Option Nat} (hA : ∀ b o, A' b o → c.S b o) : ∀ {vs : List Value} {xs : List AC} {fp : List Nat} (j : Nat), RelCs (rcArg A' hw c.w) vs xs fp → (∀ b ∈ fp, c.hw b = hw b) →
    (∀ i v, vs[i]? = some v → ∀ t, mk (j + i) = some t → c.iss t ∧ v = c.hdr t) → RelCs c vs (resCells c.ep mk j xs) fp
  | [], [], _, _, h, _, _ => h
  | v :: _, _ :: _, _, j, h, hh, hm => by
    obtain ⟨f1, f2, rfl, h1, h2⟩ := h
    exact ⟨f1, f2, rfl, asRes_cell h1 hA (fun b hb => hh b (List.mem_append_left _ hb)) (fun t ht => hm 0 v rfl t ht),
      asRes_cells hA (j + 1) h2 (fun b hb => hh b (List.mem_append_right _ hb)) (fun i u hu t ht => hm (i + 1) u (by simpa using hu) t (by rwa [show j + (i + 1) = j + 1 + i by omega]))⟩
  | [], _ :: _, _, _, h, _, _ => h.elim
  | _ :: _, [], _, _, h, _, _ => h.elim

/-- the values of a result's cells -/
inductive Leaves (A : Nat → Nat → Prop) (hw : Nat → Nat) (w : World) : List Value → List (Bool × List AC) → List Nat → List Value → Prop
  | nil : Leaves A hw w [] [] [] []
  | cons {v : Value} {vs : List Value} {g : Bool} {cs : List AC} {ts : List (Bool × List AC)} {f1 f2 : List Nat} {us all : List Value} (hcut : Cut g v us) (hr : RelCs (rcArg A hw w) us cs f1) (h : Leaves A hw w vs ts f2 all) :
    Leaves A hw w (v :: vs) ((g, cs) :: ts) (f1 ++ f2) (us ++ all)

theorem leaves_of {A : Nat → Nat → Prop} {hw : Nat → Nat} {w : World} : ∀ {ws : List Value} {ts : List (Bool × List AC)} {fp : List Nat}, RelV.RelTs (rcArg A hw w) ws ts fp → ∃ all, Leaves A hw w ws ts fp all
  | [], [], _, h => by cases h; exact ⟨[], .nil⟩
  | _ :: _, (g, cs) :: _, _, h => by
    obtain ⟨f1, f2, rfl, ⟨us, hcut, hr⟩, h2⟩ := h
    obtain ⟨all, hall⟩ := leaves_of h2
    exact ⟨us ++ all, .cons hcut hr hall⟩
  | [], _ :: _, _, h => h.elim
  | _ :: _, [], _, h => h.elim

theorem leaves_res {c : RC} {A' : Nat → Nat → Prop} {hw : Nat → Nat} {mk : Nat → Option Nat} (hA : ∀ b o, A' b o → c.S b o) {ws : List Value} {ts : List (Bool × List AC)} {fp : List Nat} {all : List Value} (h : Leaves A' hw c.w ws ts fp all) :
    ∀ j, (∀ b ∈ fp, c.hw b = hw b) → (∀ i v, all[i]? = some v → ∀ t, mk (j + i) = some t → c.iss t ∧ v = c.hdr t) → RelV.RelTs c ws (resTup c.ep mk j ts) fp := by
  induction h with
  | nil => intro j _ _; exact rfl
  | @cons v vs g cs ts f1 f2 us all hcut hr h ih =>
    intro j hh hm
    have hl := hr.length
    refine ⟨f1, f2, rfl, ⟨us, hcut, asRes_cells hA j hr (fun b hb => hh b (List.mem_append_left _ hb)) (fun i u hu t ht => ?_)⟩, ih _ (fun b hb => hh b (List.mem_append_right _ hb)) (fun i u hu t ht => ?_)⟩
    · exact hm i u (by rw [List.getElem?_append_left (List.getElem?_eq_some_iff.1 hu).1]; exact hu) t ht
    · have hl' : us.length = cs.length := hl
      refine hm (us.length + i) u (by rw [List.getElem?_append_right (by omega)]; simpa using hu) t ?_
      rw [← Nat.add_assoc, hl']
      exact ht

/-- the ghost of a result's stamps -/
def hdrRes (hdr : Nat → Value) (mk : Nat → Option Nat) (all : List Value) : Nat → Value := fun u => if mk (u / 3 % 4096) = some u then (all[u / 3 % 4096]?).getD undef else hdr u

theorem hdrRes_old {hdr : Nat → Value} {d : Option Nat} {all : List Value} {t : Nat} (h : issP st t) : hdrRes hdr (st.mint d) all t = hdr t := by
  unfold hdrRes
  rw [if_neg]
  intro e
  exact (mint_spec e).1 h

theorem hdrRes_new {hdr : Nat → Value} {d : Option Nat} {all : List Value} {i t : Nat} {v : Value} (hv : all[i]? = some v) (h : st.mint d i = some t) : v = hdrRes hdr (st.mint d) all t := by
  obtain ⟨_, _, d', rfl, ht, hi⟩ := mint_spec h
  have hidx : t / 3 % 4096 = i := by rw [ht, stampOf]; omega
  unfold hdrRes
  rw [hidx, if_pos h, hv]; rfl

theorem call_wp {Γ : Gam} (hΓ : ∀ f, FnOk P f (Γ f)) {o' : Oper} {f : Operand} {args : Array Operand} {ts : Array TypeId} (ho : o'.op = .call { callee := .value f, args, argTypes := ts }) (h : Sim C st a w) {K : AS → Option R}
    (hk : callC Γ o' f args.toList st K = some r) (next : Act → World → Prop) (Q : Exit → Act → World → Prop) (hnext : ∀ st' a' w', Sim C st' a' w' → K st' = some r → next a' w') : o'.wp P a w next Q := by
  obtain ⟨g, hg⟩ := h
  unfold callC at hk
  split at hk
  · rename_i k hf
    have hfv := hg.rd f
    rw [hf] at hfv
    have hfv := (one_cell hfv).1
    cases hres : (Γ k).fn (args.toList.map fun x => (st.rd x).asArg st.ep) with
    | none => rw [hres] at hk; cases hk
    | some y0 =>
      rw [hres] at hk
      simp only [bindO] at hk
      obtain ⟨⟨fn, c, hfn, hbody, hname⟩, hcalls⟩ := hΓ k _ y0 hres
      generalize hy0 : (Γ k).av y0 = y at hk hcalls
      have hcall := hcalls (fun b o => (rcOf C g st w).S b o ∧ b < w.heap.size) w (args.toList.map a.eval) (fun _ _ h => h.2) (args_rel hg args.toList)
      have hargs : (args.toList.map a.eval).toArray = args.map a.eval := by apply Array.ext'; simp
      rw [hargs] at hcall
      have hrun : (execOp a.eval o').run P w = .ok (.enter k (args.map a.eval)) w := by
        simp [execOp, ho, resolve, hfv, Deferred.ofValue, invoke, callFunc, hfn, hbody]
        simpa using hname
      unfold Oper.wp
      rw [hrun, Oper.upon_enter]
      refine hcall.mono ?_
      rintro e w' ⟨v, hw, fp, rfl, hrel, hnd, hfp, hfr⟩
      show next (a.put o'.dst v) w'
      let hw' : Nat → Nat := fun b => if b ∈ fp then hw b else g.hw b
      have hnin : ∀ b, b < w.heap.size → b ∉ fp := fun b hb hm => by have := (hfp b hm).1; omega
      have hA' : ∀ (hd : Nat → Value) (b o : Nat), ((rcOf C g st w).S b o ∧ b < w.heap.size) → (rcOf C { g with hw := hw', hdr := hd } (st.issue o'.dst) w').S b o := by
        rintro hd b o ⟨hs, hb⟩
        rcases hs with hs | hs
        · exact .inl hs
        · exact .inr (by simp only [rcOf, hw', if_neg (hnin b hb)]; exact hs)
      have hrel' : ∃ hd, (∀ t, issP st t → hd t = g.hdr t) ∧ RelV (rcOf C { g with hw := hw', hdr := hd } (st.issue o'.dst) w') v (y.asRes st.ep (st.mint o'.dst)) fp := by
        have hfpw : ∀ b ∈ fp, hw' b = hw b := fun b hb => by simp [hw', hb]
        cases y with
        | val gg cs =>
          obtain ⟨vs, hcut, hr⟩ := hrel
          refine ⟨hdrRes g.hdr (st.mint o'.dst) vs, fun t ht => hdrRes_old ht, vs, hcut, ?_⟩
          have := asRes_cells (c := rcOf C { g with hw := hw', hdr := hdrRes g.hdr (st.mint o'.dst) vs } (st.issue o'.dst) w') (mk := st.mint o'.dst) (hA' _) 0 hr hfpw
            (fun i u hu t ht => by rw [Nat.zero_add] at ht; exact ⟨(mint_spec ht).2.1, hdrRes_new hu ht⟩)
          have hep : (rcOf C { g with hw := hw', hdr := hdrRes g.hdr (st.mint o'.dst) vs } (st.issue o'.dst) w').ep = st.ep := ep_issue
          rw [hep] at this
          exact this
        | tup ts =>
          obtain ⟨ws, hv, hr⟩ := hrel
          obtain ⟨all, hall⟩ := leaves_of hr
          refine ⟨hdrRes g.hdr (st.mint o'.dst) all, fun t ht => hdrRes_old ht, ws, hv, ?_⟩
          have := leaves_res (c := rcOf C { g with hw := hw', hdr := hdrRes g.hdr (st.mint o'.dst) all } (st.issue o'.dst) w') (mk := st.mint o'.dst) (hA' _) hall 0 hfpw
            (fun i u hu t ht => by rw [Nat.zero_add] at ht; exact ⟨(mint_spec ht).2.1, hdrRes_new hu ht⟩)
          have hep : (rcOf C { g with hw := hw', hdr := hdrRes g.hdr (st.mint o'.dst) all } (st.issue o'.dst) w').ep = st.ep := ep_issue
          rw [hep] at this
          exact this
      obtain ⟨hd, hhd, hrel'⟩ := hrel'
      obtain ⟨g', hg'⟩ := hg.putOwn o'.dst (hw' := hw') (hdr' := hd) (fp := fp) (st1 := st.issue o'.dst) slots_issue boxes_issue ep_issue (fun t ht => ⟨issP_issue ht, hhd t ht⟩)
        ⟨hfr.os, hfr.tape, hfr.output, hfr.size, fun b hb _ => hfr.block b hb (fun m => m)⟩ (fun b x hx _ => by simp [hw', hnin b (hg.labs b x hx).1])
        (fun b o u ho hu => by
          have hb : b < w.heap.size := World.block_lt_of_cell? w _ hu
          exact ⟨by simp [hw', hnin b hb]; exact ho, cell_grow hfr hu⟩) hrel' hnd (fun b hb => ⟨(hfp b hb).2, .inr (hfp b hb).1⟩)
      exact hnext _ _ _ ⟨g', hg'⟩ hk
  · cases hk

end Go.Dn
