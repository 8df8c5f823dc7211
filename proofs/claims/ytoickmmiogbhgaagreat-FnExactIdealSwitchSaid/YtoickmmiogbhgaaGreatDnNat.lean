import Derived.Test.YtoickmmiogbhgaaGreatDnBase
/- The abstract steps, without their continuations. -/
namespace Go.Dn

variable {R : Type} {E : Env} {Γ : Gam} {an : An} {o : Oper} {st : AS}

theorem bindO_some_iff {α β : Type} {x : Option α} {k : α → Option β} {z : β} (h : bindO x k = some z) : ∃ y, x = some y ∧ k y = some z := by
  cases x with
  | none => cases h
  | some y => exact ⟨y, rfl, h⟩
theorem bindO_bind {α β : Type} (x : Option α) (k : α → Option β) (K : β → Option R) : (bindO x k).bind K = bindO x fun y => (k y).bind K := by cases x <;> rfl
theorem room_bind {β : Type} (n : Nat) (k : Option β) (K : β → Option R) : (room n k).bind K = room n (k.bind K) := by unfold room; split <;> rfl
theorem cond_bind {β : Type} (b : Bool) (x y : Option β) (K : β → Option R) : (cond b x y).bind K = cond b (x.bind K) (y.bind K) := by cases b <;> rfl

theorem moveC_bind (x : Operand) (K : AS → Option R) : moveC an o x st K = (moveC an o x st some).bind K := by
  unfold moveC; split
  · split <;> rfl
  · rfl
theorem lateC_bind (x : Operand) (K : AS → Option R) : lateC o x st K = (lateC o x st some).bind K := by
  unfold lateC; split <;> rfl
theorem storeLateC_bind (T : TypeId) (p x : Operand) (K : AS → Option R) : storeLateC E T p x st K = (storeLateC E T p x st some).bind K := by
  unfold storeLateC; split
  · split
    · split
      · split
        · split <;> rfl
        · rfl
      · rfl
    · rfl
  · rfl
theorem assignC_bind (x : Operand) (K : AS → Option R) : assignC E an o x st K = (assignC E an o x st some).bind K := by
  unfold assignC; split
  · split <;> rfl
  · rfl
theorem pickC_bind (c x y : Operand) (K : AS → Option R) : pickC o c x y st K = (pickC o c x y st some).bind K := by
  unfold pickC; split
  · split
    · rfl
    · rw [cond_bind]; rfl
  · rfl
theorem allocC_bind (T : TypeId) (K : AS → Option R) : allocC E o T st K = (allocC E o T st some).bind K := by
  unfold allocC; split
  · split <;> rfl
  · rfl
theorem boxC_bind (x : Operand) (K : AS → Option R) : boxC o x st K = (boxC o x st some).bind K := by
  unfold boxC; split
  · split
    · split <;> rfl
    · rfl
  · rfl
theorem staleC_bind (sh : Shape) (fl : Flag) (e : CT) (i : Int) (off : Nat) (K : AS → Option R) : staleC o sh fl e i off st K = (staleC o sh fl e i off st some).bind K := by
  unfold staleC; split
  · split
    · split
      · split
        · rw [bindO_bind]; rfl
        · rfl
      · rfl
    · rfl
  · rfl
theorem takeEltC_bind (sh : Shape) (fl : Flag) (e : CT) (i : Int) (off : Nat) (K : AS → Option R) : takeEltC o sh fl e i off st K = (takeEltC o sh fl e i off st some).bind K := by
  unfold takeEltC; split
  · split
    · split
      · split
        · rw [bindO_bind]; rfl
        · rfl
      · rfl
    · rfl
  · rfl
theorem loadC_bind (T : TypeId) (p : Operand) (K : AS → Option R) : loadC E an o T p st K = (loadC E an o T p st some).bind K := by
  unfold loadC; split
  · split
    · split
      · split
        · split <;> rfl
        · rfl
      · rfl
    · rfl
  · split
    · exact takeEltC_bind _ _ _ _ _ K
    split
    · split <;> rfl
    · exact staleC_bind _ _ _ _ _ K
  · rfl
theorem storeElt_bind (r : Root) (t : Nat) (e : CT) (i : Int) (off : Nat) (vs : List AC) (K : AS → Option R) : st.storeElt r t e i off vs K = (st.storeElt r t e i off vs some).bind K := by
  unfold AS.storeElt; split
  · split
    · split
      · rw [bindO_bind]
        congr 1
        funext y
        split <;> rfl
      · rfl
    · rfl
  · split
    · split
      · rw [bindO_bind]
        congr 1
        funext y
        split <;> rfl
      · rfl
    · rfl
  · rfl
theorem storeC_bind (T : TypeId) (p x : Operand) (K : AS → Option R) : storeC E T p x st K = (storeC E T p x st some).bind K := by
  unfold storeC; split
  · split
    · split
      · split
        · split <;> rfl
        · rfl
      · rfl
    · rfl
  · split
    · split
      · rw [storeElt_bind]
      · rfl
    · rfl
  · rfl
theorem fieldC_bind (S : TypeId) (p : Operand) (f : Nat) (K : AS → Option R) : fieldC E o S p f st K = (fieldC E o S p f st some).bind K := by
  unfold fieldC; split
  · split <;> rfl
  · split <;> rfl
  · rfl
theorem indexAddrC_bind (T : TypeId) (x i : Operand) (K : AS → Option R) : indexAddrC E o T x i st K = (indexAddrC E o T x i st some).bind K := by
  unfold indexAddrC; split
  · split
    · rw [bindO_bind]; rfl
    · rfl
  · rfl
theorem indexC_bind (T : TypeId) (x i : Operand) (K : AS → Option R) : indexC E o T x i st K = (indexC E o T x i st some).bind K := by
  unfold indexC; split
  · split
    · rw [bindO_bind]; rfl
    · rfl
  · rfl
theorem buildC_bind (T : TypeId) (ps : List (Nat × Operand)) (K : AS → Option R) : buildC E o T ps st K = (buildC E o T ps st some).bind K := by
  unfold buildC; split
  · split; split <;> rfl
  · rfl
theorem buildSliceC_bind (T : TypeId) (n : Nat) (ps : List (Nat × Operand)) (K : AS → Option R) : buildSliceC E o T n ps st K = (buildSliceC E o T n ps st some).bind K := by
  unfold buildSliceC; split
  · split
    · split; split <;> rfl
    · rfl
  · rfl
theorem makeSliceC_bind (T : TypeId) (n c : Operand) (K : AS → Option R) : makeSliceC E o T n c st K = (makeSliceC E o T n c st some).bind K := by
  unfold makeSliceC; split
  · split
    · rw [room_bind]; rfl
    · rfl
  · rfl
theorem boundsC_bind {β : Type} (lo hi : Option Operand) (n : Nat) (k : Int → Int → Option β) (K : β → Option R) : (boundsC st lo hi n k).bind K = boundsC st lo hi n fun x y => (k x y).bind K := by
  unfold boundsC; split <;> rfl
theorem sliceTakeC_bind (T : TypeId) (x : Operand) (lo hi : Option Operand) (K : AS → Option R) : sliceTakeC E o T x lo hi st K = (sliceTakeC E o T x lo hi st some).bind K := by
  unfold sliceTakeC; split
  · split
    · rw [bindO_bind]; rfl
    · rfl
  · rfl
theorem sliceC_bind (T : TypeId) (x : Operand) (lo hi : Option Operand) (K : AS → Option R) : sliceC E an o T x lo hi st K = (sliceC E an o T x lo hi st some).bind K := by
  unfold sliceC; split
  · exact sliceTakeC_bind T x lo hi K
  split
  · split
    · rw [boundsC_bind]; congr 1; funext p q; rw [bindO_bind]; rfl
    · rfl
  · split
    · rw [boundsC_bind]; congr 1; funext p q; rw [bindO_bind]; rfl
    · rfl
  · rfl
theorem convertC_bind (src dst : TypeId) (x : Operand) (K : AS → Option R) : convertC E o src dst x st K = (convertC E o src dst x st some).bind K := by
  unfold convertC; split
  · rfl
  · rfl
  · split
    · rw [room_bind]; rfl
    · rfl
  · split <;> rfl
  · rfl
theorem extractC_bind (t i : Nat) (K : AS → Option R) : extractC o t i st K = (extractC o t i st some).bind K := by
  unfold extractC; split
  · split <;> rfl
  · rfl
theorem lenC_bind (ts : List TypeId) (args : List Operand) (K : AS → Option R) : lenC E o ts args st K = (lenC E o ts args st some).bind K := by
  unfold lenC; split
  · split <;> rfl
  · split <;> rfl
  · rfl
theorem minC_bind (args : List Operand) (K : AS → Option R) : minC o args st K = (minC o args st some).bind K := by unfold minC; split <;> rfl
theorem maxC_bind (args : List Operand) (K : AS → Option R) : maxC o args st K = (maxC o args st some).bind K := by unfold maxC; split <;> rfl
theorem copyC_bind (ts : List TypeId) (args : List Operand) (K : AS → Option R) : copyC E o ts args st K = (copyC E o ts args st some).bind K := by
  unfold copyC; split
  · split
    · split
      · split <;> rfl
      · rfl
    · rfl
  · rfl
theorem fieldVC_bind (S : TypeId) (t f : Nat) (K : AS → Option R) : fieldVC E o S t f st K = (fieldVC E o S t f st some).bind K := by
  unfold fieldVC; split
  · split
    · split <;> rfl
    · rfl
  · rfl
theorem appendC_bind (ts : List TypeId) (args : List Operand) (K : AS → Option R) : appendC E o ts args st K = (appendC E o ts args st some).bind K := by
  unfold appendC; split
  · split
    · split
      · split
        · split
          · rw [room_bind]; rfl
          · rfl
        · rfl
      · split
        · split
          · rw [room_bind]; rfl
          · rfl
        · rfl
      · rfl
    · rfl
  · rfl
theorem nestC_bind (f : Nat) (g : Bool) (cs : List AC) (xs : List Operand) (K : AS → Option R) : nestC Γ o f g cs xs st K = (nestC Γ o f g cs xs st some).bind K := by
  unfold nestC
  split
  · split
    · split
      · rw [cond_bind, bindO_bind]
        congr 1
        congr 1
        funext x
        split
        · rw [bindO_bind]
          congr 1
          funext y
          split
          · split
            · cases ((Γ f).av y).flatB <;> rfl
            · rfl
          · rfl
        · rfl
      · rfl
    · rfl
  · rfl
theorem ioC_bind (f : Nat) (args : List Operand) (K : AS → Option R) : ioC Γ o f args st K = (ioC Γ o f args st some).bind K := by
  unfold ioC
  split
  · split
    · split
      · split
        · split
          · rw [cond_bind, bindO_bind]
            congr 1
            congr 1
            funext y
            split
            · cases ((Γ f).av y).flatB <;> rfl
            · rfl
          · rfl
        · rfl
      · exact nestC_bind f _ _ _ K
    · rfl
  · rfl
theorem boxCallC_bind (f : Nat) (args : List Operand) (K : AS → Option R) : boxCallC Γ o f args st K = (boxCallC Γ o f args st some).bind K := by
  unfold boxCallC
  split
  · split
    · split
      · rw [cond_bind, bindO_bind]
        congr 1
        congr 1
        funext y
        rw [cond_bind]; rfl
      · rfl
    · rfl
  · rfl
theorem callC_bind (f : Operand) (args : List Operand) (K : AS → Option R) : callC Γ o f args st K = (callC Γ o f args st some).bind K := by
  unfold callC; split
  · rename_i k hk
    cases (Γ k).bx with
    | true => exact boxCallC_bind k args K
    | false =>
    simp only [cond_false]
    cases (Γ k).io with
    | true => exact ioC_bind k args K
    | false => simp only [cond_false]; rw [bindO_bind]; congr 1; funext y; rw [cond_bind]; rfl
  · rfl
theorem intOp_bind {β : Type} (op : BinOp) (k : IntKind) (x y : Int) (c : AC → Option β) (K : β → Option R) : (intOp op k x y c).bind K = intOp op k x y fun z => (c z).bind K := by
  unfold intOp; split <;> (try rfl) <;> (split <;> rfl)
theorem strOp_bind {β : Type} (op : BinOp) (x y : List UInt8) (c : AC → Option β) (K : β → Option R) : (strOp op x y c).bind K = strOp op x y fun z => (c z).bind K := by
  unfold strOp; split <;> (try rfl); rw [room_bind]
theorem binC_bind {β : Type} (op : BinOp) (x y : AV) (c : AC → Option β) (K : β → Option R) : (binC op x y c).bind K = binC op x y fun z => (c z).bind K := by
  unfold binC; split
  · split
    · split <;> rfl
    · split <;> rfl
    · split
      · rw [intOp_bind]
      · rfl
  · rw [strOp_bind]
  · split <;> rfl
  · split
    · rw [bindO_bind]
    · rw [bindO_bind]
    · rfl
  · rfl
theorem unC_bind {β : Type} (op : UnOp) (x : AV) (c : AC → Option β) (K : β → Option R) : (unC op x c).bind K = unC op x fun z => (c z).bind K := by
  unfold unC; split <;> rfl
theorem eqNil_bind {β : Type} (op : BinOp) (b : Bool) (c : AC → Option β) (K : β → Option R) : (eqNil op b c).bind K = eqNil op b fun z => (c z).bind K := by
  unfold eqNil; split <;> rfl
theorem binTC_bind (op : BinOp) (T : TypeId) (x y : Operand) (K : AS → Option R) : binTC E o op T x y st K = (binTC E o op T x y st some).bind K := by
  unfold binTC; split
  · split
    · rw [binC_bind]; rfl
    · rfl
  · split
    · split
      · rw [binC_bind]; rfl
      · rfl
    · rfl
  · split
    · split
      · rfl
      · rw [eqNil_bind]; rfl
    · rfl
  · split
    · rw [eqNil_bind]; rfl
    · rfl
  · rw [binC_bind]; rfl

theorem stepC_bind (K : AS → Option R) : stepC E Γ an o st K = (stepC E Γ an o st some).bind K := by
  unfold stepC; split
  · exact moveC_bind _ K
  · split
    · exact lateC_bind _ K
    · exact assignC_bind _ K
  · exact pickC_bind _ _ _ K
  · exact allocC_bind _ K
  · exact boxC_bind _ K
  · exact loadC_bind _ _ K
  · split
    · split
      · exact storeLateC_bind _ _ _ K
      · exact storeC_bind _ _ _ K
    · rfl
  · split <;> rfl
  · exact binTC_bind _ _ _ _ K
  · rw [unC_bind]; rfl
  · exact fieldC_bind _ _ _ K
  · exact indexAddrC_bind _ _ _ K
  · exact indexC_bind _ _ _ K
  · exact buildC_bind _ _ K
  · exact buildSliceC_bind _ _ _ K
  · exact makeSliceC_bind _ _ _ K
  · exact sliceC_bind _ _ _ _ K
  · exact fieldVC_bind _ _ _ K
  · exact copyC_bind _ _ K
  · exact convertC_bind _ _ _ K
  · exact extractC_bind _ _ K
  · exact lenC_bind _ _ K
  · exact minC_bind _ K
  · exact maxC_bind _ K
  · exact appendC_bind _ _ K
  · exact callC_bind _ _ K
  · rfl

theorem guardC_bind (ops : List Oper) (K : AS → Option R) : guardC E Γ an ops o st K = (guardC E Γ an ops o st some).bind K := by
  unfold guardC; split
  · exact stepC_bind K
  · rename_i j want hg
    split
    · rename_i d hd
      split
      · rename_i b hb
        have hgo : ∀ t : Bool, (if (t == want) = true then stepC E Γ an o (st.put (some d) (.one (.bool t))) K else K ((st.put (some d) (.one (.bool t))).put o.dst (.one .un))) =
            (if (t == want) = true then stepC E Γ an o (st.put (some d) (.one (.bool t))) some else some ((st.put (some d) (.one (.bool t))).put o.dst (.one .un))).bind K := by
          intro t
          split
          · exact stepC_bind K
          · rfl
        cases b with
        | true => exact hgo true
        | false => exact hgo false
      · rfl
      · rfl
    · rfl

theorem opsC_bind (ops : List Oper) : ∀ (l : List Oper) (st : AS) (K : AS → Option R), opsC E Γ an ops l st K = (opsC E Γ an ops l st some).bind K
  | [], st, K => rfl
  | o :: l, st, K => by
    simp only [opsC]
    rw [guardC_bind, guardC_bind (K := fun st' => opsC E Γ an ops l st' some), Option.bind_assoc]
    congr 1
    funext st'
    exact opsC_bind ops l st' K

end Go.Dn
