import GoSem.Core.Sem
import GoSem.Dispatch
import Derived.KernelRfl
/- Data, and the few partial operations on it. -/
namespace Go.Dn

inductive CT where
  | int (k : IntKind) | bool | str | sl (e : CT) | pair (a b : CT)
  deriving DecidableEq

@[reducible] def CT.D : CT → Type
  | .int _ => Int
  | .bool => Bool
  | .str => List UInt8
  | .sl e => List e.D
  | .pair a b => a.D × b.D

def CT.size : CT → Nat
  | .pair a b => a.size + b.size
  | _ => 1

/-- no slice inside -/
def CT.flat : CT → Bool
  | .pair a b => a.flat && b.flat
  | .sl _ => false
  | _ => true

def CT.zero : (t : CT) → t.D
  | .int _ => (0 : Int)
  | .bool => false
  | .str => []
  | .sl _ => []
  | .pair a b => (a.zero, b.zero)

def idx {α : Type} (xs : List α) (i : Int) : Option α :=
  match i with
  | .ofNat n => xs[n]?
  | .negSucc _ => none

def sub {α : Type} (xs : List α) (lo hi : Int) : Option (List α) :=
  if 0 ≤ lo ∧ lo ≤ hi ∧ hi ≤ (xs.length : Int) then some ((xs.take hi.toNat).drop lo.toNat) else none

/-- a length that is no burden to any memory -/
def room {R : Type} (n : Nat) (k : Option R) : Option R := if n ≤ 1073741824 then k else none

def bindO {α R : Type} (o : Option α) (k : α → Option R) : Option R :=
  match o with
  | some a => k a
  | none => none

/-- bytes of a slice as a string -/
def bytesOf (xs : List Int) : List UInt8 := xs.map fun n => UInt8.ofNat n.toNat
def intsOf (s : List UInt8) : List Int := s.map fun b => (b.toNat : Int)

/-- bytes laid over a part of a slice -/
def overL (ys : List Int) (lo : Nat) (zs : List Int) : List Int := ys.take lo ++ (zs ++ ys.drop (lo + zs.length))

-- loops
def iterL {σ R : Type} (T : (σ → Option R) → σ → Option R) : Nat → σ → Option R
  | 0, _ => none
  | n + 1, x => T (iterL T n) x

theorem fuel_ex : ∃ n : Nat, 1099511627776 ≤ n := ⟨_, Nat.le_refl _⟩
/-- rounds enough for any loop; a number that nothing unfolds -/
noncomputable def fuel : Nat := Classical.choose fuel_ex
theorem fuel_ge : 1099511627776 ≤ fuel := Classical.choose_spec fuel_ex

end Go.Dn
