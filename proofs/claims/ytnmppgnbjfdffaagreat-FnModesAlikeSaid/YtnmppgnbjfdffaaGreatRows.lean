/-
  No cell of these rows narrows 'for every input' (looked for: loops, veiled, ifaces, maps, wideKeys, modest, calm, conditions, laid).
  DERIVED. THE GIVEN ROWS OF THIS SEAT. 3 by the template 'for every input the law returns true; each argument reads behind the call as it read before'; 0 by the template 'total and deterministic' (their statements: YtnmppgnbjfdffaaGreatTotals.lean).
  GIVEN WITH THE SEED: the statements are not yours to turn. If you find one false, say at which input.
  Laid BY PROGRAM, IN A SANDBOX (cutbox-rows.mjs): the forced cells as the released guide's own fill.sh prints them over the translation 6af09b3240492ec2… (all of the seat's roots in one cut). By AI agents, Wed Nov 11 2026. No macro, syntax, notation, axiom, sorry.
-/
import Derived.Test.YtnmppgnbjfdffaaGreatChecked
import GoSem.Claim
import GoSem.ClaimJoined
import GoSem.ClaimMapViews
import Derived.JoinedTies
import Derived.KernelRfl
namespace Go.Proofs.YtnmppgnbjfdffaaGreat
/- THE CELL 'sum', in the pinned program and in every row, IS THE sha256 OF THE DUMP (.gsa) THAT YtnmppgnbjfdffaaGreatProg.lean LOADS. Nothing in Lean hashes anything: it is a label: what it is worth is what the hold of that sum in a sandbox is worth. -/
noncomputable def Tryz.pinned : Pinned := { name := "ytnmppgnbjfdffaagreat", sum := "6af09b3240492ec2a29350a572e1946e6e989b89a3ae7d6b754a2bf871bbadcc", checked := Tryz.checked }
namespace Rows
def none {H : Type} : Left H := { results := [], args := [] }

/-- 'laws.FnMoved': WHATEVER THE INPUT: true; the input reads as it did. -/
def fnMovedSpec : ChangeSpec := { name := "fnMoved", fn := fun _ => fun
  | [d] => { results := [.lit (.bool true)], args := [d] }
  | _ => none }
def fnMovedRow : OpenClaim := { program := "ytnmppgnbjfdffaagreat", sum := "6af09b3240492ec2a29350a572e1946e6e989b89a3ae7d6b754a2bf871bbadcc", func := "loop.example/g03312/laws.FnMoved", spec := "fnMoved", unfollowed := true, recurses := true, apart := false }
def FnMovedSaid : Prop := fnMovedRow.holds Tryz.pinned (OpenSpec.ofChange fnMovedSpec)

/-- ITS FALSE NEIGHBOUR: 'it returns false'. Refute it at one input. -/
def fnMovedWrong : ChangeSpec := { name := "fnMoved", fn := fun _ => fun
  | [d] => { results := [.lit (.bool false)], args := [d] }
  | _ => none }
def FnMovedWrongFalsely : Prop := fnMovedRow.holds Tryz.pinned (OpenSpec.ofChange fnMovedWrong)

/-- 'laws.FnResetOnce': WHATEVER THE INPUT: true; the input reads as it did. -/
def fnResetOnceSpec : ChangeSpec := { name := "fnResetOnce", fn := fun _ => fun
  | [d] => { results := [.lit (.bool true)], args := [d] }
  | _ => none }
def fnResetOnceRow : OpenClaim := { program := "ytnmppgnbjfdffaagreat", sum := "6af09b3240492ec2a29350a572e1946e6e989b89a3ae7d6b754a2bf871bbadcc", func := "loop.example/g03312/laws.FnResetOnce", spec := "fnResetOnce", apart := false }
def FnResetOnceSaid : Prop := fnResetOnceRow.holds Tryz.pinned (OpenSpec.ofChange fnResetOnceSpec)

/-- ITS FALSE NEIGHBOUR: 'it returns false'. Refute it at one input. -/
def fnResetOnceWrong : ChangeSpec := { name := "fnResetOnce", fn := fun _ => fun
  | [d] => { results := [.lit (.bool false)], args := [d] }
  | _ => none }
def FnResetOnceWrongFalsely : Prop := fnResetOnceRow.holds Tryz.pinned (OpenSpec.ofChange fnResetOnceWrong)

/-- 'laws.FnModesAlike': WHATEVER THE INPUT: true; the input reads as it did. -/
def fnModesAlikeSpec : ChangeSpec := { name := "fnModesAlike", fn := fun _ => fun
  | [d] => { results := [.lit (.bool true)], args := [d] }
  | _ => none }
def fnModesAlikeRow : OpenClaim := { program := "ytnmppgnbjfdffaagreat", sum := "6af09b3240492ec2a29350a572e1946e6e989b89a3ae7d6b754a2bf871bbadcc", func := "loop.example/g03312/laws.FnModesAlike", spec := "fnModesAlike", apart := false }
def FnModesAlikeSaid : Prop := fnModesAlikeRow.holds Tryz.pinned (OpenSpec.ofChange fnModesAlikeSpec)

/-- ITS FALSE NEIGHBOUR: 'it returns false'. Refute it at one input. -/
def fnModesAlikeWrong : ChangeSpec := { name := "fnModesAlike", fn := fun _ => fun
  | [d] => { results := [.lit (.bool false)], args := [d] }
  | _ => none }
def FnModesAlikeWrongFalsely : Prop := fnModesAlikeRow.holds Tryz.pinned (OpenSpec.ofChange fnModesAlikeWrong)

/- THE SECOND FORM. 'bulk': how many values and letters a reading holds, each counted each time it is reached (what is shared counts as often as it is met; a slice's spare places count too). A statement '..UptoSaid' is the law's where the arguments, and the package variables that the reading takes, are together of bulk at most 1048576: NARROWER than '..Said'. Prove '..Said' where nothing that the law and all that it calls make is longer than what came in: it says more and counts as full. Else prove '..UptoSaid'. A law counts once. -/
mutual
def uptoBulk {H : Type} : DataW H → Nat
  | .lit (.string bytes) => bytes.length + 1
  | .lit _ => 1
  | .nil => 1
  | .ptr d => uptoBulk d + 1
  | .slice elems spare => uptoBulkAll elems + uptoBulkAll spare + 1
  | .agg parts => uptoBulkAll parts + 1
  | .iface _ d => uptoBulk d + 1
  | .map entries => uptoBulkEntries entries + 1
  | .held _ => 1
def uptoBulkAll {H : Type} : List (DataW H) → Nat
  | [] => 0
  | d :: r => uptoBulk d + uptoBulkAll r
def uptoBulkEntries {H : Type} : List (Lit × DataW H) → Nat
  | [] => 0
  | x :: r => uptoBulkEntry x + uptoBulkEntries r
def uptoBulkEntry {H : Type} : Lit × DataW H → Nat
  | (.string bytes, d) => bytes.length + uptoBulk d + 1
  | (_, d) => uptoBulk d + 1
 end
def uptoSmall : (H : Type) → List (DataW H) → Bool := fun _ ds => decide (uptoBulkAll ds ≤ 1048576)
def OpenSpec.upto (s : _root_.Go.ChangeSpec) : _root_.Go.OpenSpec := { _root_.Go.OpenSpec.ofChange s with cond := some uptoSmall }

/-- 'laws.FnMoved', WHERE WHAT IT READS IS OF BULK AT MOST 1048576: true; the input reads as it did. -/
def fnMovedUptoRow : OpenClaim := { program := "ytnmppgnbjfdffaagreat", sum := "6af09b3240492ec2a29350a572e1946e6e989b89a3ae7d6b754a2bf871bbadcc", func := "loop.example/g03312/laws.FnMoved", spec := "fnMoved", unfollowed := true, recurses := true, apart := false, narrowed := true }
def FnMovedUptoSaid : Prop := fnMovedUptoRow.holds Tryz.pinned (OpenSpec.upto fnMovedSpec)

/-- 'laws.FnResetOnce', WHERE WHAT IT READS IS OF BULK AT MOST 1048576: true; the input reads as it did. -/
def fnResetOnceUptoRow : OpenClaim := { program := "ytnmppgnbjfdffaagreat", sum := "6af09b3240492ec2a29350a572e1946e6e989b89a3ae7d6b754a2bf871bbadcc", func := "loop.example/g03312/laws.FnResetOnce", spec := "fnResetOnce", apart := false, narrowed := true }
def FnResetOnceUptoSaid : Prop := fnResetOnceUptoRow.holds Tryz.pinned (OpenSpec.upto fnResetOnceSpec)

/-- 'laws.FnModesAlike', WHERE WHAT IT READS IS OF BULK AT MOST 1048576: true; the input reads as it did. -/
def fnModesAlikeUptoRow : OpenClaim := { program := "ytnmppgnbjfdffaagreat", sum := "6af09b3240492ec2a29350a572e1946e6e989b89a3ae7d6b754a2bf871bbadcc", func := "loop.example/g03312/laws.FnModesAlike", spec := "fnModesAlike", apart := false, narrowed := true }
def FnModesAlikeUptoSaid : Prop := fnModesAlikeUptoRow.holds Tryz.pinned (OpenSpec.upto fnModesAlikeSpec)

end Rows
end Go.Proofs.YtnmppgnbjfdffaaGreat
