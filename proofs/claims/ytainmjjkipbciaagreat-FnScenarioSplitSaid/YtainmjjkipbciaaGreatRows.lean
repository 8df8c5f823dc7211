/-
  No cell of these rows narrows 'for every input' (looked for: loops, veiled, ifaces, maps, wideKeys, modest, calm, conditions, laid).
  DERIVED. THE GIVEN ROWS OF THIS SEAT. 4 by the template 'for every input the law returns true; each argument reads behind the call as it read before'; 0 by the template 'total and deterministic' (their statements: YtainmjjkipbciaaGreatTotals.lean).
  GIVEN WITH THE SEED: the statements are not yours to turn. If you find one false, say at which input.
  Laid BY PROGRAM, IN A SANDBOX (cutbox-rows.mjs): the forced cells as the released guide's own fill.sh prints them over the translation e1d48578f7c12494… (all of the seat's roots in one cut). By AI agents, Wed Nov 11 2026. No macro, syntax, notation, axiom, sorry.
-/
import Derived.Test.YtainmjjkipbciaaGreatChecked
import GoSem.Claim
import GoSem.ClaimJoined
import GoSem.ClaimMapViews
import Derived.JoinedTies
import Derived.KernelRfl
namespace Go.Proofs.YtainmjjkipbciaaGreat
/- THE CELL 'sum', in the pinned program and in every row, IS THE sha256 OF THE DUMP (.gsa) THAT YtainmjjkipbciaaGreatProg.lean LOADS. Nothing in Lean hashes anything: it is a label: what it is worth is what the hold of that sum in a sandbox is worth. -/
noncomputable def Tryz.pinned : Pinned := { name := "ytainmjjkipbciaagreat", sum := "e1d48578f7c124941c7e707e9e3be20dfc70bace33dfaf9c15bca8c183029da7", checked := Tryz.checked }
namespace Rows
def none {H : Type} : Left H := { results := [], args := [] }

/-- 'laws.FnScenarioSplit': WHATEVER THE INPUT: true; the input reads as it did. -/
def fnScenarioSplitSpec : ChangeSpec := { name := "fnScenarioSplit", fn := fun _ => fun
  | [d] => { results := [.lit (.bool true)], args := [d] }
  | _ => none }
def fnScenarioSplitRow : OpenClaim := { program := "ytainmjjkipbciaagreat", sum := "e1d48578f7c124941c7e707e9e3be20dfc70bace33dfaf9c15bca8c183029da7", func := "loop.example/g03312/laws.FnScenarioSplit", spec := "fnScenarioSplit", unfollowed := true, recurses := true, apart := false }
def FnScenarioSplitSaid : Prop := fnScenarioSplitRow.holds Tryz.pinned (OpenSpec.ofChange fnScenarioSplitSpec)

/-- ITS FALSE NEIGHBOUR: 'it returns false'. Refute it at one input. -/
def fnScenarioSplitWrong : ChangeSpec := { name := "fnScenarioSplit", fn := fun _ => fun
  | [d] => { results := [.lit (.bool false)], args := [d] }
  | _ => none }
def FnScenarioSplitWrongFalsely : Prop := fnScenarioSplitRow.holds Tryz.pinned (OpenSpec.ofChange fnScenarioSplitWrong)

/-- 'laws.FnResetOnce': WHATEVER THE INPUT: true; the input reads as it did. -/
def fnResetOnceSpec : ChangeSpec := { name := "fnResetOnce", fn := fun _ => fun
  | [d] => { results := [.lit (.bool true)], args := [d] }
  | _ => none }
def fnResetOnceRow : OpenClaim := { program := "ytainmjjkipbciaagreat", sum := "e1d48578f7c124941c7e707e9e3be20dfc70bace33dfaf9c15bca8c183029da7", func := "loop.example/g03312/laws.FnResetOnce", spec := "fnResetOnce", apart := false }
def FnResetOnceSaid : Prop := fnResetOnceRow.holds Tryz.pinned (OpenSpec.ofChange fnResetOnceSpec)

/-- ITS FALSE NEIGHBOUR: 'it returns false'. Refute it at one input. -/
def fnResetOnceWrong : ChangeSpec := { name := "fnResetOnce", fn := fun _ => fun
  | [d] => { results := [.lit (.bool false)], args := [d] }
  | _ => none }
def FnResetOnceWrongFalsely : Prop := fnResetOnceRow.holds Tryz.pinned (OpenSpec.ofChange fnResetOnceWrong)

/-- 'laws.FnMoved': WHATEVER THE INPUT: true; the input reads as it did. -/
def fnMovedSpec : ChangeSpec := { name := "fnMoved", fn := fun _ => fun
  | [d] => { results := [.lit (.bool true)], args := [d] }
  | _ => none }
def fnMovedRow : OpenClaim := { program := "ytainmjjkipbciaagreat", sum := "e1d48578f7c124941c7e707e9e3be20dfc70bace33dfaf9c15bca8c183029da7", func := "loop.example/g03312/laws.FnMoved", spec := "fnMoved", unfollowed := true, recurses := true, apart := false }
def FnMovedSaid : Prop := fnMovedRow.holds Tryz.pinned (OpenSpec.ofChange fnMovedSpec)

/-- ITS FALSE NEIGHBOUR: 'it returns false'. Refute it at one input. -/
def fnMovedWrong : ChangeSpec := { name := "fnMoved", fn := fun _ => fun
  | [d] => { results := [.lit (.bool false)], args := [d] }
  | _ => none }
def FnMovedWrongFalsely : Prop := fnMovedRow.holds Tryz.pinned (OpenSpec.ofChange fnMovedWrong)

/-- 'laws.FnDrained': WHATEVER THE INPUT: true; the input reads as it did. -/
def fnDrainedSpec : ChangeSpec := { name := "fnDrained", fn := fun _ => fun
  | [d] => { results := [.lit (.bool true)], args := [d] }
  | _ => none }
def fnDrainedRow : OpenClaim := { program := "ytainmjjkipbciaagreat", sum := "e1d48578f7c124941c7e707e9e3be20dfc70bace33dfaf9c15bca8c183029da7", func := "loop.example/g03312/laws.FnDrained", spec := "fnDrained", apart := false }
def FnDrainedSaid : Prop := fnDrainedRow.holds Tryz.pinned (OpenSpec.ofChange fnDrainedSpec)

/-- ITS FALSE NEIGHBOUR: 'it returns false'. Refute it at one input. -/
def fnDrainedWrong : ChangeSpec := { name := "fnDrained", fn := fun _ => fun
  | [d] => { results := [.lit (.bool false)], args := [d] }
  | _ => none }
def FnDrainedWrongFalsely : Prop := fnDrainedRow.holds Tryz.pinned (OpenSpec.ofChange fnDrainedWrong)

/- THE SECOND FORM. 'bulk': how many values and letters a reading holds, each counted each time it is reached (what is shared counts as often as it is met; a slice's spare places count too). A statement '..UptoSaid' is the law's where the arguments, and the package variables that the reading takes, are together of bulk at most 1048576: NARROWER than '..Said'. Prove '..Said' where nothing that the law and all that it calls make is longer than what came in: it says more and counts as full. Else prove '..UptoSaid'. A law counts once. -/
mutual
def uptoBulk {H : Type} : DataW H → Nat
  | .lit (.string bytes) => bytes.length + 1
  | .lit _ => 1
  | .nil => 1
  | .ptr d => uptoBulk d + 1
  | .slice elems spare => uptoBulkAll elems + uptoBulkAll spare + 1
  | .agg parts => uptoBulkAll parts + 1
  | .iface _ d => uptoBulk d + 1
  | .map entries => uptoBulkEntries entries + 1
  | .held _ => 1
def uptoBulkAll {H : Type} : List (DataW H) → Nat
  | [] => 0
  | d :: r => uptoBulk d + uptoBulkAll r
def uptoBulkEntries {H : Type} : List (Lit × DataW H) → Nat
  | [] => 0
  | x :: r => uptoBulkEntry x + uptoBulkEntries r
def uptoBulkEntry {H : Type} : Lit × DataW H → Nat
  | (.string bytes, d) => bytes.length + uptoBulk d + 1
  | (_, d) => uptoBulk d + 1
 end
def uptoSmall : (H : Type) → List (DataW H) → Bool := fun _ ds => decide (uptoBulkAll ds ≤ 1048576)
def OpenSpec.upto (s : _root_.Go.ChangeSpec) : _root_.Go.OpenSpec := { _root_.Go.OpenSpec.ofChange s with cond := some uptoSmall }

/-- 'laws.FnScenarioSplit', WHERE WHAT IT READS IS OF BULK AT MOST 1048576: true; the input reads as it did. -/
def fnScenarioSplitUptoRow : OpenClaim := { program := "ytainmjjkipbciaagreat", sum := "e1d48578f7c124941c7e707e9e3be20dfc70bace33dfaf9c15bca8c183029da7", func := "loop.example/g03312/laws.FnScenarioSplit", spec := "fnScenarioSplit", unfollowed := true, recurses := true, apart := false, narrowed := true }
def FnScenarioSplitUptoSaid : Prop := fnScenarioSplitUptoRow.holds Tryz.pinned (OpenSpec.upto fnScenarioSplitSpec)

/-- 'laws.FnResetOnce', WHERE WHAT IT READS IS OF BULK AT MOST 1048576: true; the input reads as it did. -/
def fnResetOnceUptoRow : OpenClaim := { program := "ytainmjjkipbciaagreat", sum := "e1d48578f7c124941c7e707e9e3be20dfc70bace33dfaf9c15bca8c183029da7", func := "loop.example/g03312/laws.FnResetOnce", spec := "fnResetOnce", apart := false, narrowed := true }
def FnResetOnceUptoSaid : Prop := fnResetOnceUptoRow.holds Tryz.pinned (OpenSpec.upto fnResetOnceSpec)

/-- 'laws.FnMoved', WHERE WHAT IT READS IS OF BULK AT MOST 1048576: true; the input reads as it did. -/
def fnMovedUptoRow : OpenClaim := { program := "ytainmjjkipbciaagreat", sum := "e1d48578f7c124941c7e707e9e3be20dfc70bace33dfaf9c15bca8c183029da7", func := "loop.example/g03312/laws.FnMoved", spec := "fnMoved", unfollowed := true, recurses := true, apart := false, narrowed := true }
def FnMovedUptoSaid : Prop := fnMovedUptoRow.holds Tryz.pinned (OpenSpec.upto fnMovedSpec)

/-- 'laws.FnDrained', WHERE WHAT IT READS IS OF BULK AT MOST 1048576: true; the input reads as it did. -/
def fnDrainedUptoRow : OpenClaim := { program := "ytainmjjkipbciaagreat", sum := "e1d48578f7c124941c7e707e9e3be20dfc70bace33dfaf9c15bca8c183029da7", func := "loop.example/g03312/laws.FnDrained", spec := "fnDrained", apart := false, narrowed := true }
def FnDrainedUptoSaid : Prop := fnDrainedUptoRow.holds Tryz.pinned (OpenSpec.upto fnDrainedSpec)

end Rows
end Go.Proofs.YtainmjjkipbciaaGreat
