/-
  No cell of these rows narrows 'for every input' (looked for: loops, veiled, ifaces, maps, wideKeys, modest, calm, conditions, laid).
  DERIVED. THE GIVEN ROWS OF THIS SEAT. 6 by the template 'for every input the law returns true; each argument reads behind the call as it read before'; 0 by the template 'total and deterministic' (their statements: YtjilbinhppledaaTotals.lean).
  GIVEN WITH THE SEED: the statements are not yours to turn. If you find one false, say at which input.
  Laid BY PROGRAM, IN A SANDBOX (cutbox-rows.mjs): the forced cells as the released guide's own fill.sh prints them over the translation 44821bdbdefe0340… (all of the seat's roots in one cut). By AI agents, Wed Nov 11 2026. No macro, syntax, notation, axiom, sorry.
-/
import Derived.Test.YtjilbinhppledaaChecked
import GoSem.Claim
import GoSem.ClaimJoined
import GoSem.ClaimMapViews
import Derived.JoinedTies
import Derived.KernelRfl
namespace Go.Proofs.Ytjilbinhppledaa
/- THE CELL 'sum', in the pinned program and in every row, IS THE sha256 OF THE DUMP (.gsa) THAT YtjilbinhppledaaProg.lean LOADS. Nothing in Lean hashes anything: it is a label: what it is worth is what the hold of that sum in a sandbox is worth. -/
noncomputable def Try.pinned : Pinned := { name := "ytjilbinhppledaa", sum := "44821bdbdefe034023a2d86cdee22558645013c126caf882cd23a95d5299bf64", checked := Try.checked }
namespace Rows
def none {H : Type} : Left H := { results := [], args := [] }

/-- 'laws.FnExactActOk': WHATEVER THE INPUT: true; the input reads as it did. -/
def fnExactActOkSpec : ChangeSpec := { name := "fnExactActOk", fn := fun _ => fun
  | [d] => { results := [.lit (.bool true)], args := [d] }
  | _ => none }
def fnExactActOkRow : OpenClaim := { program := "ytjilbinhppledaa", sum := "44821bdbdefe034023a2d86cdee22558645013c126caf882cd23a95d5299bf64", func := "loop.example/g03312/laws.FnExactActOk", spec := "fnExactActOk", apart := false }
def FnExactActOkSaid : Prop := fnExactActOkRow.holds Try.pinned (OpenSpec.ofChange fnExactActOkSpec)

/-- ITS FALSE NEIGHBOUR: 'it returns false'. Refute it at one input. -/
def fnExactActOkWrong : ChangeSpec := { name := "fnExactActOk", fn := fun _ => fun
  | [d] => { results := [.lit (.bool false)], args := [d] }
  | _ => none }
def FnExactActOkWrongFalsely : Prop := fnExactActOkRow.holds Try.pinned (OpenSpec.ofChange fnExactActOkWrong)

/-- 'laws.FnExactSameData': WHATEVER THE INPUT: true; the input reads as it did. -/
def fnExactSameDataSpec : ChangeSpec := { name := "fnExactSameData", fn := fun _ => fun
  | [d1, d2] => { results := [.lit (.bool true)], args := [d1, d2] }
  | _ => none }
def fnExactSameDataRow : OpenClaim := { program := "ytjilbinhppledaa", sum := "44821bdbdefe034023a2d86cdee22558645013c126caf882cd23a95d5299bf64", func := "loop.example/g03312/laws.FnExactSameData", spec := "fnExactSameData", apart := false }
def FnExactSameDataSaid : Prop := fnExactSameDataRow.holds Try.pinned (OpenSpec.ofChange fnExactSameDataSpec)

/-- ITS FALSE NEIGHBOUR: 'it returns false'. Refute it at one input. -/
def fnExactSameDataWrong : ChangeSpec := { name := "fnExactSameData", fn := fun _ => fun
  | [d1, d2] => { results := [.lit (.bool false)], args := [d1, d2] }
  | _ => none }
def FnExactSameDataWrongFalsely : Prop := fnExactSameDataRow.holds Try.pinned (OpenSpec.ofChange fnExactSameDataWrong)

/-- 'laws.FnExactStartMove': WHATEVER THE INPUT: true; the input reads as it did. -/
def fnExactStartMoveSpec : ChangeSpec := { name := "fnExactStartMove", fn := fun _ => fun
  | [d] => { results := [.lit (.bool true)], args := [d] }
  | _ => none }
def fnExactStartMoveRow : OpenClaim := { program := "ytjilbinhppledaa", sum := "44821bdbdefe034023a2d86cdee22558645013c126caf882cd23a95d5299bf64", func := "loop.example/g03312/laws.FnExactStartMove", spec := "fnExactStartMove", apart := false }
def FnExactStartMoveSaid : Prop := fnExactStartMoveRow.holds Try.pinned (OpenSpec.ofChange fnExactStartMoveSpec)

/-- ITS FALSE NEIGHBOUR: 'it returns false'. Refute it at one input. -/
def fnExactStartMoveWrong : ChangeSpec := { name := "fnExactStartMove", fn := fun _ => fun
  | [d] => { results := [.lit (.bool false)], args := [d] }
  | _ => none }
def FnExactStartMoveWrongFalsely : Prop := fnExactStartMoveRow.holds Try.pinned (OpenSpec.ofChange fnExactStartMoveWrong)

/-- 'laws.FnExactCopyRound': WHATEVER THE INPUT: true; the input reads as it did. -/
def fnExactCopyRoundSpec : ChangeSpec := { name := "fnExactCopyRound", fn := fun _ => fun
  | [d1, d2] => { results := [.lit (.bool true)], args := [d1, d2] }
  | _ => none }
def fnExactCopyRoundRow : OpenClaim := { program := "ytjilbinhppledaa", sum := "44821bdbdefe034023a2d86cdee22558645013c126caf882cd23a95d5299bf64", func := "loop.example/g03312/laws.FnExactCopyRound", spec := "fnExactCopyRound", apart := false }
def FnExactCopyRoundSaid : Prop := fnExactCopyRoundRow.holds Try.pinned (OpenSpec.ofChange fnExactCopyRoundSpec)

/-- ITS FALSE NEIGHBOUR: 'it returns false'. Refute it at one input. -/
def fnExactCopyRoundWrong : ChangeSpec := { name := "fnExactCopyRound", fn := fun _ => fun
  | [d1, d2] => { results := [.lit (.bool false)], args := [d1, d2] }
  | _ => none }
def FnExactCopyRoundWrongFalsely : Prop := fnExactCopyRoundRow.holds Try.pinned (OpenSpec.ofChange fnExactCopyRoundWrong)

/-- 'laws.FnExactHasReset': WHATEVER THE INPUT: true; the input reads as it did. -/
def fnExactHasResetSpec : ChangeSpec := { name := "fnExactHasReset", fn := fun _ => fun
  | [d] => { results := [.lit (.bool true)], args := [d] }
  | _ => none }
def fnExactHasResetRow : OpenClaim := { program := "ytjilbinhppledaa", sum := "44821bdbdefe034023a2d86cdee22558645013c126caf882cd23a95d5299bf64", func := "loop.example/g03312/laws.FnExactHasReset", spec := "fnExactHasReset", apart := false }
def FnExactHasResetSaid : Prop := fnExactHasResetRow.holds Try.pinned (OpenSpec.ofChange fnExactHasResetSpec)

/-- ITS FALSE NEIGHBOUR: 'it returns false'. Refute it at one input. -/
def fnExactHasResetWrong : ChangeSpec := { name := "fnExactHasReset", fn := fun _ => fun
  | [d] => { results := [.lit (.bool false)], args := [d] }
  | _ => none }
def FnExactHasResetWrongFalsely : Prop := fnExactHasResetRow.holds Try.pinned (OpenSpec.ofChange fnExactHasResetWrong)

/-- 'laws.FnExactNoteChanges': WHATEVER THE INPUT: true; the input reads as it did. -/
def fnExactNoteChangesSpec : ChangeSpec := { name := "fnExactNoteChanges", fn := fun _ => fun
  | [d1, d2, d3] => { results := [.lit (.bool true)], args := [d1, d2, d3] }
  | _ => none }
def fnExactNoteChangesRow : OpenClaim := { program := "ytjilbinhppledaa", sum := "44821bdbdefe034023a2d86cdee22558645013c126caf882cd23a95d5299bf64", func := "loop.example/g03312/laws.FnExactNoteChanges", spec := "fnExactNoteChanges", apart := false }
def FnExactNoteChangesSaid : Prop := fnExactNoteChangesRow.holds Try.pinned (OpenSpec.ofChange fnExactNoteChangesSpec)

/-- ITS FALSE NEIGHBOUR: 'it returns false'. Refute it at one input. -/
def fnExactNoteChangesWrong : ChangeSpec := { name := "fnExactNoteChanges", fn := fun _ => fun
  | [d1, d2, d3] => { results := [.lit (.bool false)], args := [d1, d2, d3] }
  | _ => none }
def FnExactNoteChangesWrongFalsely : Prop := fnExactNoteChangesRow.holds Try.pinned (OpenSpec.ofChange fnExactNoteChangesWrong)

/- THE SECOND FORM. 'bulk': how many values and letters a reading holds, each counted each time it is reached (what is shared counts as often as it is met; a slice's spare places count too). A statement '..UptoSaid' is the law's where the arguments, and the package variables that the reading takes, are together of bulk at most 1048576: NARROWER than '..Said'. Prove '..Said' where nothing that the law and all that it calls make is longer than what came in: it says more and counts as full. Else prove '..UptoSaid'. A law counts once. -/
mutual
def uptoBulk {H : Type} : DataW H → Nat
  | .lit (.string bytes) => bytes.length + 1
  | .lit _ => 1
  | .nil => 1
  | .ptr d => uptoBulk d + 1
  | .slice elems spare => uptoBulkAll elems + uptoBulkAll spare + 1
  | .agg parts => uptoBulkAll parts + 1
  | .iface _ d => uptoBulk d + 1
  | .map entries => uptoBulkEntries entries + 1
  | .held _ => 1
def uptoBulkAll {H : Type} : List (DataW H) → Nat
  | [] => 0
  | d :: r => uptoBulk d + uptoBulkAll r
def uptoBulkEntries {H : Type} : List (Lit × DataW H) → Nat
  | [] => 0
  | x :: r => uptoBulkEntry x + uptoBulkEntries r
def uptoBulkEntry {H : Type} : Lit × DataW H → Nat
  | (.string bytes, d) => bytes.length + uptoBulk d + 1
  | (_, d) => uptoBulk d + 1
 end
def uptoSmall : (H : Type) → List (DataW H) → Bool := fun _ ds => decide (uptoBulkAll ds ≤ 1048576)
def OpenSpec.upto (s : _root_.Go.ChangeSpec) : _root_.Go.OpenSpec := { _root_.Go.OpenSpec.ofChange s with cond := some uptoSmall }

/-- 'laws.FnExactActOk', WHERE WHAT IT READS IS OF BULK AT MOST 1048576: true; the input reads as it did. -/
def fnExactActOkUptoRow : OpenClaim := { program := "ytjilbinhppledaa", sum := "44821bdbdefe034023a2d86cdee22558645013c126caf882cd23a95d5299bf64", func := "loop.example/g03312/laws.FnExactActOk", spec := "fnExactActOk", apart := false, narrowed := true }
def FnExactActOkUptoSaid : Prop := fnExactActOkUptoRow.holds Try.pinned (OpenSpec.upto fnExactActOkSpec)

/-- 'laws.FnExactSameData', WHERE WHAT IT READS IS OF BULK AT MOST 1048576: true; the input reads as it did. -/
def fnExactSameDataUptoRow : OpenClaim := { program := "ytjilbinhppledaa", sum := "44821bdbdefe034023a2d86cdee22558645013c126caf882cd23a95d5299bf64", func := "loop.example/g03312/laws.FnExactSameData", spec := "fnExactSameData", apart := false, narrowed := true }
def FnExactSameDataUptoSaid : Prop := fnExactSameDataUptoRow.holds Try.pinned (OpenSpec.upto fnExactSameDataSpec)

/-- 'laws.FnExactStartMove', WHERE WHAT IT READS IS OF BULK AT MOST 1048576: true; the input reads as it did. -/
def fnExactStartMoveUptoRow : OpenClaim := { program := "ytjilbinhppledaa", sum := "44821bdbdefe034023a2d86cdee22558645013c126caf882cd23a95d5299bf64", func := "loop.example/g03312/laws.FnExactStartMove", spec := "fnExactStartMove", apart := false, narrowed := true }
def FnExactStartMoveUptoSaid : Prop := fnExactStartMoveUptoRow.holds Try.pinned (OpenSpec.upto fnExactStartMoveSpec)

/-- 'laws.FnExactCopyRound', WHERE WHAT IT READS IS OF BULK AT MOST 1048576: true; the input reads as it did. -/
def fnExactCopyRoundUptoRow : OpenClaim := { program := "ytjilbinhppledaa", sum := "44821bdbdefe034023a2d86cdee22558645013c126caf882cd23a95d5299bf64", func := "loop.example/g03312/laws.FnExactCopyRound", spec := "fnExactCopyRound", apart := false, narrowed := true }
def FnExactCopyRoundUptoSaid : Prop := fnExactCopyRoundUptoRow.holds Try.pinned (OpenSpec.upto fnExactCopyRoundSpec)

/-- 'laws.FnExactHasReset', WHERE WHAT IT READS IS OF BULK AT MOST 1048576: true; the input reads as it did. -/
def fnExactHasResetUptoRow : OpenClaim := { program := "ytjilbinhppledaa", sum := "44821bdbdefe034023a2d86cdee22558645013c126caf882cd23a95d5299bf64", func := "loop.example/g03312/laws.FnExactHasReset", spec := "fnExactHasReset", apart := false, narrowed := true }
def FnExactHasResetUptoSaid : Prop := fnExactHasResetUptoRow.holds Try.pinned (OpenSpec.upto fnExactHasResetSpec)

/-- 'laws.FnExactNoteChanges', WHERE WHAT IT READS IS OF BULK AT MOST 1048576: true; the input reads as it did. -/
def fnExactNoteChangesUptoRow : OpenClaim := { program := "ytjilbinhppledaa", sum := "44821bdbdefe034023a2d86cdee22558645013c126caf882cd23a95d5299bf64", func := "loop.example/g03312/laws.FnExactNoteChanges", spec := "fnExactNoteChanges", apart := false, narrowed := true }
def FnExactNoteChangesUptoSaid : Prop := fnExactNoteChangesUptoRow.holds Try.pinned (OpenSpec.upto fnExactNoteChangesSpec)

end Rows
end Go.Proofs.Ytjilbinhppledaa
