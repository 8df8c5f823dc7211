/-
  No cell of these rows narrows 'for every input' (looked for: loops, veiled, ifaces, maps, wideKeys, modest, calm, conditions, laid).
  DERIVED. THE GIVEN ROWS OF THIS SEAT. 2 by the template 'for every input the law returns true; each argument reads behind the call as it read before'; 0 by the template 'total and deterministic' (their statements: YtpgnehchfeikmaaGreatTotals.lean).
  GIVEN WITH THE SEED: the statements are not yours to turn. If you find one false, say at which input.
  Laid BY PROGRAM, IN A SANDBOX (cutbox-rows.mjs): the forced cells as the released guide's own fill.sh prints them over the translation a62cf3cdf74e4441… (all of the seat's roots in one cut). By AI agents, Wed Nov 11 2026. No macro, syntax, notation, axiom, sorry.
-/
import Derived.Test.YtpgnehchfeikmaaGreatChecked
import GoSem.Claim
import GoSem.ClaimJoined
import GoSem.ClaimMapViews
import Derived.JoinedTies
import Derived.KernelRfl
namespace Go.Proofs.YtpgnehchfeikmaaGreat
/- THE CELL 'sum', in the pinned program and in every row, IS THE sha256 OF THE DUMP (.gsa) THAT YtpgnehchfeikmaaGreatProg.lean LOADS. Nothing in Lean hashes anything: it is a label: what it is worth is what the hold of that sum in a sandbox is worth. -/
noncomputable def Tryz.pinned : Pinned := { name := "ytpgnehchfeikmaagreat", sum := "a62cf3cdf74e44410350cc718f93729bd02b704b6c2eb60e1557f044819a2f1d", checked := Tryz.checked }
namespace Rows
def none {H : Type} : Left H := { results := [], args := [] }

/-- 'laws.FnIdealAlone': WHATEVER THE INPUT: true; the input reads as it did. -/
def fnIdealAloneSpec : ChangeSpec := { name := "fnIdealAlone", fn := fun _ => fun
  | [d] => { results := [.lit (.bool true)], args := [d] }
  | _ => none }
def fnIdealAloneRow : OpenClaim := { program := "ytpgnehchfeikmaagreat", sum := "a62cf3cdf74e44410350cc718f93729bd02b704b6c2eb60e1557f044819a2f1d", func := "loop.example/g03312/laws.FnIdealAlone", spec := "fnIdealAlone", apart := false }
def FnIdealAloneSaid : Prop := fnIdealAloneRow.holds Tryz.pinned (OpenSpec.ofChange fnIdealAloneSpec)

/-- ITS FALSE NEIGHBOUR: 'it returns false'. Refute it at one input. -/
def fnIdealAloneWrong : ChangeSpec := { name := "fnIdealAlone", fn := fun _ => fun
  | [d] => { results := [.lit (.bool false)], args := [d] }
  | _ => none }
def FnIdealAloneWrongFalsely : Prop := fnIdealAloneRow.holds Tryz.pinned (OpenSpec.ofChange fnIdealAloneWrong)

/-- 'laws.FnIdealSplit': WHATEVER THE INPUT: true; the input reads as it did. -/
def fnIdealSplitSpec : ChangeSpec := { name := "fnIdealSplit", fn := fun _ => fun
  | [d] => { results := [.lit (.bool true)], args := [d] }
  | _ => none }
def fnIdealSplitRow : OpenClaim := { program := "ytpgnehchfeikmaagreat", sum := "a62cf3cdf74e44410350cc718f93729bd02b704b6c2eb60e1557f044819a2f1d", func := "loop.example/g03312/laws.FnIdealSplit", spec := "fnIdealSplit", apart := false }
def FnIdealSplitSaid : Prop := fnIdealSplitRow.holds Tryz.pinned (OpenSpec.ofChange fnIdealSplitSpec)

/-- ITS FALSE NEIGHBOUR: 'it returns false'. Refute it at one input. -/
def fnIdealSplitWrong : ChangeSpec := { name := "fnIdealSplit", fn := fun _ => fun
  | [d] => { results := [.lit (.bool false)], args := [d] }
  | _ => none }
def FnIdealSplitWrongFalsely : Prop := fnIdealSplitRow.holds Tryz.pinned (OpenSpec.ofChange fnIdealSplitWrong)

/- THE SECOND FORM. 'bulk': how many values and letters a reading holds, each counted each time it is reached (what is shared counts as often as it is met; a slice's spare places count too). A statement '..UptoSaid' is the law's where the arguments, and the package variables that the reading takes, are together of bulk at most 1048576: NARROWER than '..Said'. Prove '..Said' where nothing that the law and all that it calls make is longer than what came in: it says more and counts as full. Else prove '..UptoSaid'. A law counts once. -/
mutual
def uptoBulk {H : Type} : DataW H → Nat
  | .lit (.string bytes) => bytes.length + 1
  | .lit _ => 1
  | .nil => 1
  | .ptr d => uptoBulk d + 1
  | .slice elems spare => uptoBulkAll elems + uptoBulkAll spare + 1
  | .agg parts => uptoBulkAll parts + 1
  | .iface _ d => uptoBulk d + 1
  | .map entries => uptoBulkEntries entries + 1
  | .held _ => 1
def uptoBulkAll {H : Type} : List (DataW H) → Nat
  | [] => 0
  | d :: r => uptoBulk d + uptoBulkAll r
def uptoBulkEntries {H : Type} : List (Lit × DataW H) → Nat
  | [] => 0
  | x :: r => uptoBulkEntry x + uptoBulkEntries r
def uptoBulkEntry {H : Type} : Lit × DataW H → Nat
  | (.string bytes, d) => bytes.length + uptoBulk d + 1
  | (_, d) => uptoBulk d + 1
 end
def uptoSmall : (H : Type) → List (DataW H) → Bool := fun _ ds => decide (uptoBulkAll ds ≤ 1048576)
def OpenSpec.upto (s : _root_.Go.ChangeSpec) : _root_.Go.OpenSpec := { _root_.Go.OpenSpec.ofChange s with cond := some uptoSmall }

/-- 'laws.FnIdealAlone', WHERE WHAT IT READS IS OF BULK AT MOST 1048576: true; the input reads as it did. -/
def fnIdealAloneUptoRow : OpenClaim := { program := "ytpgnehchfeikmaagreat", sum := "a62cf3cdf74e44410350cc718f93729bd02b704b6c2eb60e1557f044819a2f1d", func := "loop.example/g03312/laws.FnIdealAlone", spec := "fnIdealAlone", apart := false, narrowed := true }
def FnIdealAloneUptoSaid : Prop := fnIdealAloneUptoRow.holds Tryz.pinned (OpenSpec.upto fnIdealAloneSpec)

/-- 'laws.FnIdealSplit', WHERE WHAT IT READS IS OF BULK AT MOST 1048576: true; the input reads as it did. -/
def fnIdealSplitUptoRow : OpenClaim := { program := "ytpgnehchfeikmaagreat", sum := "a62cf3cdf74e44410350cc718f93729bd02b704b6c2eb60e1557f044819a2f1d", func := "loop.example/g03312/laws.FnIdealSplit", spec := "fnIdealSplit", apart := false, narrowed := true }
def FnIdealSplitUptoSaid : Prop := fnIdealSplitUptoRow.holds Tryz.pinned (OpenSpec.upto fnIdealSplitSpec)

end Rows
end Go.Proofs.YtpgnehchfeikmaaGreat
