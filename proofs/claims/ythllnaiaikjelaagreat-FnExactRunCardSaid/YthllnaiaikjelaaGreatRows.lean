/-
  No cell of these rows narrows 'for every input' (looked for: loops, veiled, ifaces, maps, wideKeys, modest, calm, conditions, laid).
  DERIVED. THE GIVEN ROWS OF THIS SEAT. 3 by the template 'for every input the law returns true; each argument reads behind the call as it read before'; 0 by the template 'total and deterministic' (their statements: YthllnaiaikjelaaGreatTotals.lean).
  GIVEN WITH THE SEED: the statements are not yours to turn. If you find one false, say at which input.
  Laid BY PROGRAM, IN A SANDBOX (cutbox-rows.mjs): the forced cells as the released guide's own fill.sh prints them over the translation 745baa2191a987c5… (all of the seat's roots in one cut). By AI agents, Wed Nov 11 2026. No macro, syntax, notation, axiom, sorry.
-/
import Derived.Test.YthllnaiaikjelaaGreatChecked
import GoSem.Claim
import GoSem.ClaimJoined
import GoSem.ClaimMapViews
import Derived.JoinedTies
import Derived.KernelRfl
namespace Go.Proofs.YthllnaiaikjelaaGreat
/- THE CELL 'sum', in the pinned program and in every row, IS THE sha256 OF THE DUMP (.gsa) THAT YthllnaiaikjelaaGreatProg.lean LOADS. Nothing in Lean hashes anything: it is a label: what it is worth is what the hold of that sum in a sandbox is worth. -/
noncomputable def Tryz.pinned : Pinned := { name := "ythllnaiaikjelaagreat", sum := "745baa2191a987c501c4c5f6827a2e6c095c1d5af6f4fb003bdf05a5811ea136", checked := Tryz.checked }
namespace Rows
def none {H : Type} : Left H := { results := [], args := [] }

/-- 'laws.FnExactCardTransmit': WHATEVER THE INPUT: true; the input reads as it did. -/
def fnExactCardTransmitSpec : ChangeSpec := { name := "fnExactCardTransmit", fn := fun _ => fun
  | [d1, d2] => { results := [.lit (.bool true)], args := [d1, d2] }
  | _ => none }
def fnExactCardTransmitRow : OpenClaim := { program := "ythllnaiaikjelaagreat", sum := "745baa2191a987c501c4c5f6827a2e6c095c1d5af6f4fb003bdf05a5811ea136", func := "loop.example/g03312/laws.FnExactCardTransmit", spec := "fnExactCardTransmit", apart := false }
def FnExactCardTransmitSaid : Prop := fnExactCardTransmitRow.holds Tryz.pinned (OpenSpec.ofChange fnExactCardTransmitSpec)

/-- ITS FALSE NEIGHBOUR: 'it returns false'. Refute it at one input. -/
def fnExactCardTransmitWrong : ChangeSpec := { name := "fnExactCardTransmit", fn := fun _ => fun
  | [d1, d2] => { results := [.lit (.bool false)], args := [d1, d2] }
  | _ => none }
def FnExactCardTransmitWrongFalsely : Prop := fnExactCardTransmitRow.holds Tryz.pinned (OpenSpec.ofChange fnExactCardTransmitWrong)

/-- 'laws.FnExactDoCard': WHATEVER THE INPUT: true; the input reads as it did. -/
def fnExactDoCardSpec : ChangeSpec := { name := "fnExactDoCard", fn := fun _ => fun
  | [d1, d2] => { results := [.lit (.bool true)], args := [d1, d2] }
  | _ => none }
def fnExactDoCardRow : OpenClaim := { program := "ythllnaiaikjelaagreat", sum := "745baa2191a987c501c4c5f6827a2e6c095c1d5af6f4fb003bdf05a5811ea136", func := "loop.example/g03312/laws.FnExactDoCard", spec := "fnExactDoCard", apart := false }
def FnExactDoCardSaid : Prop := fnExactDoCardRow.holds Tryz.pinned (OpenSpec.ofChange fnExactDoCardSpec)

/-- ITS FALSE NEIGHBOUR: 'it returns false'. Refute it at one input. -/
def fnExactDoCardWrong : ChangeSpec := { name := "fnExactDoCard", fn := fun _ => fun
  | [d1, d2] => { results := [.lit (.bool false)], args := [d1, d2] }
  | _ => none }
def FnExactDoCardWrongFalsely : Prop := fnExactDoCardRow.holds Tryz.pinned (OpenSpec.ofChange fnExactDoCardWrong)

/-- 'laws.FnExactRunCard': WHATEVER THE INPUT: true; the input reads as it did. -/
def fnExactRunCardSpec : ChangeSpec := { name := "fnExactRunCard", fn := fun _ => fun
  | [d1, d2] => { results := [.lit (.bool true)], args := [d1, d2] }
  | _ => none }
def fnExactRunCardRow : OpenClaim := { program := "ythllnaiaikjelaagreat", sum := "745baa2191a987c501c4c5f6827a2e6c095c1d5af6f4fb003bdf05a5811ea136", func := "loop.example/g03312/laws.FnExactRunCard", spec := "fnExactRunCard", apart := false }
def FnExactRunCardSaid : Prop := fnExactRunCardRow.holds Tryz.pinned (OpenSpec.ofChange fnExactRunCardSpec)

/-- ITS FALSE NEIGHBOUR: 'it returns false'. Refute it at one input. -/
def fnExactRunCardWrong : ChangeSpec := { name := "fnExactRunCard", fn := fun _ => fun
  | [d1, d2] => { results := [.lit (.bool false)], args := [d1, d2] }
  | _ => none }
def FnExactRunCardWrongFalsely : Prop := fnExactRunCardRow.holds Tryz.pinned (OpenSpec.ofChange fnExactRunCardWrong)

/- THE SECOND FORM. 'bulk': how many values and letters a reading holds, each counted each time it is reached (what is shared counts as often as it is met; a slice's spare places count too). A statement '..UptoSaid' is the law's where the arguments, and the package variables that the reading takes, are together of bulk at most 1048576: NARROWER than '..Said'. Prove '..Said' where nothing that the law and all that it calls make is longer than what came in: it says more and counts as full. Else prove '..UptoSaid'. A law counts once. -/
mutual
def uptoBulk {H : Type} : DataW H → Nat
  | .lit (.string bytes) => bytes.length + 1
  | .lit _ => 1
  | .nil => 1
  | .ptr d => uptoBulk d + 1
  | .slice elems spare => uptoBulkAll elems + uptoBulkAll spare + 1
  | .agg parts => uptoBulkAll parts + 1
  | .iface _ d => uptoBulk d + 1
  | .map entries => uptoBulkEntries entries + 1
  | .held _ => 1
def uptoBulkAll {H : Type} : List (DataW H) → Nat
  | [] => 0
  | d :: r => uptoBulk d + uptoBulkAll r
def uptoBulkEntries {H : Type} : List (Lit × DataW H) → Nat
  | [] => 0
  | x :: r => uptoBulkEntry x + uptoBulkEntries r
def uptoBulkEntry {H : Type} : Lit × DataW H → Nat
  | (.string bytes, d) => bytes.length + uptoBulk d + 1
  | (_, d) => uptoBulk d + 1
 end
def uptoSmall : (H : Type) → List (DataW H) → Bool := fun _ ds => decide (uptoBulkAll ds ≤ 1048576)
def OpenSpec.upto (s : _root_.Go.ChangeSpec) : _root_.Go.OpenSpec := { _root_.Go.OpenSpec.ofChange s with cond := some uptoSmall }

/-- 'laws.FnExactCardTransmit', WHERE WHAT IT READS IS OF BULK AT MOST 1048576: true; the input reads as it did. -/
def fnExactCardTransmitUptoRow : OpenClaim := { program := "ythllnaiaikjelaagreat", sum := "745baa2191a987c501c4c5f6827a2e6c095c1d5af6f4fb003bdf05a5811ea136", func := "loop.example/g03312/laws.FnExactCardTransmit", spec := "fnExactCardTransmit", apart := false, narrowed := true }
def FnExactCardTransmitUptoSaid : Prop := fnExactCardTransmitUptoRow.holds Tryz.pinned (OpenSpec.upto fnExactCardTransmitSpec)

/-- 'laws.FnExactDoCard', WHERE WHAT IT READS IS OF BULK AT MOST 1048576: true; the input reads as it did. -/
def fnExactDoCardUptoRow : OpenClaim := { program := "ythllnaiaikjelaagreat", sum := "745baa2191a987c501c4c5f6827a2e6c095c1d5af6f4fb003bdf05a5811ea136", func := "loop.example/g03312/laws.FnExactDoCard", spec := "fnExactDoCard", apart := false, narrowed := true }
def FnExactDoCardUptoSaid : Prop := fnExactDoCardUptoRow.holds Tryz.pinned (OpenSpec.upto fnExactDoCardSpec)

/-- 'laws.FnExactRunCard', WHERE WHAT IT READS IS OF BULK AT MOST 1048576: true; the input reads as it did. -/
def fnExactRunCardUptoRow : OpenClaim := { program := "ythllnaiaikjelaagreat", sum := "745baa2191a987c501c4c5f6827a2e6c095c1d5af6f4fb003bdf05a5811ea136", func := "loop.example/g03312/laws.FnExactRunCard", spec := "fnExactRunCard", apart := false, narrowed := true }
def FnExactRunCardUptoSaid : Prop := fnExactRunCardUptoRow.holds Tryz.pinned (OpenSpec.upto fnExactRunCardSpec)

end Rows
end Go.Proofs.YthllnaiaikjelaaGreat
