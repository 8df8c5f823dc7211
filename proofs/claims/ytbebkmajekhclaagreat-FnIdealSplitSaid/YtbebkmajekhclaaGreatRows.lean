/-
  No cell of these rows narrows 'for every input' (looked for: loops, veiled, ifaces, maps, wideKeys, modest, calm, conditions, laid).
  DERIVED. THE GIVEN ROWS OF THIS SEAT. 4 by the template 'for every input the law returns true; each argument reads behind the call as it read before'; 0 by the template 'total and deterministic' (their statements: YtbebkmajekhclaaGreatTotals.lean).
  GIVEN WITH THE SEED: the statements are not yours to turn. If you find one false, say at which input.
  Laid BY PROGRAM, IN A SANDBOX (cutbox-rows.mjs): the forced cells as the released guide's own fill.sh prints them over the translation 124f78eda04771e3… (all of the seat's roots in one cut). By AI agents, Wed Nov 11 2026. No macro, syntax, notation, axiom, sorry.
-/
import Derived.Test.YtbebkmajekhclaaGreatChecked
import GoSem.Claim
import GoSem.ClaimJoined
import GoSem.ClaimMapViews
import Derived.JoinedTies
import Derived.KernelRfl
namespace Go.Proofs.YtbebkmajekhclaaGreat
/- THE CELL 'sum', in the pinned program and in every row, IS THE sha256 OF THE DUMP (.gsa) THAT YtbebkmajekhclaaGreatProg.lean LOADS. Nothing in Lean hashes anything: it is a label: what it is worth is what the hold of that sum in a sandbox is worth. -/
noncomputable def Tryz.pinned : Pinned := { name := "ytbebkmajekhclaagreat", sum := "124f78eda04771e3103a5c6518cbbce9fae008da4c2a5b47666493654f4ac728", checked := Tryz.checked }
namespace Rows
def none {H : Type} : Left H := { results := [], args := [] }

/-- 'laws.FnCalm': WHATEVER THE INPUT: true; the input reads as it did. -/
def fnCalmSpec : ChangeSpec := { name := "fnCalm", fn := fun _ => fun
  | [d] => { results := [.lit (.bool true)], args := [d] }
  | _ => none }
def fnCalmRow : OpenClaim := { program := "ytbebkmajekhclaagreat", sum := "124f78eda04771e3103a5c6518cbbce9fae008da4c2a5b47666493654f4ac728", func := "loop.example/g03312/laws.FnCalm", spec := "fnCalm", apart := false }
def FnCalmSaid : Prop := fnCalmRow.holds Tryz.pinned (OpenSpec.ofChange fnCalmSpec)

/-- ITS FALSE NEIGHBOUR: 'it returns false'. Refute it at one input. -/
def fnCalmWrong : ChangeSpec := { name := "fnCalm", fn := fun _ => fun
  | [d] => { results := [.lit (.bool false)], args := [d] }
  | _ => none }
def FnCalmWrongFalsely : Prop := fnCalmRow.holds Tryz.pinned (OpenSpec.ofChange fnCalmWrong)

/-- 'laws.FnNoForeigners': WHATEVER THE INPUT: true; the input reads as it did. -/
def fnNoForeignersSpec : ChangeSpec := { name := "fnNoForeigners", fn := fun _ => fun
  | [d] => { results := [.lit (.bool true)], args := [d] }
  | _ => none }
def fnNoForeignersRow : OpenClaim := { program := "ytbebkmajekhclaagreat", sum := "124f78eda04771e3103a5c6518cbbce9fae008da4c2a5b47666493654f4ac728", func := "loop.example/g03312/laws.FnNoForeigners", spec := "fnNoForeigners", apart := false }
def FnNoForeignersSaid : Prop := fnNoForeignersRow.holds Tryz.pinned (OpenSpec.ofChange fnNoForeignersSpec)

/-- ITS FALSE NEIGHBOUR: 'it returns false'. Refute it at one input. -/
def fnNoForeignersWrong : ChangeSpec := { name := "fnNoForeigners", fn := fun _ => fun
  | [d] => { results := [.lit (.bool false)], args := [d] }
  | _ => none }
def FnNoForeignersWrongFalsely : Prop := fnNoForeignersRow.holds Tryz.pinned (OpenSpec.ofChange fnNoForeignersWrong)

/-- 'laws.FnAlone': WHATEVER THE INPUT: true; the input reads as it did. -/
def fnAloneSpec : ChangeSpec := { name := "fnAlone", fn := fun _ => fun
  | [d] => { results := [.lit (.bool true)], args := [d] }
  | _ => none }
def fnAloneRow : OpenClaim := { program := "ytbebkmajekhclaagreat", sum := "124f78eda04771e3103a5c6518cbbce9fae008da4c2a5b47666493654f4ac728", func := "loop.example/g03312/laws.FnAlone", spec := "fnAlone", apart := false }
def FnAloneSaid : Prop := fnAloneRow.holds Tryz.pinned (OpenSpec.ofChange fnAloneSpec)

/-- ITS FALSE NEIGHBOUR: 'it returns false'. Refute it at one input. -/
def fnAloneWrong : ChangeSpec := { name := "fnAlone", fn := fun _ => fun
  | [d] => { results := [.lit (.bool false)], args := [d] }
  | _ => none }
def FnAloneWrongFalsely : Prop := fnAloneRow.holds Tryz.pinned (OpenSpec.ofChange fnAloneWrong)

/-- 'laws.FnIdealSplit': WHATEVER THE INPUT: true; the input reads as it did. -/
def fnIdealSplitSpec : ChangeSpec := { name := "fnIdealSplit", fn := fun _ => fun
  | [d] => { results := [.lit (.bool true)], args := [d] }
  | _ => none }
def fnIdealSplitRow : OpenClaim := { program := "ytbebkmajekhclaagreat", sum := "124f78eda04771e3103a5c6518cbbce9fae008da4c2a5b47666493654f4ac728", func := "loop.example/g03312/laws.FnIdealSplit", spec := "fnIdealSplit", apart := false }
def FnIdealSplitSaid : Prop := fnIdealSplitRow.holds Tryz.pinned (OpenSpec.ofChange fnIdealSplitSpec)

/-- ITS FALSE NEIGHBOUR: 'it returns false'. Refute it at one input. -/
def fnIdealSplitWrong : ChangeSpec := { name := "fnIdealSplit", fn := fun _ => fun
  | [d] => { results := [.lit (.bool false)], args := [d] }
  | _ => none }
def FnIdealSplitWrongFalsely : Prop := fnIdealSplitRow.holds Tryz.pinned (OpenSpec.ofChange fnIdealSplitWrong)

/- THE SECOND FORM. 'bulk': how many values and letters a reading holds, each counted each time it is reached (what is shared counts as often as it is met; a slice's spare places count too). A statement '..UptoSaid' is the law's where the arguments, and the package variables that the reading takes, are together of bulk at most 1048576: NARROWER than '..Said'. Prove '..Said' where nothing that the law and all that it calls make is longer than what came in: it says more and counts as full. Else prove '..UptoSaid'. A law counts once. -/
mutual
def uptoBulk {H : Type} : DataW H → Nat
  | .lit (.string bytes) => bytes.length + 1
  | .lit _ => 1
  | .nil => 1
  | .ptr d => uptoBulk d + 1
  | .slice elems spare => uptoBulkAll elems + uptoBulkAll spare + 1
  | .agg parts => uptoBulkAll parts + 1
  | .iface _ d => uptoBulk d + 1
  | .map entries => uptoBulkEntries entries + 1
  | .held _ => 1
def uptoBulkAll {H : Type} : List (DataW H) → Nat
  | [] => 0
  | d :: r => uptoBulk d + uptoBulkAll r
def uptoBulkEntries {H : Type} : List (Lit × DataW H) → Nat
  | [] => 0
  | x :: r => uptoBulkEntry x + uptoBulkEntries r
def uptoBulkEntry {H : Type} : Lit × DataW H → Nat
  | (.string bytes, d) => bytes.length + uptoBulk d + 1
  | (_, d) => uptoBulk d + 1
 end
def uptoSmall : (H : Type) → List (DataW H) → Bool := fun _ ds => decide (uptoBulkAll ds ≤ 1048576)
def OpenSpec.upto (s : _root_.Go.ChangeSpec) : _root_.Go.OpenSpec := { _root_.Go.OpenSpec.ofChange s with cond := some uptoSmall }

/-- 'laws.FnCalm', WHERE WHAT IT READS IS OF BULK AT MOST 1048576: true; the input reads as it did. -/
def fnCalmUptoRow : OpenClaim := { program := "ytbebkmajekhclaagreat", sum := "124f78eda04771e3103a5c6518cbbce9fae008da4c2a5b47666493654f4ac728", func := "loop.example/g03312/laws.FnCalm", spec := "fnCalm", apart := false, narrowed := true }
def FnCalmUptoSaid : Prop := fnCalmUptoRow.holds Tryz.pinned (OpenSpec.upto fnCalmSpec)

/-- 'laws.FnNoForeigners', WHERE WHAT IT READS IS OF BULK AT MOST 1048576: true; the input reads as it did. -/
def fnNoForeignersUptoRow : OpenClaim := { program := "ytbebkmajekhclaagreat", sum := "124f78eda04771e3103a5c6518cbbce9fae008da4c2a5b47666493654f4ac728", func := "loop.example/g03312/laws.FnNoForeigners", spec := "fnNoForeigners", apart := false, narrowed := true }
def FnNoForeignersUptoSaid : Prop := fnNoForeignersUptoRow.holds Tryz.pinned (OpenSpec.upto fnNoForeignersSpec)

/-- 'laws.FnAlone', WHERE WHAT IT READS IS OF BULK AT MOST 1048576: true; the input reads as it did. -/
def fnAloneUptoRow : OpenClaim := { program := "ytbebkmajekhclaagreat", sum := "124f78eda04771e3103a5c6518cbbce9fae008da4c2a5b47666493654f4ac728", func := "loop.example/g03312/laws.FnAlone", spec := "fnAlone", apart := false, narrowed := true }
def FnAloneUptoSaid : Prop := fnAloneUptoRow.holds Tryz.pinned (OpenSpec.upto fnAloneSpec)

/-- 'laws.FnIdealSplit', WHERE WHAT IT READS IS OF BULK AT MOST 1048576: true; the input reads as it did. -/
def fnIdealSplitUptoRow : OpenClaim := { program := "ytbebkmajekhclaagreat", sum := "124f78eda04771e3103a5c6518cbbce9fae008da4c2a5b47666493654f4ac728", func := "loop.example/g03312/laws.FnIdealSplit", spec := "fnIdealSplit", apart := false, narrowed := true }
def FnIdealSplitUptoSaid : Prop := fnIdealSplitUptoRow.holds Tryz.pinned (OpenSpec.upto fnIdealSplitSpec)

end Rows
end Go.Proofs.YtbebkmajekhclaaGreat
