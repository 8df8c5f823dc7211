/-
  No cell of these rows narrows 'for every input' (looked for: loops, veiled, ifaces, maps, wideKeys, modest, calm, conditions, laid).
  DERIVED. THE GIVEN ROWS OF THIS SEAT. 4 by the template 'for every input the law returns true; each argument reads behind the call as it read before'; 0 by the template 'total and deterministic' (their statements: YtgbaemfepmabgaaGreatTotals.lean).
  GIVEN WITH THE SEED: the statements are not yours to turn. If you find one false, say at which input.
  Laid BY PROGRAM, IN A SANDBOX (cutbox-rows.mjs): the forced cells as the released guide's own fill.sh prints them over the translation 203686a356090b8b… (all of the seat's roots in one cut). By AI agents, Wed Nov 11 2026. No macro, syntax, notation, axiom, sorry.
-/
import Derived.Test.YtgbaemfepmabgaaGreatChecked
import GoSem.Claim
import GoSem.ClaimJoined
import GoSem.ClaimMapViews
import Derived.JoinedTies
import Derived.KernelRfl
namespace Go.Proofs.YtgbaemfepmabgaaGreat
/- THE CELL 'sum', in the pinned program and in every row, IS THE sha256 OF THE DUMP (.gsa) THAT YtgbaemfepmabgaaGreatProg.lean LOADS. Nothing in Lean hashes anything: it is a label: what it is worth is what the hold of that sum in a sandbox is worth. -/
noncomputable def Tryz.pinned : Pinned := { name := "ytgbaemfepmabgaagreat", sum := "203686a356090b8b7f1680f6750bb8902fbf0055e1de1f16db83007a2cae5969", checked := Tryz.checked }
namespace Rows
def none {H : Type} : Left H := { results := [], args := [] }

/-- 'laws.FnCommandsAgain': WHATEVER THE INPUT: true; the input reads as it did. -/
def fnCommandsAgainSpec : ChangeSpec := { name := "fnCommandsAgain", fn := fun _ => fun
  | [d] => { results := [.lit (.bool true)], args := [d] }
  | _ => none }
def fnCommandsAgainRow : OpenClaim := { program := "ytgbaemfepmabgaagreat", sum := "203686a356090b8b7f1680f6750bb8902fbf0055e1de1f16db83007a2cae5969", func := "loop.example/g03312/laws.FnCommandsAgain", spec := "fnCommandsAgain", apart := false }
def FnCommandsAgainSaid : Prop := fnCommandsAgainRow.holds Tryz.pinned (OpenSpec.ofChange fnCommandsAgainSpec)

/-- ITS FALSE NEIGHBOUR: 'it returns false'. Refute it at one input. -/
def fnCommandsAgainWrong : ChangeSpec := { name := "fnCommandsAgain", fn := fun _ => fun
  | [d] => { results := [.lit (.bool false)], args := [d] }
  | _ => none }
def FnCommandsAgainWrongFalsely : Prop := fnCommandsAgainRow.holds Tryz.pinned (OpenSpec.ofChange fnCommandsAgainWrong)

/-- 'laws.FnAlone': WHATEVER THE INPUT: true; the input reads as it did. -/
def fnAloneSpec : ChangeSpec := { name := "fnAlone", fn := fun _ => fun
  | [d] => { results := [.lit (.bool true)], args := [d] }
  | _ => none }
def fnAloneRow : OpenClaim := { program := "ytgbaemfepmabgaagreat", sum := "203686a356090b8b7f1680f6750bb8902fbf0055e1de1f16db83007a2cae5969", func := "loop.example/g03312/laws.FnAlone", spec := "fnAlone", apart := false }
def FnAloneSaid : Prop := fnAloneRow.holds Tryz.pinned (OpenSpec.ofChange fnAloneSpec)

/-- ITS FALSE NEIGHBOUR: 'it returns false'. Refute it at one input. -/
def fnAloneWrong : ChangeSpec := { name := "fnAlone", fn := fun _ => fun
  | [d] => { results := [.lit (.bool false)], args := [d] }
  | _ => none }
def FnAloneWrongFalsely : Prop := fnAloneRow.holds Tryz.pinned (OpenSpec.ofChange fnAloneWrong)

/-- 'laws.FnCardBoots': WHATEVER THE INPUT: true; the input reads as it did. -/
def fnCardBootsSpec : ChangeSpec := { name := "fnCardBoots", fn := fun _ => fun
  | [d] => { results := [.lit (.bool true)], args := [d] }
  | _ => none }
def fnCardBootsRow : OpenClaim := { program := "ytgbaemfepmabgaagreat", sum := "203686a356090b8b7f1680f6750bb8902fbf0055e1de1f16db83007a2cae5969", func := "loop.example/g03312/laws.FnCardBoots", spec := "fnCardBoots", apart := false }
def FnCardBootsSaid : Prop := fnCardBootsRow.holds Tryz.pinned (OpenSpec.ofChange fnCardBootsSpec)

/-- ITS FALSE NEIGHBOUR: 'it returns false'. Refute it at one input. -/
def fnCardBootsWrong : ChangeSpec := { name := "fnCardBoots", fn := fun _ => fun
  | [d] => { results := [.lit (.bool false)], args := [d] }
  | _ => none }
def FnCardBootsWrongFalsely : Prop := fnCardBootsRow.holds Tryz.pinned (OpenSpec.ofChange fnCardBootsWrong)

/-- 'laws.FnStamps': WHATEVER THE INPUT: true; the input reads as it did. -/
def fnStampsSpec : ChangeSpec := { name := "fnStamps", fn := fun _ => fun
  | [d] => { results := [.lit (.bool true)], args := [d] }
  | _ => none }
def fnStampsRow : OpenClaim := { program := "ytgbaemfepmabgaagreat", sum := "203686a356090b8b7f1680f6750bb8902fbf0055e1de1f16db83007a2cae5969", func := "loop.example/g03312/laws.FnStamps", spec := "fnStamps", apart := false }
def FnStampsSaid : Prop := fnStampsRow.holds Tryz.pinned (OpenSpec.ofChange fnStampsSpec)

/-- ITS FALSE NEIGHBOUR: 'it returns false'. Refute it at one input. -/
def fnStampsWrong : ChangeSpec := { name := "fnStamps", fn := fun _ => fun
  | [d] => { results := [.lit (.bool false)], args := [d] }
  | _ => none }
def FnStampsWrongFalsely : Prop := fnStampsRow.holds Tryz.pinned (OpenSpec.ofChange fnStampsWrong)

/- THE SECOND FORM. 'bulk': how many values and letters a reading holds, each counted each time it is reached (what is shared counts as often as it is met; a slice's spare places count too). A statement '..UptoSaid' is the law's where the arguments, and the package variables that the reading takes, are together of bulk at most 1048576: NARROWER than '..Said'. Prove '..Said' where nothing that the law and all that it calls make is longer than what came in: it says more and counts as full. Else prove '..UptoSaid'. A law counts once. -/
mutual
def uptoBulk {H : Type} : DataW H → Nat
  | .lit (.string bytes) => bytes.length + 1
  | .lit _ => 1
  | .nil => 1
  | .ptr d => uptoBulk d + 1
  | .slice elems spare => uptoBulkAll elems + uptoBulkAll spare + 1
  | .agg parts => uptoBulkAll parts + 1
  | .iface _ d => uptoBulk d + 1
  | .map entries => uptoBulkEntries entries + 1
  | .held _ => 1
def uptoBulkAll {H : Type} : List (DataW H) → Nat
  | [] => 0
  | d :: r => uptoBulk d + uptoBulkAll r
def uptoBulkEntries {H : Type} : List (Lit × DataW H) → Nat
  | [] => 0
  | x :: r => uptoBulkEntry x + uptoBulkEntries r
def uptoBulkEntry {H : Type} : Lit × DataW H → Nat
  | (.string bytes, d) => bytes.length + uptoBulk d + 1
  | (_, d) => uptoBulk d + 1
 end
def uptoSmall : (H : Type) → List (DataW H) → Bool := fun _ ds => decide (uptoBulkAll ds ≤ 1048576)
def OpenSpec.upto (s : _root_.Go.ChangeSpec) : _root_.Go.OpenSpec := { _root_.Go.OpenSpec.ofChange s with cond := some uptoSmall }

/-- 'laws.FnCommandsAgain', WHERE WHAT IT READS IS OF BULK AT MOST 1048576: true; the input reads as it did. -/
def fnCommandsAgainUptoRow : OpenClaim := { program := "ytgbaemfepmabgaagreat", sum := "203686a356090b8b7f1680f6750bb8902fbf0055e1de1f16db83007a2cae5969", func := "loop.example/g03312/laws.FnCommandsAgain", spec := "fnCommandsAgain", apart := false, narrowed := true }
def FnCommandsAgainUptoSaid : Prop := fnCommandsAgainUptoRow.holds Tryz.pinned (OpenSpec.upto fnCommandsAgainSpec)

/-- 'laws.FnAlone', WHERE WHAT IT READS IS OF BULK AT MOST 1048576: true; the input reads as it did. -/
def fnAloneUptoRow : OpenClaim := { program := "ytgbaemfepmabgaagreat", sum := "203686a356090b8b7f1680f6750bb8902fbf0055e1de1f16db83007a2cae5969", func := "loop.example/g03312/laws.FnAlone", spec := "fnAlone", apart := false, narrowed := true }
def FnAloneUptoSaid : Prop := fnAloneUptoRow.holds Tryz.pinned (OpenSpec.upto fnAloneSpec)

/-- 'laws.FnCardBoots', WHERE WHAT IT READS IS OF BULK AT MOST 1048576: true; the input reads as it did. -/
def fnCardBootsUptoRow : OpenClaim := { program := "ytgbaemfepmabgaagreat", sum := "203686a356090b8b7f1680f6750bb8902fbf0055e1de1f16db83007a2cae5969", func := "loop.example/g03312/laws.FnCardBoots", spec := "fnCardBoots", apart := false, narrowed := true }
def FnCardBootsUptoSaid : Prop := fnCardBootsUptoRow.holds Tryz.pinned (OpenSpec.upto fnCardBootsSpec)

/-- 'laws.FnStamps', WHERE WHAT IT READS IS OF BULK AT MOST 1048576: true; the input reads as it did. -/
def fnStampsUptoRow : OpenClaim := { program := "ytgbaemfepmabgaagreat", sum := "203686a356090b8b7f1680f6750bb8902fbf0055e1de1f16db83007a2cae5969", func := "loop.example/g03312/laws.FnStamps", spec := "fnStamps", apart := false, narrowed := true }
def FnStampsUptoSaid : Prop := fnStampsUptoRow.holds Tryz.pinned (OpenSpec.upto fnStampsSpec)

end Rows
end Go.Proofs.YtgbaemfepmabgaaGreat
