/-
  No cell of these rows narrows 'for every input' (looked for: loops, veiled, ifaces, maps, wideKeys, modest, calm, conditions, laid).
  DERIVED. THE GIVEN ROWS OF THIS SEAT. 5 by the template 'for every input the law returns true; each argument reads behind the call as it read before'; 0 by the template 'total and deterministic' (their statements: YtfbhfnniblfpbaaGreatTotals.lean).
  GIVEN WITH THE SEED: the statements are not yours to turn. If you find one false, say at which input.
  Laid BY PROGRAM, IN A SANDBOX (cutbox-rows.mjs): the forced cells as the released guide's own fill.sh prints them over the translation 909d4199c0aadca1… (all of the seat's roots in one cut). By AI agents, Wed Nov 11 2026. No macro, syntax, notation, axiom, sorry.
-/
import Derived.Test.YtfbhfnniblfpbaaGreatChecked
import GoSem.Claim
import GoSem.ClaimJoined
import GoSem.ClaimMapViews
import Derived.JoinedTies
import Derived.KernelRfl
namespace Go.Proofs.YtfbhfnniblfpbaaGreat
/- THE CELL 'sum', in the pinned program and in every row, IS THE sha256 OF THE DUMP (.gsa) THAT YtfbhfnniblfpbaaGreatProg.lean LOADS. Nothing in Lean hashes anything: it is a label: what it is worth is what the hold of that sum in a sandbox is worth. -/
noncomputable def Tryz.pinned : Pinned := { name := "ytfbhfnniblfpbaagreat", sum := "909d4199c0aadca12d45c0b15481e791955efffc1422f605e10bc01a04753598", checked := Tryz.checked }
namespace Rows
def none {H : Type} : Left H := { results := [], args := [] }

/-- 'laws.FnOffloads': WHATEVER THE INPUT: true; the input reads as it did. -/
def fnOffloadsSpec : ChangeSpec := { name := "fnOffloads", fn := fun _ => fun
  | [d] => { results := [.lit (.bool true)], args := [d] }
  | _ => none }
def fnOffloadsRow : OpenClaim := { program := "ytfbhfnniblfpbaagreat", sum := "909d4199c0aadca12d45c0b15481e791955efffc1422f605e10bc01a04753598", func := "loop.example/g03312/laws.FnOffloads", spec := "fnOffloads", apart := false }
def FnOffloadsSaid : Prop := fnOffloadsRow.holds Tryz.pinned (OpenSpec.ofChange fnOffloadsSpec)

/-- ITS FALSE NEIGHBOUR: 'it returns false'. Refute it at one input. -/
def fnOffloadsWrong : ChangeSpec := { name := "fnOffloads", fn := fun _ => fun
  | [d] => { results := [.lit (.bool false)], args := [d] }
  | _ => none }
def FnOffloadsWrongFalsely : Prop := fnOffloadsRow.holds Tryz.pinned (OpenSpec.ofChange fnOffloadsWrong)

/-- 'laws.FnDeliveredAll': WHATEVER THE INPUT: true; the input reads as it did. -/
def fnDeliveredAllSpec : ChangeSpec := { name := "fnDeliveredAll", fn := fun _ => fun
  | [d] => { results := [.lit (.bool true)], args := [d] }
  | _ => none }
def fnDeliveredAllRow : OpenClaim := { program := "ytfbhfnniblfpbaagreat", sum := "909d4199c0aadca12d45c0b15481e791955efffc1422f605e10bc01a04753598", func := "loop.example/g03312/laws.FnDeliveredAll", spec := "fnDeliveredAll", apart := false }
def FnDeliveredAllSaid : Prop := fnDeliveredAllRow.holds Tryz.pinned (OpenSpec.ofChange fnDeliveredAllSpec)

/-- ITS FALSE NEIGHBOUR: 'it returns false'. Refute it at one input. -/
def fnDeliveredAllWrong : ChangeSpec := { name := "fnDeliveredAll", fn := fun _ => fun
  | [d] => { results := [.lit (.bool false)], args := [d] }
  | _ => none }
def FnDeliveredAllWrongFalsely : Prop := fnDeliveredAllRow.holds Tryz.pinned (OpenSpec.ofChange fnDeliveredAllWrong)

/-- 'laws.FnExactAllDelivered': WHATEVER THE INPUT: true; the input reads as it did. -/
def fnExactAllDeliveredSpec : ChangeSpec := { name := "fnExactAllDelivered", fn := fun _ => fun
  | [d1, d2] => { results := [.lit (.bool true)], args := [d1, d2] }
  | _ => none }
def fnExactAllDeliveredRow : OpenClaim := { program := "ytfbhfnniblfpbaagreat", sum := "909d4199c0aadca12d45c0b15481e791955efffc1422f605e10bc01a04753598", func := "loop.example/g03312/laws.FnExactAllDelivered", spec := "fnExactAllDelivered", apart := false }
def FnExactAllDeliveredSaid : Prop := fnExactAllDeliveredRow.holds Tryz.pinned (OpenSpec.ofChange fnExactAllDeliveredSpec)

/-- ITS FALSE NEIGHBOUR: 'it returns false'. Refute it at one input. -/
def fnExactAllDeliveredWrong : ChangeSpec := { name := "fnExactAllDelivered", fn := fun _ => fun
  | [d1, d2] => { results := [.lit (.bool false)], args := [d1, d2] }
  | _ => none }
def FnExactAllDeliveredWrongFalsely : Prop := fnExactAllDeliveredRow.holds Tryz.pinned (OpenSpec.ofChange fnExactAllDeliveredWrong)

/-- 'laws.FnExactDoAct': WHATEVER THE INPUT: true; the input reads as it did. -/
def fnExactDoActSpec : ChangeSpec := { name := "fnExactDoAct", fn := fun _ => fun
  | [d1, d2] => { results := [.lit (.bool true)], args := [d1, d2] }
  | _ => none }
def fnExactDoActRow : OpenClaim := { program := "ytfbhfnniblfpbaagreat", sum := "909d4199c0aadca12d45c0b15481e791955efffc1422f605e10bc01a04753598", func := "loop.example/g03312/laws.FnExactDoAct", spec := "fnExactDoAct", apart := false }
def FnExactDoActSaid : Prop := fnExactDoActRow.holds Tryz.pinned (OpenSpec.ofChange fnExactDoActSpec)

/-- ITS FALSE NEIGHBOUR: 'it returns false'. Refute it at one input. -/
def fnExactDoActWrong : ChangeSpec := { name := "fnExactDoAct", fn := fun _ => fun
  | [d1, d2] => { results := [.lit (.bool false)], args := [d1, d2] }
  | _ => none }
def FnExactDoActWrongFalsely : Prop := fnExactDoActRow.holds Tryz.pinned (OpenSpec.ofChange fnExactDoActWrong)

/-- 'laws.FnExactRunActs': WHATEVER THE INPUT: true; the input reads as it did. -/
def fnExactRunActsSpec : ChangeSpec := { name := "fnExactRunActs", fn := fun _ => fun
  | [d1, d2] => { results := [.lit (.bool true)], args := [d1, d2] }
  | _ => none }
def fnExactRunActsRow : OpenClaim := { program := "ytfbhfnniblfpbaagreat", sum := "909d4199c0aadca12d45c0b15481e791955efffc1422f605e10bc01a04753598", func := "loop.example/g03312/laws.FnExactRunActs", spec := "fnExactRunActs", apart := false }
def FnExactRunActsSaid : Prop := fnExactRunActsRow.holds Tryz.pinned (OpenSpec.ofChange fnExactRunActsSpec)

/-- ITS FALSE NEIGHBOUR: 'it returns false'. Refute it at one input. -/
def fnExactRunActsWrong : ChangeSpec := { name := "fnExactRunActs", fn := fun _ => fun
  | [d1, d2] => { results := [.lit (.bool false)], args := [d1, d2] }
  | _ => none }
def FnExactRunActsWrongFalsely : Prop := fnExactRunActsRow.holds Tryz.pinned (OpenSpec.ofChange fnExactRunActsWrong)

/- THE SECOND FORM. 'bulk': how many values and letters a reading holds, each counted each time it is reached (what is shared counts as often as it is met; a slice's spare places count too). A statement '..UptoSaid' is the law's where the arguments, and the package variables that the reading takes, are together of bulk at most 1048576: NARROWER than '..Said'. Prove '..Said' where nothing that the law and all that it calls make is longer than what came in: it says more and counts as full. Else prove '..UptoSaid'. A law counts once. -/
mutual
def uptoBulk {H : Type} : DataW H → Nat
  | .lit (.string bytes) => bytes.length + 1
  | .lit _ => 1
  | .nil => 1
  | .ptr d => uptoBulk d + 1
  | .slice elems spare => uptoBulkAll elems + uptoBulkAll spare + 1
  | .agg parts => uptoBulkAll parts + 1
  | .iface _ d => uptoBulk d + 1
  | .map entries => uptoBulkEntries entries + 1
  | .held _ => 1
def uptoBulkAll {H : Type} : List (DataW H) → Nat
  | [] => 0
  | d :: r => uptoBulk d + uptoBulkAll r
def uptoBulkEntries {H : Type} : List (Lit × DataW H) → Nat
  | [] => 0
  | x :: r => uptoBulkEntry x + uptoBulkEntries r
def uptoBulkEntry {H : Type} : Lit × DataW H → Nat
  | (.string bytes, d) => bytes.length + uptoBulk d + 1
  | (_, d) => uptoBulk d + 1
 end
def uptoSmall : (H : Type) → List (DataW H) → Bool := fun _ ds => decide (uptoBulkAll ds ≤ 1048576)
def OpenSpec.upto (s : _root_.Go.ChangeSpec) : _root_.Go.OpenSpec := { _root_.Go.OpenSpec.ofChange s with cond := some uptoSmall }

/-- 'laws.FnOffloads', WHERE WHAT IT READS IS OF BULK AT MOST 1048576: true; the input reads as it did. -/
def fnOffloadsUptoRow : OpenClaim := { program := "ytfbhfnniblfpbaagreat", sum := "909d4199c0aadca12d45c0b15481e791955efffc1422f605e10bc01a04753598", func := "loop.example/g03312/laws.FnOffloads", spec := "fnOffloads", apart := false, narrowed := true }
def FnOffloadsUptoSaid : Prop := fnOffloadsUptoRow.holds Tryz.pinned (OpenSpec.upto fnOffloadsSpec)

/-- 'laws.FnDeliveredAll', WHERE WHAT IT READS IS OF BULK AT MOST 1048576: true; the input reads as it did. -/
def fnDeliveredAllUptoRow : OpenClaim := { program := "ytfbhfnniblfpbaagreat", sum := "909d4199c0aadca12d45c0b15481e791955efffc1422f605e10bc01a04753598", func := "loop.example/g03312/laws.FnDeliveredAll", spec := "fnDeliveredAll", apart := false, narrowed := true }
def FnDeliveredAllUptoSaid : Prop := fnDeliveredAllUptoRow.holds Tryz.pinned (OpenSpec.upto fnDeliveredAllSpec)

/-- 'laws.FnExactAllDelivered', WHERE WHAT IT READS IS OF BULK AT MOST 1048576: true; the input reads as it did. -/
def fnExactAllDeliveredUptoRow : OpenClaim := { program := "ytfbhfnniblfpbaagreat", sum := "909d4199c0aadca12d45c0b15481e791955efffc1422f605e10bc01a04753598", func := "loop.example/g03312/laws.FnExactAllDelivered", spec := "fnExactAllDelivered", apart := false, narrowed := true }
def FnExactAllDeliveredUptoSaid : Prop := fnExactAllDeliveredUptoRow.holds Tryz.pinned (OpenSpec.upto fnExactAllDeliveredSpec)

/-- 'laws.FnExactDoAct', WHERE WHAT IT READS IS OF BULK AT MOST 1048576: true; the input reads as it did. -/
def fnExactDoActUptoRow : OpenClaim := { program := "ytfbhfnniblfpbaagreat", sum := "909d4199c0aadca12d45c0b15481e791955efffc1422f605e10bc01a04753598", func := "loop.example/g03312/laws.FnExactDoAct", spec := "fnExactDoAct", apart := false, narrowed := true }
def FnExactDoActUptoSaid : Prop := fnExactDoActUptoRow.holds Tryz.pinned (OpenSpec.upto fnExactDoActSpec)

/-- 'laws.FnExactRunActs', WHERE WHAT IT READS IS OF BULK AT MOST 1048576: true; the input reads as it did. -/
def fnExactRunActsUptoRow : OpenClaim := { program := "ytfbhfnniblfpbaagreat", sum := "909d4199c0aadca12d45c0b15481e791955efffc1422f605e10bc01a04753598", func := "loop.example/g03312/laws.FnExactRunActs", spec := "fnExactRunActs", apart := false, narrowed := true }
def FnExactRunActsUptoSaid : Prop := fnExactRunActsUptoRow.holds Tryz.pinned (OpenSpec.upto fnExactRunActsSpec)

end Rows
end Go.Proofs.YtfbhfnniblfpbaaGreat
