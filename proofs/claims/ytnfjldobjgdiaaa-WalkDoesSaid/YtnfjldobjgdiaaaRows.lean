/-
  No cell of these rows narrows 'for every input' (looked for: loops, veiled, ifaces, maps, wideKeys, modest, calm, conditions, laid).
  DERIVED. THE GIVEN ROWS OF THIS SEAT. 4 by the template 'for every input the law returns true; each argument reads behind the call as it read before'; 0 by the template 'total and deterministic' (their statements: YtnfjldobjgdiaaaTotals.lean).
  GIVEN WITH THE SEED: the statements are not yours to turn. If you find one false, say at which input.
  Laid BY PROGRAM, IN A SANDBOX (cutbox-rows.mjs): the forced cells as the released guide's own fill.sh prints them over the translation 4dea30ab2bdc4486… (all of the seat's roots in one cut). By AI agents, Wed Nov 11 2026. No macro, syntax, notation, axiom, sorry.
-/
import Derived.Test.YtnfjldobjgdiaaaChecked
import GoSem.Claim
import GoSem.ClaimJoined
import GoSem.ClaimMapViews
import Derived.JoinedTies
import Derived.KernelRfl
namespace Go.Proofs.Ytnfjldobjgdiaaa
/- THE CELL 'sum', in the pinned program and in every row, IS THE sha256 OF THE DUMP (.gsa) THAT YtnfjldobjgdiaaaProg.lean LOADS. Nothing in Lean hashes anything: it is a label: what it is worth is what the hold of that sum in a sandbox is worth. -/
noncomputable def Try.pinned : Pinned := { name := "ytnfjldobjgdiaaa", sum := "4dea30ab2bdc44869ffb0479b85bd40d5812283227d497b5a9f22d6dfda2340c", checked := Try.checked }
namespace Rows
def none {H : Type} : Left H := { results := [], args := [] }

/-- 'shuntyardlaw.PlanWidths': WHATEVER THE INPUT: true; the input reads as it did. -/
def planWidthsSpec : ChangeSpec := { name := "planWidths", fn := fun _ => fun
  | [d1, d2, d3, d4, d5] => { results := [.lit (.bool true)], args := [d1, d2, d3, d4, d5] }
  | _ => none }
def planWidthsRow : OpenClaim := { program := "ytnfjldobjgdiaaa", sum := "4dea30ab2bdc44869ffb0479b85bd40d5812283227d497b5a9f22d6dfda2340c", func := "shuntyard/shuntyardlaw.PlanWidths", spec := "planWidths", apart := false }
def PlanWidthsSaid : Prop := planWidthsRow.holds Try.pinned (OpenSpec.ofChange planWidthsSpec)

/-- ITS FALSE NEIGHBOUR: 'it returns false'. Refute it at one input. -/
def planWidthsWrong : ChangeSpec := { name := "planWidths", fn := fun _ => fun
  | [d1, d2, d3, d4, d5] => { results := [.lit (.bool false)], args := [d1, d2, d3, d4, d5] }
  | _ => none }
def PlanWidthsWrongFalsely : Prop := planWidthsRow.holds Try.pinned (OpenSpec.ofChange planWidthsWrong)

/-- 'shuntyardlaw.PlanChecks': WHATEVER THE INPUT: true; the input reads as it did. -/
def planChecksSpec : ChangeSpec := { name := "planChecks", fn := fun _ => fun
  | [d] => { results := [.lit (.bool true)], args := [d] }
  | _ => none }
def planChecksRow : OpenClaim := { program := "ytnfjldobjgdiaaa", sum := "4dea30ab2bdc44869ffb0479b85bd40d5812283227d497b5a9f22d6dfda2340c", func := "shuntyard/shuntyardlaw.PlanChecks", spec := "planChecks", apart := false }
def PlanChecksSaid : Prop := planChecksRow.holds Try.pinned (OpenSpec.ofChange planChecksSpec)

/-- ITS FALSE NEIGHBOUR: 'it returns false'. Refute it at one input. -/
def planChecksWrong : ChangeSpec := { name := "planChecks", fn := fun _ => fun
  | [d] => { results := [.lit (.bool false)], args := [d] }
  | _ => none }
def PlanChecksWrongFalsely : Prop := planChecksRow.holds Try.pinned (OpenSpec.ofChange planChecksWrong)

/-- 'shuntyardlaw.WalkDoes': WHATEVER THE INPUT: true; the input reads as it did. -/
def walkDoesSpec : ChangeSpec := { name := "walkDoes", fn := fun _ => fun
  | [d] => { results := [.lit (.bool true)], args := [d] }
  | _ => none }
def walkDoesRow : OpenClaim := { program := "ytnfjldobjgdiaaa", sum := "4dea30ab2bdc44869ffb0479b85bd40d5812283227d497b5a9f22d6dfda2340c", func := "shuntyard/shuntyardlaw.WalkDoes", spec := "walkDoes", apart := false }
def WalkDoesSaid : Prop := walkDoesRow.holds Try.pinned (OpenSpec.ofChange walkDoesSpec)

/-- ITS FALSE NEIGHBOUR: 'it returns false'. Refute it at one input. -/
def walkDoesWrong : ChangeSpec := { name := "walkDoes", fn := fun _ => fun
  | [d] => { results := [.lit (.bool false)], args := [d] }
  | _ => none }
def WalkDoesWrongFalsely : Prop := walkDoesRow.holds Try.pinned (OpenSpec.ofChange walkDoesWrong)

/-- 'shuntyardlaw.FlowDoes': WHATEVER THE INPUT: true; the input reads as it did. -/
def flowDoesSpec : ChangeSpec := { name := "flowDoes", fn := fun _ => fun
  | [d] => { results := [.lit (.bool true)], args := [d] }
  | _ => none }
def flowDoesRow : OpenClaim := { program := "ytnfjldobjgdiaaa", sum := "4dea30ab2bdc44869ffb0479b85bd40d5812283227d497b5a9f22d6dfda2340c", func := "shuntyard/shuntyardlaw.FlowDoes", spec := "flowDoes", recurses := true, apart := false }
def FlowDoesSaid : Prop := flowDoesRow.holds Try.pinned (OpenSpec.ofChange flowDoesSpec)

/-- ITS FALSE NEIGHBOUR: 'it returns false'. Refute it at one input. -/
def flowDoesWrong : ChangeSpec := { name := "flowDoes", fn := fun _ => fun
  | [d] => { results := [.lit (.bool false)], args := [d] }
  | _ => none }
def FlowDoesWrongFalsely : Prop := flowDoesRow.holds Try.pinned (OpenSpec.ofChange flowDoesWrong)

/- THE SECOND FORM. 'bulk': how many values and letters a reading holds, each counted each time it is reached (what is shared counts as often as it is met; a slice's spare places count too). A statement '..UptoSaid' is the law's where the arguments, and the package variables that the reading takes, are together of bulk at most 1048576: NARROWER than '..Said'. Prove '..Said' where nothing that the law and all that it calls make is longer than what came in: it says more and counts as full. Else prove '..UptoSaid'. A law counts once. -/
mutual
def uptoBulk {H : Type} : DataW H → Nat
  | .lit (.string bytes) => bytes.length + 1
  | .lit _ => 1
  | .nil => 1
  | .ptr d => uptoBulk d + 1
  | .slice elems spare => uptoBulkAll elems + uptoBulkAll spare + 1
  | .agg parts => uptoBulkAll parts + 1
  | .iface _ d => uptoBulk d + 1
  | .map entries => uptoBulkEntries entries + 1
  | .held _ => 1
def uptoBulkAll {H : Type} : List (DataW H) → Nat
  | [] => 0
  | d :: r => uptoBulk d + uptoBulkAll r
def uptoBulkEntries {H : Type} : List (Lit × DataW H) → Nat
  | [] => 0
  | x :: r => uptoBulkEntry x + uptoBulkEntries r
def uptoBulkEntry {H : Type} : Lit × DataW H → Nat
  | (.string bytes, d) => bytes.length + uptoBulk d + 1
  | (_, d) => uptoBulk d + 1
 end
def uptoSmall : (H : Type) → List (DataW H) → Bool := fun _ ds => decide (uptoBulkAll ds ≤ 1048576)
def OpenSpec.upto (s : _root_.Go.ChangeSpec) : _root_.Go.OpenSpec := { _root_.Go.OpenSpec.ofChange s with cond := some uptoSmall }

/-- 'shuntyardlaw.PlanWidths', WHERE WHAT IT READS IS OF BULK AT MOST 1048576: true; the input reads as it did. -/
def planWidthsUptoRow : OpenClaim := { program := "ytnfjldobjgdiaaa", sum := "4dea30ab2bdc44869ffb0479b85bd40d5812283227d497b5a9f22d6dfda2340c", func := "shuntyard/shuntyardlaw.PlanWidths", spec := "planWidths", apart := false, narrowed := true }
def PlanWidthsUptoSaid : Prop := planWidthsUptoRow.holds Try.pinned (OpenSpec.upto planWidthsSpec)

/-- 'shuntyardlaw.PlanChecks', WHERE WHAT IT READS IS OF BULK AT MOST 1048576: true; the input reads as it did. -/
def planChecksUptoRow : OpenClaim := { program := "ytnfjldobjgdiaaa", sum := "4dea30ab2bdc44869ffb0479b85bd40d5812283227d497b5a9f22d6dfda2340c", func := "shuntyard/shuntyardlaw.PlanChecks", spec := "planChecks", apart := false, narrowed := true }
def PlanChecksUptoSaid : Prop := planChecksUptoRow.holds Try.pinned (OpenSpec.upto planChecksSpec)

/-- 'shuntyardlaw.WalkDoes', WHERE WHAT IT READS IS OF BULK AT MOST 1048576: true; the input reads as it did. -/
def walkDoesUptoRow : OpenClaim := { program := "ytnfjldobjgdiaaa", sum := "4dea30ab2bdc44869ffb0479b85bd40d5812283227d497b5a9f22d6dfda2340c", func := "shuntyard/shuntyardlaw.WalkDoes", spec := "walkDoes", apart := false, narrowed := true }
def WalkDoesUptoSaid : Prop := walkDoesUptoRow.holds Try.pinned (OpenSpec.upto walkDoesSpec)

/-- 'shuntyardlaw.FlowDoes', WHERE WHAT IT READS IS OF BULK AT MOST 1048576: true; the input reads as it did. -/
def flowDoesUptoRow : OpenClaim := { program := "ytnfjldobjgdiaaa", sum := "4dea30ab2bdc44869ffb0479b85bd40d5812283227d497b5a9f22d6dfda2340c", func := "shuntyard/shuntyardlaw.FlowDoes", spec := "flowDoes", recurses := true, apart := false, narrowed := true }
def FlowDoesUptoSaid : Prop := flowDoesUptoRow.holds Try.pinned (OpenSpec.upto flowDoesSpec)

end Rows
end Go.Proofs.Ytnfjldobjgdiaaa
