/-
  No cell of these rows narrows 'for every input' (looked for: loops, veiled, ifaces, maps, wideKeys, modest, calm, conditions, laid).
  DERIVED. THE GIVEN ROWS OF THIS SEAT. 3 by the template 'for every input the law returns true; each argument reads behind the call as it read before'; 0 by the template 'total and deterministic' (their statements: YtefkifebgeagiaaTotals.lean).
  GIVEN WITH THE SEED: the statements are not yours to turn. If you find one false, say at which input.
  Laid BY PROGRAM, IN A SANDBOX (cutbox-rows.mjs): the forced cells as the released guide's own fill.sh prints them over the translation a40ce61e10d3b96b… (all of the seat's roots in one cut). By AI agents, Wed Nov 11 2026. No macro, syntax, notation, axiom, sorry.
-/
import Derived.Test.YtefkifebgeagiaaChecked
import GoSem.Claim
import GoSem.ClaimJoined
import GoSem.ClaimMapViews
import Derived.JoinedTies
import Derived.KernelRfl
namespace Go.Proofs.Ytefkifebgeagiaa
/- THE CELL 'sum', in the pinned program and in every row, IS THE sha256 OF THE DUMP (.gsa) THAT YtefkifebgeagiaaProg.lean LOADS. Nothing in Lean hashes anything: it is a label: what it is worth is what the hold of that sum in a sandbox is worth. -/
noncomputable def Try.pinned : Pinned := { name := "ytefkifebgeagiaa", sum := "a40ce61e10d3b96b6d0e7843ba4112719c2f2ce53fb748e8d095aae02983464a", checked := Try.checked }
namespace Rows
def none {H : Type} : Left H := { results := [], args := [] }

/-- 'shuntyardlaw.TernaryFirst': WHATEVER THE INPUT: true; the input reads as it did. -/
def ternaryFirstSpec : ChangeSpec := { name := "ternaryFirst", fn := fun _ => fun
  | [d1, d2, d3] => { results := [.lit (.bool true)], args := [d1, d2, d3] }
  | _ => none }
def ternaryFirstRow : OpenClaim := { program := "ytefkifebgeagiaa", sum := "a40ce61e10d3b96b6d0e7843ba4112719c2f2ce53fb748e8d095aae02983464a", func := "shuntyard/shuntyardlaw.TernaryFirst", spec := "ternaryFirst", unfollowed := true, recurses := true, apart := false }
def TernaryFirstSaid : Prop := ternaryFirstRow.holds Try.pinned (OpenSpec.ofChange ternaryFirstSpec)

/-- ITS FALSE NEIGHBOUR: 'it returns false'. Refute it at one input. -/
def ternaryFirstWrong : ChangeSpec := { name := "ternaryFirst", fn := fun _ => fun
  | [d1, d2, d3] => { results := [.lit (.bool false)], args := [d1, d2, d3] }
  | _ => none }
def TernaryFirstWrongFalsely : Prop := ternaryFirstRow.holds Try.pinned (OpenSpec.ofChange ternaryFirstWrong)

/-- 'shuntyardlaw.TernaryDoes': WHATEVER THE INPUT: true; the input reads as it did. -/
def ternaryDoesSpec : ChangeSpec := { name := "ternaryDoes", fn := fun _ => fun
  | [d1, d2, d3] => { results := [.lit (.bool true)], args := [d1, d2, d3] }
  | _ => none }
def ternaryDoesRow : OpenClaim := { program := "ytefkifebgeagiaa", sum := "a40ce61e10d3b96b6d0e7843ba4112719c2f2ce53fb748e8d095aae02983464a", func := "shuntyard/shuntyardlaw.TernaryDoes", spec := "ternaryDoes", unfollowed := true, recurses := true, apart := false }
def TernaryDoesSaid : Prop := ternaryDoesRow.holds Try.pinned (OpenSpec.ofChange ternaryDoesSpec)

/-- ITS FALSE NEIGHBOUR: 'it returns false'. Refute it at one input. -/
def ternaryDoesWrong : ChangeSpec := { name := "ternaryDoes", fn := fun _ => fun
  | [d1, d2, d3] => { results := [.lit (.bool false)], args := [d1, d2, d3] }
  | _ => none }
def TernaryDoesWrongFalsely : Prop := ternaryDoesRow.holds Try.pinned (OpenSpec.ofChange ternaryDoesWrong)

/-- 'shuntyardlaw.VmEnds': WHATEVER THE INPUT: true; the input reads as it did. -/
def vmEndsSpec : ChangeSpec := { name := "vmEnds", fn := fun _ => fun
  | [d1, d2, d3] => { results := [.lit (.bool true)], args := [d1, d2, d3] }
  | _ => none }
def vmEndsRow : OpenClaim := { program := "ytefkifebgeagiaa", sum := "a40ce61e10d3b96b6d0e7843ba4112719c2f2ce53fb748e8d095aae02983464a", func := "shuntyard/shuntyardlaw.VmEnds", spec := "vmEnds", unfollowed := true, recurses := true, apart := false }
def VmEndsSaid : Prop := vmEndsRow.holds Try.pinned (OpenSpec.ofChange vmEndsSpec)

/-- ITS FALSE NEIGHBOUR: 'it returns false'. Refute it at one input. -/
def vmEndsWrong : ChangeSpec := { name := "vmEnds", fn := fun _ => fun
  | [d1, d2, d3] => { results := [.lit (.bool false)], args := [d1, d2, d3] }
  | _ => none }
def VmEndsWrongFalsely : Prop := vmEndsRow.holds Try.pinned (OpenSpec.ofChange vmEndsWrong)

/- THE SECOND FORM. 'bulk': how many values and letters a reading holds, each counted each time it is reached (what is shared counts as often as it is met; a slice's spare places count too). A statement '..UptoSaid' is the law's where the arguments, and the package variables that the reading takes, are together of bulk at most 1048576: NARROWER than '..Said'. Prove '..Said' where nothing that the law and all that it calls make is longer than what came in: it says more and counts as full. Else prove '..UptoSaid'. A law counts once. -/
mutual
def uptoBulk {H : Type} : DataW H → Nat
  | .lit (.string bytes) => bytes.length + 1
  | .lit _ => 1
  | .nil => 1
  | .ptr d => uptoBulk d + 1
  | .slice elems spare => uptoBulkAll elems + uptoBulkAll spare + 1
  | .agg parts => uptoBulkAll parts + 1
  | .iface _ d => uptoBulk d + 1
  | .map entries => uptoBulkEntries entries + 1
  | .held _ => 1
def uptoBulkAll {H : Type} : List (DataW H) → Nat
  | [] => 0
  | d :: r => uptoBulk d + uptoBulkAll r
def uptoBulkEntries {H : Type} : List (Lit × DataW H) → Nat
  | [] => 0
  | x :: r => uptoBulkEntry x + uptoBulkEntries r
def uptoBulkEntry {H : Type} : Lit × DataW H → Nat
  | (.string bytes, d) => bytes.length + uptoBulk d + 1
  | (_, d) => uptoBulk d + 1
 end
def uptoSmall : (H : Type) → List (DataW H) → Bool := fun _ ds => decide (uptoBulkAll ds ≤ 1048576)
def OpenSpec.upto (s : _root_.Go.ChangeSpec) : _root_.Go.OpenSpec := { _root_.Go.OpenSpec.ofChange s with cond := some uptoSmall }

/-- 'shuntyardlaw.TernaryFirst', WHERE WHAT IT READS IS OF BULK AT MOST 1048576: true; the input reads as it did. -/
def ternaryFirstUptoRow : OpenClaim := { program := "ytefkifebgeagiaa", sum := "a40ce61e10d3b96b6d0e7843ba4112719c2f2ce53fb748e8d095aae02983464a", func := "shuntyard/shuntyardlaw.TernaryFirst", spec := "ternaryFirst", unfollowed := true, recurses := true, apart := false, narrowed := true }
def TernaryFirstUptoSaid : Prop := ternaryFirstUptoRow.holds Try.pinned (OpenSpec.upto ternaryFirstSpec)

/-- 'shuntyardlaw.TernaryDoes', WHERE WHAT IT READS IS OF BULK AT MOST 1048576: true; the input reads as it did. -/
def ternaryDoesUptoRow : OpenClaim := { program := "ytefkifebgeagiaa", sum := "a40ce61e10d3b96b6d0e7843ba4112719c2f2ce53fb748e8d095aae02983464a", func := "shuntyard/shuntyardlaw.TernaryDoes", spec := "ternaryDoes", unfollowed := true, recurses := true, apart := false, narrowed := true }
def TernaryDoesUptoSaid : Prop := ternaryDoesUptoRow.holds Try.pinned (OpenSpec.upto ternaryDoesSpec)

/-- 'shuntyardlaw.VmEnds', WHERE WHAT IT READS IS OF BULK AT MOST 1048576: true; the input reads as it did. -/
def vmEndsUptoRow : OpenClaim := { program := "ytefkifebgeagiaa", sum := "a40ce61e10d3b96b6d0e7843ba4112719c2f2ce53fb748e8d095aae02983464a", func := "shuntyard/shuntyardlaw.VmEnds", spec := "vmEnds", unfollowed := true, recurses := true, apart := false, narrowed := true }
def VmEndsUptoSaid : Prop := vmEndsUptoRow.holds Try.pinned (OpenSpec.upto vmEndsSpec)

end Rows
end Go.Proofs.Ytefkifebgeagiaa
