/-
  No cell of these rows narrows 'for every input' (looked for: loops, veiled, ifaces, maps, wideKeys, modest, calm, conditions, laid).
  DERIVED. THE GIVEN ROWS OF THIS SEAT. 5 by the template 'for every input the law returns true; each argument reads behind the call as it read before'; 0 by the template 'total and deterministic' (their statements: YticeaegpkpjjeaaTotals.lean).
  GIVEN WITH THE SEED: the statements are not yours to turn. If you find one false, say at which input.
  Laid BY PROGRAM, IN A SANDBOX (cutbox-rows.mjs): the forced cells as the released guide's own fill.sh prints them over the translation b2d3b7193f2a65c5… (all of the seat's roots in one cut). By AI agents, Wed Nov 11 2026. No macro, syntax, notation, axiom, sorry.
-/
import Derived.Test.YticeaegpkpjjeaaChecked
import GoSem.Claim
import GoSem.ClaimJoined
import GoSem.ClaimMapViews
import Derived.JoinedTies
import Derived.KernelRfl
namespace Go.Proofs.Yticeaegpkpjjeaa
/- THE CELL 'sum', in the pinned program and in every row, IS THE sha256 OF THE DUMP (.gsa) THAT YticeaegpkpjjeaaProg.lean LOADS. Nothing in Lean hashes anything: it is a label: what it is worth is what the hold of that sum in a sandbox is worth. -/
noncomputable def Try.pinned : Pinned := { name := "yticeaegpkpjjeaa", sum := "b2d3b7193f2a65c56c990ca5ca6e81b49ff5bcbb08e117282908f1fb8a63f55b", checked := Try.checked }
namespace Rows
def none {H : Type} : Left H := { results := [], args := [] }

/-- 'shuntyardlaw.WalkSure': WHATEVER THE INPUT: true; the input reads as it did. -/
def walkSureSpec : ChangeSpec := { name := "walkSure", fn := fun _ => fun
  | [d1, d2, d3] => { results := [.lit (.bool true)], args := [d1, d2, d3] }
  | _ => none }
def walkSureRow : OpenClaim := { program := "yticeaegpkpjjeaa", sum := "b2d3b7193f2a65c56c990ca5ca6e81b49ff5bcbb08e117282908f1fb8a63f55b", func := "shuntyard/shuntyardlaw.WalkSure", spec := "walkSure", recurses := true, apart := false }
def WalkSureSaid : Prop := walkSureRow.holds Try.pinned (OpenSpec.ofChange walkSureSpec)

/-- ITS FALSE NEIGHBOUR: 'it returns false'. Refute it at one input. -/
def walkSureWrong : ChangeSpec := { name := "walkSure", fn := fun _ => fun
  | [d1, d2, d3] => { results := [.lit (.bool false)], args := [d1, d2, d3] }
  | _ => none }
def WalkSureWrongFalsely : Prop := walkSureRow.holds Try.pinned (OpenSpec.ofChange walkSureWrong)

/-- 'shuntyardlaw.FlowDoes': WHATEVER THE INPUT: true; the input reads as it did. -/
def flowDoesSpec : ChangeSpec := { name := "flowDoes", fn := fun _ => fun
  | [d] => { results := [.lit (.bool true)], args := [d] }
  | _ => none }
def flowDoesRow : OpenClaim := { program := "yticeaegpkpjjeaa", sum := "b2d3b7193f2a65c56c990ca5ca6e81b49ff5bcbb08e117282908f1fb8a63f55b", func := "shuntyard/shuntyardlaw.FlowDoes", spec := "flowDoes", recurses := true, apart := false }
def FlowDoesSaid : Prop := flowDoesRow.holds Try.pinned (OpenSpec.ofChange flowDoesSpec)

/-- ITS FALSE NEIGHBOUR: 'it returns false'. Refute it at one input. -/
def flowDoesWrong : ChangeSpec := { name := "flowDoes", fn := fun _ => fun
  | [d] => { results := [.lit (.bool false)], args := [d] }
  | _ => none }
def FlowDoesWrongFalsely : Prop := flowDoesRow.holds Try.pinned (OpenSpec.ofChange flowDoesWrong)

/-- 'shuntyardlaw.FlowSure': WHATEVER THE INPUT: true; the input reads as it did. -/
def flowSureSpec : ChangeSpec := { name := "flowSure", fn := fun _ => fun
  | [d1, d2, d3, d4] => { results := [.lit (.bool true)], args := [d1, d2, d3, d4] }
  | _ => none }
def flowSureRow : OpenClaim := { program := "yticeaegpkpjjeaa", sum := "b2d3b7193f2a65c56c990ca5ca6e81b49ff5bcbb08e117282908f1fb8a63f55b", func := "shuntyard/shuntyardlaw.FlowSure", spec := "flowSure", recurses := true, apart := false }
def FlowSureSaid : Prop := flowSureRow.holds Try.pinned (OpenSpec.ofChange flowSureSpec)

/-- ITS FALSE NEIGHBOUR: 'it returns false'. Refute it at one input. -/
def flowSureWrong : ChangeSpec := { name := "flowSure", fn := fun _ => fun
  | [d1, d2, d3, d4] => { results := [.lit (.bool false)], args := [d1, d2, d3, d4] }
  | _ => none }
def FlowSureWrongFalsely : Prop := flowSureRow.holds Try.pinned (OpenSpec.ofChange flowSureWrong)

/-- 'shuntyardlaw.ExactSet': WHATEVER THE INPUT: true; the input reads as it did. -/
def exactSetSpec : ChangeSpec := { name := "exactSet", fn := fun _ => fun
  | [d1, d2, d3] => { results := [.lit (.bool true)], args := [d1, d2, d3] }
  | _ => none }
def exactSetRow : OpenClaim := { program := "yticeaegpkpjjeaa", sum := "b2d3b7193f2a65c56c990ca5ca6e81b49ff5bcbb08e117282908f1fb8a63f55b", func := "shuntyard/shuntyardlaw.ExactSet", spec := "exactSet", unfollowed := true, recurses := true, apart := false }
def ExactSetSaid : Prop := exactSetRow.holds Try.pinned (OpenSpec.ofChange exactSetSpec)

/-- ITS FALSE NEIGHBOUR: 'it returns false'. Refute it at one input. -/
def exactSetWrong : ChangeSpec := { name := "exactSet", fn := fun _ => fun
  | [d1, d2, d3] => { results := [.lit (.bool false)], args := [d1, d2, d3] }
  | _ => none }
def ExactSetWrongFalsely : Prop := exactSetRow.holds Try.pinned (OpenSpec.ofChange exactSetWrong)

/-- 'shuntyardlaw.ExactDoes': WHATEVER THE INPUT: true; the input reads as it did. -/
def exactDoesSpec : ChangeSpec := { name := "exactDoes", fn := fun _ => fun
  | [d1, d2, d3] => { results := [.lit (.bool true)], args := [d1, d2, d3] }
  | _ => none }
def exactDoesRow : OpenClaim := { program := "yticeaegpkpjjeaa", sum := "b2d3b7193f2a65c56c990ca5ca6e81b49ff5bcbb08e117282908f1fb8a63f55b", func := "shuntyard/shuntyardlaw.ExactDoes", spec := "exactDoes", unfollowed := true, recurses := true, apart := false }
def ExactDoesSaid : Prop := exactDoesRow.holds Try.pinned (OpenSpec.ofChange exactDoesSpec)

/-- ITS FALSE NEIGHBOUR: 'it returns false'. Refute it at one input. -/
def exactDoesWrong : ChangeSpec := { name := "exactDoes", fn := fun _ => fun
  | [d1, d2, d3] => { results := [.lit (.bool false)], args := [d1, d2, d3] }
  | _ => none }
def ExactDoesWrongFalsely : Prop := exactDoesRow.holds Try.pinned (OpenSpec.ofChange exactDoesWrong)

/- THE SECOND FORM. 'bulk': how many values and letters a reading holds, each counted each time it is reached (what is shared counts as often as it is met; a slice's spare places count too). A statement '..UptoSaid' is the law's where the arguments, and the package variables that the reading takes, are together of bulk at most 1048576: NARROWER than '..Said'. Prove '..Said' where nothing that the law and all that it calls make is longer than what came in: it says more and counts as full. Else prove '..UptoSaid'. A law counts once. -/
mutual
def uptoBulk {H : Type} : DataW H → Nat
  | .lit (.string bytes) => bytes.length + 1
  | .lit _ => 1
  | .nil => 1
  | .ptr d => uptoBulk d + 1
  | .slice elems spare => uptoBulkAll elems + uptoBulkAll spare + 1
  | .agg parts => uptoBulkAll parts + 1
  | .iface _ d => uptoBulk d + 1
  | .map entries => uptoBulkEntries entries + 1
  | .held _ => 1
def uptoBulkAll {H : Type} : List (DataW H) → Nat
  | [] => 0
  | d :: r => uptoBulk d + uptoBulkAll r
def uptoBulkEntries {H : Type} : List (Lit × DataW H) → Nat
  | [] => 0
  | x :: r => uptoBulkEntry x + uptoBulkEntries r
def uptoBulkEntry {H : Type} : Lit × DataW H → Nat
  | (.string bytes, d) => bytes.length + uptoBulk d + 1
  | (_, d) => uptoBulk d + 1
 end
def uptoSmall : (H : Type) → List (DataW H) → Bool := fun _ ds => decide (uptoBulkAll ds ≤ 1048576)
def OpenSpec.upto (s : _root_.Go.ChangeSpec) : _root_.Go.OpenSpec := { _root_.Go.OpenSpec.ofChange s with cond := some uptoSmall }

/-- 'shuntyardlaw.WalkSure', WHERE WHAT IT READS IS OF BULK AT MOST 1048576: true; the input reads as it did. -/
def walkSureUptoRow : OpenClaim := { program := "yticeaegpkpjjeaa", sum := "b2d3b7193f2a65c56c990ca5ca6e81b49ff5bcbb08e117282908f1fb8a63f55b", func := "shuntyard/shuntyardlaw.WalkSure", spec := "walkSure", recurses := true, apart := false, narrowed := true }
def WalkSureUptoSaid : Prop := walkSureUptoRow.holds Try.pinned (OpenSpec.upto walkSureSpec)

/-- 'shuntyardlaw.FlowDoes', WHERE WHAT IT READS IS OF BULK AT MOST 1048576: true; the input reads as it did. -/
def flowDoesUptoRow : OpenClaim := { program := "yticeaegpkpjjeaa", sum := "b2d3b7193f2a65c56c990ca5ca6e81b49ff5bcbb08e117282908f1fb8a63f55b", func := "shuntyard/shuntyardlaw.FlowDoes", spec := "flowDoes", recurses := true, apart := false, narrowed := true }
def FlowDoesUptoSaid : Prop := flowDoesUptoRow.holds Try.pinned (OpenSpec.upto flowDoesSpec)

/-- 'shuntyardlaw.FlowSure', WHERE WHAT IT READS IS OF BULK AT MOST 1048576: true; the input reads as it did. -/
def flowSureUptoRow : OpenClaim := { program := "yticeaegpkpjjeaa", sum := "b2d3b7193f2a65c56c990ca5ca6e81b49ff5bcbb08e117282908f1fb8a63f55b", func := "shuntyard/shuntyardlaw.FlowSure", spec := "flowSure", recurses := true, apart := false, narrowed := true }
def FlowSureUptoSaid : Prop := flowSureUptoRow.holds Try.pinned (OpenSpec.upto flowSureSpec)

/-- 'shuntyardlaw.ExactSet', WHERE WHAT IT READS IS OF BULK AT MOST 1048576: true; the input reads as it did. -/
def exactSetUptoRow : OpenClaim := { program := "yticeaegpkpjjeaa", sum := "b2d3b7193f2a65c56c990ca5ca6e81b49ff5bcbb08e117282908f1fb8a63f55b", func := "shuntyard/shuntyardlaw.ExactSet", spec := "exactSet", unfollowed := true, recurses := true, apart := false, narrowed := true }
def ExactSetUptoSaid : Prop := exactSetUptoRow.holds Try.pinned (OpenSpec.upto exactSetSpec)

/-- 'shuntyardlaw.ExactDoes', WHERE WHAT IT READS IS OF BULK AT MOST 1048576: true; the input reads as it did. -/
def exactDoesUptoRow : OpenClaim := { program := "yticeaegpkpjjeaa", sum := "b2d3b7193f2a65c56c990ca5ca6e81b49ff5bcbb08e117282908f1fb8a63f55b", func := "shuntyard/shuntyardlaw.ExactDoes", spec := "exactDoes", unfollowed := true, recurses := true, apart := false, narrowed := true }
def ExactDoesUptoSaid : Prop := exactDoesUptoRow.holds Try.pinned (OpenSpec.upto exactDoesSpec)

end Rows
end Go.Proofs.Yticeaegpkpjjeaa
