/-
  No cell of these rows narrows 'for every input' (looked for: loops, veiled, ifaces, maps, wideKeys, modest, calm, conditions, laid).
  DERIVED. THE GIVEN ROWS OF THIS SEAT. 3 by the template 'for every input the law returns true; each argument reads behind the call as it read before'; 0 by the template 'total and deterministic' (their statements: YtalejfkholifpaaGreatTotals.lean).
  GIVEN WITH THE SEED: the statements are not yours to turn. If you find one false, say at which input.
  Laid BY PROGRAM, IN A SANDBOX (cutbox-rows.mjs): the forced cells as the released guide's own fill.sh prints them over the translation 762cef28f98f0daf… (all of the seat's roots in one cut). By AI agents, Wed Nov 11 2026. No macro, syntax, notation, axiom, sorry.
-/
import Derived.Test.YtalejfkholifpaaGreatChecked
import GoSem.Claim
import GoSem.ClaimJoined
import GoSem.ClaimMapViews
import Derived.JoinedTies
import Derived.KernelRfl
namespace Go.Proofs.YtalejfkholifpaaGreat
/- THE CELL 'sum', in the pinned program and in every row, IS THE sha256 OF THE DUMP (.gsa) THAT YtalejfkholifpaaGreatProg.lean LOADS. Nothing in Lean hashes anything: it is a label: what it is worth is what the hold of that sum in a sandbox is worth. -/
noncomputable def Tryz.pinned : Pinned := { name := "ytalejfkholifpaagreat", sum := "762cef28f98f0dafd40e92cb1175cd4a678bd5cbd37d18f69605aa990048730a", checked := Tryz.checked }
namespace Rows
def none {H : Type} : Left H := { results := [], args := [] }

/-- 'shuntyardlaw.StoreSet': WHATEVER THE INPUT: true; the input reads as it did. -/
def storeSetSpec : ChangeSpec := { name := "storeSet", fn := fun _ => fun
  | [d1, d2, d3, d4, d5] => { results := [.lit (.bool true)], args := [d1, d2, d3, d4, d5] }
  | _ => none }
def storeSetRow : OpenClaim := { program := "ytalejfkholifpaagreat", sum := "762cef28f98f0dafd40e92cb1175cd4a678bd5cbd37d18f69605aa990048730a", func := "shuntyard/shuntyardlaw.StoreSet", spec := "storeSet", unfollowed := true, recurses := true, apart := false }
def StoreSetSaid : Prop := storeSetRow.holds Tryz.pinned (OpenSpec.ofChange storeSetSpec)

/-- ITS FALSE NEIGHBOUR: 'it returns false'. Refute it at one input. -/
def storeSetWrong : ChangeSpec := { name := "storeSet", fn := fun _ => fun
  | [d1, d2, d3, d4, d5] => { results := [.lit (.bool false)], args := [d1, d2, d3, d4, d5] }
  | _ => none }
def StoreSetWrongFalsely : Prop := storeSetRow.holds Tryz.pinned (OpenSpec.ofChange storeSetWrong)

/-- 'shuntyardlaw.StoreStill': WHATEVER THE INPUT: true; the input reads as it did. -/
def storeStillSpec : ChangeSpec := { name := "storeStill", fn := fun _ => fun
  | [d1, d2, d3, d4] => { results := [.lit (.bool true)], args := [d1, d2, d3, d4] }
  | _ => none }
def storeStillRow : OpenClaim := { program := "ytalejfkholifpaagreat", sum := "762cef28f98f0dafd40e92cb1175cd4a678bd5cbd37d18f69605aa990048730a", func := "shuntyard/shuntyardlaw.StoreStill", spec := "storeStill", unfollowed := true, recurses := true, apart := false }
def StoreStillSaid : Prop := storeStillRow.holds Tryz.pinned (OpenSpec.ofChange storeStillSpec)

/-- ITS FALSE NEIGHBOUR: 'it returns false'. Refute it at one input. -/
def storeStillWrong : ChangeSpec := { name := "storeStill", fn := fun _ => fun
  | [d1, d2, d3, d4] => { results := [.lit (.bool false)], args := [d1, d2, d3, d4] }
  | _ => none }
def StoreStillWrongFalsely : Prop := storeStillRow.holds Tryz.pinned (OpenSpec.ofChange storeStillWrong)

/-- 'shuntyardlaw.StoreDoes': WHATEVER THE INPUT: true; the input reads as it did. -/
def storeDoesSpec : ChangeSpec := { name := "storeDoes", fn := fun _ => fun
  | [d1, d2, d3, d4] => { results := [.lit (.bool true)], args := [d1, d2, d3, d4] }
  | _ => none }
def storeDoesRow : OpenClaim := { program := "ytalejfkholifpaagreat", sum := "762cef28f98f0dafd40e92cb1175cd4a678bd5cbd37d18f69605aa990048730a", func := "shuntyard/shuntyardlaw.StoreDoes", spec := "storeDoes", unfollowed := true, recurses := true, apart := false }
def StoreDoesSaid : Prop := storeDoesRow.holds Tryz.pinned (OpenSpec.ofChange storeDoesSpec)

/-- ITS FALSE NEIGHBOUR: 'it returns false'. Refute it at one input. -/
def storeDoesWrong : ChangeSpec := { name := "storeDoes", fn := fun _ => fun
  | [d1, d2, d3, d4] => { results := [.lit (.bool false)], args := [d1, d2, d3, d4] }
  | _ => none }
def StoreDoesWrongFalsely : Prop := storeDoesRow.holds Tryz.pinned (OpenSpec.ofChange storeDoesWrong)

/- THE SECOND FORM. 'bulk': how many values and letters a reading holds, each counted each time it is reached (what is shared counts as often as it is met; a slice's spare places count too). A statement '..UptoSaid' is the law's where the arguments, and the package variables that the reading takes, are together of bulk at most 1048576: NARROWER than '..Said'. Prove '..Said' where nothing that the law and all that it calls make is longer than what came in: it says more and counts as full. Else prove '..UptoSaid'. A law counts once. -/
mutual
def uptoBulk {H : Type} : DataW H → Nat
  | .lit (.string bytes) => bytes.length + 1
  | .lit _ => 1
  | .nil => 1
  | .ptr d => uptoBulk d + 1
  | .slice elems spare => uptoBulkAll elems + uptoBulkAll spare + 1
  | .agg parts => uptoBulkAll parts + 1
  | .iface _ d => uptoBulk d + 1
  | .map entries => uptoBulkEntries entries + 1
  | .held _ => 1
def uptoBulkAll {H : Type} : List (DataW H) → Nat
  | [] => 0
  | d :: r => uptoBulk d + uptoBulkAll r
def uptoBulkEntries {H : Type} : List (Lit × DataW H) → Nat
  | [] => 0
  | x :: r => uptoBulkEntry x + uptoBulkEntries r
def uptoBulkEntry {H : Type} : Lit × DataW H → Nat
  | (.string bytes, d) => bytes.length + uptoBulk d + 1
  | (_, d) => uptoBulk d + 1
 end
def uptoSmall : (H : Type) → List (DataW H) → Bool := fun _ ds => decide (uptoBulkAll ds ≤ 1048576)
def OpenSpec.upto (s : _root_.Go.ChangeSpec) : _root_.Go.OpenSpec := { _root_.Go.OpenSpec.ofChange s with cond := some uptoSmall }

/-- 'shuntyardlaw.StoreSet', WHERE WHAT IT READS IS OF BULK AT MOST 1048576: true; the input reads as it did. -/
def storeSetUptoRow : OpenClaim := { program := "ytalejfkholifpaagreat", sum := "762cef28f98f0dafd40e92cb1175cd4a678bd5cbd37d18f69605aa990048730a", func := "shuntyard/shuntyardlaw.StoreSet", spec := "storeSet", unfollowed := true, recurses := true, apart := false, narrowed := true }
def StoreSetUptoSaid : Prop := storeSetUptoRow.holds Tryz.pinned (OpenSpec.upto storeSetSpec)

/-- 'shuntyardlaw.StoreStill', WHERE WHAT IT READS IS OF BULK AT MOST 1048576: true; the input reads as it did. -/
def storeStillUptoRow : OpenClaim := { program := "ytalejfkholifpaagreat", sum := "762cef28f98f0dafd40e92cb1175cd4a678bd5cbd37d18f69605aa990048730a", func := "shuntyard/shuntyardlaw.StoreStill", spec := "storeStill", unfollowed := true, recurses := true, apart := false, narrowed := true }
def StoreStillUptoSaid : Prop := storeStillUptoRow.holds Tryz.pinned (OpenSpec.upto storeStillSpec)

/-- 'shuntyardlaw.StoreDoes', WHERE WHAT IT READS IS OF BULK AT MOST 1048576: true; the input reads as it did. -/
def storeDoesUptoRow : OpenClaim := { program := "ytalejfkholifpaagreat", sum := "762cef28f98f0dafd40e92cb1175cd4a678bd5cbd37d18f69605aa990048730a", func := "shuntyard/shuntyardlaw.StoreDoes", spec := "storeDoes", unfollowed := true, recurses := true, apart := false, narrowed := true }
def StoreDoesUptoSaid : Prop := storeDoesUptoRow.holds Tryz.pinned (OpenSpec.upto storeDoesSpec)

end Rows
end Go.Proofs.YtalejfkholifpaaGreat
