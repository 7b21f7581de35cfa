/-
  No cell of these rows narrows 'for every input' (looked for: loops, veiled, ifaces, maps, wideKeys, modest, calm, conditions, laid).
  DERIVED. THE GIVEN ROWS OF THIS SEAT. 12 by the template 'for every input the law returns true; each argument reads behind the call as it read before'; 0 by the template 'total and deterministic' (their statements: YtfakdapglbgokaaTotals.lean).
  GIVEN WITH THE SEED: the statements are not yours to turn. If you find one false, say at which input.
  Laid BY PROGRAM, IN A SANDBOX (cutbox-rows.mjs): the forced cells as the released guide's own fill.sh prints them over the translation 23f3062bef2f0ccf… (all of the seat's roots in one cut). By AI agents, Wed Nov 11 2026. No macro, syntax, notation, axiom, sorry.
-/
import Derived.Test.YtfakdapglbgokaaChecked
import GoSem.Claim
import GoSem.ClaimJoined
import GoSem.ClaimMapViews
import Derived.JoinedTies
import Derived.KernelRfl
namespace Go.Proofs.Ytfakdapglbgokaa
/- THE CELL 'sum', in the pinned program and in every row, IS THE sha256 OF THE DUMP (.gsa) THAT YtfakdapglbgokaaProg.lean LOADS. Nothing in Lean hashes anything: it is a label: what it is worth is what the hold of that sum in a sandbox is worth. -/
noncomputable def Try.pinned : Pinned := { name := "ytfakdapglbgokaa", sum := "23f3062bef2f0ccf78f987477c0f340a3a090c205d5ca547b66ee70e3ae68590", checked := Try.checked }
namespace Rows
def none {H : Type} : Left H := { results := [], args := [] }

/-- 'shuntyardlaw.PrefixLongest': WHATEVER THE INPUT: true; the input reads as it did. -/
def prefixLongestSpec : ChangeSpec := { name := "prefixLongest", fn := fun _ => fun
  | [d1, d2, d3] => { results := [.lit (.bool true)], args := [d1, d2, d3] }
  | _ => none }
def prefixLongestRow : OpenClaim := { program := "ytfakdapglbgokaa", sum := "23f3062bef2f0ccf78f987477c0f340a3a090c205d5ca547b66ee70e3ae68590", func := "shuntyard/shuntyardlaw.PrefixLongest", spec := "prefixLongest", recurses := true, apart := false }
def PrefixLongestSaid : Prop := prefixLongestRow.holds Try.pinned (OpenSpec.ofChange prefixLongestSpec)

/-- ITS FALSE NEIGHBOUR: 'it returns false'. Refute it at one input. -/
def prefixLongestWrong : ChangeSpec := { name := "prefixLongest", fn := fun _ => fun
  | [d1, d2, d3] => { results := [.lit (.bool false)], args := [d1, d2, d3] }
  | _ => none }
def PrefixLongestWrongFalsely : Prop := prefixLongestRow.holds Try.pinned (OpenSpec.ofChange prefixLongestWrong)

/-- 'shuntyardlaw.AsmDoes': WHATEVER THE INPUT: true; the input reads as it did. -/
def asmDoesSpec : ChangeSpec := { name := "asmDoes", fn := fun _ => fun
  | [d1, d2] => { results := [.lit (.bool true)], args := [d1, d2] }
  | _ => none }
def asmDoesRow : OpenClaim := { program := "ytfakdapglbgokaa", sum := "23f3062bef2f0ccf78f987477c0f340a3a090c205d5ca547b66ee70e3ae68590", func := "shuntyard/shuntyardlaw.AsmDoes", spec := "asmDoes", apart := false }
def AsmDoesSaid : Prop := asmDoesRow.holds Try.pinned (OpenSpec.ofChange asmDoesSpec)

/-- ITS FALSE NEIGHBOUR: 'it returns false'. Refute it at one input. -/
def asmDoesWrong : ChangeSpec := { name := "asmDoes", fn := fun _ => fun
  | [d1, d2] => { results := [.lit (.bool false)], args := [d1, d2] }
  | _ => none }
def AsmDoesWrongFalsely : Prop := asmDoesRow.holds Try.pinned (OpenSpec.ofChange asmDoesWrong)

/-- 'shuntyardlaw.PrefixDoes': WHATEVER THE INPUT: true; the input reads as it did. -/
def prefixDoesSpec : ChangeSpec := { name := "prefixDoes", fn := fun _ => fun
  | [d1, d2, d3] => { results := [.lit (.bool true)], args := [d1, d2, d3] }
  | _ => none }
def prefixDoesRow : OpenClaim := { program := "ytfakdapglbgokaa", sum := "23f3062bef2f0ccf78f987477c0f340a3a090c205d5ca547b66ee70e3ae68590", func := "shuntyard/shuntyardlaw.PrefixDoes", spec := "prefixDoes", recurses := true, apart := false }
def PrefixDoesSaid : Prop := prefixDoesRow.holds Try.pinned (OpenSpec.ofChange prefixDoesSpec)

/-- ITS FALSE NEIGHBOUR: 'it returns false'. Refute it at one input. -/
def prefixDoesWrong : ChangeSpec := { name := "prefixDoes", fn := fun _ => fun
  | [d1, d2, d3] => { results := [.lit (.bool false)], args := [d1, d2, d3] }
  | _ => none }
def PrefixDoesWrongFalsely : Prop := prefixDoesRow.holds Try.pinned (OpenSpec.ofChange prefixDoesWrong)

/-- 'shuntyardlaw.WordDoes': WHATEVER THE INPUT: true; the input reads as it did. -/
def wordDoesSpec : ChangeSpec := { name := "wordDoes", fn := fun _ => fun
  | [d1, d2, d3] => { results := [.lit (.bool true)], args := [d1, d2, d3] }
  | _ => none }
def wordDoesRow : OpenClaim := { program := "ytfakdapglbgokaa", sum := "23f3062bef2f0ccf78f987477c0f340a3a090c205d5ca547b66ee70e3ae68590", func := "shuntyard/shuntyardlaw.WordDoes", spec := "wordDoes", apart := false }
def WordDoesSaid : Prop := wordDoesRow.holds Try.pinned (OpenSpec.ofChange wordDoesSpec)

/-- ITS FALSE NEIGHBOUR: 'it returns false'. Refute it at one input. -/
def wordDoesWrong : ChangeSpec := { name := "wordDoes", fn := fun _ => fun
  | [d1, d2, d3] => { results := [.lit (.bool false)], args := [d1, d2, d3] }
  | _ => none }
def WordDoesWrongFalsely : Prop := wordDoesRow.holds Try.pinned (OpenSpec.ofChange wordDoesWrong)

/-- 'shuntyardlaw.WordBack': WHATEVER THE INPUT: true; the input reads as it did. -/
def wordBackSpec : ChangeSpec := { name := "wordBack", fn := fun _ => fun
  | [d1, d2] => { results := [.lit (.bool true)], args := [d1, d2] }
  | _ => none }
def wordBackRow : OpenClaim := { program := "ytfakdapglbgokaa", sum := "23f3062bef2f0ccf78f987477c0f340a3a090c205d5ca547b66ee70e3ae68590", func := "shuntyard/shuntyardlaw.WordBack", spec := "wordBack", apart := false }
def WordBackSaid : Prop := wordBackRow.holds Try.pinned (OpenSpec.ofChange wordBackSpec)

/-- ITS FALSE NEIGHBOUR: 'it returns false'. Refute it at one input. -/
def wordBackWrong : ChangeSpec := { name := "wordBack", fn := fun _ => fun
  | [d1, d2] => { results := [.lit (.bool false)], args := [d1, d2] }
  | _ => none }
def WordBackWrongFalsely : Prop := wordBackRow.holds Try.pinned (OpenSpec.ofChange wordBackWrong)

/-- 'shuntyardlaw.WordCut': WHATEVER THE INPUT: true; the input reads as it did. -/
def wordCutSpec : ChangeSpec := { name := "wordCut", fn := fun _ => fun
  | [d1, d2] => { results := [.lit (.bool true)], args := [d1, d2] }
  | _ => none }
def wordCutRow : OpenClaim := { program := "ytfakdapglbgokaa", sum := "23f3062bef2f0ccf78f987477c0f340a3a090c205d5ca547b66ee70e3ae68590", func := "shuntyard/shuntyardlaw.WordCut", spec := "wordCut", apart := false }
def WordCutSaid : Prop := wordCutRow.holds Try.pinned (OpenSpec.ofChange wordCutSpec)

/-- ITS FALSE NEIGHBOUR: 'it returns false'. Refute it at one input. -/
def wordCutWrong : ChangeSpec := { name := "wordCut", fn := fun _ => fun
  | [d1, d2] => { results := [.lit (.bool false)], args := [d1, d2] }
  | _ => none }
def WordCutWrongFalsely : Prop := wordCutRow.holds Try.pinned (OpenSpec.ofChange wordCutWrong)

/-- 'shuntyardlaw.PackDoes': WHATEVER THE INPUT: true; the input reads as it did. -/
def packDoesSpec : ChangeSpec := { name := "packDoes", fn := fun _ => fun
  | [d1, d2, d3, d4, d5] => { results := [.lit (.bool true)], args := [d1, d2, d3, d4, d5] }
  | _ => none }
def packDoesRow : OpenClaim := { program := "ytfakdapglbgokaa", sum := "23f3062bef2f0ccf78f987477c0f340a3a090c205d5ca547b66ee70e3ae68590", func := "shuntyard/shuntyardlaw.PackDoes", spec := "packDoes", apart := false }
def PackDoesSaid : Prop := packDoesRow.holds Try.pinned (OpenSpec.ofChange packDoesSpec)

/-- ITS FALSE NEIGHBOUR: 'it returns false'. Refute it at one input. -/
def packDoesWrong : ChangeSpec := { name := "packDoes", fn := fun _ => fun
  | [d1, d2, d3, d4, d5] => { results := [.lit (.bool false)], args := [d1, d2, d3, d4, d5] }
  | _ => none }
def PackDoesWrongFalsely : Prop := packDoesRow.holds Try.pinned (OpenSpec.ofChange packDoesWrong)

/-- 'shuntyardlaw.PackBack': WHATEVER THE INPUT: true; the input reads as it did. -/
def packBackSpec : ChangeSpec := { name := "packBack", fn := fun _ => fun
  | [d1, d2, d3, d4] => { results := [.lit (.bool true)], args := [d1, d2, d3, d4] }
  | _ => none }
def packBackRow : OpenClaim := { program := "ytfakdapglbgokaa", sum := "23f3062bef2f0ccf78f987477c0f340a3a090c205d5ca547b66ee70e3ae68590", func := "shuntyard/shuntyardlaw.PackBack", spec := "packBack", apart := false }
def PackBackSaid : Prop := packBackRow.holds Try.pinned (OpenSpec.ofChange packBackSpec)

/-- ITS FALSE NEIGHBOUR: 'it returns false'. Refute it at one input. -/
def packBackWrong : ChangeSpec := { name := "packBack", fn := fun _ => fun
  | [d1, d2, d3, d4] => { results := [.lit (.bool false)], args := [d1, d2, d3, d4] }
  | _ => none }
def PackBackWrongFalsely : Prop := packBackRow.holds Try.pinned (OpenSpec.ofChange packBackWrong)

/-- 'shuntyardlaw.GuardDoes': WHATEVER THE INPUT: true; the input reads as it did. -/
def guardDoesSpec : ChangeSpec := { name := "guardDoes", fn := fun _ => fun
  | [d] => { results := [.lit (.bool true)], args := [d] }
  | _ => none }
def guardDoesRow : OpenClaim := { program := "ytfakdapglbgokaa", sum := "23f3062bef2f0ccf78f987477c0f340a3a090c205d5ca547b66ee70e3ae68590", func := "shuntyard/shuntyardlaw.GuardDoes", spec := "guardDoes", apart := false }
def GuardDoesSaid : Prop := guardDoesRow.holds Try.pinned (OpenSpec.ofChange guardDoesSpec)

/-- ITS FALSE NEIGHBOUR: 'it returns false'. Refute it at one input. -/
def guardDoesWrong : ChangeSpec := { name := "guardDoes", fn := fun _ => fun
  | [d] => { results := [.lit (.bool false)], args := [d] }
  | _ => none }
def GuardDoesWrongFalsely : Prop := guardDoesRow.holds Try.pinned (OpenSpec.ofChange guardDoesWrong)

/-- 'shuntyardlaw.GuardMore': WHATEVER THE INPUT: true; the input reads as it did. -/
def guardMoreSpec : ChangeSpec := { name := "guardMore", fn := fun _ => fun
  | [d1, d2] => { results := [.lit (.bool true)], args := [d1, d2] }
  | _ => none }
def guardMoreRow : OpenClaim := { program := "ytfakdapglbgokaa", sum := "23f3062bef2f0ccf78f987477c0f340a3a090c205d5ca547b66ee70e3ae68590", func := "shuntyard/shuntyardlaw.GuardMore", spec := "guardMore", apart := false }
def GuardMoreSaid : Prop := guardMoreRow.holds Try.pinned (OpenSpec.ofChange guardMoreSpec)

/-- ITS FALSE NEIGHBOUR: 'it returns false'. Refute it at one input. -/
def guardMoreWrong : ChangeSpec := { name := "guardMore", fn := fun _ => fun
  | [d1, d2] => { results := [.lit (.bool false)], args := [d1, d2] }
  | _ => none }
def GuardMoreWrongFalsely : Prop := guardMoreRow.holds Try.pinned (OpenSpec.ofChange guardMoreWrong)

/-- 'shuntyardlaw.TernaryFirst': WHATEVER THE INPUT: true; the input reads as it did. -/
def ternaryFirstSpec : ChangeSpec := { name := "ternaryFirst", fn := fun _ => fun
  | [d1, d2, d3] => { results := [.lit (.bool true)], args := [d1, d2, d3] }
  | _ => none }
def ternaryFirstRow : OpenClaim := { program := "ytfakdapglbgokaa", sum := "23f3062bef2f0ccf78f987477c0f340a3a090c205d5ca547b66ee70e3ae68590", func := "shuntyard/shuntyardlaw.TernaryFirst", spec := "ternaryFirst", unfollowed := true, recurses := true, apart := false }
def TernaryFirstSaid : Prop := ternaryFirstRow.holds Try.pinned (OpenSpec.ofChange ternaryFirstSpec)

/-- ITS FALSE NEIGHBOUR: 'it returns false'. Refute it at one input. -/
def ternaryFirstWrong : ChangeSpec := { name := "ternaryFirst", fn := fun _ => fun
  | [d1, d2, d3] => { results := [.lit (.bool false)], args := [d1, d2, d3] }
  | _ => none }
def TernaryFirstWrongFalsely : Prop := ternaryFirstRow.holds Try.pinned (OpenSpec.ofChange ternaryFirstWrong)

/-- 'shuntyardlaw.TernaryDoes': WHATEVER THE INPUT: true; the input reads as it did. -/
def ternaryDoesSpec : ChangeSpec := { name := "ternaryDoes", fn := fun _ => fun
  | [d1, d2, d3] => { results := [.lit (.bool true)], args := [d1, d2, d3] }
  | _ => none }
def ternaryDoesRow : OpenClaim := { program := "ytfakdapglbgokaa", sum := "23f3062bef2f0ccf78f987477c0f340a3a090c205d5ca547b66ee70e3ae68590", func := "shuntyard/shuntyardlaw.TernaryDoes", spec := "ternaryDoes", unfollowed := true, recurses := true, apart := false }
def TernaryDoesSaid : Prop := ternaryDoesRow.holds Try.pinned (OpenSpec.ofChange ternaryDoesSpec)

/-- ITS FALSE NEIGHBOUR: 'it returns false'. Refute it at one input. -/
def ternaryDoesWrong : ChangeSpec := { name := "ternaryDoes", fn := fun _ => fun
  | [d1, d2, d3] => { results := [.lit (.bool false)], args := [d1, d2, d3] }
  | _ => none }
def TernaryDoesWrongFalsely : Prop := ternaryDoesRow.holds Try.pinned (OpenSpec.ofChange ternaryDoesWrong)

/- THE SECOND FORM. 'bulk': how many values and letters a reading holds, each counted each time it is reached (what is shared counts as often as it is met; a slice's spare places count too). A statement '..UptoSaid' is the law's where the arguments, and the package variables that the reading takes, are together of bulk at most 1048576: NARROWER than '..Said'. Prove '..Said' where nothing that the law and all that it calls make is longer than what came in: it says more and counts as full. Else prove '..UptoSaid'. A law counts once. -/
mutual
def uptoBulk {H : Type} : DataW H → Nat
  | .lit (.string bytes) => bytes.length + 1
  | .lit _ => 1
  | .nil => 1
  | .ptr d => uptoBulk d + 1
  | .slice elems spare => uptoBulkAll elems + uptoBulkAll spare + 1
  | .agg parts => uptoBulkAll parts + 1
  | .iface _ d => uptoBulk d + 1
  | .map entries => uptoBulkEntries entries + 1
  | .held _ => 1
def uptoBulkAll {H : Type} : List (DataW H) → Nat
  | [] => 0
  | d :: r => uptoBulk d + uptoBulkAll r
def uptoBulkEntries {H : Type} : List (Lit × DataW H) → Nat
  | [] => 0
  | x :: r => uptoBulkEntry x + uptoBulkEntries r
def uptoBulkEntry {H : Type} : Lit × DataW H → Nat
  | (.string bytes, d) => bytes.length + uptoBulk d + 1
  | (_, d) => uptoBulk d + 1
 end
def uptoSmall : (H : Type) → List (DataW H) → Bool := fun _ ds => decide (uptoBulkAll ds ≤ 1048576)
def OpenSpec.upto (s : _root_.Go.ChangeSpec) : _root_.Go.OpenSpec := { _root_.Go.OpenSpec.ofChange s with cond := some uptoSmall }

/-- 'shuntyardlaw.PrefixLongest', WHERE WHAT IT READS IS OF BULK AT MOST 1048576: true; the input reads as it did. -/
def prefixLongestUptoRow : OpenClaim := { program := "ytfakdapglbgokaa", sum := "23f3062bef2f0ccf78f987477c0f340a3a090c205d5ca547b66ee70e3ae68590", func := "shuntyard/shuntyardlaw.PrefixLongest", spec := "prefixLongest", recurses := true, apart := false, narrowed := true }
def PrefixLongestUptoSaid : Prop := prefixLongestUptoRow.holds Try.pinned (OpenSpec.upto prefixLongestSpec)

/-- 'shuntyardlaw.AsmDoes', WHERE WHAT IT READS IS OF BULK AT MOST 1048576: true; the input reads as it did. -/
def asmDoesUptoRow : OpenClaim := { program := "ytfakdapglbgokaa", sum := "23f3062bef2f0ccf78f987477c0f340a3a090c205d5ca547b66ee70e3ae68590", func := "shuntyard/shuntyardlaw.AsmDoes", spec := "asmDoes", apart := false, narrowed := true }
def AsmDoesUptoSaid : Prop := asmDoesUptoRow.holds Try.pinned (OpenSpec.upto asmDoesSpec)

/-- 'shuntyardlaw.PrefixDoes', WHERE WHAT IT READS IS OF BULK AT MOST 1048576: true; the input reads as it did. -/
def prefixDoesUptoRow : OpenClaim := { program := "ytfakdapglbgokaa", sum := "23f3062bef2f0ccf78f987477c0f340a3a090c205d5ca547b66ee70e3ae68590", func := "shuntyard/shuntyardlaw.PrefixDoes", spec := "prefixDoes", recurses := true, apart := false, narrowed := true }
def PrefixDoesUptoSaid : Prop := prefixDoesUptoRow.holds Try.pinned (OpenSpec.upto prefixDoesSpec)

/-- 'shuntyardlaw.WordDoes', WHERE WHAT IT READS IS OF BULK AT MOST 1048576: true; the input reads as it did. -/
def wordDoesUptoRow : OpenClaim := { program := "ytfakdapglbgokaa", sum := "23f3062bef2f0ccf78f987477c0f340a3a090c205d5ca547b66ee70e3ae68590", func := "shuntyard/shuntyardlaw.WordDoes", spec := "wordDoes", apart := false, narrowed := true }
def WordDoesUptoSaid : Prop := wordDoesUptoRow.holds Try.pinned (OpenSpec.upto wordDoesSpec)

/-- 'shuntyardlaw.WordBack', WHERE WHAT IT READS IS OF BULK AT MOST 1048576: true; the input reads as it did. -/
def wordBackUptoRow : OpenClaim := { program := "ytfakdapglbgokaa", sum := "23f3062bef2f0ccf78f987477c0f340a3a090c205d5ca547b66ee70e3ae68590", func := "shuntyard/shuntyardlaw.WordBack", spec := "wordBack", apart := false, narrowed := true }
def WordBackUptoSaid : Prop := wordBackUptoRow.holds Try.pinned (OpenSpec.upto wordBackSpec)

/-- 'shuntyardlaw.WordCut', WHERE WHAT IT READS IS OF BULK AT MOST 1048576: true; the input reads as it did. -/
def wordCutUptoRow : OpenClaim := { program := "ytfakdapglbgokaa", sum := "23f3062bef2f0ccf78f987477c0f340a3a090c205d5ca547b66ee70e3ae68590", func := "shuntyard/shuntyardlaw.WordCut", spec := "wordCut", apart := false, narrowed := true }
def WordCutUptoSaid : Prop := wordCutUptoRow.holds Try.pinned (OpenSpec.upto wordCutSpec)

/-- 'shuntyardlaw.PackDoes', WHERE WHAT IT READS IS OF BULK AT MOST 1048576: true; the input reads as it did. -/
def packDoesUptoRow : OpenClaim := { program := "ytfakdapglbgokaa", sum := "23f3062bef2f0ccf78f987477c0f340a3a090c205d5ca547b66ee70e3ae68590", func := "shuntyard/shuntyardlaw.PackDoes", spec := "packDoes", apart := false, narrowed := true }
def PackDoesUptoSaid : Prop := packDoesUptoRow.holds Try.pinned (OpenSpec.upto packDoesSpec)

/-- 'shuntyardlaw.PackBack', WHERE WHAT IT READS IS OF BULK AT MOST 1048576: true; the input reads as it did. -/
def packBackUptoRow : OpenClaim := { program := "ytfakdapglbgokaa", sum := "23f3062bef2f0ccf78f987477c0f340a3a090c205d5ca547b66ee70e3ae68590", func := "shuntyard/shuntyardlaw.PackBack", spec := "packBack", apart := false, narrowed := true }
def PackBackUptoSaid : Prop := packBackUptoRow.holds Try.pinned (OpenSpec.upto packBackSpec)

/-- 'shuntyardlaw.GuardDoes', WHERE WHAT IT READS IS OF BULK AT MOST 1048576: true; the input reads as it did. -/
def guardDoesUptoRow : OpenClaim := { program := "ytfakdapglbgokaa", sum := "23f3062bef2f0ccf78f987477c0f340a3a090c205d5ca547b66ee70e3ae68590", func := "shuntyard/shuntyardlaw.GuardDoes", spec := "guardDoes", apart := false, narrowed := true }
def GuardDoesUptoSaid : Prop := guardDoesUptoRow.holds Try.pinned (OpenSpec.upto guardDoesSpec)

/-- 'shuntyardlaw.GuardMore', WHERE WHAT IT READS IS OF BULK AT MOST 1048576: true; the input reads as it did. -/
def guardMoreUptoRow : OpenClaim := { program := "ytfakdapglbgokaa", sum := "23f3062bef2f0ccf78f987477c0f340a3a090c205d5ca547b66ee70e3ae68590", func := "shuntyard/shuntyardlaw.GuardMore", spec := "guardMore", apart := false, narrowed := true }
def GuardMoreUptoSaid : Prop := guardMoreUptoRow.holds Try.pinned (OpenSpec.upto guardMoreSpec)

/-- 'shuntyardlaw.TernaryFirst', WHERE WHAT IT READS IS OF BULK AT MOST 1048576: true; the input reads as it did. -/
def ternaryFirstUptoRow : OpenClaim := { program := "ytfakdapglbgokaa", sum := "23f3062bef2f0ccf78f987477c0f340a3a090c205d5ca547b66ee70e3ae68590", func := "shuntyard/shuntyardlaw.TernaryFirst", spec := "ternaryFirst", unfollowed := true, recurses := true, apart := false, narrowed := true }
def TernaryFirstUptoSaid : Prop := ternaryFirstUptoRow.holds Try.pinned (OpenSpec.upto ternaryFirstSpec)

/-- 'shuntyardlaw.TernaryDoes', WHERE WHAT IT READS IS OF BULK AT MOST 1048576: true; the input reads as it did. -/
def ternaryDoesUptoRow : OpenClaim := { program := "ytfakdapglbgokaa", sum := "23f3062bef2f0ccf78f987477c0f340a3a090c205d5ca547b66ee70e3ae68590", func := "shuntyard/shuntyardlaw.TernaryDoes", spec := "ternaryDoes", unfollowed := true, recurses := true, apart := false, narrowed := true }
def TernaryDoesUptoSaid : Prop := ternaryDoesUptoRow.holds Try.pinned (OpenSpec.upto ternaryDoesSpec)

end Rows
end Go.Proofs.Ytfakdapglbgokaa
