/-
  Texts joined: XCvmb. No condition.
-/
import Derived.Test.YtefkifebgeagiaaProg
import Derived.Test.YtefkifebgeagiaaRows
import Derived.Deep.QuietTactic
import Derived.BigQuiet
import Derived.WalkSmall
import Derived.Handy
import Derived.Deep.RegionLaw
import Derived.Deep.Cut
import Derived.WalkSpells
import Derived.RegionTactic
import Derived.BigRegion
import Derived.Deep.RegionHeld3
import Derived.Deep.DrawnRows
import Derived.Outline
import Derived.Laws.StructEq
import Derived.Test.YtefkifebgeagiaaVmEndsK4
namespace Go.Proofs.Ytefkifebgeagiaa
set_option linter.all false
open Go.RowKit
abbrev qajn : List SOper := [Oa 2 (.mv (.c (.int .u64 0)))]
abbrev qajm : List SOper := [Oa 3 (.mv (.t 0))]
abbrev qajl : List SOper := [Oa 2 (.mv (.c (.int .u64 1)))]
abbrev qajk : List SOper := [Oa 2 (.mv (.c (.int .u64 0)))]
def c_ptruth : SCode := (.seq (.reg false qajn [0]) (.seq (.seq (.reg false qajm [3]) (.cond (.t 3) (.seq (.reg false qajl [2]) .ret) .skip)) (.seq (.reg false qajk [2]) .ret)))
theorem qafy : comp Try.prog 4 ((Try.f81.body).getD .skip) = some c_ptruth.erase := by kernel_rfl
abbrev qam0 : List SOper := [Oa 2 (.box 60 (.t 0)), Oa 3 (.box 60 (.t 1)), Oa 4 (.mv (.c (.bool false)))]
abbrev qamz : List SOper := [Oa 5 (.faddr 0 (.t 2)), Oa 6 (.load (.t 5)), Oa 7 (.faddr 0 (.t 3)), Oa 8 (.load (.t 7)), Oa 9 (.bin .eql (.t 6) (.t 8)), Oa 10 (.mv (.t 9)), Oe 11 (.faddr 1 (.t 2)) 10 true, Oe 12 (.load (.t 11)) 10 true, Oe 13 (.faddr 1 (.t 3)) 10 true, Oe 14 (.load (.t 13)) 10 true, ⟨(some 15), .mv (.c .any), some ((.c (.fn (.func 50) [] [])), [(.t 12), (.t 14)]), (some (10, true)), 0⟩, Oa 16 (.pick (.t 10) (.t 15) (.c (.bool false))), Oa 4 (.mv (.t 16))]
def c_sresl : SCode := (.seq (.reg false qam0 [2, 3]) (.seq (.reg false qamz [4]) .ret))
theorem qagq : comp Try.prog 17 ((Try.f28.body).getD .skip) = some c_sresl.erase := by kernel_rfl
abbrev qam2 : List SOper := [Oa 1 (.box 56 (.t 0)), Oa 2 (.mv (.c (.bool false)))]
abbrev qam1 : List SOper := [Oa 3 (.faddr 1 (.t 1)), Oa 4 (.load (.t 3)), Oa 5 (.len false (.t 4)), Oa 6 (.bin .gtr (.t 5) (.c (.int .i64 300))), Oa 7 (.mv (.t 6)), Oe 8 (.faddr 2 (.t 1)) 7 false, Oe 9 (.load (.t 8)) 7 false, Oe 10 (.len false (.t 9)) 7 false, Oe 11 (.bin .gtr (.t 10) (.c (.int .i64 65000))) 7 false, Oa 12 (.pick (.t 7) (.c (.bool true)) (.t 11)), Oa 2 (.mv (.t 12))]
def c_gprog : SCode := (.seq (.reg false qam2 [1]) (.seq (.reg false qam1 [2]) .ret))
theorem qagr : comp Try.prog 13 ((Try.f26.body).getD .skip) = some c_gprog.erase := by kernel_rfl
end Go.Proofs.Ytefkifebgeagiaa
