/-
  Texts joined: XCpls XCplu XPlnX XPlnY XWlkC XWlkD XWlkE. No condition.
-/
import Derived.Test.YtnfjldobjgdiaaaProg
import Derived.ProofKit
import Derived.WalkSpells
import Derived.RegionTactic
import Derived.BigRegion
import Derived.Deep.RegionLaw
import Derived.Test.YtnfjldobjgdiaaaWalkDoesK4
namespace Go.Proofs.Ytnfjldobjgdiaaa
set_option linter.all false
open Go.RowKit
abbrev qa3k : List SOper := [Oa 6 (.mv (.c (.bool false)))]
abbrev qa3j : List SOper := [Oa 10 (.mv (.t 0)), Oa 11 (.len false (.t 10)), Oa 12 (.mv (.t 1)), Oa 13 (.len false (.t 12)), Oa 14 (.bin .neq (.t 11) (.t 13))]
abbrev qa3i : List SOper := [Oa 6 (.mv (.c (.bool false)))]
abbrev qa3h : List SOper := [Oa 7 (.mv (.c (.int .i64 0)))]
abbrev qa3g : List SOper := [Oa 15 (.mv (.t 7)), Oa 16 (.mv (.t 0)), Oa 17 (.len false (.t 16)), Oa 18 (.bin .lss (.t 15) (.t 17))]
abbrev qa3f : List SOper := [Oa 21 (.mv (.t 0)), Oa 22 (.mv (.t 7)), Od 23 (.iaddr 4 (.t 21) (.t 22)) 3, Od 24 (.loads 4 (.t 23)) 7, Oa 25 (.mv (.t 1)), Oa 26 (.mv (.t 7)), Od 27 (.iaddr 4 (.t 25) (.t 26)) 48, Od 28 (.loads 4 (.t 27)) 112, Oa 8 (.alloc 97 [(.int .i64 0), (.int .i64 0), (.int .i64 0), (.int .u64 0)]), Oa 9 (.alloc 97 [(.int .i64 0), (.int .i64 0), (.int .i64 0), (.int .u64 0)]), ⟨none, .store 4 (.t 8) (.t 24), none, none, 783⟩, ⟨none, .store 4 (.t 9) (.t 28), none, none, 2047⟩]
abbrev qa3e : List SOper := [Oa 29 (.faddr 0 (.t 8)), Oa 30 (.load (.t 29)), Oa 31 (.faddr 0 (.t 9)), Oa 32 (.load (.t 31)), Oa 33 (.bin .neq (.t 30) (.t 32)), Oa 34 (.mv (.t 33)), Oe 35 (.mv (.t 2)) 34 false, Oe 36 (.un .not (.t 35)) 34 false, Oe 37 (.mv (.t 36)) 34 false, Oe 38 (.faddr 0 (.t 8)) 37 false, Oe 39 (.load (.t 38)) 37 false, Oe 40 (.bin .eql (.t 39) (.c (.int .i64 1))) 37 false, Oe 41 (.pick (.t 37) (.c (.bool true)) (.t 40)) 34 false, Oe 42 (.mv (.t 41)) 34 false, Oe 43 (.faddr 3 (.t 8)) 42 true, Oe 44 (.load (.t 43)) 42 true, Oe 45 (.faddr 3 (.t 9)) 42 true, Oe 46 (.load (.t 45)) 42 true, Oe 47 (.bin .neq (.t 44) (.t 46)) 42 true, Oe 48 (.pick (.t 42) (.t 47) (.c (.bool false))) 34 false, Oa 49 (.pick (.t 34) (.c (.bool true)) (.t 48)), Oa 50 (.mv (.t 49)), Oe 51 (.mv (.t 2)) 50 false, Oe 52 (.un .not (.t 51)) 50 false, Oe 53 (.mv (.t 52)) 50 false, Oe 54 (.faddr 0 (.t 8)) 53 false, Oe 55 (.load (.t 54)) 53 false, Oe 56 (.bin .eql (.t 55) (.c (.int .i64 2))) 53 false, Oe 57 (.pick (.t 53) (.c (.bool true)) (.t 56)) 50 false, Oe 58 (.mv (.t 57)) 50 false, Oe 59 (.faddr 1 (.t 8)) 58 true, Oe 60 (.loads 2 (.t 59)) 58 true, Oe 61 (.faddr 1 (.t 9)) 58 true, Oe 62 (.loads 2 (.t 61)) 58 true, Oe 63 (.eqs [1, 1] true (.t 60) (.t 62)) 58 true, Oe 64 (.pick (.t 58) (.t 63) (.c (.bool false))) 50 false, Oa 65 (.pick (.t 50) (.c (.bool true)) (.t 64))]
abbrev qa3d : List SOper := [Oa 6 (.mv (.c (.bool false)))]
abbrev qa3c : List SOper := [Oa 19 (.mv (.t 7)), Oa 20 (.bin .add (.t 19) (.c (.int .i64 1))), Oa 7 (.mv (.t 20))]
def qajy : SCode := (.seq (.seq (.reg false qa3g [0, 1, 2, 7, 18]) (.cond (.t 18) .skip (.exit 0))) (.seq (.block 1 (.seq (.reg true qa3f [0, 1, 2, 7, 8, 9]) (.seq (.reg false qa3e [0, 1, 2, 7, 65]) (.cond (.t 65) (.seq (.reg false qa3d [6]) .ret) .skip)))) (.reg false qa3c [0, 1, 2, 7])))
abbrev qask : List SOper := [Oa 6 (.mv (.c (.bool true)))]
def c_stree : SCode := (.seq (.reg false qa3k [0, 1, 2]) (.seq (.seq (.reg false qa3j [0, 1, 2, 14]) (.cond (.t 14) (.seq (.reg false qa3i [6]) .ret) .skip)) (.seq (.seq (.reg false qa3h [0, 1, 2, 7]) (.block 0 (.loop qajy))) (.seq (.reg false qask [6]) .ret))))
theorem qal7 : comp Try.prog 66 ((Try.f74.body).getD .skip) = some c_stree.erase := by kernel_rfl
abbrev qas2 : List SOper := [Oa 3 (.box 65 (.t 0)), Oa 4 (.box 65 (.t 1)), Oa 6 (.mv (.c (.bool false)))]
abbrev qas1 : List SOper := [Oa 8 (.faddr 0 (.t 3)), Oa 9 (.load (.t 8)), Oa 10 (.faddr 0 (.t 4)), Oa 11 (.load (.t 10)), Oa 12 (.bin .neq (.t 9) (.t 11)), Oa 13 (.mv (.t 12)), Oe 14 (.faddr 4 (.t 3)) 13 false, Oe 15 (.load (.t 14)) 13 false, Oe 16 (.faddr 4 (.t 4)) 13 false, Oe 17 (.load (.t 16)) 13 false, Oe 18 (.bin .neq (.t 15) (.t 17)) 13 false, Oa 19 (.pick (.t 13) (.c (.bool true)) (.t 18)), Oa 20 (.mv (.t 19)), Oe 21 (.faddr 3 (.t 3)) 20 false, Oe 22 (.load (.t 21)) 20 false, Oe 23 (.len false (.t 22)) 20 false, Oe 24 (.faddr 3 (.t 4)) 20 false, Oe 25 (.load (.t 24)) 20 false, Oe 26 (.len false (.t 25)) 20 false, Oe 27 (.bin .neq (.t 23) (.t 26)) 20 false, Oa 28 (.pick (.t 20) (.c (.bool true)) (.t 27)), Oa 29 (.mv (.t 28)), Oe 30 (.mv (.t 2)) 29 false, Oe 31 (.un .not (.t 30)) 29 false, Oe 32 (.mv (.t 31)) 29 false, Oe 33 (.faddr 3 (.t 3)) 32 false, Oe 34 (.load (.t 33)) 32 false, Oe 35 (.len false (.t 34)) 32 false, Oe 36 (.bin .gtr (.t 35) (.c (.int .i64 0))) 32 false, Oe 37 (.pick (.t 32) (.c (.bool true)) (.t 36)) 29 false, Oe 38 (.mv (.t 37)) 29 false, Oe 39 (.faddr 1 (.t 3)) 38 true, Oe 40 (.loads 2 (.t 39)) 38 true, Oe 41 (.faddr 1 (.t 4)) 38 true, Oe 42 (.loads 2 (.t 41)) 38 true, Oe 43 (.eqs [1, 1] true (.t 40) (.t 42)) 38 true, Oe 44 (.pick (.t 38) (.t 43) (.c (.bool false))) 29 false, Oa 45 (.pick (.t 29) (.c (.bool true)) (.t 44))]
abbrev qas0 : List SOper := [Oa 6 (.mv (.c (.bool false)))]
abbrev qasz : List SOper := [Oa 7 (.mv (.c (.int .i64 0)))]
abbrev qasy : List SOper := [Oa 46 (.mv (.t 7)), Oa 47 (.faddr 3 (.t 3)), Oa 48 (.load (.t 47)), Oa 49 (.len false (.t 48)), Oa 50 (.bin .lss (.t 46) (.t 49))]
abbrev qasx : List SOper := [Oa 53 (.faddr 3 (.t 3)), Od 54 (.load (.t 53)) 1, Oa 55 (.mv (.t 7)), Od 56 (.iaddr 3 (.t 54) (.t 55)) 7, Od 57 (.loads 3 (.t 56)) 15, Oa 58 (.faddr 3 (.t 4)), Od 59 (.load (.t 58)) 32, Oa 60 (.mv (.t 7)), Od 61 (.iaddr 3 (.t 59) (.t 60)) 224, Od 62 (.loads 3 (.t 61)) 480, Od 63 (.eqs [1, 1, 1] true (.t 57) (.t 62)) 1023]
abbrev qasw : List SOper := [Oa 6 (.mv (.c (.bool false)))]
abbrev qasv : List SOper := [Oa 51 (.mv (.t 7)), Oa 52 (.bin .add (.t 51) (.c (.int .i64 1))), Oa 7 (.mv (.t 52))]
def qaht : SCode := (.seq (.seq (.reg false qasy [3, 4, 7, 50]) (.cond (.t 50) .skip (.exit 0))) (.seq (.block 1 (.seq (.reg true qasx [3, 4, 7, 63]) (.cond (.t 63) (.seq (.reg false qasw [6]) .ret) .skip))) (.reg false qasv [3, 4, 7])))
abbrev qasu : List SOper := [Oa 6 (.mv (.c (.bool true)))]
def c_sstate : SCode := (.seq (.reg false qas2 [2, 3, 4]) (.seq (.seq (.reg false qas1 [3, 4, 45]) (.cond (.t 45) (.seq (.reg false qas0 [6]) .ret) .skip)) (.seq (.seq (.reg false qasz [3, 4, 7]) (.block 0 (.loop qaht))) (.seq (.reg false qasu [6]) .ret))))
theorem qajk : comp Try.prog 64 ((Try.f47.body).getD .skip) = some c_sstate.erase := by kernel_rfl
abbrev qbdn : List SOper := [Oa 3 (.box 71 (.t 0)), Oa 4 (.box 71 (.t 1)), Oa 6 (.mv (.c (.bool false)))]
abbrev qbdm : List SOper := [Oa 10 (.mv (.t 2)), Oa 11 (.un .not (.t 10)), Oa 12 (.mv (.t 11)), Oe 13 (.faddr 0 (.t 3)) 12 false, Oe 14 (.load (.t 13)) 12 false, Oe 15 (.bin .eql (.t 14) (.c (.int .i64 1))) 12 false, Oa 16 (.pick (.t 12) (.c (.bool true)) (.t 15)), Oa 17 (.mv (.t 16)), Oe 18 (.faddr 0 (.t 3)) 17 false, Oe 19 (.load (.t 18)) 17 false, Oe 20 (.bin .eql (.t 19) (.c (.int .i64 6))) 17 false, Oa 21 (.pick (.t 17) (.c (.bool true)) (.t 20)), Oa 7 (.mv (.t 21))]
abbrev qbdl : List SOper := [Oa 22 (.mv (.t 2)), Oa 23 (.un .not (.t 22)), Oa 24 (.mv (.t 23)), Oe 25 (.faddr 0 (.t 3)) 24 false, Oe 26 (.load (.t 25)) 24 false, Oe 27 (.bin .eql (.t 26) (.c (.int .i64 2))) 24 false, Oa 28 (.pick (.t 24) (.c (.bool true)) (.t 27)), Oa 29 (.mv (.t 28)), Oe 30 (.faddr 0 (.t 3)) 29 false, Oe 31 (.load (.t 30)) 29 false, Oe 32 (.bin .eql (.t 31) (.c (.int .i64 3))) 29 false, Oa 33 (.pick (.t 29) (.c (.bool true)) (.t 32)), Oa 34 (.mv (.t 33)), Oe 35 (.faddr 0 (.t 3)) 34 false, Oe 36 (.load (.t 35)) 34 false, Oe 37 (.bin .eql (.t 36) (.c (.int .i64 6))) 34 false, Oa 38 (.pick (.t 34) (.c (.bool true)) (.t 37)), Oa 8 (.mv (.t 38))]
abbrev qbdk : List SOper := [Oa 39 (.mv (.t 2)), Oa 40 (.un .not (.t 39)), Oa 41 (.mv (.t 40)), Oe 42 (.faddr 0 (.t 3)) 41 false, Oe 43 (.load (.t 42)) 41 false, Oe 44 (.bin .eql (.t 43) (.c (.int .i64 1))) 41 false, Oa 45 (.pick (.t 41) (.c (.bool true)) (.t 44)), Oa 46 (.mv (.t 45)), Oe 47 (.faddr 0 (.t 3)) 46 false, Oe 48 (.load (.t 47)) 46 false, Oe 49 (.bin .eql (.t 48) (.c (.int .i64 5))) 46 false, Oa 50 (.pick (.t 46) (.c (.bool true)) (.t 49)), Oa 9 (.mv (.t 50))]
abbrev qbdj : List SOper := [Oa 51 (.faddr 0 (.t 3)), Oa 52 (.load (.t 51)), Oa 53 (.faddr 0 (.t 4)), Oa 54 (.load (.t 53)), Oa 55 (.bin .eql (.t 52) (.t 54)), Oa 56 (.mv (.t 55)), Oe 57 (.mv (.t 7)) 56 true, Oe 58 (.un .not (.t 57)) 56 true, Oe 59 (.mv (.t 58)) 56 true, Oe 60 (.faddr 1 (.t 3)) 59 false, Oe 61 (.loads 2 (.t 60)) 59 false, Oe 62 (.faddr 1 (.t 4)) 59 false, Oe 63 (.loads 2 (.t 62)) 59 false, Oe 64 (.eqs [1, 1] false (.t 61) (.t 63)) 59 false, Oe 65 (.pick (.t 59) (.c (.bool true)) (.t 64)) 56 true, Oa 66 (.pick (.t 56) (.t 65) (.c (.bool false))), Oa 67 (.mv (.t 66)), Oe 68 (.mv (.t 8)) 67 true, Oe 69 (.un .not (.t 68)) 67 true, Oe 70 (.mv (.t 69)) 67 true, Oe 71 (.faddr 3 (.t 3)) 70 false, Oe 72 (.load (.t 71)) 70 false, Oe 73 (.faddr 3 (.t 4)) 70 false, Oe 74 (.load (.t 73)) 70 false, Oe 75 (.bin .eql (.t 72) (.t 74)) 70 false, Oe 76 (.pick (.t 70) (.c (.bool true)) (.t 75)) 67 true, Oa 77 (.pick (.t 67) (.t 76) (.c (.bool false))), Oa 78 (.mv (.t 77)), Oe 79 (.mv (.t 9)) 78 true, Oe 80 (.un .not (.t 79)) 78 true, Oe 81 (.mv (.t 80)) 78 true, Oe 82 (.faddr 4 (.t 3)) 81 false, Oe 83 (.load (.t 82)) 81 false, Oe 84 (.faddr 4 (.t 4)) 81 false, Oe 85 (.load (.t 84)) 81 false, Oe 86 (.mv (.t 2)) 81 false, ⟨(some 87), .mv (.c .any), some ((.c (.fn (.func 74) [] [])), [(.t 83), (.t 85), (.t 86)]), (some (81, false)), 0⟩, Oe 88 (.pick (.t 81) (.c (.bool true)) (.t 87)) 78 true, Oa 89 (.pick (.t 78) (.t 88) (.c (.bool false))), Oa 6 (.mv (.t 89))]
def c_sop : SCode := (.seq (.reg false qbdn [2, 3, 4]) (.seq (.reg false qbdm [2, 3, 4, 7]) (.seq (.reg false qbdl [2, 3, 4, 7, 8]) (.seq (.reg false qbdk [2, 3, 4, 7, 8, 9]) (.seq (.reg false qbdj [6]) .ret)))))
theorem qa13 : comp Try.prog 90 ((Try.f48.body).getD .skip) = some c_sop.erase := by kernel_rfl
abbrev qast : List SOper := [Oa 2 (.box 35 (.t 0)), Oa 3 (.box 35 (.t 1)), Oa 4 (.mv (.c (.bool false)))]
abbrev qass : List SOper := [Oa 6 (.faddr 1 (.t 2)), Oa 7 (.load (.t 6)), Oa 8 (.len false (.t 7)), Oa 9 (.faddr 1 (.t 3)), Oa 10 (.load (.t 9)), Oa 11 (.len false (.t 10)), Oa 12 (.bin .neq (.t 8) (.t 11))]
abbrev qasr : List SOper := [Oa 4 (.mv (.c (.bool false)))]
abbrev qasq : List SOper := [Oa 5 (.mv (.c (.int .i64 0)))]
abbrev qasp : List SOper := [Oa 13 (.mv (.t 5)), Oa 14 (.faddr 1 (.t 2)), Oa 15 (.load (.t 14)), Oa 16 (.len false (.t 15)), Oa 17 (.bin .lss (.t 13) (.t 16))]
abbrev qaso : List SOper := [Oa 20 (.faddr 1 (.t 2)), Od 21 (.load (.t 20)) 1, Oa 22 (.mv (.t 5)), Od 23 (.iaddr 2 (.t 21) (.t 22)) 7, Od 24 (.loads 2 (.t 23)) 15, Oa 25 (.faddr 1 (.t 3)), Od 26 (.load (.t 25)) 32, Oa 27 (.mv (.t 5)), Od 28 (.iaddr 2 (.t 26) (.t 27)) 224, Od 29 (.loads 2 (.t 28)) 480, Od 30 (.eqs [1, 1] true (.t 24) (.t 29)) 1023]
abbrev qasn : List SOper := [Oa 4 (.mv (.c (.bool false)))]
abbrev qasm : List SOper := [Oa 18 (.mv (.t 5)), Oa 19 (.bin .add (.t 18) (.c (.int .i64 1))), Oa 5 (.mv (.t 19))]
def qahs : SCode := (.seq (.seq (.reg false qasp [2, 3, 5, 17]) (.cond (.t 17) .skip (.exit 0))) (.seq (.block 1 (.seq (.reg true qaso [2, 3, 5, 30]) (.cond (.t 30) (.seq (.reg false qasn [4]) .ret) .skip))) (.reg false qasm [2, 3, 5])))
abbrev qasl : List SOper := [Oa 31 (.faddr 0 (.t 2)), Oa 32 (.load (.t 31)), Oa 33 (.faddr 0 (.t 3)), Oa 34 (.load (.t 33)), Oa 35 (.bin .eql (.t 32) (.t 34)), Oa 36 (.mv (.t 35)), Oe 37 (.faddr 2 (.t 2)) 36 true, Oe 38 (.load (.t 37)) 36 true, Oe 39 (.faddr 2 (.t 3)) 36 true, Oe 40 (.load (.t 39)) 36 true, ⟨(some 41), .mv (.c .any), some ((.c (.fn (.func 11) [] [])), [(.t 38), (.t 40)]), (some (36, true)), 0⟩, Oa 42 (.pick (.t 36) (.t 41) (.c (.bool false))), Oa 43 (.mv (.t 42)), Oe 44 (.faddr 3 (.t 2)) 43 true, Oe 45 (.load (.t 44)) 43 true, Oe 46 (.faddr 3 (.t 3)) 43 true, Oe 47 (.load (.t 46)) 43 true, Oe 48 (.bin .eql (.t 45) (.t 47)) 43 true, Oa 49 (.pick (.t 43) (.t 48) (.c (.bool false))), Oa 50 (.mv (.t 49)), Oe 51 (.faddr 4 (.t 2)) 50 true, Oe 52 (.load (.t 51)) 50 true, Oe 53 (.faddr 4 (.t 3)) 50 true, Oe 54 (.load (.t 53)) 50 true, Oe 55 (.bin .eql (.t 52) (.t 54)) 50 true, Oa 56 (.pick (.t 50) (.t 55) (.c (.bool false))), Oa 57 (.mv (.t 56)), Oe 58 (.faddr 5 (.t 2)) 57 true, Oe 59 (.load (.t 58)) 57 true, Oe 60 (.faddr 5 (.t 3)) 57 true, Oe 61 (.load (.t 60)) 57 true, ⟨(some 62), .mv (.c .any), some ((.c (.fn (.func 27) [] [])), [(.t 59), (.t 61)]), (some (57, true)), 0⟩, Oa 63 (.pick (.t 57) (.t 62) (.c (.bool false))), Oa 4 (.mv (.t 63))]
def c_stable : SCode := (.seq (.reg false qast [2, 3]) (.seq (.seq (.reg false qass [2, 3, 12]) (.cond (.t 12) (.seq (.reg false qasr [4]) .ret) .skip)) (.seq (.seq (.reg false qasq [2, 3, 5]) (.block 0 (.loop qahs))) (.seq (.reg false qasl [4]) .ret))))
theorem qajj : comp Try.prog 64 ((Try.f49.body).getD .skip) = some c_stable.erase := by kernel_rfl
abbrev qa3y : List SOper := [Oa 3 (.box 73 (.t 0)), Oa 4 (.box 73 (.t 1)), Oa 6 (.mv (.c (.bool false)))]
abbrev qa3x : List SOper := [Oa 10 (.mv (.t 2)), Oa 11 (.un .not (.t 10)), Oa 12 (.mv (.t 11)), Oe 13 (.faddr 0 (.t 3)) 12 false, Oe 14 (.load (.t 13)) 12 false, Oe 15 (.bin .neq (.t 14) (.c (.int .i64 3))) 12 false, Oa 16 (.pick (.t 12) (.c (.bool true)) (.t 15)), Oa 7 (.mv (.t 16))]
abbrev qa3w : List SOper := [Oa 17 (.mv (.t 2)), Oa 18 (.un .not (.t 17)), Oa 19 (.mv (.t 18)), Oe 20 (.faddr 0 (.t 3)) 19 false, Oe 21 (.load (.t 20)) 19 false, Oe 22 (.bin .eql (.t 21) (.c (.int .i64 3))) 19 false, Oa 23 (.pick (.t 19) (.c (.bool true)) (.t 22)), Oa 8 (.mv (.t 23))]
abbrev qa3v : List SOper := [Oa 24 (.mv (.t 2)), Oa 25 (.un .not (.t 24)), Oa 26 (.mv (.t 25)), Oe 27 (.faddr 0 (.t 3)) 26 false, Oe 28 (.load (.t 27)) 26 false, Oe 29 (.bin .eql (.t 28) (.c (.int .i64 3))) 26 false, Oa 30 (.pick (.t 26) (.c (.bool true)) (.t 29)), Oa 31 (.mv (.t 30)), Oe 32 (.faddr 0 (.t 3)) 31 false, Oe 33 (.load (.t 32)) 31 false, Oe 34 (.bin .eql (.t 33) (.c (.int .i64 4))) 31 false, Oa 35 (.pick (.t 31) (.c (.bool true)) (.t 34)), Oa 9 (.mv (.t 35))]
abbrev qa3u : List SOper := [Oa 36 (.faddr 0 (.t 3)), Oa 37 (.load (.t 36)), Oa 38 (.faddr 0 (.t 4)), Oa 39 (.load (.t 38)), Oa 40 (.bin .eql (.t 37) (.t 39)), Oa 41 (.mv (.t 40)), Oe 42 (.faddr 3 (.t 3)) 41 true, Oe 43 (.load (.t 42)) 41 true, Oe 44 (.faddr 3 (.t 4)) 41 true, Oe 45 (.load (.t 44)) 41 true, Oe 46 (.bin .eql (.t 43) (.t 45)) 41 true, Oa 47 (.pick (.t 41) (.t 46) (.c (.bool false))), Oa 48 (.mv (.t 47)), Oe 49 (.mv (.t 7)) 48 true, Oe 50 (.un .not (.t 49)) 48 true, Oe 51 (.mv (.t 50)) 48 true, Oe 52 (.faddr 1 (.t 3)) 51 false, Oe 53 (.load (.t 52)) 51 false, Oe 54 (.faddr 1 (.t 4)) 51 false, Oe 55 (.load (.t 54)) 51 false, Oe 56 (.bin .eql (.t 53) (.t 55)) 51 false, Oe 57 (.pick (.t 51) (.c (.bool true)) (.t 56)) 48 true, Oa 58 (.pick (.t 48) (.t 57) (.c (.bool false))), Oa 59 (.mv (.t 58)), Oe 60 (.mv (.t 8)) 59 true, Oe 61 (.un .not (.t 60)) 59 true, Oe 62 (.mv (.t 61)) 59 true, Oe 63 (.faddr 2 (.t 3)) 62 false, Oe 64 (.load (.t 63)) 62 false, Oe 65 (.faddr 2 (.t 4)) 62 false, Oe 66 (.load (.t 65)) 62 false, Oe 67 (.mv (.t 2)) 62 false, ⟨(some 68), .mv (.c .any), some ((.c (.fn (.func 74) [] [])), [(.t 64), (.t 66), (.t 67)]), (some (62, false)), 0⟩, Oe 69 (.pick (.t 62) (.c (.bool true)) (.t 68)) 59 true, Oa 70 (.pick (.t 59) (.t 69) (.c (.bool false))), Oa 71 (.mv (.t 70)), Oe 72 (.mv (.t 9)) 71 true, Oe 73 (.un .not (.t 72)) 71 true, Oe 74 (.mv (.t 73)) 71 true, Oe 75 (.faddr 4 (.t 3)) 74 false, Oe 76 (.load (.t 75)) 74 false, Oe 77 (.faddr 4 (.t 4)) 74 false, Oe 78 (.load (.t 77)) 74 false, Oe 79 (.bin .eql (.t 76) (.t 78)) 74 false, Oe 80 (.pick (.t 74) (.c (.bool true)) (.t 79)) 71 true, Oa 81 (.pick (.t 71) (.t 80) (.c (.bool false))), Oa 6 (.mv (.t 81))]
def c_snode : SCode := (.seq (.reg false qa3y [2, 3, 4]) (.seq (.reg false qa3x [2, 3, 4, 7]) (.seq (.reg false qa3w [2, 3, 4, 7, 8]) (.seq (.reg false qa3v [2, 3, 4, 7, 8, 9]) (.seq (.reg false qa3u [6]) .ret)))))
theorem qama : comp Try.prog 82 ((Try.f50.body).getD .skip) = some c_snode.erase := by kernel_rfl
abbrev qa3t : List SOper := [Oa 3 (.box 29 (.t 0)), Oa 4 (.box 29 (.t 1)), Oa 6 (.mv (.c (.bool false)))]
abbrev qa3s : List SOper := [Oa 15 (.faddr 0 (.t 3)), Oa 16 (.load (.t 15)), Oa 17 (.len false (.t 16)), Oa 18 (.faddr 0 (.t 4)), Oa 19 (.load (.t 18)), Oa 20 (.len false (.t 19)), Oa 21 (.bin .neq (.t 17) (.t 20)), Oa 22 (.mv (.t 21)), Oe 23 (.faddr 1 (.t 3)) 22 false, Oe 24 (.load (.t 23)) 22 false, Oe 25 (.faddr 1 (.t 4)) 22 false, Oe 26 (.load (.t 25)) 22 false, ⟨(some 27), .mv (.c .any), some ((.c (.fn (.func 11) [] [])), [(.t 24), (.t 26)]), (some (22, false)), 0⟩, Oe 28 (.un .not (.t 27)) 22 false, Oa 29 (.pick (.t 22) (.c (.bool true)) (.t 28)), Oa 30 (.mv (.t 29)), Oe 31 (.faddr 2 (.t 3)) 30 false, Oe 32 (.load (.t 31)) 30 false, Oe 33 (.len false (.t 32)) 30 false, Oe 34 (.faddr 2 (.t 4)) 30 false, Oe 35 (.load (.t 34)) 30 false, Oe 36 (.len false (.t 35)) 30 false, Oe 37 (.bin .neq (.t 33) (.t 36)) 30 false, Oa 38 (.pick (.t 30) (.c (.bool true)) (.t 37)), Oa 39 (.mv (.t 38)), Oe 40 (.faddr 3 (.t 3)) 39 false, Oe 41 (.load (.t 40)) 39 false, Oe 42 (.len false (.t 41)) 39 false, Oe 43 (.faddr 3 (.t 4)) 39 false, Oe 44 (.load (.t 43)) 39 false, Oe 45 (.len false (.t 44)) 39 false, Oe 46 (.bin .neq (.t 42) (.t 45)) 39 false, Oa 47 (.pick (.t 39) (.c (.bool true)) (.t 46)), Oa 48 (.mv (.t 47)), Oe 49 (.faddr 4 (.t 3)) 48 false, Oe 50 (.load (.t 49)) 48 false, Oe 51 (.len false (.t 50)) 48 false, Oe 52 (.faddr 4 (.t 4)) 48 false, Oe 53 (.load (.t 52)) 48 false, Oe 54 (.len false (.t 53)) 48 false, Oe 55 (.bin .neq (.t 51) (.t 54)) 48 false, Oa 56 (.pick (.t 48) (.c (.bool true)) (.t 55)), Oa 57 (.mv (.t 56)), Oe 58 (.faddr 5 (.t 3)) 57 false, Oe 59 (.load (.t 58)) 57 false, Oe 60 (.len false (.t 59)) 57 false, Oe 61 (.faddr 5 (.t 4)) 57 false, Oe 62 (.load (.t 61)) 57 false, Oe 63 (.len false (.t 62)) 57 false, Oe 64 (.bin .neq (.t 60) (.t 63)) 57 false, Oa 65 (.pick (.t 57) (.c (.bool true)) (.t 64)), Oa 66 (.mv (.t 65)), Oe 67 (.faddr 6 (.t 3)) 66 false, Oe 68 (.load (.t 67)) 66 false, Oe 69 (.faddr 6 (.t 4)) 66 false, Oe 70 (.load (.t 69)) 66 false, ⟨(some 71), .mv (.c .any), some ((.c (.fn (.func 11) [] [])), [(.t 68), (.t 70)]), (some (66, false)), 0⟩, Oe 72 (.un .not (.t 71)) 66 false, Oa 73 (.pick (.t 66) (.c (.bool true)) (.t 72))]
abbrev qa3r : List SOper := [Oa 6 (.mv (.c (.bool false)))]
abbrev qa3q : List SOper := [Oa 7 (.mv (.c (.int .i64 0)))]
abbrev qa3p : List SOper := [Oa 74 (.mv (.t 7)), Oa 75 (.faddr 0 (.t 3)), Oa 76 (.load (.t 75)), Oa 77 (.len false (.t 76)), Oa 78 (.bin .lss (.t 74) (.t 77))]
abbrev qa3o : List SOper := [Oa 81 (.faddr 0 (.t 3)), Od 82 (.load (.t 81)) 1, Oa 83 (.mv (.t 7)), Od 84 (.iaddr 1 (.t 82) (.t 83)) 7, Od 85 (.faddr 0 (.t 84)) 15, Od 86 (.load (.t 85)) 31, Oa 87 (.faddr 0 (.t 4)), Od 88 (.load (.t 87)) 64, Oa 89 (.mv (.t 7)), Od 90 (.iaddr 1 (.t 88) (.t 89)) 448, Od 91 (.faddr 0 (.t 90)) 960, Od 92 (.load (.t 91)) 1984, ⟨(some 93), .mv (.c .any), some ((.c (.fn (.func 11) [] [])), [(.t 86), (.t 92)]), none, 4095⟩, Od 94 (.un .not (.t 93)) 8191]
abbrev qa3n : List SOper := [Oa 6 (.mv (.c (.bool false)))]
abbrev qa3m : List SOper := [Oa 79 (.mv (.t 7)), Oa 80 (.bin .add (.t 79) (.c (.int .i64 1))), Oa 7 (.mv (.t 80))]
def qaj4 : SCode := (.seq (.seq (.reg false qa3p [2, 3, 4, 7, 78]) (.cond (.t 78) .skip (.exit 0))) (.seq (.block 1 (.seq (.reg true qa3o [2, 3, 4, 7, 94]) (.cond (.t 94) (.seq (.reg false qa3n [6]) .ret) .skip))) (.reg false qa3m [2, 3, 4, 7])))
abbrev qa3l : List SOper := [Oa 8 (.mv (.c (.int .i64 0)))]
abbrev qats : List SOper := [Oa 95 (.mv (.t 8)), Oa 96 (.faddr 2 (.t 3)), Oa 97 (.load (.t 96)), Oa 98 (.len false (.t 97)), Oa 99 (.bin .lss (.t 95) (.t 98))]
abbrev qatr : List SOper := [Oa 102 (.faddr 2 (.t 3)), Od 103 (.load (.t 102)) 1, Oa 104 (.mv (.t 8)), Od 105 (.iaddr 5 (.t 103) (.t 104)) 7, Od 106 (.loads 5 (.t 105)) 15, Oa 107 (.faddr 2 (.t 4)), Od 108 (.load (.t 107)) 32, Oa 109 (.mv (.t 8)), Od 110 (.iaddr 5 (.t 108) (.t 109)) 224, Od 111 (.loads 5 (.t 110)) 480, Oa 112 (.mv (.t 2)), ⟨(some 113), .mv (.c .any), some ((.c (.fn (.func 47) [] [])), [(.t 106), (.t 111), (.t 112)]), none, 2047⟩, Od 114 (.un .not (.t 113)) 4095]
abbrev qatq : List SOper := [Oa 6 (.mv (.c (.bool false)))]
abbrev qatp : List SOper := [Oa 100 (.mv (.t 8)), Oa 101 (.bin .add (.t 100) (.c (.int .i64 1))), Oa 8 (.mv (.t 101))]
def qaj3 : SCode := (.seq (.seq (.reg false qats [2, 3, 4, 8, 99]) (.cond (.t 99) .skip (.exit 2))) (.seq (.block 3 (.seq (.reg true qatr [2, 3, 4, 8, 114]) (.cond (.t 114) (.seq (.reg false qatq [6]) .ret) .skip))) (.reg false qatp [2, 3, 4, 8])))
abbrev qato : List SOper := [Oa 9 (.mv (.c (.int .i64 0)))]
abbrev qatn : List SOper := [Oa 115 (.mv (.t 9)), Oa 116 (.faddr 3 (.t 3)), Oa 117 (.load (.t 116)), Oa 118 (.len false (.t 117)), Oa 119 (.bin .lss (.t 115) (.t 118))]
abbrev qatm : List SOper := [Oa 122 (.faddr 3 (.t 3)), Od 123 (.load (.t 122)) 1, Oa 124 (.mv (.t 9)), Od 125 (.iaddr 2 (.t 123) (.t 124)) 7, Od 126 (.loads 2 (.t 125)) 15, Oa 127 (.faddr 3 (.t 4)), Od 128 (.load (.t 127)) 32, Oa 129 (.mv (.t 9)), Od 130 (.iaddr 2 (.t 128) (.t 129)) 224, Od 131 (.loads 2 (.t 130)) 480, Oa 10 (.alloc 68 [.nilsl, .nilsl]), Oa 11 (.alloc 68 [.nilsl, .nilsl]), ⟨none, .store 2 (.t 10) (.t 126), none, none, 3103⟩, ⟨none, .store 2 (.t 11) (.t 131), none, none, 8191⟩]
abbrev qatl : List SOper := [Oa 132 (.faddr 0 (.t 10)), Oa 133 (.load (.t 132)), Oa 134 (.faddr 0 (.t 11)), Oa 135 (.load (.t 134)), Oc 136 11 [(.t 133), (.t 135)], Oa 137 (.un .not (.t 136)), Oa 138 (.mv (.t 137)), Oe 139 (.faddr 1 (.t 10)) 138 false, Oe 140 (.load (.t 139)) 138 false, Oe 141 (.len false (.t 140)) 138 false, Oe 142 (.faddr 1 (.t 11)) 138 false, Oe 143 (.load (.t 142)) 138 false, Oe 144 (.len false (.t 143)) 138 false, Oe 145 (.bin .neq (.t 141) (.t 144)) 138 false, Oa 146 (.pick (.t 138) (.c (.bool true)) (.t 145))]
abbrev qatk : List SOper := [Oa 6 (.mv (.c (.bool false)))]
abbrev qatj : List SOper := [Oa 12 (.mv (.c (.int .i64 0)))]
abbrev qati : List SOper := [Oa 147 (.mv (.t 12)), Oa 148 (.faddr 1 (.t 10)), Oa 149 (.load (.t 148)), Oa 150 (.len false (.t 149)), Oa 151 (.bin .lss (.t 147) (.t 150))]
abbrev qath : List SOper := [Oa 154 (.faddr 1 (.t 10)), Od 155 (.load (.t 154)) 1, Oa 156 (.mv (.t 12)), Od 157 (.iaddr 5 (.t 155) (.t 156)) 7, Od 158 (.loads 5 (.t 157)) 15, Oa 159 (.faddr 1 (.t 11)), Od 160 (.load (.t 159)) 32, Oa 161 (.mv (.t 12)), Od 162 (.iaddr 5 (.t 160) (.t 161)) 224, Od 163 (.loads 5 (.t 162)) 480, Oa 164 (.mv (.t 2)), ⟨(some 165), .mv (.c .any), some ((.c (.fn (.func 48) [] [])), [(.t 158), (.t 163), (.t 164)]), none, 2047⟩, Od 166 (.un .not (.t 165)) 4095]
abbrev qatg : List SOper := [Oa 6 (.mv (.c (.bool false)))]
abbrev qatf : List SOper := [Oa 152 (.mv (.t 12)), Oa 153 (.bin .add (.t 152) (.c (.int .i64 1))), Oa 12 (.mv (.t 153))]
def qaj2 : SCode := (.seq (.seq (.reg false qati [2, 3, 4, 9, 10, 11, 12, 151]) (.cond (.t 151) .skip (.exit 6))) (.seq (.block 7 (.seq (.reg true qath [2, 3, 4, 9, 10, 11, 12, 166]) (.cond (.t 166) (.seq (.reg false qatg [6]) .ret) .skip))) (.reg false qatf [2, 3, 4, 9, 10, 11, 12])))
abbrev qate : List SOper := [Oa 120 (.mv (.t 9)), Oa 121 (.bin .add (.t 120) (.c (.int .i64 1))), Oa 9 (.mv (.t 121))]
def qaj1 : SCode := (.seq (.seq (.reg false qatn [2, 3, 4, 9, 119]) (.cond (.t 119) .skip (.exit 4))) (.seq (.block 5 (.seq (.reg true qatm [2, 3, 4, 9, 10, 11]) (.seq (.seq (.reg false qatl [2, 3, 4, 9, 10, 11, 146]) (.cond (.t 146) (.seq (.reg false qatk [6]) .ret) .skip)) (.seq (.reg false qatj [2, 3, 4, 9, 10, 11, 12]) (.block 6 (.loop qaj2)))))) (.reg false qate [2, 3, 4, 9])))
abbrev qatd : List SOper := [Oa 13 (.mv (.c (.int .i64 0)))]
abbrev qatc : List SOper := [Oa 167 (.mv (.t 13)), Oa 168 (.faddr 4 (.t 3)), Oa 169 (.load (.t 168)), Oa 170 (.len false (.t 169)), Oa 171 (.bin .lss (.t 167) (.t 170))]
abbrev qatb : List SOper := [Oa 174 (.faddr 4 (.t 3)), Od 175 (.load (.t 174)) 1, Oa 176 (.mv (.t 13)), Od 177 (.iaddr 6 (.t 175) (.t 176)) 7, Od 178 (.loads 6 (.t 177)) 15, Oa 179 (.faddr 4 (.t 4)), Od 180 (.load (.t 179)) 32, Oa 181 (.mv (.t 13)), Od 182 (.iaddr 6 (.t 180) (.t 181)) 224, Od 183 (.loads 6 (.t 182)) 480, ⟨(some 184), .mv (.c .any), some ((.c (.fn (.func 49) [] [])), [(.t 178), (.t 183)]), none, 1023⟩, Od 185 (.un .not (.t 184)) 2047]
abbrev qata : List SOper := [Oa 6 (.mv (.c (.bool false)))]
abbrev qas9 : List SOper := [Oa 172 (.mv (.t 13)), Oa 173 (.bin .add (.t 172) (.c (.int .i64 1))), Oa 13 (.mv (.t 173))]
def qaj0 : SCode := (.seq (.seq (.reg false qatc [2, 3, 4, 13, 171]) (.cond (.t 171) .skip (.exit 8))) (.seq (.block 9 (.seq (.reg true qatb [2, 3, 4, 13, 185]) (.cond (.t 185) (.seq (.reg false qata [6]) .ret) .skip))) (.reg false qas9 [2, 3, 4, 13])))
abbrev qas8 : List SOper := [Oa 14 (.mv (.c (.int .i64 0)))]
abbrev qas7 : List SOper := [Oa 186 (.mv (.t 14)), Oa 187 (.faddr 5 (.t 3)), Oa 188 (.load (.t 187)), Oa 189 (.len false (.t 188)), Oa 190 (.bin .lss (.t 186) (.t 189))]
abbrev qas6 : List SOper := [Oa 193 (.faddr 5 (.t 3)), Od 194 (.load (.t 193)) 1, Oa 195 (.mv (.t 14)), Od 196 (.iaddr 5 (.t 194) (.t 195)) 7, Od 197 (.loads 5 (.t 196)) 15, Oa 198 (.faddr 5 (.t 4)), Od 199 (.load (.t 198)) 32, Oa 200 (.mv (.t 14)), Od 201 (.iaddr 5 (.t 199) (.t 200)) 224, Od 202 (.loads 5 (.t 201)) 480, Oa 203 (.mv (.t 2)), ⟨(some 204), .mv (.c .any), some ((.c (.fn (.func 50) [] [])), [(.t 197), (.t 202), (.t 203)]), none, 2047⟩, Od 205 (.un .not (.t 204)) 4095]
abbrev qas5 : List SOper := [Oa 6 (.mv (.c (.bool false)))]
abbrev qas4 : List SOper := [Oa 191 (.mv (.t 14)), Oa 192 (.bin .add (.t 191) (.c (.int .i64 1))), Oa 14 (.mv (.t 192))]
def qajz : SCode := (.seq (.seq (.reg false qas7 [2, 3, 4, 14, 190]) (.cond (.t 190) .skip (.exit 10))) (.seq (.block 11 (.seq (.reg true qas6 [2, 3, 4, 14, 205]) (.cond (.t 205) (.seq (.reg false qas5 [6]) .ret) .skip))) (.reg false qas4 [2, 3, 4, 14])))
abbrev qas3 : List SOper := [Oa 6 (.mv (.c (.bool true)))]
def c_splan : SCode := (.seq (.reg false qa3t [2, 3, 4]) (.seq (.seq (.reg false qa3s [2, 3, 4, 73]) (.cond (.t 73) (.seq (.reg false qa3r [6]) .ret) .skip)) (.seq (.seq (.reg false qa3q [2, 3, 4, 7]) (.block 0 (.loop qaj4))) (.seq (.seq (.reg false qa3l [2, 3, 4, 8]) (.block 2 (.loop qaj3))) (.seq (.seq (.reg false qato [2, 3, 4, 9]) (.block 4 (.loop qaj1))) (.seq (.seq (.reg false qatd [2, 3, 4, 13]) (.block 8 (.loop qaj0))) (.seq (.seq (.reg false qas8 [2, 3, 4, 14]) (.block 10 (.loop qajz))) (.seq (.reg false qas3 [6]) .ret))))))))
theorem qal8 : comp Try.prog 206 ((Try.f19.body).getD .skip) = some c_splan.erase := by kernel_rfl
abbrev qa7f : List SOper := [Oa 2 (.mv (.c .nilsl))]
abbrev qa7e : List SOper := [Oa 3 (.mv (.c .nilsl))]
abbrev qa7d : List SOper := [Oa 4 (.mv (.t 3)), Oa 5 (.mv (.t 0)), Oa 6 (.app 3 1 8 (.t 4) (.t 5)), Oa 2 (.mv (.t 6))]
def c_oints : SCode := (.seq (.reg false qa7f [0]) (.seq (.reg false qa7e [0, 3]) (.seq (.reg false qa7d [2]) .ret)))
theorem qamp : comp Try.prog 7 ((Try.f29.body).getD .skip) = some c_oints.erase := by kernel_rfl
abbrev qa64 : List SOper := [Oa 2 (.mv (.c .nilsl))]
abbrev qa63 : List SOper := [Oa 3 (.mv (.c .nilsl))]
abbrev qa62 : List SOper := [Oa 4 (.mv (.t 3)), Oa 5 (.mv (.t 0)), Oa 6 (.app 97 4 32 (.t 4) (.t 5)), Oa 2 (.mv (.t 6))]
def c_otree : SCode := (.seq (.reg false qa64 [0]) (.seq (.reg false qa63 [0, 3]) (.seq (.reg false qa62 [2]) .ret)))
theorem qamn : comp Try.prog 7 ((Try.f30.body).getD .skip) = some c_otree.erase := by kernel_rfl
abbrev qa7c : List SOper := [Oa 1 (.box 29 (.t 0)), Oa 2 (.alloc 29 [.nilsl, .nilsl, .nilsl, .nilsl, .nilsl, .nilsl, .nilsl])]
abbrev qa7b : List SOper := [Oa 18 (.faddr 1 (.t 1)), Od 19 (.load (.t 18)) 1, ⟨(some 20), .mv (.c .any), some ((.c (.fn (.func 29) [] [])), [(.t 19)]), none, 3⟩, Oa 21 (.faddr 6 (.t 1)), Od 22 (.load (.t 21)) 8, ⟨(some 23), .mv (.c .any), some ((.c (.fn (.func 29) [] [])), [(.t 22)]), none, 31⟩, Od 24 (.build [.nilsl, .nilsl, .nilsl, .nilsl, .nilsl, .nilsl, .nilsl] [(1, 1, (.t 20)), (6, 1, (.t 23))]) 63, Oa 3 (.alloc 29 [.nilsl, .nilsl, .nilsl, .nilsl, .nilsl, .nilsl, .nilsl]), ⟨none, .store 7 (.t 3) (.t 24), none, none, 255⟩]
abbrev qa7a : List SOper := [Oa 4 (.mv (.c (.int .i64 0)))]
abbrev qa69 : List SOper := [Oa 25 (.mv (.t 4)), Oa 26 (.faddr 0 (.t 1)), Oa 27 (.load (.t 26)), Oa 28 (.len false (.t 27)), Oa 29 (.bin .lss (.t 25) (.t 28))]
abbrev qa68 : List SOper := [Oa 32 (.faddr 0 (.t 3)), Od 33 (.load (.t 32)) 1, Oa 34 (.faddr 0 (.t 1)), Od 35 (.load (.t 34)) 4, Oa 36 (.mv (.t 4)), Od 37 (.iaddr 1 (.t 35) (.t 36)) 28, Od 38 (.faddr 0 (.t 37)) 60, Od 39 (.load (.t 38)) 124, ⟨(some 40), .mv (.c .any), some ((.c (.fn (.func 29) [] [])), [(.t 39)]), none, 252⟩, Od 41 (.build [.nilsl] [(0, 1, (.t 40))]) 508, Od 42 (.mkrow 62 1 1 [.nilsl] [(0, (.t 41))]) 1020, Od 43 (.app 62 1 24 (.t 33) (.t 42)) 2047, Od 44 (.faddr 0 (.t 3)) 4095, ⟨none, .store 1 (.t 44) (.t 43), none, none, 8191⟩]
abbrev qa67 : List SOper := [Oa 30 (.mv (.t 4)), Oa 31 (.bin .add (.t 30) (.c (.int .i64 1))), Oa 4 (.mv (.t 31))]
def qakw : SCode := (.seq (.seq (.reg false qa69 [1, 2, 3, 4, 29]) (.cond (.t 29) .skip (.exit 0))) (.seq (.block 1 (.reg true qa68 [1, 2, 3, 4])) (.reg false qa67 [1, 2, 3, 4])))
abbrev qaku : List SOper := [Oa 5 (.mv (.c (.int .i64 0)))]
abbrev qa66 : List SOper := [Oa 45 (.mv (.t 5)), Oa 46 (.faddr 2 (.t 1)), Oa 47 (.load (.t 46)), Oa 48 (.len false (.t 47)), Oa 49 (.bin .lss (.t 45) (.t 48))]
abbrev qa65 : List SOper := [Oa 52 (.faddr 2 (.t 1)), Oa 53 (.load (.t 52)), Oa 54 (.mv (.t 5)), Oa 55 (.iaddr 5 (.t 53) (.t 54)), Oa 56 (.loads 5 (.t 55)), Oa 6 (.alloc 65 [(.int .i64 0), (.int .i64 0), (.int .i64 0), .nilsl, (.int .i64 0)]), Ob (.store 5 (.t 6) (.t 56))]
abbrev qay9 : List SOper := [Oa 7 (.mv (.c .nilsl))]
abbrev qay8 : List SOper := [Oa 57 (.mv (.t 7)), Oa 58 (.faddr 3 (.t 6)), Oa 59 (.load (.t 58)), Oa 60 (.app 95 3 24 (.t 57) (.t 59)), Oa 61 (.faddr 3 (.t 6)), Ob (.store 1 (.t 61) (.t 60))]
abbrev qah7 : List SOper := [Oa 62 (.faddr 2 (.t 3)), Oa 63 (.load (.t 62)), Oa 64 (.loads 5 (.t 6)), Oa 65 (.mkrow 65 5 1 [(.int .i64 0), (.int .i64 0), (.int .i64 0), .nilsl, (.int .i64 0)] [(0, (.t 64))]), Oa 66 (.app 65 5 56 (.t 63) (.t 65)), Oa 67 (.faddr 2 (.t 3)), Ob (.store 1 (.t 67) (.t 66))]
abbrev qay7 : List SOper := [Oa 50 (.mv (.t 5)), Oa 51 (.bin .add (.t 50) (.c (.int .i64 1))), Oa 5 (.mv (.t 51))]
def qag3 : SCode := (.seq (.seq (.reg false qa66 [1, 2, 3, 5, 49]) (.cond (.t 49) .skip (.exit 2))) (.seq (.block 3 (.seq (.reg false qa65 [1, 2, 3, 5, 6]) (.seq (.reg false qay9 [1, 2, 3, 5, 6, 7]) (.seq (.reg false qay8 [1, 2, 3, 5, 6]) (.reg false qah7 [1, 2, 3, 5]))))) (.reg false qay7 [1, 2, 3, 5])))
abbrev qafw : List SOper := [Oa 8 (.mv (.c (.int .i64 0)))]
abbrev qay6 : List SOper := [Oa 68 (.mv (.t 8)), Oa 69 (.faddr 3 (.t 1)), Oa 70 (.load (.t 69)), Oa 71 (.len false (.t 70)), Oa 72 (.bin .lss (.t 68) (.t 71))]
abbrev qay5 : List SOper := [Oa 75 (.faddr 3 (.t 1)), Oa 76 (.load (.t 75)), Oa 77 (.mv (.t 8)), Oa 78 (.iaddr 2 (.t 76) (.t 77)), Oa 79 (.faddr 0 (.t 78)), Oa 80 (.load (.t 79)), Oc 81 29 [(.t 80)], Oa 82 (.build [.nilsl, .nilsl] [(0, 1, (.t 81))]), Oa 9 (.alloc 68 [.nilsl, .nilsl]), Ob (.store 2 (.t 9) (.t 82))]
abbrev qay4 : List SOper := [Oa 10 (.mv (.c (.int .i64 0)))]
abbrev qay3 : List SOper := [Oa 83 (.mv (.t 10)), Oa 84 (.faddr 3 (.t 1)), Oa 85 (.load (.t 84)), Oa 86 (.mv (.t 8)), Oa 87 (.iaddr 2 (.t 85) (.t 86)), Oa 88 (.faddr 1 (.t 87)), Oa 89 (.load (.t 88)), Oa 90 (.len false (.t 89)), Oa 91 (.bin .lss (.t 83) (.t 90))]
abbrev qay2 : List SOper := [Oa 94 (.faddr 3 (.t 1)), Oa 95 (.load (.t 94)), Oa 96 (.mv (.t 8)), Oa 97 (.iaddr 2 (.t 95) (.t 96)), Oa 98 (.faddr 1 (.t 97)), Oa 99 (.load (.t 98)), Oa 100 (.mv (.t 10)), Oa 101 (.iaddr 5 (.t 99) (.t 100)), Oa 102 (.loads 5 (.t 101)), Oa 11 (.alloc 71 [(.int .i64 0), (.int .i64 0), (.int .i64 0), (.int .i64 0), .nilsl]), Ob (.store 5 (.t 11) (.t 102))]
abbrev qay1 : List SOper := [Oa 103 (.faddr 4 (.t 11)), Oa 104 (.load (.t 103)), Oc 105 30 [(.t 104)], Oa 106 (.faddr 4 (.t 11)), Ob (.store 1 (.t 106) (.t 105))]
abbrev qay0 : List SOper := [Oa 107 (.faddr 1 (.t 9)), Oa 108 (.load (.t 107)), Oa 109 (.loads 5 (.t 11)), Oa 110 (.mkrow 71 5 1 [(.int .i64 0), (.int .i64 0), (.int .i64 0), (.int .i64 0), .nilsl] [(0, (.t 109))]), Oa 111 (.app 71 5 56 (.t 108) (.t 110)), Oa 112 (.faddr 1 (.t 9)), Ob (.store 1 (.t 112) (.t 111))]
abbrev qayz : List SOper := [Oa 92 (.mv (.t 10)), Oa 93 (.bin .add (.t 92) (.c (.int .i64 1))), Oa 10 (.mv (.t 93))]
def qakv : SCode := (.seq (.seq (.reg false qay3 [1, 2, 3, 8, 9, 10, 91]) (.cond (.t 91) .skip (.exit 6))) (.seq (.block 7 (.seq (.reg false qay2 [1, 2, 3, 8, 9, 10, 11]) (.seq (.reg false qay1 [1, 2, 3, 8, 9, 10, 11]) (.reg false qay0 [1, 2, 3, 8, 9, 10])))) (.reg false qayz [1, 2, 3, 8, 9, 10])))
abbrev qah6 : List SOper := [Oa 113 (.faddr 3 (.t 3)), Oa 114 (.load (.t 113)), Oa 115 (.loads 2 (.t 9)), Oa 116 (.mkrow 68 2 1 [.nilsl, .nilsl] [(0, (.t 115))]), Oa 117 (.app 68 2 48 (.t 114) (.t 116)), Oa 118 (.faddr 3 (.t 3)), Ob (.store 1 (.t 118) (.t 117))]
abbrev qayy : List SOper := [Oa 73 (.mv (.t 8)), Oa 74 (.bin .add (.t 73) (.c (.int .i64 1))), Oa 8 (.mv (.t 74))]
def qaff : SCode := (.seq (.seq (.reg false qay6 [1, 2, 3, 8, 72]) (.cond (.t 72) .skip (.exit 4))) (.seq (.block 5 (.seq (.reg false qay5 [1, 2, 3, 8, 9]) (.seq (.seq (.reg false qay4 [1, 2, 3, 8, 9, 10]) (.block 6 (.loop qakv))) (.reg false qah6 [1, 2, 3, 8])))) (.reg false qayy [1, 2, 3, 8])))
abbrev qaep : List SOper := [Oa 12 (.mv (.c (.int .i64 0)))]
abbrev qayx : List SOper := [Oa 119 (.mv (.t 12)), Oa 120 (.faddr 4 (.t 1)), Oa 121 (.load (.t 120)), Oa 122 (.len false (.t 121)), Oa 123 (.bin .lss (.t 119) (.t 122))]
abbrev qayw : List SOper := [Oa 126 (.faddr 4 (.t 1)), Oa 127 (.load (.t 126)), Oa 128 (.mv (.t 12)), Oa 129 (.iaddr 6 (.t 127) (.t 128)), Oa 130 (.loads 6 (.t 129)), Oa 13 (.alloc 35 [(.int .i64 0), .nilsl, .nilsl, (.int .i64 0), (.int .i64 0), .nilsl]), Ob (.store 6 (.t 13) (.t 130))]
abbrev qayv : List SOper := [Oa 14 (.mv (.c .nilsl))]
abbrev qayu : List SOper := [Oa 15 (.mv (.c .nilsl))]
abbrev qayt : List SOper := [Oa 131 (.mv (.t 14)), Oa 132 (.faddr 1 (.t 13)), Od 133 (.load (.t 132)) 2, Od 134 (.app 31 2 16 (.t 131) (.t 133)) 7, Oa 135 (.faddr 2 (.t 13)), Od 136 (.load (.t 135)) 16, ⟨(some 137), .mv (.c .any), some ((.c (.fn (.func 29) [] [])), [(.t 136)]), none, 63⟩, Oa 138 (.mv (.t 15)), Oa 139 (.faddr 5 (.t 13)), Od 140 (.load (.t 139)) 256, Od 141 (.app 54 1 8 (.t 138) (.t 140)) 1023, Od 142 (.faddr 1 (.t 13)) 831, ⟨none, .store 1 (.t 142) (.t 134), none, none, 4095⟩, Od 143 (.faddr 2 (.t 13)) 8191, ⟨none, .store 1 (.t 143) (.t 137), none, none, 16383⟩, Od 144 (.faddr 5 (.t 13)) 32767, ⟨none, .store 1 (.t 144) (.t 141), none, none, 65535⟩]
abbrev qah5 : List SOper := [Oa 145 (.faddr 4 (.t 3)), Oa 146 (.load (.t 145)), Oa 147 (.loads 6 (.t 13)), Oa 148 (.mkrow 35 6 1 [(.int .i64 0), .nilsl, .nilsl, (.int .i64 0), (.int .i64 0), .nilsl] [(0, (.t 147))]), Oa 149 (.app 35 6 96 (.t 146) (.t 148)), Oa 150 (.faddr 4 (.t 3)), Ob (.store 1 (.t 150) (.t 149))]
abbrev qays : List SOper := [Oa 124 (.mv (.t 12)), Oa 125 (.bin .add (.t 124) (.c (.int .i64 1))), Oa 12 (.mv (.t 125))]
def qaec : SCode := (.seq (.seq (.reg false qayx [1, 2, 3, 12, 123]) (.cond (.t 123) .skip (.exit 8))) (.seq (.block 9 (.seq (.reg false qayw [1, 2, 3, 12, 13]) (.seq (.reg false qayv [1, 2, 3, 12, 13, 14]) (.seq (.reg false qayu [1, 2, 3, 12, 13, 14, 15]) (.seq (.reg true qayt [1, 2, 3, 12, 13]) (.reg false qah5 [1, 2, 3, 12])))))) (.reg false qays [1, 2, 3, 12])))
abbrev qadz : List SOper := [Oa 16 (.mv (.c (.int .i64 0)))]
abbrev qayr : List SOper := [Oa 151 (.mv (.t 16)), Oa 152 (.faddr 5 (.t 1)), Oa 153 (.load (.t 152)), Oa 154 (.len false (.t 153)), Oa 155 (.bin .lss (.t 151) (.t 154))]
abbrev qayq : List SOper := [Oa 158 (.faddr 5 (.t 1)), Oa 159 (.load (.t 158)), Oa 160 (.mv (.t 16)), Oa 161 (.iaddr 5 (.t 159) (.t 160)), Oa 162 (.loads 5 (.t 161)), Oa 17 (.alloc 73 [(.int .i64 0), (.int .i64 0), .nilsl, (.int .i64 0), (.int .i64 0)]), Ob (.store 5 (.t 17) (.t 162))]
abbrev qayp : List SOper := [Oa 163 (.faddr 2 (.t 17)), Oa 164 (.load (.t 163)), Oc 165 30 [(.t 164)], Oa 166 (.faddr 2 (.t 17)), Ob (.store 1 (.t 166) (.t 165))]
abbrev qayo : List SOper := [Oa 167 (.faddr 5 (.t 3)), Oa 168 (.load (.t 167)), Oa 169 (.loads 5 (.t 17)), Oa 170 (.mkrow 73 5 1 [(.int .i64 0), (.int .i64 0), .nilsl, (.int .i64 0), (.int .i64 0)] [(0, (.t 169))]), Oa 171 (.app 73 5 56 (.t 168) (.t 170)), Oa 172 (.faddr 5 (.t 3)), Ob (.store 1 (.t 172) (.t 171))]
abbrev qayn : List SOper := [Oa 156 (.mv (.t 16)), Oa 157 (.bin .add (.t 156) (.c (.int .i64 1))), Oa 16 (.mv (.t 157))]
def qad0 : SCode := (.seq (.seq (.reg false qayr [1, 2, 3, 16, 155]) (.cond (.t 155) .skip (.exit 10))) (.seq (.block 11 (.seq (.reg false qayq [1, 2, 3, 16, 17]) (.seq (.reg false qayp [1, 2, 3, 16, 17]) (.reg false qayo [1, 2, 3, 16])))) (.reg false qayn [1, 2, 3, 16])))
abbrev qadk : List SOper := [Oa 173 (.loads 7 (.t 3)), Ob (.store 7 (.t 2) (.t 173))]
def c_oplan : SCode := (.seq (.reg false qa7c [1, 2]) (.seq (.reg true qa7b [1, 2, 3]) (.seq (.seq (.reg false qa7a [1, 2, 3, 4]) (.block 0 (.loop qakw))) (.seq (.seq (.reg false qaku [1, 2, 3, 5]) (.block 2 (.loop qag3))) (.seq (.seq (.reg false qafw [1, 2, 3, 8]) (.block 4 (.loop qaff))) (.seq (.seq (.reg false qaep [1, 2, 3, 12]) (.block 8 (.loop qaec))) (.seq (.seq (.reg false qadz [1, 2, 3, 16]) (.block 10 (.loop qad0))) (.seq (.reg false qadk [2]) .ret))))))))
theorem qamo : comp Try.prog 174 ((Try.f16.body).getD .skip) = some c_oplan.erase := by kernel_rfl
abbrev qa8q : List SOper := [Oa 1 (.box 29 (.t 0)), Oa 2 (.mv (.c (.bool false)))]
abbrev qa8p : List SOper := [Oa 9 (.faddr 0 (.t 1)), Oa 10 (.load (.t 9)), Oa 11 (.len false (.t 10)), Oa 12 (.bin .gtr (.t 11) (.c (.int .i64 50))), Oa 13 (.mv (.t 12)), Oe 14 (.faddr 1 (.t 1)) 13 false, Oe 15 (.load (.t 14)) 13 false, Oe 16 (.len false (.t 15)) 13 false, Oe 17 (.bin .gtr (.t 16) (.c (.int .i64 500))) 13 false, Oa 18 (.pick (.t 13) (.c (.bool true)) (.t 17)), Oa 19 (.mv (.t 18)), Oe 20 (.faddr 2 (.t 1)) 19 false, Oe 21 (.load (.t 20)) 19 false, Oe 22 (.len false (.t 21)) 19 false, Oe 23 (.bin .gtr (.t 22) (.c (.int .i64 50))) 19 false, Oa 24 (.pick (.t 19) (.c (.bool true)) (.t 23)), Oa 25 (.mv (.t 24)), Oe 26 (.faddr 3 (.t 1)) 25 false, Oe 27 (.load (.t 26)) 25 false, Oe 28 (.len false (.t 27)) 25 false, Oe 29 (.bin .gtr (.t 28) (.c (.int .i64 50))) 25 false, Oa 30 (.pick (.t 25) (.c (.bool true)) (.t 29)), Oa 31 (.mv (.t 30)), Oe 32 (.faddr 4 (.t 1)) 31 false, Oe 33 (.load (.t 32)) 31 false, Oe 34 (.len false (.t 33)) 31 false, Oe 35 (.bin .gtr (.t 34) (.c (.int .i64 50))) 31 false, Oa 36 (.pick (.t 31) (.c (.bool true)) (.t 35)), Oa 37 (.mv (.t 36)), Oe 38 (.faddr 5 (.t 1)) 37 false, Oe 39 (.load (.t 38)) 37 false, Oe 40 (.len false (.t 39)) 37 false, Oe 41 (.bin .gtr (.t 40) (.c (.int .i64 50))) 37 false, Oa 42 (.pick (.t 37) (.c (.bool true)) (.t 41)), Oa 43 (.mv (.t 42)), Oe 44 (.faddr 6 (.t 1)) 43 false, Oe 45 (.load (.t 44)) 43 false, Oe 46 (.len false (.t 45)) 43 false, Oe 47 (.bin .gtr (.t 46) (.c (.int .i64 500))) 43 false, Oa 48 (.pick (.t 43) (.c (.bool true)) (.t 47))]
abbrev qa8o : List SOper := [Oa 2 (.mv (.c (.bool true)))]
abbrev qa8n : List SOper := [Oa 3 (.mv (.c (.int .i64 0)))]
abbrev qa8m : List SOper := [Oa 49 (.mv (.t 3)), Oa 50 (.faddr 0 (.t 1)), Oa 51 (.load (.t 50)), Oa 52 (.len false (.t 51)), Oa 53 (.bin .lss (.t 49) (.t 52))]
abbrev qa8l : List SOper := [Oa 56 (.faddr 0 (.t 1)), Oa 57 (.load (.t 56)), Oa 58 (.mv (.t 3)), Oa 59 (.iaddr 1 (.t 57) (.t 58)), Oa 60 (.faddr 0 (.t 59)), Oa 61 (.load (.t 60)), Oa 62 (.len false (.t 61)), Oa 63 (.bin .gtr (.t 62) (.c (.int .i64 500)))]
abbrev qa8k : List SOper := [Oa 2 (.mv (.c (.bool true)))]
abbrev qa8j : List SOper := [Oa 54 (.mv (.t 3)), Oa 55 (.bin .add (.t 54) (.c (.int .i64 1))), Oa 3 (.mv (.t 55))]
def qalg : SCode := (.seq (.seq (.reg false qa8m [1, 3, 53]) (.cond (.t 53) .skip (.exit 0))) (.seq (.block 1 (.seq (.reg false qa8l [1, 3, 63]) (.cond (.t 63) (.seq (.reg false qa8k [2]) .ret) .skip))) (.reg false qa8j [1, 3])))
abbrev qa8i : List SOper := [Oa 4 (.mv (.c (.int .i64 0)))]
abbrev qa0g : List SOper := [Oa 64 (.mv (.t 4)), Oa 65 (.faddr 2 (.t 1)), Oa 66 (.load (.t 65)), Oa 67 (.len false (.t 66)), Oa 68 (.bin .lss (.t 64) (.t 67))]
abbrev qa0f : List SOper := [Oa 71 (.faddr 2 (.t 1)), Oa 72 (.load (.t 71)), Oa 73 (.mv (.t 4)), Oa 74 (.iaddr 5 (.t 72) (.t 73)), Oa 75 (.faddr 3 (.t 74)), Oa 76 (.load (.t 75)), Oa 77 (.len false (.t 76)), Oa 78 (.bin .gtr (.t 77) (.c (.int .i64 500)))]
abbrev qa0e : List SOper := [Oa 2 (.mv (.c (.bool true)))]
abbrev qa0d : List SOper := [Oa 69 (.mv (.t 4)), Oa 70 (.bin .add (.t 69) (.c (.int .i64 1))), Oa 4 (.mv (.t 70))]
def qalf : SCode := (.seq (.seq (.reg false qa0g [1, 4, 68]) (.cond (.t 68) .skip (.exit 2))) (.seq (.block 3 (.seq (.reg false qa0f [1, 4, 78]) (.cond (.t 78) (.seq (.reg false qa0e [2]) .ret) .skip))) (.reg false qa0d [1, 4])))
abbrev qa0c : List SOper := [Oa 5 (.mv (.c (.int .i64 0)))]
abbrev qa0b : List SOper := [Oa 79 (.mv (.t 5)), Oa 80 (.faddr 3 (.t 1)), Oa 81 (.load (.t 80)), Oa 82 (.len false (.t 81)), Oa 83 (.bin .lss (.t 79) (.t 82))]
abbrev qa0a : List SOper := [Oa 86 (.faddr 3 (.t 1)), Oa 87 (.load (.t 86)), Oa 88 (.mv (.t 5)), Oa 89 (.iaddr 2 (.t 87) (.t 88)), Oa 90 (.faddr 0 (.t 89)), Oa 91 (.load (.t 90)), Oa 92 (.len false (.t 91)), Oa 93 (.bin .gtr (.t 92) (.c (.int .i64 500))), Oa 94 (.mv (.t 93)), Oe 95 (.faddr 3 (.t 1)) 94 false, Oe 96 (.load (.t 95)) 94 false, Oe 97 (.mv (.t 5)) 94 false, Oe 98 (.iaddr 2 (.t 96) (.t 97)) 94 false, Oe 99 (.faddr 1 (.t 98)) 94 false, Oe 100 (.load (.t 99)) 94 false, Oe 101 (.len false (.t 100)) 94 false, Oe 102 (.bin .gtr (.t 101) (.c (.int .i64 50))) 94 false, Oa 103 (.pick (.t 94) (.c (.bool true)) (.t 102))]
abbrev qaz9 : List SOper := [Oa 2 (.mv (.c (.bool true)))]
abbrev qaz8 : List SOper := [Oa 6 (.mv (.c (.int .i64 0)))]
abbrev qaz7 : List SOper := [Oa 104 (.mv (.t 6)), Oa 105 (.faddr 3 (.t 1)), Oa 106 (.load (.t 105)), Oa 107 (.mv (.t 5)), Oa 108 (.iaddr 2 (.t 106) (.t 107)), Oa 109 (.faddr 1 (.t 108)), Oa 110 (.load (.t 109)), Oa 111 (.len false (.t 110)), Oa 112 (.bin .lss (.t 104) (.t 111))]
abbrev qaz6 : List SOper := [Oa 115 (.faddr 3 (.t 1)), Oa 116 (.load (.t 115)), Oa 117 (.mv (.t 5)), Oa 118 (.iaddr 2 (.t 116) (.t 117)), Oa 119 (.faddr 1 (.t 118)), Oa 120 (.load (.t 119)), Oa 121 (.mv (.t 6)), Oa 122 (.iaddr 5 (.t 120) (.t 121)), Oa 123 (.faddr 4 (.t 122)), Oa 124 (.load (.t 123)), Oa 125 (.len false (.t 124)), Oa 126 (.bin .gtr (.t 125) (.c (.int .i64 500)))]
abbrev qaz5 : List SOper := [Oa 2 (.mv (.c (.bool true)))]
abbrev qaz4 : List SOper := [Oa 113 (.mv (.t 6)), Oa 114 (.bin .add (.t 113) (.c (.int .i64 1))), Oa 6 (.mv (.t 114))]
def qale : SCode := (.seq (.seq (.reg false qaz7 [1, 5, 6, 112]) (.cond (.t 112) .skip (.exit 6))) (.seq (.block 7 (.seq (.reg false qaz6 [1, 5, 6, 126]) (.cond (.t 126) (.seq (.reg false qaz5 [2]) .ret) .skip))) (.reg false qaz4 [1, 5, 6])))
abbrev qaz3 : List SOper := [Oa 84 (.mv (.t 5)), Oa 85 (.bin .add (.t 84) (.c (.int .i64 1))), Oa 5 (.mv (.t 85))]
def qald : SCode := (.seq (.seq (.reg false qa0b [1, 5, 83]) (.cond (.t 83) .skip (.exit 4))) (.seq (.block 5 (.seq (.seq (.reg false qa0a [1, 5, 103]) (.cond (.t 103) (.seq (.reg false qaz9 [2]) .ret) .skip)) (.seq (.reg false qaz8 [1, 5, 6]) (.block 6 (.loop qale))))) (.reg false qaz3 [1, 5])))
abbrev qaz2 : List SOper := [Oa 7 (.mv (.c (.int .i64 0)))]
abbrev qaz1 : List SOper := [Oa 127 (.mv (.t 7)), Oa 128 (.faddr 4 (.t 1)), Oa 129 (.load (.t 128)), Oa 130 (.len false (.t 129)), Oa 131 (.bin .lss (.t 127) (.t 130))]
abbrev qaz0 : List SOper := [Oa 134 (.faddr 4 (.t 1)), Oa 135 (.load (.t 134)), Oa 136 (.mv (.t 7)), Oa 137 (.iaddr 6 (.t 135) (.t 136)), Oa 138 (.faddr 1 (.t 137)), Oa 139 (.load (.t 138)), Oa 140 (.len false (.t 139)), Oa 141 (.bin .gtr (.t 140) (.c (.int .i64 500))), Oa 142 (.mv (.t 141)), Oe 143 (.faddr 4 (.t 1)) 142 false, Oe 144 (.load (.t 143)) 142 false, Oe 145 (.mv (.t 7)) 142 false, Oe 146 (.iaddr 6 (.t 144) (.t 145)) 142 false, Oe 147 (.faddr 2 (.t 146)) 142 false, Oe 148 (.load (.t 147)) 142 false, Oe 149 (.len false (.t 148)) 142 false, Oe 150 (.bin .gtr (.t 149) (.c (.int .i64 500))) 142 false, Oa 151 (.pick (.t 142) (.c (.bool true)) (.t 150)), Oa 152 (.mv (.t 151)), Oe 153 (.faddr 4 (.t 1)) 152 false, Oe 154 (.load (.t 153)) 152 false, Oe 155 (.mv (.t 7)) 152 false, Oe 156 (.iaddr 6 (.t 154) (.t 155)) 152 false, Oe 157 (.faddr 5 (.t 156)) 152 false, Oe 158 (.load (.t 157)) 152 false, Oe 159 (.len false (.t 158)) 152 false, Oe 160 (.bin .gtr (.t 159) (.c (.int .i64 500))) 152 false, Oa 161 (.pick (.t 152) (.c (.bool true)) (.t 160))]
abbrev qazz : List SOper := [Oa 2 (.mv (.c (.bool true)))]
abbrev qazy : List SOper := [Oa 132 (.mv (.t 7)), Oa 133 (.bin .add (.t 132) (.c (.int .i64 1))), Oa 7 (.mv (.t 133))]
def qalc : SCode := (.seq (.seq (.reg false qaz1 [1, 7, 131]) (.cond (.t 131) .skip (.exit 8))) (.seq (.block 9 (.seq (.reg false qaz0 [1, 7, 161]) (.cond (.t 161) (.seq (.reg false qazz [2]) .ret) .skip))) (.reg false qazy [1, 7])))
abbrev qazx : List SOper := [Oa 8 (.mv (.c (.int .i64 0)))]
abbrev qazw : List SOper := [Oa 162 (.mv (.t 8)), Oa 163 (.faddr 5 (.t 1)), Oa 164 (.load (.t 163)), Oa 165 (.len false (.t 164)), Oa 166 (.bin .lss (.t 162) (.t 165))]
abbrev qazv : List SOper := [Oa 169 (.faddr 5 (.t 1)), Oa 170 (.load (.t 169)), Oa 171 (.mv (.t 8)), Oa 172 (.iaddr 5 (.t 170) (.t 171)), Oa 173 (.faddr 2 (.t 172)), Oa 174 (.load (.t 173)), Oa 175 (.len false (.t 174)), Oa 176 (.bin .gtr (.t 175) (.c (.int .i64 500)))]
abbrev qazu : List SOper := [Oa 2 (.mv (.c (.bool true)))]
abbrev qazt : List SOper := [Oa 167 (.mv (.t 8)), Oa 168 (.bin .add (.t 167) (.c (.int .i64 1))), Oa 8 (.mv (.t 168))]
def qalb : SCode := (.seq (.seq (.reg false qazw [1, 8, 166]) (.cond (.t 166) .skip (.exit 10))) (.seq (.block 11 (.seq (.reg false qazv [1, 8, 176]) (.cond (.t 176) (.seq (.reg false qazu [2]) .ret) .skip))) (.reg false qazt [1, 8])))
abbrev qazs : List SOper := [Oa 2 (.mv (.c (.bool false)))]
def c_gplan : SCode := (.seq (.reg false qa8q [1]) (.seq (.seq (.reg false qa8p [1, 48]) (.cond (.t 48) (.seq (.reg false qa8o [2]) .ret) .skip)) (.seq (.seq (.reg false qa8n [1, 3]) (.block 0 (.loop qalg))) (.seq (.seq (.reg false qa8i [1, 4]) (.block 2 (.loop qalf))) (.seq (.seq (.reg false qa0c [1, 5]) (.block 4 (.loop qald))) (.seq (.seq (.reg false qaz2 [1, 7]) (.block 8 (.loop qalc))) (.seq (.seq (.reg false qazx [1, 8]) (.block 10 (.loop qalb))) (.seq (.reg false qazs [2]) .ret))))))))
theorem qamw : comp Try.prog 177 ((Try.f8.body).getD .skip) = some c_gplan.erase := by kernel_rfl
end Go.Proofs.Ytnfjldobjgdiaaa
namespace Go.Proofs.Ytnfjldobjgdiaaa
set_option linter.all false
open Go.RowKit
abbrev qa37 : List SOper := [Oa 4 (.mv (.c (.bool false)))]
abbrev qa36 : List SOper := [Oa 6 (.mv (.t 0)), Oa 7 (.len false (.t 6)), Oa 8 (.mv (.t 1)), Oa 9 (.len false (.t 8)), Oa 10 (.bin .neq (.t 7) (.t 9))]
abbrev qa35 : List SOper := [Oa 4 (.mv (.c (.bool false)))]
abbrev qa34 : List SOper := [Oa 5 (.mv (.c (.int .i64 0)))]
abbrev qa33 : List SOper := [Oa 11 (.mv (.t 5)), Oa 12 (.mv (.t 0)), Oa 13 (.len false (.t 12)), Oa 14 (.bin .lss (.t 11) (.t 13))]
abbrev qa32 : List SOper := [Oa 17 (.mv (.t 0)), Oa 18 (.mv (.t 5)), Od 19 (.iaddr 1 (.t 17) (.t 18)) 3, Od 20 (.load (.t 19)) 7, Oa 21 (.mv (.t 1)), Oa 22 (.mv (.t 5)), Od 23 (.iaddr 1 (.t 21) (.t 22)) 48, Od 24 (.load (.t 23)) 112, Od 25 (.bin .neq (.t 20) (.t 24)) 255]
abbrev qa31 : List SOper := [Oa 4 (.mv (.c (.bool false)))]
abbrev qa30 : List SOper := [Oa 15 (.mv (.t 5)), Oa 16 (.bin .add (.t 15) (.c (.int .i64 1))), Oa 5 (.mv (.t 16))]
def qakf : SCode := (.seq (.seq (.reg false qa33 [0, 1, 5, 14]) (.cond (.t 14) .skip (.exit 0))) (.seq (.block 1 (.seq (.reg true qa32 [0, 1, 5, 25]) (.cond (.t 25) (.seq (.reg false qa31 [4]) .ret) .skip))) (.reg false qa30 [0, 1, 5])))
abbrev qa3z : List SOper := [Oa 4 (.mv (.c (.bool true)))]
def c_sints : SCode := (.seq (.reg false qa37 [0, 1]) (.seq (.seq (.reg false qa36 [0, 1, 10]) (.cond (.t 10) (.seq (.reg false qa35 [4]) .ret) .skip)) (.seq (.seq (.reg false qa34 [0, 1, 5]) (.block 0 (.loop qakf))) (.seq (.reg false qa3z [4]) .ret))))
theorem qamb : comp Try.prog 26 ((Try.f11.body).getD .skip) = some c_sints.erase := by kernel_rfl
end Go.Proofs.Ytnfjldobjgdiaaa
namespace Go.Proofs.Ytnfjldobjgdiaaa
set_option linter.all false
open Go.RowKit
attribute [local simp] qabg qabf qaas qaaz qaat qaay qabd qabe qaao qabn SOp.run SX.ev putd puts argS upds SOp.touch SSt.keep SSt.skip gets geth puth delh idOf SV.cells? setL qac5 qac6 sbin eq0 eq1 eqL qac4 qab1 qab2 qaap qabh qaag qabi qabo qaai qaaq FrzOk qaa9 qaa3 qaa7 qaa8 qaau qaa2 qabl qaa4 qaaw qaba qaav frzS frzH frz frz1 frz0 SlotsM ObjsM ObjM rn ren ren1 ren0 qabu qaca qacf qabt qabm qacg qace CoL qabb qach dels adds idsH qab3
attribute [local simp] qads refc qae3 qaet qacc opc actc tabc qad7 qacu nums
theorem qaiw (l : List Int) (hl : l.length ≤ 1000000) (q : Nat) : SCalls Try.prog 11 [nums .i64 l, nums .i64 l] [] q (.bool true) [] := by
 refine qabj ?_ (fun _ => rfl) (fun _ => rfl) rfl q
 refine qaax (N := 26) Try.func11 rfl rfl (by kernel_rfl) qamb (by simp) (by repeat' (first | exact trivial | refine And.intro ?_ ?_ | rfl | decide | exact PureR.ren _)) (by repeat' (first | exact trivial | refine And.intro ?_ ?_ | rfl | decide | exact PureR.ren _)) ?_
 rintro X hP hN hm
 unfold c_sints
 repeat' (first | (with_reducible refine zA ?_) | ((with_reducible refine qaac ?_); (try rw [hP]); simp -implicitDefEqProofs [*]) | ((with_reducible refine qaaf ?_); (try simp -implicitDefEqProofs [*])) | ((with_reducible refine qaaa rfl (fun h => ?_) (fun h => ?_)) <;> have h' := h <;> (try simp at h') <;> (try subst h')) | fail)
 refine qaal (qaa5 (fun s (i : Nat) => s.turn [(5, .int .i64 i)] []) (fun i => i ≤ l.length) (fun i => l.length - i) 0 ?_ (by simp) ?_)
 ·repeat' (first | ((with_reducible refine qaah [] hm ?_ ?_ ?_ ?_) <;> (try simp only [zT, puth, Nat.reduceEqDiff, reduceIte, Nat.reduceAdd])) | (with_reducible refine za ?_ ?_) | (with_reducible first | exact qaab | exact qaad) | ((with_reducible refine zgb ?_); rfl) | ((with_reducible refine zgd ?_); (first | omega | (simp; done))) | (exact Co.refl _) | fail)
 rintro J hJ i h1
 unfold qakf
 simp only [zT, puth, Nat.reduceEqDiff, reduceIte, Nat.reduceAdd] at h1 ⊢
 rcases Nat.lt_or_ge i l.length with hi | hi
 ·have wi : IntKind.i64.wrap ((i : Int) + 1) = (i : Int) + 1 := qaar (by omega) (by omega)
  generalize hxx : l[i] = x
  repeat' (first | (with_reducible first | refine zA ?_ | refine qaae ?_ | refine zK ?_) | ((with_reducible first | refine qaac ?_ | refine qaa1 (by rw [hP]; exact qacx) ?_); (try rw [hP]); simp -implicitDefEqProofs [*]) | ((with_reducible refine qaaf ?_); (try simp -implicitDefEqProofs [*])) | ((with_reducible refine qaaa rfl (fun h => ?_) (fun h => ?_)) <;> have h' := h <;> (try simp at h') <;> (try subst h')) | (with_reducible refine za ?_ ?_) | (with_reducible first | exact qaab | exact qaad) | ((with_reducible refine zgb ?_); rfl) | ((with_reducible first | refine zgd ?_ | refine zge ?_); (first | omega | (simp; done))) | (exact Co.refl _) | ((refine qaaj hJ (i + 1) ?_ ?_ ?_; (with_reducible refine qaah [] hm ?_ ?_ ?_ ?_) <;> (try simp only [zT, puth, Nat.reduceEqDiff, reduceIte, Nat.reduceAdd]))) | fail)
  all_goals omega
 ·obtain rfl : i = l.length := by omega
  repeat' (first | (with_reducible refine zA ?_) | ((with_reducible refine qaac ?_); (try rw [hP]); simp -implicitDefEqProofs [*]) | ((with_reducible refine qaak ?_); (try simp -implicitDefEqProofs [*])) | ((with_reducible refine qaam ?_); (try simp only [qaap, qaag, qaai])) | ((with_reducible refine qaaa rfl (fun h => ?_) (fun h => ?_)) <;> have h' := h <;> (try simp at h') <;> (try subst h')) | (with_reducible refine zN hm ?_) | fail)
  all_goals rfl
theorem qbb4 (l : List Int) (hl : l.length ≤ 1000000) (q : Nat) : SCalls Try.prog 27 [nums .u64 l, nums .u64 l] [] q (.bool true) [] := by
 have := qabj (snums_s l l hl) (fun _ => rfl) (fun _ => rfl) rfl q
 rwa [decide_eq_true rfl] at this
theorem qba7 (l : List PushD) (hl : l.length ≤ 1000000) (q : Nat) : SCalls Try.prog 74 [qabz l, qabz l, .bool false] [] q (.bool true) [] := by
 refine qabj ?_ (fun _ => rfl) (fun _ => rfl) rfl q
 refine qaax (N := 66) Try.func74 rfl rfl (by kernel_rfl) qal7 (by simp) (by repeat' (first | exact trivial | refine And.intro ?_ ?_ | rfl | decide | exact PureR.ren _)) (by repeat' (first | exact trivial | refine And.intro ?_ ?_ | rfl | decide | exact PureR.ren _)) ?_
 rintro X hP hN hm
 unfold c_stree
 repeat' (first | (with_reducible refine zA ?_) | ((with_reducible refine qaac ?_); (try rw [hP]); simp -implicitDefEqProofs [qabz, *]) | ((with_reducible refine qaaf ?_); (try simp -implicitDefEqProofs [qabz, *])) | ((with_reducible refine qaaa rfl (fun h => ?_) (fun h => ?_)) <;> have h' := h <;> (try simp at h') <;> (try subst h')) | fail)
 refine qaal (qaa5 (fun s (i : Nat) => s.turn [(7, .int .i64 i)] []) (fun i => i ≤ l.length) (fun i => l.length - i) 0 ?_ (by simp) ?_)
 ·repeat' (first | ((with_reducible refine qaah [] hm ?_ ?_ ?_ ?_) <;> (try simp only [zT, puth, Nat.reduceEqDiff, reduceIte, Nat.reduceAdd])) | (with_reducible refine za ?_ ?_) | (with_reducible first | exact qaab | exact qaad) | ((with_reducible refine zgb ?_); rfl) | ((with_reducible refine zgd ?_); (first | omega | (simp; done))) | (exact Co.refl _) | fail)
 rintro J hJ i h1
 unfold qajy
 simp only [zT, puth, Nat.reduceEqDiff, reduceIte, Nat.reduceAdd] at h1 ⊢
 rcases Nat.lt_or_ge i l.length with hi | hi
 ·have wi : IntKind.i64.wrap ((i : Int) + 1) = (i : Int) + 1 := qaar (by omega) (by omega)
  generalize hxx : l[i] = x
  repeat' (first | (with_reducible first | refine zA ?_ | refine qaae ?_ | refine zK ?_) | ((with_reducible first | refine qaac ?_ | refine qaa1 (by rw [hP]; exact qacx) ?_); (try rw [hP]); simp -implicitDefEqProofs [*]) | ((with_reducible refine qaaf ?_); (try simp -implicitDefEqProofs [*])) | ((with_reducible refine qaaa rfl (fun h => ?_) (fun h => ?_)) <;> have h' := h <;> (try simp at h') <;> (try subst h')) | (with_reducible refine za ?_ ?_) | (with_reducible first | exact qaab | exact qaad) | ((with_reducible refine zgb ?_); rfl) | ((with_reducible first | refine zgd ?_ | refine zge ?_); (first | omega | (simp; done))) | (exact Co.refl _) | ((refine qaaj hJ (i + 1) ?_ ?_ ?_; (with_reducible refine qaah [] hm ?_ ?_ ?_ ?_) <;> (try simp only [zT, puth, Nat.reduceEqDiff, reduceIte, Nat.reduceAdd]))) | fail)
  all_goals omega
 ·obtain rfl : i = l.length := by omega
  repeat' (first | (with_reducible refine zA ?_) | ((with_reducible refine qaac ?_); (try rw [hP]); simp -implicitDefEqProofs [*]) | ((with_reducible refine qaak ?_); (try simp -implicitDefEqProofs [*])) | ((with_reducible refine qaam ?_); (try simp only [qaap, qaag, qaai])) | ((with_reducible refine qaaa rfl (fun h => ?_) (fun h => ?_)) <;> have h' := h <;> (try simp at h') <;> (try subst h')) | (with_reducible refine zN hm ?_) | fail)
  all_goals rfl
theorem qbb3 (s : StateD) (hl : s.cases_.length ≤ 1000000) (q : Nat) : SCalls Try.prog 47 [.agg (qacc s), .agg (qacc s), .bool false] [] q (.bool true) [] := by
 refine qabj ?_ (fun _ => rfl) (fun _ => rfl) rfl q
 refine qaax (N := 64) Try.func47 rfl rfl (by kernel_rfl) qajk (by simp) (by repeat' (first | exact trivial | refine And.intro ?_ ?_ | rfl | decide | exact PureR.ren _)) (by repeat' (first | exact trivial | refine And.intro ?_ ?_ | rfl | decide | exact PureR.ren _)) ?_
 rintro X hP hN hm
 unfold c_sstate
 repeat' (first | (with_reducible refine zA ?_) | ((with_reducible refine qaac ?_); (try rw [hP]); simp -implicitDefEqProofs [*]) | ((with_reducible refine qaaf ?_); (try simp -implicitDefEqProofs [*])) | ((with_reducible refine qaaa rfl (fun h => ?_) (fun h => ?_)) <;> have h' := h <;> (try simp at h') <;> (try subst h')) | fail)
 refine qaal (qaa5 (fun σ (i : Nat) => σ.turn [(7, .int .i64 i)] []) (fun i => i ≤ s.cases_.length) (fun i => s.cases_.length - i) 0 ?_ (by simp) ?_)
 ·repeat' (first | ((with_reducible refine qaah [] hm ?_ ?_ ?_ ?_) <;> (try simp only [zT, puth, Nat.reduceEqDiff, reduceIte, Nat.reduceAdd])) | (with_reducible first | refine za ?_ ?_ | refine zb ?_ ?_ ?_ ?_) | (with_reducible first | exact qaab | exact qaad) | ((with_reducible first | refine zga ?_ | refine zgb ?_); rfl) | ((with_reducible refine zgd ?_); (first | omega | (simp; done))) | (exact Co.refl _) | (exact CoL.refl _) | fail)
 rintro J hJ i h1
 unfold qaht
 simp only [zT, puth, Nat.reduceEqDiff, reduceIte, Nat.reduceAdd] at h1 ⊢
 rcases Nat.lt_or_ge i s.cases_.length with hi | hi
 ·have wi : IntKind.i64.wrap ((i : Int) + 1) = (i : Int) + 1 := qaar (by omega) (by omega)
  generalize hxx : s.cases_[i] = x
  repeat' (first | (with_reducible first | refine zA ?_ | refine qaae ?_ | refine zK ?_) | ((with_reducible first | refine qaac ?_ | refine qaa1 (by rw [hP]; exact qacx) ?_); (try rw [hP]); simp -implicitDefEqProofs [*]) | ((with_reducible refine qaaf ?_); (try simp -implicitDefEqProofs [*])) | ((with_reducible refine qaaa rfl (fun h => ?_) (fun h => ?_)) <;> have h' := h <;> (try simp at h') <;> (try subst h')) | (with_reducible first | refine za ?_ ?_ | refine zb ?_ ?_ ?_ ?_) | (with_reducible first | exact qaab | exact qaad) | ((with_reducible first | refine zga ?_ | refine zgb ?_); rfl) | ((with_reducible first | refine zgd ?_ | refine zge ?_); (first | omega | (simp; done))) | (exact Co.refl _) | (exact CoL.refl _) | ((refine qaaj hJ (i + 1) ?_ ?_ ?_; (with_reducible refine qaah [] hm ?_ ?_ ?_ ?_) <;> (try simp only [zT, puth, Nat.reduceEqDiff, reduceIte, Nat.reduceAdd]))) | fail)
  all_goals omega
 ·obtain rfl : i = s.cases_.length := by omega
  repeat' (first | (with_reducible refine zA ?_) | ((with_reducible refine qaac ?_); (try rw [hP]); simp -implicitDefEqProofs [*]) | ((with_reducible refine qaak ?_); (try simp -implicitDefEqProofs [*])) | ((with_reducible refine qaam ?_); (try simp only [qaap, qaag, qaai])) | ((with_reducible refine qaaa rfl (fun h => ?_) (fun h => ?_)) <;> have h' := h <;> (try simp at h') <;> (try subst h')) | (with_reducible refine zN hm ?_) | fail)
  all_goals rfl
theorem sop_s (o : OpD) (hl : o.e.length ≤ 1000000) (q : Nat) : SCalls Try.prog 48 [.agg (opc o), .agg (opc o), .bool false] [] q (.bool true) [] := by
 refine qabj ?_ (fun _ => rfl) (fun _ => rfl) rfl q
 refine qaax (N := 90) Try.func48 rfl rfl (by kernel_rfl) qa13 (by simp) (by repeat' (first | exact trivial | refine And.intro ?_ ?_ | rfl | decide | exact PureR.ren _)) (by repeat' (first | exact trivial | refine And.intro ?_ ?_ | rfl | decide | exact PureR.ren _)) ?_
 rintro X hP hN hm
 unfold c_sop
 repeat' (first | (with_reducible refine zA ?_) | ((with_reducible refine qaac ?_); (try rw [hP]); simp -implicitDefEqProofs [*]) | ((with_reducible refine qaam ?_); (try simp only [qaap, qaag, qaai])) | (refine qaa0 (qba7 o.e hl _) ?_; simp -implicitDefEqProofs [*]) | (with_reducible refine zN hm ?_) | fail)
 all_goals rfl
theorem snode_s (o : NodeD) (hl : o.e.length ≤ 1000000) (q : Nat) : SCalls Try.prog 50 [.agg (qad7 o), .agg (qad7 o), .bool false] [] q (.bool true) [] := by
 refine qabj ?_ (fun _ => rfl) (fun _ => rfl) rfl q
 refine qaax (N := 82) Try.func50 rfl rfl (by kernel_rfl) qama (by simp) (by repeat' (first | exact trivial | refine And.intro ?_ ?_ | rfl | decide | exact PureR.ren _)) (by repeat' (first | exact trivial | refine And.intro ?_ ?_ | rfl | decide | exact PureR.ren _)) ?_
 rintro X hP hN hm
 unfold c_snode
 repeat' (first | (with_reducible refine zA ?_) | ((with_reducible refine qaac ?_); (try rw [hP]); simp -implicitDefEqProofs [*]) | ((with_reducible refine qaam ?_); (try simp only [qaap, qaag, qaai])) | (refine qaa0 (qba7 o.e hl _) ?_; simp -implicitDefEqProofs [*]) | (with_reducible refine zN hm ?_) | fail)
 all_goals rfl
theorem qbb2 (t : TabD) (h1 : t.keys.length ≤ 1000000) (h2 : t.acts.length ≤ 1000000) (h3 : t.args.length ≤ 1000000) (q : Nat) : SCalls Try.prog 49 [.agg (tabc t), .agg (tabc t)] [] q (.bool true) [] := by
 refine qabj ?_ (fun _ => rfl) (fun _ => rfl) rfl q
 refine qaax (N := 64) Try.func49 rfl rfl (by kernel_rfl) qajj (by simp) (by repeat' (first | exact trivial | refine And.intro ?_ ?_ | rfl | decide | exact PureR.ren _)) (by repeat' (first | exact trivial | refine And.intro ?_ ?_ | rfl | decide | exact PureR.ren _)) ?_
 rintro X hP hN hm
 unfold c_stable
 repeat' (first | (with_reducible refine zA ?_) | ((with_reducible refine qaac ?_); (try rw [hP]); simp -implicitDefEqProofs [*]) | ((with_reducible refine qaaf ?_); (try simp -implicitDefEqProofs [*])) | ((with_reducible refine qaaa rfl (fun h => ?_) (fun h => ?_)) <;> have h' := h <;> (try simp at h') <;> (try subst h')) | fail)
 refine qaal (qaa5 (fun s (i : Nat) => s.turn [(5, .int .i64 i)] []) (fun i => i ≤ t.keys.length) (fun i => t.keys.length - i) 0 ?_ (by simp) ?_)
 ·repeat' (first | ((with_reducible refine qaah [] hm ?_ ?_ ?_ ?_) <;> (try simp only [zT, puth, Nat.reduceEqDiff, reduceIte, Nat.reduceAdd])) | (with_reducible first | refine za ?_ ?_ | refine zb ?_ ?_ ?_ ?_) | (with_reducible first | exact qaab | exact qaad) | ((with_reducible first | refine zga ?_ | refine zgb ?_); rfl) | ((with_reducible refine zgd ?_); (first | omega | (simp; done))) | (exact Co.refl _) | (exact CoL.refl _) | fail)
 rintro J hJ i h1
 unfold qahs
 simp only [zT, puth, Nat.reduceEqDiff, reduceIte, Nat.reduceAdd] at h1 ⊢
 rcases Nat.lt_or_ge i t.keys.length with hi | hi
 ·have wi : IntKind.i64.wrap ((i : Int) + 1) = (i : Int) + 1 := qaar (by omega) (by omega)
  generalize hxx : t.keys[i] = x
  repeat' (first | (with_reducible first | refine zA ?_ | refine qaae ?_ | refine zK ?_) | ((with_reducible first | refine qaac ?_ | refine qaa1 (by rw [hP]; exact qacx) ?_); (try rw [hP]); simp -implicitDefEqProofs [*]) | ((with_reducible refine qaaf ?_); (try simp -implicitDefEqProofs [*])) | ((with_reducible refine qaaa rfl (fun h => ?_) (fun h => ?_)) <;> have h' := h <;> (try simp at h') <;> (try subst h')) | (with_reducible first | refine za ?_ ?_ | refine zb ?_ ?_ ?_ ?_) | (with_reducible first | exact qaab | exact qaad) | ((with_reducible first | refine zga ?_ | refine zgb ?_); rfl) | ((with_reducible first | refine zgd ?_ | refine zge ?_); (first | omega | (simp; done))) | (exact Co.refl _) | (exact CoL.refl _) | ((refine qaaj hJ (i + 1) ?_ ?_ ?_; (with_reducible refine qaah [] hm ?_ ?_ ?_ ?_) <;> (try simp only [zT, puth, Nat.reduceEqDiff, reduceIte, Nat.reduceAdd]))) | fail)
  all_goals omega
 ·obtain rfl : i = t.keys.length := by omega
  repeat' (first | (with_reducible refine zA ?_) | ((with_reducible refine qaac ?_); (try rw [hP]); simp -implicitDefEqProofs [*]) | ((with_reducible refine qaak ?_); (try simp -implicitDefEqProofs [*])) | ((with_reducible refine qaam ?_); (try simp only [qaap, qaag, qaai])) | ((with_reducible refine qaaa rfl (fun h => ?_) (fun h => ?_)) <;> have h' := h <;> (try simp at h') <;> (try subst h')) | ((first | refine qaa0 (qaiw t.acts h2 _) ?_ | refine qaa0 (qbb4 t.args h3 _) ?_); simp -implicitDefEqProofs [*]) | (with_reducible refine zN hm ?_) | fail)
  all_goals rfl
set_option maxHeartbeats 4000000 in
theorem splan_s (p : PlanD) (hs : SmallP p) (q : Nat) : SCalls Try.prog 19 [.agg (qacu p), .agg (qacu p), .bool false] [] q (.bool true) [] := by
 refine qabj ?_ (fun _ => rfl) (fun _ => rfl) rfl q
 refine qaax (N := 206) Try.func19 rfl rfl (by kernel_rfl) qal8 (by simp) (by repeat' (first | exact trivial | refine And.intro ?_ ?_ | rfl | decide | exact PureR.ren _)) (by repeat' (first | exact trivial | refine And.intro ?_ ?_ | rfl | decide | exact PureR.ren _)) ?_
 rintro X hP hN hm
 have hl1 := hs.heads
 have hl2 := hs.metas
 have hl3 := hs.states
 have hl4 := hs.acts
 have hl5 := hs.tabs
 have hl6 := hs.nodes
 have hl7 := hs.outs
 unfold c_splan
 repeat' (first | (with_reducible refine zA ?_) | ((with_reducible refine qaac ?_); (try rw [hP]); simp -implicitDefEqProofs [*]) | ((with_reducible refine qaaf ?_); (try simp -implicitDefEqProofs [*])) | ((with_reducible refine qaaa rfl (fun h => ?_) (fun h => ?_)) <;> have h' := h <;> (try simp at h') <;> (try subst h')) | ((first | refine qaa0 (qaiw p.meta_ (by omega) _) ?_ | refine qaa0 (qaiw p.out (by omega) _) ?_); simp -implicitDefEqProofs [*]) | fail)
 refine qaal (qaa5 (fun s (i : Nat) => s.turn [(7, .int .i64 i)] []) (fun i => i ≤ p.heads.length) (fun i => p.heads.length - i) 0 ?_ (by simp) ?_)
 ·repeat' (first | ((with_reducible refine qaah [] hm ?_ ?_ ?_ ?_) <;> (try simp only [zT, puth, Nat.reduceEqDiff, reduceIte, Nat.reduceAdd])) | (with_reducible first | refine za ?_ ?_ | refine zb ?_ ?_ ?_ ?_) | (with_reducible first | exact qaab | exact qaad) | ((with_reducible first | refine zga ?_ | refine zgb ?_); rfl) | ((with_reducible refine zgd ?_); (first | omega | (simp; done))) | (exact Co.refl _) | (exact CoL.refl _) | fail)
 rintro J hJ i h1
 unfold qaj4
 simp only [zT, puth, Nat.reduceEqDiff, reduceIte, Nat.reduceAdd] at h1 ⊢
 rcases Nat.lt_or_ge i p.heads.length with hi | hi
 ·have wi : IntKind.i64.wrap ((i : Int) + 1) = (i : Int) + 1 := qaar (by omega) (by omega)
  have hc := fun q => qaiw p.heads[i].w (by have := hs.headW _ (List.getElem_mem hi); omega) q
  replace hc := Lib.hid hc
  generalize hxx : p.heads[i] = x at hc
  repeat' (first | (with_reducible first | refine zA ?_ | refine qaae ?_ | refine zK ?_) | ((with_reducible first | refine qaac ?_ | refine qaa1 (by rw [hP]; exact qacx) ?_); (try rw [hP]); simp -implicitDefEqProofs [*]) | ((with_reducible refine qaaf ?_); (try simp -implicitDefEqProofs [*])) | ((with_reducible refine qaaa rfl (fun h => ?_) (fun h => ?_)) <;> have h' := h <;> (try simp at h') <;> (try subst h')) | (refine qaa0 (hc.out _) ?_; simp -implicitDefEqProofs [*]) | (with_reducible first | refine za ?_ ?_ | refine zb ?_ ?_ ?_ ?_) | (with_reducible first | exact qaab | exact qaad) | ((with_reducible first | refine zga ?_ | refine zgb ?_); rfl) | ((with_reducible first | refine zgd ?_ | refine zge ?_); (first | omega | (simp; done))) | (exact Co.refl _) | (exact CoL.refl _) | ((refine qaaj hJ (i + 1) ?_ ?_ ?_; (with_reducible refine qaah [] hm ?_ ?_ ?_ ?_) <;> (try simp only [zT, puth, Nat.reduceEqDiff, reduceIte, Nat.reduceAdd]))) | fail)
  all_goals omega
 ·obtain rfl : i = p.heads.length := by omega
  clear hJ h1 hi
  repeat' (first | (with_reducible refine zA ?_) | ((with_reducible refine qaac ?_); (try rw [hP]); simp -implicitDefEqProofs [*]) | ((with_reducible refine qaak ?_); (try simp -implicitDefEqProofs [*])) | ((with_reducible refine qaaa rfl (fun h => ?_) (fun h => ?_)) <;> have h' := h <;> (try simp at h') <;> (try subst h')) | fail)
  refine qaal (qaa5 (fun s (i : Nat) => s.turn [(8, .int .i64 i)] []) (fun i => i ≤ p.states.length) (fun i => p.states.length - i) 0 ?_ (by simp) ?_)
  ·repeat' (first | ((with_reducible refine qaah [] hm ?_ ?_ ?_ ?_) <;> (try simp only [zT, puth, Nat.reduceEqDiff, reduceIte, Nat.reduceAdd])) | (with_reducible first | refine za ?_ ?_ | refine zb ?_ ?_ ?_ ?_) | (with_reducible first | exact qaab | exact qaad) | ((with_reducible first | refine zga ?_ | refine zgb ?_); rfl) | ((with_reducible refine zgd ?_); (first | omega | (simp; done))) | (exact Co.refl _) | (exact CoL.refl _) | fail)
  rintro J hJ i h1
  unfold qaj3
  simp only [zT, puth, Nat.reduceEqDiff, reduceIte, Nat.reduceAdd] at h1 ⊢
  rcases Nat.lt_or_ge i p.states.length with hi | hi
  ·have wi : IntKind.i64.wrap ((i : Int) + 1) = (i : Int) + 1 := qaar (by omega) (by omega)
   have hc := fun q => qbb3 p.states[i] (by have := hs.cases_ _ (List.getElem_mem hi); omega) q
   replace hc := Lib.hid hc
   generalize hxx : p.states[i] = x at hc
   repeat' (first | (with_reducible first | refine zA ?_ | refine qaae ?_ | refine zK ?_) | ((with_reducible first | refine qaac ?_ | refine qaa1 (by rw [hP]; exact qacx) ?_); (try rw [hP]); simp -implicitDefEqProofs [*]) | ((with_reducible refine qaaf ?_); (try simp -implicitDefEqProofs [*])) | ((with_reducible refine qaaa rfl (fun h => ?_) (fun h => ?_)) <;> have h' := h <;> (try simp at h') <;> (try subst h')) | (refine qaa0 (hc.out _) ?_; simp -implicitDefEqProofs [*]) | (with_reducible first | refine za ?_ ?_ | refine zb ?_ ?_ ?_ ?_) | (with_reducible first | exact qaab | exact qaad) | ((with_reducible first | refine zga ?_ | refine zgb ?_); rfl) | ((with_reducible first | refine zgd ?_ | refine zge ?_); (first | omega | (simp; done))) | (exact Co.refl _) | (exact CoL.refl _) | ((refine qaaj hJ (i + 1) ?_ ?_ ?_; (with_reducible refine qaah [] hm ?_ ?_ ?_ ?_) <;> (try simp only [zT, puth, Nat.reduceEqDiff, reduceIte, Nat.reduceAdd]))) | fail)
   all_goals omega
  ·obtain rfl : i = p.states.length := by omega
   clear hJ h1 hi
   repeat' (first | (with_reducible refine zA ?_) | ((with_reducible refine qaac ?_); (try rw [hP]); simp -implicitDefEqProofs [*]) | ((with_reducible refine qaak ?_); (try simp -implicitDefEqProofs [*])) | ((with_reducible refine qaaa rfl (fun h => ?_) (fun h => ?_)) <;> have h' := h <;> (try simp at h') <;> (try subst h')) | fail)
   refine qaal (qaa5 (fun s (i : Nat) => s.turn [(9, .int .i64 i)] []) (fun i => i ≤ p.acts.length) (fun i => p.acts.length - i) 0 ?_ (by simp) ?_)
   ·repeat' (first | ((with_reducible refine qaah [] hm ?_ ?_ ?_ ?_) <;> (try simp only [zT, puth, Nat.reduceEqDiff, reduceIte, Nat.reduceAdd])) | (with_reducible first | refine za ?_ ?_ | refine zb ?_ ?_ ?_ ?_) | (with_reducible first | exact qaab | exact qaad) | ((with_reducible first | refine zga ?_ | refine zgb ?_); rfl) | ((with_reducible refine zgd ?_); (first | omega | (simp; done))) | (exact Co.refl _) | (exact CoL.refl _) | fail)
   rintro J hJ i h1
   have hJo := hJ
   unfold qaj1
   simp only [zT, puth, Nat.reduceEqDiff, reduceIte, Nat.reduceAdd] at h1 ⊢
   rcases Nat.lt_or_ge i p.acts.length with hi | hi
   ·have wi : IntKind.i64.wrap ((i : Int) + 1) = (i : Int) + 1 := qaar (by omega) (by omega)
    have hc := fun q => qaiw p.acts[i].w (by have := hs.actW _ (List.getElem_mem hi); omega) q
    have hol := hs.ops _ (List.getElem_mem hi)
    have htl := hs.tree _ (List.getElem_mem hi)
    replace hc := Lib.hid hc
    generalize hxx : p.acts[i] = x at hc hol htl
    replace htl := Lib.hid htl
    repeat' (first | (with_reducible first | refine zA ?_ | refine qaae ?_ | refine zK ?_) | ((with_reducible first | refine qaac ?_ | refine qaa1 (by rw [hP]; exact qacx) ?_); (try rw [hP]); simp -implicitDefEqProofs [*]) | ((with_reducible refine qaaf ?_); (try simp -implicitDefEqProofs [*])) | ((with_reducible refine qaaa rfl (fun h => ?_) (fun h => ?_)) <;> have h' := h <;> (try simp at h') <;> (try subst h')) | (refine qaa0 (hc.out _) ?_; simp -implicitDefEqProofs [*]) | fail)
    refine qaal (qaa5 (fun s (k : Nat) => s.turn [(12, .int .i64 k)] []) (fun k => k ≤ x.ops.length) (fun k => x.ops.length - k) 0 ?_ (by simp) ?_)
    ·repeat' (first | ((with_reducible refine qaah [] hm ?_ ?_ ?_ ?_) <;> (try simp only [zT, puth, Nat.reduceEqDiff, reduceIte, Nat.reduceAdd])) | (with_reducible first | refine za ?_ ?_ | refine zb ?_ ?_ ?_ ?_) | (with_reducible first | exact qaab | exact qaad) | ((with_reducible first | refine zga ?_ | refine zgb ?_); rfl) | ((with_reducible refine zgd ?_); (first | omega | (simp; done))) | (exact Co.refl _) | (exact CoL.refl _) | fail)
    rintro J hJ k h2
    unfold qaj2
    simp only [zT, puth, Nat.reduceEqDiff, reduceIte, Nat.reduceAdd] at h2 ⊢
    rcases Nat.lt_or_ge k x.ops.length with hk | hk
    ·have wj : IntKind.i64.wrap ((k : Int) + 1) = (k : Int) + 1 := qaar (by omega) (by omega)
     have hc2 := fun q => sop_s x.ops[k] (by have := htl.out _ (List.getElem_mem hk); omega) q
     replace hc2 := Lib.hid hc2
     generalize hyy : x.ops[k] = y at hc2
     repeat' (first | (with_reducible first | refine zA ?_ | refine qaae ?_ | refine zK ?_) | ((with_reducible first | refine qaac ?_ | refine qaa1 (by rw [hP]; exact qacx) ?_); (try rw [hP]); simp -implicitDefEqProofs [*]) | ((with_reducible refine qaaf ?_); (try simp -implicitDefEqProofs [*])) | ((with_reducible refine qaaa rfl (fun h => ?_) (fun h => ?_)) <;> have h' := h <;> (try simp at h') <;> (try subst h')) | (refine qaa0 (hc2.out _) ?_; simp -implicitDefEqProofs [*]) | (with_reducible first | refine za ?_ ?_ | refine zb ?_ ?_ ?_ ?_) | (with_reducible first | exact qaab | exact qaad) | ((with_reducible first | refine zga ?_ | refine zgb ?_); rfl) | ((with_reducible first | refine zgd ?_ | refine zge ?_); (first | omega | (simp; done))) | (exact Co.refl _) | (exact CoL.refl _) | ((refine qaaj hJ (k + 1) ?_ ?_ ?_; (with_reducible refine qaah [] hm ?_ ?_ ?_ ?_) <;> (try simp only [zT, puth, Nat.reduceEqDiff, reduceIte, Nat.reduceAdd]))) | fail)
     all_goals omega
    ·obtain rfl : k = x.ops.length := by omega
     repeat' (first | (with_reducible refine zA ?_) | ((with_reducible refine qaac ?_); (try rw [hP]); simp -implicitDefEqProofs [*]) | ((with_reducible refine qaak ?_); (try simp -implicitDefEqProofs [*])) | ((with_reducible refine qaaa rfl (fun h => ?_) (fun h => ?_)) <;> have h' := h <;> (try simp at h') <;> (try subst h')) | (with_reducible first | refine za ?_ ?_ | refine zb ?_ ?_ ?_ ?_) | (with_reducible first | exact qaab | exact qaad) | ((with_reducible first | refine zga ?_ | refine zgb ?_); rfl) | ((with_reducible first | refine zgd ?_ | refine zge ?_); (first | omega | (simp; done))) | (exact Co.refl _) | (exact CoL.refl _) | ((refine qaaj hJo (i + 1) ?_ ?_ ?_; (with_reducible refine qaah [] hm ?_ ?_ ?_ ?_) <;> (try simp only [zT, puth, Nat.reduceEqDiff, reduceIte, Nat.reduceAdd]))) | fail)
     all_goals omega
   ·obtain rfl : i = p.acts.length := by omega
    clear hJ hJo h1 hi
    repeat' (first | (with_reducible refine zA ?_) | ((with_reducible refine qaac ?_); (try rw [hP]); simp -implicitDefEqProofs [*]) | ((with_reducible refine qaak ?_); (try simp -implicitDefEqProofs [*])) | ((with_reducible refine qaaa rfl (fun h => ?_) (fun h => ?_)) <;> have h' := h <;> (try simp at h') <;> (try subst h')) | fail)
    refine qaal (qaa5 (fun s (i : Nat) => s.turn [(13, .int .i64 i)] []) (fun i => i ≤ p.tabs.length) (fun i => p.tabs.length - i) 0 ?_ (by simp) ?_)
    ·repeat' (first | ((with_reducible refine qaah [] hm ?_ ?_ ?_ ?_) <;> (try simp only [zT, puth, Nat.reduceEqDiff, reduceIte, Nat.reduceAdd])) | (with_reducible first | refine za ?_ ?_ | refine zb ?_ ?_ ?_ ?_) | (with_reducible first | exact qaab | exact qaad) | ((with_reducible first | refine zga ?_ | refine zgb ?_); rfl) | ((with_reducible refine zgd ?_); (first | omega | (simp; done))) | (exact Co.refl _) | (exact CoL.refl _) | fail)
    rintro J hJ i h1
    unfold qaj0
    simp only [zT, puth, Nat.reduceEqDiff, reduceIte, Nat.reduceAdd] at h1 ⊢
    rcases Nat.lt_or_ge i p.tabs.length with hi | hi
    ·have wi : IntKind.i64.wrap ((i : Int) + 1) = (i : Int) + 1 := qaar (by omega) (by omega)
     have hc := fun q => qbb2 p.tabs[i] (by have := hs.keys _ (List.getElem_mem hi); omega) (by have := hs.keys _ (List.getElem_mem hi); omega) (by have := hs.keys _ (List.getElem_mem hi); omega) q
     replace hc := Lib.hid hc
     generalize hxx : p.tabs[i] = x at hc
     repeat' (first | (with_reducible first | refine zA ?_ | refine qaae ?_ | refine zK ?_) | ((with_reducible first | refine qaac ?_ | refine qaa1 (by rw [hP]; exact qacx) ?_); (try rw [hP]); simp -implicitDefEqProofs [*]) | ((with_reducible refine qaaf ?_); (try simp -implicitDefEqProofs [*])) | ((with_reducible refine qaaa rfl (fun h => ?_) (fun h => ?_)) <;> have h' := h <;> (try simp at h') <;> (try subst h')) | (refine qaa0 (hc.out _) ?_; simp -implicitDefEqProofs [*]) | (with_reducible first | refine za ?_ ?_ | refine zb ?_ ?_ ?_ ?_) | (with_reducible first | exact qaab | exact qaad) | ((with_reducible first | refine zga ?_ | refine zgb ?_); rfl) | ((with_reducible first | refine zgd ?_ | refine zge ?_); (first | omega | (simp; done))) | (exact Co.refl _) | (exact CoL.refl _) | ((refine qaaj hJ (i + 1) ?_ ?_ ?_; (with_reducible refine qaah [] hm ?_ ?_ ?_ ?_) <;> (try simp only [zT, puth, Nat.reduceEqDiff, reduceIte, Nat.reduceAdd]))) | fail)
     all_goals omega
    ·obtain rfl : i = p.tabs.length := by omega
     clear hJ h1 hi
     repeat' (first | (with_reducible refine zA ?_) | ((with_reducible refine qaac ?_); (try rw [hP]); simp -implicitDefEqProofs [*]) | ((with_reducible refine qaak ?_); (try simp -implicitDefEqProofs [*])) | ((with_reducible refine qaaa rfl (fun h => ?_) (fun h => ?_)) <;> have h' := h <;> (try simp at h') <;> (try subst h')) | fail)
     refine qaal (qaa5 (fun s (i : Nat) => s.turn [(14, .int .i64 i)] []) (fun i => i ≤ p.nodes.length) (fun i => p.nodes.length - i) 0 ?_ (by simp) ?_)
     ·repeat' (first | ((with_reducible refine qaah [] hm ?_ ?_ ?_ ?_) <;> (try simp only [zT, puth, Nat.reduceEqDiff, reduceIte, Nat.reduceAdd])) | (with_reducible first | refine za ?_ ?_ | refine zb ?_ ?_ ?_ ?_) | (with_reducible first | exact qaab | exact qaad) | ((with_reducible first | refine zga ?_ | refine zgb ?_); rfl) | ((with_reducible refine zgd ?_); (first | omega | (simp; done))) | (exact Co.refl _) | (exact CoL.refl _) | fail)
     rintro J hJ i h1
     unfold qajz
     simp only [zT, puth, Nat.reduceEqDiff, reduceIte, Nat.reduceAdd] at h1 ⊢
     rcases Nat.lt_or_ge i p.nodes.length with hi | hi
     ·have wi : IntKind.i64.wrap ((i : Int) + 1) = (i : Int) + 1 := qaar (by omega) (by omega)
      have hc := fun q => snode_s p.nodes[i] (by have := hs.node _ (List.getElem_mem hi); omega) q
      replace hc := Lib.hid hc
      generalize hxx : p.nodes[i] = x at hc
      repeat' (first | (with_reducible first | refine zA ?_ | refine qaae ?_ | refine zK ?_) | ((with_reducible first | refine qaac ?_ | refine qaa1 (by rw [hP]; exact qacx) ?_); (try rw [hP]); simp -implicitDefEqProofs [*]) | ((with_reducible refine qaaf ?_); (try simp -implicitDefEqProofs [*])) | ((with_reducible refine qaaa rfl (fun h => ?_) (fun h => ?_)) <;> have h' := h <;> (try simp at h') <;> (try subst h')) | (refine qaa0 (hc.out _) ?_; simp -implicitDefEqProofs [*]) | (with_reducible first | refine za ?_ ?_ | refine zb ?_ ?_ ?_ ?_) | (with_reducible first | exact qaab | exact qaad) | ((with_reducible first | refine zga ?_ | refine zgb ?_); rfl) | ((with_reducible first | refine zgd ?_ | refine zge ?_); (first | omega | (simp; done))) | (exact Co.refl _) | (exact CoL.refl _) | ((refine qaaj hJ (i + 1) ?_ ?_ ?_; (with_reducible refine qaah [] hm ?_ ?_ ?_ ?_) <;> (try simp only [zT, puth, Nat.reduceEqDiff, reduceIte, Nat.reduceAdd]))) | fail)
      all_goals omega
     ·obtain rfl : i = p.nodes.length := by omega
      repeat' (first | (with_reducible refine zA ?_) | ((with_reducible refine qaac ?_); (try rw [hP]); simp -implicitDefEqProofs [*]) | ((with_reducible refine qaak ?_); (try simp -implicitDefEqProofs [*])) | ((with_reducible refine qaam ?_); (try simp only [qaap, qaag, qaai])) | ((with_reducible refine qaaa rfl (fun h => ?_) (fun h => ?_)) <;> have h' := h <;> (try simp at h') <;> (try subst h')) | (with_reducible refine zN hm ?_) | fail)
      all_goals rfl
end Go.Proofs.Ytnfjldobjgdiaaa
namespace Go.Proofs.Ytnfjldobjgdiaaa
set_option linter.all false
open Go.RowKit
attribute [local simp] qabg qabf qaas qaaz qaat qaay qabd qabe qaao qabn SOp.run SX.ev putd puts argS upds SOp.touch SSt.keep SSt.skip gets geth puth delh idOf SV.cells? setL qac5 qac6 sbin eq0 eq1 eqL qac4 qab1 qab2 qaap qabh qaag qabi qabo qaai qaaq FrzOk qaa9 qaa3 qaa7 qaa8 qaau qaa2 qabl qaa4 qaaw qaba qaav frzS frzH frz frz1 frz0 SlotsM ObjsM ObjM rn ren ren1 ren0 qabu qaca qacf qabt qabm qacg qace CoL qabb qach dels adds idsH qab3
attribute [local simp] qads refc qae3 qaet qacc opc actc tabc qad7 qacu nums
theorem qap9 {X : Cx} {sl : Sl} {hp : Hp} {t nx id n e z : Nat} {es fs : List (List SV)} [PureR es] (hm : X.m = 0) (hu : gets sl t = .own id n) (h : geth hp id = some (.row e z es)) (hn : n = es.length) (hf : es = fs) : QFun X [.tmp t] 0 (.view z fs) [] .ret ⟨sl, hp, nx⟩ := by
 subst hf hn
 have h1 : Wk X ⟨sl, hp, nx⟩ (SSt.frz ⟨sl, hp, nx⟩ [id]) := wk_frz [id] fun i o hi ho => by
  have : i = id := by simpa using hi
  subst this
  rw [h] at ho; cases ho
  exact (qady e z es).2 trivial
 have h2 : gets (frzS (geth hp) [id] sl) t = .view z es := by
  rw [qalz, hu]; simp [frz, frz1, frz0, h]
 refine ⟨⟨[(t, .view z es)], [], 0⟩, h1.trans (qadx [] hm rfl (Nat.zero_le _) ⟨?_, trivial⟩ trivial), by simp [qa8v, resL, resV, one_, gets], trivial, by simp⟩
 show Co (gets (frzS (geth hp) [id] sl) t) _
 rw [h2]; exact Co.refl _
theorem qai2 (l : List Int) (hl : l.length ≤ 1000000) (q : Nat) : SCalls Try.prog 29 [nums .i64 l] [] q (nums .i64 l) [] := by
 refine qabj ?_ (fun _ => rfl) (fun _ => rfl) rfl q
 refine qaax (N := 7) Try.func29 rfl rfl (by kernel_rfl) qamp (by simp) (by repeat' (first | exact trivial | refine And.intro ?_ ?_ | rfl | decide | exact PureR.ren _)) (by repeat' (first | exact trivial | refine And.intro ?_ ?_ | rfl | decide | exact PureR.ren _)) ?_
 rintro X hP hN hm
 have hb : l.length ≤ maxLen := by unfold maxLen; omega
 unfold c_oints
 repeat' (first | (with_reducible refine zA ?_) | ((with_reducible refine qaac ?_); (try rw [hP]); simp -implicitDefEqProofs [*]) | ((with_reducible refine qaam ?_); (try simp only [qaap, qaag, qaai])) | ((with_reducible refine qabv ?_ ?_); (first | omega | (unfold maxLen; omega)); simp -implicitDefEqProofs [*]) | (refine qap9 hm rfl rfl ?_ rfl) | fail)
 all_goals simp
theorem qbbh (l : List PushD) (hl : l.length ≤ 1000000) (q : Nat) : SCalls Try.prog 30 [qabz l] [] q (qabz l) [] := by
 refine qabj ?_ (fun _ => rfl) (fun _ => rfl) rfl q
 refine qaax (N := 7) Try.func30 rfl rfl (by kernel_rfl) qamn (by simp) (by repeat' (first | exact trivial | refine And.intro ?_ ?_ | rfl | decide | exact PureR.ren _)) (by repeat' (first | exact trivial | refine And.intro ?_ ?_ | rfl | decide | exact PureR.ren _)) ?_
 rintro X hP hN hm
 have hb : l.length ≤ maxLen := by unfold maxLen; omega
 unfold c_otree
 repeat' (first | (with_reducible refine zA ?_) | ((with_reducible refine qaac ?_); (try rw [hP]); simp -implicitDefEqProofs [qabz, *]) | ((with_reducible refine qaam ?_); (try simp only [qaap, qaag, qaai])) | ((with_reducible refine qabv ?_ ?_); (first | omega | (unfold maxLen; omega)); simp -implicitDefEqProofs [qabz, *]) | (refine qap9 hm rfl rfl ?_ rfl) | fail)
 all_goals simp
instance pureR_take (fs : List (List SV)) [PureR fs] (i : Nat) : PureR (fs.take i) := ⟨fun σ => by rw [List.map_take, PureR.ren], fun x hx => PureR.ok x (List.mem_of_mem_take hx), fun x hx => PureR.pure x (List.mem_of_mem_take hx)⟩
theorem qafh {α : Type} (f : α → List SV) {l : List α} {i : Nat} (hi : i ≤ l.length) : ((l.take i).map f).length = i := by simp; omega
theorem qaef {α : Type} (f : α → List SV) {l : List α} {i : Nat} (hi : i < l.length) : (l.take i).map f ++ [f l[i]] = (l.take (i + 1)).map f := by
 rw [List.take_succ_eq_append_getElem hi, List.map_append]; rfl
theorem qa8r : qahc Try.prog 29 = some true := by kernel_rfl
theorem qapj : qab8 Try.prog 29 = some 7 := by kernel_rfl
set_option maxHeartbeats 8000000 in
theorem oplan_s (p : PlanD) (hs : SmallP p) (q : Nat) : SCalls Try.prog 16 [.agg (qacu p)] [] q (.agg (qacu p)) [] := by
 refine qabj ?_ (fun _ => rfl) (fun _ => rfl) rfl q
 refine qaax (N := 174) Try.func16 rfl rfl (by kernel_rfl) qamo (by simp) (by repeat' (first | exact trivial | refine And.intro ?_ ?_ | rfl | decide | exact PureR.ren _)) (by repeat' (first | exact trivial | refine And.intro ?_ ?_ | rfl | decide | exact PureR.ren _)) ?_
 rintro X hP hN hm
 have hl1 := hs.heads
 have hl2 := hs.metas
 have hl3 := hs.states
 have hl4 := hs.acts
 have hl5 := hs.tabs
 have hl6 := hs.nodes
 have hl7 := hs.outs
 unfold c_oplan
 repeat' (first | (with_reducible first | refine zA ?_ | refine zK ?_) | ((with_reducible first | refine qaac ?_ | refine qaa1 (by rw [hP]; exact qacx) ?_); (try rw [hP]); simp -implicitDefEqProofs [*]) | ((first | refine qaa0 (qai2 p.meta_ (by omega) _) ?_ | refine qaa0 (qai2 p.out (by omega) _) ?_); simp -implicitDefEqProofs [*]) | fail)
 refine qac9 (qaee (t := 29) (cs := [.nilsl, nums .i64 p.meta_, .nilsl, .nilsl, .nilsl, .nilsl, nums .i64 p.out]) 23 0 62 1 rfl rfl) ?_
 simp only [zT, puth, Nat.reduceEqDiff, reduceIte, Nat.reduceAdd, List.set]
 refine qaal (qaa5 (fun s (i : Nat) => s.turn [(4, .int .i64 i)] [(23, .cells 29 [.own 26 i, nums .i64 p.meta_, .nilsl, .nilsl, .nilsl, .nilsl, nums .i64 p.out]), (26, .row 62 1 ((p.heads.take i).map qads))]) (fun i => i ≤ p.heads.length) (fun i => p.heads.length - i) 0 ?_ (by simp) ?_)
 ·repeat' (first | ((with_reducible refine qaah [] hm ?_ ?_ ?_ ?_) <;> (try simp only [zT, puth, Nat.reduceEqDiff, reduceIte, Nat.reduceAdd])) | (with_reducible first | refine za ?_ ?_ | refine zb ?_ ?_ ?_ ?_ | refine zc ?_ ?_ ?_ ?_) | (with_reducible first | exact qaab | exact qaad) | ((with_reducible first | refine zga ?_ | refine zgb ?_); rfl) | ((with_reducible refine zgc ?_); (first | (with_reducible rfl) | rfl | (simp; done))) | ((with_reducible refine zgd ?_); (first | omega | (simp; done))) | (exact Co.refl _) | (exact CoL.refl _) | fail)
 rintro J hJ i hi
 unfold qakw
 simp only [zT, puth, Nat.reduceEqDiff, reduceIte, Nat.reduceAdd]
 have hlen := qafh qads hi
 have hb1 : i + 1 ≤ maxLen := by unfold maxLen; omega
 rcases Nat.lt_or_ge i p.heads.length with h | h
 ·have wi : IntKind.i64.wrap ((i : Int) + 1) = (i : Int) + 1 := qaar (by omega) (by omega)
  have hrow := qaef qads h
  have hc := fun q => qai2 p.heads[i].w (by have := hs.headW _ (List.getElem_mem h); omega) q
  generalize hr : p.heads[i] = r at hrow hc
  replace hc := Lib.hid hc
  repeat' (first | (with_reducible first | refine zA ?_ | refine qae5 ?_ | refine zK ?_) | ((with_reducible first | refine qaac ?_ | refine qaa1 (by rw [hP]; exact qacx) ?_); (try rw [hP]); simp -implicitDefEqProofs [*]) | ((with_reducible refine qaaf ?_); (try simp -implicitDefEqProofs [*])) | ((with_reducible refine qaaa rfl (fun h => ?_) (fun h => ?_)) <;> have h' := h <;> (try simp at h') <;> (try subst h')) | ((with_reducible refine qabv ?_ ?_); (first | omega | (unfold maxLen; omega)); simp -implicitDefEqProofs [*]) | (refine qaa0 (hc.out _) ?_; simp -implicitDefEqProofs [*]) | (with_reducible first | refine za ?_ ?_ | refine zb ?_ ?_ ?_ ?_ | refine zc ?_ ?_ ?_ ?_) | (with_reducible first | exact qaab | exact qaad) | ((with_reducible first | refine zga ?_ | refine zgb ?_); rfl) | ((with_reducible first | refine zgd ?_ | refine zge ?_); (first | omega | (simp; done))) | (exact Co.refl _) | (exact CoL.refl _) | ((refine qaaj hJ (i + 1) ?_ ?_ ?_; (with_reducible refine qaah [(23, ?_), (26, ?_)] hm ?_ ?_ ?_ ?_) <;> (try simp only [zT, puth, Nat.reduceEqDiff, reduceIte, Nat.reduceAdd]))) | fail)
  all_goals (first | exact hrow | (rw [← List.map_take]; exact hrow) | omega)
 ·obtain rfl : i = p.heads.length := by omega
  repeat' (first | ((with_reducible refine qac2 (c := (.seq (.seq (.reg false qaku [1, 2, 3, 5]) (.block 2 (.loop qag3))) (.seq (.seq (.reg false qafw [1, 2, 3, 8]) (.block 4 (.loop qaff))) (.seq (.seq (.reg false qaep [1, 2, 3, 12]) (.block 8 (.loop qaec))) (.seq (.seq (.reg false qadz [1, 2, 3, 16]) (.block 10 (.loop qad0))) (.seq (.reg false qadk [2]) .ret)))))) ?_)) | (with_reducible refine zA ?_) | ((with_reducible refine qaac ?_); (try rw [hP]); simp -implicitDefEqProofs [*]) | ((with_reducible refine qaak ?_); (try simp -implicitDefEqProofs [*])) | ((with_reducible refine qaaa rfl (fun h => ?_) (fun h => ?_)) <;> have h' := h <;> (try simp at h') <;> (try subst h')) | fail)
  constructor
  clear hJ hi h
  refine qado [26] ?_ ?_
  ·simp only [FrzOk, geth, Nat.reduceEqDiff, reduceIte, qady, and_true]
  have htk : ((p.heads.take p.heads.length).map qads).take p.heads.length = p.heads.map qads := by rw [List.take_length]; exact List.take_of_length_le (by simp)
  simp -implicitDefEqProofs [htk, hlen, Nat.le_refl]
  clear hlen htk hb1
  repeat' (first | (with_reducible refine zA ?_) | ((with_reducible refine qaac ?_); (try rw [hP]); simp -implicitDefEqProofs [*]) | fail)
  refine qac9 (qaee (t := 29) (cs := [.view 1 (p.heads.map qads), nums .i64 p.meta_, .nilsl, .nilsl, .nilsl, .nilsl, nums .i64 p.out]) 23 2 65 5 rfl rfl) ?_
  simp only [zT, puth, Nat.reduceEqDiff, reduceIte, Nat.reduceAdd, List.set]
  refine qaal (qaa5 (fun s (i : Nat) => s.turn [(5, .int .i64 i)] [(23, .cells 29 [.view 1 (p.heads.map qads), nums .i64 p.meta_, .own 33 i, .nilsl, .nilsl, .nilsl, nums .i64 p.out]), (33, .row 65 5 ((p.states.take i).map qacc))]) (fun i => i ≤ p.states.length) (fun i => p.states.length - i) 0 ?_ (by simp) ?_)
  ·repeat' (first | ((with_reducible refine qaah [] hm ?_ ?_ ?_ ?_) <;> (try simp only [zT, puth, Nat.reduceEqDiff, reduceIte, Nat.reduceAdd])) | (with_reducible first | refine za ?_ ?_ | refine zb ?_ ?_ ?_ ?_ | refine zc ?_ ?_ ?_ ?_) | (with_reducible first | exact qaab | exact qaad) | ((with_reducible first | refine zga ?_ | refine zgb ?_); rfl) | ((with_reducible refine zgc ?_); (first | (with_reducible rfl) | rfl | (simp; done))) | ((with_reducible refine zgd ?_); (first | omega | (simp; done))) | (exact Co.refl _) | (exact CoL.refl _) | fail)
  rintro J hJ i hi
  unfold qag3
  simp only [zT, puth, Nat.reduceEqDiff, reduceIte, Nat.reduceAdd]
  have hlen := qafh qacc hi
  have hb1 : i + 1 ≤ maxLen := by unfold maxLen; omega
  rcases Nat.lt_or_ge i p.states.length with h | h
  ·have wi : IntKind.i64.wrap ((i : Int) + 1) = (i : Int) + 1 := qaar (by omega) (by omega)
   have hrow := qaef qacc h
   have hcl := hs.cases_ _ (List.getElem_mem h)
   generalize hr : p.states[i] = r at hrow hcl
   have hcb : r.cases_.length ≤ maxLen := by unfold maxLen; omega
   repeat' (first | ((with_reducible refine qac2 (c := .reg false qah7 [1, 2, 3, 5]) ?_)) | (with_reducible first | refine zA ?_ | refine qaae ?_) | ((with_reducible refine qaac ?_); (try rw [hP]); simp -implicitDefEqProofs [*]) | ((with_reducible refine qaaf ?_); (try simp -implicitDefEqProofs [*])) | ((with_reducible refine qaaa rfl (fun h => ?_) (fun h => ?_)) <;> have h' := h <;> (try simp at h') <;> (try subst h')) | ((with_reducible refine qabv ?_ ?_); (first | omega | (unfold maxLen; omega)); simp -implicitDefEqProofs [*]) | fail)
   constructor
   refine qado [50] ?_ ?_
   ·simp only [FrzOk, geth, Nat.reduceEqDiff, reduceIte, qady, and_true]
   have htk : (r.cases_.map qaet).take r.cases_.length = r.cases_.map qaet := List.take_of_length_le (by simp)
   simp -implicitDefEqProofs [htk, Nat.le_refl]
   repeat' (first | ((with_reducible refine qaac ?_); (try rw [hP]); simp -implicitDefEqProofs [*]) | ((with_reducible refine qabv ?_ ?_); (first | omega | (unfold maxLen; omega)); simp -implicitDefEqProofs [*]) | (with_reducible first | refine za ?_ ?_ | refine zb ?_ ?_ ?_ ?_ | refine zc ?_ ?_ ?_ ?_) | (with_reducible first | exact qaab | exact qaad) | ((with_reducible first | refine zga ?_ | refine zgb ?_); rfl) | ((with_reducible first | refine zgd ?_ | refine zge ?_); (first | omega | (simp; done))) | (exact Co.refl _) | (exact CoL.refl _) | ((refine qaaj hJ (i + 1) ?_ ?_ ?_; (with_reducible refine qaah [(23, ?_), (33, ?_)] hm ?_ ?_ ?_ ?_) <;> (try simp only [zT, puth, Nat.reduceEqDiff, reduceIte, Nat.reduceAdd]))) | fail)
   all_goals (first | exact hrow | (rw [← List.map_take]; exact hrow) | omega)
  ·obtain rfl : i = p.states.length := by omega
   repeat' (first | ((with_reducible refine qac2 (c := (.seq (.seq (.reg false qafw [1, 2, 3, 8]) (.block 4 (.loop qaff))) (.seq (.seq (.reg false qaep [1, 2, 3, 12]) (.block 8 (.loop qaec))) (.seq (.seq (.reg false qadz [1, 2, 3, 16]) (.block 10 (.loop qad0))) (.seq (.reg false qadk [2]) .ret))))) ?_)) | (with_reducible refine zA ?_) | ((with_reducible refine qaac ?_); (try rw [hP]); simp -implicitDefEqProofs [*]) | ((with_reducible refine qaak ?_); (try simp -implicitDefEqProofs [*])) | ((with_reducible refine qaaa rfl (fun h => ?_) (fun h => ?_)) <;> have h' := h <;> (try simp at h') <;> (try subst h')) | fail)
   constructor
   clear hJ hi h
   refine qado [33] ?_ ?_
   ·simp only [FrzOk, geth, Nat.reduceEqDiff, reduceIte, qady, and_true]
   have htk : ((p.states.take p.states.length).map qacc).take p.states.length = p.states.map qacc := by rw [List.take_length]; exact List.take_of_length_le (by simp)
   simp -implicitDefEqProofs [htk, hlen, Nat.le_refl]
   clear hlen htk hb1
   repeat' (first | (with_reducible refine zA ?_) | ((with_reducible refine qaac ?_); (try rw [hP]); simp -implicitDefEqProofs [*]) | fail)
   refine qac9 (qaee (t := 29) (cs := [.view 1 (p.heads.map qads), nums .i64 p.meta_, .view 5 (p.states.map qacc), .nilsl, .nilsl, .nilsl, nums .i64 p.out]) 23 3 68 2 rfl rfl) ?_
   simp only [zT, puth, Nat.reduceEqDiff, reduceIte, Nat.reduceAdd, List.set]
   refine qaal (qaa5 (fun s (i : Nat) => s.turn [(8, .int .i64 i)] [(23, .cells 29 [.view 1 (p.heads.map qads), nums .i64 p.meta_, .view 5 (p.states.map qacc), .own 40 i, .nilsl, .nilsl, nums .i64 p.out]), (40, .row 68 2 ((p.acts.take i).map actc))]) (fun i => i ≤ p.acts.length) (fun i => p.acts.length - i) 0 ?_ (by simp) ?_)
   ·repeat' (first | ((with_reducible refine qaah [] hm ?_ ?_ ?_ ?_) <;> (try simp only [zT, puth, Nat.reduceEqDiff, reduceIte, Nat.reduceAdd])) | (with_reducible first | refine za ?_ ?_ | refine zb ?_ ?_ ?_ ?_ | refine zc ?_ ?_ ?_ ?_) | (with_reducible first | exact qaab | exact qaad) | ((with_reducible first | refine zga ?_ | refine zgb ?_); rfl) | ((with_reducible refine zgc ?_); (first | (with_reducible rfl) | rfl | (simp; done))) | ((with_reducible refine zgd ?_); (first | omega | (simp; done))) | (exact Co.refl _) | (exact CoL.refl _) | fail)
   rintro J hJ i hi
   have hJo := hJ
   unfold qaff
   simp only [zT, puth, Nat.reduceEqDiff, reduceIte, Nat.reduceAdd]
   have hlen := qafh actc hi
   have hb1 : i + 1 ≤ maxLen := by unfold maxLen; omega
   rcases Nat.lt_or_ge i p.acts.length with h | h
   ·have wi : IntKind.i64.wrap ((i : Int) + 1) = (i : Int) + 1 := qaar (by omega) (by omega)
    have hrow := qaef actc h
    have hc := fun q => qai2 p.acts[i].w (by have := hs.actW _ (List.getElem_mem h); omega) q
    have hol := hs.ops _ (List.getElem_mem h)
    have htl := hs.tree _ (List.getElem_mem h)
    generalize hr : p.acts[i] = r at hrow hc hol htl
    replace hc := Lib.hid hc
    replace htl := Lib.hid htl
    repeat' (first | (with_reducible first | refine zA ?_ | refine qaae ?_) | ((with_reducible refine qaac ?_); (try rw [hP]); simp -implicitDefEqProofs [*]) | ((with_reducible refine qaaf ?_); (try simp -implicitDefEqProofs [*])) | ((with_reducible refine qaaa rfl (fun h => ?_) (fun h => ?_)) <;> have h' := h <;> (try simp at h') <;> (try subst h')) | (refine qaa0 (hc.out _) ?_; simp -implicitDefEqProofs [*]) | fail)
    refine qac9 (qaee (t := 68) (cs := [nums .i64 r.w, .nilsl]) 61 1 71 5 rfl rfl) ?_
    simp only [zT, puth, Nat.reduceEqDiff, reduceIte, Nat.reduceAdd, List.set]
    refine qaal (qaa5 (fun s (k : Nat) => s.turn [(10, .int .i64 k)] [(61, .cells 68 [nums .i64 r.w, .own 64 k]), (64, .row 71 5 ((r.ops.take k).map opc))]) (fun k => k ≤ r.ops.length) (fun k => r.ops.length - k) 0 ?_ (by simp) ?_)
    ·repeat' (first | ((with_reducible refine qaah [] hm ?_ ?_ ?_ ?_) <;> (try simp only [zT, puth, Nat.reduceEqDiff, reduceIte, Nat.reduceAdd])) | (with_reducible first | refine za ?_ ?_ | refine zb ?_ ?_ ?_ ?_ | refine zc ?_ ?_ ?_ ?_) | (with_reducible first | exact qaab | exact qaad) | ((with_reducible first | refine zga ?_ | refine zgb ?_); rfl) | ((with_reducible refine zgc ?_); (first | (with_reducible rfl) | rfl | (simp; done))) | ((with_reducible refine zgd ?_); (first | omega | (simp; done))) | (exact Co.refl _) | (exact CoL.refl _) | fail)
    rintro J hJ k hk
    unfold qakv
    simp only [zT, puth, Nat.reduceEqDiff, reduceIte, Nat.reduceAdd]
    have hlen2 := qafh opc hk
    have hb2 : k + 1 ≤ maxLen := by unfold maxLen; omega
    rcases Nat.lt_or_ge k r.ops.length with h2 | h2
    ·have wk2 : IntKind.i64.wrap ((k : Int) + 1) = (k : Int) + 1 := qaar (by omega) (by omega)
     have hrow2 := qaef opc h2
     have hc2 := fun q => qbbh r.ops[k].e (by have := htl.out _ (List.getElem_mem h2); omega) q
     generalize hy : r.ops[k] = y at hrow2 hc2
     replace hc2 := Lib.hid hc2
     repeat' (first | (with_reducible first | refine zA ?_ | refine qaae ?_) | ((with_reducible refine qaac ?_); (try rw [hP]); simp -implicitDefEqProofs [qabz, *]) | ((with_reducible refine qaaf ?_); (try simp -implicitDefEqProofs [qabz, *])) | ((with_reducible refine qaaa rfl (fun h => ?_) (fun h => ?_)) <;> have h' := h <;> (try simp at h') <;> (try subst h')) | ((with_reducible refine qabv ?_ ?_); (first | omega | (unfold maxLen; omega)); simp -implicitDefEqProofs [qabz, *]) | (refine qaa0 (hc2.out _) ?_; simp -implicitDefEqProofs [qabz, *]) | (with_reducible first | refine za ?_ ?_ | refine zb ?_ ?_ ?_ ?_ | refine zc ?_ ?_ ?_ ?_) | (with_reducible first | exact qaab | exact qaad) | ((with_reducible first | refine zga ?_ | refine zgb ?_); rfl) | ((with_reducible refine zgc ?_); (first | (with_reducible rfl) | rfl | (simp; done))) | ((with_reducible first | refine zgd ?_ | refine zge ?_); (first | omega | (simp; done))) | (exact Co.refl _) | (exact CoL.refl _) | ((refine qaaj hJ (k + 1) ?_ ?_ ?_; (with_reducible refine qaah [(61, ?_), (64, ?_)] hm ?_ ?_ ?_ ?_) <;> (try simp only [zT, puth, Nat.reduceEqDiff, reduceIte, Nat.reduceAdd]))) | fail)
     all_goals (first | exact hrow2 | (rw [← List.map_take]; exact hrow2) | omega)
    ·obtain rfl : k = r.ops.length := by omega
     repeat' (first | ((with_reducible refine qac2 (c := .reg false qah6 [1, 2, 3, 8]) ?_)) | (with_reducible refine zA ?_) | ((with_reducible refine qaac ?_); (try rw [hP]); simp -implicitDefEqProofs [*]) | ((with_reducible refine qaak ?_); (try simp -implicitDefEqProofs [*])) | ((with_reducible refine qaaa rfl (fun h => ?_) (fun h => ?_)) <;> have h' := h <;> (try simp at h') <;> (try subst h')) | fail)
     constructor
     refine qado [64] ?_ ?_
     ·simp only [FrzOk, geth, Nat.reduceEqDiff, reduceIte, qady, and_true]
     have htk : ((r.ops.take r.ops.length).map opc).take r.ops.length = r.ops.map opc := by rw [List.take_length]; exact List.take_of_length_le (by simp)
     simp -implicitDefEqProofs [htk, hlen2, Nat.le_refl]
     repeat' (first | ((with_reducible refine qaac ?_); (try rw [hP]); simp -implicitDefEqProofs [*]) | ((with_reducible refine qabv ?_ ?_); (first | omega | (unfold maxLen; omega)); simp -implicitDefEqProofs [*]) | (with_reducible first | refine za ?_ ?_ | refine zb ?_ ?_ ?_ ?_ | refine zc ?_ ?_ ?_ ?_) | (with_reducible first | exact qaab | exact qaad) | ((with_reducible first | refine zga ?_ | refine zgb ?_); rfl) | ((with_reducible first | refine zgd ?_ | refine zge ?_); (first | omega | (simp; done))) | (exact Co.refl _) | (exact CoL.refl _) | ((refine qaaj hJo (i + 1) ?_ ?_ ?_; (with_reducible refine qaah [(23, ?_), (40, ?_)] hm ?_ ?_ ?_ ?_) <;> (try simp only [zT, puth, Nat.reduceEqDiff, reduceIte, Nat.reduceAdd]))) | fail)
     all_goals (first | exact hrow | (rw [← List.map_take]; exact hrow) | omega)
   ·obtain rfl : i = p.acts.length := by omega
    repeat' (first | ((with_reducible refine qac2 (c := (.seq (.seq (.reg false qaep [1, 2, 3, 12]) (.block 8 (.loop qaec))) (.seq (.seq (.reg false qadz [1, 2, 3, 16]) (.block 10 (.loop qad0))) (.seq (.reg false qadk [2]) .ret)))) ?_)) | (with_reducible refine zA ?_) | ((with_reducible refine qaac ?_); (try rw [hP]); simp -implicitDefEqProofs [*]) | ((with_reducible refine qaak ?_); (try simp -implicitDefEqProofs [*])) | ((with_reducible refine qaaa rfl (fun h => ?_) (fun h => ?_)) <;> have h' := h <;> (try simp at h') <;> (try subst h')) | fail)
    constructor
    clear hJ hi h
    refine qado [40] ?_ ?_
    ·simp only [FrzOk, geth, Nat.reduceEqDiff, reduceIte, qady, and_true]
    have htk : ((p.acts.take p.acts.length).map actc).take p.acts.length = p.acts.map actc := by rw [List.take_length]; exact List.take_of_length_le (by simp)
    simp -implicitDefEqProofs [htk, hlen, Nat.le_refl]
    clear hlen htk hb1
    repeat' (first | (with_reducible refine zA ?_) | ((with_reducible refine qaac ?_); (try rw [hP]); simp -implicitDefEqProofs [*]) | fail)
    refine qac9 (qaee (t := 29) (cs := [.view 1 (p.heads.map qads), nums .i64 p.meta_, .view 5 (p.states.map qacc), .view 2 (p.acts.map actc), .nilsl, .nilsl, nums .i64 p.out]) 23 4 35 6 rfl rfl) ?_
    simp only [zT, puth, Nat.reduceEqDiff, reduceIte, Nat.reduceAdd, List.set]
    refine qaal (qaa5 (fun s (i : Nat) => s.turn [(12, .int .i64 i)] [(23, .cells 29 [.view 1 (p.heads.map qads), nums .i64 p.meta_, .view 5 (p.states.map qacc), .view 2 (p.acts.map actc), .own 47 i, .nilsl, nums .i64 p.out]), (47, .row 35 6 ((p.tabs.take i).map tabc))]) (fun i => i ≤ p.tabs.length) (fun i => p.tabs.length - i) 0 ?_ (by simp) ?_)
    ·repeat' (first | ((with_reducible refine qaah [] hm ?_ ?_ ?_ ?_) <;> (try simp only [zT, puth, Nat.reduceEqDiff, reduceIte, Nat.reduceAdd])) | (with_reducible first | refine za ?_ ?_ | refine zb ?_ ?_ ?_ ?_ | refine zc ?_ ?_ ?_ ?_) | (with_reducible first | exact qaab | exact qaad) | ((with_reducible first | refine zga ?_ | refine zgb ?_); rfl) | ((with_reducible refine zgc ?_); (first | (with_reducible rfl) | rfl | (simp; done))) | ((with_reducible refine zgd ?_); (first | omega | (simp; done))) | (exact Co.refl _) | (exact CoL.refl _) | fail)
    rintro J hJ i hi
    unfold qaec
    simp only [zT, puth, Nat.reduceEqDiff, reduceIte, Nat.reduceAdd]
    have hlen := qafh tabc hi
    have hb1 : i + 1 ≤ maxLen := by unfold maxLen; omega
    rcases Nat.lt_or_ge i p.tabs.length with h | h
    ·have wi : IntKind.i64.wrap ((i : Int) + 1) = (i : Int) + 1 := qaar (by omega) (by omega)
     have hrow := qaef tabc h
     have hkl := hs.keys _ (List.getElem_mem h)
     generalize hr : p.tabs[i] = r at hrow hkl
     have hkb1 : r.keys.length ≤ maxLen := by unfold maxLen; omega
     have hkb2 : r.args.length ≤ maxLen := by unfold maxLen; omega
     have hc := fun q => qai2 r.acts (by omega) q
     replace hc := Lib.hid hc
     repeat' (first | ((with_reducible refine qac2 (c := .reg false qah5 [1, 2, 3, 12]) ?_)) | (with_reducible first | refine zA ?_ | refine qaae ?_ | refine zK ?_) | ((with_reducible first | refine qaac ?_ | refine qaa1 (by rw [hP]; exact qacx) ?_); (try rw [hP]); simp -implicitDefEqProofs [*]) | ((with_reducible refine qaaf ?_); (try simp -implicitDefEqProofs [*])) | ((with_reducible refine qaaa rfl (fun h => ?_) (fun h => ?_)) <;> have h' := h <;> (try simp at h') <;> (try subst h')) | ((with_reducible refine qabv ?_ ?_); (first | omega | (unfold maxLen; omega)); simp -implicitDefEqProofs [*]) | (refine qaa0 (hc.out _) ?_; simp -implicitDefEqProofs [*]) | fail)
     constructor
     refine qado [65, 79] ?_ ?_
     ·simp only [FrzOk, geth, Nat.reduceEqDiff, reduceIte, qady, and_true]
     have htk1 : (r.keys.map refc).take r.keys.length = r.keys.map refc := List.take_of_length_le (by simp)
     have htk2 : (r.args.map fun x => [SV.int .u64 x]).take r.args.length = r.args.map fun x => [SV.int .u64 x] := List.take_of_length_le (by simp)
     simp -implicitDefEqProofs [htk1, htk2, Nat.le_refl]
     repeat' (first | ((with_reducible refine qaac ?_); (try rw [hP]); simp -implicitDefEqProofs [*]) | ((with_reducible refine qabv ?_ ?_); (first | omega | (unfold maxLen; omega)); simp -implicitDefEqProofs [*]) | (with_reducible first | refine za ?_ ?_ | refine zb ?_ ?_ ?_ ?_ | refine zc ?_ ?_ ?_ ?_) | (with_reducible first | exact qaab | exact qaad) | ((with_reducible first | refine zga ?_ | refine zgb ?_); rfl) | ((with_reducible first | refine zgd ?_ | refine zge ?_); (first | omega | (simp; done))) | (exact Co.refl _) | (exact CoL.refl _) | ((refine qaaj hJ (i + 1) ?_ ?_ ?_; (with_reducible refine qaah [(23, ?_), (47, ?_)] hm ?_ ?_ ?_ ?_) <;> (try simp only [zT, puth, Nat.reduceEqDiff, reduceIte, Nat.reduceAdd]))) | fail)
     all_goals (first | exact hrow | (rw [← List.map_take]; exact hrow) | omega)
    ·obtain rfl : i = p.tabs.length := by omega
     repeat' (first | ((with_reducible refine qac2 (c := (.seq (.seq (.reg false qadz [1, 2, 3, 16]) (.block 10 (.loop qad0))) (.seq (.reg false qadk [2]) .ret))) ?_)) | (with_reducible refine zA ?_) | ((with_reducible refine qaac ?_); (try rw [hP]); simp -implicitDefEqProofs [*]) | ((with_reducible refine qaak ?_); (try simp -implicitDefEqProofs [*])) | ((with_reducible refine qaaa rfl (fun h => ?_) (fun h => ?_)) <;> have h' := h <;> (try simp at h') <;> (try subst h')) | fail)
     constructor
     clear hJ hi h
     refine qado [47] ?_ ?_
     ·simp only [FrzOk, geth, Nat.reduceEqDiff, reduceIte, qady, and_true]
     have htk : ((p.tabs.take p.tabs.length).map tabc).take p.tabs.length = p.tabs.map tabc := by rw [List.take_length]; exact List.take_of_length_le (by simp)
     simp -implicitDefEqProofs [htk, hlen, Nat.le_refl]
     clear hlen htk hb1
     repeat' (first | (with_reducible refine zA ?_) | ((with_reducible refine qaac ?_); (try rw [hP]); simp -implicitDefEqProofs [*]) | fail)
     refine qac9 (qaee (t := 29) (cs := [.view 1 (p.heads.map qads), nums .i64 p.meta_, .view 5 (p.states.map qacc), .view 2 (p.acts.map actc), .view 6 (p.tabs.map tabc), .nilsl, nums .i64 p.out]) 23 5 73 5 rfl rfl) ?_
     simp only [zT, puth, Nat.reduceEqDiff, reduceIte, Nat.reduceAdd, List.set]
     refine qaal (qaa5 (fun s (i : Nat) => s.turn [(16, .int .i64 i)] [(23, .cells 29 [.view 1 (p.heads.map qads), nums .i64 p.meta_, .view 5 (p.states.map qacc), .view 2 (p.acts.map actc), .view 6 (p.tabs.map tabc), .own 54 i, nums .i64 p.out]), (54, .row 73 5 ((p.nodes.take i).map qad7))]) (fun i => i ≤ p.nodes.length) (fun i => p.nodes.length - i) 0 ?_ (by simp) ?_)
     ·repeat' (first | ((with_reducible refine qaah [] hm ?_ ?_ ?_ ?_) <;> (try simp only [zT, puth, Nat.reduceEqDiff, reduceIte, Nat.reduceAdd])) | (with_reducible first | refine za ?_ ?_ | refine zb ?_ ?_ ?_ ?_ | refine zc ?_ ?_ ?_ ?_) | (with_reducible first | exact qaab | exact qaad) | ((with_reducible first | refine zga ?_ | refine zgb ?_); rfl) | ((with_reducible refine zgc ?_); (first | (with_reducible rfl) | rfl | (simp; done))) | ((with_reducible refine zgd ?_); (first | omega | (simp; done))) | (exact Co.refl _) | (exact CoL.refl _) | fail)
     rintro J hJ i hi
     unfold qad0
     simp only [zT, puth, Nat.reduceEqDiff, reduceIte, Nat.reduceAdd]
     have hlen := qafh qad7 hi
     have hb1 : i + 1 ≤ maxLen := by unfold maxLen; omega
     rcases Nat.lt_or_ge i p.nodes.length with h | h
     ·have wi : IntKind.i64.wrap ((i : Int) + 1) = (i : Int) + 1 := qaar (by omega) (by omega)
      have hrow := qaef qad7 h
      have hc := fun q => qbbh p.nodes[i].e (by have := hs.node _ (List.getElem_mem h); omega) q
      generalize hr : p.nodes[i] = r at hrow hc
      replace hc := Lib.hid hc
      repeat' (first | (with_reducible first | refine zA ?_ | refine qaae ?_) | ((with_reducible refine qaac ?_); (try rw [hP]); simp -implicitDefEqProofs [qabz, *]) | ((with_reducible refine qaaf ?_); (try simp -implicitDefEqProofs [qabz, *])) | ((with_reducible refine qaaa rfl (fun h => ?_) (fun h => ?_)) <;> have h' := h <;> (try simp at h') <;> (try subst h')) | ((with_reducible refine qabv ?_ ?_); (first | omega | (unfold maxLen; omega)); simp -implicitDefEqProofs [qabz, *]) | (refine qaa0 (hc.out _) ?_; simp -implicitDefEqProofs [qabz, *]) | (with_reducible first | refine za ?_ ?_ | refine zb ?_ ?_ ?_ ?_ | refine zc ?_ ?_ ?_ ?_) | (with_reducible first | exact qaab | exact qaad) | ((with_reducible first | refine zga ?_ | refine zgb ?_); rfl) | ((with_reducible first | refine zgd ?_ | refine zge ?_); (first | omega | (simp; done))) | (exact Co.refl _) | (exact CoL.refl _) | ((refine qaaj hJ (i + 1) ?_ ?_ ?_; (with_reducible refine qaah [(23, ?_), (54, ?_)] hm ?_ ?_ ?_ ?_) <;> (try simp only [zT, puth, Nat.reduceEqDiff, reduceIte, Nat.reduceAdd]))) | fail)
      all_goals (first | exact hrow | (rw [← List.map_take]; exact hrow) | omega)
     ·obtain rfl : i = p.nodes.length := by omega
      repeat' (first | ((with_reducible refine qac2 (c := (.seq (.reg false qadk [2]) .ret)) ?_)) | (with_reducible refine zA ?_) | ((with_reducible refine qaac ?_); (try rw [hP]); simp -implicitDefEqProofs [*]) | ((with_reducible refine qaak ?_); (try simp -implicitDefEqProofs [*])) | ((with_reducible refine qaaa rfl (fun h => ?_) (fun h => ?_)) <;> have h' := h <;> (try simp at h') <;> (try subst h')) | fail)
      constructor
      clear hJ hi h
      refine qado [54] ?_ ?_
      ·simp only [FrzOk, geth, Nat.reduceEqDiff, reduceIte, qady, and_true]
      have htk : ((p.nodes.take p.nodes.length).map qad7).take p.nodes.length = p.nodes.map qad7 := by rw [List.take_length]; exact List.take_of_length_le (by simp)
      simp -implicitDefEqProofs [htk, hlen, Nat.le_refl]
      clear hlen htk hb1
      repeat' (first | (with_reducible refine zA ?_) | ((with_reducible refine qaac ?_); (try rw [hP]); simp -implicitDefEqProofs [*]) | ((with_reducible refine qaam ?_); (try simp only [qaap, qaag, qaai])) | (refine qaf3 hm rfl rfl (by rw [hP]; exact qa8r) (by rw [hP]; exact qapj) rfl (CoL.refl _) rfl (fun σ => rfl)) | fail)
end Go.Proofs.Ytnfjldobjgdiaaa
namespace Go.Proofs.Ytnfjldobjgdiaaa
set_option linter.all false
open Go.RowKit
attribute [local simp] qabg qabf qaas qaaz qaat qaay qabd qabe qaao qabn SOp.run SX.ev putd puts argS upds SOp.touch SSt.keep SSt.skip gets geth puth delh idOf SV.cells? setL qac5 qac6 sbin eq0 eq1 eqL qac4 qab1 qab2 qaap qabh qaag qabi qabo qaai qaaq FrzOk qaa9 qaa3 qaa7 qaa8 qaau qaa2 qabl qaa4 qaaw qaba qaav frzS frzH frz frz1 frz0 SlotsM ObjsM ObjM rn ren ren1 ren0 qabu qaca qacf qabt qabm qacg qace CoL qabb qach dels adds idsH qab3
attribute [local simp] qads refc qae3 qaet qacc opc actc tabc qad7 qacu nums setc
theorem qbd9 : qahc Try.prog 56 = some true := by kernel_rfl
theorem qa80 : qab8 Try.prog 56 = some 5 := by kernel_rfl
instance : PureF setc := ⟨fun _ _ => rfl, fun _ => rfl, fun _ => qab5 _ rfl⟩
theorem wjoin_s (s t : SetsD) (q : Nat) : SCalls Try.prog 90 [.agg (setc s), .agg (setc t)] [] q (.agg (setc (qalw s t))) [] := by
 refine qabj ?_ (fun _ => rfl) (fun _ => rfl) rfl q
 refine qaax (N := 30) Try.func90 rfl rfl (by kernel_rfl) qal2 (by simp) (by repeat' (first | exact trivial | refine And.intro ?_ ?_ | rfl | decide | exact PureR.ren _)) (by repeat' (first | exact trivial | refine And.intro ?_ ?_ | rfl | decide | exact PureR.ren _)) ?_
 rintro X hP hN hm
 unfold c_wjoin qalw
 cases hs : s.there
 all_goals
  repeat' (first | (with_reducible refine zA ?_) | ((with_reducible refine qaac ?_); (try rw [hP]); simp -implicitDefEqProofs [qabp, qabx, *]) | ((with_reducible refine qaaf ?_); (try simp -implicitDefEqProofs [qabp, qabx, *])) | ((with_reducible refine qaam ?_); (try simp only [qaap, qaag, qaai])) | ((with_reducible refine qaaa rfl (fun h => ?_) (fun h => ?_)) <;> have h' := h <;> (try simp at h') <;> (try subst h')) | (refine qaf3 hm rfl rfl (by rw [hP]; exact qbd9) (by rw [hP]; exact qa80) rfl (CoL.refl _) ?_ (fun σ => rfl)) | fail)
  all_goals simp [lo, hi_]
theorem qbd8 {h : Int} (h1 : h < 64) : ((bitB h).toNat : Int) = 2 ^ h.toNat := by
 unfold bitB
 have hlt : 2 ^ h.toNat < 2 ^ 64 := Nat.pow_lt_pow_right (by omega) (by omega)
 rw [BitVec.toNat_twoPow, Nat.mod_eq_of_lt hlt]
 push_cast; rfl
theorem qba9 {h : Int} (h0 : 0 ≤ h) (h1 : h < 64) : IntKind.u64.wrap (1 * 2 ^ min h.toNat IntKind.u64.bits) = ((bitB h).toNat : Int) := by
 have e : min h.toNat IntKind.u64.bits = h.toNat := Nat.min_eq_left (by show h.toNat ≤ 64; omega)
 rw [e, Int.one_mul, ← qbd8 h1, qaqq]
theorem qbbz (h : Int) (h0 : 0 ≤ h) (h1 : h < 64) (q : Nat) : SCalls Try.prog 76 [.int .i64 h] [] q (.int .u64 (bitB h).toNat) [] := by
 refine qabj ?_ (fun _ => rfl) (fun _ => rfl) rfl q
 refine qaax (N := 5) Try.func76 rfl rfl (by kernel_rfl) qaq6 (by simp) (by repeat' (first | exact trivial | refine And.intro ?_ ?_ | rfl | decide | exact PureR.ren _)) (by repeat' (first | exact trivial | refine And.intro ?_ ?_ | rfl | decide | exact PureR.ren _)) ?_
 rintro X hP hN hm
 unfold c_wbit
 have e := qba9 h0 h1
 rw [Int.one_mul] at e
 repeat' (first | (with_reducible refine zA ?_) | ((with_reducible refine qaac ?_); (try rw [hP]); simp -implicitDefEqProofs [*]) | ((with_reducible refine qaam ?_); (try simp only [qaap, qaag, qaai])) | (with_reducible refine zM hm ?_) | fail)
 all_goals rfl
def wc (p : PlanD) (n : Nat) (a b : Int) : List SV := qacu p ++ [.own 1 n, .int .i64 a, .int .i64 b]
attribute [local simp] wc
abbrev qag8 (l : List SetsD) : SObj := .row 56 5 (l.map setc)
theorem qbei {X : Cx} {sl : Sl} {hp : Hp} {nx n : Nat} {p : PlanD} {a b : Int} {cs : List SV} {es : List (List SV)} {l : List SetsD} (hm : X.m = 2) (h0 : geth hp 0 = some (.cells 103 cs)) (h1 : geth hp 1 = some (.row 56 5 es)) (e0 : cs = wc p n a b) (e1 : es = l.map setc) : QFun X [] 2 (.tup []) [(0, .cells 103 (wc p n a b)), (1, qag8 l)] .normal ⟨sl, hp, nx⟩ := by
 subst e0 e1
 refine ⟨⟨[], [(0, .cells 103 (wc p n a b)), (1, qag8 l)], 2⟩, ?_, rfl, ⟨rfl, rfl, trivial⟩, by simp⟩
 exact qaah [] hm trivial ⟨⟨_, h0, rfl, CoL.refl _⟩, ⟨_, h1, rfl, rfl, by rw [qa07]; exact CoLL.refl _⟩, trivial⟩ rfl (Nat.le_refl _)
theorem fin_wr {X : Cx} {sl : Sl} {hp : Hp} {nx n : Nat} {p : PlanD} {a b : Int} {cs : List SV} {es : List (List SV)} {l : List SetsD} (hm : X.m = 2) (h0 : geth hp 0 = some (.cells 103 cs)) (h1 : geth hp 1 = some (.row 56 5 es)) (e0 : cs = wc p n a b) (e1 : es = l.map setc) : QFun X [] 2 (.tup []) [(0, .cells 103 (wc p n a b)), (1, qag8 l)] .ret ⟨sl, hp, nx⟩ := qbei hm h0 h1 e0 e1
theorem wfail_s (p : PlanD) (n : Nat) (a b : Int) (l : List SetsD) (is : Bool) (code at_ : Int) : SCalls Try.prog 75 [.ptr 0 0, .bool is, .int .i64 code, .int .i64 at_] [(0, .cells 103 (wc p n a b)), (1, qag8 l)] 2 (.tup []) [(0, .cells 103 (wc p n (qab9 a b is code at_).1 (qab9 a b is code at_).2)), (1, qag8 l)] := by
 refine qaax (N := 23) Try.func75 rfl rfl (by kernel_rfl) qal4 (by simp) (by repeat' (first | exact trivial | refine And.intro ?_ ?_ | rfl | decide | exact PureR.ren _)) (by repeat' (first | exact trivial | refine And.intro ?_ ?_ | rfl | decide | exact PureR.ren _)) ?_
 rintro X hP hN hm
 unfold c_wfail
 repeat' (first | (with_reducible refine zA ?_) | ((with_reducible refine qaac ?_); (try rw [hP]); simp -implicitDefEqProofs [*]) | ((with_reducible refine qaaf ?_); (try simp -implicitDefEqProofs [*])) | ((with_reducible refine qaaa rfl (fun h => ?_) (fun h => ?_)) <;> have h' := h <;> (try simp at h') <;> (try subst h')) | ((with_reducible refine qaan (fun h => ?_) (fun h => ?_)) <;> have h' := h <;> (try simp at h') <;> (try subst h') <;> simp -implicitDefEqProofs [*]) | (refine qbei hm rfl rfl ?_ rfl) | fail)
 all_goals (first | (simp [qab9, *]; done) | (simp_all [qab9]; done) | (simp_all [qab9]; omega))
theorem wto_s (p : PlanD) (a b : Int) (l : List SetsD) (k : Int) (s : SetsD) (hn : p.states.length ≤ 1000) (hl : l.length = p.states.length + 1) (hk : 0 ≤ tgt p.states.length k) : SCalls Try.prog 77 [.ptr 0 0, .int .i64 k, .agg (setc s)] [(0, .cells 103 (wc p l.length a b)), (1, qag8 l)] 2 (.tup []) [(0, .cells 103 (wc p l.length a b)), (1, qag8 (toS p.states.length l k s))] := by
 refine qaax (N := 37) Try.func77 rfl rfl (by kernel_rfl) qa11 (by simp) (by repeat' (first | exact trivial | refine And.intro ?_ ?_ | rfl | decide | exact PureR.ren _)) (by repeat' (first | exact trivial | refine And.intro ?_ ?_ | rfl | decide | exact PureR.ren _)) ?_
 rintro X hP hN hm
 unfold c_wto
 obtain ⟨K, hK⟩ : ∃ K, tgt p.states.length k = K := ⟨_, rfl⟩
 rw [hK] at hk
 by_cases hle : K ≤ p.states.length
 ·have hlt : K.toNat < l.length := by omega
  have hset : (l.map setc).set K.toNat (setc (qalw l[K.toNat] s)) = (toS p.states.length l k s).map setc := by
   unfold toS
   rw [hK, if_pos hle, List.map_set]
   congr 2
   rw [List.getD_eq_getElem?_getD, List.getElem?_eq_getElem hlt]; rfl
  have k2 : decide (K ≤ (p.states.length : Int)) = true := by simpa using hle
  have hj := fun q => wjoin_s l[K.toNat] s q
  generalize toS p.states.length l k s = L at hset
  have hget : l[K.toNat]? = some l[K.toNat] := List.getElem?_eq_getElem hlt
  generalize l[K.toNat] = x at hset hj hget
  generalize hjj : qalw x s = y at hset hj
  replace hj := Lib.hid hj
  unfold tgt at hK
  cases k1 : (k == 1000)
  ·have e : k = K := by rw [if_neg (by simpa using k1)] at hK; exact hK
   subst e
   repeat' (first | (with_reducible first | refine zA ?_ | refine zK ?_) | ((with_reducible first | refine qaac ?_ | refine qaa1 (by rw [hP]; exact qacx) ?_); (try rw [hP]); simp -implicitDefEqProofs [*]) | ((with_reducible refine qaaf ?_); (try simp -implicitDefEqProofs [*])) | ((with_reducible refine qaaa rfl (fun h => ?_) (fun h => ?_)) <;> have h' := h <;> (try simp at h') <;> (try subst h')) | ((with_reducible refine qabv ?_ ?_); (first | omega | (unfold maxLen; omega)); simp -implicitDefEqProofs [*]) | (refine qaa0 (hj.out _) ?_; simp -implicitDefEqProofs [*]) | (refine qbei hm rfl rfl ?_ ?_) | fail)
   ·rfl
   ·exact hset
  ·have e : (p.states.length : Int) = K := by rw [if_pos (by simpa using k1)] at hK; exact hK
   subst e
   have hget2 : l[p.states.length]? = some x := by simpa using hget
   have hget3 : l[p.states.length]'(by omega) = x := by rw [List.getElem?_eq_getElem (by omega)] at hget2; exact Option.some.inj hget2
   have hset2 : (l.map setc).set p.states.length (setc y) = L.map setc := by simpa using hset
   replace hset := Lib.hid hset
   repeat' (first | (with_reducible first | refine zA ?_ | refine zK ?_) | ((with_reducible first | refine qaac ?_ | refine qaa1 (by rw [hP]; exact qacx) ?_); (try rw [hP]); simp -implicitDefEqProofs [*]) | ((with_reducible refine qaaa rfl (fun h => ?_) (fun h => ?_)) <;> have h' := h <;> (try simp at h') <;> (try subst h')) | ((with_reducible refine qabv ?_ ?_); (first | omega | (unfold maxLen; omega)); simp -implicitDefEqProofs [*]) | (refine qaa0 (hj.out _) ?_; simp -implicitDefEqProofs [*]) | (refine qbei hm rfl rfl ?_ ?_) | fail)
   ·rfl
   ·exact hset2
 ·have hL : toS p.states.length l k s = l := by unfold toS; rw [hK, if_neg hle]
  rw [hL]
  have k2 : decide (K ≤ (p.states.length : Int)) = false := by simpa using hle
  unfold tgt at hK
  cases k1 : (k == 1000)
  ·have e : k = K := by rw [if_neg (by simpa using k1)] at hK; exact hK
   subst e
   repeat' (first | (with_reducible refine zA ?_) | ((with_reducible refine qaac ?_); (try rw [hP]); simp -implicitDefEqProofs [*]) | ((with_reducible refine qaaf ?_); (try simp -implicitDefEqProofs [*])) | ((with_reducible refine qaaa rfl (fun h => ?_) (fun h => ?_)) <;> have h' := h <;> (try simp at h') <;> (try subst h')) | (refine qbei hm rfl rfl ?_ rfl) | fail)
   all_goals rfl
  ·have e : (p.states.length : Int) = K := by rw [if_pos (by simpa using k1)] at hK; exact hK
   omega
end Go.Proofs.Ytnfjldobjgdiaaa
namespace Go.Proofs.Ytnfjldobjgdiaaa
set_option linter.all false
open Go.RowKit
attribute [local simp] qabg qabf qaas qaaz qaat qaay qabd qabe qaao qabn SOp.run SX.ev putd puts argS upds SOp.touch SSt.keep SSt.skip gets geth puth delh idOf SV.cells? setL qac5 qac6 sbin eq0 eq1 eqL qac4 qab1 qab2 qaap qabh qaag qabi qabo qaai qaaq FrzOk qaa9 qaa3 qaa7 qaa8 qaau qaa2 qabl qaa4 qaaw qaba qaav frzS frzH frz frz1 frz0 SlotsM ObjsM ObjM rn ren ren1 ren0 qabu qaca qacf qabt qabm qacg qace CoL qabb qach dels adds idsH qab3
attribute [local simp] qads refc qae3 qaet qacc opc actc tabc qad7 qacu nums setc wc
theorem qagi {P : Program} {f : FuncId} {args args' : List SV} {t : TypeId} {cs ds cs' ds' : List SV} {e z : Nat} {es fs : List (List SV)} [PureR es] [PureR fs] (h : SCalls P f args [(0, .cells t cs), (1, .row e z es)] 2 (.tup []) [(0, .cells t ds), (1, .row e z fs)]) (i j q : Nat) (hij : i ≠ j) (hi : i < q) (hj : j < q)
  (ha : args' = args.map (ren (sg [i, j] q))) (hc : cs' = cs.map (ren (sg [i, j] q))) (hd : ds' = ds.map (ren (sg [i, j] q))) (hok : ds.all ok2 = true) : SCalls P f args' [(i, .cells t cs'), (j, .row e z es)] q (.tup []) [(i, .cells t ds'), (j, .row e z fs)] := by
 have e0 : sg [i, j] q 0 = i := rfl
 have e1 : sg [i, j] q 1 = j := rfl
 refine qagj [i, j] h rfl (by simp [hij]) (by simp; omega) ha ?_ (by simp [idsH]) rfl rfl ?_ (by simp [idsH]) (by simp [idsH, e0, e1])
 ·refine ⟨⟨.cells t cs', by rw [e0]; simp [geth], rfl, by rw [hc]; exact CoL.refl _⟩, ⟨.row e z es, by rw [e1]; simp [geth, hij], rfl, rfl, by rw [PureR.ren]; exact CoLL.refl _⟩, trivial⟩
 ·exact ⟨⟨.cells t ds', by rw [e0]; simp [geth], rfl, hok, hd⟩, ⟨.row e z fs, by rw [e1]; simp [geth, hij], rfl, rfl, PureR.ok, (PureR.ren _).symm⟩, trivial⟩
theorem qaea (p : PlanD) (n : Nat) (a b : Int) (l : List SetsD) (is : Bool) (code at_ : Int) (q : Nat) (hq : 2 ≤ q) : SCalls Try.prog 75 [.ptr 0 0, .bool is, .int .i64 code, .int .i64 at_] [(0, .cells 103 (wc p n a b)), (1, qag8 l)] q (.tup []) [(0, .cells 103 (wc p n (qab9 a b is code at_).1 (qab9 a b is code at_).2)), (1, qag8 l)] :=
 qagi (wfail_s p n a b l is code at_) 0 1 q (by decide) (by omega) (by omega) rfl rfl rfl rfl
theorem qbda (p : PlanD) (a b : Int) (l : List SetsD) (n : Nat) (hln : l.length = n) (k : Int) (s : SetsD) (hn : p.states.length ≤ 1000) (hl : l.length = p.states.length + 1) (hk : 0 ≤ tgt p.states.length k) (q : Nat) (hq : 2 ≤ q) : SCalls Try.prog 77 [.ptr 0 0, .int .i64 k, .agg (setc s)] [(0, .cells 103 (wc p n a b)), (1, qag8 l)] q (.tup []) [(0, .cells 103 (wc p n a b)), (1, qag8 (toS p.states.length l k s))] := by
 subst hln
 exact qagi (wto_s p a b l k s hn hl hk) 0 1 q (by decide) (by omega) (by omega) rfl rfl rfl rfl
theorem qact (v : BitVec 64) : ((v.toNat : Int) != 0) = (v != 0) := by
 have := qba1 (v := v) (w := 0)
 rw [Bool.eq_iff_iff, bne_iff_ne, bne_iff_ne]
 exact not_congr this
theorem qac1 (v : BitVec 64) : ((v.toNat : Int) == 0) = (v == 0) := by
 have := qba1 (v := v) (w := 0)
 rw [Bool.eq_iff_iff, beq_iff_eq, beq_iff_eq]
 exact this
theorem qbd7 {h : Int} (h1 : h < 64) (j : Nat) : (bitB h).getLsbD j = decide (h.toNat = j) := by
 unfold bitB
 rw [BitVec.getLsbD_twoPow]
 by_cases e : h.toNat = j <;> simp [e]
 omega
theorem gone_eq {h o : Int} (h0 : 0 ≤ h ∧ h < 64) (ho : 0 ≤ o ∧ o < 64) (m : BitVec 64) : ((m ||| bitB h) &&& bitB o == 0) = (o != h && (m &&& bitB o == 0)) := by
 by_cases e : o = h
 ·subst e
  have : ¬ ((m ||| bitB o) &&& bitB o = 0) := fun hz => by
   have := congrArg (fun v => v.getLsbD o.toNat) hz
   simp [BitVec.getLsbD_and, BitVec.getLsbD_or, qbd7 h0.2] at this
  simpa using this
 ·have e2 : (m ||| bitB h) &&& bitB o = m &&& bitB o := BitVec.eq_of_getLsbD_eq fun j hj => by
   rw [BitVec.getLsbD_and, BitVec.getLsbD_or, BitVec.getLsbD_and, qbd7 h0.2, qbd7 ho.2]
   by_cases q1 : o.toNat = j
   ·have q2 : ¬ h.toNat = j := by omega
    simp [q1, q2]
   ·simp [q1]
  have e3 : (o != h) = true := by simpa using e
  rw [e2, e3, Bool.true_and]
theorem qa88 (a b at_ : Int) (s : StateD) (x : SetsD) (hx : x.there = true) (c1 c2 : Bool) (h1 : (decide (0 ≤ s.head) && (x.may &&& bitB s.head != 0)) = c1) (h2 : (decide (0 < s.cases_.length) && (decide (0 ≤ s.on.h) && (s.on.h != s.head && (x.must &&& bitB s.on.h == 0)))) = c2) :
  orF (a, b) (refC s x, at_) = qab9 (qab9 a b c1 7 at_).1 (qab9 a b c1 7 at_).2 c2 12 at_ := by
 unfold refC
 rw [if_neg (by rw [hx]; decide), h1, h2, qacp _ _ _ _ _ _ (by decide)]
 refine (qacp _ _ _ _ _ _ (by decide)).trans ?_
 exact qacj _ rfl
set_option maxHeartbeats 4000000 in
theorem qbbv (p : PlanD) (hp : PlOk p) (hk : qair p) (i : Nat) (hi : i < p.states.length) (a b : Int) (l : List SetsD) (hl : l.length = p.states.length + 1) (hb : 0 ≤ (l.getD i qadv).least ∧ (l.getD i qadv).least ≤ 256 ∧ 0 ≤ (l.getD i qadv).most ∧ (l.getD i qadv).most ≤ 256) :
  SCalls Try.prog 57 [.ptr 0 0, .int .i64 i] [(0, .cells 103 (wc p (p.states.length + 1) a b)), (1, qag8 l)] 2 (.tup []) [(0, .cells 103 (wc p (p.states.length + 1) (orF (a, b) (refC p.states[i] (l.getD i qadv), 3000 + i)).1 (orF (a, b) (refC p.states[i] (l.getD i qadv), 3000 + i)).2)), (1, qag8 (qaiv p p.states[i] i l))] := by
 refine qaax (N := 116) Try.func57 rfl rfl (by kernel_rfl) qajf (by simp) (by repeat' (first | exact trivial | refine And.intro ?_ ?_ | rfl | decide | exact PureR.ren _)) (by repeat' (first | exact trivial | refine And.intro ?_ ?_ | rfl | decide | exact PureR.ren _)) ?_
 rintro X hP hN hm
 unfold c_wstate
 have hli : i < l.length := by omega
 have hy : l[i]? = some (l.getD i qadv) := by rw [List.getD_eq_getElem?_getD, List.getElem?_eq_getElem hli]; rfl
 have hn := hp.states.2
 have ok := hp.ok i hi
 have hh6 := hp.heads
 have hts : ∀ t ∈ qacq p.states[i], 0 ≤ tgt p.states.length t := fun t ht => by have := qa8z ok hi hn ht; omega
 have hmem : p.states[i] ∈ p.states := List.getElem_mem hi
 have hS : qaiv p p.states[i] i l = if (l.getD i qadv).there then (qacq p.states[i]).foldl (fun m k => toS p.states.length m k (qba8 p p.states[i].head (l.getD i qadv))) l else l := rfl
 have hok1 := ok.head
 have hok2 := ok.on
 have hok3 := ok.cases_
 have hget3 : l[i]'hli = l.getD i qadv := by rw [List.getD_eq_getElem?_getD, List.getElem?_eq_getElem hli]; rfl
 generalize l.getD i qadv = y at hy hb hS hget3
 generalize hxx : p.states[i] = x at hts hS hok1 hok2 hok3
 clear ok hmem
 have wa : IntKind.i64.wrap (3000 + (i : Int)) = 3000 + (i : Int) := qaar (by omega) (by omega)
 cases hth : y.there
 ·rw [hth, if_neg (by decide)] at hS
  have hR : refC x y = 0 := by unfold refC; rw [if_pos hth]
  rw [hS, hR, show orF (a, b) (0, 3000 + (i : Int)) = (a, b) from qacj _ rfl]
  replace hS := Lib.hid hS
  replace hts := Lib.hid hts
  repeat' (first | (with_reducible first | refine zA ?_ | refine zK ?_) | ((with_reducible first | refine qaac ?_ | refine qaa1 (by rw [hP]; exact qacx) ?_); (try rw [hP]); simp -implicitDefEqProofs [*]) | ((with_reducible refine qaam ?_); (try simp only [qaap, qaag, qaai])) | ((with_reducible refine qaaa rfl (fun h => ?_) (fun h => ?_)) <;> have h' := h <;> (try simp at h') <;> (try subst h')) | ((with_reducible refine qabv ?_ ?_); (first | omega | (unfold maxLen; omega)); simp -implicitDefEqProofs [*]) | (refine fin_wr hm rfl rfl ?_ rfl) | fail)
  all_goals rfl
 ·rw [hth, if_pos rfl] at hS
  have hG := fun c1 c2 h1 h2 => qa88 a b (3000 + (i : Int)) x y hth c1 c2 h1 h2
  generalize orF (a, b) (refC x y, 3000 + (i : Int)) = G at hG
  obtain ⟨T, hT⟩ : ∃ T, qba8 p x.head y = T := ⟨_, rfl⟩
  rw [hT] at hS
  generalize qaiv p x i l = L at hS
  have hTt : T.there = true := by rw [← hT]; unfold qba8; split <;> first | rfl | exact hth
  have kn : decide (0 < x.cases_.length) = decide (0 < (x.cases_.length : Int)) := decide_eq_decide.2 (by omega)
  replace hS := Lib.hid hS
  replace hts := Lib.hid hts
  replace hG := Lib.hid hG
  have hto : ∀ (m : List SetsD) (hml : m.length = p.states.length + 1) (e g k : Int) (hk : 0 ≤ tgt p.states.length k) (q : Nat) (hq : 2 ≤ q), SCalls Try.prog 77 [.ptr 0 0, .int .i64 k, .agg [.int .u64 T.must.toNat, .int .u64 T.may.toNat, .int .i64 T.least, .int .i64 T.most, .bool true]] [(0, .cells 103 (wc p (p.states.length + 1) e g)), (1, qag8 m)] q (.tup []) [(0, .cells 103 (wc p (p.states.length + 1) e g)), (1, qag8 (toS p.states.length m k T))] := fun m hml e g k hk q hq => by
   have := qbda p e g m _ hml k T (by omega) hml hk q hq
   unfold setc at this
   rw [hTt] at this
   exact this
  have loopL : ∀ e g, G = (e, g) → SWp X (SCode.block 0 c_wstate_l1.loop) (QSeq X (SCode.reg false qagw []) (QFun X [] 2 (.tup []) [(0, .cells 103 (wc p (p.states.length + 1) G.1 G.2)), (1, qag8 L)]))
    ⟨[(0, .ptr 0 0), (4, .ptr 17 0), (5, .ptr 18 0), (99, .view 3 (x.cases_.map qaet)), (100, .int .i64 x.cases_.length), (101, .int .i64 0)], [(0, .cells 103 (wc p (p.states.length + 1) e g)), (1, qag8 l), (17, .cells 65 (qacc x)), (18, .cells 56 [.int .u64 T.must.toNat, .int .u64 T.may.toNat, .int .i64 T.least, .int .i64 T.most, .bool true])], 19⟩ := fun e g hge => by
   subst hge
   clear hG hget3 hb hth hTt hT
   replace hto := Lib.hid hto
   have h0 : L = (((x.cases_.drop 0).map CaseD.to_) ++ [x.els]).foldl (fun m k => toS p.states.length m k T) l := hS.out
   replace h0 := Lib.hid h0
   refine qaal (qaa5 (fun s (z : Nat × List SetsD) => s.turn [(101, .int .i64 z.1)] [(1, qag8 z.2)]) (fun z => z.1 ≤ x.cases_.length ∧ z.2.length = p.states.length + 1 ∧ L = (((x.cases_.drop z.1).map CaseD.to_) ++ [x.els]).foldl (fun m k => toS p.states.length m k T) z.2) (fun z => x.cases_.length - z.1) (0, l) ?_ ⟨by simp, hl, h0.out⟩ ?_)
   ·repeat' (first | ((with_reducible refine qaah [] hm ?_ ?_ ?_ ?_) <;> (try simp only [zT, puth, Nat.reduceEqDiff, reduceIte, Nat.reduceAdd])) | (with_reducible first | refine za ?_ ?_ | refine zb ?_ ?_ ?_ ?_ | refine zc ?_ ?_ ?_ ?_) | (with_reducible first | exact qaab | exact qaad) | ((with_reducible first | refine zga ?_ | refine zgb ?_); rfl) | ((with_reducible refine zgc ?_); (first | (with_reducible rfl) | rfl | (simp; done))) | ((with_reducible refine zgd ?_); (first | omega | (simp; done))) | (exact Co.refl _) | (exact CoL.refl _) | fail)
   rintro J hJ ⟨j, m⟩ ⟨h1, hml, h2⟩
   unfold c_wstate_l1
   simp only [zT, puth, Nat.reduceEqDiff, reduceIte, Nat.reduceAdd] at h1 hml h2 ⊢
   clear hl hy hli h0
   rcases Nat.lt_or_ge j x.cases_.length with hj | hj
   ·have htm : 0 ≤ tgt p.states.length x.cases_[j].to_ := hts.out _ (List.mem_append_left _ (List.mem_map.2 ⟨_, List.getElem_mem hj, rfl⟩))
    rw [List.drop_eq_getElem_cons hj, List.map_cons, List.cons_append, List.foldl_cons] at h2
    have hsl : (toS p.states.length m x.cases_[j].to_ T).length = p.states.length + 1 := by rw [qa0u, hml]
    generalize hcc : x.cases_[j] = c at h2 htm hsl
    have wj : IntKind.i64.wrap ((j : Int) + 1) = (j : Int) + 1 := qaar (by omega) (by omega)
    replace h2 := Lib.hid h2
    replace hsl := Lib.hid hsl
    replace hml := Lib.hid hml
    replace htm := Lib.hid htm
    repeat' (first | (with_reducible first | refine zA ?_ | refine qaae ?_) | ((with_reducible refine qaac ?_); (try rw [hP]); simp -implicitDefEqProofs [*]) | ((with_reducible refine qaaf ?_); (try simp -implicitDefEqProofs [*])) | ((with_reducible refine qaaa rfl (fun h => ?_) (fun h => ?_)) <;> have h' := h <;> (try simp at h') <;> (try subst h')) | (refine qaby (hto.out m hml.out _ _ c.to_ htm.out _ (by simp)) ⟨rfl, rfl, trivial⟩ ⟨rfl, rfl, trivial⟩ ?_; simp -implicitDefEqProofs [*]) | (with_reducible first | refine za ?_ ?_ | refine zb ?_ ?_ ?_ ?_ | refine zc ?_ ?_ ?_ ?_) | (with_reducible first | exact qaab | exact qaad) | ((with_reducible first | refine zga ?_ | refine zgb ?_); rfl) | ((with_reducible refine zgc ?_); (first | (with_reducible rfl) | rfl | (simp; done))) | ((with_reducible first | refine zgd ?_ | refine zge ?_); (first | omega | (simp; done))) | (exact Co.refl _) | (exact CoL.refl _) | ((refine qaaj hJ (j + 1, toS p.states.length m c.to_ T) ?_ ?_ ?_; (with_reducible refine qaah [] hm ?_ ?_ ?_ ?_) <;> (try simp only [zT, puth, Nat.reduceEqDiff, reduceIte, Nat.reduceAdd]))) | fail)
    all_goals (exact ⟨by omega, hsl.out, h2.out⟩)
   ·obtain rfl : j = x.cases_.length := by omega
    rw [List.drop_length] at h2
    have h3 : L = toS p.states.length m x.els T := h2
    have htm : 0 ≤ tgt p.states.length x.els := hts.out _ (List.mem_append_right _ (by simp))
    replace h2 := Lib.hid h2
    replace h3 := Lib.hid h3
    replace hml := Lib.hid hml
    replace htm := Lib.hid htm
    repeat' (first | (with_reducible refine zA ?_) | ((with_reducible refine qaac ?_); (try rw [hP]); simp -implicitDefEqProofs [*]) | ((with_reducible refine qaak ?_); (try simp -implicitDefEqProofs [*])) | ((with_reducible refine qaaa rfl (fun h => ?_) (fun h => ?_)) <;> have h' := h <;> (try simp at h') <;> (try subst h')) | (refine qaby (hto.out m hml.out _ _ x.els htm.out _ (by simp)) ⟨rfl, rfl, trivial⟩ ⟨rfl, rfl, trivial⟩ ?_; simp -implicitDefEqProofs [*]) | (refine qbei hm rfl rfl ?_ ?_) | fail)
    ·rfl
    ·rw [h3.out]
  replace hto := Lib.hid hto
  replace loopL := Lib.hid loopL
  cases kh : decide (0 ≤ x.head)
  ·have hTy : T = y := by rw [← hT]; unfold qba8; rw [if_neg (of_decide_eq_false kh)]
   subst hTy
   replace hT := Lib.hid hT
   replace hok2 := Lib.hid hok2
   have hd : x.head < 0 := by have := of_decide_eq_false kh; omega
   cases kc : decide (0 < (x.cases_.length : Int)) <;> rw [kc] at kn
   ·have hf := hG.out false false (by rw [kh]; rfl) (by rw [kn]; rfl)
    simp only [qabs] at hf
    replace hf := Lib.hid hf
    repeat' (first | (with_reducible first | refine zA ?_ | refine zK ?_) | ((with_reducible first | refine qaac ?_ | refine qaa1 (by rw [hP]; exact qacx) ?_); (try rw [hP]); simp -implicitDefEqProofs [-BitVec.toNat_and, -BitVec.toNat_or, qabp, qabx, qact, qac1, *]) | ((with_reducible refine qaaf ?_); (try simp -implicitDefEqProofs [-BitVec.toNat_and, -BitVec.toNat_or, qabp, qabx, qact, qac1, *])) | ((with_reducible refine qaaa rfl (fun h => ?_) (fun h => ?_)) <;> have h' := h <;> (try simp at h') <;> (try subst h')) | ((with_reducible refine qabv ?_ ?_); (first | omega | (unfold maxLen; omega)); simp -implicitDefEqProofs [-BitVec.toNat_and, -BitVec.toNat_or, qabp, qabx, qact, qac1, *]) | fail)
    refine qac9 ?_ (loopL.out _ _ hf.out)
    repeat' (first | ((with_reducible refine qaah [] hm ?_ ?_ ?_ ?_) <;> (try simp only [zT, puth, Nat.reduceEqDiff, reduceIte, Nat.reduceAdd])) | (with_reducible first | refine za ?_ ?_ | refine zb ?_ ?_ ?_ ?_ | refine zc ?_ ?_ ?_ ?_) | (with_reducible first | exact qaab | exact qaad) | ((with_reducible first | refine zga ?_ | refine zgb ?_); rfl) | ((with_reducible refine zgc ?_); (first | (with_reducible rfl) | rfl | (simp; done))) | ((with_reducible refine zgd ?_); (first | omega | (simp; done))) | (exact Co.refl _) | (exact CoL.refl _) | fail)
   ·cases ko : decide (0 ≤ x.on.h)
    ·have hf := hG.out false false (by rw [kh]; rfl) (by rw [kn, ko]; rfl)
     simp only [qabs] at hf
     replace hf := Lib.hid hf
     repeat' (first | (with_reducible first | refine zA ?_ | refine zK ?_) | ((with_reducible first | refine qaac ?_ | refine qaa1 (by rw [hP]; exact qacx) ?_); (try rw [hP]); simp -implicitDefEqProofs [-BitVec.toNat_and, -BitVec.toNat_or, qabp, qabx, qact, qac1, qabs, *]) | ((with_reducible refine qaaf ?_); (try simp -implicitDefEqProofs [-BitVec.toNat_and, -BitVec.toNat_or, qabp, qabx, qact, qac1, qabs, *])) | ((with_reducible refine qaaa rfl (fun h => ?_) (fun h => ?_)) <;> have h' := h <;> (try simp at h') <;> (try subst h')) | ((with_reducible refine qabv ?_ ?_); (first | omega | (unfold maxLen; omega)); simp -implicitDefEqProofs [-BitVec.toNat_and, -BitVec.toNat_or, qabp, qabx, qact, qac1, qabs, *]) | (refine qaby (qaea p _ _ _ l _ _ _ _ (by simp)) ⟨rfl, rfl, trivial⟩ ⟨rfl, rfl, trivial⟩ ?_; simp -implicitDefEqProofs [-BitVec.toNat_and, -BitVec.toNat_or, qabp, qabx, qact, qac1, qabs, *]) | fail)
     refine qac9 ?_ (loopL.out _ _ hf.out)
     repeat' (first | ((with_reducible refine qaah [] hm ?_ ?_ ?_ ?_) <;> (try simp only [zT, puth, Nat.reduceEqDiff, reduceIte, Nat.reduceAdd])) | (with_reducible first | refine za ?_ ?_ | refine zb ?_ ?_ ?_ ?_ | refine zc ?_ ?_ ?_ ?_) | (with_reducible first | exact qaab | exact qaad) | ((with_reducible first | refine zga ?_ | refine zgb ?_); rfl) | ((with_reducible refine zgc ?_); (first | (with_reducible rfl) | rfl | (simp; done))) | ((with_reducible refine zgd ?_); (first | omega | (simp; done))) | (exact Co.refl _) | (exact CoL.refl _) | fail)
    ·have hoh := hok2.out (by have := of_decide_eq_true kc; omega)
     have ho0 := of_decide_eq_true ko
     have hne : (x.on.h != x.head) = true := by rw [bne_iff_ne]; omega
     have hf := hG.out false _ (by rw [kh]; rfl) (by rw [kn, ko, hne, Bool.true_and, Bool.true_and, Bool.true_and])
     simp only [qabs] at hf
     have hbt := fun q => qbbz x.on.h ho0 (by omega) q
     replace hf := Lib.hid hf
     replace hbt := Lib.hid hbt
     clear hne
     repeat' (first | (with_reducible first | refine zA ?_ | refine zK ?_) | ((with_reducible first | refine qaac ?_ | refine qaa1 (by rw [hP]; exact qacx) ?_); (try rw [hP]); simp -implicitDefEqProofs [-BitVec.toNat_and, -BitVec.toNat_or, qabp, qabx, qact, qac1, *]) | ((with_reducible refine qaaf ?_); (try simp -implicitDefEqProofs [-BitVec.toNat_and, -BitVec.toNat_or, qabp, qabx, qact, qac1, *])) | ((with_reducible refine qaaa rfl (fun h => ?_) (fun h => ?_)) <;> have h' := h <;> (try simp at h') <;> (try subst h')) | ((with_reducible refine qabv ?_ ?_); (first | omega | (unfold maxLen; omega)); simp -implicitDefEqProofs [-BitVec.toNat_and, -BitVec.toNat_or, qabp, qabx, qact, qac1, *]) | ((first | refine qaby (qaea p _ _ _ l _ _ _ _ (by simp)) ⟨rfl, rfl, trivial⟩ ⟨rfl, rfl, trivial⟩ ?_ | refine qaa0 (hbt.out _) ?_); simp -implicitDefEqProofs [-BitVec.toNat_and, -BitVec.toNat_or, qabp, qabx, qact, qac1, *]) | fail)
     refine qac9 ?_ (loopL.out _ _ hf.out)
     repeat' (first | ((with_reducible refine qaah [] hm ?_ ?_ ?_ ?_) <;> (try simp only [zT, puth, Nat.reduceEqDiff, reduceIte, Nat.reduceAdd])) | (with_reducible first | refine za ?_ ?_ | refine zb ?_ ?_ ?_ ?_ | refine zc ?_ ?_ ?_ ?_) | (with_reducible first | exact qaab | exact qaad) | ((with_reducible first | refine zga ?_ | refine zgb ?_); rfl) | ((with_reducible refine zgc ?_); (first | (with_reducible rfl) | rfl | (simp; done))) | ((with_reducible refine zgd ?_); (first | omega | (simp; done))) | (exact Co.refl _) | (exact CoL.refl _) | fail)
  ·have hh0 := of_decide_eq_true kh
   have hS2 := qaly hp hh0 hok1.2
   have hE : T = ⟨y.must ||| bitB x.head, y.may ||| bitB x.head, y.least + qag5 p x.head, y.most + qag5 p x.head, true⟩ := by rw [← hT]; unfold qba8; rw [if_pos hh0]
   have hM : y.must ||| bitB x.head = T.must := by rw [hE]
   have hY : y.may ||| bitB x.head = T.may := by rw [hE]
   have hgeq : ∀ o, 0 ≤ o → o < 64 → (T.must &&& bitB o == 0) = (o != x.head && (y.must &&& bitB o == 0)) := fun o h0 h1 => by rw [← hM]; exact gone_eq ⟨hh0, by omega⟩ ⟨h0, h1⟩ y.must
   have hLe : IntKind.i64.wrap (y.least + qag5 p x.head) = T.least := by rw [hE]; exact qaar (by omega) (by omega)
   have hMo : IntKind.i64.wrap (y.most + qag5 p x.head) = T.most := by rw [hE]; exact qaar (by omega) (by omega)
   have hlt : x.head.toNat < p.heads.length := by omega
   have hsz : headW p x.head = p.heads[x.head.toNat].w := by unfold headW; rw [List.getElem?_eq_getElem hlt]; rfl
   have hcs := fun q => qbbg p.heads[x.head.toNat].w q
   rw [← hsz] at hcs
   unfold qall at hcs
   rw [show qapl (headW p x.head) = qag5 p x.head from rfl] at hcs
   generalize qag5 p x.head = N at hLe hMo hcs
   have hbh := fun q => qbbz x.head hh0 (by omega) q
   generalize hq1 : p.heads[x.head.toNat] = hd at hsz
   have hsz2 : hd.w = headW p x.head := hsz.symm
   generalize headW p x.head = ws at hcs hsz2
   clear hE hT hS2 hsz
   replace hcs := Lib.hid hcs
   replace hbh := Lib.hid hbh
   replace hgeq := Lib.hid hgeq
   replace hok2 := Lib.hid hok2
   cases kc : decide (0 < (x.cases_.length : Int)) <;> rw [kc] at kn
   ·have hf := hG.out _ false (by rw [kh, Bool.true_and]) (by rw [kn]; rfl)
    simp only [qabs] at hf
    replace hf := Lib.hid hf
    repeat' (first | (with_reducible first | refine zA ?_ | refine zK ?_) | ((with_reducible first | refine qaac ?_ | refine qaa1 (by rw [hP]; exact qacx) ?_); (try rw [hP]); simp -implicitDefEqProofs [-BitVec.toNat_and, -BitVec.toNat_or, qabp, qabx, qact, qac1, *]) | ((with_reducible refine qaaf ?_); (try simp -implicitDefEqProofs [-BitVec.toNat_and, -BitVec.toNat_or, qabp, qabx, qact, qac1, *])) | ((with_reducible refine qaaa rfl (fun h => ?_) (fun h => ?_)) <;> have h' := h <;> (try simp at h') <;> (try subst h')) | ((with_reducible refine qabv ?_ ?_); (first | omega | (unfold maxLen; omega)); simp -implicitDefEqProofs [-BitVec.toNat_and, -BitVec.toNat_or, qabp, qabx, qact, qac1, *]) | ((first | refine qaby (qaea p _ _ _ l _ _ _ _ (by simp)) ⟨rfl, rfl, trivial⟩ ⟨rfl, rfl, trivial⟩ ?_ | refine qaa0 (hcs.out _) ?_ | refine qaa0 (hbh.out _) ?_); simp -implicitDefEqProofs [-BitVec.toNat_and, -BitVec.toNat_or, qabp, qabx, qact, qac1, *]) | fail)
    refine qac9 ?_ (loopL.out _ _ hf.out)
    repeat' (first | ((with_reducible refine qaah [] hm ?_ ?_ ?_ ?_) <;> (try simp only [zT, puth, Nat.reduceEqDiff, reduceIte, Nat.reduceAdd])) | (with_reducible first | refine za ?_ ?_ | refine zb ?_ ?_ ?_ ?_ | refine zc ?_ ?_ ?_ ?_) | (with_reducible first | exact qaab | exact qaad) | ((with_reducible first | refine zga ?_ | refine zgb ?_); rfl) | ((with_reducible refine zgc ?_); (first | (with_reducible rfl) | rfl | (simp; done))) | ((with_reducible refine zgd ?_); (first | omega | (simp; done))) | (exact Co.refl _) | (exact CoL.refl _) | fail)
   ·cases ko : decide (0 ≤ x.on.h)
    ·have hf := hG.out _ false (by rw [kh, Bool.true_and]) (by rw [kn, ko]; rfl)
     simp only [qabs] at hf
     replace hf := Lib.hid hf
     repeat' (first | (with_reducible first | refine zA ?_ | refine zK ?_) | ((with_reducible first | refine qaac ?_ | refine qaa1 (by rw [hP]; exact qacx) ?_); (try rw [hP]); simp -implicitDefEqProofs [-BitVec.toNat_and, -BitVec.toNat_or, qabp, qabx, qact, qac1, qabs, *]) | ((with_reducible refine qaaf ?_); (try simp -implicitDefEqProofs [-BitVec.toNat_and, -BitVec.toNat_or, qabp, qabx, qact, qac1, qabs, *])) | ((with_reducible refine qaaa rfl (fun h => ?_) (fun h => ?_)) <;> have h' := h <;> (try simp at h') <;> (try subst h')) | ((with_reducible refine qabv ?_ ?_); (first | omega | (unfold maxLen; omega)); simp -implicitDefEqProofs [-BitVec.toNat_and, -BitVec.toNat_or, qabp, qabx, qact, qac1, qabs, *]) | ((first | refine qaby (qaea p _ _ _ l _ _ _ _ (by simp)) ⟨rfl, rfl, trivial⟩ ⟨rfl, rfl, trivial⟩ ?_ | refine qaa0 (hcs.out _) ?_ | refine qaa0 (hbh.out _) ?_); simp -implicitDefEqProofs [-BitVec.toNat_and, -BitVec.toNat_or, qabp, qabx, qact, qac1, qabs, *]) | fail)
     refine qac9 ?_ (loopL.out _ _ hf.out)
     repeat' (first | ((with_reducible refine qaah [] hm ?_ ?_ ?_ ?_) <;> (try simp only [zT, puth, Nat.reduceEqDiff, reduceIte, Nat.reduceAdd])) | (with_reducible first | refine za ?_ ?_ | refine zb ?_ ?_ ?_ ?_ | refine zc ?_ ?_ ?_ ?_) | (with_reducible first | exact qaab | exact qaad) | ((with_reducible first | refine zga ?_ | refine zgb ?_); rfl) | ((with_reducible refine zgc ?_); (first | (with_reducible rfl) | rfl | (simp; done))) | ((with_reducible refine zgd ?_); (first | omega | (simp; done))) | (exact Co.refl _) | (exact CoL.refl _) | fail)
    ·have hoh := hok2.out (by have := of_decide_eq_true kc; omega)
     have ho0 := of_decide_eq_true ko
     have hf := hG.out _ _ (by rw [kh, Bool.true_and]) (by rw [kn, ko, Bool.true_and, Bool.true_and, ← hgeq.out _ ho0 (by omega)])
     have hbt := fun q => qbbz x.on.h ho0 (by omega) q
     replace hf := Lib.hid hf
     replace hbt := Lib.hid hbt
     repeat' (first | (with_reducible first | refine zA ?_ | refine zK ?_) | ((with_reducible first | refine qaac ?_ | refine qaa1 (by rw [hP]; exact qacx) ?_); (try rw [hP]); simp -implicitDefEqProofs [-BitVec.toNat_and, -BitVec.toNat_or, qabp, qabx, qact, qac1, *]) | ((with_reducible refine qaaf ?_); (try simp -implicitDefEqProofs [-BitVec.toNat_and, -BitVec.toNat_or, qabp, qabx, qact, qac1, *])) | ((with_reducible refine qaaa rfl (fun h => ?_) (fun h => ?_)) <;> have h' := h <;> (try simp at h') <;> (try subst h')) | ((with_reducible refine qabv ?_ ?_); (first | omega | (unfold maxLen; omega)); simp -implicitDefEqProofs [-BitVec.toNat_and, -BitVec.toNat_or, qabp, qabx, qact, qac1, *]) | ((first | refine qaby (qaea p _ _ _ l _ _ _ _ (by simp)) ⟨rfl, rfl, trivial⟩ ⟨rfl, rfl, trivial⟩ ?_ | refine qaa0 (hcs.out _) ?_ | refine qaa0 (hbh.out _) ?_ | refine qaa0 (hbt.out _) ?_); simp -implicitDefEqProofs [-BitVec.toNat_and, -BitVec.toNat_or, qabp, qabx, qact, qac1, *]) | fail)
     refine qac9 ?_ (loopL.out _ _ hf.out)
     repeat' (first | ((with_reducible refine qaah [] hm ?_ ?_ ?_ ?_) <;> (try simp only [zT, puth, Nat.reduceEqDiff, reduceIte, Nat.reduceAdd])) | (with_reducible first | refine za ?_ ?_ | refine zb ?_ ?_ ?_ ?_ | refine zc ?_ ?_ ?_ ?_) | (with_reducible first | exact qaab | exact qaad) | ((with_reducible first | refine zga ?_ | refine zgb ?_); rfl) | ((with_reducible refine zgc ?_); (first | (with_reducible rfl) | rfl | (simp; done))) | ((with_reducible refine zgd ?_); (first | omega | (simp; done))) | (exact Co.refl _) | (exact CoL.refl _) | fail)
end Go.Proofs.Ytnfjldobjgdiaaa
namespace Go.Proofs.Ytnfjldobjgdiaaa
set_option linter.all false
open Go.RowKit
attribute [local simp] qabg qabf qaas qaaz qaat qaay qabd qabe qaao qabn SOp.run SX.ev putd puts argS upds SOp.touch SSt.keep SSt.skip gets geth puth delh idOf SV.cells? setL qac5 qac6 sbin eq0 eq1 eqL qac4 qab1 qab2 qaap qabh qaag qabi qabo qaai qaaq FrzOk qaa9 qaa3 qaa7 qaa8 qaau qaa2 qabl qaa4 qaaw qaba qaav frzS frzH frz frz1 frz0 SlotsM ObjsM ObjM rn ren ren1 ren0 qabu qaca qacf qabt qabm qacg qace CoL qabb qach dels adds idsH qab3
attribute [local simp] qads refc qae3 qaet qacc opc actc tabc qad7 qacu nums setc
theorem qagr {X : Cx} {sl : Sl} {hp : Hp} {t u nx id n : Nat} {ty : TypeId} {cs ds : List SV} {v v' r : SV} (hm : X.m = 0) (hne : t ≠ u) (hv : gets sl t = v') (hvv : Co v' v) (hN : NoN v) (hu : gets sl u = .ptr id 0) (h : geth hp id = some (.cells ty cs)) (ha : qahc X.P ty = some true) (hn : qab8 X.P ty = some n) (hl : ds.length = n) (e : CoL cs ds) (hr : r = .tup [v, .agg ds]) (hd : ∀ σ, ds.map (Go.Proofs.Ytnfjldobjgdiaaa.ren σ) = ds) : QFun X [.tmp t, .cell u ty] 0 r [] .ret ⟨sl, hp, nx⟩ := by
 subst hr hl
 have hw : Wk X ⟨sl, hp, nx⟩ ⟨[(t, v), (u, .ptr 0 0)], [(0, .cells ty ds)], 1⟩ := by
  refine qaah [(0, id)] hm ⟨?_, ?_, trivial⟩ ⟨⟨_, h, rfl, by rw [hd]; exact e⟩, trivial⟩ rfl (by simp)
  ·rw [hv, hN]; exact hvv
  ·rw [hu]; exact Co.refl _
 refine ⟨_, hw, ?_, trivial, by simp⟩
 simp [qa8v, resL, resV, one_, gets, ha, hn, SOp.run, SX.ev, geth, hne]
def wcR (p : PlanD) (R n : Nat) (a b : Int) : List SV := qacu p ++ [.own R n, .int .i64 a, .int .i64 b]
attribute [local simp] wcR
theorem qard (p : PlanD) (hp : PlOk p) (hk : qair p) (i : Nat) (hi : i < p.states.length) (a b : Int) (W R q : Nat) (hWR : W ≠ R) (hW : W < q) (hR : R < q) :
  SCalls Try.prog 57 [.ptr W 0, .int .i64 i] [(W, .cells 103 (wcR p R (p.states.length + 1) a b)), (R, qag8 (qadb p i))] q (.tup []) [(W, .cells 103 (wcR p R (p.states.length + 1) (orF (a, b) (refC p.states[i] (setAt p i), 3000 + i)).1 (orF (a, b) (refC p.states[i] (setAt p i), 3000 + i)).2)), (R, qag8 (qadb p (i + 1)))] := by
 have e : setAt p i = (qadb p i).getD i qadv := qaqs hp (by omega) (Nat.le_refl _)
 rw [e, qafi p hi]
 exact qagi (qbbv p hp hk i hi a b (qadb p i) (qac7 p i) (qa81 hp (by omega) (by omega))) W R q hWR hW hR rfl rfl rfl rfl
theorem qal1 (p : PlanD) : orF (0, 0) (qaew p) = qaew p := by
 by_cases h : (qaew p).1 = 0
 ·have : qaew p = (0, 0) := qaic h
  rw [this]; rfl
 ·unfold orF; simp [h]
theorem qbb7 (p : PlanD) : (List.replicate (p.states.length + 1) [SV.int .u64 0, .int .u64 0, .int .i64 0, .int .i64 0, .bool false]).set 0 [SV.int .u64 0, .int .u64 0, .int .i64 0, .int .i64 0, .bool true] = (qadb p 0).map setc := by
 unfold qadb
 rw [List.map_set, List.map_replicate]; rfl
set_option maxHeartbeats 4000000 in
theorem walk_s (p : PlanD) (hs : SmallP p) (hk : qair p) (q : Nat) : SCalls Try.prog 22 [.agg (qacu p)] [] q (.tup [.view 5 ((qapd p).map setc), .agg [.int .i64 (qalp p).1, .int .i64 (qalp p).2]]) [] := by
 refine qabj ?_ (fun _ => rfl) (fun _ => rfl) rfl q
 refine qaax (N := 52) Try.func22 rfl rfl (by kernel_rfl) qaq7 (by simp) (by repeat' (first | exact trivial | refine And.intro ?_ ?_ | rfl | decide | exact PureR.ren _)) (by repeat' (first | exact trivial | refine And.intro ?_ ?_ | rfl | decide | exact PureR.ren _)) ?_
 rintro X hP hN hm
 unfold c_walk
 have hc := fun q => qbcg p hs hk q
 have hns := hs.states
 by_cases h0 : (qafk p).1 = 0
 ·have hp := pok_of h0
  have hF : qalp p = qaew p := by unfold qalp; rw [if_neg (by simpa using h0)]
  have hL : qapd p = if (qaew p).1 ≠ 0 then [] else qaix p := by unfold qapd; rw [hF]
  rw [hF, hL]
  have hF0 : qaew p = orF (0, 0) (rowF (fun i s => refC s (setAt p i)) 3000 0 p.states) := (qal1 p).symm
  have hz0 : (qaew p).1 = 0 → qaew p = (0, 0) := fun h => qaic h
  generalize qaew p = F at hF0 hz0
  replace hz0 := Lib.hid hz0
  have kc : ((qafk p).1 != 0) = false := by simpa using h0
  generalize qafk p = C at hc kc
  have hn1 : p.states.length ≤ 8 := hp.states.2
  have wn : IntKind.i64.wrap ((p.states.length : Int) + 1) = (p.states.length : Int) + 1 := qaar (by omega) (by omega)
  have hmx : p.states.length + 1 ≤ maxLen := by unfold maxLen; omega
  have hset0 := qbb7 p
  replace hF0 := Lib.hid hF0
  replace hc := Lib.hid hc
  replace hset0 := Lib.hid hset0
  clear hF hL h0
  repeat' (first | (with_reducible first | refine zA ?_ | refine zK ?_) | ((with_reducible first | refine qaac ?_ | refine qaa1 (by rw [hP]; exact qacx) ?_); (try rw [hP]); simp -implicitDefEqProofs [*]) | ((with_reducible refine qaaf ?_); (try simp -implicitDefEqProofs [*])) | ((with_reducible refine qaaa rfl (fun h => ?_) (fun h => ?_)) <;> have h' := h <;> (try simp at h') <;> (try subst h')) | ((with_reducible refine qabv ?_ ?_); (first | omega | (unfold maxLen; omega)); simp -implicitDefEqProofs [*]) | (refine qaa0 (hc.out _) ?_; simp -implicitDefEqProofs [*]) | fail)
  refine qaal (qaa5 (fun s (z : Nat × Int × Int) => s.turn [(30, .int .i64 z.1)] [(24, .cells 103 (wcR p 22 (p.states.length + 1) z.2.1 z.2.2)), (22, qag8 (qadb p z.1))]) (fun z => z.1 ≤ p.states.length ∧ F = orF (z.2.1, z.2.2) (rowF (fun i s => refC s (setAt p i)) 3000 z.1 (p.states.drop z.1))) (fun z => p.states.length - z.1) (0, 0, 0) ?_ ⟨by simp, hF0.out⟩ ?_)
  ·repeat' (first | ((with_reducible refine qaah [] hm ?_ ?_ ?_ ?_) <;> (try simp only [zT, puth, Nat.reduceEqDiff, reduceIte, Nat.reduceAdd])) | (with_reducible first | refine za ?_ ?_ | refine zb ?_ ?_ ?_ ?_ | refine zc ?_ ?_ ?_ ?_) | (with_reducible first | exact qaab | exact qaad) | ((with_reducible first | refine zga ?_ | refine zgb ?_); rfl) | ((with_reducible refine zgd ?_); (first | omega | (simp; done))) | (exact Co.refl _) | (exact CoL.refl _) | fail)
   all_goals (exact hset0.out)
  rintro J hJ ⟨i, e, g⟩ ⟨h1, h2⟩
  unfold qaqf
  simp only [zT, puth, Nat.reduceEqDiff, reduceIte, Nat.reduceAdd] at h1 h2 ⊢
  rcases Nat.lt_or_ge i p.states.length with hi | hi
  ·rw [qadd _ _ hi, qad8] at h2
   have hcs := fun q h1 h2 => qard p hp hk i hi e g 24 22 q (by decide) h1 h2
   generalize orF (e, g) (refC p.states[i] (setAt p i), 3000 + (i : Int)) = G at h2 hcs
   have wi : IntKind.i64.wrap ((i : Int) + 1) = (i : Int) + 1 := qaar (by omega) (by omega)
   replace h2 := Lib.hid h2
   replace hcs := Lib.hid hcs
   replace hp := Lib.hid hp
   repeat' (first | (with_reducible first | refine zA ?_ | refine qaae ?_) | ((with_reducible refine qaac ?_); (try rw [hP]); simp -implicitDefEqProofs [*]) | ((with_reducible refine qaaf ?_); (try simp -implicitDefEqProofs [*])) | ((with_reducible refine qaaa rfl (fun h => ?_) (fun h => ?_)) <;> have h' := h <;> (try simp at h') <;> (try subst h')) | (refine qaby (hcs.out _ (by simp) (by simp)) ⟨rfl, rfl, trivial⟩ ⟨rfl, rfl, trivial⟩ ?_; simp -implicitDefEqProofs [*]) | (with_reducible first | refine za ?_ ?_ | refine zb ?_ ?_ ?_ ?_ | refine zc ?_ ?_ ?_ ?_) | (with_reducible first | exact qaab | exact qaad) | ((with_reducible first | refine zga ?_ | refine zgb ?_); rfl) | ((with_reducible refine zgc ?_); (first | (with_reducible rfl) | rfl | (simp; done))) | ((with_reducible first | refine zgd ?_ | refine zge ?_); (first | omega | (simp; done))) | (exact Co.refl _) | (exact CoL.refl _) | ((refine qaaj hJ (i + 1, ?_, ?_) ?_ ?_ ?_; rotate_left 2; (with_reducible refine qaah [] hm ?_ ?_ ?_ ?_) <;> (try simp only [zT, puth, Nat.reduceEqDiff, reduceIte, Nat.reduceAdd]))) | fail)
   all_goals (try dsimp only)
   all_goals (exact ⟨by omega, h2.out⟩)
  ·obtain rfl : i = p.states.length := by omega
   rw [List.drop_length] at h2
   have h3 : F = (e, g) := by rw [h2]; exact qacj _ rfl
   subst h3
   have hlen : ((qadb p p.states.length).map setc).length = p.states.length + 1 := by rw [List.length_map, qac7]
   clear h2 hF0
   replace hp := Lib.hid hp
   by_cases he : e = 0
   ·subst he
    obtain rfl : g = 0 := (Prod.mk.inj (hz0.out rfl)).2
    repeat' (first | ((with_reducible refine qac2 (c := .seq (.reg false qajx [2, 3]) .ret) ?_)) | (with_reducible refine zA ?_) | ((with_reducible refine qaac ?_); (try rw [hP]); simp -implicitDefEqProofs [*]) | ((with_reducible first | refine qaaf ?_ | refine qaak ?_); (try simp -implicitDefEqProofs [*])) | ((with_reducible refine qaaa rfl (fun h => ?_) (fun h => ?_)) <;> have h' := h <;> (try simp at h') <;> (try subst h')) | fail)
    constructor
    refine qado [22] ?_ ?_
    ·simp only [FrzOk, geth, Nat.reduceEqDiff, reduceIte, qady, and_true]
    have htk : ((qadb p p.states.length).map setc).take (p.states.length + 1) = (qadb p p.states.length).map setc := List.take_of_length_le (by rw [hlen]; exact Nat.le_refl _)
    simp -implicitDefEqProofs [htk, hlen, Nat.le_refl]
    repeat' (first | (with_reducible refine zA ?_) | ((with_reducible refine qaac ?_); (try rw [hP]); simp -implicitDefEqProofs [*]) | ((with_reducible refine qaam ?_); (try simp only [qaap, qaag, qaai])) | (refine qagr hm (by decide) rfl (Co.refl _) (qad2 _ _) rfl rfl (by rw [hP]; exact qabk) (by rw [hP]; exact qabc) rfl (CoL.refl _) ?_ (fun σ => rfl)) | fail)
    all_goals rfl
   ·have ke : (e != 0) = true := by simpa using he
    repeat' (first | (with_reducible first | refine zA ?_ | refine zK ?_) | ((with_reducible first | refine qaac ?_ | refine qaa1 (by rw [hP]; exact qacx) ?_); (try rw [hP]); simp -implicitDefEqProofs [*]) | ((with_reducible refine qaak ?_); (try simp -implicitDefEqProofs [*])) | ((with_reducible refine qaam ?_); (try simp only [qaap, qaag, qaai])) | ((with_reducible refine qaaa rfl (fun h => ?_) (fun h => ?_)) <;> have h' := h <;> (try simp at h') <;> (try subst h')) | (refine qagr hm (by decide) rfl (Co.nilsl 5) (qad2 _ _) rfl rfl (by rw [hP]; exact qabk) (by rw [hP]; exact qabc) rfl (CoL.refl _) ?_ (fun σ => rfl)) | fail)
    all_goals rfl
 ·have hF : qalp p = qafk p := by unfold qalp; rw [if_pos h0]
  have hL : qapd p = [] := by unfold qapd; rw [hF, if_pos h0]
  rw [hF, hL]
  have kc : ((qafk p).1 != 0) = true := by simpa using h0
  generalize qafk p = C at hc kc
  replace hc := Lib.hid hc
  clear hF hL h0
  repeat' (first | (with_reducible first | refine zA ?_ | refine zK ?_) | ((with_reducible first | refine qaac ?_ | refine qaa1 (by rw [hP]; exact qacx) ?_); (try rw [hP]); simp -implicitDefEqProofs [*]) | ((with_reducible refine qaam ?_); (try simp only [qaap, qaag, qaai])) | ((with_reducible refine qaaa rfl (fun h => ?_) (fun h => ?_)) <;> have h' := h <;> (try simp at h') <;> (try subst h')) | (refine qaa0 (hc.out _) ?_; simp -implicitDefEqProofs [*]) | (refine qagr hm (by decide) rfl (Co.nilsl 5) (qad2 _ _) rfl rfl (by rw [hP]; exact qabk) (by rw [hP]; exact qabc) rfl (CoL.refl _) rfl (fun σ => rfl)) | fail)
end Go.Proofs.Ytnfjldobjgdiaaa
