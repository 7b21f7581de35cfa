/-
  Texts joined: XCpln XShZ XPlnC XPlnD XPlnE XBv XPlnF XPlnG XPlnH XPlnI. No condition.
-/
import Derived.Test.YticeaegpkpjjeaaProg
import Derived.ProofKit
import Derived.Test.YticeaegpkpjjeaaRows
import Derived.Deep.QuietTactic
import Derived.BigQuiet
import Derived.WalkSmall
import Derived.Handy
import Derived.WalkSpells
import Derived.RegionTactic
import Derived.BigRegion
import Derived.Deep.RegionLaw
import Derived.Lib.Hide
import Derived.Test.YticeaegpkpjjeaaWalkSureK2
namespace Go.Proofs.Yticeaegpkpjjeaa
set_option linter.all false
open Go.RowKit
abbrev qau5 : List SOper := [Oa 3 (.box 29 (.t 0)), Oa 4 (.box 102 (.t 1)), Oa 6 (.mv (.c (.int .i64 0)))]
abbrev qau4 : List SOper := [Oa 8 (.mv (.t 2)), Oa 7 (.mv (.t 8))]
abbrev qau3 : List SOper := [Oa 10 (.faddr 0 (.t 4)), Oa 11 (.load (.t 10)), Oa 12 (.bin .eql (.t 11) (.c (.int .i64 (-3)))), Oa 13 (.mv (.t 12)), Oe 14 (.faddr 1 (.t 4)) 13 true, Oe 15 (.load (.t 14)) 13 true, Oe 16 (.bin .eql (.t 15) (.c (.int .i64 0))) 13 true, Oa 17 (.pick (.t 13) (.t 16) (.c (.bool false))), Oa 9 (.mv (.t 17))]
abbrev qau2 : List SOper := [Oa 6 (.mv (.c (.int .i64 16)))]
abbrev qau1 : List SOper := [Oa 19 (.faddr 0 (.t 4)), Oa 20 (.load (.t 19)), Oa 21 (.bin .eql (.t 20) (.c (.int .i64 (-1)))), Oa 18 (.mv (.t 21))]
abbrev qau0 : List SOper := [Oa 22 (.faddr 1 (.t 3)), Oa 23 (.load (.t 22)), Oa 7 (.mv (.t 23))]
abbrev qauz : List SOper := [Oa 25 (.faddr 0 (.t 4)), Oa 26 (.load (.t 25)), Oa 27 (.bin .geq (.t 26) (.c (.int .i64 0))), Oa 28 (.mv (.t 27)), Oe 29 (.faddr 0 (.t 4)) 28 true, Oe 30 (.load (.t 29)) 28 true, Oe 31 (.faddr 0 (.t 3)) 28 true, Oe 32 (.load (.t 31)) 28 true, Oe 33 (.len false (.t 32)) 28 true, Oe 34 (.bin .lss (.t 30) (.t 33)) 28 true, Oa 35 (.pick (.t 28) (.t 34) (.c (.bool false))), Oa 24 (.mv (.t 35))]
abbrev qauy : List SOper := [Oa 36 (.faddr 0 (.t 3)), Oa 37 (.load (.t 36)), Oa 38 (.faddr 0 (.t 4)), Oa 39 (.load (.t 38)), Oa 40 (.iaddr 1 (.t 37) (.t 39)), Oa 41 (.faddr 0 (.t 40)), Oa 42 (.load (.t 41)), Oa 7 (.mv (.t 42))]
abbrev qaux : List SOper := [Oa 44 (.faddr 0 (.t 4)), Oa 45 (.load (.t 44)), Oa 46 (.bin .neq (.t 45) (.c (.int .i64 (-2)))), Oa 43 (.mv (.t 46))]
abbrev qapo : List SOper := [Oa 6 (.mv (.c (.int .i64 0)))]
abbrev qapn : List SOper := [Oa 47 (.faddr 1 (.t 4)), Oa 48 (.load (.t 47)), Oa 49 (.bin .lss (.t 48) (.c (.int .i64 0))), Oa 50 (.mv (.t 49)), Oe 51 (.faddr 1 (.t 4)) 50 false, Oe 52 (.load (.t 51)) 50 false, Oe 53 (.mv (.t 7)) 50 false, Oe 54 (.len false (.t 53)) 50 false, Oe 55 (.bin .geq (.t 52) (.t 54)) 50 false, Oa 56 (.pick (.t 50) (.c (.bool true)) (.t 55))]
abbrev qapm : List SOper := [Oa 6 (.mv (.c (.int .i64 0)))]
abbrev qapl : List SOper := [Oa 57 (.mv (.t 7)), Oa 58 (.faddr 1 (.t 4)), Oa 59 (.load (.t 58)), Oa 60 (.iaddr 1 (.t 57) (.t 59)), Oa 61 (.load (.t 60)), Oa 6 (.mv (.t 61))]
def c_width : SCode := (.seq (.reg false qau5 [2, 3, 4]) (.seq (.reg false qau4 [3, 4, 7]) (.seq (.block 0 (.seq (.reg false qau3 [3, 4, 7, 9]) (.cond (.t 9) (.seq (.reg false qau2 [6]) .ret) (.seq (.reg false qau1 [3, 4, 7, 18]) (.cond (.t 18) (.reg false qau0 [4, 7]) (.seq (.reg false qauz [3, 4, 7, 24]) (.cond (.t 24) (.reg false qauy [4, 7]) (.seq (.reg false qaux [4, 7, 43]) (.cond (.t 43) (.seq (.reg false qapo [6]) .ret) .skip))))))))) (.seq (.seq (.reg false qapn [4, 7, 56]) (.cond (.t 56) (.seq (.reg false qapm [6]) .ret) .skip)) (.seq (.reg false qapl [6]) .ret)))))
theorem qakn : comp Try.prog 62 ((Try.f121.body).getD .skip) = some c_width.erase := by kernel_rfl
abbrev qavj : List SOper := [Oa 2 (.mv (.c (.int .i64 0)))]
abbrev qavi : List SOper := [Oa 4 (.mv (.t 0)), Oa 5 (.bin .eql (.t 4) (.c (.int .i64 1))), Oa 6 (.mv (.t 5)), Oe 7 (.mv (.t 0)) 6 false, Oe 8 (.bin .eql (.t 7) (.c (.int .i64 2))) 6 false, Oa 9 (.pick (.t 6) (.c (.bool true)) (.t 8)), Oa 3 (.mv (.t 9))]
abbrev qavh : List SOper := [Oa 2 (.mv (.c (.int .i64 0)))]
abbrev qavg : List SOper := [Oa 11 (.mv (.t 0)), Oa 12 (.bin .geq (.t 11) (.c (.int .i64 3))), Oa 13 (.mv (.t 12)), Oe 14 (.mv (.t 0)) 13 true, Oe 15 (.bin .leq (.t 14) (.c (.int .i64 12))) 13 true, Oa 16 (.pick (.t 13) (.t 15) (.c (.bool false))), Oa 10 (.mv (.t 16))]
abbrev qavf : List SOper := [Oa 2 (.mv (.c (.int .i64 2)))]
abbrev qave : List SOper := [Oa 18 (.mv (.t 0)), Oa 19 (.bin .eql (.t 18) (.c (.int .i64 13))), Oa 17 (.mv (.t 19))]
abbrev qavd : List SOper := [Oa 2 (.mv (.c (.int .i64 1)))]
abbrev qavc : List SOper := [Oa 2 (.mv (.c (.int .i64 (-1))))]
def c_takes : SCode := (.seq (.reg false qavj [0]) (.seq (.block 0 (.seq (.reg false qavi [0, 3]) (.cond (.t 3) (.seq (.reg false qavh [2]) .ret) (.seq (.reg false qavg [0, 10]) (.cond (.t 10) (.seq (.reg false qavf [2]) .ret) (.seq (.reg false qave [17]) (.cond (.t 17) (.seq (.reg false qavd [2]) .ret) .skip))))))) (.seq (.reg false qavc [2]) .ret)))
theorem qakp : comp Try.prog 20 ((Try.f157.body).getD .skip) = some c_takes.erase := by kernel_rfl
abbrev qapk : List SOper := [Oa 2 (.box 29 (.t 0)), Oa 3 (.box 114 (.t 1)), Oa 4 (.mv (.c .nilsl))]
abbrev qapj : List SOper := [Oa 5 (.mv (.c .nilsl))]
abbrev qapi : List SOper := [Oa 8 (.faddr 1 (.t 3)), Oa 9 (.load (.t 8)), Oa 10 (.len false (.t 9)), Oa 11 (.mv (.c (.int .i64 0)))]
abbrev qaph : List SOper := [Oa 12 (.bin .lss (.t 11) (.t 10))]
abbrev qapg : List SOper := [Oa 13 (.iaddr 2 (.t 9) (.t 11)), Oa 14 (.loads 2 (.t 13)), Oa 7 (.alloc 102 [(.int .i64 0), (.int .i64 0)]), Ob (.store 2 (.t 7) (.t 14))]
abbrev qapf : List SOper := [Oa 15 (.mv (.t 5)), Oa 16 (.loads 7 (.t 2)), Oa 17 (.loads 2 (.t 7)), Oc 18 121 [(.t 16), (.t 17), (.c .nilsl)], Oa 19 (.mkrow 3 1 1 [(.int .i64 0)] [(0, (.t 18))]), Oa 20 (.app 3 1 8 (.t 15) (.t 19)), Oa 5 (.mv (.t 20))]
abbrev qape : List SOper := [Oa 21 (.bin .add (.t 11) (.c (.int .i64 1))), Oa 11 (.mv (.t 21))]
def qahc : SCode := (.seq (.reg false qaph [2, 5, 9, 10, 11, 12]) (.seq (.cond (.t 12) .skip (.exit 0)) (.seq (.block 1 (.seq (.reg false qapg [2, 5, 7, 9, 10, 11]) (.reg false qapf [2, 5, 9, 10, 11]))) (.reg false qape [2, 5, 9, 10, 11]))))
abbrev qahb : List SOper := [Oa 22 (.mv (.t 5)), Oa 4 (.mv (.t 22))]
def c_widths : SCode := (.seq (.reg false qapk [2, 3]) (.seq (.reg false qapj [2, 3, 5]) (.seq (.seq (.reg false qapi [2, 5, 9, 10, 11]) (.block 0 (.loop qahc))) (.seq (.reg false qahb [4]) .ret))))
theorem qaiy : comp Try.prog 23 ((Try.f125.body).getD .skip) = some c_widths.erase := by kernel_rfl
abbrev qaxe : List SOper := [Oa 8 (.mv (.t 1)), Oa 9 (.mv (.t 8)), Oe 10 (.mv (.t 0)) 9 true, Oe 11 (.nilc (.t 10)) 9 true, Oe 12 (.faddr 7 (.t 11)) 9 true, Oe 13 (.faddr 0 (.t 12)) 9 true, Oe 14 (.load (.t 13)) 9 true, Oe 15 (.bin .eql (.t 14) (.c (.int .i64 0))) 9 true, Oa 16 (.pick (.t 9) (.t 15) (.c (.bool false)))]
abbrev qaxd : List SOper := [Oa 17 (.mv (.t 0)), Oa 18 (.mv (.t 2)), Oa 19 (.mv (.t 3)), Oa 20 (.build [(.int .i64 0), (.int .i64 0)] [(0, 1, (.t 18)), (1, 1, (.t 19))]), Oa 21 (.nilc (.t 17)), Oa 22 (.faddr 7 (.t 21)), Ob (.store 2 (.t 22) (.t 20))]
def c_jfail : SCode := (.seq (.reg false qaxe [0, 2, 3, 16]) (.cond (.t 16) (.reg false qaxd []) .skip))
theorem qaky : comp Try.prog 23 ((Try.f82.body).getD .skip) = some c_jfail.erase := by kernel_rfl
abbrev qaw2 : List SOper := [Oa 11 (.mv (.t 0)), Oa 12 (.mv (.t 1)), Oa 13 (.len false (.t 12)), Oa 14 (.bin .gtr (.t 13) (.c (.int .i64 8))), Oa 15 (.mv (.t 3)), Oc 16 82 [(.t 11), (.t 14), (.c (.int .i64 2)), (.t 15)]]
abbrev qaw1 : List SOper := [Oa 8 (.mv (.c (.int .i64 0)))]
abbrev qaw0 : List SOper := [Oa 9 (.mv (.c (.int .i64 0)))]
abbrev qawz : List SOper := [Oa 17 (.mv (.t 9)), Oa 18 (.mv (.t 1)), Oa 19 (.len false (.t 18)), Oa 20 (.bin .lss (.t 17) (.t 19)), Oa 21 (.mv (.t 20)), Oe 22 (.mv (.t 0)) 21 true, Oe 23 (.nilc (.t 22)) 21 true, Oe 24 (.faddr 7 (.t 23)) 21 true, Oe 25 (.faddr 0 (.t 24)) 21 true, Oe 26 (.load (.t 25)) 21 true, Oe 27 (.bin .eql (.t 26) (.c (.int .i64 0))) 21 true, Oa 28 (.pick (.t 21) (.t 27) (.c (.bool false)))]
abbrev qawy : List SOper := [Oa 31 (.mv (.t 1)), Oa 32 (.mv (.t 9)), Oa 33 (.iaddr 4 (.t 31) (.t 32)), Oa 34 (.faddr 0 (.t 33)), Oa 35 (.load (.t 34)), Oc 36 157 [(.t 35)], Oa 10 (.mv (.t 36))]
abbrev qawx : List SOper := [Oa 37 (.mv (.t 0)), Oa 38 (.mv (.t 10)), Oa 39 (.bin .lss (.t 38) (.c (.int .i64 0))), Oa 40 (.mv (.t 39)), Oe 41 (.mv (.t 8)) 40 false, Oe 42 (.mv (.t 10)) 40 false, Oe 43 (.bin .lss (.t 41) (.t 42)) 40 false, Oa 44 (.pick (.t 40) (.c (.bool true)) (.t 43)), Oa 45 (.mv (.t 3)), Oc 46 82 [(.t 37), (.t 44), (.c (.int .i64 13)), (.t 45)]]
abbrev qaww : List SOper := [Oa 47 (.mv (.t 0)), Oa 48 (.mv (.t 1)), Oa 49 (.mv (.t 9)), Od 50 (.iaddr 4 (.t 48) (.t 49)) 6, Od 51 (.faddr 0 (.t 50)) 14, Od 52 (.load (.t 51)) 30, Od 53 (.bin .eql (.t 52) (.c (.int .i64 2))) 62, Od 54 (.mv (.t 53)) 126, Of 55 (.mv (.t 0)) 54 true 254, Of 56 (.nilc (.t 55)) 54 true 510, Of 57 (.faddr 0 (.t 56)) 54 true 1022, Of 58 (.loads 7 (.t 57)) 54 true 2046, Of 59 (.mv (.t 1)) 54 true 254, Of 60 (.mv (.t 9)) 54 true 254, Of 61 (.iaddr 4 (.t 59) (.t 60)) 54 true 12542, Of 62 (.faddr 1 (.t 61)) 54 true 28926, Of 63 (.loads 2 (.t 62)) 54 true 61694, Of 64 (.mv (.t 2)) 54 true 254, ⟨(some 65), .mv (.c .any), some ((.c (.fn (.func 121) [] [])), [(.t 58), (.t 63), (.t 64)]), (some (54, true)), 262142⟩, Of 66 (.bin .eql (.t 65) (.c (.int .i64 0))) 54 true 524286, Od 67 (.pick (.t 54) (.t 66) (.c (.bool false))) 1048574, Oa 68 (.mv (.t 3)), ⟨(some 69), .mv (.c .any), some ((.c (.fn (.func 82) [] [])), [(.t 47), (.t 67), (.c (.int .i64 1)), (.t 68)]), none, 4194303⟩]
abbrev qawv : List SOper := [Oa 70 (.mv (.t 8)), Oa 71 (.mv (.t 10)), Oa 72 (.bin .sub (.c (.int .i64 1)) (.t 71)), Oa 73 (.bin .add (.t 70) (.t 72)), Oa 8 (.mv (.t 73))]
abbrev qawu : List SOper := [Oa 29 (.mv (.t 9)), Oa 30 (.bin .add (.t 29) (.c (.int .i64 1))), Oa 9 (.mv (.t 30))]
def qajl : SCode := (.seq (.seq (.reg false qawz [0, 1, 2, 3, 8, 9, 28]) (.cond (.t 28) .skip (.exit 0))) (.seq (.block 1 (.seq (.reg false qawy [0, 1, 2, 3, 8, 9, 10]) (.seq (.reg false qawx [0, 1, 2, 3, 8, 9, 10]) (.seq (.reg true qaww [0, 1, 2, 3, 8, 9, 10]) (.reg false qawv [0, 1, 2, 3, 8, 9]))))) (.reg false qawu [0, 1, 2, 3, 8, 9])))
abbrev qaqt : List SOper := [Oa 74 (.mv (.t 0)), Oa 75 (.mv (.t 8)), Oa 76 (.bin .neq (.t 75) (.c (.int .i64 1))), Oa 77 (.mv (.t 3)), Oc 78 82 [(.t 74), (.t 76), (.c (.int .i64 13)), (.t 77)]]
def c_jtree : SCode := (.seq (.reg false qaw2 [0, 1, 2, 3]) (.seq (.reg false qaw1 [0, 1, 2, 3, 8]) (.seq (.seq (.reg false qaw0 [0, 1, 2, 3, 8, 9]) (.block 0 (.loop qajl))) (.reg false qaqt []))))
theorem qakv : comp Try.prog 79 ((Try.f127.body).getD .skip) = some c_jtree.erase := by kernel_rfl
abbrev qamc : List SOper := [Oa 4 (.box 102 (.t 1))]
abbrev qamb : List SOper := [Oa 6 (.mv (.t 0)), Oa 7 (.faddr 0 (.t 4)), Od 8 (.load (.t 7)) 2, Od 9 (.bin .lss (.t 8) (.c (.int .i64 (-1)))) 6, Od 10 (.mv (.t 9)) 14, Of 11 (.mv (.t 0)) 10 false 30, Of 12 (.nilc (.t 11)) 10 false 62, Of 13 (.faddr 0 (.t 12)) 10 false 126, Of 14 (.loads 7 (.t 13)) 10 false 254, Of 15 (.loads 2 (.t 4)) 10 false 30, ⟨(some 16), .mv (.c .any), some ((.c (.fn (.func 121) [] [])), [(.t 14), (.t 15), (.c .nilsl)]), (some (10, false)), 1022⟩, Of 17 (.bin .eql (.t 16) (.c (.int .i64 0))) 10 false 2046, Od 18 (.pick (.t 10) (.c (.bool true)) (.t 17)) 4094, Oa 19 (.mv (.t 2)), ⟨(some 20), .mv (.c .any), some ((.c (.fn (.func 82) [] [])), [(.t 6), (.t 18), (.c (.int .i64 1)), (.t 19)]), none, 16383⟩]
def c_jtarget : SCode := (.seq (.reg false qamc [0, 2, 4]) (.reg true qamb []))
theorem qah7 : comp Try.prog 21 ((Try.f155.body).getD .skip) = some c_jtarget.erase := by kernel_rfl
abbrev qaxc : List SOper := [Oa 6 (.mv (.t 0)), Oa 7 (.mv (.t 1)), Oa 8 (.bin .lss (.t 7) (.c (.int .i64 0))), Oa 9 (.mv (.t 8)), Oe 10 (.mv (.t 1)) 9 false, Oe 11 (.mv (.t 0)) 9 false, Oe 12 (.nilc (.t 11)) 9 false, Oe 13 (.faddr 0 (.t 12)) 9 false, Oe 14 (.faddr 0 (.t 13)) 9 false, Oe 15 (.load (.t 14)) 9 false, Oe 16 (.len false (.t 15)) 9 false, Oe 17 (.bin .geq (.t 10) (.t 16)) 9 false, Oa 18 (.pick (.t 9) (.c (.bool true)) (.t 17)), Oa 19 (.mv (.t 2)), Oc 20 82 [(.t 6), (.t 18), (.c (.int .i64 1)), (.t 19)]]
def c_jhead : SCode := (.reg false qaxc [])
theorem qakx : comp Try.prog 21 ((Try.f88.body).getD .skip) = some c_jhead.erase := by kernel_rfl
abbrev qa4q : List SOper := [Oa 5 (.box 111 (.t 1))]
abbrev qa4p : List SOper := [Oa 8 (.faddr 0 (.t 5)), Oa 9 (.load (.t 8))]
abbrev qa4o : List SOper := [Oa 14 (.bin .eql (.t 9) (.c (.int .i64 1))), Oa 13 (.mv (.t 14))]
abbrev qa4n : List SOper := [Oa 15 (.mv (.t 0)), Oa 16 (.faddr 1 (.t 5)), Oa 17 (.loads 2 (.t 16)), Oa 18 (.mv (.t 3)), Oc 19 155 [(.t 15), (.t 17), (.t 18)]]
abbrev qa4m : List SOper := [Oa 20 (.mv (.t 0)), Oa 21 (.faddr 4 (.t 5)), Oa 22 (.load (.t 21)), Oa 23 (.mv (.t 2)), Oa 24 (.mv (.t 3)), Oc 25 127 [(.t 20), (.t 22), (.t 23), (.t 24)]]
abbrev qa4l : List SOper := [Oa 27 (.bin .eql (.t 9) (.c (.int .i64 2))), Oa 26 (.mv (.t 27))]
abbrev qa4k : List SOper := [Oa 28 (.bin .eql (.t 9) (.c (.int .i64 3))), Oa 26 (.mv (.t 28))]
abbrev qa4j : List SOper := [Oa 29 (.mv (.t 0)), Oa 30 (.faddr 3 (.t 5)), Oa 31 (.load (.t 30)), Oa 32 (.mv (.t 3)), Oc 33 88 [(.t 29), (.t 31), (.t 32)]]
abbrev qa4i : List SOper := [Oa 35 (.bin .eql (.t 9) (.c (.int .i64 4))), Oa 34 (.mv (.t 35))]
abbrev qa1l : List SOper := [Oa 37 (.bin .eql (.t 9) (.c (.int .i64 5))), Oa 36 (.mv (.t 37))]
abbrev qa1k : List SOper := [Oa 38 (.mv (.t 0)), Oa 39 (.faddr 4 (.t 5)), Oa 40 (.load (.t 39)), Oa 41 (.mv (.t 2)), Oa 42 (.mv (.t 3)), Oc 43 127 [(.t 38), (.t 40), (.t 41), (.t 42)]]
abbrev qa1j : List SOper := [Oa 45 (.bin .eql (.t 9) (.c (.int .i64 6))), Oa 44 (.mv (.t 45))]
abbrev qa1i : List SOper := [Oa 46 (.mv (.t 0)), Oa 47 (.faddr 1 (.t 5)), Oa 48 (.loads 2 (.t 47)), Oa 49 (.mv (.t 3)), Oc 50 155 [(.t 46), (.t 48), (.t 49)]]
abbrev qa1h : List SOper := [Oa 51 (.mv (.t 0)), Oa 52 (.faddr 3 (.t 5)), Oa 53 (.load (.t 52)), Oa 54 (.mv (.t 3)), Oc 55 88 [(.t 51), (.t 53), (.t 54)]]
abbrev qa1g : List SOper := [Oa 10 (.mv (.t 0)), Oa 11 (.mv (.t 3)), Oc 12 82 [(.t 10), (.c (.bool true)), (.c (.int .i64 5)), (.t 11)]]
def c_jop : SCode := (.seq (.reg false qa4q [0, 2, 3, 5]) (.seq (.reg false qa4p [0, 2, 3, 5, 9]) (.block 0 (.seq (.reg false qa4o [0, 2, 3, 5, 9, 13]) (.cond (.t 13) (.seq (.reg false qa4n [0, 2, 3, 5]) (.reg false qa4m [])) (.seq (.seq (.reg false qa4l [0, 2, 3, 5, 9, 26]) (.cond (.t 26) .skip (.reg false qa4k [0, 2, 3, 5, 9, 26]))) (.cond (.t 26) (.reg false qa4j []) (.seq (.reg false qa4i [0, 2, 3, 5, 9, 34]) (.cond (.t 34) .skip (.seq (.reg false qa1l [0, 2, 3, 5, 9, 36]) (.cond (.t 36) (.reg false qa1k []) (.seq (.reg false qa1j [0, 3, 5, 44]) (.cond (.t 44) (.seq (.reg false qa1i [0, 3, 5]) (.reg false qa1h [])) (.reg false qa1g []))))))))))))))
theorem qauf : comp Try.prog 56 ((Try.f124.body).getD .skip) = some c_jop.erase := by kernel_rfl
abbrev qaxn : List SOper := [Oa 8 (.mv (.t 0)), Oa 9 (.mv (.t 0)), Oa 10 (.nilc (.t 9)), Oa 11 (.faddr 0 (.t 10)), Oa 12 (.faddr 3 (.t 11)), Oa 13 (.load (.t 12)), Oa 14 (.len false (.t 13)), Oa 15 (.bin .gtr (.t 14) (.c (.int .i64 8))), Oc 16 82 [(.t 8), (.t 15), (.c (.int .i64 2)), (.c (.int .i64 (-4)))]]
abbrev qaxm : List SOper := [Oa 2 (.mv (.c (.int .i64 0)))]
abbrev qaxl : List SOper := [Oa 17 (.mv (.t 2)), Oa 18 (.mv (.t 0)), Oa 19 (.nilc (.t 18)), Oa 20 (.faddr 0 (.t 19)), Oa 21 (.faddr 3 (.t 20)), Oa 22 (.load (.t 21)), Oa 23 (.len false (.t 22)), Oa 24 (.bin .lss (.t 17) (.t 23)), Oa 25 (.mv (.t 24)), Oe 26 (.mv (.t 0)) 25 true, Oe 27 (.nilc (.t 26)) 25 true, Oe 28 (.faddr 7 (.t 27)) 25 true, Oe 29 (.faddr 0 (.t 28)) 25 true, Oe 30 (.load (.t 29)) 25 true, Oe 31 (.bin .eql (.t 30) (.c (.int .i64 0))) 25 true, Oa 32 (.pick (.t 25) (.t 31) (.c (.bool false)))]
abbrev qaxk : List SOper := [Oa 35 (.mv (.t 0)), Oa 36 (.nilc (.t 35)), Oa 37 (.faddr 0 (.t 36)), Oa 38 (.faddr 3 (.t 37)), Oa 39 (.load (.t 38)), Oa 40 (.mv (.t 2)), Oa 41 (.iaddr 2 (.t 39) (.t 40)), Oa 42 (.loads 2 (.t 41)), Oa 3 (.alloc 108 [.nilsl, .nilsl]), Ob (.store 2 (.t 3) (.t 42))]
abbrev qaxj : List SOper := [Oa 43 (.mv (.t 2)), Oa 44 (.bin .add (.c (.int .i64 4000)) (.t 43)), Oa 4 (.mv (.t 44))]
abbrev qaxi : List SOper := [Oa 45 (.mv (.t 0)), Oa 46 (.faddr 0 (.t 3)), Oa 47 (.load (.t 46)), Oa 48 (.len false (.t 47)), Oa 49 (.bin .gtr (.t 48) (.c (.int .i64 3))), Oa 50 (.mv (.t 49)), Oe 51 (.faddr 1 (.t 3)) 50 false, Oe 52 (.load (.t 51)) 50 false, Oe 53 (.len false (.t 52)) 50 false, Oe 54 (.bin .gtr (.t 53) (.c (.int .i64 5))) 50 false, Oa 55 (.pick (.t 50) (.c (.bool true)) (.t 54)), Oa 56 (.mv (.t 4)), Oc 57 82 [(.t 45), (.t 55), (.c (.int .i64 2)), (.t 56)]]
abbrev qaxh : List SOper := [Oa 58 (.faddr 0 (.t 3)), Oa 59 (.load (.t 58)), Oa 60 (.len false (.t 59)), Oa 61 (.mv (.c (.int .i64 0)))]
abbrev qaxg : List SOper := [Oa 62 (.bin .lss (.t 61) (.t 60))]
abbrev qaxf : List SOper := [Oa 63 (.iaddr 1 (.t 59) (.t 61)), Oa 64 (.load (.t 63)), Oa 6 (.mv (.t 64))]
abbrev qara : List SOper := [Oa 65 (.mv (.t 0)), Oa 66 (.mv (.t 6)), Oa 67 (.bin .lss (.t 66) (.c (.int .i64 1))), Oa 68 (.mv (.t 67)), Oe 69 (.mv (.t 6)) 68 false, Oe 70 (.bin .gtr (.t 69) (.c (.int .i64 48))) 68 false, Oa 71 (.pick (.t 68) (.c (.bool true)) (.t 70)), Oa 72 (.mv (.t 4)), Oc 73 82 [(.t 65), (.t 71), (.c (.int .i64 6)), (.t 72)]]
abbrev qaq9 : List SOper := [Oa 74 (.bin .add (.t 61) (.c (.int .i64 1))), Oa 61 (.mv (.t 74))]
def qajx : SCode := (.seq (.reg false qaxg [0, 2, 3, 4, 59, 60, 61, 62]) (.seq (.cond (.t 62) .skip (.exit 2)) (.seq (.block 3 (.seq (.reg false qaxf [0, 2, 3, 4, 6, 59, 60, 61]) (.reg false qara [0, 2, 3, 4, 59, 60, 61]))) (.reg false qaq9 [0, 2, 3, 4, 59, 60, 61]))))
abbrev qaq8 : List SOper := [Oa 7 (.mv (.c (.int .i64 0)))]
abbrev qaq7 : List SOper := [Oa 75 (.mv (.t 7)), Oa 76 (.faddr 1 (.t 3)), Oa 77 (.load (.t 76)), Oa 78 (.len false (.t 77)), Oa 79 (.bin .lss (.t 75) (.t 78)), Oa 80 (.mv (.t 79)), Oe 81 (.mv (.t 0)) 80 true, Oe 82 (.nilc (.t 81)) 80 true, Oe 83 (.faddr 7 (.t 82)) 80 true, Oe 84 (.faddr 0 (.t 83)) 80 true, Oe 85 (.load (.t 84)) 80 true, Oe 86 (.bin .eql (.t 85) (.c (.int .i64 0))) 80 true, Oa 87 (.pick (.t 80) (.t 86) (.c (.bool false)))]
abbrev qaq6 : List SOper := [Oa 90 (.mv (.t 0)), Oa 91 (.faddr 1 (.t 3)), Od 92 (.load (.t 91)) 2, Oa 93 (.mv (.t 7)), Od 94 (.iaddr 5 (.t 92) (.t 93)) 14, Od 95 (.loads 5 (.t 94)) 30, Oa 96 (.faddr 0 (.t 3)), Od 97 (.load (.t 96)) 64, Oa 98 (.mv (.t 4)), ⟨(some 99), .mv (.c .any), some ((.c (.fn (.func 124) [] [])), [(.t 90), (.t 95), (.t 97), (.t 98)]), none, 511⟩]
abbrev qaq5 : List SOper := [Oa 88 (.mv (.t 7)), Oa 89 (.bin .add (.t 88) (.c (.int .i64 1))), Oa 7 (.mv (.t 89))]
def qajw : SCode := (.seq (.seq (.reg false qaq7 [0, 2, 3, 4, 7, 87]) (.cond (.t 87) .skip (.exit 4))) (.seq (.block 5 (.reg true qaq6 [0, 2, 3, 4, 7])) (.reg false qaq5 [0, 2, 3, 4, 7])))
abbrev qaq4 : List SOper := [Oa 33 (.mv (.t 2)), Oa 34 (.bin .add (.t 33) (.c (.int .i64 1))), Oa 2 (.mv (.t 34))]
def qajv : SCode := (.seq (.seq (.reg false qaxl [0, 2, 32]) (.cond (.t 32) .skip (.exit 0))) (.seq (.block 1 (.seq (.reg false qaxk [0, 2, 3]) (.seq (.reg false qaxj [0, 2, 3, 4]) (.seq (.reg false qaxi [0, 2, 3, 4]) (.seq (.seq (.reg false qaxh [0, 2, 3, 4, 59, 60, 61]) (.block 2 (.loop qajx))) (.seq (.reg false qaq8 [0, 2, 3, 4, 7]) (.block 4 (.loop qajw)))))))) (.reg false qaq4 [0, 2])))
def c_jacts : SCode := (.seq (.reg false qaxn [0]) (.seq (.reg false qaxm [0, 2]) (.block 0 (.loop qajv))))
theorem qakz : comp Try.prog 100 ((Try.f85.body).getD .skip) = some c_jacts.erase := by kernel_rfl
abbrev qa4h : List SOper := [Oa 6 (.mv (.t 2)), Oa 7 (.bin .eql (.t 6) (.c (.int .i64 1000))), Oa 8 (.mv (.t 7)), Oe 9 (.mv (.t 2)) 8 false, Oe 10 (.bin .eql (.t 9) (.c (.int .i64 1001))) 8 false, Oa 11 (.pick (.t 8) (.c (.bool true)) (.t 10))]
abbrev qa4g : List SOper := [Oa 12 (.mv (.t 0)), Oa 13 (.mv (.t 2)), Oa 14 (.bin .lss (.t 13) (.c (.int .i64 0))), Oa 15 (.mv (.t 14)), Oe 16 (.mv (.t 2)) 15 false, Oe 17 (.mv (.t 0)) 15 false, Oe 18 (.nilc (.t 17)) 15 false, Oe 19 (.faddr 0 (.t 18)) 15 false, Oe 20 (.faddr 2 (.t 19)) 15 false, Oe 21 (.load (.t 20)) 15 false, Oe 22 (.len false (.t 21)) 15 false, Oe 23 (.bin .geq (.t 16) (.t 22)) 15 false, Oa 24 (.pick (.t 15) (.c (.bool true)) (.t 23)), Oa 25 (.mv (.t 1)), Oa 26 (.bin .add (.c (.int .i64 3000)) (.t 25)), Oc 27 82 [(.t 12), (.t 24), (.c (.int .i64 1)), (.t 26)]]
abbrev qa4f : List SOper := [Oa 28 (.mv (.t 0)), Oa 29 (.mv (.t 2)), Oa 30 (.mv (.t 1)), Oa 31 (.bin .leq (.t 29) (.t 30)), Oa 32 (.mv (.t 1)), Oa 33 (.bin .add (.c (.int .i64 3000)) (.t 32)), Oc 34 82 [(.t 28), (.t 31), (.c (.int .i64 11)), (.t 33)]]
def c_jto : SCode := (.seq (.seq (.reg false qa4h [0, 1, 2, 11]) (.cond (.t 11) .ret .skip)) (.seq (.reg false qa4g [0, 1, 2]) (.reg false qa4f [])))
theorem qaue : comp Try.prog 35 ((Try.f123.body).getD .skip) = some c_jto.erase := by kernel_rfl
abbrev qaml : List SOper := [Oa 8 (.mv (.t 0)), Oa 9 (.mv (.t 0)), Oa 10 (.nilc (.t 9)), Oa 11 (.faddr 0 (.t 10)), Oa 12 (.faddr 2 (.t 11)), Oa 13 (.load (.t 12)), Oa 14 (.len false (.t 13)), Oa 15 (.bin .eql (.t 14) (.c (.int .i64 0))), Oa 16 (.mv (.t 15)), Oe 17 (.mv (.t 0)) 16 false, Oe 18 (.nilc (.t 17)) 16 false, Oe 19 (.faddr 0 (.t 18)) 16 false, Oe 20 (.faddr 2 (.t 19)) 16 false, Oe 21 (.load (.t 20)) 16 false, Oe 22 (.len false (.t 21)) 16 false, Oe 23 (.bin .gtr (.t 22) (.c (.int .i64 8))) 16 false, Oa 24 (.pick (.t 16) (.c (.bool true)) (.t 23)), Oc 25 82 [(.t 8), (.t 24), (.c (.int .i64 2)), (.c (.int .i64 (-3)))]]
abbrev qamk : List SOper := [Oa 2 (.mv (.c (.int .i64 0)))]
abbrev qamj : List SOper := [Oa 26 (.mv (.t 2)), Oa 27 (.mv (.t 0)), Oa 28 (.nilc (.t 27)), Oa 29 (.faddr 0 (.t 28)), Oa 30 (.faddr 2 (.t 29)), Oa 31 (.load (.t 30)), Oa 32 (.len false (.t 31)), Oa 33 (.bin .lss (.t 26) (.t 32)), Oa 34 (.mv (.t 33)), Oe 35 (.mv (.t 0)) 34 true, Oe 36 (.nilc (.t 35)) 34 true, Oe 37 (.faddr 7 (.t 36)) 34 true, Oe 38 (.faddr 0 (.t 37)) 34 true, Oe 39 (.load (.t 38)) 34 true, Oe 40 (.bin .eql (.t 39) (.c (.int .i64 0))) 34 true, Oa 41 (.pick (.t 34) (.t 40) (.c (.bool false)))]
abbrev qami : List SOper := [Oa 44 (.mv (.t 0)), Oa 45 (.nilc (.t 44)), Oa 46 (.faddr 0 (.t 45)), Oa 47 (.faddr 2 (.t 46)), Oa 48 (.load (.t 47)), Oa 49 (.mv (.t 2)), Oa 50 (.iaddr 5 (.t 48) (.t 49)), Oa 51 (.loads 5 (.t 50)), Oa 3 (.alloc 105 [(.int .i64 0), (.int .i64 0), (.int .i64 0), .nilsl, (.int .i64 0)]), Ob (.store 5 (.t 3) (.t 51))]
abbrev qamh : List SOper := [Oa 52 (.mv (.t 2)), Oa 53 (.bin .add (.c (.int .i64 3000)) (.t 52)), Oa 4 (.mv (.t 53))]
abbrev qamg : List SOper := [Oa 54 (.mv (.t 0)), Oa 55 (.faddr 0 (.t 3)), Od 56 (.load (.t 55)) 2, Od 57 (.bin .lss (.t 56) (.c (.int .i64 (-1)))) 6, Od 58 (.mv (.t 57)) 14, Of 59 (.faddr 0 (.t 3)) 58 false 30, Of 60 (.load (.t 59)) 58 false 62, Of 61 (.mv (.t 0)) 58 false 30, Of 62 (.nilc (.t 61)) 58 false 158, Of 63 (.faddr 0 (.t 62)) 58 false 414, Of 64 (.faddr 0 (.t 63)) 58 false 926, Of 65 (.load (.t 64)) 58 false 1950, Of 66 (.len false (.t 65)) 58 false 3998, Of 67 (.bin .geq (.t 60) (.t 66)) 58 false 8190, Od 68 (.pick (.t 58) (.c (.bool true)) (.t 67)) 16382, Oa 69 (.mv (.t 4)), ⟨(some 70), .mv (.c .any), some ((.c (.fn (.func 82) [] [])), [(.t 54), (.t 68), (.c (.int .i64 1)), (.t 69)]), none, 65535⟩]
abbrev qamf : List SOper := [Oa 71 (.mv (.t 0)), Oa 72 (.faddr 3 (.t 3)), Oa 73 (.load (.t 72)), Oa 74 (.len false (.t 73)), Oa 75 (.bin .gtr (.t 74) (.c (.int .i64 4))), Oa 76 (.mv (.t 4)), Oc 77 82 [(.t 71), (.t 75), (.c (.int .i64 2)), (.t 76)]]
abbrev qame : List SOper := [Oa 78 (.mv (.t 0)), Od 79 (.nilc (.t 78)) 1, Od 80 (.faddr 0 (.t 79)) 3, Od 81 (.loads 7 (.t 80)) 7, Oa 82 (.faddr 1 (.t 3)), Od 83 (.loads 2 (.t 82)) 16, ⟨(some 84), .mv (.c .any), some ((.c (.fn (.func 121) [] [])), [(.t 81), (.t 83), (.c .nilsl)]), none, 63⟩, Od 5 (.mv (.t 84)) 127]
abbrev qamd : List SOper := [Oa 85 (.mv (.t 0)), Oa 86 (.faddr 3 (.t 3)), Oa 87 (.load (.t 86)), Oa 88 (.len false (.t 87)), Oa 89 (.bin .gtr (.t 88) (.c (.int .i64 0))), Oa 90 (.mv (.t 89)), Oe 91 (.mv (.t 5)) 90 true, Oe 92 (.bin .eql (.t 91) (.c (.int .i64 0))) 90 true, Oa 93 (.pick (.t 90) (.t 92) (.c (.bool false))), Oa 94 (.mv (.t 4)), Oc 95 82 [(.t 85), (.t 93), (.c (.int .i64 1)), (.t 94)]]
abbrev qaju : List SOper := [Oa 96 (.faddr 3 (.t 3)), Oa 97 (.load (.t 96)), Oa 98 (.len false (.t 97)), Oa 99 (.mv (.c (.int .i64 0)))]
abbrev qajt : List SOper := [Oa 100 (.bin .lss (.t 99) (.t 98))]
abbrev qajs : List SOper := [Oa 101 (.iaddr 3 (.t 97) (.t 99)), Oa 102 (.loads 3 (.t 101)), Oa 7 (.alloc 176 [(.int .u64 0), (.int .u64 0), (.int .i64 0)]), Ob (.store 3 (.t 7) (.t 102))]
abbrev qajr : List SOper := [Oa 103 (.mv (.t 0)), Oa 104 (.faddr 1 (.t 7)), Od 105 (.load (.t 104)) 2, Oa 106 (.mv (.t 5)), ⟨(some 107), .mv (.c .any), some ((.c (.fn (.func 122) [] [])), [(.t 106)]), none, 8⟩, Od 108 (.bin .gtr (.t 105) (.t 107)) 30, Od 109 (.mv (.t 108)) 62, Of 110 (.faddr 0 (.t 7)) 109 false 126, Of 111 (.load (.t 110)) 109 false 254, Of 112 (.faddr 1 (.t 7)) 109 false 126, Of 113 (.load (.t 112)) 109 false 638, Of 114 (.bin .andNot (.t 111) (.t 113)) 109 false 2046, Of 115 (.bin .neq (.t 114) (.c (.int .u64 0))) 109 false 4094, Od 116 (.pick (.t 109) (.c (.bool true)) (.t 115)) 8190, Oa 117 (.mv (.t 4)), ⟨(some 118), .mv (.c .any), some ((.c (.fn (.func 82) [] [])), [(.t 103), (.t 116), (.c (.int .i64 6)), (.t 117)]), none, 32767⟩]
abbrev qajq : List SOper := [Oa 119 (.mv (.t 0)), Oa 120 (.mv (.t 2)), Oa 121 (.faddr 2 (.t 7)), Oa 122 (.load (.t 121)), Oc 123 123 [(.t 119), (.t 120), (.t 122)]]
abbrev qajp : List SOper := [Oa 124 (.bin .add (.t 99) (.c (.int .i64 1))), Oa 99 (.mv (.t 124))]
def qagm : SCode := (.seq (.reg false qajt [0, 2, 3, 4, 5, 97, 98, 99, 100]) (.seq (.cond (.t 100) .skip (.exit 2)) (.seq (.block 3 (.seq (.reg false qajs [0, 2, 3, 4, 5, 7, 97, 98, 99]) (.seq (.reg true qajr [0, 2, 3, 4, 5, 7, 97, 98, 99]) (.reg false qajq [0, 2, 3, 4, 5, 97, 98, 99])))) (.reg false qajp [0, 2, 3, 4, 5, 97, 98, 99]))))
abbrev qajo : List SOper := [Oa 125 (.mv (.t 0)), Oa 126 (.mv (.t 2)), Oa 127 (.faddr 4 (.t 3)), Oa 128 (.load (.t 127)), Oc 129 123 [(.t 125), (.t 126), (.t 128)]]
abbrev qajn : List SOper := [Oa 42 (.mv (.t 2)), Oa 43 (.bin .add (.t 42) (.c (.int .i64 1))), Oa 2 (.mv (.t 43))]
def c_jstates_l2 : SCode := (.seq (.seq (.reg false qamj [0, 2, 41]) (.cond (.t 41) .skip (.exit 0))) (.seq (.block 1 (.seq (.reg false qami [0, 2, 3]) (.seq (.reg false qamh [0, 2, 3, 4]) (.seq (.reg true qamg [0, 2, 3, 4]) (.seq (.reg false qamf [0, 2, 3, 4]) (.seq (.reg true qame [0, 2, 3, 4, 5]) (.seq (.reg false qamd [0, 2, 3, 4, 5]) (.seq (.seq (.reg false qaju [0, 2, 3, 4, 5, 97, 98, 99]) (.block 2 (.loop qagm))) (.reg false qajo [0, 2]))))))))) (.reg false qajn [0, 2])))
def c_jstates : SCode := (.seq (.reg false qaml [0]) (.seq (.reg false qamk [0, 2]) (.block 0 (.loop c_jstates_l2))))
theorem qah8 : comp Try.prog 130 ((Try.f84.body).getD .skip) = some c_jstates.erase := by kernel_rfl
abbrev qaxb : List SOper := [Oa 6 (.mv (.t 0)), Oa 7 (.mv (.t 0)), Oa 8 (.nilc (.t 7)), Oa 9 (.faddr 0 (.t 8)), Oa 10 (.faddr 4 (.t 9)), Oa 11 (.load (.t 10)), Oa 12 (.len false (.t 11)), Oa 13 (.bin .gtr (.t 12) (.c (.int .i64 5))), Oc 14 82 [(.t 6), (.t 13), (.c (.int .i64 2)), (.c (.int .i64 (-5)))]]
abbrev qaxa : List SOper := [Oa 2 (.mv (.c (.int .i64 0)))]
abbrev qaw9 : List SOper := [Oa 15 (.mv (.t 2)), Oa 16 (.mv (.t 0)), Oa 17 (.nilc (.t 16)), Oa 18 (.faddr 0 (.t 17)), Oa 19 (.faddr 4 (.t 18)), Oa 20 (.load (.t 19)), Oa 21 (.len false (.t 20)), Oa 22 (.bin .lss (.t 15) (.t 21)), Oa 23 (.mv (.t 22)), Oe 24 (.mv (.t 0)) 23 true, Oe 25 (.nilc (.t 24)) 23 true, Oe 26 (.faddr 7 (.t 25)) 23 true, Oe 27 (.faddr 0 (.t 26)) 23 true, Oe 28 (.load (.t 27)) 23 true, Oe 29 (.bin .eql (.t 28) (.c (.int .i64 0))) 23 true, Oa 30 (.pick (.t 23) (.t 29) (.c (.bool false)))]
abbrev qaw8 : List SOper := [Oa 33 (.mv (.t 0)), Oa 34 (.nilc (.t 33)), Oa 35 (.faddr 0 (.t 34)), Oa 36 (.faddr 4 (.t 35)), Oa 37 (.load (.t 36)), Oa 38 (.mv (.t 2)), Oa 39 (.iaddr 6 (.t 37) (.t 38)), Oa 40 (.loads 6 (.t 39)), Oa 3 (.alloc 114 [(.int .i64 0), .nilsl, .nilsl, (.int .i64 0), (.int .i64 0), .nilsl]), Ob (.store 6 (.t 3) (.t 40))]
abbrev qaw7 : List SOper := [Oa 41 (.mv (.t 0)), Oa 42 (.faddr 1 (.t 3)), Oa 43 (.load (.t 42)), Oa 44 (.len false (.t 43)), Oa 45 (.bin .gtr (.t 44) (.c (.int .i64 3))), Oa 46 (.mv (.t 2)), Oa 47 (.bin .add (.c (.int .i64 5000)) (.t 46)), Oc 48 82 [(.t 41), (.t 45), (.c (.int .i64 2)), (.t 47)]]
abbrev qaw6 : List SOper := [Oa 49 (.mv (.t 0)), Od 50 (.nilc (.t 49)) 1, Od 51 (.faddr 0 (.t 50)) 3, Od 52 (.loads 7 (.t 51)) 7, Oa 53 (.loads 6 (.t 3)), ⟨(some 54), .mv (.c .any), some ((.c (.fn (.func 125) [] [])), [(.t 52), (.t 53)]), none, 31⟩, Od 4 (.mv (.t 54)) 63]
abbrev qaw5 : List SOper := [Oa 55 (.mv (.t 0)), Oa 56 (.mv (.t 4)), Oc 57 89 [(.t 56), (.c (.int .i64 0))], Oa 58 (.mv (.t 2)), Oa 59 (.bin .add (.c (.int .i64 5000)) (.t 58)), Oc 60 82 [(.t 55), (.t 57), (.c (.int .i64 1)), (.t 59)]]
abbrev qaw4 : List SOper := [Oa 61 (.loads 6 (.t 3)), Oa 62 (.mv (.t 4)), Oa 63 (.mv (.t 0)), Od 64 (.nilc (.t 63)) 4, Od 65 (.faddr 0 (.t 64)) 12, Od 66 (.faddr 3 (.t 65)) 28, Od 67 (.load (.t 66)) 60, ⟨(some 68), .mv (.c .any), some ((.c (.fn (.func 126) [] [])), [(.t 61), (.t 62), (.t 67)]), none, 127⟩, Od 5 (.mv (.t 68)) 255]
abbrev qaw3 : List SOper := [Oa 69 (.mv (.t 0)), Oa 70 (.mv (.t 5)), Oa 71 (.bin .neq (.t 70) (.c (.int .i64 0))), Oa 72 (.mv (.t 5)), Oa 73 (.mv (.t 2)), Oa 74 (.bin .add (.c (.int .i64 5000)) (.t 73)), Oc 75 82 [(.t 69), (.t 71), (.t 72), (.t 74)]]
abbrev qaqu : List SOper := [Oa 31 (.mv (.t 2)), Oa 32 (.bin .add (.t 31) (.c (.int .i64 1))), Oa 2 (.mv (.t 32))]
def qajm : SCode := (.seq (.seq (.reg false qaw9 [0, 2, 30]) (.cond (.t 30) .skip (.exit 0))) (.seq (.block 1 (.seq (.reg false qaw8 [0, 2, 3]) (.seq (.reg false qaw7 [0, 2, 3]) (.seq (.reg true qaw6 [0, 2, 3, 4]) (.seq (.reg false qaw5 [0, 2, 3, 4]) (.seq (.reg true qaw4 [0, 2, 5]) (.reg false qaw3 [0, 2]))))))) (.reg false qaqu [0, 2])))
def c_jtabs : SCode := (.seq (.reg false qaxb [0]) (.seq (.reg false qaxa [0, 2]) (.block 0 (.loop qajm))))
theorem qakw : comp Try.prog 76 ((Try.f86.body).getD .skip) = some c_jtabs.erase := by kernel_rfl
abbrev qaq3 : List SOper := [Oa 8 (.mv (.t 0)), Oa 9 (.mv (.t 0)), Oa 10 (.nilc (.t 9)), Oa 11 (.faddr 0 (.t 10)), Oa 12 (.faddr 5 (.t 11)), Oa 13 (.load (.t 12)), Oa 14 (.len false (.t 13)), Oa 15 (.bin .gtr (.t 14) (.c (.int .i64 10))), Oc 16 82 [(.t 8), (.t 15), (.c (.int .i64 2)), (.c (.int .i64 (-6)))]]
abbrev qaq2 : List SOper := [Oa 2 (.mv (.c (.int .i64 0)))]
abbrev qaq1 : List SOper := [Oa 17 (.mv (.t 2)), Oa 18 (.mv (.t 0)), Oa 19 (.nilc (.t 18)), Oa 20 (.faddr 0 (.t 19)), Oa 21 (.faddr 5 (.t 20)), Oa 22 (.load (.t 21)), Oa 23 (.len false (.t 22)), Oa 24 (.bin .lss (.t 17) (.t 23)), Oa 25 (.mv (.t 24)), Oe 26 (.mv (.t 0)) 25 true, Oe 27 (.nilc (.t 26)) 25 true, Oe 28 (.faddr 7 (.t 27)) 25 true, Oe 29 (.faddr 0 (.t 28)) 25 true, Oe 30 (.load (.t 29)) 25 true, Oe 31 (.bin .eql (.t 30) (.c (.int .i64 0))) 25 true, Oa 32 (.pick (.t 25) (.t 31) (.c (.bool false)))]
abbrev qaq0 : List SOper := [Oa 35 (.mv (.t 0)), Oa 36 (.nilc (.t 35)), Oa 37 (.faddr 0 (.t 36)), Oa 38 (.faddr 5 (.t 37)), Oa 39 (.load (.t 38)), Oa 40 (.mv (.t 2)), Oa 41 (.iaddr 5 (.t 39) (.t 40)), Oa 42 (.loads 5 (.t 41)), Oa 3 (.alloc 116 [(.int .i64 0), (.int .i64 0), .nilsl, (.int .i64 0), (.int .i64 0)]), Ob (.store 5 (.t 3) (.t 42))]
abbrev qaqz : List SOper := [Oa 43 (.mv (.t 2)), Oa 44 (.bin .add (.c (.int .i64 6000)) (.t 43)), Oa 4 (.mv (.t 44))]
abbrev qaqy : List SOper := [Oa 45 (.faddr 3 (.t 3)), Oa 46 (.load (.t 45)), Oa 47 (.faddr 4 (.t 3)), Oa 48 (.load (.t 47)), Oa 49 (.mkrow 3 1 2 [(.int .i64 0)] [(0, (.t 46)), (1, (.t 48))]), Oa 5 (.mv (.t 49))]
abbrev qaqx : List SOper := [Oa 50 (.faddr 0 (.t 3)), Oa 51 (.load (.t 50))]
abbrev qaqw : List SOper := [Oa 56 (.bin .eql (.t 51) (.c (.int .i64 1))), Oa 55 (.mv (.t 56))]
abbrev qaqv : List SOper := [Oa 57 (.mv (.t 0)), Oa 58 (.faddr 1 (.t 3)), Od 59 (.load (.t 58)) 2, Od 60 (.bin .lss (.t 59) (.c (.int .i64 0))) 6, Od 61 (.mv (.t 60)) 14, Of 62 (.faddr 1 (.t 3)) 61 false 30, Of 63 (.load (.t 62)) 61 false 62, Of 64 (.mv (.t 0)) 61 false 30, Of 65 (.nilc (.t 64)) 61 false 158, Of 66 (.faddr 0 (.t 65)) 61 false 414, Of 67 (.faddr 4 (.t 66)) 61 false 926, Of 68 (.load (.t 67)) 61 false 1950, Of 69 (.len false (.t 68)) 61 false 3998, Of 70 (.bin .geq (.t 63) (.t 69)) 61 false 8190, Od 71 (.pick (.t 61) (.c (.bool true)) (.t 70)) 16382, Oa 72 (.mv (.t 4)), ⟨(some 73), .mv (.c .any), some ((.c (.fn (.func 82) [] [])), [(.t 57), (.t 71), (.c (.int .i64 1)), (.t 72)]), none, 65535⟩]
abbrev qam2 : List SOper := [Oa 74 (.mv (.t 5)), Oa 75 (.slice 1 (.t 74) none (some (.c (.int .i64 1)))), Oa 5 (.mv (.t 75))]
abbrev qam1 : List SOper := [Oa 77 (.bin .eql (.t 51) (.c (.int .i64 2))), Oa 76 (.mv (.t 77))]
abbrev qam0 : List SOper := [Oa 78 (.mv (.t 0)), Oa 79 (.faddr 1 (.t 3)), Od 80 (.load (.t 79)) 2, Od 81 (.bin .lss (.t 80) (.c (.int .i64 0))) 6, Od 82 (.mv (.t 81)) 14, Of 83 (.faddr 1 (.t 3)) 82 false 30, Of 84 (.load (.t 83)) 82 false 62, Of 85 (.mv (.t 0)) 82 false 30, Of 86 (.nilc (.t 85)) 82 false 158, Of 87 (.faddr 0 (.t 86)) 82 false 414, Of 88 (.faddr 3 (.t 87)) 82 false 926, Of 89 (.load (.t 88)) 82 false 1950, Of 90 (.len false (.t 89)) 82 false 3998, Of 91 (.bin .geq (.t 84) (.t 90)) 82 false 8190, Od 92 (.pick (.t 82) (.c (.bool true)) (.t 91)) 16382, Oa 93 (.mv (.t 4)), ⟨(some 94), .mv (.c .any), some ((.c (.fn (.func 82) [] [])), [(.t 78), (.t 92), (.c (.int .i64 1)), (.t 93)]), none, 65535⟩]
abbrev qamz : List SOper := [Oa 95 (.mv (.t 0)), Oa 96 (.mv (.t 0)), Od 97 (.nilc (.t 96)) 2, Od 98 (.faddr 7 (.t 97)) 6, Od 99 (.faddr 0 (.t 98)) 14, Od 100 (.load (.t 99)) 30, Od 101 (.bin .eql (.t 100) (.c (.int .i64 0))) 62, Od 102 (.mv (.t 101)) 126, Of 103 (.mv (.t 0)) 102 true 254, Of 104 (.nilc (.t 103)) 102 true 510, Of 105 (.faddr 0 (.t 104)) 102 true 1022, Of 106 (.faddr 3 (.t 105)) 102 true 2046, Of 107 (.load (.t 106)) 102 true 4094, Of 108 (.faddr 1 (.t 3)) 102 true 254, Of 109 (.load (.t 108)) 102 true 8446, Of 110 (.iaddr 2 (.t 107) (.t 109)) 102 true 32766, Of 111 (.faddr 0 (.t 110)) 102 true 65534, Of 112 (.load (.t 111)) 102 true 131070, Of 113 (.len false (.t 112)) 102 true 262142, Of 114 (.bin .gtr (.t 113) (.c (.int .i64 0))) 102 true 524286, Od 115 (.pick (.t 102) (.t 114) (.c (.bool false))) 1048574, Oa 116 (.mv (.t 4)), ⟨(some 117), .mv (.c .any), some ((.c (.fn (.func 82) [] [])), [(.t 95), (.t 115), (.c (.int .i64 2)), (.t 116)]), none, 4194303⟩]
abbrev qamy : List SOper := [Oa 118 (.mv (.t 5)), Oa 119 (.slice 1 (.t 118) none (some (.c (.int .i64 1)))), Oa 5 (.mv (.t 119))]
abbrev qamx : List SOper := [Oa 121 (.bin .eql (.t 51) (.c (.int .i64 3))), Oa 120 (.mv (.t 121))]
abbrev qamw : List SOper := [Oa 122 (.mv (.t 0)), Oa 123 (.faddr 2 (.t 3)), Oa 124 (.load (.t 123)), Oa 125 (.mv (.t 4)), Oc 126 127 [(.t 122), (.t 124), (.c .nilsl), (.t 125)]]
abbrev qamv : List SOper := [Oa 128 (.bin .eql (.t 51) (.c (.int .i64 4))), Oa 127 (.mv (.t 128))]
abbrev qamu : List SOper := [Oa 129 (.mv (.t 0)), Oa 130 (.faddr 1 (.t 3)), Oa 131 (.load (.t 130)), Oa 132 (.mv (.t 4)), Oc 133 88 [(.t 129), (.t 131), (.t 132)]]
abbrev qamt : List SOper := [Oa 52 (.mv (.t 0)), Oa 53 (.mv (.t 4)), Oc 54 82 [(.t 52), (.c (.bool true)), (.c (.int .i64 5)), (.t 53)]]
abbrev qams : List SOper := [Oa 134 (.mv (.t 5)), Oa 135 (.len false (.t 134)), Oa 136 (.mv (.c (.int .i64 0)))]
abbrev qamr : List SOper := [Oa 137 (.bin .lss (.t 136) (.t 135))]
abbrev qamq : List SOper := [Oa 138 (.iaddr 1 (.t 134) (.t 136)), Oa 139 (.load (.t 138)), Oa 7 (.mv (.t 139))]
abbrev qamp : List SOper := [Oa 140 (.mv (.t 0)), Oa 141 (.mv (.t 7)), Oa 142 (.bin .lss (.t 141) (.c (.int .i64 0))), Oa 143 (.mv (.t 142)), Oe 144 (.mv (.t 7)) 143 false, Oe 145 (.mv (.t 0)) 143 false, Oe 146 (.nilc (.t 145)) 143 false, Oe 147 (.faddr 0 (.t 146)) 143 false, Oe 148 (.faddr 5 (.t 147)) 143 false, Oe 149 (.load (.t 148)) 143 false, Oe 150 (.len false (.t 149)) 143 false, Oe 151 (.bin .gtr (.t 144) (.t 150)) 143 false, Oa 152 (.pick (.t 143) (.c (.bool true)) (.t 151)), Oa 153 (.mv (.t 4)), Oc 154 82 [(.t 140), (.t 152), (.c (.int .i64 1)), (.t 153)]]
abbrev qamo : List SOper := [Oa 155 (.mv (.t 0)), Oa 156 (.mv (.t 7)), Oa 157 (.mv (.t 2)), Oa 158 (.bin .leq (.t 156) (.t 157)), Oa 159 (.mv (.t 4)), Oc 160 82 [(.t 155), (.t 158), (.c (.int .i64 11)), (.t 159)]]
abbrev qamn : List SOper := [Oa 161 (.bin .add (.t 136) (.c (.int .i64 1))), Oa 136 (.mv (.t 161))]
def qacx : SCode := (.seq (.reg false qamr [0, 2, 4, 134, 135, 136, 137]) (.seq (.cond (.t 137) .skip (.exit 3)) (.seq (.block 4 (.seq (.reg false qamq [0, 2, 4, 7, 134, 135, 136]) (.seq (.reg false qamp [0, 2, 4, 7, 134, 135, 136]) (.reg false qamo [0, 2, 4, 134, 135, 136])))) (.reg false qamn [0, 2, 4, 134, 135, 136]))))
abbrev qamm : List SOper := [Oa 33 (.mv (.t 2)), Oa 34 (.bin .add (.t 33) (.c (.int .i64 1))), Oa 2 (.mv (.t 34))]
def qahk : SCode := (.seq (.seq (.reg false qaq1 [0, 2, 32]) (.cond (.t 32) .skip (.exit 0))) (.seq (.block 1 (.seq (.reg false qaq0 [0, 2, 3]) (.seq (.reg false qaqz [0, 2, 3, 4]) (.seq (.reg false qaqy [0, 2, 3, 4, 5]) (.seq (.seq (.reg false qaqx [0, 2, 3, 4, 5, 51]) (.block 2 (.seq (.reg false qaqw [0, 2, 3, 4, 5, 51, 55]) (.cond (.t 55) (.seq (.reg true qaqv [0, 2, 4, 5]) (.reg false qam2 [0, 2, 4, 5])) (.seq (.reg false qam1 [0, 2, 3, 4, 5, 51, 76]) (.cond (.t 76) (.seq (.reg true qam0 [0, 2, 3, 4, 5]) (.seq (.reg true qamz [0, 2, 4, 5]) (.reg false qamy [0, 2, 4, 5]))) (.seq (.reg false qamx [0, 2, 3, 4, 5, 51, 120]) (.cond (.t 120) (.reg false qamw [0, 2, 4, 5]) (.seq (.reg false qamv [0, 2, 3, 4, 5, 127]) (.cond (.t 127) (.reg false qamu [0, 2, 4, 5]) (.reg false qamt [0, 2, 4, 5]))))))))))) (.seq (.reg false qams [0, 2, 4, 134, 135, 136]) (.block 3 (.loop qacx)))))))) (.reg false qamm [0, 2])))
def c_jnodes : SCode := (.seq (.reg false qaq3 [0]) (.seq (.reg false qaq2 [0, 2]) (.block 0 (.loop qahk))))
theorem qai3 : comp Try.prog 162 ((Try.f87.body).getD .skip) = some c_jnodes.erase := by kernel_rfl
abbrev qaqs : List SOper := [Oa 1 (.box 29 (.t 0)), Oa 2 (.alloc 35 [(.int .i64 0), (.int .i64 0)])]
abbrev qaqr : List SOper := [Oa 10 (.loads 7 (.t 1)), Oa 11 (.build [.nilsl, .nilsl, .nilsl, .nilsl, .nilsl, .nilsl, .nilsl, (.int .i64 0), (.int .i64 0)] [(0, 7, (.t 10))]), Oa 12 (.box 179 (.t 11)), Oa 3 (.mv (.t 12))]
abbrev qaqq : List SOper := [Oa 13 (.mv (.t 3)), Oa 14 (.faddr 0 (.t 1)), Oa 15 (.load (.t 14)), Oa 16 (.len false (.t 15)), Oa 17 (.bin .gtr (.t 16) (.c (.int .i64 6))), Oc 18 82 [(.t 13), (.t 17), (.c (.int .i64 2)), (.c (.int .i64 (-1)))]]
abbrev qaqp : List SOper := [Oa 4 (.mv (.c (.int .i64 0)))]
abbrev qaqo : List SOper := [Oa 19 (.mv (.t 4)), Oa 20 (.faddr 0 (.t 1)), Oa 21 (.load (.t 20)), Oa 22 (.len false (.t 21)), Oa 23 (.bin .lss (.t 19) (.t 22)), Oa 24 (.mv (.t 23)), Oe 25 (.mv (.t 3)) 24 true, Oe 26 (.nilc (.t 25)) 24 true, Oe 27 (.faddr 7 (.t 26)) 24 true, Oe 28 (.faddr 0 (.t 27)) 24 true, Oe 29 (.load (.t 28)) 24 true, Oe 30 (.bin .eql (.t 29) (.c (.int .i64 0))) 24 true, Oa 31 (.pick (.t 24) (.t 30) (.c (.bool false)))]
abbrev qaqn : List SOper := [Oa 35 (.faddr 0 (.t 1)), Oa 36 (.load (.t 35)), Oa 37 (.mv (.t 4)), Oa 38 (.iaddr 1 (.t 36) (.t 37)), Oa 39 (.loads 1 (.t 38)), Oc 40 83 [(.t 39)], Oa 34 (.mv (.t 40)), Oa 41 (.extr (.t 34) 0), Oa 42 (.extr (.t 34) 1), Oa 6 (.alloc 35 [(.int .i64 0), (.int .i64 0)]), Oa 5 (.mv (.t 41)), Ob (.store 2 (.t 6) (.t 42))]
abbrev qaqm : List SOper := [Oa 43 (.mv (.t 3)), Oa 44 (.faddr 0 (.t 6)), Oa 45 (.load (.t 44)), Oa 46 (.bin .neq (.t 45) (.c (.int .i64 0))), Oa 47 (.faddr 0 (.t 6)), Oa 48 (.load (.t 47)), Oa 49 (.mv (.t 4)), Oa 50 (.bin .add (.c (.int .i64 1000)) (.t 49)), Oc 51 82 [(.t 43), (.t 46), (.t 48), (.t 50)]]
abbrev qaql : List SOper := [Oa 32 (.mv (.t 4)), Oa 33 (.bin .add (.t 32) (.c (.int .i64 1))), Oa 4 (.mv (.t 33))]
def qahj : SCode := (.seq (.seq (.reg false qaqo [1, 2, 3, 4, 31]) (.cond (.t 31) .skip (.exit 0))) (.seq (.block 1 (.seq (.reg false qaqn [1, 2, 3, 4, 6]) (.reg false qaqm [1, 2, 3, 4]))) (.reg false qaql [1, 2, 3, 4])))
abbrev qahi : List SOper := [Oa 52 (.mv (.t 3)), Oa 53 (.faddr 1 (.t 1)), Oa 54 (.load (.t 53)), Oa 55 (.len false (.t 54)), Oa 56 (.bin .gtr (.t 55) (.c (.int .i64 4))), Oc 57 82 [(.t 52), (.t 56), (.c (.int .i64 2)), (.c (.int .i64 (-2)))]]
abbrev qagk : List SOper := [Oa 58 (.faddr 1 (.t 1)), Oa 59 (.load (.t 58)), Oa 60 (.len false (.t 59)), Oa 61 (.mv (.c (.int .i64 0)))]
abbrev qal3 : List SOper := [Oa 62 (.bin .lss (.t 61) (.t 60))]
abbrev qal2 : List SOper := [Oa 63 (.mv (.t 61)), Oa 64 (.iaddr 1 (.t 59) (.t 61)), Oa 65 (.load (.t 64)), Oa 7 (.mv (.t 63)), Oa 8 (.mv (.t 65))]
abbrev qal1 : List SOper := [Oa 66 (.mv (.t 3)), Oa 67 (.mv (.t 8)), Oa 68 (.bin .lss (.t 67) (.c (.int .i64 1))), Oa 69 (.mv (.t 68)), Oe 70 (.mv (.t 8)) 69 false, Oe 71 (.bin .gtr (.t 70) (.c (.int .i64 48))) 69 false, Oa 72 (.pick (.t 69) (.c (.bool true)) (.t 71)), Oa 73 (.mv (.t 7)), Oa 74 (.bin .add (.c (.int .i64 2000)) (.t 73)), Oc 75 82 [(.t 66), (.t 72), (.c (.int .i64 6)), (.t 74)]]
abbrev qal0 : List SOper := [Oa 76 (.bin .add (.t 61) (.c (.int .i64 1))), Oa 61 (.mv (.t 76))]
def qafe : SCode := (.seq (.reg false qal3 [1, 2, 3, 59, 60, 61, 62]) (.seq (.cond (.t 62) .skip (.exit 2)) (.seq (.block 3 (.seq (.reg false qal2 [1, 2, 3, 7, 8, 59, 60, 61]) (.reg false qal1 [1, 2, 3, 59, 60, 61]))) (.reg false qal0 [1, 2, 3, 59, 60, 61]))))
abbrev qagj : List SOper := [Oa 77 (.mv (.t 3)), Oa 78 (.nilc (.t 77)), Oa 79 (.faddr 7 (.t 78)), Oa 80 (.faddr 0 (.t 79)), Oa 81 (.load (.t 80)), Oa 82 (.bin .neq (.t 81) (.c (.int .i64 0)))]
abbrev qagi : List SOper := [Oa 83 (.mv (.t 3)), Oa 84 (.nilc (.t 83)), Oa 85 (.faddr 7 (.t 84)), Oa 86 (.loads 2 (.t 85)), Ob (.store 2 (.t 2) (.t 86))]
abbrev qaer : List SOper := [Oa 87 (.mv (.t 3)), Oc 88 84 [(.t 87)]]
abbrev qaeq : List SOper := [Oa 89 (.mv (.t 3)), Oc 90 85 [(.t 89)]]
abbrev qaep : List SOper := [Oa 91 (.mv (.t 3)), Oc 92 86 [(.t 91)]]
abbrev qaeo : List SOper := [Oa 93 (.mv (.t 3)), Oc 94 87 [(.t 93)]]
abbrev qaen : List SOper := [Oa 95 (.mv (.t 3)), Oa 96 (.faddr 6 (.t 1)), Oa 97 (.load (.t 96)), Oa 98 (.len false (.t 97)), Oa 99 (.bin .gtr (.t 98) (.c (.int .i64 6))), Oc 100 82 [(.t 95), (.t 99), (.c (.int .i64 2)), (.c (.int .i64 (-7)))]]
abbrev qaem : List SOper := [Oa 9 (.mv (.c (.int .i64 0)))]
abbrev qalz : List SOper := [Oa 101 (.mv (.t 9)), Oa 102 (.faddr 6 (.t 1)), Oa 103 (.load (.t 102)), Oa 104 (.len false (.t 103)), Oa 105 (.bin .lss (.t 101) (.t 104)), Oa 106 (.mv (.t 105)), Oe 107 (.mv (.t 3)) 106 true, Oe 108 (.nilc (.t 107)) 106 true, Oe 109 (.faddr 7 (.t 108)) 106 true, Oe 110 (.faddr 0 (.t 109)) 106 true, Oe 111 (.load (.t 110)) 106 true, Oe 112 (.bin .eql (.t 111) (.c (.int .i64 0))) 106 true, Oa 113 (.pick (.t 106) (.t 112) (.c (.bool false)))]
abbrev qaly : List SOper := [Oa 116 (.mv (.t 3)), Oa 117 (.faddr 6 (.t 1)), Oa 118 (.load (.t 117)), Oa 119 (.mv (.t 9)), Oa 120 (.iaddr 1 (.t 118) (.t 119)), Oa 121 (.load (.t 120)), Oa 122 (.mv (.t 9)), Oa 123 (.bin .add (.c (.int .i64 7000)) (.t 122)), Oc 124 88 [(.t 116), (.t 121), (.t 123)]]
abbrev qalx : List SOper := [Oa 125 (.mv (.t 3)), Oa 126 (.faddr 6 (.t 1)), Od 127 (.load (.t 126)) 2, Oa 128 (.mv (.t 9)), Od 129 (.slice 1 (.t 127) none (some (.t 128))) 14, Oa 130 (.faddr 6 (.t 1)), Od 131 (.load (.t 130)) 32, Oa 132 (.mv (.t 9)), Od 133 (.iaddr 1 (.t 131) (.t 132)) 224, Od 134 (.load (.t 133)) 480, ⟨(some 135), .mv (.c .any), some ((.c (.fn (.func 89) [] [])), [(.t 129), (.t 134)]), none, 1022⟩, Oa 136 (.mv (.t 9)), Od 137 (.bin .add (.c (.int .i64 7000)) (.t 136)) 2048, ⟨(some 138), .mv (.c .any), some ((.c (.fn (.func 82) [] [])), [(.t 125), (.t 135), (.c (.int .i64 7)), (.t 137)]), none, 8191⟩]
abbrev qalw : List SOper := [Oa 114 (.mv (.t 9)), Oa 115 (.bin .add (.t 114) (.c (.int .i64 1))), Oa 9 (.mv (.t 115))]
def qad5 : SCode := (.seq (.seq (.reg false qalz [1, 2, 3, 9, 113]) (.cond (.t 113) .skip (.exit 4))) (.seq (.block 5 (.seq (.reg false qaly [1, 2, 3, 9]) (.reg true qalx [1, 2, 3, 9]))) (.reg false qalw [1, 2, 3, 9])))
abbrev qadp : List SOper := [Oa 139 (.mv (.t 3)), Oa 140 (.nilc (.t 139)), Oa 141 (.faddr 7 (.t 140)), Oa 142 (.loads 2 (.t 141)), Ob (.store 2 (.t 2) (.t 142))]
def c_pcheck : SCode := (.seq (.reg false qaqs [1, 2]) (.seq (.reg false qaqr [1, 2, 3]) (.seq (.reg false qaqq [1, 2, 3]) (.seq (.seq (.reg false qaqp [1, 2, 3, 4]) (.block 0 (.loop qahj))) (.seq (.reg false qahi [1, 2, 3]) (.seq (.seq (.reg false qagk [1, 2, 3, 59, 60, 61]) (.block 2 (.loop qafe))) (.seq (.seq (.reg false qagj [1, 2, 3, 82]) (.cond (.t 82) (.seq (.reg false qagi [2]) .ret) .skip)) (.seq (.reg false qaer [1, 2, 3]) (.seq (.reg false qaeq [1, 2, 3]) (.seq (.reg false qaep [1, 2, 3]) (.seq (.reg false qaeo [1, 2, 3]) (.seq (.reg false qaen [1, 2, 3]) (.seq (.seq (.reg false qaem [1, 2, 3, 9]) (.block 4 (.loop qad5))) (.seq (.reg false qadp [2]) .ret))))))))))))))
theorem qai2 : comp Try.prog 143 ((Try.f44.body).getD .skip) = some c_pcheck.erase := by kernel_rfl
abbrev qap0 : List SOper := [Oa 3 (.box 114 (.t 0)), Oa 6 (.mv (.c (.int .i64 0)))]
abbrev qapz : List SOper := [Oa 12 (.faddr 0 (.t 3)), Oa 13 (.load (.t 12)), Oa 14 (.bin .neq (.t 13) (.c (.int .i64 1))), Oa 15 (.mv (.t 14)), Oe 16 (.faddr 0 (.t 3)) 15 true, Oe 17 (.load (.t 16)) 15 true, Oe 18 (.bin .neq (.t 17) (.c (.int .i64 2))) 15 true, Oa 19 (.pick (.t 15) (.t 18) (.c (.bool false))), Oa 20 (.mv (.t 19)), Oe 21 (.faddr 0 (.t 3)) 20 true, Oe 22 (.load (.t 21)) 20 true, Oe 23 (.bin .neq (.t 22) (.c (.int .i64 3))) 20 true, Oa 24 (.pick (.t 20) (.t 23) (.c (.bool false))), Oa 11 (.mv (.t 24))]
abbrev qapy : List SOper := [Oa 6 (.mv (.c (.int .i64 5)))]
abbrev qapx : List SOper := [Oa 26 (.mv (.t 1)), Oa 27 (.len false (.t 26)), Oa 28 (.bin .eql (.t 27) (.c (.int .i64 0))), Oa 29 (.mv (.t 28)), Oe 30 (.mv (.t 1)) 29 false, Oe 31 (.len false (.t 30)) 29 false, Oe 32 (.bin .gtr (.t 31) (.c (.int .i64 3))) 29 false, Oa 33 (.pick (.t 29) (.c (.bool true)) (.t 32)), Oa 34 (.mv (.t 33)), Oe 35 (.faddr 0 (.t 3)) 34 false, Oe 36 (.load (.t 35)) 34 false, Oe 37 (.bin .eql (.t 36) (.c (.int .i64 2))) 34 false, Oe 38 (.mv (.t 37)) 34 false, Oe 39 (.mv (.t 1)) 38 true, Oe 40 (.len false (.t 39)) 38 true, Oe 41 (.bin .neq (.t 40) (.c (.int .i64 1))) 38 true, Oe 42 (.pick (.t 38) (.t 41) (.c (.bool false))) 34 false, Oa 43 (.pick (.t 34) (.c (.bool true)) (.t 42)), Oa 44 (.mv (.t 43)), Oe 45 (.faddr 2 (.t 3)) 44 false, Oe 46 (.load (.t 45)) 44 false, Oe 47 (.len false (.t 46)) 44 false, Oe 48 (.bin .eql (.t 47) (.c (.int .i64 0))) 44 false, Oa 49 (.pick (.t 44) (.c (.bool true)) (.t 48)), Oa 50 (.mv (.t 49)), Oe 51 (.faddr 2 (.t 3)) 50 false, Oe 52 (.load (.t 51)) 50 false, Oe 53 (.len false (.t 52)) 50 false, Oe 54 (.bin .gtr (.t 53) (.c (.int .i64 4))) 50 false, Oa 55 (.pick (.t 50) (.c (.bool true)) (.t 54)), Oa 25 (.mv (.t 55))]
abbrev qapw : List SOper := [Oa 6 (.mv (.c (.int .i64 2)))]
abbrev qapv : List SOper := [Oa 57 (.faddr 3 (.t 3)), Oa 58 (.load (.t 57)), Oa 59 (.bin .lss (.t 58) (.c (.int .i64 0))), Oa 60 (.mv (.t 59)), Oe 61 (.faddr 3 (.t 3)) 60 false, Oe 62 (.load (.t 61)) 60 false, Oe 63 (.bin .gtr (.t 62) (.c (.int .i64 16))) 60 false, Oa 64 (.pick (.t 60) (.c (.bool true)) (.t 63)), Oa 56 (.mv (.t 64))]
abbrev qapu : List SOper := [Oa 6 (.mv (.c (.int .i64 1)))]
abbrev qapt : List SOper := [Oa 65 (.mv (.t 1)), Oa 66 (.len false (.t 65)), Oa 67 (.mv (.c (.int .i64 0)))]
abbrev qaps : List SOper := [Oa 68 (.bin .lss (.t 67) (.t 66))]
abbrev qalk : List SOper := [Oa 69 (.iaddr 1 (.t 65) (.t 67)), Oa 70 (.load (.t 69)), Oa 8 (.mv (.t 70))]
abbrev qalj : List SOper := [Oa 71 (.mv (.t 8)), Oa 72 (.bin .lss (.t 71) (.c (.int .i64 1))), Oa 73 (.mv (.t 72)), Oe 74 (.mv (.t 8)) 73 false, Oe 75 (.bin .gtr (.t 74) (.c (.int .i64 48))) 73 false, Oa 76 (.pick (.t 73) (.c (.bool true)) (.t 75))]
abbrev qali : List SOper := [Oa 6 (.mv (.c (.int .i64 6)))]
abbrev qalh : List SOper := [Oa 77 (.bin .add (.t 67) (.c (.int .i64 1))), Oa 67 (.mv (.t 77))]
def qahe : SCode := (.seq (.reg false qaps [2, 3, 65, 66, 67, 68]) (.seq (.cond (.t 68) .skip (.exit 1)) (.seq (.block 2 (.seq (.reg false qalk [2, 3, 8, 65, 66, 67]) (.seq (.reg false qalj [2, 3, 65, 66, 67, 76]) (.cond (.t 76) (.seq (.reg false qali [6]) .ret) .skip)))) (.reg false qalh [2, 3, 65, 66, 67]))))
abbrev qalg : List SOper := [Oa 78 (.faddr 2 (.t 3)), Oa 79 (.load (.t 78)), Oa 80 (.len false (.t 79)), Oa 81 (.mv (.c (.int .i64 0)))]
abbrev qalf : List SOper := [Oa 82 (.bin .lss (.t 81) (.t 80))]
abbrev qale : List SOper := [Oa 83 (.iaddr 1 (.t 79) (.t 81)), Oa 84 (.load (.t 83)), Oa 10 (.mv (.t 84))]
abbrev qald : List SOper := [Oa 85 (.mv (.t 10)), Oa 86 (.bin .lss (.t 85) (.c (.int .i64 0))), Oa 87 (.mv (.t 86)), Oe 88 (.mv (.t 10)) 87 false, Oe 89 (.mv (.t 2)) 87 false, Oe 90 (.len false (.t 89)) 87 false, Oe 91 (.bin .geq (.t 88) (.t 90)) 87 false, Oa 92 (.pick (.t 87) (.c (.bool true)) (.t 91))]
abbrev qalc : List SOper := [Oa 6 (.mv (.c (.int .i64 1)))]
abbrev qalb : List SOper := [Oa 93 (.bin .add (.t 81) (.c (.int .i64 1))), Oa 81 (.mv (.t 93))]
def qahd : SCode := (.seq (.reg false qalf [2, 3, 79, 80, 81, 82]) (.seq (.cond (.t 82) .skip (.exit 3)) (.seq (.block 4 (.seq (.reg false qale [2, 3, 10, 79, 80, 81]) (.seq (.reg false qald [2, 3, 79, 80, 81, 92]) (.cond (.t 92) (.seq (.reg false qalc [6]) .ret) .skip)))) (.reg false qalb [2, 3, 79, 80, 81]))))
abbrev qala : List SOper := [Oa 94 (.loads 6 (.t 3)), Oa 95 (.mv (.t 2)), Oa 96 (.faddr 4 (.t 3)), Oa 97 (.load (.t 96)), Oa 98 (.faddr 5 (.t 3)), Oa 99 (.load (.t 98)), Oc 100 156 [(.t 94), (.t 95), (.t 97), (.t 99)], Oa 6 (.mv (.t 100))]
def c_tcheck : SCode := (.seq (.reg false qap0 [1, 2, 3]) (.seq (.block 0 (.seq (.reg false qapz [1, 2, 3, 11]) (.cond (.t 11) (.seq (.reg false qapy [6]) .ret) (.seq (.reg false qapx [1, 2, 3, 25]) (.cond (.t 25) (.seq (.reg false qapw [6]) .ret) (.seq (.reg false qapv [1, 2, 3, 56]) (.cond (.t 56) (.seq (.reg false qapu [6]) .ret) .skip))))))) (.seq (.seq (.reg false qapt [2, 3, 65, 66, 67]) (.block 1 (.loop qahe))) (.seq (.seq (.reg false qalg [2, 3, 79, 80, 81]) (.block 3 (.loop qahd))) (.seq (.reg false qala [6]) .ret)))))
theorem qai0 : comp Try.prog 101 ((Try.f126.body).getD .skip) = some c_tcheck.erase := by kernel_rfl
abbrev qa02 : List SOper := [Oa 4 (.box 114 (.t 0)), Oa 8 (.mv (.c (.int .i64 0)))]
abbrev qa01 : List SOper := [Oa 12 (.faddr 2 (.t 4)), Oa 13 (.load (.t 12)), Oa 14 (.mv (.t 2)), Oc 15 89 [(.t 13), (.t 14)], Oa 16 (.un .not (.t 15))]
abbrev qa00 : List SOper := [Oa 8 (.mv (.c (.int .i64 5)))]
abbrev qa0z : List SOper := [Oa 17 (.mv (.t 1)), Oa 18 (.mv (.t 2)), Oa 19 (.iaddr 2 (.t 17) (.t 18)), Oa 20 (.faddr 0 (.t 19)), Oa 21 (.load (.t 20)), Oa 9 (.mv (.t 21))]
abbrev qa0y : List SOper := [Oa 22 (.mv (.t 3)), Oa 23 (.len false (.t 22)), Oa 24 (.mv (.t 9)), Oa 25 (.len false (.t 24)), Oa 26 (.bin .neq (.t 23) (.t 25))]
abbrev qa0x : List SOper := [Oa 8 (.mv (.c (.int .i64 2)))]
abbrev qa0w : List SOper := [Oa 27 (.mv (.t 3)), Oa 28 (.len false (.t 27)), Oa 29 (.mv (.c (.int .i64 0)))]
abbrev qa0v : List SOper := [Oa 30 (.bin .lss (.t 29) (.t 28))]
abbrev qa0u : List SOper := [Oa 31 (.mv (.t 29)), Oa 32 (.iaddr 1 (.t 27) (.t 29)), Oa 33 (.load (.t 32)), Oa 10 (.mv (.t 31)), Oa 11 (.mv (.t 33))]
abbrev qavz : List SOper := [Oa 34 (.mv (.t 11)), Oa 35 (.mv (.t 9)), Oa 36 (.mv (.t 10)), Oa 37 (.iaddr 1 (.t 35) (.t 36)), Oa 38 (.load (.t 37)), Oc 39 122 [(.t 38)], Oa 40 (.bin .gtr (.t 34) (.t 39))]
abbrev qavy : List SOper := [Oa 8 (.mv (.c (.int .i64 6)))]
abbrev qavx : List SOper := [Oa 41 (.bin .add (.t 29) (.c (.int .i64 1))), Oa 29 (.mv (.t 41))]
def qan3 : SCode := (.seq (.reg false qa0v [9, 27, 28, 29, 30]) (.seq (.cond (.t 30) .skip (.exit 0)) (.seq (.block 1 (.seq (.reg false qa0u [9, 10, 11, 27, 28, 29]) (.seq (.reg false qavz [9, 27, 28, 29, 40]) (.cond (.t 40) (.seq (.reg false qavy [8]) .ret) .skip)))) (.reg false qavx [9, 27, 28, 29]))))
abbrev qavw : List SOper := [Oa 8 (.mv (.c (.int .i64 0)))]
def c_says : SCode := (.seq (.reg false qa02 [1, 2, 3, 4]) (.seq (.seq (.reg false qa01 [1, 2, 3, 16]) (.cond (.t 16) (.seq (.reg false qa00 [8]) .ret) .skip)) (.seq (.reg false qa0z [3, 9]) (.seq (.seq (.reg false qa0y [3, 9, 26]) (.cond (.t 26) (.seq (.reg false qa0x [8]) .ret) .skip)) (.seq (.seq (.reg false qa0w [9, 27, 28, 29]) (.block 0 (.loop qan3))) (.seq (.reg false qavw [8]) .ret))))))
theorem qaos : comp Try.prog 42 ((Try.f156.body).getD .skip) = some c_says.erase := by kernel_rfl
abbrev qaj7 : List SOper := [Oa 4 (.mv (.c (.bool false)))]
abbrev qaj6 : List SOper := [Oa 5 (.mv (.t 0)), Oa 6 (.mv (.t 1)), Oc 7 128 [(.t 5), (.t 6)], Oa 8 (.bin .geq (.t 7) (.c (.int .i64 0))), Oa 4 (.mv (.t 8))]
def c_contains : SCode := (.seq (.reg false qaj7 [0, 1]) (.seq (.reg false qaj6 [4]) .ret))
theorem qagx : comp Try.prog 9 ((Try.f89.body).getD .skip) = some c_contains.erase := by kernel_rfl
abbrev qaxv : List SOper := [Oa 4 (.mv (.c (.int .i64 0)))]
abbrev qaxu : List SOper := [Oa 6 (.mv (.t 0)), Oa 7 (.len false (.t 6)), Oa 8 (.mv (.c (.int .i64 0)))]
abbrev qaxt : List SOper := [Oa 9 (.bin .lss (.t 8) (.t 7))]
abbrev qaxs : List SOper := [Oa 10 (.mv (.t 8)), Oa 5 (.mv (.t 10))]
abbrev qaxr : List SOper := [Oa 11 (.mv (.t 1)), Oa 12 (.mv (.t 0)), Oa 13 (.mv (.t 5)), Oa 14 (.iaddr 1 (.t 12) (.t 13)), Oa 15 (.load (.t 14)), Oa 16 (.bin .eql (.t 11) (.t 15))]
abbrev qaxq : List SOper := [Oa 17 (.mv (.t 5)), Oa 4 (.mv (.t 17))]
abbrev qaxp : List SOper := [Oa 18 (.bin .add (.t 8) (.c (.int .i64 1))), Oa 8 (.mv (.t 18))]
def qajy : SCode := (.seq (.reg false qaxt [0, 1, 7, 8, 9]) (.seq (.cond (.t 9) .skip (.exit 0)) (.seq (.block 1 (.seq (.reg false qaxs [0, 1, 5, 7, 8]) (.seq (.reg false qaxr [0, 1, 5, 7, 8, 16]) (.cond (.t 16) (.seq (.reg false qaxq [4]) .ret) .skip)))) (.reg false qaxp [0, 1, 7, 8]))))
abbrev qaxo : List SOper := [Oa 4 (.mv (.c (.int .i64 (-1))))]
def c_index : SCode := (.seq (.reg false qaxv [0, 1]) (.seq (.seq (.reg false qaxu [0, 1, 7, 8]) (.block 0 (.loop qajy))) (.seq (.reg false qaxo [4]) .ret)))
theorem qak0 : comp Try.prog 19 ((Try.f128.body).getD .skip) = some c_index.erase := by kernel_rfl
end Go.Proofs.Yticeaegpkpjjeaa
namespace Go.Proofs.Yticeaegpkpjjeaa
set_option linter.all false
open Go.RowKit
class PureF {α : Type} (f : α → List SV) : Prop where
 ren : ∀ σ x, (f x).map (Go.Proofs.Yticeaegpkpjjeaa.ren σ) = f x
 ok : ∀ x, (f x).all ok2 = true
 pure : ∀ x, qan5 (f x)
theorem qas8 {α : Type} (f : α → List SV) [PureF f] (σ : Nat → Nat) (xs : List α) : (xs.map f).map (·.map (ren σ)) = xs.map f := by
 rw [List.map_map]; exact List.map_congr_left fun x _ => PureF.ren σ x
theorem rowf_ok {α : Type} (f : α → List SV) [PureF f] (xs : List α) : ∀ x ∈ xs.map f, x.all ok2 = true := fun x hx => by obtain ⟨b, _, rfl⟩ := List.mem_map.1 hx; exact PureF.ok b
theorem qay8 {α : Type} (f : α → List SV) [PureF f] (xs : List α) : ∀ x ∈ xs.map f, qan5 x := fun x hx => by obtain ⟨b, _, rfl⟩ := List.mem_map.1 hx; exact PureF.pure b
theorem qaba (cs : List SV) (h : cs.all (fun x => match x with | .int _ _ | .bool _ | .str _ | .nil | .nilsl | .view _ _ | .cp _ => true | _ => false) = true) : qan5 cs := fun x hx => by
 have := List.all_eq_true.1 h x hx
 cases x <;> first | exact qatg _ _ | exact qanl _ | exact qate _ | exact qatf | exact qaik | exact qank _ _ | exact qa13 _ | simp at this
instance pureF_int (k : IntKind) : PureF (fun n : Int => [SV.int k n]) := ⟨fun _ _ => rfl, fun _ => rfl, fun _ => qaba _ rfl⟩
instance pureF_bool : PureF (fun b : Bool => [SV.bool b]) := ⟨fun _ _ => rfl, fun _ => rfl, fun _ => qaba _ rfl⟩
class PureR (fs : List (List SV)) : Prop where
 ren : ∀ σ, fs.map (·.map (Go.Proofs.Yticeaegpkpjjeaa.ren σ)) = fs
 ok : ∀ x ∈ fs, x.all ok2 = true
 pure : ∀ x ∈ fs, qan5 x
instance pureR_map {α : Type} (f : α → List SV) [PureF f] (xs : List α) : PureR (xs.map f) := ⟨fun σ => qas8 f σ xs, rowf_ok f xs, qay8 f xs⟩
theorem qail (e z : Nat) (fs : List (List SV)) [PureR fs] : qa46 (.row e z fs) ↔ True := ⟨fun _ => trivial, fun _ => PureR.pure⟩
def setS : Sl → Nat → SV → Sl
 | [], t, v => [(t, v)]
 | (u, x) :: l, t, v => if u = t then (t, v) :: l else (u, x) :: setS l t v
def qa4z : Sl → List (Nat × SV) → Sl
 | l, [] => l
 | l, (t, v) :: r => qa4z (setS l t v) r
def qa40 : Hp → List (Nat × SObj) → Hp
 | h, [] => h
 | h, (i, o) :: r => qa40 (puth h i o) r
def SSt.turn (s : SSt) (sl : List (Nat × SV)) (hp : List (Nat × SObj)) : SSt := ⟨qa4z s.sl sl, qa40 s.hp hp, s.nx⟩
variable {X : Cx} {s s' : SSt} {Q : SExit → SSt → Prop} {σ : Nat → Nat} {sl : Sl} {hp : Hp}
theorem qaaa : SlotsM σ sl [] := trivial
theorem qaac : ObjsM σ hp [] := trivial
theorem qaok {i : Nat} {t : TypeId} {cs ds : List SV} {r : Hp} (h : geth hp (σ i) = some (.cells t cs)) (h2 : CoL cs (ds.map (ren σ))) (g : ObjsM σ hp r) : ObjsM σ hp ((i, .cells t ds) :: r) := ⟨⟨_, h, rfl, h2⟩, g⟩
theorem qazi {i e z : Nat} {es fs : List (List SV)} {r : Hp} (h : geth hp (σ i) = some (.row e z es)) (h2 : fs.map (·.map (ren σ)) = fs) (h3 : es = fs) (g : ObjsM σ hp r) : ObjsM σ hp ((i, .row e z fs) :: r) := ⟨⟨_, h, rfl, rfl, by rw [h2, h3]; exact CoLL.refl _⟩, g⟩
theorem qatm {i e z : Nat} {es fs : List (List SV)} [PureR fs] {r : Hp} (h : geth hp (σ i) = some (.row e z es)) (h3 : es = fs) (g : ObjsM σ hp r) : ObjsM σ hp ((i, .row e z fs) :: r) := qazi h (PureR.ren σ) h3 g
theorem qatn {i e z : Nat} {es fs : List (List SV)} {r : Hp} (h : geth hp (σ i) = some (.row e z es)) (h3 : CoLL es (fs.map (·.map (ren σ)))) (g : ObjsM σ hp r) : ObjsM σ hp ((i, .row e z fs) :: r) := ⟨⟨_, h, rfl, rfl, h3⟩, g⟩
theorem qazj {i : Nat} {I : AbsI} {r : Hp} (h : geth hp (σ i) = some (.abs I)) (g : ObjsM σ hp r) : ObjsM σ hp ((i, .abs I) :: r) := ⟨⟨_, h, rfl⟩, g⟩
theorem qad4 {f : SV → SV} {x y : SV} {xs ys : List SV} (h : Co x (f y)) (g : CoL xs (ys.map f)) : CoL (x :: xs) ((y :: ys).map f) := ⟨h, g⟩
def diag (m : Nat) (E : List (Nat × Nat)) (hp : Hp) : List (Nat × Nat) := ((List.range m ++ (idsH hp).filter fun i => decide (m ≤ i)).filter fun i => !(E.any fun p => p.1 == i)).map fun i => (i, i)
theorem qaag (E : List (Nat × Nat)) {m : Nat} (hm : X.m = m) (hsl : SlotsM (rn (E ++ diag m E s'.hp) s.nx) s.sl s'.sl) (hhp : ObjsM (rn (E ++ diag m E s'.hp) s.nx) s.hp s'.hp) (hok : qabt m s'.nx (E ++ diag m E s'.hp) s'.hp = true) (hle : m ≤ s'.nx) : Wk X s s' := qa1s _ hm hok hle hsl hhp
theorem qabp {α : Type} {c : SCode} (F : SSt → α → SSt) (I : α → Prop) (μ : α → Nat) (a : α) (hw : Wk X s (F s a)) (h0 : I a) (h : ∀ J : SSt → Nat → Prop, RowKit.Hid (∀ a, I a → J (F s a) (μ a)) → ∀ a, I a → SWp X c (QLoop X J (μ a) Q) (F s a)) : SWp X (.loop c) Q s :=
 qa2r (fun s' n => ∃ a, s' = F s a ∧ I a ∧ n = μ a) hw ⟨a, rfl, h0, rfl⟩ fun s' n ⟨a, e, hi, hn⟩ => by subst e hn; exact h _ (Lib.hid fun a hi => ⟨a, rfl, hi, rfl⟩) a hi
theorem qaaj {α : Type} {F : α → SSt} {I : α → Prop} {μ : α → Nat} {n : Nat} {J : SSt → Nat → Prop} (hJ : RowKit.Hid (∀ a, I a → J (F a) (μ a))) (a : α) (hw : Wk X s' (F a)) (h0 : I a) (hn : μ a < n) : QLoop X J n Q .normal s' := ⟨F a, μ a, hw, (by have h : ∀ a, I a → J (F a) (μ a) := hJ; exact h a h0), hn⟩
def qa1p : Nat → List (TypeId × Nat × List (List SV)) → Hp
 | _, [] => []
 | q, x :: r => (q, .row x.1 x.2.1 x.2.2) :: qa1p (q + 1) r
theorem qani : ∀ (l : List (TypeId × Nat × List (List SV))) (q i : Nat), geth (qa1p q l) (q + i) = (l[i]?).map fun x => .row x.1 x.2.1 x.2.2
 | [], _, _ => rfl
 | x :: r, q, 0 => by simp [qa1p, geth]
 | x :: r, q, i + 1 => by
  simp only [qa1p, geth]
  rw [if_neg (by omega), show q + (i + 1) = q + 1 + i by omega, qani r (q + 1) i]; simp
theorem qa10 {σ : Nat → Nat} {H : Hp} : ∀ (l : List (TypeId × Nat × List (List SV))) (a : Nat), (∀ x ∈ l, PureR x.2.2) → (∀ i x, l[i]? = some x → geth H (σ (a + i)) = some (.row x.1 x.2.1 x.2.2)) → ObjsF σ H (qa1p a l)
 | [], _, _, _ => trivial
 | x :: r, a, hp, h => by
  have := hp x (by simp)
  exact ⟨⟨.row x.1 x.2.1 x.2.2, h 0 x rfl, rfl, rfl, PureR.ok, (PureR.ren σ).symm⟩, qa10 r (a + 1) (fun y hy => hp y (by simp [hy])) fun i y hy => by rw [show a + 1 + i = a + (i + 1) by omega]; exact h (i + 1) y (by simpa using hy)⟩
theorem qahp (l : List (TypeId × Nat × List (List SV))) : ∀ q, idsH (qa1p q l) = (List.range' q l.length) := by
 induction l with
 | nil => intro q; rfl
 | cons x r ih => intro q; simp only [qa1p, List.length_cons, List.range'_succ]; rw [← ih]; rfl
theorem qaob {P : Program} {f : FuncId} {args : List SV} {r : SV} (l : List (TypeId × Nat × List (List SV))) (h : SCalls P f args [] 0 r (qa1p 0 l)) (ha : ∀ σ, args.map (Go.Proofs.Yticeaegpkpjjeaa.ren σ) = args) (hp : ∀ x ∈ l, PureR x.2.2) (hl : l.length ≤ 8) (q : Nat) {r' : SV} (hr : r' = Go.Proofs.Yticeaegpkpjjeaa.ren (sg [] q) r) (hk : ok2 r = true) : SCalls P f args [] q r' (qa1p q l) := by
 have e : ∀ i, i < 8 → sg [] q i = q + i := fun i hi => by unfold sg; simp [hi]
 refine qac6 [] h rfl (by simp) (by simp) (ha _).symm trivial (by simp [idsH]) hr hk (qa10 l 0 hp fun i x hx => ?_) (fun i hi => ?_) ?_
 ·have hi : i < l.length := (List.getElem?_eq_some_iff.1 hx).1
  rw [Nat.zero_add, e i (by omega), qani, hx]; rfl
 ·rw [qahp] at hi
  have := List.mem_range'_1.1 hi
  simp; omega
 ·rw [qahp, qahp]
  apply List.ext_getElem
  ·simp
  ·intro i h1 h2
   simp at h1
   simp [e i (by omega)]
theorem qacq {P : Program} {f : FuncId} {args : List SV} {t : TypeId} {cs ds : List SV} {r : SV} (h : SCalls P f (.ptr 0 0 :: args) [(0, .cells t cs)] 1 r [(0, .cells t ds)]) (ha : ∀ σ, args.map (Go.Proofs.Yticeaegpkpjjeaa.ren σ) = args)
  (hc : ∀ σ, cs.map (Go.Proofs.Yticeaegpkpjjeaa.ren σ) = cs) (hd : ∀ σ, ds.map (Go.Proofs.Yticeaegpkpjjeaa.ren σ) = ds) (hk : ds.all ok2 = true) (hr : ∀ σ, Go.Proofs.Yticeaegpkpjjeaa.ren σ r = r) (hk2 : ok2 r = true) (id q : Nat) (hq : id < q) : SCalls P f (.ptr id 0 :: args) [(id, .cells t cs)] q r [(id, .cells t ds)] := by
 have e0 : sg [id] q 0 = id := rfl
 refine qac6 [id] h rfl (by simp) (by simp; omega) ?_ ?_ (by simp [idsH]) (hr _).symm hk2 ?_ (by simp [idsH]) (by simp [idsH, e0])
 ·rw [List.map_cons, ha]; simp [Go.Proofs.Yticeaegpkpjjeaa.ren, ren1, ren0, e0]
 ·exact ⟨⟨.cells t cs, by rw [e0]; simp [geth], rfl, by rw [hc]; exact CoL.refl _⟩, trivial⟩
 ·exact ⟨⟨.cells t ds, by rw [e0]; simp [geth], rfl, hk, (hd _).symm⟩, trivial⟩
def NoN (x : SV) : Prop := ∀ σ, Go.Proofs.Yticeaegpkpjjeaa.ren σ x = x
theorem wk_fin {t m : Nat} {v : SV} {nx : Nat} (hm : X.m = m) (hv : NoN v) (h0 : m = 0) : Wk X ⟨(t, v) :: sl, hp, nx⟩ ⟨[(t, v)], [], 0⟩ := by
 subst h0
 refine qaag [] hm ⟨?_, trivial⟩ trivial rfl (Nat.le_refl _)
 rw [hv]; simp only [gets, if_true]; exact Co.refl _
theorem qafi {t nx : Nat} {v r : SV} (hm : X.m = 0) (h : v = r) (hv : NoN r) : QFun X [.tmp t] 0 r [] .ret ⟨(t, v) :: sl, hp, nx⟩ := by
 subst h
 exact ⟨_, wk_fin hm hv rfl, by simp [qaoe, resL, resV, one_, gets], trivial, by simp⟩
theorem wk_obj {t nx : Nat} {cs ds : List SV} {sl' : Sl} (hm : X.m = 1) (h : geth hp 0 = some (.cells t cs)) (e : cs = ds) (hd : ∀ σ, ds.map (Go.Proofs.Yticeaegpkpjjeaa.ren σ) = ds) (hs : SlotsM (rn ([] ++ diag 1 [] [(0, .cells t ds)]) nx) sl sl') : Wk X ⟨sl, hp, nx⟩ ⟨sl', [(0, .cells t ds)], 1⟩ := by
 subst e
 refine qaag [] hm hs ⟨⟨_, h, rfl, ?_⟩, trivial⟩ rfl (Nat.le_refl _)
 rw [hd]; exact CoL.refl _
theorem qa3t {t nx : Nat} {cs ds : List SV} (hm : X.m = 1) (h : geth hp 0 = some (.cells t cs)) (e : cs = ds) (hd : ∀ σ, ds.map (Go.Proofs.Yticeaegpkpjjeaa.ren σ) = ds) : QFun X [] 1 (.tup []) [(0, .cells t ds)] .ret ⟨sl, hp, nx⟩ :=
 ⟨_, wk_obj (sl' := []) hm h e hd trivial, rfl, ⟨rfl, trivial⟩, by simp⟩
theorem qacf {t nx : Nat} {cs ds : List SV} (hm : X.m = 1) (h : geth hp 0 = some (.cells t cs)) (e : cs = ds) (hd : ∀ σ, ds.map (Go.Proofs.Yticeaegpkpjjeaa.ren σ) = ds) : QFun X [] 1 (.tup []) [(0, .cells t ds)] .normal ⟨sl, hp, nx⟩ := qa3t hm h e hd
theorem qaeg (k : IntKind) (n : Int) : NoN (.int k n) := fun _ => rfl
theorem qa3g (b : Bool) : NoN (.bool b) := fun _ => rfl
theorem qae6 (z : Nat) (es : List (List SV)) : NoN (.view z es) := fun _ => rfl
theorem wk_gets {sl' : Sl} {nx : Nat} (h : ∀ t, gets sl t = gets sl' t) : Wk X ⟨sl, hp, nx⟩ ⟨sl', hp, nx⟩ := fun ρ fp a w hs => ⟨ρ, fp, ⟨hs.sim.h, hs.sim.tmps, hs.sim.defers, fun t => by have := hs.sim.slots t; rw [show gets sl t = gets sl' t from h t] at this; exact this⟩, hs.fresh, hs.le⟩
theorem qant : ∀ (l : Sl) (t : Nat) (v : SV) (u : Nat), gets (setS l t v) u = if u = t then v else gets l u
 | [], t, v, u => by simp only [setS, gets, eq_comm]
 | (i, x) :: l, t, v, u => by
  simp only [setS]
  by_cases h : i = t
  ·subst h
   rw [if_pos rfl]
   simp only [gets]
   by_cases h2 : i = u
   ·subst h2; simp
   ·rw [if_neg h2, if_neg (fun e => h2 e.symm), if_neg h2]
  ·rw [if_neg h]
   simp only [gets]
   by_cases h2 : i = u
   ·subst h2; rw [if_pos rfl, if_neg h, if_pos rfl]
   ·rw [if_neg h2, if_neg h2]; exact qant l t v u
theorem qafo (t e size : Nat) (h : gets s.sl t = .nilsl) : Wk X s ⟨setS s.sl t (.own s.nx 0), puth s.hp s.nx (.row e size []), s.nx + 1⟩ :=
 (qa2l t e size h).trans (wk_gets fun u => by rw [qafw, qant])
theorem zA {a b : SCode} (h : SWp X a (QSeq X b Q) s) : SWp X (.seq a b) Q s := swp_seq h
theorem zK {l : List (SOper × Tch)} {p : Prop} (hp : p) (h : qatl l = true := by with_unfolding_all rfl) : qatl l = true ∧ p := ⟨h, hp⟩
theorem zM {t nx : Nat} {k : IntKind} {a b : Int} (hm : X.m = 0) (h : a = b) : QFun X [.tmp t] 0 (.int k b) [] .ret ⟨(t, .int k a) :: sl, hp, nx⟩ := qafi hm (congrArg _ h) (qaeg _ _)
theorem zN {t nx : Nat} {a b : Bool} (hm : X.m = 0) (h : a = b) : QFun X [.tmp t] 0 (.bool b) [] .ret ⟨(t, .bool a) :: sl, hp, nx⟩ := qafi hm (congrArg _ h) (qa3g _)
theorem za {t : Nat} {v : SV} {r : Sl} (h : Co (gets sl t) (ren σ v)) (g : SlotsM σ sl r) : SlotsM σ sl ((t, v) :: r) := ⟨h, g⟩
theorem zb {i : Nat} {t : TypeId} (cs : List SV) {ds : List SV} {r : Hp} (h : geth hp (σ i) = some (.cells t cs)) (h2 : CoL cs (ds.map (ren σ))) (g : ObjsM σ hp r) : ObjsM σ hp ((i, .cells t ds) :: r) := qaok h h2 g
theorem zc {i e z : Nat} (es : List (List SV)) {fs : List (List SV)} [PureR fs] {r : Hp} (h : geth hp (σ i) = some (.row e z es)) (h3 : es = fs) (g : ObjsM σ hp r) : ObjsM σ hp ((i, .row e z fs) :: r) := qatm h h3 g
theorem zd {i e z : Nat} (es : List (List SV)) {fs : List (List SV)} {r : Hp} (h : geth hp (σ i) = some (.row e z es)) (h3 : CoLL es (fs.map (·.map (ren σ)))) (g : ObjsM σ hp r) : ObjsM σ hp ((i, .row e z fs) :: r) := qatn h h3 g
theorem zga {h : Hp} {i : Nat} {o : SObj} (e : geth h i = some o) : geth h i = some o := e
theorem zgb {m n : Nat} {l : List (Nat × Nat)} {h : Hp} (e : qabt m n l h = true) : qabt m n l h = true := e
theorem zgc {a b : List (List SV)} (e : a = b) : a = b := e
theorem zgd {a b : Nat} (e : a ≤ b) : a ≤ b := e
theorem zge {a b : Nat} (e : a < b) : a < b := e
theorem zT : (∀ (s : SSt) (l : List (Nat × SV)) (h : List (Nat × SObj)), s.turn l h = ⟨qa4z s.sl l, qa40 s.hp h, s.nx⟩) ∧ (∀ l, qa4z l [] = l) ∧ (∀ l t v r, qa4z l ((t, v) :: r) = qa4z (setS l t v) r) ∧ (∀ t v, setS [] t v = [(t, v)]) ∧ (∀ u x l t v, setS ((u, x) :: l) t v = if u = t then (t, v) :: l else (u, x) :: setS l t v) ∧ (∀ h, qa40 h [] = h) ∧ (∀ h i o r, qa40 h ((i, o) :: r) = qa40 (puth h i o) r) :=
 ⟨fun _ _ _ => rfl, fun l => by cases l <;> rfl, fun l t v r => by cases l <;> rfl, fun _ _ => rfl, fun _ _ _ _ _ => rfl, fun h => by cases h <;> rfl, fun h _ _ _ => by cases h <;> rfl⟩
end Go.Proofs.Yticeaegpkpjjeaa
namespace Go.Proofs.Yticeaegpkpjjeaa
set_option linter.all false
open Go.RowKit
attribute [local simp] qabj qabi qaaw qaa2 qaax qaa1 qabg qabh qaap qab2 SOp.run SX.ev putd puts argS upds SOp.touch SSt.keep SSt.skip gets geth puth delh idOf SV.cells? setL qadu qadv sbin eq0 eq1 eqL qadr qacr qacs qaau qabk qaaf qabl qab3 qaai qaak FrzOk qaa5 qaaz qaa3 qaa4 qaaq qaay qabm qaa0 qaas qaa6 qaar frzS frzH frz frz1 frz0 SlotsM ObjsM ObjM rn ren ren1 ren0 qab6 qacp qacu qab5 qabn qacv qact CoL qaa7 qab7 dels adds idsH qabt
instance : PureF refc := ⟨fun _ _ => rfl, fun _ => rfl, fun _ => qaba _ rfl⟩
instance : PureF qaee := ⟨fun _ _ => rfl, fun _ => rfl, fun _ => qaba _ rfl⟩
instance : PureF qaeh := ⟨fun _ _ => rfl, fun _ => rfl, fun _ => qaba _ rfl⟩
instance : PureF qaea := ⟨fun _ _ => rfl, fun _ => rfl, fun _ => qaba _ rfl⟩
instance : PureF qacl := ⟨fun _ _ => rfl, fun _ => rfl, fun _ => qaba _ rfl⟩
instance : PureF opc := ⟨fun _ _ => rfl, fun _ => rfl, fun _ => qaba _ rfl⟩
instance : PureF actc := ⟨fun _ _ => rfl, fun _ => rfl, fun _ => qaba _ rfl⟩
instance : PureF tabc := ⟨fun _ _ => rfl, fun _ => rfl, fun _ => qaba _ rfl⟩
instance : PureF qaef := ⟨fun _ _ => rfl, fun _ => rfl, fun _ => qaba _ rfl⟩
attribute [local simp] qaeh refc qaee qaea qacl opc actc tabc qaef qacc nums
theorem width_s (p : PlanD) (r : RefD) (args : List Int) : SCalls Try.prog 121 [.agg (qacc p), .agg (refc r), nums .i64 args] [] 0 (.int .i64 (qabo p r args)) [] := by
 refine qaal (N := 62) Try.func121 rfl rfl (by kernel_rfl) qakn (by simp) (by repeat' (first | exact trivial | refine And.intro ?_ ?_ | rfl | decide | exact PureR.ren _)) (by repeat' (first | exact trivial | refine And.intro ?_ ?_ | rfl | decide | exact PureR.ren _)) ?_
 rintro X hP hN hm
 unfold c_width
 repeat' (first | (with_reducible first | refine zA ?_ | refine qaah ?_) | ((with_reducible refine qaad ?_); (try rw [hP]); simp -implicitDefEqProofs [*]) | ((with_reducible refine qaae ?_); (try simp -implicitDefEqProofs [*])) | ((with_reducible refine qaam ?_); (try simp only [qaau, qaaf, qaai])) | ((with_reducible refine qaab rfl (fun h => ?_) (fun h => ?_)) <;> have h' := h <;> (try simp at h') <;> (try subst h')) | ((with_reducible refine qaa9 (fun h => ?_) (fun h => ?_)) <;> have h' := h <;> (try simp at h') <;> (try subst h') <;> simp -implicitDefEqProofs [*]) | (with_reducible refine zM hm ?_) | fail)
 all_goals ((try simp only [qabo, qahq, qasl, qae2, el]); (repeat' split) <;> (first | omega | (simp_all; done) | (simp_all; omega)))
theorem takes_s (op : Int) : SCalls Try.prog 157 [.int .i64 op] [] 0 (.int .i64 (qacw op)) [] := by
 refine qaal (N := 20) Try.func157 rfl rfl (by kernel_rfl) qakp (by simp) (by repeat' (first | exact trivial | refine And.intro ?_ ?_ | rfl | decide | exact PureR.ren _)) (by repeat' (first | exact trivial | refine And.intro ?_ ?_ | rfl | decide | exact PureR.ren _)) ?_
 rintro X hP hN hm
 unfold c_takes
 repeat' (first | (with_reducible first | refine zA ?_ | refine qaah ?_) | ((with_reducible refine qaad ?_); (try rw [hP]); simp -implicitDefEqProofs [*]) | ((with_reducible refine qaae ?_); (try simp -implicitDefEqProofs [*])) | ((with_reducible refine qaam ?_); (try simp only [qaau, qaaf, qaai])) | ((with_reducible refine qaab rfl (fun h => ?_) (fun h => ?_)) <;> have h' := h <;> (try simp at h') <;> (try subst h')) | ((with_reducible refine qaa9 (fun h => ?_) (fun h => ?_)) <;> have h' := h <;> (try simp at h') <;> (try subst h') <;> simp -implicitDefEqProofs [*]) | (with_reducible refine zM hm ?_) | fail)
 all_goals (first | (simp [qacw, *]; done) | (simp_all [qacw]; done) | (simp_all [qacw]; omega))
def jc (p : PlanD) (a b : Int) : List SV := qacc p ++ [.int .i64 a, .int .i64 b]
def qab4 (a b : Int) (is : Bool) (code at_ : Int) : Int × Int := if is = true ∧ a = 0 then (code, at_) else (a, b)
attribute [local simp] jc
theorem jfail_s (p : PlanD) (a b : Int) (is : Bool) (code at_ : Int) : SCalls Try.prog 82 [.ptr 0 0, .bool is, .int .i64 code, .int .i64 at_] [(0, .cells 179 (jc p a b))] 1 (.tup []) [(0, .cells 179 (jc p (qab4 a b is code at_).1 (qab4 a b is code at_).2))] := by
 refine qaal (N := 23) Try.func82 rfl rfl (by kernel_rfl) qaky (by simp) (by repeat' (first | exact trivial | refine And.intro ?_ ?_ | rfl | decide | exact PureR.ren _)) (by repeat' (first | exact trivial | refine And.intro ?_ ?_ | rfl | decide | exact PureR.ren _)) ?_
 rintro X hP hN hm
 unfold c_jfail
 repeat' (first | (with_reducible refine zA ?_) | ((with_reducible refine qaad ?_); (try rw [hP]); simp -implicitDefEqProofs [*]) | ((with_reducible refine qaae ?_); (try simp -implicitDefEqProofs [*])) | ((with_reducible refine qaab rfl (fun h => ?_) (fun h => ?_)) <;> have h' := h <;> (try simp at h') <;> (try subst h')) | ((with_reducible refine qaa9 (fun h => ?_) (fun h => ?_)) <;> have h' := h <;> (try simp at h') <;> (try subst h') <;> simp -implicitDefEqProofs [*]) | (refine qacf hm rfl ?_ (fun σ => rfl)) | fail)
 all_goals (first | (simp [qab4, *]; done) | (simp_all [qab4]; done) | (simp_all [qab4]; omega))
theorem qaan (p : PlanD) (a b : Int) (is : Bool) (code at_ : Int) (id q : Nat) (h : id < q) : SCalls Try.prog 82 [.ptr id 0, .bool is, .int .i64 code, .int .i64 at_] [(id, .cells 179 (jc p a b))] q (.tup []) [(id, .cells 179 (jc p (qab4 a b is code at_).1 (qab4 a b is code at_).2))] :=
 qacq (jfail_s p a b is code at_) (fun _ => rfl) (fun _ => rfl) (fun _ => rfl) rfl (fun _ => rfl) rfl id q h
theorem qai7 (p : PlanD) (r : RefD) (args : List Int) (q : Nat) : SCalls Try.prog 121 [.agg (qacc p), .agg (refc r), nums .i64 args] [] q (.int .i64 (qabo p r args)) [] := qabs (width_s p r args) (fun _ => rfl) (fun _ => rfl) rfl q
theorem qafd (p : PlanD) (r : RefD) (q : Nat) : SCalls Try.prog 121 [.agg (qacc p), .agg (refc r), .nilsl] [] q (.int .i64 (qabo p r [])) [] := qafq (qai7 p r [] q) ⟨Co.refl _, Co.refl _, Co.nilsl _, trivial⟩
theorem qaug (op : Int) (q : Nat) : SCalls Try.prog 157 [.int .i64 op] [] q (.int .i64 (qacw op)) [] := qabs (takes_s op) (fun _ => rfl) (fun _ => rfl) rfl q
theorem qazx (p : PlanD) (a b : Int) (r : RefD) (at_ : Int) : SCalls Try.prog 155 [.ptr 0 0, .agg (refc r), .int .i64 at_] [(0, .cells 179 (jc p a b))] 1 (.tup []) [(0, .cells 179 (jc p (qab4 a b (!(decide (-1 ≤ r.h)) || qabo p r [] == 0) 1 at_).1 (qab4 a b (!(decide (-1 ≤ r.h)) || qabo p r [] == 0) 1 at_).2))] := by
 refine qaal (N := 21) Try.func155 rfl rfl (by kernel_rfl) qah7 (by simp) (by repeat' (first | exact trivial | refine And.intro ?_ ?_ | rfl | decide | exact PureR.ren _)) (by repeat' (first | exact trivial | refine And.intro ?_ ?_ | rfl | decide | exact PureR.ren _)) ?_
 rintro X hP hN hm
 unfold c_jtarget
 repeat' (first | (with_reducible first | refine zA ?_ | refine zK ?_) | ((with_reducible first | refine qaad ?_ | refine qaa8 (by rw [hP]; exact qadn) ?_); (try rw [hP]); simp -implicitDefEqProofs [*]) | ((with_reducible refine qaa9 (fun h => ?_) (fun h => ?_)) <;> have h' := h <;> (try simp at h') <;> (try subst h') <;> simp -implicitDefEqProofs [*]) | ((first | refine qabb (qafd p r _) ?_ | refine qabc (qaan p a b _ _ _ _ _ (by simp)) ⟨rfl, trivial⟩ ⟨rfl, trivial⟩ ?_); simp -implicitDefEqProofs [*]) | (refine qacf hm rfl ?_ (fun σ => rfl)) | fail)
 all_goals (first | (simp [qab4, *]; done) | (simp_all [qab4]; done) | (simp_all [qab4]; omega))
theorem jhead_s (p : PlanD) (a b : Int) (hh at_ : Int) : SCalls Try.prog 88 [.ptr 0 0, .int .i64 hh, .int .i64 at_] [(0, .cells 179 (jc p a b))] 1 (.tup []) [(0, .cells 179 (jc p (qab4 a b (!qadt p hh) 1 at_).1 (qab4 a b (!qadt p hh) 1 at_).2))] := by
 refine qaal (N := 21) Try.func88 rfl rfl (by kernel_rfl) qakx (by simp) (by repeat' (first | exact trivial | refine And.intro ?_ ?_ | rfl | decide | exact PureR.ren _)) (by repeat' (first | exact trivial | refine And.intro ?_ ?_ | rfl | decide | exact PureR.ren _)) ?_
 rintro X hP hN hm
 unfold c_jhead
 repeat' (first | ((with_reducible refine qaad ?_); (try rw [hP]); simp -implicitDefEqProofs [*]) | ((with_reducible refine qaa9 (fun h => ?_) (fun h => ?_)) <;> have h' := h <;> (try simp at h') <;> (try subst h') <;> simp -implicitDefEqProofs [*]) | (refine qabc (qaan p a b _ _ _ _ _ (by simp)) ⟨rfl, trivial⟩ ⟨rfl, trivial⟩ ?_; simp -implicitDefEqProofs [*]) | (refine qacf hm rfl ?_ (fun σ => rfl)) | fail)
 all_goals (first | (simp [qab4, qadt, *]; done) | (simp_all [qab4, qadt]; done) | (simp_all [qab4, qadt]; omega))
theorem qak4 (p : PlanD) (a b : Int) (r : RefD) (at_ : Int) (id q : Nat) (h : id < q) : SCalls Try.prog 155 [.ptr id 0, .agg (refc r), .int .i64 at_] [(id, .cells 179 (jc p a b))] q (.tup []) [(id, .cells 179 (jc p (qab4 a b (!(decide (-1 ≤ r.h)) || qabo p r [] == 0) 1 at_).1 (qab4 a b (!(decide (-1 ≤ r.h)) || qabo p r [] == 0) 1 at_).2))] :=
 qacq (qazx p a b r at_) (fun _ => rfl) (fun _ => rfl) (fun _ => rfl) rfl (fun _ => rfl) rfl id q h
theorem qagd (p : PlanD) (a b : Int) (hh at_ : Int) (id q : Nat) (h : id < q) : SCalls Try.prog 88 [.ptr id 0, .int .i64 hh, .int .i64 at_] [(id, .cells 179 (jc p a b))] q (.tup []) [(id, .cells 179 (jc p (qab4 a b (!qadt p hh) 1 at_).1 (qab4 a b (!qadt p hh) 1 at_).2))] :=
 qacq (jhead_s p a b hh at_) (fun _ => rfl) (fun _ => rfl) (fun _ => rfl) rfl (fun _ => rfl) rfl id q h
def qada (a b : Int) (code at_ : Int) : Int × Int := qab4 a b (decide (code ≠ 0)) code at_
theorem qayx (g : Int) (b1 b2 : Bool) (E at_ : Int) : qada 0 g (if b1 = true then 13 else if b2 = true then 1 else E) at_ = qada (qab4 (qab4 0 g b1 13 at_).1 (qab4 0 g b1 13 at_).2 b2 1 at_).1 (qab4 (qab4 0 g b1 13 at_).1 (qab4 0 g b1 13 at_).2 b2 1 at_).2 E at_ := by
 cases b1 <;> cases b2 <;> simp [qada, qab4]
set_option maxHeartbeats 2000000 in
theorem jtree_s (p : PlanD) (a b : Int) (l : List PushD) (args : List Int) (at_ : Int) (hl : l.length ≤ 1000000) : SCalls Try.prog 127 [.ptr 0 0, qac3 l, nums .i64 args, .int .i64 at_] [(0, .cells 179 (jc p a b))] 1 (.tup []) [(0, .cells 179 (jc p (qada a b (qah3 p l args) at_).1 (qada a b (qah3 p l args) at_).2))] := by
 refine qaal (N := 79) Try.func127 rfl rfl (by kernel_rfl) qakv (by simp) (by repeat' (first | exact trivial | refine And.intro ?_ ?_ | rfl | decide | exact PureR.ren _)) (by repeat' (first | exact trivial | refine And.intro ?_ ?_ | rfl | decide | exact PureR.ren _)) ?_
 rintro X hP hN hm
 unfold c_jtree
 have hz : ∀ c, qada a b (qah3 p l args) at_ = qada (qab4 a b (decide (8 < (l.length : Int))) 2 at_).1 (qab4 a b (decide (8 < (l.length : Int))) 2 at_).2 c at_ ∨ l.length ≤ 8 := fun c => by
  by_cases h8 : l.length ≤ 8
  ·exact .inr h8
  ·left
   have e1 : qah3 p l args = 2 := by unfold qah3; rw [if_pos (by omega)]
   have e2 : decide (8 < (l.length : Int)) = true := by simp; omega
   rw [e1, e2]
   unfold qada qab4
   by_cases ha : a = 0 <;> simp [ha]
 have hz2 : qada a b (qah3 p l args) at_ = qada (qab4 a b (decide (8 < (l.length : Int))) 2 at_).1 (qab4 a b (decide (8 < (l.length : Int))) 2 at_).2 (qagv p args l 0) at_ := by
  rcases hz (qagv p args l 0) with h | h
  ·exact h
  ·have e2 : decide (8 < (l.length : Int)) = false := by simp; omega
   have e1 : qah3 p l args = qagv p args l 0 := by unfold qah3; rw [if_neg (by omega)]
   rw [e1, e2]; rfl
 clear hz
 have hfin : ∃ F, F = qada a b (qah3 p l args) at_ := ⟨_, rfl⟩
 obtain ⟨F, hF⟩ := hfin
 rw [← hF] at hz2 ⊢
 clear hF
 have hz3 := Lib.hid hz2
 clear hz2
 repeat' (first | (with_reducible refine zA ?_) | ((with_reducible refine qaad ?_); (try rw [hP]); simp -implicitDefEqProofs [qac3, *]) | (refine qabc (qaan p a b _ _ _ _ _ (by simp)) ⟨rfl, trivial⟩ ⟨rfl, trivial⟩ ?_; simp -implicitDefEqProofs [qac3, *]) | fail)
 refine qaat (qabp (fun s (x : Nat × Int × Int × Int) => s.turn [(9, .int .i64 x.1), (8, .int .i64 x.2.1)] [(0, .cells 179 (jc p x.2.2.1 x.2.2.2))]) (fun x => x.1 ≤ l.length ∧ (-(x.1 : Int) ≤ x.2.1 ∧ x.2.1 ≤ 2 * x.1) ∧ F = qada x.2.2.1 x.2.2.2 (qagv p args (l.drop x.1) x.2.1) at_) (fun x => l.length - x.1) (0, 0, _, _) ?_ ⟨by simp, by simp, hz3⟩ ?_)
 ·repeat' (first | ((with_reducible refine qaag [] hm ?_ ?_ ?_ ?_) <;> (try simp only [zT, puth, Nat.reduceEqDiff, reduceIte, Nat.reduceAdd])) | (with_reducible first | refine za ?_ ?_ | refine zb ?_ ?_ ?_ ?_) | (with_reducible first | exact qaaa | exact qaac) | ((with_reducible first | refine zga ?_ | refine zgb ?_); rfl) | ((with_reducible refine zgd ?_); (first | omega | (simp; done))) | (exact Co.refl _) | (exact CoL.refl _) | fail)
 rintro J hJ ⟨i, n, e, g⟩ ⟨h1, h2, h3⟩
 unfold qajl
 simp only [zT, puth, Nat.reduceEqDiff, reduceIte, Nat.reduceAdd] at h1 h2 h3 ⊢
 rcases Nat.lt_or_ge i l.length with hi | hi
 ·have hd : l.drop i = l[i] :: l.drop (i + 1) := List.drop_eq_getElem_cons hi
  rw [hd, qaoo] at h3
  clear hd
  have tk : ∀ o, -1 ≤ qacw o ∧ qacw o ≤ 2 := fun o => by unfold qacw; repeat' split <;> omega
  have tw : ∀ o, IntKind.i64.wrap (1 - qacw o) = 1 - qacw o := fun o => by have := tk o; exact IntWalk.i64_in _ ⟨by omega, by omega⟩
  have tn : ∀ o, IntKind.i64.wrap (n + (1 - qacw o)) = n + (1 - qacw o) := fun o => by have := tk o; exact qaav (by omega) (by omega)
  have wi : IntKind.i64.wrap ((i : Int) + 1) = (i : Int) + 1 := qaav (by omega) (by omega)
  generalize hxx : l[i] = x at h3
  have tkx := tk x.op
  replace tk := Lib.hid tk
  replace h3 := Lib.hid h3
  by_cases he : e = 0
  ·subst he
   repeat' (first | (with_reducible first | refine zA ?_ | refine qaah ?_ | refine zK ?_) | ((with_reducible first | refine qaad ?_ | refine qaa8 (by rw [hP]; exact qadn) ?_); (try rw [hP]); simp -implicitDefEqProofs [*]) | ((with_reducible refine qaae ?_); (try simp -implicitDefEqProofs [*])) | ((with_reducible refine qaab rfl (fun h => ?_) (fun h => ?_)) <;> have h' := h <;> (try simp at h') <;> (try subst h')) | ((with_reducible refine qaa9 (fun h => ?_) (fun h => ?_)) <;> have h' := h <;> (try simp at h') <;> (try subst h') <;> simp -implicitDefEqProofs [*]) | ((first | refine qabc (qaan p _ _ _ _ _ _ _ (by simp)) ⟨rfl, trivial⟩ ⟨rfl, trivial⟩ ?_ | refine qabb (qaug _ _) ?_ | refine qabb (qai7 p x.r args _) ?_); simp -implicitDefEqProofs [*]) | (with_reducible first | refine za ?_ ?_ | refine zb ?_ ?_ ?_ ?_) | (with_reducible first | exact qaaa | exact qaac) | ((with_reducible first | refine zga ?_ | refine zgb ?_); rfl) | ((with_reducible first | refine zgd ?_ | refine zge ?_); (first | omega | (simp; done))) | (exact Co.refl _) | (exact CoL.refl _) | (refine qacp ?_; first | omega | (simp_all; done)) | ((refine qaaj hJ (i + 1, n + (1 - qacw x.op), ?_, ?_) ?_ ?_ ?_; rotate_left 2; (with_reducible refine qaag [] hm ?_ ?_ ?_ ?_) <;> (try simp only [zT, puth, Nat.reduceEqDiff, reduceIte, Nat.reduceAdd]))) | fail)
   all_goals (try dsimp only)
   all_goals (refine ⟨by omega, ⟨by omega, by omega⟩, ?_⟩; rw [h3.out])
   all_goals (refine (congrArg (fun c => qada 0 g c at_) ?_).trans (qayx g _ _ _ at_); generalize qagv p args (l.drop (i + 1)) (n + (1 - qacw x.op)) = E; clear tw tn; first | (simp [*]; done) | (clear h3; simp_all; done) | (clear h3; simp_all; omega) | (clear h3; simp_all; (repeat' split) <;> omega))
  ·have ke : (e == 0) = false := by simpa using he
   repeat' (first | (with_reducible refine zA ?_) | ((with_reducible refine qaad ?_); (try rw [hP]); simp -implicitDefEqProofs [*]) | ((with_reducible refine qaao ?_); (try simp -implicitDefEqProofs [*])) | ((with_reducible refine qaab rfl (fun h => ?_) (fun h => ?_)) <;> have h' := h <;> (try simp at h') <;> (try subst h')) | (refine qabc (qaan p _ _ _ _ _ _ _ (by simp)) ⟨rfl, trivial⟩ ⟨rfl, trivial⟩ ?_; simp -implicitDefEqProofs [*]) | (refine qacf hm rfl ?_ (fun σ => rfl)) | fail)
   rw [h3.out]
   simp [qada, qab4, he]
 ·obtain rfl : i = l.length := by omega
  rw [List.drop_length] at h3
  replace h3 := Lib.hid h3
  repeat' (first | (with_reducible refine zA ?_) | ((with_reducible refine qaad ?_); (try rw [hP]); simp -implicitDefEqProofs [*]) | ((with_reducible refine qaao ?_); (try simp -implicitDefEqProofs [*])) | ((with_reducible refine qaab rfl (fun h => ?_) (fun h => ?_)) <;> have h' := h <;> (try simp at h') <;> (try subst h')) | (refine qabc (qaan p _ _ _ _ _ _ _ (by simp)) ⟨rfl, trivial⟩ ⟨rfl, trivial⟩ ?_; simp -implicitDefEqProofs [*]) | (refine qacf hm rfl ?_ (fun σ => rfl)) | fail)
  rw [h3.out, qat6]
  unfold qada qab4
  by_cases hn : n = 1 <;> simp [hn]
end Go.Proofs.Yticeaegpkpjjeaa
namespace Go.Proofs.Yticeaegpkpjjeaa
set_option linter.all false
open Go.RowKit
attribute [local simp] qabj qabi qaaw qaa2 qaax qaa1 qabg qabh qaap qab2 SOp.run SX.ev putd puts argS upds SOp.touch SSt.keep SSt.skip gets geth puth delh idOf SV.cells? setL qadu qadv sbin eq0 eq1 eqL qadr qacr qacs qaau qabk qaaf qabl qab3 qaai qaak FrzOk qaa5 qaaz qaa3 qaa4 qaaq qaay qabm qaa0 qaas qaa6 qaar frzS frzH frz frz1 frz0 SlotsM ObjsM ObjM rn ren ren1 ren0 qab6 qacp qacu qab5 qabn qacv qact CoL qaa7 qab7 dels adds idsH qabt
attribute [local simp] qaeh refc qaee qaea qacl opc actc tabc qaef qacc nums jc
theorem qai8 (p : PlanD) (a b : Int) (l : List PushD) (args : List Int) (at_ : Int) (hl : l.length ≤ 1000000) (id q : Nat) (h : id < q) : SCalls Try.prog 127 [.ptr id 0, qac3 l, nums .i64 args, .int .i64 at_] [(id, .cells 179 (jc p a b))] q (.tup []) [(id, .cells 179 (jc p (qada a b (qah3 p l args) at_).1 (qada a b (qah3 p l args) at_).2))] :=
 qacq (jtree_s p a b l args at_ hl) (fun _ => rfl) (fun _ => rfl) (fun _ => rfl) rfl (fun _ => rfl) rfl id q h
theorem qaoz (p : PlanD) (a b : Int) (l : List PushD) (at_ : Int) (hl : l.length ≤ 1000000) (id q : Nat) (h : id < q) : SCalls Try.prog 127 [.ptr id 0, qac3 l, .nilsl, .int .i64 at_] [(id, .cells 179 (jc p a b))] q (.tup []) [(id, .cells 179 (jc p (qada a b (qah3 p l []) at_).1 (qada a b (qah3 p l []) at_).2))] :=
 qafq (qai8 p a b l [] at_ hl id q h) ⟨Co.refl _, Co.refl _, Co.nilsl _, Co.refl _, trivial⟩
theorem qagb (a b : Int) (c : Bool) (code at_ : Int) (h : code ≠ 0) : qab4 a b c code at_ = qada a b (if c = true then code else 0) at_ := by
 cases c <;> simp [qab4, qada, h]
theorem qagz (a b c d at_ : Int) : qada (qada a b c at_).1 (qada a b c at_).2 d at_ = qada a b (if c = 0 then d else c) at_ := by
 unfold qada qab4
 by_cases hc : c = 0
 ·simp [hc]
 ·by_cases ha : a = 0 <;> simp [hc, ha]
def PW (p : PlanD) : Prop := ∀ r, 0 ≤ qabo p r [] ∧ qabo p r [] ≤ 48
theorem may_not (p : PlanD) (hp : PW p) (r : RefD) : (!(decide (-1 ≤ r.h)) || qabo p r [] == 0) = !mayBe p r := by
 have := hp r
 unfold mayBe
 rw [Bool.eq_iff_iff]; simp; omega
theorem jl (p : PlanD) {F G : Int × Int} (h : F = G) : jc p F.1 F.2 = jc p G.1 G.2 := by rw [h]
theorem jl2 (p : PlanD) {a b at_ : Int} {G : Int × Int} (h : qada a b 0 at_ = G) : jc p a b = jc p G.1 G.2 := by
 rw [← h]; simp [qada, qab4]
theorem then_c {a b at_ c d : Int} (h : c = d) : qada a b c at_ = qada a b d at_ := by rw [h]
theorem jop_s (p : PlanD) (hp : PW p) (a b : Int) (o : OpD) (args : List Int) (at_ : Int) (hl : o.e.length ≤ 1000000) : SCalls Try.prog 124 [.ptr 0 0, .agg (opc o), nums .i64 args, .int .i64 at_] [(0, .cells 179 (jc p a b))] 1 (.tup []) [(0, .cells 179 (jc p (qada a b (qaop p o args) at_).1 (qada a b (qaop p o args) at_).2))] := by
 refine qaal (N := 56) Try.func124 rfl rfl (by kernel_rfl) qauf (by simp) (by repeat' (first | exact trivial | refine And.intro ?_ ?_ | rfl | decide | exact PureR.ren _)) (by repeat' (first | exact trivial | refine And.intro ?_ ?_ | rfl | decide | exact PureR.ren _)) ?_
 rintro X hP hN hm
 have c1 := fun a b q h => qak4 p a b o.r at_ 0 q h
 have c2 := fun a b q h => qai8 p a b o.e args at_ hl 0 q h
 have c3 := fun a b q h => qagd p a b o.head at_ 0 q h
 simp only [may_not p hp, qagb _ _ _ 1 _ (by decide : (1 : Int) ≠ 0)] at c1 c3
 replace c1 := Lib.hid c1
 replace c2 := Lib.hid c2
 replace c3 := Lib.hid c3
 unfold c_jop
 repeat' (first | (with_reducible first | refine zA ?_ | refine qaah ?_) | ((with_reducible refine qaad ?_); (try rw [hP]); simp -implicitDefEqProofs [qac3, *]) | ((with_reducible refine qaae ?_); (try simp -implicitDefEqProofs [qac3, *])) | ((with_reducible refine qaab rfl (fun h => ?_) (fun h => ?_)) <;> have h' := h <;> (try simp at h') <;> (try subst h')) | ((first | refine qabc (c1.out _ _ _ (by simp)) ⟨rfl, trivial⟩ ⟨rfl, trivial⟩ ?_ | refine qabc (c2.out _ _ _ (by simp)) ⟨rfl, trivial⟩ ⟨rfl, trivial⟩ ?_ | refine qabc (c3.out _ _ _ (by simp)) ⟨rfl, trivial⟩ ⟨rfl, trivial⟩ ?_ | refine qabc (qaan p _ _ _ _ _ _ _ (by simp)) ⟨rfl, trivial⟩ ⟨rfl, trivial⟩ ?_); simp -implicitDefEqProofs [qac3, *]) | (refine qacf hm rfl ?_ (fun σ => rfl)) | fail)
 all_goals (first | refine jl p ?_ | refine jl2 p (at_ := at_) ?_)
 all_goals (try simp only [qagb, qagz, ne_eq, Int.reduceEq, not_false_eq_true])
 all_goals (refine then_c ?_)
 all_goals (first | (simp [qaop, *]; done) | (simp_all [qaop]; done) | (simp [qaop, *]; cases mayBe p o.r <;> cases qadt p o.head <;> simp))
theorem jto_s (p : PlanD) (a b from_ to_ : Int) (hf : 0 ≤ from_ ∧ from_ ≤ 1000000) : SCalls Try.prog 123 [.ptr 0 0, .int .i64 from_, .int .i64 to_] [(0, .cells 179 (jc p a b))] 1 (.tup []) [(0, .cells 179 (jc p (qada a b (qaip p from_ to_) (3000 + from_)).1 (qada a b (qaip p from_ to_) (3000 + from_)).2))] := by
 refine qaal (N := 35) Try.func123 rfl rfl (by kernel_rfl) qaue (by simp) (by repeat' (first | exact trivial | refine And.intro ?_ ?_ | rfl | decide | exact PureR.ren _)) (by repeat' (first | exact trivial | refine And.intro ?_ ?_ | rfl | decide | exact PureR.ren _)) ?_
 rintro X hP hN hm
 have w : IntKind.i64.wrap (3000 + from_) = 3000 + from_ := qaav (by omega) (by omega)
 unfold c_jto
 repeat' (first | (with_reducible refine zA ?_) | ((with_reducible refine qaad ?_); (try rw [hP]); simp -implicitDefEqProofs [*]) | ((with_reducible refine qaae ?_); (try simp -implicitDefEqProofs [*])) | ((with_reducible refine qaam ?_); (try simp only [qaau, qaaf, qaai])) | ((with_reducible refine qaab rfl (fun h => ?_) (fun h => ?_)) <;> have h' := h <;> (try simp at h') <;> (try subst h')) | ((with_reducible refine qaa9 (fun h => ?_) (fun h => ?_)) <;> have h' := h <;> (try simp at h') <;> (try subst h') <;> simp -implicitDefEqProofs [*]) | (refine qabc (qaan p _ _ _ _ _ _ _ (by simp)) ⟨rfl, trivial⟩ ⟨rfl, trivial⟩ ?_; simp -implicitDefEqProofs [*]) | (refine qacf hm rfl ?_ (fun σ => rfl)) | fail)
 all_goals (first | refine jl p ?_ | refine jl2 p (at_ := 3000 + from_) ?_)
 all_goals (try simp only [qagb, qagz, ne_eq, Int.reduceEq, not_false_eq_true])
 all_goals (refine then_c ?_)
 all_goals (first | (simp [qaip, *]; done) | (simp_all [qaip]; done) | (simp_all [qaip]; omega))
end Go.Proofs.Yticeaegpkpjjeaa
namespace Go.Proofs.Yticeaegpkpjjeaa
set_option linter.all false
open Go.RowKit
attribute [local simp] qabj qabi qaaw qaa2 qaax qaa1 qabg qabh qaap qab2 SOp.run SX.ev putd puts argS upds SOp.touch SSt.keep SSt.skip gets geth puth delh idOf SV.cells? setL qadu qadv sbin eq0 eq1 eqL qadr qacr qacs qaau qabk qaaf qabl qab3 qaai qaak FrzOk qaa5 qaaz qaa3 qaa4 qaaq qaay qabm qaa0 qaas qaa6 qaar frzS frzH frz frz1 frz0 SlotsM ObjsM ObjM rn ren ren1 ren0 qab6 qacp qacu qab5 qabn qacv qact CoL qaa7 qab7 dels adds idsH qabt
attribute [local simp] qaeh refc qaee qaea qacl opc actc tabc qaef qacc nums jc
theorem qaig (a b c at_ : Int) : qada a b c at_ = orF (a, b) (c, at_) := by
 unfold qada qab4 orF
 by_cases ha : a = 0 <;> by_cases hc : c = 0 <;> simp [ha, hc]
theorem qa36 (p : PlanD) (hp : PW p) (a b : Int) (o : OpD) (args : List Int) (at_ : Int) (hl : o.e.length ≤ 1000000) (id q : Nat) (h : id < q) : SCalls Try.prog 124 [.ptr id 0, .agg (opc o), nums .i64 args, .int .i64 at_] [(id, .cells 179 (jc p a b))] q (.tup []) [(id, .cells 179 (jc p (qada a b (qaop p o args) at_).1 (qada a b (qaop p o args) at_).2))] :=
 qacq (jop_s p hp a b o args at_ hl) (fun _ => rfl) (fun _ => rfl) (fun _ => rfl) rfl (fun _ => rfl) rfl id q h
theorem qauh (p : PlanD) (a b from_ to_ : Int) (hf : 0 ≤ from_ ∧ from_ ≤ 1000000) (id q : Nat) (h : id < q) : SCalls Try.prog 123 [.ptr id 0, .int .i64 from_, .int .i64 to_] [(id, .cells 179 (jc p a b))] q (.tup []) [(id, .cells 179 (jc p (qada a b (qaip p from_ to_) (3000 + from_)).1 (qada a b (qaip p from_ to_) (3000 + from_)).2))] :=
 qacq (jto_s p a b from_ to_ hf) (fun _ => rfl) (fun _ => rfl) (fun _ => rfl) rfl (fun _ => rfl) rfl id q h
structure SmallP (p : PlanD) : Prop where
 heads : p.heads.length ≤ 1000
 metas : p.meta_.length ≤ 1000
 states : p.states.length ≤ 1000
 acts : p.acts.length ≤ 1000
 tabs : p.tabs.length ≤ 1000
 nodes : p.nodes.length ≤ 1000
 outs : p.out.length ≤ 1000
 qae2 : ∀ h ∈ p.heads, h.w.length ≤ 1000
 cases_ : ∀ s ∈ p.states, s.cases_.length ≤ 1000
 actW : ∀ a ∈ p.acts, a.w.length ≤ 1000
 ops : ∀ a ∈ p.acts, a.ops.length ≤ 1000
 tree : ∀ a ∈ p.acts, ∀ o ∈ a.ops, o.e.length ≤ 1000
 keys : ∀ t ∈ p.tabs, t.keys.length ≤ 1000 ∧ t.acts.length ≤ 1000 ∧ t.args.length ≤ 1000
 node : ∀ n ∈ p.nodes, n.e.length ≤ 1000
theorem qaci (a b : Int) (c : Bool) (code r at_ : Int) (h : code ≠ 0) : orF (a, b) (if c = true then code else r, at_) = orF (qab4 a b c code at_) (r, at_) := by
 unfold orF qab4
 cases c <;> by_cases ha : a = 0 <;> by_cases hr : r = 0 <;> simp [ha, hr, h]
theorem qane (a b c r at_ : Int) : orF (a, b) (if c = 0 then r else c, at_) = orF (qada a b c at_) (r, at_) := by
 rw [qaig]; unfold orF
 by_cases ha : a = 0 <;> by_cases hr : r = 0 <;> by_cases hc : c = 0 <;> simp [ha, hr, hc]
theorem qadw (f : Int × Int) (c at_ : Int) (R : Int × Int) : orF f (if c ≠ 0 then (c, at_) else R) = orF (orF f (c, at_)) R := by
 unfold orF
 by_cases ha : f.1 = 0 <;> by_cases hr : R.1 = 0 <;> by_cases hc : c = 0 <;> simp [ha, hr, hc]
theorem qado (a b : Int) (c : Bool) (at_ : Int) (R : Int × Int) : orF (a, b) (orF (qasm c at_) R) = orF (qab4 a b c 2 at_) R := by
 rw [← qadm]
 congr 1
 unfold orF qab4 qasm
 cases c <;> by_cases ha : a = 0 <;> simp [ha]
theorem jacts_s (p : PlanD) (hp : PW p) (hs : SmallP p) (a b : Int) : SCalls Try.prog 85 [.ptr 0 0] [(0, .cells 179 (jc p a b))] 1 (.tup []) [(0, .cells 179 (jc p (orF (a, b) (qayo p)).1 (orF (a, b) (qayo p)).2))] := by
 refine qaal (N := 100) Try.func85 rfl rfl (by kernel_rfl) qakz (by simp) (by repeat' (first | exact trivial | refine And.intro ?_ ?_ | rfl | decide | exact PureR.ren _)) (by repeat' (first | exact trivial | refine And.intro ?_ ?_ | rfl | decide | exact PureR.ren _)) ?_
 rintro X hP hN hm
 have hF : orF (a, b) (qayo p) = orF (qab4 a b (decide (8 < (p.acts.length : Int))) 2 (-4)) (rowF (fun _ a => actF p a) 4000 0 p.acts) := by
  unfold qayo; rw [qado]; congr 3; exact propext (by omega)
 generalize orF (a, b) (qayo p) = F at hF
 replace hF := Lib.hid hF
 have hla := hs.acts
 unfold c_jacts
 repeat' (first | (with_reducible refine zA ?_) | ((with_reducible refine qaad ?_); (try rw [hP]); simp -implicitDefEqProofs [*]) | (refine qabc (qaan p _ _ _ _ _ _ _ (by simp)) ⟨rfl, trivial⟩ ⟨rfl, trivial⟩ ?_; simp -implicitDefEqProofs [*]) | fail)
 refine qaat (qabp (fun s (x : Nat × Int × Int) => s.turn [(2, .int .i64 x.1)] [(0, .cells 179 (jc p x.2.1 x.2.2))]) (fun x => x.1 ≤ p.acts.length ∧ F = orF (x.2.1, x.2.2) (rowF (fun _ a => actF p a) 4000 x.1 (p.acts.drop x.1))) (fun x => p.acts.length - x.1) (0, _, _) ?_ ⟨by simp, hF⟩ ?_)
 ·repeat' (first | ((with_reducible refine qaag [] hm ?_ ?_ ?_ ?_) <;> (try simp only [zT, puth, Nat.reduceEqDiff, reduceIte, Nat.reduceAdd])) | (with_reducible first | refine za ?_ ?_ | refine zb ?_ ?_ ?_ ?_) | (with_reducible first | exact qaaa | exact qaac) | ((with_reducible first | refine zga ?_ | refine zgb ?_); rfl) | ((with_reducible refine zgd ?_); (first | omega | (simp; done))) | (exact Co.refl _) | (exact CoL.refl _) | fail)
 rintro J hJ ⟨i, e, g⟩ ⟨h1, h2⟩
 have hJo := hJ
 unfold qajv
 simp only [zT, puth, Nat.reduceEqDiff, reduceIte, Nat.reduceAdd] at h1 h2 ⊢
 rcases Nat.lt_or_ge i p.acts.length with hi | hi
 ·have hxm : p.acts[i] ∈ p.acts := List.getElem_mem hi
  have hw := hs.actW _ hxm
  have ho := hs.ops _ hxm
  have ht := hs.tree _ hxm
  rw [qadb _ _ hi] at h2
  generalize hxx : p.acts[i] = x at h2 hw ho ht
  by_cases he : e = 0
  ·subst he
   rw [qadw] at h2
   have wi : IntKind.i64.wrap ((i : Int) + 1) = (i : Int) + 1 := qaav (by omega) (by omega)
   have wa : IntKind.i64.wrap (4000 + (i : Int)) = 4000 + (i : Int) := qaav (by omega) (by omega)
   have hA : orF (0, g) (actF p x, 4000 + (i : Int)) = orF (qab4 0 g (decide (3 < (x.w.length : Int)) || decide (5 < (x.ops.length : Int))) 2 (4000 + i)) (if x.w.any wOut = true then 6 else qaco (fun o => qaop p o x.w) x.ops, 4000 + (i : Int)) := by
    rw [← qaci _ _ _ _ _ _ (by decide)]
    have hc : (decide (3 < (x.w.length : Int)) || decide (5 < (x.ops.length : Int))) = true ↔ (3 < x.w.length ∨ 5 < x.ops.length) := by rw [Bool.or_eq_true, decide_eq_true_eq, decide_eq_true_eq]; omega
    have : actF p x = if (decide (3 < (x.w.length : Int)) || decide (5 < (x.ops.length : Int))) = true then 2 else if x.w.any wOut = true then 6 else qaco (fun o => qaop p o x.w) x.ops := by
     unfold actF
     by_cases c1 : 3 < x.w.length ∨ 5 < x.ops.length
     ·rw [if_pos c1, if_pos (hc.2 c1)]
     ·rw [if_neg c1, if_neg (fun h => c1 (hc.1 h))]
    rw [this]
   generalize orF (0, g) (actF p x, 4000 + (i : Int)) = A at hA h2
   replace hA := Lib.hid hA
   replace h2 := Lib.hid h2
   replace ht := Lib.hid ht
   repeat' (first | (with_reducible first | refine zA ?_ | refine qaah ?_) | ((with_reducible refine qaad ?_); (try rw [hP]); simp -implicitDefEqProofs [*]) | ((with_reducible refine qaae ?_); (try simp -implicitDefEqProofs [*])) | ((with_reducible refine qaab rfl (fun h => ?_) (fun h => ?_)) <;> have h' := h <;> (try simp at h') <;> (try subst h')) | ((with_reducible refine qaa9 (fun h => ?_) (fun h => ?_)) <;> have h' := h <;> (try simp at h') <;> (try subst h') <;> simp -implicitDefEqProofs [*]) | (refine qabc (qaan p _ _ _ _ _ _ _ (by simp)) ⟨rfl, trivial⟩ ⟨rfl, trivial⟩ ?_; simp -implicitDefEqProofs [*]) | fail)
   all_goals
    refine qaat (qabp (fun s (y : Nat × Int × Int) => s.turn [(61, .int .i64 y.1)] [(0, .cells 179 (jc p y.2.1 y.2.2))]) (fun y => y.1 ≤ x.w.length ∧ A = orF (y.2.1, y.2.2) (if (x.w.drop y.1).any wOut = true then 6 else qaco (fun o => qaop p o x.w) x.ops, 4000 + (i : Int))) (fun y => x.w.length - y.1) (0, _, _) ?_ ⟨by simp, by have q := hA.out; simp only [*, Bool.true_or, Bool.false_or] at q; exact q⟩ ?_)
    ·repeat' (first | ((with_reducible refine qaag [] hm ?_ ?_ ?_ ?_) <;> (try simp only [zT, puth, Nat.reduceEqDiff, reduceIte, Nat.reduceAdd])) | (with_reducible first | refine za ?_ ?_ | refine zb ?_ ?_ ?_ ?_) | (with_reducible first | exact qaaa | exact qaac) | ((with_reducible first | refine zga ?_ | refine zgb ?_); rfl) | ((with_reducible refine zgd ?_); (first | omega | (simp; done))) | (exact Co.refl _) | (exact CoL.refl _) | fail)
    rintro J hJ ⟨j, e1, g1⟩ ⟨h3, h4⟩
    unfold qajx
    simp only [zT, puth, Nat.reduceEqDiff, reduceIte, Nat.reduceAdd] at h3 h4 ⊢
    replace h4 := Lib.hid h4
    rcases Nat.lt_or_ge j x.w.length with hj | hj
    ·have wj : IntKind.i64.wrap ((j : Int) + 1) = (j : Int) + 1 := qaav (by omega) (by omega)
     repeat' (first | (with_reducible first | refine zA ?_ | refine qaah ?_) | ((with_reducible refine qaad ?_); (try rw [hP]); simp -implicitDefEqProofs [*]) | ((with_reducible refine qaae ?_); (try simp -implicitDefEqProofs [*])) | ((with_reducible refine qaab rfl (fun h => ?_) (fun h => ?_)) <;> have h' := h <;> (try simp at h') <;> (try subst h')) | ((with_reducible refine qaa9 (fun h => ?_) (fun h => ?_)) <;> have h' := h <;> (try simp at h') <;> (try subst h') <;> simp -implicitDefEqProofs [*]) | (refine qabc (qaan p _ _ _ _ _ _ _ (by simp)) ⟨rfl, trivial⟩ ⟨rfl, trivial⟩ ?_; simp -implicitDefEqProofs [*]) | (with_reducible first | refine za ?_ ?_ | refine zb ?_ ?_ ?_ ?_) | (with_reducible first | exact qaaa | exact qaac) | ((with_reducible first | refine zga ?_ | refine zgb ?_); rfl) | ((with_reducible first | refine zgd ?_ | refine zge ?_); (first | omega | (simp; done))) | (exact Co.refl _) | (exact CoL.refl _) | ((refine qaaj hJ (j + 1, ?_, ?_) ?_ ?_ ?_; rotate_left 2; (with_reducible refine qaag [] hm ?_ ?_ ?_ ?_) <;> (try simp only [zT, puth, Nat.reduceEqDiff, reduceIte, Nat.reduceAdd]))) | fail)
     all_goals (try dsimp only)
     all_goals (refine ⟨by omega, ?_⟩; rw [h4.out, qadq _ hj]; refine Eq.trans ?_ (qaci e1 g1 _ 6 _ _ (by decide)); refine congrArg (fun c => orF (e1, g1) (c, 4000 + (i : Int))) ?_; cases (x.w.drop (j + 1)).any wOut <;> simp [wOut, *])
    ·obtain rfl : j = x.w.length := by omega
     have h5 : A = orF (e1, g1) (qaco (fun o => qaop p o x.w) (x.ops.drop 0), 4000 + (i : Int)) := by rw [h4.out, List.drop_length]; rfl
     replace h5 := Lib.hid h5
     repeat' (first | (with_reducible refine zA ?_) | ((with_reducible refine qaad ?_); (try rw [hP]); simp -implicitDefEqProofs [*]) | ((with_reducible refine qaao ?_); (try simp -implicitDefEqProofs [*])) | ((with_reducible refine qaab rfl (fun h => ?_) (fun h => ?_)) <;> have h' := h <;> (try simp at h') <;> (try subst h')) | fail)
     refine qaat (qabp (fun s (y : Nat × Int × Int) => s.turn [(7, .int .i64 y.1)] [(0, .cells 179 (jc p y.2.1 y.2.2))]) (fun y => y.1 ≤ x.ops.length ∧ A = orF (y.2.1, y.2.2) (qaco (fun o => qaop p o x.w) (x.ops.drop y.1), 4000 + (i : Int))) (fun y => x.ops.length - y.1) (0, _, _) ?_ ⟨by simp, h5.out⟩ ?_)
     ·repeat' (first | ((with_reducible refine qaag [] hm ?_ ?_ ?_ ?_) <;> (try simp only [zT, puth, Nat.reduceEqDiff, reduceIte, Nat.reduceAdd])) | (with_reducible first | refine za ?_ ?_ | refine zb ?_ ?_ ?_ ?_) | (with_reducible first | exact qaaa | exact qaac) | ((with_reducible first | refine zga ?_ | refine zgb ?_); rfl) | ((with_reducible refine zgd ?_); (first | omega | (simp; done))) | (exact Co.refl _) | (exact CoL.refl _) | fail)
     rintro J hJ ⟨k, e2, g2⟩ ⟨h6, h7⟩
     unfold qajw
     simp only [zT, puth, Nat.reduceEqDiff, reduceIte, Nat.reduceAdd] at h6 h7 ⊢
     rcases Nat.lt_or_ge k x.ops.length with hk | hk
     ·have hom := ht.out x.ops[k] (List.getElem_mem hk)
      rw [qag7 _ hk, qane] at h7
      generalize hoo : x.ops[k] = o at h7 hom
      replace h7 := Lib.hid h7
      have wk1 : IntKind.i64.wrap ((k : Int) + 1) = (k : Int) + 1 := qaav (by omega) (by omega)
      by_cases he2 : e2 = 0
      ·subst he2
       repeat' (first | (with_reducible first | refine zA ?_ | refine qacj ?_ | refine zK ?_) | ((with_reducible first | refine qaad ?_ | refine qaa8 (by rw [hP]; exact qadn) ?_); (try rw [hP]); simp -implicitDefEqProofs [*]) | ((with_reducible refine qaae ?_); (try simp -implicitDefEqProofs [*])) | ((with_reducible refine qaab rfl (fun h => ?_) (fun h => ?_)) <;> have h' := h <;> (try simp at h') <;> (try subst h')) | (refine qabc (qa36 p hp _ _ o x.w _ (by omega) _ _ (by simp)) ⟨rfl, trivial⟩ ⟨rfl, trivial⟩ ?_; simp -implicitDefEqProofs [*]) | (with_reducible first | refine za ?_ ?_ | refine zb ?_ ?_ ?_ ?_) | (with_reducible first | exact qaaa | exact qaac) | ((with_reducible first | refine zga ?_ | refine zgb ?_); rfl) | ((with_reducible first | refine zgd ?_ | refine zge ?_); (first | omega | (simp; done))) | (exact Co.refl _) | (exact CoL.refl _) | ((refine qaaj hJ (k + 1, ?_, ?_) ?_ ?_ ?_; rotate_left 2; (with_reducible refine qaag [] hm ?_ ?_ ?_ ?_) <;> (try simp only [zT, puth, Nat.reduceEqDiff, reduceIte, Nat.reduceAdd]))) | fail)
       all_goals (try dsimp only)
       all_goals (refine ⟨by omega, ?_⟩; exact h7.out)
      ·have ke2 : (e2 == 0) = false := by simpa using he2
       repeat' (first | (with_reducible refine zA ?_) | ((with_reducible refine qaad ?_); (try rw [hP]); simp -implicitDefEqProofs [*]) | ((with_reducible refine qaao ?_); (try simp -implicitDefEqProofs [*])) | ((with_reducible refine qaab rfl (fun h => ?_) (fun h => ?_)) <;> have h' := h <;> (try simp at h') <;> (try subst h')) | (with_reducible first | refine za ?_ ?_ | refine zb ?_ ?_ ?_ ?_) | (with_reducible first | exact qaaa | exact qaac) | ((with_reducible first | refine zga ?_ | refine zgb ?_); rfl) | ((with_reducible first | refine zgd ?_ | refine zge ?_); (first | omega | (simp; done))) | (exact Co.refl _) | (exact CoL.refl _) | ((refine qaaj hJo (i + 1, ?_, ?_) ?_ ?_ ?_; rotate_left 2; (with_reducible refine qaag [] hm ?_ ?_ ?_ ?_) <;> (try simp only [zT, puth, Nat.reduceEqDiff, reduceIte, Nat.reduceAdd]))) | fail)
       all_goals (try dsimp only)
       all_goals (refine ⟨by omega, ?_⟩; rw [h2.out]; congr 1; rw [h7.out, qaig, qadm]; exact qafg he2 _)
     ·obtain rfl : k = x.ops.length := by omega
      rw [List.drop_length] at h7
      replace h7 := Lib.hid h7
      repeat' (first | (with_reducible refine zA ?_) | ((with_reducible refine qaad ?_); (try rw [hP]); simp -implicitDefEqProofs [*]) | ((with_reducible refine qaao ?_); (try simp -implicitDefEqProofs [*])) | ((with_reducible refine qaab rfl (fun h => ?_) (fun h => ?_)) <;> have h' := h <;> (try simp at h') <;> (try subst h')) | (with_reducible first | refine za ?_ ?_ | refine zb ?_ ?_ ?_ ?_) | (with_reducible first | exact qaaa | exact qaac) | ((with_reducible first | refine zga ?_ | refine zgb ?_); rfl) | ((with_reducible first | refine zgd ?_ | refine zge ?_); (first | omega | (simp; done))) | (exact Co.refl _) | (exact CoL.refl _) | ((refine qaaj hJo (i + 1, ?_, ?_) ?_ ?_ ?_; rotate_left 2; (with_reducible refine qaag [] hm ?_ ?_ ?_ ?_) <;> (try simp only [zT, puth, Nat.reduceEqDiff, reduceIte, Nat.reduceAdd]))) | fail)
      all_goals (try dsimp only)
      all_goals (refine ⟨by omega, ?_⟩; rw [h2.out]; congr 1; rw [h7.out]; exact qacd _ rfl)
  ·have ke : (e == 0) = false := by simpa using he
   replace h2 := Lib.hid h2
   repeat' (first | (with_reducible refine zA ?_) | ((with_reducible refine qaad ?_); (try rw [hP]); simp -implicitDefEqProofs [*]) | ((with_reducible refine qaao ?_); (try simp -implicitDefEqProofs [*])) | ((with_reducible refine qaab rfl (fun h => ?_) (fun h => ?_)) <;> have h' := h <;> (try simp at h') <;> (try subst h')) | (refine qacf hm rfl ?_ (fun σ => rfl)) | fail)
   rw [h2.out, qafg he]
 ·obtain rfl : i = p.acts.length := by omega
  rw [List.drop_length] at h2
  replace h2 := Lib.hid h2
  repeat' (first | (with_reducible refine zA ?_) | ((with_reducible refine qaad ?_); (try rw [hP]); simp -implicitDefEqProofs [*]) | ((with_reducible refine qaao ?_); (try simp -implicitDefEqProofs [*])) | ((with_reducible refine qaab rfl (fun h => ?_) (fun h => ?_)) <;> have h' := h <;> (try simp at h') <;> (try subst h')) | (refine qacf hm rfl ?_ (fun σ => rfl)) | fail)
  rw [h2.out, qacd _ rfl]
end Go.Proofs.Yticeaegpkpjjeaa
namespace Go.Proofs.Yticeaegpkpjjeaa
set_option linter.all false
open Go.RowKit
theorem u64_bv {x : Int} (h : 0 ≤ x ∧ x ≤ 18446744073709551615) : ∃ v : BitVec 64, x = (v.toNat : Int) := ⟨BitVec.ofNat 64 x.toNat, by rw [BitVec.toNat_ofNat, Nat.mod_eq_of_lt (by omega)]; omega⟩
theorem qahn (v : BitVec 64) : BitVec.ofInt 64 (v.toNat : Int) = v := by
 rw [BitVec.ofInt_natCast]; simp
theorem qan4 (v : BitVec 64) : IntKind.u64.wrap (v.toNat : Int) = v.toNat := qand (by omega) (by have := v.isLt; omega)
theorem qabq (v w : BitVec 64) : bits .and .u64 v.toNat w.toNat = ((v &&& w).toNat : Int) := by
 show IntKind.u64.wrap (((BitVec.ofInt 64 (v.toNat : Int)) &&& (BitVec.ofInt 64 (w.toNat : Int))).toNat : Int) = _
 rw [qahn, qahn, qan4]
theorem qaca (v w : BitVec 64) : bits .or .u64 v.toNat w.toNat = ((v ||| w).toNat : Int) := by
 show IntKind.u64.wrap (((BitVec.ofInt 64 (v.toNat : Int)) ||| (BitVec.ofInt 64 (w.toNat : Int))).toNat : Int) = _
 rw [qahn, qahn, qan4]
theorem qasf (v w : BitVec 64) : bits .andNot .u64 v.toNat w.toNat = ((v &&& ~~~w).toNat : Int) := by
 show IntKind.u64.wrap (((BitVec.ofInt 64 (v.toNat : Int)) &&& ~~~(BitVec.ofInt 64 (w.toNat : Int))).toNat : Int) = _
 rw [qahn, qahn, qan4]
theorem qa1m {v w : BitVec 64} : (v.toNat : Int) = w.toNat ↔ v = w := ⟨fun h => BitVec.eq_of_toNat_eq (by omega), fun h => by rw [h]⟩
theorem qasi {a b : Int} (ha : 0 ≤ a ∧ a ≤ 18446744073709551615) (hb : 0 ≤ b ∧ b ≤ 18446744073709551615) : bits .andNot .u64 a b = 0 ↔ bits .and .u64 a b = a := by
 obtain ⟨v, rfl⟩ := u64_bv ha
 obtain ⟨w, rfl⟩ := u64_bv hb
 rw [qasf, qabq, qa1m]
 have e : (((v &&& ~~~w).toNat : Nat) : Int) = 0 ↔ v &&& ~~~w = 0#64 := by
  rw [show (0 : Int) = ((0#64).toNat : Int) by rfl, qa1m]
 rw [e]
 constructor
 ·intro h
  ext i hi
  have := congrArg (fun z => z.getLsbD i) h
  simp [hi] at this ⊢
  exact this
 ·intro h
  ext i hi
  have := congrArg (fun z => z.getLsbD i) h
  simp [hi] at this ⊢
  exact this
end Go.Proofs.Yticeaegpkpjjeaa
namespace Go.Proofs.Yticeaegpkpjjeaa
set_option linter.all false
open Go.RowKit
attribute [local simp] qabj qabi qaaw qaa2 qaax qaa1 qabg qabh qaap qab2 SOp.run SX.ev putd puts argS upds SOp.touch SSt.keep SSt.skip gets geth puth delh idOf SV.cells? setL qadu qadv sbin eq0 eq1 eqL qadr qacr qacs qaau qabk qaaf qabl qab3 qaai qaak FrzOk qaa5 qaaz qaa3 qaa4 qaaq qaay qabm qaa0 qaas qaa6 qaar frzS frzH frz frz1 frz0 SlotsM ObjsM ObjM rn ren ren1 ren0 qab6 qacp qacu qab5 qabn qacv qact CoL qaa7 qab7 dels adds idsH qabt
attribute [local simp] qaeh refc qaee qaea qacl opc actc tabc qaef qacc nums jc
theorem qaz9 (e g : Int) (B : Bool) (l rest E at_ : Int) : orF (e, g) (if (if (if B = true then 6 else l) = 0 then rest else (if B = true then 6 else l)) = 0 then E else (if (if B = true then 6 else l) = 0 then rest else (if B = true then 6 else l)), at_) = orF (qada (qab4 e g B 6 at_).1 (qab4 e g B 6 at_).2 l at_) (if rest = 0 then E else rest, at_) := by
 unfold orF qada qab4
 cases B <;> by_cases he : e = 0 <;> by_cases hl : l = 0 <;> by_cases hr : rest = 0 <;> simp [he, hl, hr]
theorem mask_s (w : Int) (hw : 0 ≤ w ∧ w ≤ 48) (q : Nat) : SCalls Try.prog 122 [.int .i64 w] [] q (.int .u64 (if w ≤ 64 then 2 ^ w.toNat - 1 else 0)) [] := by
 refine qay4 (Enters.of Try.func122 rfl rfl) (fun O w1 vs hO h => ?_) (fun σ => rfl) q
 obtain ⟨v, us, rfl, h1, h2⟩ := Reps.cons_inv h
 have := h2.nil_inv; subst this
 cases h1
 refine (qa4y w w1 (Fits.of_i64 (by omega) (by omega))).mono ?_
 rintro e w' ⟨rfl, rfl⟩
 refine ⟨_, rfl, .refl _ _, ?_⟩
 have : ones w = if w ≤ 64 then 2 ^ w.toNat - 1 else 0 := by
  unfold ones onesN
  by_cases h0 : 1 ≤ w
  ·rw [if_pos ⟨h0, by omega⟩, if_pos (by omega)]
  ·obtain rfl : w = 0 := by omega
   rfl
 rw [this]; exact .int
set_option maxHeartbeats 8000000 in
theorem qazy (p : PlanD) (hp : PW p) (hs : SmallP p) (hk : qaid p) (a b : Int) : SCalls Try.prog 84 [.ptr 0 0] [(0, .cells 179 (jc p a b))] 1 (.tup []) [(0, .cells 179 (jc p (orF (a, b) (qaed p)).1 (orF (a, b) (qaed p)).2))] := by
 refine qaal (N := 130) Try.func84 rfl rfl (by kernel_rfl) qah8 (by simp) (by repeat' (first | exact trivial | refine And.intro ?_ ?_ | rfl | decide | exact PureR.ren _)) (by repeat' (first | exact trivial | refine And.intro ?_ ?_ | rfl | decide | exact PureR.ren _)) ?_
 rintro X hP hN hm
 have hF : orF (a, b) (qaed p) = orF (qab4 a b (decide ((p.states.length : Int) < 1) || decide (8 < (p.states.length : Int))) 2 (-3)) (rowF (fun i s => qagt p i s) 3000 0 p.states) := by
  unfold qaed; rw [qado]; congr 4
  ·exact propext (by omega)
  ·exact propext (by omega)
 generalize orF (a, b) (qaed p) = F at hF
 replace hF := Lib.hid hF
 have hla := hs.states
 unfold c_jstates
 have main : ∀ e0 g0, F = orF (e0, g0) (rowF (fun i s => qagt p i s) 3000 0 p.states) → SWp X (SCode.block 0 c_jstates_l2.loop) (QFun X [] 1 (SV.tup []) [(0, .cells 179 (jc p F.1 F.2))]) ⟨[(0, .ptr 0 0), (2, .int .i64 0)], [(0, .cells 179 (jc p e0 g0))], 1⟩ := by
  intro e0 g0 h0
  replace h0 := Lib.hid h0
  refine qaat (qabp (fun s (x : Nat × Int × Int) => s.turn [(2, .int .i64 x.1)] [(0, .cells 179 (jc p x.2.1 x.2.2))]) (fun x => x.1 ≤ p.states.length ∧ F = orF (x.2.1, x.2.2) (rowF (fun i s => qagt p i s) 3000 x.1 (p.states.drop x.1))) (fun x => p.states.length - x.1) (0, _, _) ?_ ⟨by simp, h0.out⟩ ?_)
  ·repeat' (first | ((with_reducible refine qaag [] hm ?_ ?_ ?_ ?_) <;> (try simp only [zT, puth, Nat.reduceEqDiff, reduceIte, Nat.reduceAdd])) | (with_reducible first | refine za ?_ ?_ | refine zb ?_ ?_ ?_ ?_) | (with_reducible first | exact qaaa | exact qaac) | ((with_reducible first | refine zga ?_ | refine zgb ?_); rfl) | ((with_reducible refine zgd ?_); (first | omega | (simp; done))) | (exact Co.refl _) | (exact CoL.refl _) | fail)
  rintro J hJ ⟨i, e, g⟩ ⟨h1, h2⟩
  have hJo := hJ
  unfold c_jstates_l2
  simp only [zT, puth, Nat.reduceEqDiff, reduceIte, Nat.reduceAdd] at h1 h2 ⊢
  rcases Nat.lt_or_ge i p.states.length with hi | hi
  ·have hxm : p.states[i] ∈ p.states := List.getElem_mem hi
   have hc := hs.cases_ _ hxm
   rw [qadb _ _ hi] at h2
   generalize hxx : p.states[i] = x at h2 hc
   by_cases he : e = 0
   ·subst he
    rw [qadw] at h2
    have wi : IntKind.i64.wrap ((i : Int) + 1) = (i : Int) + 1 := qaav (by omega) (by omega)
    have wa : IntKind.i64.wrap (3000 + (i : Int)) = 3000 + (i : Int) := qaav (by omega) (by omega)
    have hst : qagt p i x = if (decide (x.head < -1) || decide ((p.heads.length : Int) ≤ x.head)) = true then 1 else if decide (4 < (x.cases_.length : Int)) = true then 2 else if (decide (0 < (x.cases_.length : Int)) && (qabo p x.on [] == 0)) = true then 1 else if qaco (qaow p i (qabo p x.on [])) (x.cases_.drop 0) = 0 then qaip p i x.els else qaco (qaow p i (qabo p x.on [])) (x.cases_.drop 0) := by
     unfold qagt
     rw [List.drop_zero]
     simp only [Bool.or_eq_true, Bool.and_eq_true, decide_eq_true_eq, beq_iff_eq, ne_eq, ite_not]
     have e1 : (4 < x.cases_.length) = (4 < (x.cases_.length : Int)) := propext (by omega)
     have e2 : (0 < x.cases_.length) = (0 < (x.cases_.length : Int)) := propext (by omega)
     simp only [e1, e2]
    have hA : orF (0, g) (qagt p i x, 3000 + (i : Int)) = orF (qab4 (qab4 (qab4 0 g (decide (x.head < -1) || decide ((p.heads.length : Int) ≤ x.head)) 1 (3000 + i)).1 (qab4 0 g (decide (x.head < -1) || decide ((p.heads.length : Int) ≤ x.head)) 1 (3000 + i)).2 (decide (4 < (x.cases_.length : Int))) 2 (3000 + i)).1 (qab4 (qab4 0 g (decide (x.head < -1) || decide ((p.heads.length : Int) ≤ x.head)) 1 (3000 + i)).1 (qab4 0 g (decide (x.head < -1) || decide ((p.heads.length : Int) ≤ x.head)) 1 (3000 + i)).2 (decide (4 < (x.cases_.length : Int))) 2 (3000 + i)).2 (decide (0 < (x.cases_.length : Int)) && (qabo p x.on [] == 0)) 1 (3000 + i)) (if qaco (qaow p i (qabo p x.on [])) (x.cases_.drop 0) = 0 then qaip p i x.els else qaco (qaow p i (qabo p x.on [])) (x.cases_.drop 0), 3000 + (i : Int)) := by
     rw [hst, qaci _ _ _ _ _ _ (by decide)]
     refine (qaci _ _ _ _ _ _ (by decide)).trans ?_
     exact qaci _ _ _ _ _ _ (by decide)
    clear hst
    generalize orF (0, g) (qagt p i x, 3000 + (i : Int)) = A at hA h2
    have hW := hp x.on
    have hfit : ∀ c ∈ x.cases_, qa1q c := by rw [← hxx]; exact (hk.2.2.1 _ hxm).2.2.1
    replace hA := Lib.hid hA
    replace h2 := Lib.hid h2
    replace hfit := Lib.hid hfit
    have hms := mask_s (qabo p x.on []) hW
    generalize hww : qabo p x.on [] = W at hA hms hW
    replace hms := Lib.hid hms
    have kn : decide (0 < x.cases_.length) = decide (0 < (x.cases_.length : Int)) := decide_eq_decide.2 (by omega)
    cases k1 : decide (x.head < -1) <;> cases k3 : decide (0 < (x.cases_.length : Int)) <;> rw [k3] at kn
    all_goals
     repeat' (first | (with_reducible first | refine zA ?_ | refine qaah ?_ | refine zK ?_) | ((with_reducible first | refine qaad ?_ | refine qaa8 (by rw [hP]; exact qadn) ?_); (try rw [hP]); simp -implicitDefEqProofs [*]) | ((with_reducible refine qaae ?_); (try simp -implicitDefEqProofs [*])) | ((with_reducible refine qaab rfl (fun h => ?_) (fun h => ?_)) <;> have h' := h <;> (try simp at h') <;> (try subst h')) | ((first | refine qabc (qaan p _ _ _ _ _ _ _ (by simp)) ⟨rfl, trivial⟩ ⟨rfl, trivial⟩ ?_ | refine qabb (qafd p x.on _) ?_); simp -implicitDefEqProofs [*]) | fail)
     refine qaat (qabp (fun s (y : Nat × Int × Int) => s.turn [(99, .int .i64 y.1)] [(0, .cells 179 (jc p y.2.1 y.2.2))]) (fun y => y.1 ≤ x.cases_.length ∧ A = orF (y.2.1, y.2.2) (if qaco (qaow p i W) (x.cases_.drop y.1) = 0 then qaip p i x.els else qaco (qaow p i W) (x.cases_.drop y.1), 3000 + (i : Int))) (fun y => x.cases_.length - y.1) (0, _, _) ?_ ⟨by simp, by have q := hA.out; simp only [k1, k3, Bool.true_or, Bool.false_or, Bool.true_and, Bool.false_and] at q; exact q⟩ ?_)
     ·repeat' (first | ((with_reducible refine qaag [] hm ?_ ?_ ?_ ?_) <;> (try simp only [zT, puth, Nat.reduceEqDiff, reduceIte, Nat.reduceAdd])) | (with_reducible first | refine za ?_ ?_ | refine zb ?_ ?_ ?_ ?_) | (with_reducible first | exact qaaa | exact qaac) | ((with_reducible first | refine zga ?_ | refine zgb ?_); rfl) | ((with_reducible refine zgd ?_); (first | omega | (simp; done))) | (exact Co.refl _) | (exact CoL.refl _) | fail)
     rintro J hJ ⟨j, e1, g1⟩ ⟨h3, h4⟩
     unfold qagm
     simp only [zT, puth, Nat.reduceEqDiff, reduceIte, Nat.reduceAdd] at h3 h4 ⊢
     rcases Nat.lt_or_ge j x.cases_.length with hj | hj
     ·have hf := hfit.out x.cases_[j] (List.getElem_mem hj)
      rw [qag7 _ hj] at h4
      generalize hcc : x.cases_[j] = c at h4 hf
      obtain ⟨f1, f2, f3⟩ := hf
      have hz := qasi f1.u64 f2.u64
      replace hz := Lib.hid hz
      replace h4 := Lib.hid h4
      have wj : IntKind.i64.wrap ((j : Int) + 1) = (j : Int) + 1 := qaav (by omega) (by omega)
      repeat' (first | (with_reducible first | refine zA ?_ | refine qaah ?_ | refine zK ?_) | ((with_reducible first | refine qaad ?_ | refine qaa8 (by rw [hP]; exact qadn) ?_); (try rw [hP]); simp -implicitDefEqProofs [*]) | ((with_reducible refine qaae ?_); (try simp -implicitDefEqProofs [*])) | ((with_reducible refine qaab rfl (fun h => ?_) (fun h => ?_)) <;> have h' := h <;> (try simp at h') <;> (try subst h')) | ((with_reducible refine qaa9 (fun h => ?_) (fun h => ?_)) <;> have h' := h <;> (try simp at h') <;> (try subst h') <;> simp -implicitDefEqProofs [*]) | ((first | refine qabc (qaan p _ _ _ _ _ _ _ (by simp)) ⟨rfl, trivial⟩ ⟨rfl, trivial⟩ ?_ | refine qabb (hms.out _) ?_ | refine qabc (qauh p _ _ _ _ ⟨by omega, by omega⟩ _ _ (by simp)) ⟨rfl, trivial⟩ ⟨rfl, trivial⟩ ?_); simp -implicitDefEqProofs [*]) | (with_reducible first | refine za ?_ ?_ | refine zb ?_ ?_ ?_ ?_) | (with_reducible first | exact qaaa | exact qaac) | ((with_reducible first | refine zga ?_ | refine zgb ?_); rfl) | ((with_reducible first | refine zgd ?_ | refine zge ?_); (first | omega | (simp; done))) | (exact Co.refl _) | (exact CoL.refl _) | ((refine qaaj hJ (j + 1, ?_, ?_) ?_ ?_ ?_; rotate_left 2; (with_reducible refine qaag [] hm ?_ ?_ ?_ ?_) <;> (try simp only [zT, puth, Nat.reduceEqDiff, reduceIte, Nat.reduceAdd]))) | fail)
      all_goals (try dsimp only)
      all_goals (refine ⟨by omega, ?_⟩; rw [h4.out]; refine Eq.trans ?_ (qaz9 e1 g1 _ (qaip p i c.to_) _ (qaip p i x.els) (3000 + (i : Int))); refine congrArg (fun z => orF (e1, g1) (if (if z = 0 then qaco (qaow p i W) (x.cases_.drop (j + 1)) else z) = 0 then qaip p i x.els else (if z = 0 then qaco (qaow p i W) (x.cases_.drop (j + 1)) else z), 3000 + (i : Int))) ?_; have z := hz.out; unfold qaow qayt; simp [*])
     ·obtain rfl : j = x.cases_.length := by omega
      rw [List.drop_length] at h4
      replace h4 := Lib.hid h4
      repeat' (first | (with_reducible refine zA ?_) | ((with_reducible refine qaad ?_); (try rw [hP]); simp -implicitDefEqProofs [*]) | ((with_reducible refine qaao ?_); (try simp -implicitDefEqProofs [*])) | ((with_reducible refine qaab rfl (fun h => ?_) (fun h => ?_)) <;> have h' := h <;> (try simp at h') <;> (try subst h')) | (refine qabc (qauh p _ _ _ _ ⟨by omega, by omega⟩ _ _ (by simp)) ⟨rfl, trivial⟩ ⟨rfl, trivial⟩ ?_; simp -implicitDefEqProofs [*]) | (with_reducible first | refine za ?_ ?_ | refine zb ?_ ?_ ?_ ?_) | (with_reducible first | exact qaaa | exact qaac) | ((with_reducible first | refine zga ?_ | refine zgb ?_); rfl) | ((with_reducible first | refine zgd ?_ | refine zge ?_); (first | omega | (simp; done))) | (exact Co.refl _) | (exact CoL.refl _) | ((refine qaaj hJo (i + 1, ?_, ?_) ?_ ?_ ?_; rotate_left 2; (with_reducible refine qaag [] hm ?_ ?_ ?_ ?_) <;> (try simp only [zT, puth, Nat.reduceEqDiff, reduceIte, Nat.reduceAdd]))) | fail)
      all_goals (try dsimp only)
      all_goals (refine ⟨by omega, ?_⟩; rw [h2.out]; congr 1; rw [h4.out]; unfold qaco; rw [if_pos rfl]; exact (qaig _ _ _ _).symm)
   ·have ke : (e == 0) = false := by simpa using he
    replace h2 := Lib.hid h2
    repeat' (first | (with_reducible refine zA ?_) | ((with_reducible refine qaad ?_); (try rw [hP]); simp -implicitDefEqProofs [*]) | ((with_reducible refine qaao ?_); (try simp -implicitDefEqProofs [*])) | ((with_reducible refine qaab rfl (fun h => ?_) (fun h => ?_)) <;> have h' := h <;> (try simp at h') <;> (try subst h')) | (refine qacf hm rfl ?_ (fun σ => rfl)) | fail)
    rw [h2.out, qafg he]
  ·obtain rfl : i = p.states.length := by omega
   rw [List.drop_length] at h2
   replace h2 := Lib.hid h2
   repeat' (first | (with_reducible refine zA ?_) | ((with_reducible refine qaad ?_); (try rw [hP]); simp -implicitDefEqProofs [*]) | ((with_reducible refine qaao ?_); (try simp -implicitDefEqProofs [*])) | ((with_reducible refine qaab rfl (fun h => ?_) (fun h => ?_)) <;> have h' := h <;> (try simp at h') <;> (try subst h')) | (refine qacf hm rfl ?_ (fun σ => rfl)) | fail)
   rw [h2.out, qacd _ rfl]
 replace main := Lib.hid main
 by_cases h0 : p.states.length = 0
 ·repeat' (first | (with_reducible refine zA ?_) | ((with_reducible refine qaad ?_); (try rw [hP]); simp -implicitDefEqProofs [*]) | (refine qabc (qaan p _ _ _ _ _ _ _ (by simp)) ⟨rfl, trivial⟩ ⟨rfl, trivial⟩ ?_; simp -implicitDefEqProofs [*]) | fail)
  refine qacy ?_ (main.out (qab4 a b true 2 (-3)).1 (qab4 a b true 2 (-3)).2 ?_)
  ·repeat' (first | ((with_reducible refine qaag [] hm ?_ ?_ ?_ ?_) <;> (try simp only [zT, puth, Nat.reduceEqDiff, reduceIte, Nat.reduceAdd])) | (with_reducible first | refine za ?_ ?_ | refine zb ?_ ?_ ?_ ?_) | (with_reducible first | exact qaaa | exact qaac) | ((with_reducible first | refine zga ?_ | refine zgb ?_); rfl) | ((with_reducible refine zgd ?_); (first | omega | (simp; done))) | (exact Co.refl _) | (exact CoL.refl _) | fail)
  ·have q := hF.out
   rw [show decide ((p.states.length : Int) < 1) = true by rw [h0]; rfl, Bool.true_or] at q
   exact q
 ·have k0 : ((p.states.length : Int) == 0) = false := by simpa using h0
  have k1 : decide ((p.states.length : Int) < 1) = false := by simp; omega
  replace h0 := Lib.hid h0
  repeat' (first | (with_reducible refine zA ?_) | ((with_reducible refine qaad ?_); (try rw [hP]); simp -implicitDefEqProofs [*]) | (refine qabc (qaan p _ _ _ _ _ _ _ (by simp)) ⟨rfl, trivial⟩ ⟨rfl, trivial⟩ ?_; simp -implicitDefEqProofs [*]) | fail)
  refine qacy ?_ (main.out (qab4 a b (decide (8 < (p.states.length : Int))) 2 (-3)).1 (qab4 a b (decide (8 < (p.states.length : Int))) 2 (-3)).2 ?_)
  ·repeat' (first | ((with_reducible refine qaag [] hm ?_ ?_ ?_ ?_) <;> (try simp only [zT, puth, Nat.reduceEqDiff, reduceIte, Nat.reduceAdd])) | (with_reducible first | refine za ?_ ?_ | refine zb ?_ ?_ ?_ ?_) | (with_reducible first | exact qaaa | exact qaac) | ((with_reducible first | refine zga ?_ | refine zgb ?_); rfl) | ((with_reducible refine zgd ?_); (first | omega | (simp; done))) | (exact Co.refl _) | (exact CoL.refl _) | fail)
  ·have q := hF.out
   rw [k1, Bool.false_or] at q
   exact q
end Go.Proofs.Yticeaegpkpjjeaa
namespace Go.Proofs.Yticeaegpkpjjeaa
set_option linter.all false
open Go.RowKit
attribute [local simp] qabj qabi qaaw qaa2 qaax qaa1 qabg qabh qaap qab2 SOp.run SX.ev putd puts argS upds SOp.touch SSt.keep SSt.skip gets geth puth delh idOf SV.cells? setL qadu qadv sbin eq0 eq1 eqL qadr qacr qacs qaau qabk qaaf qabl qab3 qaai qaak FrzOk qaa5 qaaz qaa3 qaa4 qaaq qaay qabm qaa0 qaas qaa6 qaar frzS frzH frz frz1 frz0 SlotsM ObjsM ObjM rn ren ren1 ren0 qab6 qacp qacu qab5 qabn qacv qact CoL qaa7 qab7 dels adds idsH qabt
attribute [local simp] qaeh refc qaee qaea qacl opc actc tabc qaef qacc nums jc
def qac7 (v : Int) : List Int → Nat → Int
 | [], _ => -1
 | x :: l, i => if v = x then (i : Int) else qac7 v l (i + 1)
theorem qait (v : Int) {l : List Int} {i : Nat} (hi : i < l.length) : qac7 v (l.drop i) i = if v = l[i] then (i : Int) else qac7 v (l.drop (i + 1)) (i + 1) := by
 rw [List.drop_eq_getElem_cons hi]; rfl
theorem qag5 (v : Int) : ∀ (l : List Int) (i : Nat), decide (0 ≤ qac7 v l i) = l.contains v
 | [], i => rfl
 | x :: l, i => by
  unfold qac7
  rw [List.contains_cons]
  by_cases h : v = x
  ·subst h; simp
  ·rw [if_neg h, qag5 v l (i + 1)]; simp [h]
theorem index_s (l : List Int) (v : Int) (hl : l.length ≤ 1000000) : SCalls Try.prog 128 [nums .i64 l, .int .i64 v] [] 0 (.int .i64 (qac7 v l 0)) [] := by
 refine qaal (N := 19) Try.func128 rfl rfl (by kernel_rfl) qak0 (by simp) (by repeat' (first | exact trivial | refine And.intro ?_ ?_ | rfl | decide | exact PureR.ren _)) (by repeat' (first | exact trivial | refine And.intro ?_ ?_ | rfl | decide | exact PureR.ren _)) ?_
 rintro X hP hN hm
 have hF : qac7 v l 0 = qac7 v (l.drop 0) 0 := rfl
 generalize qac7 v l 0 = F at hF
 replace hF := Lib.hid hF
 unfold c_index
 repeat' (first | (with_reducible refine zA ?_) | ((with_reducible refine qaad ?_); (try rw [hP]); simp -implicitDefEqProofs [*]) | fail)
 refine qaat (qabp (fun s (i : Nat) => s.turn [(8, .int .i64 i)] []) (fun i => i ≤ l.length ∧ F = qac7 v (l.drop i) i) (fun i => l.length - i) 0 ?_ ⟨by simp, hF.out⟩ ?_)
 ·repeat' (first | ((with_reducible refine qaag [] hm ?_ ?_ ?_ ?_) <;> (try simp only [zT, puth, Nat.reduceEqDiff, reduceIte, Nat.reduceAdd])) | (with_reducible refine za ?_ ?_) | (with_reducible first | exact qaaa | exact qaac) | ((with_reducible refine zgb ?_); rfl) | ((with_reducible refine zgd ?_); (first | omega | (simp; done))) | (exact Co.refl _) | fail)
 rintro J hJ i ⟨h1, h2⟩
 unfold qajy
 simp only [zT, puth, Nat.reduceEqDiff, reduceIte, Nat.reduceAdd] at h1 h2 ⊢
 rcases Nat.lt_or_ge i l.length with hi | hi
 ·rw [qait v hi] at h2
  generalize hxx : l[i] = x at h2
  have wi : IntKind.i64.wrap ((i : Int) + 1) = (i : Int) + 1 := qaav (by omega) (by omega)
  replace h2 := Lib.hid h2
  cases hv : (v == x)
  ·have hv' : ¬ v = x := by simpa using hv
   repeat' (first | (with_reducible first | refine zA ?_ | refine qaah ?_) | ((with_reducible refine qaad ?_); (try rw [hP]); simp -implicitDefEqProofs [*]) | ((with_reducible refine qaae ?_); (try simp -implicitDefEqProofs [*])) | ((with_reducible refine qaab rfl (fun h => ?_) (fun h => ?_)) <;> have h' := h <;> (try simp at h') <;> (try subst h')) | (with_reducible refine za ?_ ?_) | (with_reducible first | exact qaaa | exact qaac) | ((with_reducible refine zgb ?_); rfl) | ((with_reducible first | refine zgd ?_ | refine zge ?_); (first | omega | (simp; done))) | (exact Co.refl _) | ((refine qaaj hJ (i + 1) ?_ ?_ ?_; (with_reducible refine qaag [] hm ?_ ?_ ?_ ?_) <;> (try simp only [zT, puth, Nat.reduceEqDiff, reduceIte, Nat.reduceAdd]))) | fail)
   exact ⟨by omega, by rw [h2.out, if_neg hv']⟩
  ·have hv' : v = x := by simpa using hv
   replace hv' := Lib.hid hv'
   repeat' (first | (with_reducible first | refine zA ?_ | refine qaah ?_) | ((with_reducible refine qaad ?_); (try rw [hP]); simp -implicitDefEqProofs [*]) | ((with_reducible refine qaae ?_); (try simp -implicitDefEqProofs [*])) | ((with_reducible refine qaam ?_); (try simp only [qaau, qaaf, qaai])) | ((with_reducible refine qaab rfl (fun h => ?_) (fun h => ?_)) <;> have h' := h <;> (try simp at h') <;> (try subst h')) | (with_reducible refine zM hm ?_) | fail)
   rw [h2.out, if_pos hv'.out]
 ·obtain rfl : i = l.length := by omega
  rw [List.drop_length] at h2
  replace h2 := Lib.hid h2
  repeat' (first | (with_reducible refine zA ?_) | ((with_reducible refine qaad ?_); (try rw [hP]); simp -implicitDefEqProofs [*]) | ((with_reducible refine qaao ?_); (try simp -implicitDefEqProofs [*])) | ((with_reducible refine qaam ?_); (try simp only [qaau, qaaf, qaai])) | ((with_reducible refine qaab rfl (fun h => ?_) (fun h => ?_)) <;> have h' := h <;> (try simp at h') <;> (try subst h')) | (with_reducible refine zM hm ?_) | fail)
  rw [h2.out]; rfl
theorem qagc (l : List Int) (v : Int) (hl : l.length ≤ 1000000) (q : Nat) : SCalls Try.prog 89 [nums .i64 l, .int .i64 v] [] q (.bool (l.contains v)) [] := by
 refine qabs ?_ (fun _ => rfl) (fun _ => rfl) rfl q
 refine qaal (N := 9) Try.func89 rfl rfl (by kernel_rfl) qagx (by simp) (by repeat' (first | exact trivial | refine And.intro ?_ ?_ | rfl | decide | exact PureR.ren _)) (by repeat' (first | exact trivial | refine And.intro ?_ ?_ | rfl | decide | exact PureR.ren _)) ?_
 rintro X hP hN hm
 have hi := qag5 v l 0
 have hc := fun q => qabs (index_s l v hl) (fun _ => rfl) (fun _ => rfl) rfl q
 generalize qac7 v l 0 = I at hi hc
 unfold c_contains
 repeat' (first | (with_reducible refine zA ?_) | ((with_reducible refine qaad ?_); (try rw [hP]); simp -implicitDefEqProofs [*]) | ((with_reducible refine qaam ?_); (try simp only [qaau, qaaf, qaai])) | (refine qabb (hc _) ?_; simp -implicitDefEqProofs [*]) | (with_reducible refine zN hm ?_) | fail)
 all_goals (exact decide_eq_decide.2 Iff.rfl)
def wrow (p : PlanD) (l : List RefD) (i : Nat) : List (List SV) := (l.take i).map fun r => [.int .i64 (qabo p r [])]
instance (p : PlanD) (l : List RefD) (i : Nat) : PureR (wrow p l i) := ⟨fun σ => by unfold wrow; rw [List.map_map]; rfl, fun x hx => by obtain ⟨b, _, rfl⟩ := List.mem_map.1 hx; rfl, fun x hx => by obtain ⟨b, _, rfl⟩ := List.mem_map.1 hx; exact qaba _ rfl⟩
theorem qasn (p : PlanD) {l : List RefD} {i : Nat} (hi : i ≤ l.length) : (wrow p l i).length = i := by unfold wrow; simp; omega
theorem qanb (p : PlanD) {l : List RefD} {i : Nat} (hi : i < l.length) : wrow p l i ++ [[.int .i64 (qabo p l[i] [])]] = wrow p l (i + 1) := by
 unfold wrow; rw [List.take_succ_eq_append_getElem hi, List.map_append]; rfl
theorem qaso (p : PlanD) (t : TabD) : SV.view 1 (wrow p t.keys t.keys.length) = nums .i64 (qabu p t) := by
 unfold wrow nums qabu; rw [List.take_length, List.map_map]; rfl
theorem qa2m (p : PlanD) (t : TabD) (hl : t.keys.length ≤ 1000000) : SCalls Try.prog 125 [.agg (qacc p), .agg (tabc t)] [] 0 (nums .i64 (qabu p t)) [] := by
 rw [← qaso]
 refine qaal (N := 23) Try.func125 rfl rfl (by kernel_rfl) qaiy (by simp) (by repeat' (first | exact trivial | refine And.intro ?_ ?_ | rfl | decide | exact PureR.ren _)) (by repeat' (first | exact trivial | refine And.intro ?_ ?_ | rfl | decide | exact PureR.ren _)) ?_
 rintro X hP hN hm
 unfold c_widths
 repeat' (first | (with_reducible refine zA ?_) | ((with_reducible refine qaad ?_); (try rw [hP]); simp -implicitDefEqProofs [*]) | fail)
 refine qacy (qafo 5 3 1 rfl) ?_
 simp only [zT, puth, Nat.reduceEqDiff, reduceIte, Nat.reduceAdd]
 refine qaat (qabp (fun s (i : Nat) => s.turn [(5, .own 8 i), (11, .int .i64 i)] [(8, .row 3 1 (wrow p t.keys i))]) (fun i => i ≤ t.keys.length) (fun i => t.keys.length - i) 0 ?_ (by simp) ?_)
 ·repeat' (first | ((with_reducible refine qaag [] hm ?_ ?_ ?_ ?_) <;> (try simp only [zT, puth, Nat.reduceEqDiff, reduceIte, Nat.reduceAdd])) | (with_reducible first | refine za ?_ ?_ | refine zb ?_ ?_ ?_ ?_ | refine zc ?_ ?_ ?_ ?_) | (with_reducible first | exact qaaa | exact qaac) | ((with_reducible first | refine zga ?_ | refine zgb ?_); rfl) | ((with_reducible refine zgc ?_); (first | (with_reducible rfl) | rfl | (simp; done))) | ((with_reducible refine zgd ?_); (first | omega | (simp; done))) | (exact Co.refl _) | (exact CoL.refl _) | fail)
 rintro J hJ i hi
 unfold qahc
 simp only [zT, puth, Nat.reduceEqDiff, reduceIte, Nat.reduceAdd]
 have hlen := qasn p hi
 have hb1 : i + 1 ≤ maxLen := by unfold maxLen; omega
 rcases Nat.lt_or_ge i t.keys.length with h | h
 ·have wi : IntKind.i64.wrap ((i : Int) + 1) = (i : Int) + 1 := qaav (by omega) (by omega)
  have hrow := qanb p h
  generalize hr : t.keys[i] = r at hrow
  repeat' (first | (with_reducible first | refine zA ?_ | refine qaah ?_) | ((with_reducible refine qaad ?_); (try rw [hP]); simp -implicitDefEqProofs [*]) | ((with_reducible refine qaae ?_); (try simp -implicitDefEqProofs [*])) | ((with_reducible refine qaab rfl (fun h => ?_) (fun h => ?_)) <;> have h' := h <;> (try simp at h') <;> (try subst h')) | ((with_reducible refine qabw ?_ ?_); (first | omega | (unfold maxLen; omega)); simp -implicitDefEqProofs [*]) | (refine qabb (qafd p r _) ?_; simp -implicitDefEqProofs [*]) | (with_reducible first | refine za ?_ ?_ | refine zb ?_ ?_ ?_ ?_ | refine zc ?_ ?_ ?_ ?_) | (with_reducible first | exact qaaa | exact qaac) | ((with_reducible first | refine zga ?_ | refine zgb ?_); rfl) | ((with_reducible refine zgc ?_); (first | (with_reducible rfl) | rfl | (simp; done))) | ((with_reducible first | refine zgd ?_ | refine zge ?_); (first | omega | (simp; done))) | (exact Co.refl _) | (exact CoL.refl _) | ((refine qaaj hJ (i + 1) ?_ ?_ ?_; (with_reducible refine qaag [(8, ?_)] hm ?_ ?_ ?_ ?_) <;> (try simp only [zT, puth, Nat.reduceEqDiff, reduceIte, Nat.reduceAdd]))) | fail)
 ·obtain rfl : i = t.keys.length := by omega
  repeat' (first | ((with_reducible refine qac1 (c := .seq (.reg false qahb [4]) .ret) ?_)) | (with_reducible refine zA ?_) | ((with_reducible refine qaad ?_); (try rw [hP]); simp -implicitDefEqProofs [*]) | ((with_reducible refine qaao ?_); (try simp -implicitDefEqProofs [*])) | ((with_reducible refine qaab rfl (fun h => ?_) (fun h => ?_)) <;> have h' := h <;> (try simp at h') <;> (try subst h')) | fail)
  constructor
  refine qaec [8] ?_ ?_
  ·simp only [FrzOk, geth, Nat.reduceEqDiff, reduceIte, qail, and_true]
  have htk : (wrow p t.keys t.keys.length).take t.keys.length = wrow p t.keys t.keys.length := List.take_of_length_le (by omega)
  simp -implicitDefEqProofs [htk, hlen, Nat.le_refl]
  repeat' (first | (with_reducible refine zA ?_) | ((with_reducible refine qaad ?_); (try rw [hP]); simp -implicitDefEqProofs [*]) | ((with_reducible refine qaam ?_); (try simp only [qaau, qaaf, qaai])) | (refine qafi hm ?_ (qae6 _ _)) | fail)
  rfl
end Go.Proofs.Yticeaegpkpjjeaa
namespace Go.Proofs.Yticeaegpkpjjeaa
set_option linter.all false
open Go.RowKit
attribute [local simp] qabj qabi qaaw qaa2 qaax qaa1 qabg qabh qaap qab2 SOp.run SX.ev putd puts argS upds SOp.touch SSt.keep SSt.skip gets geth puth delh idOf SV.cells? setL qadu qadv sbin eq0 eq1 eqL qadr qacr qacs qaau qabk qaaf qabl qab3 qaai qaak FrzOk qaa5 qaaz qaa3 qaa4 qaaq qaay qabm qaa0 qaas qaa6 qaar frzS frzH frz frz1 frz0 SlotsM ObjsM ObjM rn ren ren1 ren0 qab6 qacp qacu qab5 qabn qacv qact CoL qaa7 qab7 dels adds idsH qabt
attribute [local simp] qaeh refc qaee qaea qacl opc actc tabc qaef qacc nums jc
theorem qakc {xs ks : List Int} {i : Nat} (h1 : i < xs.length) (h2 : i < ks.length) : qagy (xs.drop i) (ks.drop i) = (qayt xs[i] ks[i] || qagy (xs.drop (i + 1)) (ks.drop (i + 1))) := by
 rw [List.drop_eq_getElem_cons h1, List.drop_eq_getElem_cons h2]; rfl
def AW (acts : List ActD) : Prop := ∀ a ∈ acts, ∀ w ∈ a.w, 0 ≤ w ∧ w ≤ 48
theorem says_s (t : TabD) (acts : List ActD) (act : Int) (args : List Int) (ha : AW acts) (hl : t.acts.length ≤ 1000000) (hl2 : args.length ≤ 1000000) (hr : ∀ k ∈ t.acts, 0 ≤ k ∧ k < acts.length) (q : Nat) : SCalls Try.prog 156 [.agg (tabc t), .view 2 (acts.map actc), .int .i64 act, nums .u64 args] [] q (.int .i64 (qask t.acts acts act args)) [] := by
 refine qabs ?_ (fun _ => rfl) (fun _ => rfl) rfl q
 refine qaal (N := 42) Try.func156 rfl rfl (by kernel_rfl) qaos (by simp) (by repeat' (first | exact trivial | refine And.intro ?_ ?_ | rfl | decide | exact PureR.ren _)) (by repeat' (first | exact trivial | refine And.intro ?_ ?_ | rfl | decide | exact PureR.ren _)) ?_
 rintro X hP hN hm
 have hc := fun q => qagc t.acts act hl q
 unfold c_says
 cases hin : t.acts.contains act
 ·rw [hin] at hc
  have hz : qask t.acts acts act args = 5 := by unfold qask; rw [hin]; rfl
  rw [hz]
  repeat' (first | (with_reducible refine zA ?_) | ((with_reducible refine qaad ?_); (try rw [hP]); simp -implicitDefEqProofs [*]) | ((with_reducible refine qaam ?_); (try simp only [qaau, qaaf, qaai])) | ((with_reducible refine qaab rfl (fun h => ?_) (fun h => ?_)) <;> have h' := h <;> (try simp at h') <;> (try subst h')) | (refine qabb (hc _) ?_; simp -implicitDefEqProofs [*]) | (with_reducible refine zM hm ?_) | fail)
  rfl
 ·rw [hin] at hc
  obtain ⟨hr0, hr1⟩ := hr act (by simpa using hin)
  have hlt : act.toNat < acts.length := by omega
  have hAm := ha acts[act.toNat] (List.getElem_mem hlt)
  have hF : qask t.acts acts act args = if args.length ≠ acts[act.toNat].w.length then 2 else if qagy args acts[act.toNat].w = true then 6 else 0 := by
   unfold qask
   have : actW acts act = acts[act.toNat].w := by unfold actW; rw [List.getElem?_eq_getElem hlt]; rfl
   rw [hin, this]; rfl
  generalize qask t.acts acts act args = F at hF
  generalize hA : acts[act.toNat] = A at hAm hF
  replace hAm := Lib.hid hAm
  by_cases hlen : args.length = A.w.length
  ·rw [if_neg (by simpa using hlen)] at hF
   have kl : ((args.length : Int) != (A.w.length : Int)) = false := by simp [hlen]
   replace hF := Lib.hid hF
   replace hlen := Lib.hid hlen
   repeat' (first | (with_reducible refine zA ?_) | ((with_reducible refine qaad ?_); (try rw [hP]); simp -implicitDefEqProofs [*]) | ((with_reducible refine qaae ?_); (try simp -implicitDefEqProofs [*])) | ((with_reducible refine qaab rfl (fun h => ?_) (fun h => ?_)) <;> have h' := h <;> (try simp at h') <;> (try subst h')) | (refine qabb (hc _) ?_; simp -implicitDefEqProofs [*]) | fail)
   refine qaat (qabp (fun s (i : Nat) => s.turn [(29, .int .i64 i)] []) (fun i => i ≤ args.length ∧ F = if qagy (args.drop i) (A.w.drop i) = true then 6 else 0) (fun i => args.length - i) 0 ?_ ⟨by simp, hF.out⟩ ?_)
   ·repeat' (first | ((with_reducible refine qaag [] hm ?_ ?_ ?_ ?_) <;> (try simp only [zT, puth, Nat.reduceEqDiff, reduceIte, Nat.reduceAdd])) | (with_reducible first | refine za ?_ ?_ | refine zb ?_ ?_ ?_ ?_) | (with_reducible first | exact qaaa | exact qaac) | ((with_reducible first | refine zga ?_ | refine zgb ?_); rfl) | ((with_reducible refine zgd ?_); (first | omega | (simp; done))) | (exact Co.refl _) | (exact CoL.refl _) | fail)
   rintro J hJ i ⟨h1, h2⟩
   unfold qan3
   simp only [zT, puth, Nat.reduceEqDiff, reduceIte, Nat.reduceAdd] at h1 h2 ⊢
   rcases Nat.lt_or_ge i args.length with hi | hi
   ·have hi2 : i < A.w.length := by have := hlen.out; omega
    rw [qakc hi hi2] at h2
    have hms := fun q => mask_s A.w[i] (hAm.out _ (List.getElem_mem hi2)) q
    generalize hw : A.w[i] = w at h2 hms
    generalize hx : args[i] = x at h2
    have wi : IntKind.i64.wrap ((i : Int) + 1) = (i : Int) + 1 := qaav (by omega) (by omega)
    replace h2 := Lib.hid h2
    cases hv : qayt x w
    ·unfold qayt at hv
     repeat' (first | (with_reducible first | refine zA ?_ | refine qaah ?_) | ((with_reducible refine qaad ?_); (try rw [hP]); simp -implicitDefEqProofs [*]) | ((with_reducible refine qaae ?_); (try simp -implicitDefEqProofs [*])) | ((with_reducible refine qaab rfl (fun h => ?_) (fun h => ?_)) <;> have h' := h <;> (try simp at h') <;> (try subst h')) | (refine qabb (hms _) ?_; simp -implicitDefEqProofs [*]) | (with_reducible first | refine za ?_ ?_ | refine zb ?_ ?_ ?_ ?_) | (with_reducible first | exact qaaa | exact qaac) | ((with_reducible first | refine zga ?_ | refine zgb ?_); rfl) | ((with_reducible first | refine zgd ?_ | refine zge ?_); (first | omega | (simp; done))) | (exact Co.refl _) | (exact CoL.refl _) | ((refine qaaj hJ (i + 1) ?_ ?_ ?_; (with_reducible refine qaag [] hm ?_ ?_ ?_ ?_) <;> (try simp only [zT, puth, Nat.reduceEqDiff, reduceIte, Nat.reduceAdd]))) | fail)
     refine ⟨by omega, ?_⟩
     rw [h2.out, show qayt x w = false from hv, Bool.false_or]
    ·unfold qayt at hv
     repeat' (first | (with_reducible first | refine zA ?_ | refine qaah ?_) | ((with_reducible refine qaad ?_); (try rw [hP]); simp -implicitDefEqProofs [*]) | ((with_reducible refine qaae ?_); (try simp -implicitDefEqProofs [*])) | ((with_reducible refine qaam ?_); (try simp only [qaau, qaaf, qaai])) | ((with_reducible refine qaab rfl (fun h => ?_) (fun h => ?_)) <;> have h' := h <;> (try simp at h') <;> (try subst h')) | (refine qabb (hms _) ?_; simp -implicitDefEqProofs [*]) | (with_reducible refine zM hm ?_) | fail)
     rw [h2.out, show qayt x w = true from hv]; rfl
   ·obtain rfl : i = args.length := by omega
    rw [List.drop_length] at h2
    replace h2 := Lib.hid h2
    repeat' (first | (with_reducible refine zA ?_) | ((with_reducible refine qaad ?_); (try rw [hP]); simp -implicitDefEqProofs [*]) | ((with_reducible refine qaao ?_); (try simp -implicitDefEqProofs [*])) | ((with_reducible refine qaam ?_); (try simp only [qaau, qaaf, qaai])) | ((with_reducible refine qaab rfl (fun h => ?_) (fun h => ?_)) <;> have h' := h <;> (try simp at h') <;> (try subst h')) | (with_reducible refine zM hm ?_) | fail)
    rw [h2.out]; rfl
  ·rw [if_pos (by simpa using hlen)] at hF
   have kl : ((args.length : Int) != (A.w.length : Int)) = true := by simp; omega
   replace hF := Lib.hid hF
   repeat' (first | (with_reducible refine zA ?_) | ((with_reducible refine qaad ?_); (try rw [hP]); simp -implicitDefEqProofs [*]) | ((with_reducible refine qaae ?_); (try simp -implicitDefEqProofs [*])) | ((with_reducible refine qaam ?_); (try simp only [qaau, qaaf, qaai])) | ((with_reducible refine qaab rfl (fun h => ?_) (fun h => ?_)) <;> have h' := h <;> (try simp at h') <;> (try subst h')) | (refine qabb (hc _) ?_; simp -implicitDefEqProofs [*]) | (with_reducible refine zM hm ?_) | fail)
   rw [hF.out]
set_option maxHeartbeats 4000000 in
theorem qa2q (t : TabD) (ws : List Int) (acts : List ActD) (ha : AW acts) (h1 : t.acts.length ≤ 1000000) (h2 : t.args.length ≤ 1000000) (h3 : ws.length ≤ 1000000) (h4 : acts.length ≤ 1000000) (q : Nat) : SCalls Try.prog 126 [.agg (tabc t), nums .i64 ws, .view 2 (acts.map actc)] [] q (.int .i64 (qaei t ws acts)) [] := by
 refine qabs ?_ (fun _ => rfl) (fun _ => rfl) rfl q
 refine qaal (N := 101) Try.func126 rfl rfl (by kernel_rfl) qai0 (by simp) (by repeat' (first | exact trivial | refine And.intro ?_ ?_ | rfl | decide | exact PureR.ren _)) (by repeat' (first | exact trivial | refine And.intro ?_ ?_ | rfl | decide | exact PureR.ren _)) ?_
 rintro X hP hN hm
 have hsays := fun (hr : ∀ k ∈ t.acts, 0 ≤ k ∧ k < acts.length) q => says_s t acts t.def_ t.args ha h1 h2 hr q
 replace hsays := Lib.hid hsays
 replace ha := Lib.hid ha
 obtain ⟨n, hn⟩ : ∃ n, ws.length = n := ⟨_, rfl⟩
 obtain ⟨m, hma⟩ : ∃ m, t.acts.length = m := ⟨_, rfl⟩
 unfold c_tcheck
 by_cases g1 : t.kind < 1 ∨ 3 < t.kind
 ·have hz : qaei t ws acts = 5 := by unfold qaei; rw [if_pos g1]
  rw [hz]
  have k1 : (t.kind != 1) = true := by simp; omega
  have k2 : (t.kind != 2) = true := by simp; omega
  have k3 : (t.kind != 3) = true := by simp; omega
  replace g1 := Lib.hid g1
  repeat' (first | (with_reducible first | refine zA ?_ | refine qaah ?_) | ((with_reducible refine qaad ?_); (try rw [hP]); simp -implicitDefEqProofs [*]) | ((with_reducible refine qaam ?_); (try simp only [qaau, qaaf, qaai])) | ((with_reducible refine qaab rfl (fun h => ?_) (fun h => ?_)) <;> have h' := h <;> (try simp at h') <;> (try subst h')) | (with_reducible refine zM hm ?_) | fail)
  rfl
 by_cases g2 : ws.length < 1 ∨ 3 < ws.length ∨ (t.kind = 2 ∧ 1 < ws.length) ∨ t.acts.length < 1 ∨ 4 < t.acts.length
 ·have hz : qaei t ws acts = 2 := by unfold qaei; rw [if_neg g1, if_pos g2]
  rw [hz]
  replace g1 := Lib.hid g1
  replace g2 := Lib.hid g2
  repeat' (first | (with_reducible first | refine zA ?_ | refine qaah ?_) | ((with_reducible refine qaad ?_); (try rw [hP]); simp -implicitDefEqProofs [*]) | ((with_reducible refine qaae ?_); (try simp -implicitDefEqProofs [*])) | ((with_reducible refine qaam ?_); (try simp only [qaau, qaaf, qaai])) | ((with_reducible refine qaab rfl (fun h => ?_) (fun h => ?_)) <;> have h' := h <;> (try simp at h') <;> (try subst h')) | ((with_reducible refine qaa9 (fun h => ?_) (fun h => ?_)) <;> have h' := h <;> (try simp at h') <;> (try subst h') <;> simp -implicitDefEqProofs [*]) | (with_reducible refine zM hm ?_) | fail)
  all_goals (first | rfl | (exfalso; have q := g2.out; have q1 := g1.out; omega))
 by_cases g3 : t.cap < 0 ∨ 16 < t.cap
 ·have hz : qaei t ws acts = 1 := by unfold qaei; rw [if_neg g1, if_neg g2, if_pos g3]
  rw [hz]
  replace g1 := Lib.hid g1
  replace g2 := Lib.hid g2
  replace g3 := Lib.hid g3
  repeat' (first | (with_reducible first | refine zA ?_ | refine qaah ?_) | ((with_reducible refine qaad ?_); (try rw [hP]); simp -implicitDefEqProofs [*]) | ((with_reducible refine qaae ?_); (try simp -implicitDefEqProofs [*])) | ((with_reducible refine qaam ?_); (try simp only [qaau, qaaf, qaai])) | ((with_reducible refine qaab rfl (fun h => ?_) (fun h => ?_)) <;> have h' := h <;> (try simp at h') <;> (try subst h')) | ((with_reducible refine qaa9 (fun h => ?_) (fun h => ?_)) <;> have h' := h <;> (try simp at h') <;> (try subst h') <;> simp -implicitDefEqProofs [*]) | (with_reducible refine zM hm ?_) | fail)
  all_goals (first | rfl | (exfalso; have q := g2.out; have q1 := g1.out; have q3 := g3.out; omega))
 have hF : qaei t ws acts = if (ws.drop 0).any wOut = true then 6 else if (t.acts.drop 0).any (aOut acts.length) = true then 1 else qask t.acts acts t.def_ t.args := by
  unfold qaei; rw [if_neg g1, if_neg g2, if_neg g3]; rfl
 generalize qaei t ws acts = F at hF
 replace hF := Lib.hid hF
 have l0 : ((ws.length : Int) == 0) = false := by rw [beq_eq_false_iff_ne]; omega
 have l3 : decide (3 < (ws.length : Int)) = false := by rw [decide_eq_false_iff_not]; omega
 have a0 : ((t.acts.length : Int) == 0) = false := by rw [beq_eq_false_iff_ne]; omega
 have a4 : decide (4 < (t.acts.length : Int)) = false := by rw [decide_eq_false_iff_not]; omega
 have q0 : decide (t.cap < 0) = false := by rw [decide_eq_false_iff_not]; omega
 have q16 : decide (16 < t.cap) = false := by rw [decide_eq_false_iff_not]; omega
 have hks : ((t.kind != 1) = false ∧ (t.kind == 2) = false) ∨ ((t.kind != 1) = true ∧ (t.kind != 2) = false ∧ (t.kind == 2) = true ∧ ((ws.length : Int) != 1) = false) ∨ ((t.kind != 1) = true ∧ (t.kind != 2) = true ∧ (t.kind != 3) = false ∧ (t.kind == 2) = false) := by
  by_cases e1 : t.kind = 1
  ·left; rw [e1]; exact ⟨rfl, rfl⟩
  by_cases e2 : t.kind = 2
  ·right; left; refine ⟨by simpa using e1, by simpa using e2, by simpa using e2, ?_⟩
   rw [bne_eq_false_iff_eq]; omega
  ·right; right; refine ⟨by simpa using e1, by simpa using e2, ?_, by simpa using e2⟩
   rw [bne_eq_false_iff_eq]; omega
 clear g1 g2 g3 hn hma n m
 rcases hks with ⟨k1, k2⟩ | ⟨k1, k2, k3, k4⟩ | ⟨k1, k2, k3, k4⟩
 all_goals
  repeat' (first | (with_reducible first | refine zA ?_ | refine qaah ?_) | ((with_reducible refine qaad ?_); (try rw [hP]); simp -implicitDefEqProofs [*]) | ((with_reducible refine qaae ?_); (try simp -implicitDefEqProofs [*])) | ((with_reducible refine qaab rfl (fun h => ?_) (fun h => ?_)) <;> have h' := h <;> (try simp at h') <;> (try subst h')) | fail)
  clear k1 k2 a0 a4 q0 q16 l0 l3
  refine qaat (qabp (fun s (i : Nat) => s.turn [(67, .int .i64 i)] []) (fun i => i ≤ ws.length ∧ F = if (ws.drop i).any wOut = true then 6 else if (t.acts.drop 0).any (aOut acts.length) = true then 1 else qask t.acts acts t.def_ t.args) (fun i => ws.length - i) 0 ?_ ⟨by simp, hF.out⟩ ?_)
  ·repeat' (first | ((with_reducible refine qaag [] hm ?_ ?_ ?_ ?_) <;> (try simp only [zT, puth, Nat.reduceEqDiff, reduceIte, Nat.reduceAdd])) | (with_reducible first | refine za ?_ ?_ | refine zb ?_ ?_ ?_ ?_) | (with_reducible first | exact qaaa | exact qaac) | ((with_reducible first | refine zga ?_ | refine zgb ?_); rfl) | ((with_reducible refine zgd ?_); (first | omega | (simp; done))) | (exact Co.refl _) | (exact CoL.refl _) | fail)
  rintro J hJ i ⟨h5, h6⟩
  unfold qahe
  simp only [zT, puth, Nat.reduceEqDiff, reduceIte, Nat.reduceAdd] at h5 h6 ⊢
  rcases Nat.lt_or_ge i ws.length with hi | hi
  ·rw [qadq _ hi] at h6
   generalize hxx : ws[i] = x at h6
   have wi : IntKind.i64.wrap ((i : Int) + 1) = (i : Int) + 1 := qaav (by omega) (by omega)
   replace h6 := Lib.hid h6
   cases hv : wOut x
   ·have hv1 : decide (x < 1) = false ∧ decide (48 < x) = false := by simpa [wOut] using hv
    obtain ⟨v1, v2⟩ := hv1
    repeat' (first | (with_reducible first | refine zA ?_ | refine qaah ?_) | ((with_reducible refine qaad ?_); (try rw [hP]); simp -implicitDefEqProofs [*]) | ((with_reducible refine qaae ?_); (try simp -implicitDefEqProofs [*])) | ((with_reducible refine qaab rfl (fun h => ?_) (fun h => ?_)) <;> have h' := h <;> (try simp at h') <;> (try subst h')) | (with_reducible first | refine za ?_ ?_ | refine zb ?_ ?_ ?_ ?_) | (with_reducible first | exact qaaa | exact qaac) | ((with_reducible first | refine zga ?_ | refine zgb ?_); rfl) | ((with_reducible first | refine zgd ?_ | refine zge ?_); (first | omega | (simp; done))) | (exact Co.refl _) | (exact CoL.refl _) | ((refine qaaj hJ (i + 1) ?_ ?_ ?_; (with_reducible refine qaag [] hm ?_ ?_ ?_ ?_) <;> (try simp only [zT, puth, Nat.reduceEqDiff, reduceIte, Nat.reduceAdd]))) | fail)
    exact ⟨by omega, by rw [h6.out, hv, Bool.false_or]⟩
   ·replace hv := Lib.hid hv
    repeat' (first | (with_reducible first | refine zA ?_ | refine qaah ?_) | ((with_reducible refine qaad ?_); (try rw [hP]); simp -implicitDefEqProofs [*]) | ((with_reducible refine qaae ?_); (try simp -implicitDefEqProofs [*])) | ((with_reducible refine qaam ?_); (try simp only [qaau, qaaf, qaai])) | ((with_reducible refine qaab rfl (fun h => ?_) (fun h => ?_)) <;> have h' := h <;> (try simp at h') <;> (try subst h')) | ((with_reducible refine qaa9 (fun h => ?_) (fun h => ?_)) <;> have h' := h <;> (try simp at h') <;> (try subst h') <;> simp -implicitDefEqProofs [*]) | (with_reducible refine zM hm ?_) | (with_reducible first | refine za ?_ ?_ | refine zb ?_ ?_ ?_ ?_) | (with_reducible first | exact qaaa | exact qaac) | ((with_reducible first | refine zga ?_ | refine zgb ?_); rfl) | ((with_reducible first | refine zgd ?_ | refine zge ?_); (first | omega | (simp; done))) | (exact Co.refl _) | (exact CoL.refl _) | ((refine qaaj hJ (i + 1) ?_ ?_ ?_; (with_reducible refine qaag [] hm ?_ ?_ ?_ ?_) <;> (try simp only [zT, puth, Nat.reduceEqDiff, reduceIte, Nat.reduceAdd]))) | fail)
    all_goals (first | (exfalso; have q := hv.out; simp only [wOut, Bool.or_eq_true, decide_eq_true_eq] at q; omega) | (rw [h6.out, hv.out]; rfl))
  ·obtain rfl : i = ws.length := by omega
   have h7 : F = if (t.acts.drop 0).any (aOut acts.length) = true then 1 else qask t.acts acts t.def_ t.args := by rw [h6, List.drop_length]; rfl
   replace h7 := Lib.hid h7
   replace h6 := Lib.hid h6
   repeat' (first | (with_reducible refine zA ?_) | ((with_reducible refine qaad ?_); (try rw [hP]); simp -implicitDefEqProofs [*]) | ((with_reducible refine qaao ?_); (try simp -implicitDefEqProofs [*])) | ((with_reducible refine qaab rfl (fun h => ?_) (fun h => ?_)) <;> have h' := h <;> (try simp at h') <;> (try subst h')) | fail)
   refine qaat (qabp (fun s (i : Nat) => s.turn [(81, .int .i64 i)] []) (fun i => i ≤ t.acts.length ∧ (∀ k ∈ t.acts.take i, aOut acts.length k = false) ∧ F = if (t.acts.drop i).any (aOut acts.length) = true then 1 else qask t.acts acts t.def_ t.args) (fun i => t.acts.length - i) 0 ?_ ⟨by simp, by simp, h7.out⟩ ?_)
   ·repeat' (first | ((with_reducible refine qaag [] hm ?_ ?_ ?_ ?_) <;> (try simp only [zT, puth, Nat.reduceEqDiff, reduceIte, Nat.reduceAdd])) | (with_reducible first | refine za ?_ ?_ | refine zb ?_ ?_ ?_ ?_) | (with_reducible first | exact qaaa | exact qaac) | ((with_reducible first | refine zga ?_ | refine zgb ?_); rfl) | ((with_reducible refine zgd ?_); (first | omega | (simp; done))) | (exact Co.refl _) | (exact CoL.refl _) | fail)
   rintro J hJ i ⟨h8, h9, h10⟩
   unfold qahd
   simp only [zT, puth, Nat.reduceEqDiff, reduceIte, Nat.reduceAdd] at h8 h9 h10 ⊢
   replace h9 := Lib.hid h9
   rcases Nat.lt_or_ge i t.acts.length with hi | hi
   ·rw [qadq _ hi] at h10
    have htk : t.acts.take (i + 1) = t.acts.take i ++ [t.acts[i]] := List.take_succ_eq_append_getElem hi
    generalize hxx : t.acts[i] = x at h10 htk
    have wi : IntKind.i64.wrap ((i : Int) + 1) = (i : Int) + 1 := qaav (by omega) (by omega)
    replace h10 := Lib.hid h10
    replace htk := Lib.hid htk
    cases hv : aOut acts.length x
    ·have hv1 : decide (x < 0) = false ∧ decide ((acts.length : Int) ≤ x) = false := by simpa [aOut] using hv
     obtain ⟨v1, v2⟩ := hv1
     replace hv := Lib.hid hv
     repeat' (first | (with_reducible first | refine zA ?_ | refine qaah ?_) | ((with_reducible refine qaad ?_); (try rw [hP]); simp -implicitDefEqProofs [*]) | ((with_reducible refine qaae ?_); (try simp -implicitDefEqProofs [*])) | ((with_reducible refine qaab rfl (fun h => ?_) (fun h => ?_)) <;> have h' := h <;> (try simp at h') <;> (try subst h')) | (with_reducible first | refine za ?_ ?_ | refine zb ?_ ?_ ?_ ?_) | (with_reducible first | exact qaaa | exact qaac) | ((with_reducible first | refine zga ?_ | refine zgb ?_); rfl) | ((with_reducible first | refine zgd ?_ | refine zge ?_); (first | omega | (simp; done))) | (exact Co.refl _) | (exact CoL.refl _) | ((refine qaaj hJ (i + 1) ?_ ?_ ?_; (with_reducible refine qaag [] hm ?_ ?_ ?_ ?_) <;> (try simp only [zT, puth, Nat.reduceEqDiff, reduceIte, Nat.reduceAdd]))) | fail)
     refine ⟨by omega, fun k hk => ?_, by rw [h10.out, hv.out, Bool.false_or]⟩
     rw [htk.out, List.mem_append] at hk
     rcases hk with hk | hk
     ·exact h9.out k hk
     ·rw [List.mem_singleton.1 hk]; exact hv.out
    ·replace hv := Lib.hid hv
     repeat' (first | (with_reducible first | refine zA ?_ | refine qaah ?_) | ((with_reducible refine qaad ?_); (try rw [hP]); simp -implicitDefEqProofs [*]) | ((with_reducible refine qaae ?_); (try simp -implicitDefEqProofs [*])) | ((with_reducible refine qaam ?_); (try simp only [qaau, qaaf, qaai])) | ((with_reducible refine qaab rfl (fun h => ?_) (fun h => ?_)) <;> have h' := h <;> (try simp at h') <;> (try subst h')) | ((with_reducible refine qaa9 (fun h => ?_) (fun h => ?_)) <;> have h' := h <;> (try simp at h') <;> (try subst h') <;> simp -implicitDefEqProofs [*]) | (with_reducible refine zM hm ?_) | (with_reducible first | refine za ?_ ?_ | refine zb ?_ ?_ ?_ ?_) | (with_reducible first | exact qaaa | exact qaac) | ((with_reducible first | refine zga ?_ | refine zgb ?_); rfl) | ((with_reducible first | refine zgd ?_ | refine zge ?_); (first | omega | (simp; done))) | (exact Co.refl _) | (exact CoL.refl _) | ((refine qaaj hJ (i + 1) ?_ ?_ ?_; (with_reducible refine qaag [] hm ?_ ?_ ?_ ?_) <;> (try simp only [zT, puth, Nat.reduceEqDiff, reduceIte, Nat.reduceAdd]))) | fail)
     all_goals (first | (exfalso; have q := hv.out; simp only [aOut, Bool.or_eq_true, decide_eq_true_eq] at q; omega) | (rw [h10.out, hv.out]; rfl))
   ·obtain rfl : i = t.acts.length := by omega
    have h11 : ∀ k ∈ t.acts, 0 ≤ k ∧ k < acts.length := fun k hk => by
     have := h9.out k (by rw [List.take_length]; exact hk)
     unfold aOut at this; rw [Bool.or_eq_false_iff, decide_eq_false_iff_not, decide_eq_false_iff_not] at this; omega
    have h12 : F = qask t.acts acts t.def_ t.args := by rw [h10, List.drop_length]; rfl
    have hs := hsays.out h11
    replace hs := Lib.hid hs
    replace h11 := Lib.hid h11
    replace h10 := Lib.hid h10
    replace h12 := Lib.hid h12
    repeat' (first | (with_reducible refine zA ?_) | ((with_reducible refine qaad ?_); (try rw [hP]); simp -implicitDefEqProofs [*]) | ((with_reducible refine qaao ?_); (try simp -implicitDefEqProofs [*])) | ((with_reducible refine qaam ?_); (try simp only [qaau, qaaf, qaai])) | ((with_reducible refine qaab rfl (fun h => ?_) (fun h => ?_)) <;> have h' := h <;> (try simp at h') <;> (try subst h')) | (refine qabb (hs.out _) ?_; simp -implicitDefEqProofs [*]) | (with_reducible refine zM hm ?_) | fail)
    rw [h12.out]
end Go.Proofs.Yticeaegpkpjjeaa
namespace Go.Proofs.Yticeaegpkpjjeaa
set_option linter.all false
open Go.RowKit
attribute [local simp] qabj qabi qaaw qaa2 qaax qaa1 qabg qabh qaap qab2 SOp.run SX.ev putd puts argS upds SOp.touch SSt.keep SSt.skip gets geth puth delh idOf SV.cells? setL qadu qadv sbin eq0 eq1 eqL qadr qacr qacs qaau qabk qaaf qabl qab3 qaai qaak FrzOk qaa5 qaaz qaa3 qaa4 qaaq qaay qabm qaa0 qaas qaa6 qaar frzS frzH frz frz1 frz0 SlotsM ObjsM ObjM rn ren ren1 ren0 qab6 qacp qacu qab5 qabn qacv qact CoL qaa7 qab7 dels adds idsH qabt
attribute [local simp] qaeh refc qaee qaea qacl opc actc tabc qaef qacc nums jc
theorem qaoy (p : PlanD) (t : TabD) (hl : t.keys.length ≤ 1000000) (q : Nat) : SCalls Try.prog 125 [.agg (qacc p), .agg (tabc t)] [] q (nums .i64 (qabu p t)) [] := qabs (qa2m p t hl) (fun _ => rfl) (fun _ => rfl) rfl q
theorem jtabs_s (p : PlanD) (hs : SmallP p) (a b : Int) (ha : a = 0 → AW p.acts) : SCalls Try.prog 86 [.ptr 0 0] [(0, .cells 179 (jc p a b))] 1 (.tup []) [(0, .cells 179 (jc p (orF (a, b) (qayr p)).1 (orF (a, b) (qayr p)).2))] := by
 refine qaal (N := 76) Try.func86 rfl rfl (by kernel_rfl) qakw (by simp) (by repeat' (first | exact trivial | refine And.intro ?_ ?_ | rfl | decide | exact PureR.ren _)) (by repeat' (first | exact trivial | refine And.intro ?_ ?_ | rfl | decide | exact PureR.ren _)) ?_
 rintro X hP hN hm
 have hF : orF (a, b) (qayr p) = orF (qab4 a b (decide (5 < (p.tabs.length : Int))) 2 (-5)) (rowF (fun _ t => tabF p t) 5000 0 p.tabs) := by
  unfold qayr; rw [qado]; congr 3; exact propext (by omega)
 generalize orF (a, b) (qayr p) = F at hF
 replace hF := Lib.hid hF
 have hla := hs.tabs
 have hE : (qab4 a b (decide (5 < (p.tabs.length : Int))) 2 (-5)).1 = 0 → AW p.acts := fun h => ha (by
  unfold qab4 at h; by_cases h0 : a = 0
  ·exact h0
  ·rw [if_neg (fun hh => h0 hh.2)] at h; exact h)
 replace hE := Lib.hid hE
 replace ha := Lib.hid ha
 unfold c_jtabs
 repeat' (first | (with_reducible refine zA ?_) | ((with_reducible refine qaad ?_); (try rw [hP]); simp -implicitDefEqProofs [*]) | (refine qabc (qaan p _ _ _ _ _ _ _ (by simp)) ⟨rfl, trivial⟩ ⟨rfl, trivial⟩ ?_; simp -implicitDefEqProofs [*]) | fail)
 refine qaat (qabp (fun s (x : Nat × Int × Int) => s.turn [(2, .int .i64 x.1)] [(0, .cells 179 (jc p x.2.1 x.2.2))]) (fun x => x.1 ≤ p.tabs.length ∧ (x.2.1 = 0 → AW p.acts) ∧ F = orF (x.2.1, x.2.2) (rowF (fun _ t => tabF p t) 5000 x.1 (p.tabs.drop x.1))) (fun x => p.tabs.length - x.1) (0, _, _) ?_ ⟨by simp, hE.out, hF⟩ ?_)
 ·repeat' (first | ((with_reducible refine qaag [] hm ?_ ?_ ?_ ?_) <;> (try simp only [zT, puth, Nat.reduceEqDiff, reduceIte, Nat.reduceAdd])) | (with_reducible first | refine za ?_ ?_ | refine zb ?_ ?_ ?_ ?_) | (with_reducible first | exact qaaa | exact qaac) | ((with_reducible first | refine zga ?_ | refine zgb ?_); rfl) | ((with_reducible refine zgd ?_); (first | omega | (simp; done))) | (exact Co.refl _) | (exact CoL.refl _) | fail)
 rintro J hJ ⟨i, e, g⟩ ⟨h1, h0, h2⟩
 unfold qajm
 simp only [zT, puth, Nat.reduceEqDiff, reduceIte, Nat.reduceAdd] at h1 h0 h2 ⊢
 rcases Nat.lt_or_ge i p.tabs.length with hi | hi
 ·have hxm : p.tabs[i] ∈ p.tabs := List.getElem_mem hi
  have hw := hs.keys _ hxm
  rw [qadb _ _ hi] at h2
  generalize hxx : p.tabs[i] = x at h2 hw
  by_cases he : e = 0
  ·subst he
   rw [qadw] at h2
   have wi : IntKind.i64.wrap ((i : Int) + 1) = (i : Int) + 1 := qaav (by omega) (by omega)
   have wa : IntKind.i64.wrap (5000 + (i : Int)) = 5000 + (i : Int) := qaav (by omega) (by omega)
   have hAW := h0 rfl
   have hlw : (qabu p x).length ≤ 1000000 := by unfold qabu; rw [List.length_map]; omega
   have hla2 := hs.acts
   have hc1 := fun q => qa2q x (qabu p x) p.acts hAW (by omega) (by omega) hlw (by omega) q
   have hc2 := fun q => qagc (qabu p x) 0 hlw q
   have hc3 := fun q => qaoy p x (by omega) q
   have hA : orF (0, g) (tabF p x, 5000 + (i : Int)) = orF (qab4 (qab4 0 g (decide (3 < (x.keys.length : Int))) 2 (5000 + i)).1 (qab4 0 g (decide (3 < (x.keys.length : Int))) 2 (5000 + i)).2 ((qabu p x).contains 0) 1 (5000 + i)) (qaei x (qabu p x) p.acts, 5000 + (i : Int)) := by
    have : tabF p x = if decide (3 < (x.keys.length : Int)) = true then 2 else if (qabu p x).contains 0 = true then 1 else qaei x (qabu p x) p.acts := by
     unfold tabF; simp only [decide_eq_true_eq]; congr 1; exact propext (by omega)
    rw [this, qaci _ _ _ _ _ _ (by decide)]
    exact qaci _ _ _ _ _ _ (by decide)
   generalize orF (0, g) (tabF p x, 5000 + (i : Int)) = A at hA h2
   generalize qaei x (qabu p x) p.acts = T at hA hc1
   generalize (qabu p x).contains 0 = C at hA hc2
   generalize qabu p x = W at hc1 hc2 hc3
   rw [← qaig] at hA
   have kT : (T != 0) = decide (T ≠ 0) := by rw [Bool.eq_iff_iff]; simp
   unfold qada at hA
   rw [← kT] at hA
   replace hAW := Lib.hid hAW
   replace h0 := Lib.hid h0
   replace hA := Lib.hid hA
   replace h2 := Lib.hid h2
   replace hc1 := Lib.hid hc1
   replace hc2 := Lib.hid hc2
   replace hc3 := Lib.hid hc3
   clear kT
   repeat' (first | (with_reducible first | refine zA ?_ | refine qaah ?_ | refine zK ?_) | ((with_reducible first | refine qaad ?_ | refine qaa8 (by rw [hP]; exact qadn) ?_); (try rw [hP]); simp -implicitDefEqProofs [*]) | ((with_reducible refine qaae ?_); (try simp -implicitDefEqProofs [*])) | ((with_reducible refine qaab rfl (fun h => ?_) (fun h => ?_)) <;> have h' := h <;> (try simp at h') <;> (try subst h')) | ((first | refine qabc (qaan p _ _ _ _ _ _ _ (by simp)) ⟨rfl, trivial⟩ ⟨rfl, trivial⟩ ?_ | refine qabb (hc1.out _) ?_ | refine qabb (hc2.out _) ?_ | refine qabb (hc3.out _) ?_); simp -implicitDefEqProofs [*]) | (with_reducible first | refine za ?_ ?_ | refine zb ?_ ?_ ?_ ?_) | (with_reducible first | exact qaaa | exact qaac) | ((with_reducible first | refine zga ?_ | refine zgb ?_); rfl) | ((with_reducible first | refine zgd ?_ | refine zge ?_); (first | omega | (simp; done))) | (exact Co.refl _) | (exact CoL.refl _) | ((refine qaaj hJ (i + 1, ?_, ?_) ?_ ?_ ?_; rotate_left 2; (with_reducible refine qaag [] hm ?_ ?_ ?_ ?_) <;> (try simp only [zT, puth, Nat.reduceEqDiff, reduceIte, Nat.reduceAdd]))) | fail)
   all_goals (try dsimp only)
   all_goals (refine ⟨by omega, fun _ => hAW.out, ?_⟩; rw [h2.out]; congr 1; try exact hA.out)
  ·have ke : (e == 0) = false := by simpa using he
   replace h2 := Lib.hid h2
   replace h0 := Lib.hid h0
   repeat' (first | (with_reducible refine zA ?_) | ((with_reducible refine qaad ?_); (try rw [hP]); simp -implicitDefEqProofs [*]) | ((with_reducible refine qaao ?_); (try simp -implicitDefEqProofs [*])) | ((with_reducible refine qaab rfl (fun h => ?_) (fun h => ?_)) <;> have h' := h <;> (try simp at h') <;> (try subst h')) | (refine qacf hm rfl ?_ (fun σ => rfl)) | fail)
   rw [h2.out, qafg he]
 ·obtain rfl : i = p.tabs.length := by omega
  rw [List.drop_length] at h2
  replace h2 := Lib.hid h2
  replace h0 := Lib.hid h0
  repeat' (first | (with_reducible refine zA ?_) | ((with_reducible refine qaad ?_); (try rw [hP]); simp -implicitDefEqProofs [*]) | ((with_reducible refine qaao ?_); (try simp -implicitDefEqProofs [*])) | ((with_reducible refine qaab rfl (fun h => ?_) (fun h => ?_)) <;> have h' := h <;> (try simp at h') <;> (try subst h')) | (refine qacf hm rfl ?_ (fun σ => rfl)) | fail)
  rw [h2.out, qacd _ rfl]
end Go.Proofs.Yticeaegpkpjjeaa
