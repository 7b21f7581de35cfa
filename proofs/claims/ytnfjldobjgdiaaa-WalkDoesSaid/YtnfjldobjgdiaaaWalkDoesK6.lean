/-
  Texts joined: XCplr XPlnR XPlnS XPlnT XShY XWlkF XWlkG XWlkH XPlnU. No condition.
-/
import Derived.Test.YtnfjldobjgdiaaaProg
import Derived.ProofKit
import Derived.WalkSpells
import Derived.RegionTactic
import Derived.BigRegion
import Derived.Deep.RegionLaw
import Derived.Test.YtnfjldobjgdiaaaWalkDoesK5
namespace Go.Proofs.Ytnfjldobjgdiaaa
set_option linter.all false
open Go.RowKit
abbrev qat1 : List SOper := [Oa 3 (.box 29 (.t 0)), Oa 4 (.box 31 (.t 1)), Oa 6 (.mv (.c (.int .i64 0)))]
abbrev qat0 : List SOper := [Oa 7 (.mv (.c .nilsl))]
abbrev qatz : List SOper := [Oa 8 (.faddr 0 (.t 4)), Oa 9 (.load (.t 8))]
abbrev qaty : List SOper := [Oa 29 (.bin .eql (.t 9) (.c (.int .i64 (-3)))), Oa 28 (.mv (.t 29))]
abbrev qatx : List SOper := [Oa 30 (.mkrow 3 1 1 [(.int .i64 0)] [(0, (.c (.int .i64 16)))]), Oa 7 (.mv (.t 30))]
abbrev qatw : List SOper := [Oa 32 (.bin .eql (.t 9) (.c (.int .i64 (-1)))), Oa 31 (.mv (.t 32))]
abbrev qatv : List SOper := [Oa 33 (.faddr 1 (.t 3)), Oa 34 (.load (.t 33)), Oa 7 (.mv (.t 34))]
abbrev qatu : List SOper := [Oa 36 (.bin .eql (.t 9) (.c (.int .i64 (-2)))), Oa 35 (.mv (.t 36))]
abbrev qatt : List SOper := [Oa 37 (.mv (.t 2)), Oa 7 (.mv (.t 37))]
abbrev qano : List SOper := [Oa 10 (.faddr 0 (.t 4)), Oa 11 (.load (.t 10)), Oa 12 (.bin .geq (.t 11) (.c (.int .i64 0))), Oa 13 (.mv (.t 12)), Oe 14 (.faddr 0 (.t 4)) 13 true, Oe 15 (.load (.t 14)) 13 true, Oe 16 (.faddr 0 (.t 3)) 13 true, Oe 17 (.load (.t 16)) 13 true, Oe 18 (.len false (.t 17)) 13 true, Oe 19 (.bin .lss (.t 15) (.t 18)) 13 true, Oa 20 (.pick (.t 13) (.t 19) (.c (.bool false)))]
abbrev qann : List SOper := [Oa 21 (.faddr 0 (.t 3)), Oa 22 (.load (.t 21)), Oa 23 (.faddr 0 (.t 4)), Oa 24 (.load (.t 23)), Oa 25 (.iaddr 1 (.t 22) (.t 24)), Oa 26 (.faddr 0 (.t 25)), Oa 27 (.load (.t 26)), Oa 7 (.mv (.t 27))]
abbrev qanm : List SOper := [Oa 38 (.faddr 1 (.t 4)), Oa 39 (.load (.t 38)), Oa 40 (.bin .lss (.t 39) (.c (.int .i64 0))), Oa 41 (.mv (.t 40)), Oe 42 (.faddr 1 (.t 4)) 41 false, Oe 43 (.load (.t 42)) 41 false, Oe 44 (.mv (.t 7)) 41 false, Oe 45 (.len false (.t 44)) 41 false, Oe 46 (.bin .geq (.t 43) (.t 45)) 41 false, Oa 47 (.pick (.t 41) (.c (.bool true)) (.t 46))]
abbrev qanl : List SOper := [Oa 6 (.mv (.c (.int .i64 0)))]
abbrev qank : List SOper := [Oa 48 (.mv (.t 7)), Oa 49 (.faddr 1 (.t 4)), Oa 50 (.load (.t 49)), Oa 51 (.iaddr 1 (.t 48) (.t 50)), Oa 52 (.load (.t 51)), Oa 6 (.mv (.t 52))]
def c_rwidth : SCode := (.seq (.reg false qat1 [2, 3, 4]) (.seq (.reg false qat0 [2, 3, 4, 7]) (.seq (.seq (.reg false qatz [2, 3, 4, 7, 9]) (.block 0 (.seq (.reg false qaty [2, 3, 4, 7, 9, 28]) (.cond (.t 28) (.reg false qatx [4, 7]) (.seq (.reg false qatw [2, 3, 4, 7, 9, 31]) (.cond (.t 31) (.reg false qatv [4, 7]) (.seq (.reg false qatu [2, 3, 4, 7, 35]) (.cond (.t 35) (.reg false qatt [4, 7]) (.seq (.reg false qano [3, 4, 7, 20]) (.cond (.t 20) (.reg false qann [4, 7]) .skip)))))))))) (.seq (.seq (.reg false qanm [4, 7, 47]) (.cond (.t 47) (.seq (.reg false qanl [6]) .ret) .skip)) (.seq (.reg false qank [6]) .ret)))))
theorem qajl : comp Try.prog 53 ((Try.f10.body).getD .skip) = some c_rwidth.erase := by kernel_rfl
abbrev qaus : List SOper := [Oa 2 (.mv (.c (.int .i64 0)))]
abbrev qaur : List SOper := [Oa 3 (.mv (.t 0)), Oa 4 (.bin .lss (.t 3) (.c (.int .i64 1))), Oa 5 (.mv (.t 4)), Oe 6 (.mv (.t 0)) 5 false, Oe 7 (.bin .gtr (.t 6) (.c (.int .i64 13))) 5 false, Oa 8 (.pick (.t 5) (.c (.bool true)) (.t 7))]
abbrev qauq : List SOper := [Oa 2 (.mv (.c (.int .i64 (-1))))]
abbrev qaup : List SOper := [Oa 9 (.mkrow 3 1 14 [(.int .i64 0)] [(0, (.c (.int .i64 0))), (1, (.c (.int .i64 0))), (2, (.c (.int .i64 0))), (3, (.c (.int .i64 2))), (4, (.c (.int .i64 2))), (5, (.c (.int .i64 2))), (6, (.c (.int .i64 2))), (7, (.c (.int .i64 2))), (8, (.c (.int .i64 2))), (9, (.c (.int .i64 2))), (10, (.c (.int .i64 2))), (11, (.c (.int .i64 2))), (12, (.c (.int .i64 2))), (13, (.c (.int .i64 1)))]), Oa 10 (.mv (.t 0)), Oa 11 (.iaddr 1 (.t 9) (.t 10)), Oa 12 (.load (.t 11)), Oa 2 (.mv (.t 12))]
def c_rtakes : SCode := (.seq (.reg false qaus [0]) (.seq (.seq (.reg false qaur [0, 8]) (.cond (.t 8) (.seq (.reg false qauq [2]) .ret) .skip)) (.seq (.reg false qaup [2]) .ret)))
theorem qajm : comp Try.prog 13 ((Try.f15.body).getD .skip) = some c_rtakes.erase := by kernel_rfl
abbrev qa6d : List SOper := [Oa 3 (.box 29 (.t 0)), Oa 6 (.mv (.c (.int .i64 0)))]
abbrev qa6c : List SOper := [Oa 10 (.mv (.t 1)), Oa 11 (.len false (.t 10)), Oa 12 (.bin .gtr (.t 11) (.c (.int .i64 8)))]
abbrev qa6b : List SOper := [Oa 6 (.mv (.c (.int .i64 2)))]
abbrev qa6a : List SOper := [Oa 7 (.mv (.c (.int .i64 0)))]
abbrev qa59 : List SOper := [Oa 8 (.mv (.c (.int .i64 0)))]
abbrev qa58 : List SOper := [Oa 13 (.mv (.t 8)), Oa 14 (.mv (.t 1)), Oa 15 (.len false (.t 14)), Oa 16 (.bin .lss (.t 13) (.t 15))]
abbrev qa57 : List SOper := [Oa 19 (.mv (.t 1)), Oa 20 (.mv (.t 8)), Oa 21 (.iaddr 4 (.t 19) (.t 20)), Oa 22 (.faddr 0 (.t 21)), Oa 23 (.load (.t 22)), Oc 24 15 [(.t 23)], Oa 9 (.mv (.t 24))]
abbrev qa56 : List SOper := [Oa 25 (.mv (.t 9)), Oa 26 (.bin .lss (.t 25) (.c (.int .i64 0))), Oa 27 (.mv (.t 26)), Oe 28 (.mv (.t 9)) 27 false, Oe 29 (.mv (.t 7)) 27 false, Oe 30 (.bin .gtr (.t 28) (.t 29)) 27 false, Oa 31 (.pick (.t 27) (.c (.bool true)) (.t 30))]
abbrev qa55 : List SOper := [Oa 6 (.mv (.c (.int .i64 13)))]
abbrev qax0 : List SOper := [Oa 32 (.mv (.t 1)), Oa 33 (.mv (.t 8)), Od 34 (.iaddr 4 (.t 32) (.t 33)) 3, Od 35 (.faddr 0 (.t 34)) 7, Od 36 (.load (.t 35)) 15, Od 37 (.bin .eql (.t 36) (.c (.int .i64 2))) 31, Od 38 (.mv (.t 37)) 63, Of 39 (.loads 7 (.t 3)) 38 true 127, Of 40 (.mv (.t 1)) 38 true 127, Of 41 (.mv (.t 8)) 38 true 127, Of 42 (.iaddr 4 (.t 40) (.t 41)) 38 true 895, Of 43 (.faddr 1 (.t 42)) 38 true 1919, Of 44 (.loads 2 (.t 43)) 38 true 3967, Of 45 (.mv (.t 2)) 38 true 127, ⟨(some 46), .mv (.c .any), some ((.c (.fn (.func 10) [] [])), [(.t 39), (.t 44), (.t 45)]), (some (38, true)), 16383⟩, Of 47 (.bin .eql (.t 46) (.c (.int .i64 0))) 38 true 32767, Od 48 (.pick (.t 38) (.t 47) (.c (.bool false))) 65535]
abbrev qaxz : List SOper := [Oa 6 (.mv (.c (.int .i64 1)))]
abbrev qaxy : List SOper := [Oa 49 (.mv (.t 7)), Oa 50 (.mv (.t 9)), Oa 51 (.bin .sub (.t 49) (.t 50)), Oa 52 (.bin .add (.t 51) (.c (.int .i64 1))), Oa 7 (.mv (.t 52))]
abbrev qaxx : List SOper := [Oa 17 (.mv (.t 8)), Oa 18 (.bin .add (.t 17) (.c (.int .i64 1))), Oa 8 (.mv (.t 18))]
def qaks : SCode := (.seq (.seq (.reg false qa58 [1, 2, 3, 7, 8, 16]) (.cond (.t 16) .skip (.exit 0))) (.seq (.block 1 (.seq (.reg false qa57 [1, 2, 3, 7, 8, 9]) (.seq (.seq (.reg false qa56 [1, 2, 3, 7, 8, 9, 31]) (.cond (.t 31) (.seq (.reg false qa55 [6]) .ret) .skip)) (.seq (.seq (.reg true qax0 [1, 2, 3, 7, 8, 9, 48]) (.cond (.t 48) (.seq (.reg false qaxz [6]) .ret) .skip)) (.reg false qaxy [1, 2, 3, 7, 8]))))) (.reg false qaxx [1, 2, 3, 7, 8])))
abbrev qaxw : List SOper := [Oa 53 (.mv (.t 7)), Oa 54 (.bin .neq (.t 53) (.c (.int .i64 1)))]
abbrev qaxv : List SOper := [Oa 6 (.mv (.c (.int .i64 13)))]
abbrev qaxu : List SOper := [Oa 6 (.mv (.c (.int .i64 0)))]
def c_rexpr : SCode := (.seq (.reg false qa6d [1, 2, 3]) (.seq (.seq (.reg false qa6c [1, 2, 3, 12]) (.cond (.t 12) (.seq (.reg false qa6b [6]) .ret) .skip)) (.seq (.reg false qa6a [1, 2, 3, 7]) (.seq (.seq (.reg false qa59 [1, 2, 3, 7, 8]) (.block 0 (.loop qaks))) (.seq (.seq (.reg false qaxw [54]) (.cond (.t 54) (.seq (.reg false qaxv [6]) .ret) .skip)) (.seq (.reg false qaxu [6]) .ret))))))
theorem qamk : comp Try.prog 55 ((Try.f73.body).getD .skip) = some c_rexpr.erase := by kernel_rfl
abbrev qa5v : List SOper := [Oa 2 (.box 29 (.t 0)), Oa 4 (.mv (.c (.bool false)))]
abbrev qa5u : List SOper := [Oa 5 (.mv (.t 1)), Oa 6 (.bin .geq (.t 5) (.c (.int .i64 0))), Oa 7 (.mv (.t 6)), Oe 8 (.mv (.t 1)) 7 true, Oe 9 (.faddr 0 (.t 2)) 7 true, Oe 10 (.load (.t 9)) 7 true, Oe 11 (.len false (.t 10)) 7 true, Oe 12 (.bin .lss (.t 8) (.t 11)) 7 true, Oa 13 (.pick (.t 7) (.t 12) (.c (.bool false))), Oa 4 (.mv (.t 13))]
def c_rhead : SCode := (.seq (.reg false qa5v [1, 2]) (.seq (.reg false qa5u [4]) .ret))
theorem qami : comp Try.prog 14 ((Try.f46.body).getD .skip) = some c_rhead.erase := by kernel_rfl
abbrev qbaj : List SOper := [Oa 2 (.box 29 (.t 0)), Oa 3 (.box 31 (.t 1)), Oa 4 (.mv (.c (.bool false)))]
abbrev qbai : List SOper := [Oa 5 (.faddr 0 (.t 3)), Oa 6 (.load (.t 5)), Oa 7 (.bin .geq (.t 6) (.c (.int .i64 (-1)))), Oa 8 (.mv (.t 7)), Oe 9 (.loads 7 (.t 2)) 8 true, Oe 10 (.loads 2 (.t 3)) 8 true, ⟨(some 11), .mv (.c .any), some ((.c (.fn (.func 10) [] [])), [(.t 9), (.t 10), (.c .nilsl)]), (some (8, true)), 0⟩, Oe 12 (.bin .gtr (.t 11) (.c (.int .i64 0))) 8 true, Oa 13 (.pick (.t 8) (.t 12) (.c (.bool false))), Oa 4 (.mv (.t 13))]
def c_rmay : SCode := (.seq (.reg false qbaj [2, 3]) (.seq (.reg false qbai [4]) .ret))
theorem qaq9 : comp Try.prog 14 ((Try.f89.body).getD .skip) = some c_rmay.erase := by kernel_rfl
abbrev qa6m : List SOper := [Oa 3 (.box 29 (.t 0)), Oa 4 (.box 71 (.t 1)), Oa 6 (.mv (.c (.int .i64 0)))]
abbrev qa6l : List SOper := [Oa 7 (.faddr 0 (.t 4)), Oa 8 (.load (.t 7))]
abbrev qa6k : List SOper := [Oa 10 (.bin .eql (.t 8) (.c (.int .i64 1))), Oa 9 (.mv (.t 10))]
abbrev qa6j : List SOper := [Oa 11 (.loads 7 (.t 3)), Oa 12 (.faddr 1 (.t 4)), Oa 13 (.loads 2 (.t 12)), Oc 14 89 [(.t 11), (.t 13)], Oa 15 (.un .not (.t 14))]
abbrev qa6i : List SOper := [Oa 6 (.mv (.c (.int .i64 1)))]
abbrev qa6h : List SOper := [Oa 16 (.loads 7 (.t 3)), Oa 17 (.faddr 4 (.t 4)), Oa 18 (.load (.t 17)), Oa 19 (.mv (.t 2)), Oc 20 73 [(.t 16), (.t 18), (.t 19)], Oa 6 (.mv (.t 20))]
abbrev qa6g : List SOper := [Oa 22 (.bin .eql (.t 8) (.c (.int .i64 2))), Oa 21 (.mv (.t 22))]
abbrev qa6f : List SOper := [Oa 23 (.bin .eql (.t 8) (.c (.int .i64 3))), Oa 21 (.mv (.t 23))]
abbrev qa6e : List SOper := [Oa 24 (.loads 7 (.t 3)), Oa 25 (.faddr 3 (.t 4)), Oa 26 (.load (.t 25)), Oc 27 46 [(.t 24), (.t 26)], Oa 28 (.un .not (.t 27))]
abbrev qax9 : List SOper := [Oa 6 (.mv (.c (.int .i64 1)))]
abbrev qax8 : List SOper := [Oa 30 (.bin .eql (.t 8) (.c (.int .i64 4))), Oa 29 (.mv (.t 30))]
abbrev qax7 : List SOper := [Oa 32 (.bin .eql (.t 8) (.c (.int .i64 5))), Oa 31 (.mv (.t 32))]
abbrev qax6 : List SOper := [Oa 33 (.loads 7 (.t 3)), Oa 34 (.faddr 4 (.t 4)), Oa 35 (.load (.t 34)), Oa 36 (.mv (.t 2)), Oc 37 73 [(.t 33), (.t 35), (.t 36)], Oa 6 (.mv (.t 37))]
abbrev qax5 : List SOper := [Oa 39 (.bin .eql (.t 8) (.c (.int .i64 6))), Oa 38 (.mv (.t 39))]
abbrev qax4 : List SOper := [Oa 40 (.loads 7 (.t 3)), Oa 41 (.faddr 1 (.t 4)), Oa 42 (.loads 2 (.t 41)), Oc 43 89 [(.t 40), (.t 42)], Oa 44 (.un .not (.t 43)), Oa 45 (.mv (.t 44)), Oe 46 (.loads 7 (.t 3)) 45 false, Oe 47 (.faddr 3 (.t 4)) 45 false, Oe 48 (.load (.t 47)) 45 false, ⟨(some 49), .mv (.c .any), some ((.c (.fn (.func 46) [] [])), [(.t 46), (.t 48)]), (some (45, false)), 0⟩, Oe 50 (.un .not (.t 49)) 45 false, Oa 51 (.pick (.t 45) (.c (.bool true)) (.t 50))]
abbrev qax3 : List SOper := [Oa 6 (.mv (.c (.int .i64 1)))]
abbrev qax2 : List SOper := [Oa 6 (.mv (.c (.int .i64 5)))]
abbrev qax1 : List SOper := [Oa 6 (.mv (.c (.int .i64 0)))]
def c_rdeed : SCode := (.seq (.reg false qa6m [2, 3, 4]) (.seq (.seq (.reg false qa6l [2, 3, 4, 8]) (.block 0 (.seq (.reg false qa6k [2, 3, 4, 8, 9]) (.cond (.t 9) (.seq (.seq (.reg false qa6j [2, 3, 4, 15]) (.cond (.t 15) (.seq (.reg false qa6i [6]) .ret) .skip)) (.seq (.reg false qa6h [6]) .ret)) (.seq (.seq (.reg false qa6g [2, 3, 4, 8, 21]) (.cond (.t 21) .skip (.reg false qa6f [2, 3, 4, 8, 21]))) (.cond (.t 21) (.seq (.reg false qa6e [28]) (.cond (.t 28) (.seq (.reg false qax9 [6]) .ret) .skip)) (.seq (.reg false qax8 [2, 3, 4, 8, 29]) (.cond (.t 29) .skip (.seq (.reg false qax7 [2, 3, 4, 8, 31]) (.cond (.t 31) (.seq (.reg false qax6 [6]) .ret) (.seq (.reg false qax5 [3, 4, 38]) (.cond (.t 38) (.seq (.reg false qax4 [51]) (.cond (.t 51) (.seq (.reg false qax3 [6]) .ret) .skip)) (.seq (.reg false qax2 [6]) .ret))))))))))))) (.seq (.reg false qax1 [6]) .ret)))
theorem qaml : comp Try.prog 52 ((Try.f71.body).getD .skip) = some c_rdeed.erase := by kernel_rfl
abbrev qa5s : List SOper := [Oa 3 (.box 29 (.t 0)), Oa 6 (.mv (.c (.int .i64 0)))]
abbrev qa5r : List SOper := [Oa 7 (.mv (.t 2)), Oa 8 (.bin .eql (.t 7) (.c (.int .i64 1000))), Oa 9 (.mv (.t 8)), Oe 10 (.mv (.t 2)) 9 false, Oe 11 (.bin .eql (.t 10) (.c (.int .i64 1001))) 9 false, Oa 12 (.pick (.t 9) (.c (.bool true)) (.t 11))]
abbrev qa5q : List SOper := [Oa 6 (.mv (.c (.int .i64 0)))]
abbrev qa5p : List SOper := [Oa 13 (.mv (.t 2)), Oa 14 (.bin .lss (.t 13) (.c (.int .i64 0))), Oa 15 (.mv (.t 14)), Oe 16 (.mv (.t 2)) 15 false, Oe 17 (.faddr 2 (.t 3)) 15 false, Oe 18 (.load (.t 17)) 15 false, Oe 19 (.len false (.t 18)) 15 false, Oe 20 (.bin .geq (.t 16) (.t 19)) 15 false, Oa 21 (.pick (.t 15) (.c (.bool true)) (.t 20))]
abbrev qa5o : List SOper := [Oa 6 (.mv (.c (.int .i64 1)))]
abbrev qa5n : List SOper := [Oa 22 (.mv (.t 2)), Oa 23 (.mv (.t 1)), Oa 24 (.bin .leq (.t 22) (.t 23))]
abbrev qa5m : List SOper := [Oa 6 (.mv (.c (.int .i64 11)))]
abbrev qa5l : List SOper := [Oa 6 (.mv (.c (.int .i64 0)))]
def c_rlead : SCode := (.seq (.reg false qa5s [1, 2, 3]) (.seq (.seq (.reg false qa5r [1, 2, 3, 12]) (.cond (.t 12) (.seq (.reg false qa5q [6]) .ret) .skip)) (.seq (.seq (.reg false qa5p [1, 2, 21]) (.cond (.t 21) (.seq (.reg false qa5o [6]) .ret) .skip)) (.seq (.seq (.reg false qa5n [24]) (.cond (.t 24) (.seq (.reg false qa5m [6]) .ret) .skip)) (.seq (.reg false qa5l [6]) .ret)))))
theorem qamh : comp Try.prog 25 ((Try.f70.body).getD .skip) = some c_rlead.erase := by kernel_rfl
abbrev qava : List SOper := [Oa 2 (.box 29 (.t 0)), Oa 4 (.mv (.c (.int .i64 0)))]
abbrev qau9 : List SOper := [Oa 10 (.faddr 2 (.t 2)), Oa 11 (.load (.t 10)), Oa 12 (.mv (.t 1)), Oa 13 (.iaddr 5 (.t 11) (.t 12)), Oa 14 (.loads 5 (.t 13)), Oa 5 (.alloc 65 [(.int .i64 0), (.int .i64 0), (.int .i64 0), .nilsl, (.int .i64 0)]), Ob (.store 5 (.t 5) (.t 14))]
abbrev qau8 : List SOper := [Oa 15 (.faddr 0 (.t 5)), Oa 16 (.load (.t 15)), Oa 17 (.bin .neq (.t 16) (.c (.int .i64 (-1)))), Oa 18 (.mv (.t 17)), Oe 19 (.loads 7 (.t 2)) 18 true, Oe 20 (.faddr 0 (.t 5)) 18 true, Oe 21 (.load (.t 20)) 18 true, ⟨(some 22), .mv (.c .any), some ((.c (.fn (.func 46) [] [])), [(.t 19), (.t 21)]), (some (18, true)), 0⟩, Oe 23 (.un .not (.t 22)) 18 true, Oa 24 (.pick (.t 18) (.t 23) (.c (.bool false)))]
abbrev qau7 : List SOper := [Oa 4 (.mv (.c (.int .i64 1)))]
abbrev qau6 : List SOper := [Oa 25 (.faddr 3 (.t 5)), Oa 26 (.load (.t 25)), Oa 27 (.len false (.t 26)), Oa 28 (.bin .gtr (.t 27) (.c (.int .i64 4)))]
abbrev qau5 : List SOper := [Oa 4 (.mv (.c (.int .i64 2)))]
abbrev qau4 : List SOper := [Oa 29 (.loads 7 (.t 2)), Oa 30 (.faddr 1 (.t 5)), Oa 31 (.loads 2 (.t 30)), Oc 32 10 [(.t 29), (.t 31), (.c .nilsl)], Oa 6 (.mv (.t 32))]
abbrev qau3 : List SOper := [Oa 33 (.faddr 3 (.t 5)), Oa 34 (.load (.t 33)), Oa 35 (.len false (.t 34)), Oa 36 (.bin .gtr (.t 35) (.c (.int .i64 0))), Oa 37 (.mv (.t 36)), Oe 38 (.mv (.t 6)) 37 true, Oe 39 (.bin .eql (.t 38) (.c (.int .i64 0))) 37 true, Oa 40 (.pick (.t 37) (.t 39) (.c (.bool false)))]
abbrev qau2 : List SOper := [Oa 4 (.mv (.c (.int .i64 1)))]
abbrev qan6 : List SOper := [Oa 7 (.mv (.c (.int .i64 0)))]
abbrev qan5 : List SOper := [Oa 41 (.mv (.t 7)), Oa 42 (.faddr 3 (.t 5)), Oa 43 (.load (.t 42)), Oa 44 (.len false (.t 43)), Oa 45 (.bin .lss (.t 41) (.t 44))]
abbrev qan4 : List SOper := [Oa 48 (.faddr 3 (.t 5)), Oa 49 (.load (.t 48)), Oa 50 (.mv (.t 7)), Oa 51 (.iaddr 3 (.t 49) (.t 50)), Oa 52 (.loads 3 (.t 51)), Oa 8 (.alloc 95 [(.int .u64 0), (.int .u64 0), (.int .i64 0)]), Ob (.store 3 (.t 8) (.t 52))]
abbrev qan3 : List SOper := [Oa 53 (.faddr 1 (.t 8)), Oa 54 (.load (.t 53)), Oa 55 (.mv (.t 6)), Oc 56 69 [(.t 54), (.t 55)], Oa 57 (.mv (.t 56)), Oe 58 (.faddr 0 (.t 8)) 57 false, Oe 59 (.load (.t 58)) 57 false, Oe 60 (.faddr 1 (.t 8)) 57 false, Oe 61 (.load (.t 60)) 57 false, Oe 62 (.bin .and (.t 59) (.t 61)) 57 false, Oe 63 (.faddr 0 (.t 8)) 57 false, Oe 64 (.load (.t 63)) 57 false, Oe 65 (.bin .neq (.t 62) (.t 64)) 57 false, Oa 66 (.pick (.t 57) (.c (.bool true)) (.t 65))]
abbrev qan2 : List SOper := [Oa 4 (.mv (.c (.int .i64 6)))]
abbrev qan1 : List SOper := [Oa 67 (.loads 7 (.t 2)), Oa 68 (.mv (.t 1)), Oa 69 (.faddr 2 (.t 8)), Oa 70 (.load (.t 69)), Oc 71 70 [(.t 67), (.t 68), (.t 70)], Oa 9 (.mv (.t 71))]
abbrev qan0 : List SOper := [Oa 72 (.mv (.t 9)), Oa 73 (.bin .neq (.t 72) (.c (.int .i64 0)))]
abbrev qanz : List SOper := [Oa 74 (.mv (.t 9)), Oa 4 (.mv (.t 74))]
abbrev qany : List SOper := [Oa 46 (.mv (.t 7)), Oa 47 (.bin .add (.t 46) (.c (.int .i64 1))), Oa 7 (.mv (.t 47))]
def c_rstate_l1 : SCode := (.seq (.seq (.reg false qan5 [1, 2, 5, 6, 7, 45]) (.cond (.t 45) .skip (.exit 0))) (.seq (.block 1 (.seq (.reg false qan4 [1, 2, 5, 6, 7, 8]) (.seq (.seq (.reg false qan3 [1, 2, 5, 6, 7, 8, 66]) (.cond (.t 66) (.seq (.reg false qan2 [4]) .ret) .skip)) (.seq (.reg false qan1 [1, 2, 5, 6, 7, 9]) (.seq (.reg false qan0 [1, 2, 5, 6, 7, 9, 73]) (.cond (.t 73) (.seq (.reg false qanz [4]) .ret) .skip)))))) (.reg false qany [1, 2, 5, 6, 7])))
abbrev qagz : List SOper := [Oa 75 (.loads 7 (.t 2)), Oa 76 (.mv (.t 1)), Oa 77 (.faddr 4 (.t 5)), Oa 78 (.load (.t 77)), Oc 79 70 [(.t 75), (.t 76), (.t 78)], Oa 4 (.mv (.t 79))]
def c_rstate : SCode := (.seq (.reg false qava [1, 2]) (.seq (.reg false qau9 [1, 2, 5]) (.seq (.seq (.reg false qau8 [1, 2, 5, 24]) (.cond (.t 24) (.seq (.reg false qau7 [4]) .ret) .skip)) (.seq (.seq (.reg false qau6 [1, 2, 5, 28]) (.cond (.t 28) (.seq (.reg false qau5 [4]) .ret) .skip)) (.seq (.reg false qau4 [1, 2, 5, 6]) (.seq (.seq (.reg false qau3 [1, 2, 5, 6, 40]) (.cond (.t 40) (.seq (.reg false qau2 [4]) .ret) .skip)) (.seq (.seq (.reg false qan6 [1, 2, 5, 6, 7]) (.block 0 (.loop c_rstate_l1))) (.seq (.reg false qagz [4]) .ret))))))))
theorem qajo : comp Try.prog 80 ((Try.f41.body).getD .skip) = some c_rstate.erase := by kernel_rfl
abbrev qbau : List SOper := [Oa 2 (.box 29 (.t 0)), Oa 3 (.box 68 (.t 1)), Oa 4 (.mv (.c (.int .i64 0)))]
abbrev qbat : List SOper := [Oa 8 (.faddr 0 (.t 3)), Oa 9 (.load (.t 8)), Oa 10 (.len false (.t 9)), Oa 11 (.bin .gtr (.t 10) (.c (.int .i64 3))), Oa 12 (.mv (.t 11)), Oe 13 (.faddr 1 (.t 3)) 12 false, Oe 14 (.load (.t 13)) 12 false, Oe 15 (.len false (.t 14)) 12 false, Oe 16 (.bin .gtr (.t 15) (.c (.int .i64 5))) 12 false, Oa 17 (.pick (.t 12) (.c (.bool true)) (.t 16))]
abbrev qbas : List SOper := [Oa 4 (.mv (.c (.int .i64 2)))]
abbrev qbar : List SOper := [Oa 5 (.mv (.c (.int .i64 0)))]
abbrev qbaq : List SOper := [Oa 18 (.mv (.t 5)), Oa 19 (.faddr 0 (.t 3)), Oa 20 (.load (.t 19)), Oa 21 (.len false (.t 20)), Oa 22 (.bin .lss (.t 18) (.t 21))]
abbrev qbap : List SOper := [Oa 25 (.faddr 0 (.t 3)), Oa 26 (.load (.t 25)), Oa 27 (.mv (.t 5)), Oa 28 (.iaddr 1 (.t 26) (.t 27)), Oa 29 (.load (.t 28)), Oa 30 (.bin .lss (.t 29) (.c (.int .i64 1))), Oa 31 (.mv (.t 30)), Oe 32 (.faddr 0 (.t 3)) 31 false, Oe 33 (.load (.t 32)) 31 false, Oe 34 (.mv (.t 5)) 31 false, Oe 35 (.iaddr 1 (.t 33) (.t 34)) 31 false, Oe 36 (.load (.t 35)) 31 false, Oe 37 (.bin .gtr (.t 36) (.c (.int .i64 48))) 31 false, Oa 38 (.pick (.t 31) (.c (.bool true)) (.t 37))]
abbrev qbao : List SOper := [Oa 4 (.mv (.c (.int .i64 6)))]
abbrev qban : List SOper := [Oa 23 (.mv (.t 5)), Oa 24 (.bin .add (.t 23) (.c (.int .i64 1))), Oa 5 (.mv (.t 24))]
def qaqi : SCode := (.seq (.seq (.reg false qbaq [2, 3, 5, 22]) (.cond (.t 22) .skip (.exit 0))) (.seq (.block 1 (.seq (.reg false qbap [2, 3, 5, 38]) (.cond (.t 38) (.seq (.reg false qbao [4]) .ret) .skip))) (.reg false qban [2, 3, 5])))
abbrev qbam : List SOper := [Oa 6 (.mv (.c (.int .i64 0)))]
abbrev qa6s : List SOper := [Oa 39 (.mv (.t 6)), Oa 40 (.faddr 1 (.t 3)), Oa 41 (.load (.t 40)), Oa 42 (.len false (.t 41)), Oa 43 (.bin .lss (.t 39) (.t 42))]
abbrev qa6r : List SOper := [Oa 46 (.loads 7 (.t 2)), Oa 47 (.faddr 1 (.t 3)), Od 48 (.load (.t 47)) 2, Oa 49 (.mv (.t 6)), Od 50 (.iaddr 5 (.t 48) (.t 49)) 14, Od 51 (.loads 5 (.t 50)) 30, Oa 52 (.faddr 0 (.t 3)), Od 53 (.load (.t 52)) 64, ⟨(some 54), .mv (.c .any), some ((.c (.fn (.func 71) [] [])), [(.t 46), (.t 51), (.t 53)]), none, 255⟩, Od 7 (.mv (.t 54)) 511]
abbrev qa6q : List SOper := [Oa 55 (.mv (.t 7)), Oa 56 (.bin .neq (.t 55) (.c (.int .i64 0)))]
abbrev qa6p : List SOper := [Oa 57 (.mv (.t 7)), Oa 4 (.mv (.t 57))]
abbrev qa6o : List SOper := [Oa 44 (.mv (.t 6)), Oa 45 (.bin .add (.t 44) (.c (.int .i64 1))), Oa 6 (.mv (.t 45))]
def qaqh : SCode := (.seq (.seq (.reg false qa6s [2, 3, 6, 43]) (.cond (.t 43) .skip (.exit 2))) (.seq (.block 3 (.seq (.reg true qa6r [2, 3, 6, 7]) (.seq (.reg false qa6q [2, 3, 6, 7, 56]) (.cond (.t 56) (.seq (.reg false qa6p [4]) .ret) .skip)))) (.reg false qa6o [2, 3, 6])))
abbrev qa6n : List SOper := [Oa 4 (.mv (.c (.int .i64 0)))]
def c_ract : SCode := (.seq (.reg false qbau [2, 3]) (.seq (.seq (.reg false qbat [2, 3, 17]) (.cond (.t 17) (.seq (.reg false qbas [4]) .ret) .skip)) (.seq (.seq (.reg false qbar [2, 3, 5]) (.block 0 (.loop qaqi))) (.seq (.seq (.reg false qbam [2, 3, 6]) (.block 2 (.loop qaqh))) (.seq (.reg false qa6n [4]) .ret)))))
theorem qarb : comp Try.prog 58 ((Try.f42.body).getD .skip) = some c_ract.erase := by kernel_rfl
abbrev qanj : List SOper := [Oa 2 (.box 29 (.t 0)), Oa 3 (.box 35 (.t 1)), Oa 4 (.mv (.c .nilsl))]
abbrev qani : List SOper := [Oa 5 (.mv (.c .nilsl))]
abbrev qanh : List SOper := [Oa 6 (.mv (.c (.int .i64 0)))]
abbrev qang : List SOper := [Oa 7 (.mv (.t 6)), Oa 8 (.faddr 1 (.t 3)), Oa 9 (.load (.t 8)), Oa 10 (.len false (.t 9)), Oa 11 (.bin .lss (.t 7) (.t 10))]
abbrev qanf : List SOper := [Oa 14 (.mv (.t 5)), Oa 15 (.loads 7 (.t 2)), Oa 16 (.faddr 1 (.t 3)), Od 17 (.load (.t 16)) 4, Oa 18 (.mv (.t 6)), Od 19 (.iaddr 2 (.t 17) (.t 18)) 28, Od 20 (.loads 2 (.t 19)) 60, ⟨(some 21), .mv (.c .any), some ((.c (.fn (.func 10) [] [])), [(.t 15), (.t 20), (.c .nilsl)]), none, 126⟩, Od 22 (.mkrow 3 1 1 [(.int .i64 0)] [(0, (.t 21))]) 254, Od 23 (.app 3 1 8 (.t 14) (.t 22)) 511, Od 5 (.mv (.t 23)) 1023]
abbrev qane : List SOper := [Oa 12 (.mv (.t 6)), Oa 13 (.bin .add (.t 12) (.c (.int .i64 1))), Oa 6 (.mv (.t 13))]
def qagy : SCode := (.seq (.seq (.reg false qang [2, 3, 5, 6, 11]) (.cond (.t 11) .skip (.exit 0))) (.seq (.block 1 (.reg true qanf [2, 3, 5, 6])) (.reg false qane [2, 3, 5, 6])))
abbrev qagx : List SOper := [Oa 24 (.mv (.t 5)), Oa 4 (.mv (.t 24))]
def c_rwidths : SCode := (.seq (.reg false qanj [2, 3]) (.seq (.reg false qani [2, 3, 5]) (.seq (.seq (.reg false qanh [2, 3, 5, 6]) (.block 0 (.loop qagy))) (.seq (.reg false qagx [4]) .ret))))
theorem qaim : comp Try.prog 25 ((Try.f13.body).getD .skip) = some c_rwidths.erase := by kernel_rfl
abbrev qa5k : List SOper := [Oa 2 (.box 29 (.t 0)), Oa 4 (.mv (.c (.int .i64 0)))]
abbrev qa5j : List SOper := [Oa 9 (.faddr 5 (.t 2)), Oa 10 (.load (.t 9)), Oa 11 (.mv (.t 1)), Oa 12 (.iaddr 5 (.t 10) (.t 11)), Oa 13 (.loads 5 (.t 12)), Oa 5 (.alloc 73 [(.int .i64 0), (.int .i64 0), .nilsl, (.int .i64 0), (.int .i64 0)]), Ob (.store 5 (.t 5) (.t 13))]
abbrev qa5i : List SOper := [Oa 6 (.mv (.c (.int .i64 0)))]
abbrev qa5h : List SOper := [Oa 14 (.faddr 3 (.t 5)), Oa 15 (.load (.t 14)), Oa 16 (.mkrow 3 1 1 [(.int .i64 0)] [(0, (.t 15))]), Oa 7 (.mv (.t 16))]
abbrev qa5g : List SOper := [Oa 17 (.faddr 0 (.t 5)), Oa 18 (.load (.t 17))]
abbrev qa5f : List SOper := [Oa 20 (.bin .eql (.t 18) (.c (.int .i64 1))), Oa 19 (.mv (.t 20))]
abbrev qa5e : List SOper := [Oa 21 (.faddr 1 (.t 5)), Oa 22 (.load (.t 21)), Oa 23 (.bin .lss (.t 22) (.c (.int .i64 0))), Oa 24 (.mv (.t 23)), Oe 25 (.faddr 1 (.t 5)) 24 false, Oe 26 (.load (.t 25)) 24 false, Oe 27 (.faddr 4 (.t 2)) 24 false, Oe 28 (.load (.t 27)) 24 false, Oe 29 (.len false (.t 28)) 24 false, Oe 30 (.bin .geq (.t 26) (.t 29)) 24 false, Oa 31 (.pick (.t 24) (.c (.bool true)) (.t 30))]
abbrev qa5d : List SOper := [Oa 6 (.mv (.c (.int .i64 1)))]
abbrev qa5c : List SOper := [Oa 33 (.bin .eql (.t 18) (.c (.int .i64 2))), Oa 32 (.mv (.t 33))]
abbrev qav1 : List SOper := [Oa 34 (.faddr 1 (.t 5)), Oa 35 (.load (.t 34)), Oa 36 (.bin .lss (.t 35) (.c (.int .i64 0))), Oa 37 (.mv (.t 36)), Oe 38 (.faddr 1 (.t 5)) 37 false, Oe 39 (.load (.t 38)) 37 false, Oe 40 (.faddr 3 (.t 2)) 37 false, Oe 41 (.load (.t 40)) 37 false, Oe 42 (.len false (.t 41)) 37 false, Oe 43 (.bin .geq (.t 39) (.t 42)) 37 false, Oa 44 (.pick (.t 37) (.c (.bool true)) (.t 43))]
abbrev qav0 : List SOper := [Oa 6 (.mv (.c (.int .i64 1)))]
abbrev qavz : List SOper := [Oa 45 (.faddr 3 (.t 2)), Oa 46 (.load (.t 45)), Oa 47 (.faddr 1 (.t 5)), Oa 48 (.load (.t 47)), Oa 49 (.iaddr 2 (.t 46) (.t 48)), Oa 50 (.faddr 0 (.t 49)), Oa 51 (.load (.t 50)), Oa 52 (.len false (.t 51)), Oa 53 (.bin .gtr (.t 52) (.c (.int .i64 0)))]
abbrev qavy : List SOper := [Oa 6 (.mv (.c (.int .i64 2)))]
abbrev qavx : List SOper := [Oa 55 (.bin .eql (.t 18) (.c (.int .i64 3))), Oa 54 (.mv (.t 55))]
abbrev qavw : List SOper := [Oa 56 (.loads 7 (.t 2)), Oa 57 (.faddr 2 (.t 5)), Oa 58 (.load (.t 57)), Oc 59 73 [(.t 56), (.t 58), (.c .nilsl)], Oa 6 (.mv (.t 59))]
abbrev qavv : List SOper := [Oa 60 (.faddr 3 (.t 5)), Oa 61 (.load (.t 60)), Oa 62 (.faddr 4 (.t 5)), Oa 63 (.load (.t 62)), Oa 64 (.mkrow 3 1 2 [(.int .i64 0)] [(0, (.t 61)), (1, (.t 63))]), Oa 7 (.mv (.t 64))]
abbrev qavu : List SOper := [Oa 66 (.bin .eql (.t 18) (.c (.int .i64 4))), Oa 65 (.mv (.t 66))]
abbrev qavt : List SOper := [Oa 67 (.loads 7 (.t 2)), Oa 68 (.faddr 1 (.t 5)), Oa 69 (.load (.t 68)), Oc 70 46 [(.t 67), (.t 69)], Oa 71 (.un .not (.t 70))]
abbrev qavs : List SOper := [Oa 6 (.mv (.c (.int .i64 1)))]
abbrev qavr : List SOper := [Oa 72 (.faddr 3 (.t 5)), Oa 73 (.load (.t 72)), Oa 74 (.faddr 4 (.t 5)), Oa 75 (.load (.t 74)), Oa 76 (.mkrow 3 1 2 [(.int .i64 0)] [(0, (.t 73)), (1, (.t 75))]), Oa 7 (.mv (.t 76))]
abbrev qavq : List SOper := [Oa 6 (.mv (.c (.int .i64 5)))]
abbrev qavp : List SOper := [Oa 8 (.mv (.c (.int .i64 0)))]
abbrev qavo : List SOper := [Oa 77 (.mv (.t 8)), Oa 78 (.mv (.t 7)), Oa 79 (.len false (.t 78)), Oa 80 (.bin .lss (.t 77) (.t 79)), Oa 81 (.mv (.t 80)), Oe 82 (.mv (.t 6)) 81 true, Oe 83 (.bin .eql (.t 82) (.c (.int .i64 0))) 81 true, Oa 84 (.pick (.t 81) (.t 83) (.c (.bool false)))]
abbrev qavn : List SOper := [Oa 87 (.mv (.t 7)), Oa 88 (.mv (.t 8)), Od 89 (.iaddr 1 (.t 87) (.t 88)) 3, Od 90 (.load (.t 89)) 7, Od 91 (.bin .lss (.t 90) (.c (.int .i64 0))) 15, Od 92 (.mv (.t 91)) 31, Of 93 (.mv (.t 7)) 92 false 63, Of 94 (.mv (.t 8)) 92 false 63, Of 95 (.iaddr 1 (.t 93) (.t 94)) 92 false 255, Of 96 (.load (.t 95)) 92 false 511, Of 97 (.faddr 5 (.t 2)) 92 false 63, Of 98 (.load (.t 97)) 92 false 1087, Of 99 (.len false (.t 98)) 92 false 3135, Of 100 (.bin .gtr (.t 96) (.t 99)) 92 false 8191, Od 101 (.pick (.t 92) (.c (.bool true)) (.t 100)) 16383]
abbrev qavm : List SOper := [Oa 6 (.mv (.c (.int .i64 1)))]
abbrev qavl : List SOper := [Oa 102 (.mv (.t 7)), Oa 103 (.mv (.t 8)), Oa 104 (.iaddr 1 (.t 102) (.t 103)), Oa 105 (.load (.t 104)), Oa 106 (.mv (.t 1)), Oa 107 (.bin .leq (.t 105) (.t 106))]
abbrev qavk : List SOper := [Oa 6 (.mv (.c (.int .i64 11)))]
abbrev qavj : List SOper := [Oa 85 (.mv (.t 8)), Oa 86 (.bin .add (.t 85) (.c (.int .i64 1))), Oa 8 (.mv (.t 86))]
def qac0 : SCode := (.seq (.seq (.reg false qavo [1, 2, 6, 7, 8, 84]) (.cond (.t 84) .skip (.exit 1))) (.seq (.block 2 (.seq (.reg true qavn [1, 2, 6, 7, 8, 101]) (.cond (.t 101) (.reg false qavm [1, 2, 6, 7, 8]) (.seq (.reg false qavl [1, 2, 6, 7, 8, 107]) (.cond (.t 107) (.reg false qavk [1, 2, 6, 7, 8]) .skip))))) (.reg false qavj [1, 2, 6, 7, 8])))
abbrev qavi : List SOper := [Oa 108 (.mv (.t 6)), Oa 4 (.mv (.t 108))]
def c_rnode : SCode := (.seq (.reg false qa5k [1, 2]) (.seq (.reg false qa5j [1, 2, 5]) (.seq (.reg false qa5i [1, 2, 5, 6]) (.seq (.reg false qa5h [1, 2, 5, 6, 7]) (.seq (.seq (.reg false qa5g [1, 2, 5, 6, 7, 18]) (.block 0 (.seq (.reg false qa5f [1, 2, 5, 6, 7, 18, 19]) (.cond (.t 19) (.seq (.reg false qa5e [1, 2, 6, 7, 31]) (.cond (.t 31) (.reg false qa5d [1, 2, 6, 7]) .skip)) (.seq (.reg false qa5c [1, 2, 5, 6, 7, 18, 32]) (.cond (.t 32) (.seq (.reg false qav1 [1, 2, 5, 6, 7, 44]) (.cond (.t 44) (.reg false qav0 [1, 2, 6, 7]) (.seq (.reg false qavz [1, 2, 6, 7, 53]) (.cond (.t 53) (.reg false qavy [1, 2, 6, 7]) .skip)))) (.seq (.reg false qavx [1, 2, 5, 6, 7, 18, 54]) (.cond (.t 54) (.seq (.reg false qavw [1, 2, 5, 6]) (.reg false qavv [1, 2, 6, 7])) (.seq (.reg false qavu [1, 2, 5, 6, 7, 65]) (.cond (.t 65) (.seq (.seq (.reg false qavt [1, 2, 5, 6, 71]) (.cond (.t 71) (.reg false qavs [1, 2, 5, 6]) .skip)) (.reg false qavr [1, 2, 6, 7])) (.reg false qavq [1, 2, 6, 7]))))))))))) (.seq (.seq (.reg false qavp [1, 2, 6, 7, 8]) (.block 1 (.loop qac0))) (.seq (.reg false qavi [4]) .ret)))))))
theorem qamg : comp Try.prog 109 ((Try.f45.body).getD .skip) = some c_rnode.erase := by kernel_rfl
abbrev qa54 : List SOper := [Oa 1 (.box 29 (.t 0)), Oa 2 (.alloc 45 [(.int .i64 0), (.int .i64 0)])]
abbrev qa53 : List SOper := [Oa 18 (.faddr 0 (.t 1)), Oa 19 (.load (.t 18)), Oa 20 (.len false (.t 19)), Oa 21 (.bin .gtr (.t 20) (.c (.int .i64 6)))]
abbrev qa52 : List SOper := [Oc 22 39 [(.c (.int .i64 2)), (.c (.int .i64 (-1)))], Ob (.store 2 (.t 2) (.t 22))]
abbrev qa51 : List SOper := [Oa 3 (.mv (.c (.int .i64 0)))]
abbrev qa50 : List SOper := [Oa 23 (.mv (.t 3)), Oa 24 (.faddr 0 (.t 1)), Oa 25 (.load (.t 24)), Oa 26 (.len false (.t 25)), Oa 27 (.bin .lss (.t 23) (.t 26))]
abbrev qa5z : List SOper := [Oa 31 (.faddr 0 (.t 1)), Oa 32 (.load (.t 31)), Oa 33 (.mv (.t 3)), Oa 34 (.iaddr 1 (.t 32) (.t 33)), Oa 35 (.loads 1 (.t 34)), Oc 36 40 [(.t 35)], Oa 30 (.mv (.t 36)), Oa 37 (.extr (.t 30) 0), Oa 38 (.extr (.t 30) 1), Oa 5 (.alloc 45 [(.int .i64 0), (.int .i64 0)]), Oa 4 (.mv (.t 37)), Ob (.store 2 (.t 5) (.t 38))]
abbrev qa5y : List SOper := [Oa 39 (.faddr 0 (.t 5)), Oa 40 (.load (.t 39)), Oa 41 (.bin .neq (.t 40) (.c (.int .i64 0)))]
abbrev qa5x : List SOper := [Oa 42 (.faddr 0 (.t 5)), Oa 43 (.load (.t 42)), Oa 44 (.mv (.t 3)), Oa 45 (.bin .add (.c (.int .i64 1000)) (.t 44)), Oc 46 39 [(.t 43), (.t 45)], Ob (.store 2 (.t 2) (.t 46))]
abbrev qa5w : List SOper := [Oa 28 (.mv (.t 3)), Oa 29 (.bin .add (.t 28) (.c (.int .i64 1))), Oa 3 (.mv (.t 29))]
def qakr : SCode := (.seq (.seq (.reg false qa50 [1, 2, 3, 27]) (.cond (.t 27) .skip (.exit 0))) (.seq (.block 1 (.seq (.reg false qa5z [1, 2, 3, 5]) (.seq (.reg false qa5y [1, 2, 3, 5, 41]) (.cond (.t 41) (.seq (.reg false qa5x [2]) .ret) .skip)))) (.reg false qa5w [1, 2, 3])))
abbrev qaxt : List SOper := [Oa 47 (.faddr 1 (.t 1)), Oa 48 (.load (.t 47)), Oa 49 (.len false (.t 48)), Oa 50 (.bin .gtr (.t 49) (.c (.int .i64 4)))]
abbrev qaxs : List SOper := [Oc 51 39 [(.c (.int .i64 2)), (.c (.int .i64 (-2)))], Ob (.store 2 (.t 2) (.t 51))]
abbrev qaxr : List SOper := [Oa 6 (.mv (.c (.int .i64 0)))]
abbrev qaxq : List SOper := [Oa 52 (.mv (.t 6)), Oa 53 (.faddr 1 (.t 1)), Oa 54 (.load (.t 53)), Oa 55 (.len false (.t 54)), Oa 56 (.bin .lss (.t 52) (.t 55))]
abbrev qaxp : List SOper := [Oa 59 (.faddr 1 (.t 1)), Oa 60 (.load (.t 59)), Oa 61 (.mv (.t 6)), Oa 62 (.iaddr 1 (.t 60) (.t 61)), Oa 63 (.load (.t 62)), Oa 64 (.bin .lss (.t 63) (.c (.int .i64 1))), Oa 65 (.mv (.t 64)), Oe 66 (.faddr 1 (.t 1)) 65 false, Oe 67 (.load (.t 66)) 65 false, Oe 68 (.mv (.t 6)) 65 false, Oe 69 (.iaddr 1 (.t 67) (.t 68)) 65 false, Oe 70 (.load (.t 69)) 65 false, Oe 71 (.bin .gtr (.t 70) (.c (.int .i64 48))) 65 false, Oa 72 (.pick (.t 65) (.c (.bool true)) (.t 71))]
abbrev qaxo : List SOper := [Oa 73 (.mv (.t 6)), Oa 74 (.bin .add (.c (.int .i64 2000)) (.t 73)), Oc 75 39 [(.c (.int .i64 6)), (.t 74)], Ob (.store 2 (.t 2) (.t 75))]
abbrev qaxn : List SOper := [Oa 57 (.mv (.t 6)), Oa 58 (.bin .add (.t 57) (.c (.int .i64 1))), Oa 6 (.mv (.t 58))]
def qakq : SCode := (.seq (.seq (.reg false qaxq [1, 2, 6, 56]) (.cond (.t 56) .skip (.exit 2))) (.seq (.block 3 (.seq (.reg false qaxp [1, 2, 6, 72]) (.cond (.t 72) (.seq (.reg false qaxo [2]) .ret) .skip))) (.reg false qaxn [1, 2, 6])))
abbrev qaxm : List SOper := [Oa 76 (.faddr 2 (.t 1)), Oa 77 (.load (.t 76)), Oa 78 (.len false (.t 77)), Oa 79 (.bin .lss (.t 78) (.c (.int .i64 1))), Oa 80 (.mv (.t 79)), Oe 81 (.faddr 2 (.t 1)) 80 false, Oe 82 (.load (.t 81)) 80 false, Oe 83 (.len false (.t 82)) 80 false, Oe 84 (.bin .gtr (.t 83) (.c (.int .i64 8))) 80 false, Oa 85 (.pick (.t 80) (.c (.bool true)) (.t 84))]
abbrev qaxl : List SOper := [Oc 86 39 [(.c (.int .i64 2)), (.c (.int .i64 (-3)))], Ob (.store 2 (.t 2) (.t 86))]
abbrev qaxk : List SOper := [Oa 7 (.mv (.c (.int .i64 0)))]
abbrev qaxj : List SOper := [Oa 87 (.mv (.t 7)), Oa 88 (.faddr 2 (.t 1)), Oa 89 (.load (.t 88)), Oa 90 (.len false (.t 89)), Oa 91 (.bin .lss (.t 87) (.t 90))]
abbrev qaxi : List SOper := [Oa 94 (.loads 7 (.t 1)), Oa 95 (.mv (.t 7)), Oc 96 41 [(.t 94), (.t 95)], Oa 8 (.mv (.t 96))]
abbrev qaxh : List SOper := [Oa 97 (.mv (.t 8)), Oa 98 (.bin .neq (.t 97) (.c (.int .i64 0)))]
abbrev qaxg : List SOper := [Oa 99 (.mv (.t 8)), Oa 100 (.mv (.t 7)), Oa 101 (.bin .add (.c (.int .i64 3000)) (.t 100)), Oc 102 39 [(.t 99), (.t 101)], Ob (.store 2 (.t 2) (.t 102))]
abbrev qaxf : List SOper := [Oa 92 (.mv (.t 7)), Oa 93 (.bin .add (.t 92) (.c (.int .i64 1))), Oa 7 (.mv (.t 93))]
def qakp : SCode := (.seq (.seq (.reg false qaxj [1, 2, 7, 91]) (.cond (.t 91) .skip (.exit 4))) (.seq (.block 5 (.seq (.reg false qaxi [1, 2, 7, 8]) (.seq (.reg false qaxh [1, 2, 7, 8, 98]) (.cond (.t 98) (.seq (.reg false qaxg [2]) .ret) .skip)))) (.reg false qaxf [1, 2, 7])))
abbrev qaxe : List SOper := [Oa 103 (.faddr 3 (.t 1)), Oa 104 (.load (.t 103)), Oa 105 (.len false (.t 104)), Oa 106 (.bin .gtr (.t 105) (.c (.int .i64 8)))]
abbrev qaxd : List SOper := [Oc 107 39 [(.c (.int .i64 2)), (.c (.int .i64 (-4)))], Ob (.store 2 (.t 2) (.t 107))]
abbrev qaxc : List SOper := [Oa 9 (.mv (.c (.int .i64 0)))]
abbrev qaxb : List SOper := [Oa 108 (.mv (.t 9)), Oa 109 (.faddr 3 (.t 1)), Oa 110 (.load (.t 109)), Oa 111 (.len false (.t 110)), Oa 112 (.bin .lss (.t 108) (.t 111))]
abbrev qaxa : List SOper := [Oa 115 (.loads 7 (.t 1)), Oa 116 (.faddr 3 (.t 1)), Od 117 (.load (.t 116)) 2, Oa 118 (.mv (.t 9)), Od 119 (.iaddr 2 (.t 117) (.t 118)) 14, Od 120 (.loads 2 (.t 119)) 30, ⟨(some 121), .mv (.c .any), some ((.c (.fn (.func 42) [] [])), [(.t 115), (.t 120)]), none, 63⟩, Od 10 (.mv (.t 121)) 127]
abbrev qaw9 : List SOper := [Oa 122 (.mv (.t 10)), Oa 123 (.bin .neq (.t 122) (.c (.int .i64 0)))]
abbrev qaw8 : List SOper := [Oa 124 (.mv (.t 10)), Oa 125 (.mv (.t 9)), Oa 126 (.bin .add (.c (.int .i64 4000)) (.t 125)), Oc 127 39 [(.t 124), (.t 126)], Ob (.store 2 (.t 2) (.t 127))]
abbrev qaw7 : List SOper := [Oa 113 (.mv (.t 9)), Oa 114 (.bin .add (.t 113) (.c (.int .i64 1))), Oa 9 (.mv (.t 114))]
def qako : SCode := (.seq (.seq (.reg false qaxb [1, 2, 9, 112]) (.cond (.t 112) .skip (.exit 6))) (.seq (.block 7 (.seq (.reg true qaxa [1, 2, 9, 10]) (.seq (.reg false qaw9 [1, 2, 9, 10, 123]) (.cond (.t 123) (.seq (.reg false qaw8 [2]) .ret) .skip)))) (.reg false qaw7 [1, 2, 9])))
abbrev qaw6 : List SOper := [Oa 128 (.faddr 4 (.t 1)), Oa 129 (.load (.t 128)), Oa 130 (.len false (.t 129)), Oa 131 (.bin .gtr (.t 130) (.c (.int .i64 5)))]
abbrev qaw5 : List SOper := [Oc 132 39 [(.c (.int .i64 2)), (.c (.int .i64 (-5)))], Ob (.store 2 (.t 2) (.t 132))]
abbrev qaw4 : List SOper := [Oa 11 (.mv (.c (.int .i64 0)))]
abbrev qaw3 : List SOper := [Oa 133 (.mv (.t 11)), Oa 134 (.faddr 4 (.t 1)), Oa 135 (.load (.t 134)), Oa 136 (.len false (.t 135)), Oa 137 (.bin .lss (.t 133) (.t 136))]
abbrev qaw2 : List SOper := [Oa 140 (.faddr 4 (.t 1)), Oa 141 (.load (.t 140)), Oa 142 (.mv (.t 11)), Oa 143 (.iaddr 6 (.t 141) (.t 142)), Oa 144 (.loads 6 (.t 143)), Oa 12 (.alloc 35 [(.int .i64 0), .nilsl, .nilsl, (.int .i64 0), (.int .i64 0), .nilsl]), Ob (.store 6 (.t 12) (.t 144))]
abbrev qaw1 : List SOper := [Oa 145 (.faddr 1 (.t 12)), Oa 146 (.load (.t 145)), Oa 147 (.len false (.t 146)), Oa 148 (.bin .gtr (.t 147) (.c (.int .i64 3)))]
abbrev qaw0 : List SOper := [Oa 149 (.mv (.t 11)), Oa 150 (.bin .add (.c (.int .i64 5000)) (.t 149)), Oc 151 39 [(.c (.int .i64 2)), (.t 150)], Ob (.store 2 (.t 2) (.t 151))]
abbrev qawz : List SOper := [Oa 152 (.loads 7 (.t 1)), Oa 153 (.loads 6 (.t 12)), Oc 154 13 [(.t 152), (.t 153)], Oa 13 (.mv (.t 154))]
abbrev qawy : List SOper := [Oa 155 (.mv (.t 13)), Oc 156 43 [(.t 155), (.c (.int .i64 0))]]
abbrev qawx : List SOper := [Oa 157 (.mv (.t 11)), Oa 158 (.bin .add (.c (.int .i64 5000)) (.t 157)), Oc 159 39 [(.c (.int .i64 1)), (.t 158)], Ob (.store 2 (.t 2) (.t 159))]
abbrev qaww : List SOper := [Oa 160 (.loads 6 (.t 12)), Oa 161 (.mv (.t 13)), Oa 162 (.faddr 3 (.t 1)), Oa 163 (.load (.t 162)), Oc 164 44 [(.t 160), (.t 161), (.t 163)], Oa 14 (.mv (.t 164))]
abbrev qawv : List SOper := [Oa 165 (.mv (.t 14)), Oa 166 (.bin .neq (.t 165) (.c (.int .i64 0)))]
abbrev qawu : List SOper := [Oa 167 (.mv (.t 14)), Oa 168 (.mv (.t 11)), Oa 169 (.bin .add (.c (.int .i64 5000)) (.t 168)), Oc 170 39 [(.t 167), (.t 169)], Ob (.store 2 (.t 2) (.t 170))]
abbrev qawt : List SOper := [Oa 138 (.mv (.t 11)), Oa 139 (.bin .add (.t 138) (.c (.int .i64 1))), Oa 11 (.mv (.t 139))]
def qakn : SCode := (.seq (.seq (.reg false qaw3 [1, 2, 11, 137]) (.cond (.t 137) .skip (.exit 8))) (.seq (.block 9 (.seq (.reg false qaw2 [1, 2, 11, 12]) (.seq (.seq (.reg false qaw1 [1, 2, 11, 12, 148]) (.cond (.t 148) (.seq (.reg false qaw0 [2]) .ret) .skip)) (.seq (.reg false qawz [1, 2, 11, 12, 13]) (.seq (.seq (.reg false qawy [1, 2, 11, 12, 13, 156]) (.cond (.t 156) (.seq (.reg false qawx [2]) .ret) .skip)) (.seq (.reg false qaww [1, 2, 11, 14]) (.seq (.reg false qawv [1, 2, 11, 14, 166]) (.cond (.t 166) (.seq (.reg false qawu [2]) .ret) .skip)))))))) (.reg false qawt [1, 2, 11])))
abbrev qaws : List SOper := [Oa 171 (.faddr 5 (.t 1)), Oa 172 (.load (.t 171)), Oa 173 (.len false (.t 172)), Oa 174 (.bin .gtr (.t 173) (.c (.int .i64 10)))]
abbrev qawr : List SOper := [Oc 175 39 [(.c (.int .i64 2)), (.c (.int .i64 (-6)))], Ob (.store 2 (.t 2) (.t 175))]
abbrev qawq : List SOper := [Oa 15 (.mv (.c (.int .i64 0)))]
abbrev qawp : List SOper := [Oa 176 (.mv (.t 15)), Oa 177 (.faddr 5 (.t 1)), Oa 178 (.load (.t 177)), Oa 179 (.len false (.t 178)), Oa 180 (.bin .lss (.t 176) (.t 179))]
abbrev qawo : List SOper := [Oa 183 (.loads 7 (.t 1)), Oa 184 (.mv (.t 15)), Oc 185 45 [(.t 183), (.t 184)], Oa 16 (.mv (.t 185))]
abbrev qawn : List SOper := [Oa 186 (.mv (.t 16)), Oa 187 (.bin .neq (.t 186) (.c (.int .i64 0)))]
abbrev qawm : List SOper := [Oa 188 (.mv (.t 16)), Oa 189 (.mv (.t 15)), Oa 190 (.bin .add (.c (.int .i64 6000)) (.t 189)), Oc 191 39 [(.t 188), (.t 190)], Ob (.store 2 (.t 2) (.t 191))]
abbrev qawl : List SOper := [Oa 181 (.mv (.t 15)), Oa 182 (.bin .add (.t 181) (.c (.int .i64 1))), Oa 15 (.mv (.t 182))]
def qakm : SCode := (.seq (.seq (.reg false qawp [1, 2, 15, 180]) (.cond (.t 180) .skip (.exit 10))) (.seq (.block 11 (.seq (.reg false qawo [1, 2, 15, 16]) (.seq (.reg false qawn [1, 2, 15, 16, 187]) (.cond (.t 187) (.seq (.reg false qawm [2]) .ret) .skip)))) (.reg false qawl [1, 2, 15])))
abbrev qawk : List SOper := [Oa 192 (.faddr 6 (.t 1)), Oa 193 (.load (.t 192)), Oa 194 (.len false (.t 193)), Oa 195 (.bin .gtr (.t 194) (.c (.int .i64 6)))]
abbrev qawj : List SOper := [Oc 196 39 [(.c (.int .i64 2)), (.c (.int .i64 (-7)))], Ob (.store 2 (.t 2) (.t 196))]
abbrev qawi : List SOper := [Oa 17 (.mv (.c (.int .i64 0)))]
abbrev qawh : List SOper := [Oa 197 (.mv (.t 17)), Oa 198 (.faddr 6 (.t 1)), Oa 199 (.load (.t 198)), Oa 200 (.len false (.t 199)), Oa 201 (.bin .lss (.t 197) (.t 200))]
abbrev qawg : List SOper := [Oa 204 (.loads 7 (.t 1)), Oa 205 (.faddr 6 (.t 1)), Od 206 (.load (.t 205)) 2, Oa 207 (.mv (.t 17)), Od 208 (.iaddr 1 (.t 206) (.t 207)) 14, Od 209 (.load (.t 208)) 30, ⟨(some 210), .mv (.c .any), some ((.c (.fn (.func 46) [] [])), [(.t 204), (.t 209)]), none, 63⟩, Od 211 (.un .not (.t 210)) 127]
abbrev qawf : List SOper := [Oa 212 (.mv (.t 17)), Oa 213 (.bin .add (.c (.int .i64 7000)) (.t 212)), Oc 214 39 [(.c (.int .i64 1)), (.t 213)], Ob (.store 2 (.t 2) (.t 214))]
abbrev qawe : List SOper := [Oa 215 (.faddr 6 (.t 1)), Od 216 (.load (.t 215)) 1, Oa 217 (.mv (.t 17)), Od 218 (.slice 1 (.t 216) none (some (.t 217))) 7, Oa 219 (.faddr 6 (.t 1)), Od 220 (.load (.t 219)) 16, Oa 221 (.mv (.t 17)), Od 222 (.iaddr 1 (.t 220) (.t 221)) 112, Od 223 (.load (.t 222)) 240, ⟨(some 224), .mv (.c .any), some ((.c (.fn (.func 43) [] [])), [(.t 218), (.t 223)]), none, 511⟩]
abbrev qawd : List SOper := [Oa 225 (.mv (.t 17)), Oa 226 (.bin .add (.c (.int .i64 7000)) (.t 225)), Oc 227 39 [(.c (.int .i64 7)), (.t 226)], Ob (.store 2 (.t 2) (.t 227))]
abbrev qawc : List SOper := [Oa 202 (.mv (.t 17)), Oa 203 (.bin .add (.t 202) (.c (.int .i64 1))), Oa 17 (.mv (.t 203))]
def qakl : SCode := (.seq (.seq (.reg false qawh [1, 2, 17, 201]) (.cond (.t 201) .skip (.exit 12))) (.seq (.block 13 (.seq (.seq (.reg true qawg [1, 2, 17, 211]) (.cond (.t 211) (.seq (.reg false qawf [2]) .ret) .skip)) (.seq (.reg true qawe [1, 2, 17, 224]) (.cond (.t 224) (.seq (.reg false qawd [2]) .ret) .skip)))) (.reg false qawc [1, 2, 17])))
abbrev qawb : List SOper := [Oa 228 (.build [(.int .i64 0), (.int .i64 0)] []), Ob (.store 2 (.t 2) (.t 228))]
def c_rform : SCode := (.seq (.reg false qa54 [1, 2]) (.seq (.seq (.reg false qa53 [1, 2, 21]) (.cond (.t 21) (.seq (.reg false qa52 [2]) .ret) .skip)) (.seq (.seq (.reg false qa51 [1, 2, 3]) (.block 0 (.loop qakr))) (.seq (.seq (.reg false qaxt [1, 2, 50]) (.cond (.t 50) (.seq (.reg false qaxs [2]) .ret) .skip)) (.seq (.seq (.reg false qaxr [1, 2, 6]) (.block 2 (.loop qakq))) (.seq (.seq (.reg false qaxm [1, 2, 85]) (.cond (.t 85) (.seq (.reg false qaxl [2]) .ret) .skip)) (.seq (.seq (.reg false qaxk [1, 2, 7]) (.block 4 (.loop qakp))) (.seq (.seq (.reg false qaxe [1, 2, 106]) (.cond (.t 106) (.seq (.reg false qaxd [2]) .ret) .skip)) (.seq (.seq (.reg false qaxc [1, 2, 9]) (.block 6 (.loop qako))) (.seq (.seq (.reg false qaw6 [1, 2, 131]) (.cond (.t 131) (.seq (.reg false qaw5 [2]) .ret) .skip)) (.seq (.seq (.reg false qaw4 [1, 2, 11]) (.block 8 (.loop qakn))) (.seq (.seq (.reg false qaws [1, 2, 174]) (.cond (.t 174) (.seq (.reg false qawr [2]) .ret) .skip)) (.seq (.seq (.reg false qawq [1, 2, 15]) (.block 10 (.loop qakm))) (.seq (.seq (.reg false qawk [1, 2, 195]) (.cond (.t 195) (.seq (.reg false qawj [2]) .ret) .skip)) (.seq (.seq (.reg false qawi [1, 2, 17]) (.block 12 (.loop qakl))) (.seq (.reg false qawb [2]) .ret))))))))))))))))
theorem qamj : comp Try.prog 229 ((Try.f18.body).getD .skip) = some c_rform.erase := by kernel_rfl
abbrev qbdu : List SOper := [Oa 4 (.mv (.c (.bool false)))]
abbrev qbdt : List SOper := [Oa 5 (.mv (.c (.int .i64 0)))]
abbrev qbds : List SOper := [Oa 6 (.mv (.t 5)), Oa 7 (.mv (.t 0)), Oa 8 (.len false (.t 7)), Oa 9 (.bin .lss (.t 6) (.t 8))]
abbrev qbdr : List SOper := [Oa 12 (.mv (.t 0)), Oa 13 (.mv (.t 5)), Oa 14 (.iaddr 1 (.t 12) (.t 13)), Oa 15 (.load (.t 14)), Oa 16 (.mv (.t 1)), Oa 17 (.bin .eql (.t 15) (.t 16))]
abbrev qbdq : List SOper := [Oa 4 (.mv (.c (.bool true)))]
abbrev qbdp : List SOper := [Oa 10 (.mv (.t 5)), Oa 11 (.bin .add (.t 10) (.c (.int .i64 1))), Oa 5 (.mv (.t 11))]
def qa5t : SCode := (.seq (.seq (.reg false qbds [0, 1, 5, 9]) (.cond (.t 9) .skip (.exit 0))) (.seq (.block 1 (.seq (.reg false qbdr [0, 1, 5, 17]) (.cond (.t 17) (.seq (.reg false qbdq [4]) .ret) .skip))) (.reg false qbdp [0, 1, 5])))
abbrev qbdo : List SOper := [Oa 4 (.mv (.c (.bool false)))]
def c_rin : SCode := (.seq (.reg false qbdu [0, 1]) (.seq (.seq (.reg false qbdt [0, 1, 5]) (.block 0 (.loop qa5t))) (.seq (.reg false qbdo [4]) .ret)))
theorem qa14 : comp Try.prog 18 ((Try.f43.body).getD .skip) = some c_rin.erase := by kernel_rfl
abbrev qa5b : List SOper := [Oa 3 (.box 35 (.t 0)), Oa 5 (.box 125 (.t 2)), Oa 6 (.mv (.c (.int .i64 0)))]
abbrev qa5a : List SOper := [Oa 9 (.faddr 2 (.t 3)), Oa 10 (.load (.t 9)), Oa 11 (.faddr 0 (.t 5)), Oa 12 (.load (.t 11)), Oc 13 43 [(.t 10), (.t 12)], Oa 14 (.un .not (.t 13))]
abbrev qa49 : List SOper := [Oa 6 (.mv (.c (.int .i64 5)))]
abbrev qa48 : List SOper := [Oa 15 (.mv (.t 1)), Oa 16 (.faddr 0 (.t 5)), Oa 17 (.load (.t 16)), Oa 18 (.iaddr 2 (.t 15) (.t 17)), Oa 19 (.faddr 0 (.t 18)), Oa 20 (.load (.t 19)), Oa 7 (.mv (.t 20))]
abbrev qa47 : List SOper := [Oa 21 (.mv (.t 7)), Oa 22 (.len false (.t 21)), Oa 23 (.faddr 1 (.t 5)), Oa 24 (.load (.t 23)), Oa 25 (.len false (.t 24)), Oa 26 (.bin .neq (.t 22) (.t 25))]
abbrev qa46 : List SOper := [Oa 6 (.mv (.c (.int .i64 2)))]
abbrev qa45 : List SOper := [Oa 8 (.mv (.c (.int .i64 0)))]
abbrev qa44 : List SOper := [Oa 27 (.mv (.t 8)), Oa 28 (.mv (.t 7)), Oa 29 (.len false (.t 28)), Oa 30 (.bin .lss (.t 27) (.t 29))]
abbrev qa43 : List SOper := [Oa 33 (.faddr 1 (.t 5)), Od 34 (.load (.t 33)) 1, Oa 35 (.mv (.t 8)), Od 36 (.iaddr 1 (.t 34) (.t 35)) 7, Od 37 (.load (.t 36)) 15, Oa 38 (.mv (.t 7)), Oa 39 (.mv (.t 8)), Od 40 (.iaddr 1 (.t 38) (.t 39)) 96, Od 41 (.load (.t 40)) 224, ⟨(some 42), .mv (.c .any), some ((.c (.fn (.func 69) [] [])), [(.t 37), (.t 41)]), none, 511⟩]
abbrev qavh : List SOper := [Oa 6 (.mv (.c (.int .i64 6)))]
abbrev qavg : List SOper := [Oa 31 (.mv (.t 8)), Oa 32 (.bin .add (.t 31) (.c (.int .i64 1))), Oa 8 (.mv (.t 32))]
def qakk : SCode := (.seq (.seq (.reg false qa44 [5, 7, 8, 30]) (.cond (.t 30) .skip (.exit 0))) (.seq (.block 1 (.seq (.reg true qa43 [5, 7, 8, 42]) (.cond (.t 42) (.seq (.reg false qavh [6]) .ret) .skip))) (.reg false qavg [5, 7, 8])))
abbrev qavf : List SOper := [Oa 6 (.mv (.c (.int .i64 0)))]
def c_rsays : SCode := (.seq (.reg false qa5b [1, 3, 5]) (.seq (.seq (.reg false qa5a [1, 5, 14]) (.cond (.t 14) (.seq (.reg false qa49 [6]) .ret) .skip)) (.seq (.reg false qa48 [5, 7]) (.seq (.seq (.reg false qa47 [5, 7, 26]) (.cond (.t 26) (.seq (.reg false qa46 [6]) .ret) .skip)) (.seq (.seq (.reg false qa45 [5, 7, 8]) (.block 0 (.loop qakk))) (.seq (.reg false qavf [6]) .ret))))))
theorem qamf : comp Try.prog 43 ((Try.f72.body).getD .skip) = some c_rsays.erase := by kernel_rfl
abbrev qau1 : List SOper := [Oa 3 (.box 35 (.t 0)), Oa 6 (.mv (.c (.int .i64 0)))]
abbrev qau0 : List SOper := [Oa 9 (.faddr 0 (.t 3)), Oa 10 (.load (.t 9)), Oa 11 (.bin .lss (.t 10) (.c (.int .i64 1))), Oa 12 (.mv (.t 11)), Oe 13 (.faddr 0 (.t 3)) 12 false, Oe 14 (.load (.t 13)) 12 false, Oe 15 (.bin .gtr (.t 14) (.c (.int .i64 3))) 12 false, Oa 16 (.pick (.t 12) (.c (.bool true)) (.t 15))]
abbrev qauz : List SOper := [Oa 6 (.mv (.c (.int .i64 5)))]
abbrev qauy : List SOper := [Oa 17 (.mv (.t 1)), Oa 18 (.len false (.t 17)), Oa 19 (.bin .lss (.t 18) (.c (.int .i64 1))), Oa 20 (.mv (.t 19)), Oe 21 (.mv (.t 1)) 20 false, Oe 22 (.len false (.t 21)) 20 false, Oe 23 (.bin .gtr (.t 22) (.c (.int .i64 3))) 20 false, Oa 24 (.pick (.t 20) (.c (.bool true)) (.t 23)), Oa 25 (.mv (.t 24)), Oe 26 (.faddr 0 (.t 3)) 25 false, Oe 27 (.load (.t 26)) 25 false, Oe 28 (.bin .eql (.t 27) (.c (.int .i64 2))) 25 false, Oe 29 (.mv (.t 28)) 25 false, Oe 30 (.mv (.t 1)) 29 true, Oe 31 (.len false (.t 30)) 29 true, Oe 32 (.bin .gtr (.t 31) (.c (.int .i64 1))) 29 true, Oe 33 (.pick (.t 29) (.t 32) (.c (.bool false))) 25 false, Oa 34 (.pick (.t 25) (.c (.bool true)) (.t 33)), Oa 35 (.mv (.t 34)), Oe 36 (.faddr 2 (.t 3)) 35 false, Oe 37 (.load (.t 36)) 35 false, Oe 38 (.len false (.t 37)) 35 false, Oe 39 (.bin .lss (.t 38) (.c (.int .i64 1))) 35 false, Oa 40 (.pick (.t 35) (.c (.bool true)) (.t 39)), Oa 41 (.mv (.t 40)), Oe 42 (.faddr 2 (.t 3)) 41 false, Oe 43 (.load (.t 42)) 41 false, Oe 44 (.len false (.t 43)) 41 false, Oe 45 (.bin .gtr (.t 44) (.c (.int .i64 4))) 41 false, Oa 46 (.pick (.t 41) (.c (.bool true)) (.t 45))]
abbrev qaux : List SOper := [Oa 6 (.mv (.c (.int .i64 2)))]
abbrev qauw : List SOper := [Oa 47 (.faddr 3 (.t 3)), Oa 48 (.load (.t 47)), Oa 49 (.bin .lss (.t 48) (.c (.int .i64 0))), Oa 50 (.mv (.t 49)), Oe 51 (.faddr 3 (.t 3)) 50 false, Oe 52 (.load (.t 51)) 50 false, Oe 53 (.bin .gtr (.t 52) (.c (.int .i64 16))) 50 false, Oa 54 (.pick (.t 50) (.c (.bool true)) (.t 53))]
abbrev qauv : List SOper := [Oa 6 (.mv (.c (.int .i64 1)))]
abbrev qauu : List SOper := [Oa 7 (.mv (.c (.int .i64 0)))]
abbrev qaut : List SOper := [Oa 55 (.mv (.t 7)), Oa 56 (.mv (.t 1)), Oa 57 (.len false (.t 56)), Oa 58 (.bin .lss (.t 55) (.t 57))]
abbrev qanx : List SOper := [Oa 61 (.mv (.t 1)), Oa 62 (.mv (.t 7)), Oa 63 (.iaddr 1 (.t 61) (.t 62)), Oa 64 (.load (.t 63)), Oa 65 (.bin .lss (.t 64) (.c (.int .i64 1))), Oa 66 (.mv (.t 65)), Oe 67 (.mv (.t 1)) 66 false, Oe 68 (.mv (.t 7)) 66 false, Oe 69 (.iaddr 1 (.t 67) (.t 68)) 66 false, Oe 70 (.load (.t 69)) 66 false, Oe 71 (.bin .gtr (.t 70) (.c (.int .i64 48))) 66 false, Oa 72 (.pick (.t 66) (.c (.bool true)) (.t 71))]
abbrev qanw : List SOper := [Oa 6 (.mv (.c (.int .i64 6)))]
abbrev qanv : List SOper := [Oa 59 (.mv (.t 7)), Oa 60 (.bin .add (.t 59) (.c (.int .i64 1))), Oa 7 (.mv (.t 60))]
def qahy : SCode := (.seq (.seq (.reg false qaut [1, 2, 3, 7, 58]) (.cond (.t 58) .skip (.exit 0))) (.seq (.block 1 (.seq (.reg false qanx [1, 2, 3, 7, 72]) (.cond (.t 72) (.seq (.reg false qanw [6]) .ret) .skip))) (.reg false qanv [1, 2, 3, 7])))
abbrev qanu : List SOper := [Oa 8 (.mv (.c (.int .i64 0)))]
abbrev qant : List SOper := [Oa 73 (.mv (.t 8)), Oa 74 (.faddr 2 (.t 3)), Oa 75 (.load (.t 74)), Oa 76 (.len false (.t 75)), Oa 77 (.bin .lss (.t 73) (.t 76))]
abbrev qans : List SOper := [Oa 80 (.faddr 2 (.t 3)), Oa 81 (.load (.t 80)), Oa 82 (.mv (.t 8)), Oa 83 (.iaddr 1 (.t 81) (.t 82)), Oa 84 (.load (.t 83)), Oa 85 (.bin .lss (.t 84) (.c (.int .i64 0))), Oa 86 (.mv (.t 85)), Oe 87 (.faddr 2 (.t 3)) 86 false, Oe 88 (.load (.t 87)) 86 false, Oe 89 (.mv (.t 8)) 86 false, Oe 90 (.iaddr 1 (.t 88) (.t 89)) 86 false, Oe 91 (.load (.t 90)) 86 false, Oe 92 (.mv (.t 2)) 86 false, Oe 93 (.len false (.t 92)) 86 false, Oe 94 (.bin .geq (.t 91) (.t 93)) 86 false, Oa 95 (.pick (.t 86) (.c (.bool true)) (.t 94))]
abbrev qanr : List SOper := [Oa 6 (.mv (.c (.int .i64 1)))]
abbrev qanq : List SOper := [Oa 78 (.mv (.t 8)), Oa 79 (.bin .add (.t 78) (.c (.int .i64 1))), Oa 8 (.mv (.t 79))]
def qahx : SCode := (.seq (.seq (.reg false qant [2, 3, 8, 77]) (.cond (.t 77) .skip (.exit 2))) (.seq (.block 3 (.seq (.reg false qans [2, 3, 8, 95]) (.cond (.t 95) (.seq (.reg false qanr [6]) .ret) .skip))) (.reg false qanq [2, 3, 8])))
abbrev qanp : List SOper := [Oa 96 (.loads 6 (.t 3)), Oa 97 (.mv (.t 2)), Oa 98 (.faddr 4 (.t 3)), Oa 99 (.load (.t 98)), Oa 100 (.faddr 5 (.t 3)), Oa 101 (.load (.t 100)), Oa 102 (.build [(.int .i64 0), .nilsl] [(0, 1, (.t 99)), (1, 1, (.t 101))]), Oc 103 72 [(.t 96), (.t 97), (.t 102)], Oa 6 (.mv (.t 103))]
def c_rtable : SCode := (.seq (.reg false qau1 [1, 2, 3]) (.seq (.seq (.reg false qau0 [1, 2, 3, 16]) (.cond (.t 16) (.seq (.reg false qauz [6]) .ret) .skip)) (.seq (.seq (.reg false qauy [1, 2, 3, 46]) (.cond (.t 46) (.seq (.reg false qaux [6]) .ret) .skip)) (.seq (.seq (.reg false qauw [1, 2, 3, 54]) (.cond (.t 54) (.seq (.reg false qauv [6]) .ret) .skip)) (.seq (.seq (.reg false qauu [1, 2, 3, 7]) (.block 0 (.loop qahy))) (.seq (.seq (.reg false qanu [2, 3, 8]) (.block 2 (.loop qahx))) (.seq (.reg false qanp [6]) .ret)))))))
theorem qajn : comp Try.prog 104 ((Try.f44.body).getD .skip) = some c_rtable.erase := by kernel_rfl
end Go.Proofs.Ytnfjldobjgdiaaa
namespace Go.Proofs.Ytnfjldobjgdiaaa
set_option linter.all false
open Go.RowKit
attribute [local simp] qabg qabf qaas qaaz qaat qaay qabd qabe qaao qabn SOp.run SX.ev putd puts argS upds SOp.touch SSt.keep SSt.skip gets geth puth delh idOf SV.cells? setL qac5 qac6 sbin eq0 eq1 eqL qac4 qab1 qab2 qaap qabh qaag qabi qabo qaai qaaq FrzOk qaa9 qaa3 qaa7 qaa8 qaau qaa2 qabl qaa4 qaaw qaba qaav frzS frzH frz frz1 frz0 SlotsM ObjsM ObjM rn ren ren1 ren0 qabu qaca qacf qabt qabm qacg qace CoL qabb qach dels adds idsH qab3
attribute [local simp] qads refc qae3 qaet qacc opc actc tabc qad7 qacu nums
theorem qapo (p : PlanD) (hh : Int) (q : Nat) : SCalls Try.prog 46 [.agg (qacu p), .int .i64 hh] [] q (.bool (qacz p hh)) [] := by
 refine qabj ?_ (fun _ => rfl) (fun _ => rfl) rfl q
 refine qaax (N := 14) Try.func46 rfl rfl (by kernel_rfl) qami (by simp) (by repeat' (first | exact trivial | refine And.intro ?_ ?_ | rfl | decide | exact PureR.ren _)) (by repeat' (first | exact trivial | refine And.intro ?_ ?_ | rfl | decide | exact PureR.ren _)) ?_
 rintro X hP hN hm
 unfold c_rhead
 repeat' (first | (with_reducible refine zA ?_) | ((with_reducible refine qaac ?_); (try rw [hP]); simp -implicitDefEqProofs [*]) | ((with_reducible refine qaam ?_); (try simp only [qaap, qaag, qaai])) | ((with_reducible refine qaan (fun h => ?_) (fun h => ?_)) <;> have h' := h <;> (try simp at h') <;> (try subst h') <;> simp -implicitDefEqProofs [*]) | (with_reducible refine zN hm ?_) | fail)
 all_goals (first | (simp [qacz, *]; done) | (simp_all [qacz]; done) | (simp_all [qacz]; omega))
theorem rlead_s (p : PlanD) (from_ to_ : Int) (q : Nat) : SCalls Try.prog 70 [.agg (qacu p), .int .i64 from_, .int .i64 to_] [] q (.int .i64 (qaf2 p from_ to_)) [] := by
 refine qabj ?_ (fun _ => rfl) (fun _ => rfl) rfl q
 refine qaax (N := 25) Try.func70 rfl rfl (by kernel_rfl) qamh (by simp) (by repeat' (first | exact trivial | refine And.intro ?_ ?_ | rfl | decide | exact PureR.ren _)) (by repeat' (first | exact trivial | refine And.intro ?_ ?_ | rfl | decide | exact PureR.ren _)) ?_
 rintro X hP hN hm
 unfold c_rlead
 repeat' (first | (with_reducible refine zA ?_) | ((with_reducible refine qaac ?_); (try rw [hP]); simp -implicitDefEqProofs [*]) | ((with_reducible refine qaaf ?_); (try simp -implicitDefEqProofs [*])) | ((with_reducible refine qaam ?_); (try simp only [qaap, qaag, qaai])) | ((with_reducible refine qaaa rfl (fun h => ?_) (fun h => ?_)) <;> have h' := h <;> (try simp at h') <;> (try subst h')) | ((with_reducible refine qaan (fun h => ?_) (fun h => ?_)) <;> have h' := h <;> (try simp at h') <;> (try subst h') <;> simp -implicitDefEqProofs [*]) | (with_reducible refine zM hm ?_) | fail)
 all_goals ((try simp only [qaf2]); (repeat' split) <;> (first | omega | (simp_all; done) | (simp_all; omega)))
theorem qa04 (p : PlanD) (r : RefD) (args : List Int) (q : Nat) : SCalls Try.prog 10 [.agg (qacu p), .agg (refc r), nums .i64 args] [] q (.int .i64 (qabw p r args)) [] := by
 refine qabj ?_ (fun _ => rfl) (fun _ => rfl) rfl q
 refine qaax (N := 53) Try.func10 rfl rfl (by kernel_rfl) qajl (by simp) (by repeat' (first | exact trivial | refine And.intro ?_ ?_ | rfl | decide | exact PureR.ren _)) (by repeat' (first | exact trivial | refine And.intro ?_ ?_ | rfl | decide | exact PureR.ren _)) ?_
 rintro X hP hN hm
 unfold c_rwidth
 by_cases hc : r.h = -3 ∧ r.f = 0
 ·obtain ⟨e1, e2⟩ := hc
  have hz : qabw p r args = 16 := by unfold qabw qaqw qa1g; rw [e1, e2]; rfl
  rw [hz]
  repeat' (first | (with_reducible first | refine zA ?_ | refine qaae ?_) | ((with_reducible refine qaac ?_); (try rw [hP]); simp -implicitDefEqProofs [*]) | ((with_reducible refine qaaf ?_); (try simp -implicitDefEqProofs [*])) | ((with_reducible refine qaam ?_); (try simp only [qaap, qaag, qaai])) | ((with_reducible refine qaaa rfl (fun h => ?_) (fun h => ?_)) <;> have h' := h <;> (try simp at h') <;> (try subst h')) | (with_reducible refine zM hm ?_) | fail)
  rfl
 ·replace hc := Lib.hid hc
  repeat' (first | (with_reducible first | refine zA ?_ | refine qaae ?_) | ((with_reducible refine qaac ?_); (try rw [hP]); simp -implicitDefEqProofs [*]) | ((with_reducible refine qaaf ?_); (try simp -implicitDefEqProofs [*])) | ((with_reducible refine qaam ?_); (try simp only [qaap, qaag, qaai])) | ((with_reducible refine qaaa rfl (fun h => ?_) (fun h => ?_)) <;> have h' := h <;> (try simp at h') <;> (try subst h')) | ((with_reducible refine qaan (fun h => ?_) (fun h => ?_)) <;> have h' := h <;> (try simp at h') <;> (try subst h') <;> simp -implicitDefEqProofs [*]) | (with_reducible refine zM hm ?_) | ((exfalso; have := hc.out; omega)) | fail)
  all_goals ((try simp only [qabw, qaqw, qa1g, headW, el]); (repeat' split) <;> (try first | omega | (simp_all; done) | (simp_all; omega)))
theorem qbb9 (op : Int) (q : Nat) : SCalls Try.prog 15 [.int .i64 op] [] q (.int .i64 (qab4 op)) [] := by
 refine qabj ?_ (fun _ => rfl) (fun _ => rfl) rfl q
 refine qaax (N := 13) Try.func15 rfl rfl (by kernel_rfl) qajm (by simp) (by repeat' (first | exact trivial | refine And.intro ?_ ?_ | rfl | decide | exact PureR.ren _)) (by repeat' (first | exact trivial | refine And.intro ?_ ?_ | rfl | decide | exact PureR.ren _)) ?_
 rintro X hP hN hm
 unfold c_rtakes
 by_cases h0 : op < 1
 ·have hz : qab4 op = -1 := by unfold qab4; rw [if_neg (by omega), if_neg (by omega), if_neg (by omega)]
  rw [hz]
  repeat' (first | (with_reducible refine zA ?_) | ((with_reducible refine qaac ?_); (try rw [hP]); simp -implicitDefEqProofs [*]) | ((with_reducible refine qaam ?_); (try simp only [qaap, qaag, qaai])) | ((with_reducible refine qaaa rfl (fun h => ?_) (fun h => ?_)) <;> have h' := h <;> (try simp at h') <;> (try subst h')) | (with_reducible refine zM hm ?_) | fail)
  all_goals first | rfl | omega
 by_cases h9 : 13 < op
 ·have hz : qab4 op = -1 := by unfold qab4; rw [if_neg (by omega), if_neg (by omega), if_neg (by omega)]
  rw [hz]
  repeat' (first | (with_reducible refine zA ?_) | ((with_reducible refine qaac ?_); (try rw [hP]); simp -implicitDefEqProofs [*]) | ((with_reducible refine qaam ?_); (try simp only [qaap, qaag, qaai])) | ((with_reducible refine qaaa rfl (fun h => ?_) (fun h => ?_)) <;> have h' := h <;> (try simp at h') <;> (try subst h')) | (with_reducible refine zM hm ?_) | fail)
  all_goals first | rfl | omega
 have : op = 1 ∨ op = 2 ∨ op = 3 ∨ op = 4 ∨ op = 5 ∨ op = 6 ∨ op = 7 ∨ op = 8 ∨ op = 9 ∨ op = 10 ∨ op = 11 ∨ op = 12 ∨ op = 13 := by omega
 clear h0 h9
 rcases this with rfl | rfl | rfl | rfl | rfl | rfl | rfl | rfl | rfl | rfl | rfl | rfl | rfl
 all_goals
  repeat' (first | (with_reducible refine zA ?_) | ((with_reducible refine qaac ?_); (try rw [hP]); simp -implicitDefEqProofs [*]) | ((with_reducible refine qaaf ?_); (try simp -implicitDefEqProofs [*])) | ((with_reducible refine qaam ?_); (try simp only [qaap, qaag, qaai])) | ((with_reducible refine qaaa rfl (fun h => ?_) (fun h => ?_)) <;> have h' := h <;> (try simp at h') <;> (try subst h')) | (with_reducible refine zM hm ?_) | fail)
  rfl
end Go.Proofs.Ytnfjldobjgdiaaa
namespace Go.Proofs.Ytnfjldobjgdiaaa
set_option linter.all false
open Go.RowKit
attribute [local simp] qabg qabf qaas qaaz qaat qaay qabd qabe qaao qabn SOp.run SX.ev putd puts argS upds SOp.touch SSt.keep SSt.skip gets geth puth delh idOf SV.cells? setL qac5 qac6 sbin eq0 eq1 eqL qac4 qab1 qab2 qaap qabh qaag qabi qabo qaai qaaq FrzOk qaa9 qaa3 qaa7 qaa8 qaau qaa2 qabl qaa4 qaaw qaba qaav frzS frzH frz frz1 frz0 SlotsM ObjsM ObjM rn ren ren1 ren0 qabu qaca qacf qabt qabm qacg qace CoL qabb qach dels adds idsH qab3
attribute [local simp] qads refc qae3 qaet qacc opc actc tabc qad7 qacu nums
theorem qaib (p : PlanD) (r : RefD) (q : Nat) : SCalls Try.prog 10 [.agg (qacu p), .agg (refc r), .nilsl] [] q (.int .i64 (qabw p r [])) [] := qaf7 (qa04 p r [] q) ⟨Co.refl _, Co.refl _, Co.nilsl _, trivial⟩
theorem rmay_s (p : PlanD) (r : RefD) (q : Nat) : SCalls Try.prog 89 [.agg (qacu p), .agg (refc r)] [] q (.bool (qa0m p r)) [] := by
 refine qabj ?_ (fun _ => rfl) (fun _ => rfl) rfl q
 refine qaax (N := 14) Try.func89 rfl rfl (by kernel_rfl) qaq9 (by simp) (by repeat' (first | exact trivial | refine And.intro ?_ ?_ | rfl | decide | exact PureR.ren _)) (by repeat' (first | exact trivial | refine And.intro ?_ ?_ | rfl | decide | exact PureR.ren _)) ?_
 rintro X hP hN hm
 unfold c_rmay
 repeat' (first | (with_reducible refine zA ?_) | ((with_reducible refine qaac ?_); (try rw [hP]); simp -implicitDefEqProofs [*]) | ((with_reducible refine qaam ?_); (try simp only [qaap, qaag, qaai])) | ((with_reducible refine qaan (fun h => ?_) (fun h => ?_)) <;> have h' := h <;> (try simp at h') <;> (try subst h') <;> simp -implicitDefEqProofs [*]) | (refine qaa0 (qaib p r _) ?_; simp -implicitDefEqProofs [*]) | (with_reducible refine zN hm ?_) | fail)
 all_goals (first | (simp [qa0m, *]; done) | (simp_all [qa0m]; done) | (simp_all [qa0m]; omega))
theorem qbbc (p : PlanD) (l : List PushD) (args : List Int) (hl : l.length ≤ 1000000) (q : Nat) : SCalls Try.prog 73 [.agg (qacu p), qabz l, nums .i64 args] [] q (.int .i64 (qae4 p l args)) [] := by
 refine qabj ?_ (fun _ => rfl) (fun _ => rfl) rfl q
 refine qaax (N := 55) Try.func73 rfl rfl (by kernel_rfl) qamk (by simp) (by repeat' (first | exact trivial | refine And.intro ?_ ?_ | rfl | decide | exact PureR.ren _)) (by repeat' (first | exact trivial | refine And.intro ?_ ?_ | rfl | decide | exact PureR.ren _)) ?_
 rintro X hP hN hm
 unfold c_rexpr
 by_cases h8 : 8 < l.length
 ·have hz : qae4 p l args = 2 := by unfold qae4; rw [if_pos h8]
  rw [hz]
  have k8 : (8 : Int) < l.length := by omega
  repeat' (first | (with_reducible refine zA ?_) | ((with_reducible refine qaac ?_); (try rw [hP]); simp -implicitDefEqProofs [qabz, *]) | ((with_reducible refine qaam ?_); (try simp only [qaap, qaag, qaai])) | ((with_reducible refine qaaa rfl (fun h => ?_) (fun h => ?_)) <;> have h' := h <;> (try simp at h') <;> (try subst h')) | (with_reducible refine zM hm ?_) | fail)
  rfl
 have hF : qae4 p l args = qaf4 p args (l.drop 0) 0 := by unfold qae4; rw [if_neg h8]; rfl
 have k8 : ¬ (8 : Int) < l.length := by omega
 generalize qae4 p l args = F at hF
 replace hF := Lib.hid hF
 repeat' (first | (with_reducible refine zA ?_) | ((with_reducible refine qaac ?_); (try rw [hP]); simp -implicitDefEqProofs [qabz, *]) | ((with_reducible refine qaaf ?_); (try simp -implicitDefEqProofs [qabz, *])) | ((with_reducible refine qaaa rfl (fun h => ?_) (fun h => ?_)) <;> have h' := h <;> (try simp at h') <;> (try subst h')) | fail)
 refine qaal (qaa5 (fun s (x : Nat × Int) => s.turn [(7, .int .i64 x.2), (8, .int .i64 x.1)] []) (fun x => x.1 ≤ l.length ∧ (0 ≤ x.2 ∧ x.2 ≤ 2 * x.1) ∧ F = qaf4 p args (l.drop x.1) x.2) (fun x => l.length - x.1) (0, 0) ?_ ⟨by simp, by simp, hF.out⟩ ?_)
 ·repeat' (first | ((with_reducible refine qaah [] hm ?_ ?_ ?_ ?_) <;> (try simp only [zT, puth, Nat.reduceEqDiff, reduceIte, Nat.reduceAdd])) | (with_reducible first | refine za ?_ ?_ | refine zb ?_ ?_ ?_ ?_) | (with_reducible first | exact qaab | exact qaad) | ((with_reducible first | refine zga ?_ | refine zgb ?_); rfl) | ((with_reducible refine zgd ?_); (first | omega | (simp; done))) | (exact Co.refl _) | (exact CoL.refl _) | fail)
 rintro J hJ ⟨i, n⟩ ⟨h1, h2, h3⟩
 unfold qaks
 simp only [zT, puth, Nat.reduceEqDiff, reduceIte, Nat.reduceAdd] at h1 h2 h3 ⊢
 rcases Nat.lt_or_ge i l.length with hi | hi
 ·rw [List.drop_eq_getElem_cons hi, qahm] at h3
  generalize hxx : l[i] = x at h3
  have wi : IntKind.i64.wrap ((i : Int) + 1) = (i : Int) + 1 := qaar (by omega) (by omega)
  have ht : -1 ≤ qab4 x.op ∧ qab4 x.op ≤ 2 := by unfold qab4; repeat' split <;> omega
  have hc := fun q => qbb9 x.op q
  have w1 : IntKind.i64.wrap (n - qab4 x.op) = n - qab4 x.op := IntWalk.i64_in _ ⟨by omega, by omega⟩
  have w2 : IntKind.i64.wrap (n - qab4 x.op + 1) = n - qab4 x.op + 1 := IntWalk.i64_in _ ⟨by omega, by omega⟩
  generalize qab4 x.op = T at h3 ht hc w1 w2
  replace h3 := Lib.hid h3
  repeat' (first | (with_reducible first | refine zA ?_ | refine qaae ?_ | refine zK ?_) | ((with_reducible first | refine qaac ?_ | refine qaa1 (by rw [hP]; exact qacx) ?_); (try rw [hP]); simp -implicitDefEqProofs [qabz, *]) | ((with_reducible refine qaaf ?_); (try simp -implicitDefEqProofs [qabz, *])) | ((with_reducible refine qaam ?_); (try simp only [qaap, qaag, qaai])) | ((with_reducible refine qaaa rfl (fun h => ?_) (fun h => ?_)) <;> have h' := h <;> (try simp at h') <;> (try subst h')) | ((with_reducible refine qaan (fun h => ?_) (fun h => ?_)) <;> have h' := h <;> (try simp at h') <;> (try subst h') <;> simp -implicitDefEqProofs [qabz, *]) | ((first | refine qaa0 (hc _) ?_ | refine qaa0 (qa04 p x.r args _) ?_); simp -implicitDefEqProofs [qabz, *]) | (with_reducible refine zM hm ?_) | (with_reducible first | refine za ?_ ?_ | refine zb ?_ ?_ ?_ ?_) | (with_reducible first | exact qaab | exact qaad) | ((with_reducible first | refine zga ?_ | refine zgb ?_); rfl) | ((with_reducible first | refine zgd ?_ | refine zge ?_); (first | omega | (simp; done))) | (exact Co.refl _) | (exact CoL.refl _) | ((refine qaaj hJ (i + 1, n - T + 1) ?_ ?_ ?_; (with_reducible refine qaah [] hm ?_ ?_ ?_ ?_) <;> (try simp only [zT, puth, Nat.reduceEqDiff, reduceIte, Nat.reduceAdd]))) | fail)
  all_goals (try dsimp only)
  all_goals (first | (rw [h3.out]; simp_all; done) | (refine ⟨by omega, ⟨by omega, by omega⟩, ?_⟩; rw [h3.out, if_neg (by omega), if_neg (by simp_all), show n - T + 1 = n + (1 - T) by omega]) | skip)
 ·obtain rfl : i = l.length := by omega
  rw [List.drop_length, qaja] at h3
  replace h3 := Lib.hid h3
  repeat' (first | (with_reducible refine zA ?_) | ((with_reducible refine qaac ?_); (try rw [hP]); simp -implicitDefEqProofs [qabz, *]) | ((with_reducible first | refine qaaf ?_ | refine qaak ?_); (try simp -implicitDefEqProofs [qabz, *])) | ((with_reducible refine qaam ?_); (try simp only [qaap, qaag, qaai])) | ((with_reducible refine qaaa rfl (fun h => ?_) (fun h => ?_)) <;> have h' := h <;> (try simp at h') <;> (try subst h')) | (with_reducible refine zM hm ?_) | fail)
  all_goals (rw [h3.out]; simp_all; done)
end Go.Proofs.Ytnfjldobjgdiaaa
namespace Go.Proofs.Ytnfjldobjgdiaaa
set_option linter.all false
open Go.RowKit
attribute [local simp] qabg qabf qaas qaaz qaat qaay qabd qabe qaao qabn SOp.run SX.ev putd puts argS upds SOp.touch SSt.keep SSt.skip gets geth puth delh idOf SV.cells? setL qac5 qac6 sbin eq0 eq1 eqL qac4 qab1 qab2 qaap qabh qaag qabi qabo qaai qaaq FrzOk qaa9 qaa3 qaa7 qaa8 qaau qaa2 qabl qaa4 qaaw qaba qaav frzS frzH frz frz1 frz0 SlotsM ObjsM ObjM rn ren ren1 ren0 qabu qaca qacf qabt qabm qacg qace CoL qabb qach dels adds idsH qab3
attribute [local simp] qads refc qae3 qaet qacc opc actc tabc qad7 qacu nums
theorem rdeed_s (p : PlanD) (o : OpD) (args : List Int) (hl : o.e.length ≤ 1000000) (q : Nat) : SCalls Try.prog 71 [.agg (qacu p), .agg (opc o), nums .i64 args] [] q (.int .i64 (qag6 p o args)) [] := by
 refine qabj ?_ (fun _ => rfl) (fun _ => rfl) rfl q
 refine qaax (N := 52) Try.func71 rfl rfl (by kernel_rfl) qaml (by simp) (by repeat' (first | exact trivial | refine And.intro ?_ ?_ | rfl | decide | exact PureR.ren _)) (by repeat' (first | exact trivial | refine And.intro ?_ ?_ | rfl | decide | exact PureR.ren _)) ?_
 rintro X hP hN hm
 unfold c_rdeed
 have c1 := fun q => rmay_s p o.r q
 have c2 := fun q => qbbc p o.e args hl q
 have c3 := fun q => qapo p o.head q
 have hD : qag6 p o args = if o.kind = 1 then (if qa0m p o.r then qae4 p o.e args else 1) else if o.kind = 2 then (if qacz p o.head then 0 else 1) else if o.kind = 3 then (if qacz p o.head then 0 else 1)
  else if o.kind = 4 then 0 else if o.kind = 5 then qae4 p o.e args else if o.kind = 6 then (if qa0m p o.r && qacz p o.head then 0 else 1) else 5 := by
  unfold qag6
  by_cases k2 : o.kind = 2
  ·simp [k2]
  by_cases k3 : o.kind = 3
  ·simp [k3]
  simp [k2, k3]
 generalize qag6 p o args = F at hD
 generalize qae4 p o.e args = E at hD c2
 generalize qa0m p o.r = M at hD c1
 generalize qacz p o.head = H at hD c3
 replace hD := Lib.hid hD
 replace c1 := Lib.hid c1
 replace c2 := Lib.hid c2
 replace c3 := Lib.hid c3
 repeat' (first | (with_reducible first | refine zA ?_ | refine qaae ?_) | ((with_reducible refine qaac ?_); (try rw [hP]); simp -implicitDefEqProofs [qabz, *]) | ((with_reducible refine qaaf ?_); (try simp -implicitDefEqProofs [qabz, *])) | ((with_reducible refine qaam ?_); (try simp only [qaap, qaag, qaai])) | ((with_reducible refine qaaa rfl (fun h => ?_) (fun h => ?_)) <;> have h' := h <;> (try simp at h') <;> (try subst h')) | ((with_reducible refine qaan (fun h => ?_) (fun h => ?_)) <;> have h' := h <;> (try simp at h') <;> (try subst h') <;> simp -implicitDefEqProofs [qabz, *]) | ((first | refine qaa0 (c1.out _) ?_ | refine qaa0 (c2.out _) ?_ | refine qaa0 (c3.out _) ?_); simp -implicitDefEqProofs [qabz, *]) | (with_reducible refine zM hm ?_) | fail)
 all_goals (rw [hD.out]; first | (simp [*]; done) | (simp_all; done))
theorem qajc (v : Int) {l : List Int} {i : Nat} (hi : i < l.length) : (l.drop i).contains v = (l[i] == v || (l.drop (i + 1)).contains v) := by
 rw [List.drop_eq_getElem_cons hi, List.contains_cons, Bool.beq_comm]
theorem rin_s (l : List Int) (v : Int) (hl : l.length ≤ 1000000) (q : Nat) : SCalls Try.prog 43 [nums .i64 l, .int .i64 v] [] q (.bool (l.contains v)) [] := by
 refine qabj ?_ (fun _ => rfl) (fun _ => rfl) rfl q
 refine qaax (N := 18) Try.func43 rfl rfl (by kernel_rfl) qa14 (by simp) (by repeat' (first | exact trivial | refine And.intro ?_ ?_ | rfl | decide | exact PureR.ren _)) (by repeat' (first | exact trivial | refine And.intro ?_ ?_ | rfl | decide | exact PureR.ren _)) ?_
 rintro X hP hN hm
 have hF : l.contains v = (l.drop 0).contains v := rfl
 generalize l.contains v = F at hF
 replace hF := Lib.hid hF
 unfold c_rin
 repeat' (first | (with_reducible refine zA ?_) | ((with_reducible refine qaac ?_); (try rw [hP]); simp -implicitDefEqProofs [*]) | fail)
 refine qaal (qaa5 (fun s (i : Nat) => s.turn [(5, .int .i64 i)] []) (fun i => i ≤ l.length ∧ F = (l.drop i).contains v) (fun i => l.length - i) 0 ?_ ⟨by simp, hF.out⟩ ?_)
 ·repeat' (first | ((with_reducible refine qaah [] hm ?_ ?_ ?_ ?_) <;> (try simp only [zT, puth, Nat.reduceEqDiff, reduceIte, Nat.reduceAdd])) | (with_reducible refine za ?_ ?_) | (with_reducible first | exact qaab | exact qaad) | ((with_reducible refine zgb ?_); rfl) | ((with_reducible refine zgd ?_); (first | omega | (simp; done))) | (exact Co.refl _) | fail)
 rintro J hJ i ⟨h1, h2⟩
 unfold qa5t
 simp only [zT, puth, Nat.reduceEqDiff, reduceIte, Nat.reduceAdd] at h1 h2 ⊢
 rcases Nat.lt_or_ge i l.length with hi | hi
 ·rw [qajc v hi] at h2
  generalize hxx : l[i] = x at h2
  have wi : IntKind.i64.wrap ((i : Int) + 1) = (i : Int) + 1 := qaar (by omega) (by omega)
  cases hv : (x == v) <;> rw [hv] at h2 <;> replace h2 := Lib.hid h2
  ·repeat' (first | (with_reducible first | refine zA ?_ | refine qaae ?_) | ((with_reducible refine qaac ?_); (try rw [hP]); simp -implicitDefEqProofs [*]) | ((with_reducible refine qaaf ?_); (try simp -implicitDefEqProofs [*])) | ((with_reducible refine qaaa rfl (fun h => ?_) (fun h => ?_)) <;> have h' := h <;> (try simp at h') <;> (try subst h')) | (with_reducible refine za ?_ ?_) | (with_reducible first | exact qaab | exact qaad) | ((with_reducible refine zgb ?_); rfl) | ((with_reducible first | refine zgd ?_ | refine zge ?_); (first | omega | (simp; done))) | (exact Co.refl _) | ((refine qaaj hJ (i + 1) ?_ ?_ ?_; (with_reducible refine qaah [] hm ?_ ?_ ?_ ?_) <;> (try simp only [zT, puth, Nat.reduceEqDiff, reduceIte, Nat.reduceAdd]))) | fail)
   exact ⟨by omega, by rw [h2.out, Bool.false_or]⟩
  ·repeat' (first | (with_reducible first | refine zA ?_ | refine qaae ?_) | ((with_reducible refine qaac ?_); (try rw [hP]); simp -implicitDefEqProofs [*]) | ((with_reducible refine qaaf ?_); (try simp -implicitDefEqProofs [*])) | ((with_reducible refine qaam ?_); (try simp only [qaap, qaag, qaai])) | ((with_reducible refine qaaa rfl (fun h => ?_) (fun h => ?_)) <;> have h' := h <;> (try simp at h') <;> (try subst h')) | (with_reducible refine zN hm ?_) | fail)
   rw [h2.out]; rfl
 ·obtain rfl : i = l.length := by omega
  rw [List.drop_length] at h2
  replace h2 := Lib.hid h2
  repeat' (first | (with_reducible refine zA ?_) | ((with_reducible refine qaac ?_); (try rw [hP]); simp -implicitDefEqProofs [*]) | ((with_reducible refine qaak ?_); (try simp -implicitDefEqProofs [*])) | ((with_reducible refine qaam ?_); (try simp only [qaap, qaag, qaai])) | ((with_reducible refine qaaa rfl (fun h => ?_) (fun h => ?_)) <;> have h' := h <;> (try simp at h') <;> (try subst h')) | (with_reducible refine zN hm ?_) | fail)
  rw [h2.out]; rfl
theorem qa84 (p : PlanD) (t : TabD) (hl : t.keys.length ≤ 1000000) (q : Nat) : SCalls Try.prog 13 [.agg (qacu p), .agg (tabc t)] [] q (nums .i64 (qab0 p t)) [] := by
 refine qabj ?_ (fun _ => rfl) (fun _ => rfl) rfl q
 rw [← qa0o]
 refine qaax (N := 25) Try.func13 rfl rfl (by kernel_rfl) qaim (by simp) (by repeat' (first | exact trivial | refine And.intro ?_ ?_ | rfl | decide | exact PureR.ren _)) (by repeat' (first | exact trivial | refine And.intro ?_ ?_ | rfl | decide | exact PureR.ren _)) ?_
 rintro X hP hN hm
 unfold c_rwidths
 repeat' (first | (with_reducible refine zA ?_) | ((with_reducible refine qaac ?_); (try rw [hP]); simp -implicitDefEqProofs [*]) | fail)
 refine qac9 (qaia 5 3 1 rfl) ?_
 simp only [zT, puth, Nat.reduceEqDiff, reduceIte, Nat.reduceAdd]
 refine qaal (qaa5 (fun s (i : Nat) => s.turn [(5, .own 5 i), (6, .int .i64 i)] [(5, .row 3 1 (wrow p t.keys i))]) (fun i => i ≤ t.keys.length) (fun i => t.keys.length - i) 0 ?_ (by simp) ?_)
 ·repeat' (first | ((with_reducible refine qaah [] hm ?_ ?_ ?_ ?_) <;> (try simp only [zT, puth, Nat.reduceEqDiff, reduceIte, Nat.reduceAdd])) | (with_reducible first | refine za ?_ ?_ | refine zb ?_ ?_ ?_ ?_ | refine zc ?_ ?_ ?_ ?_) | (with_reducible first | exact qaab | exact qaad) | ((with_reducible first | refine zga ?_ | refine zgb ?_); rfl) | ((with_reducible refine zgc ?_); (first | (with_reducible rfl) | rfl | (simp; done))) | ((with_reducible refine zgd ?_); (first | omega | (simp; done))) | (exact Co.refl _) | (exact CoL.refl _) | fail)
 rintro J hJ i hi
 unfold qagy
 simp only [zT, puth, Nat.reduceEqDiff, reduceIte, Nat.reduceAdd]
 have hlen := qa0n p hi
 have hb1 : i + 1 ≤ maxLen := by unfold maxLen; omega
 rcases Nat.lt_or_ge i t.keys.length with h | h
 ·have wi : IntKind.i64.wrap ((i : Int) + 1) = (i : Int) + 1 := qaar (by omega) (by omega)
  have hrow := qapc p h
  generalize hr : t.keys[i] = r at hrow
  repeat' (first | (with_reducible first | refine zA ?_ | refine qae5 ?_ | refine zK ?_) | ((with_reducible first | refine qaac ?_ | refine qaa1 (by rw [hP]; exact qacx) ?_); (try rw [hP]); simp -implicitDefEqProofs [*]) | ((with_reducible refine qaaf ?_); (try simp -implicitDefEqProofs [*])) | ((with_reducible refine qaaa rfl (fun h => ?_) (fun h => ?_)) <;> have h' := h <;> (try simp at h') <;> (try subst h')) | ((with_reducible refine qabv ?_ ?_); (first | omega | (unfold maxLen; omega)); simp -implicitDefEqProofs [*]) | (refine qaa0 (qaib p r _) ?_; simp -implicitDefEqProofs [*]) | (with_reducible first | refine za ?_ ?_ | refine zb ?_ ?_ ?_ ?_ | refine zc ?_ ?_ ?_ ?_) | (with_reducible first | exact qaab | exact qaad) | ((with_reducible first | refine zga ?_ | refine zgb ?_); rfl) | ((with_reducible refine zgc ?_); (first | (with_reducible rfl) | rfl | (simp; done))) | ((with_reducible first | refine zgd ?_ | refine zge ?_); (first | omega | (simp; done))) | (exact Co.refl _) | (exact CoL.refl _) | ((refine qaaj hJ (i + 1) ?_ ?_ ?_; (with_reducible refine qaah [(5, ?_)] hm ?_ ?_ ?_ ?_) <;> (try simp only [zT, puth, Nat.reduceEqDiff, reduceIte, Nat.reduceAdd]))) | fail)
 ·obtain rfl : i = t.keys.length := by omega
  repeat' (first | ((with_reducible refine qac2 (c := .seq (.reg false qagx [4]) .ret) ?_)) | (with_reducible refine zA ?_) | ((with_reducible refine qaac ?_); (try rw [hP]); simp -implicitDefEqProofs [*]) | ((with_reducible refine qaak ?_); (try simp -implicitDefEqProofs [*])) | ((with_reducible refine qaaa rfl (fun h => ?_) (fun h => ?_)) <;> have h' := h <;> (try simp at h') <;> (try subst h')) | fail)
  constructor
  refine qado [5] ?_ ?_
  ·simp only [FrzOk, geth, Nat.reduceEqDiff, reduceIte, qady, and_true]
  have htk : (wrow p t.keys t.keys.length).take t.keys.length = wrow p t.keys t.keys.length := List.take_of_length_le (by omega)
  simp -implicitDefEqProofs [htk, hlen, Nat.le_refl]
  repeat' (first | (with_reducible refine zA ?_) | ((with_reducible refine qaac ?_); (try rw [hP]); simp -implicitDefEqProofs [*]) | ((with_reducible refine qaam ?_); (try simp only [qaap, qaag, qaai])) | (refine qap8 hm ?_ (qad2 _ _)) | fail)
  rfl
theorem qaqc (n k : Int) (q : Nat) : SCalls Try.prog 69 [.int .u64 n, .int .i64 k] [] q (.bool (qalk n k)) [] := qabj (wide_s n k) (fun _ => rfl) (fun _ => rfl) rfl q
set_option maxHeartbeats 4000000 in
theorem qbcb (p : PlanD) (i : Nat) (hi : i < p.states.length) (hsl : p.states.length ≤ 1000000) (hcl : p.states[i].cases_.length ≤ 1000000) (q : Nat) : SCalls Try.prog 41 [.agg (qacu p), .int .i64 i] [] q (.int .i64 (qaes p i p.states[i])) [] := by
 refine qabj ?_ (fun _ => rfl) (fun _ => rfl) rfl q
 refine qaax (N := 80) Try.func41 rfl rfl (by kernel_rfl) qajo (by simp) (by repeat' (first | exact trivial | refine And.intro ?_ ?_ | rfl | decide | exact PureR.ren _)) (by repeat' (first | exact trivial | refine And.intro ?_ ?_ | rfl | decide | exact PureR.ren _)) ?_
 rintro X hP hN hm
 unfold c_rstate
 generalize hxx : p.states[i] = x at hcl
 have hlead := fun to_ q => rlead_s p i to_ q
 have hwid := fun q => qaib p x.on q
 have hhead := fun q => qapo p x.head q
 have hst : qaes p i x = if (x.head != -1 && !qacz p x.head) = true then 1 else if decide (4 < (x.cases_.length : Int)) = true then 2 else if (decide (0 < (x.cases_.length : Int)) && (qabw p x.on [] == 0)) = true then 1 else if qacd (qagu p i (qabw p x.on [])) (x.cases_.drop 0) = 0 then qaf2 p i x.els else qacd (qagu p i (qabw p x.on [])) (x.cases_.drop 0) := by
  unfold qaes
  have c1 : (x.head < -1 ∨ (p.heads.length : Int) ≤ x.head) ↔ (x.head != -1 && !qacz p x.head) = true := by
   unfold qacz; rw [Bool.and_eq_true, Bool.not_eq_true', Bool.and_eq_false_iff, decide_eq_false_iff_not, decide_eq_false_iff_not, bne_iff_ne]; omega
  have c2 : (4 < x.cases_.length) ↔ decide (4 < (x.cases_.length : Int)) = true := by rw [decide_eq_true_eq]; omega
  have c3 : (0 < x.cases_.length ∧ qabw p x.on [] = 0) ↔ (decide (0 < (x.cases_.length : Int)) && (qabw p x.on [] == 0)) = true := by rw [Bool.and_eq_true, decide_eq_true_eq, beq_iff_eq]; omega
  simp only [propext c1, propext c2, propext c3, List.drop_zero, ne_eq, ite_not]
 generalize qaes p i x = F at hst
 generalize qabw p x.on [] = W at hst hwid
 generalize qacz p x.head = H at hst hhead
 replace hlead := Lib.hid hlead
 replace hwid := Lib.hid hwid
 replace hhead := Lib.hid hhead
 replace hst := Lib.hid hst
 have main : (x.head != -1 && !H) = false → decide (4 < (x.cases_.length : Int)) = false → (decide (0 < (x.cases_.length : Int)) && (W == 0)) = false → F = if qacd (qagu p i W) (x.cases_.drop 0) = 0 then qaf2 p i x.els else qacd (qagu p i W) (x.cases_.drop 0) := fun b1 b2 b3 => by
  have := hst.out; rw [b1, b2, b3] at this; exact this
 have hcs : ∀ c, qagu p i W c = if (qalk c.mask W || (bits .and .u64 c.value c.mask != c.value)) = true then 6 else qaf2 p i c.to_ := fun c => by
  unfold qagu; congr 1
  rw [show decide (bits .and .u64 c.value c.mask ≠ c.value) = (bits .and .u64 c.value c.mask != c.value) by rw [Bool.eq_iff_iff]; simp]
 have loop : F = (if qacd (qagu p i W) (x.cases_.drop 0) = 0 then qaf2 p i x.els else qacd (qagu p i W) (x.cases_.drop 0)) → SWp X (SCode.block 0 c_rstate_l1.loop) (QSeq X ((SCode.reg false qagz [4]).seq SCode.ret) (QFun X [ResultVar.tmp 4] 0 (SV.int IntKind.i64 F) []))
   ⟨[(1, .int .i64 i), (2, .ptr 0 0), (5, .ptr 7 0), (6, .int .i64 W), (7, .int .i64 0)], [(0, .cells 29 (qacu p)), (7, .cells 65 (qacc x))], 8⟩ := fun h0 => by
  clear main hst
  refine qaal (qaa5 (fun s (j : Nat) => s.turn [(7, .int .i64 j)] []) (fun j => j ≤ x.cases_.length ∧ F = if qacd (qagu p i W) (x.cases_.drop j) = 0 then qaf2 p i x.els else qacd (qagu p i W) (x.cases_.drop j)) (fun j => x.cases_.length - j) 0 ?_ ⟨by simp, h0⟩ ?_)
  ·repeat' (first | ((with_reducible refine qaah [] hm ?_ ?_ ?_ ?_) <;> (try simp only [zT, puth, Nat.reduceEqDiff, reduceIte, Nat.reduceAdd])) | (with_reducible first | refine za ?_ ?_ | refine zb ?_ ?_ ?_ ?_) | (with_reducible first | exact qaab | exact qaad) | ((with_reducible first | refine zga ?_ | refine zgb ?_); rfl) | ((with_reducible refine zgd ?_); (first | omega | (simp; done))) | (exact Co.refl _) | (exact CoL.refl _) | fail)
  rintro J hJ j ⟨h1, h2⟩
  unfold c_rstate_l1
  simp only [zT, puth, Nat.reduceEqDiff, reduceIte, Nat.reduceAdd] at h1 h2 ⊢
  rcases Nat.lt_or_ge j x.cases_.length with hj | hj
  ·rw [qaek _ hj] at h2
   generalize hcc : x.cases_[j] = c at h2
   rw [hcs c] at h2
   have hwd := fun q => qaqc c.mask W q
   have hld := fun q => hlead.out c.to_ q
   generalize qaf2 p i c.to_ = L at h2 hld
   generalize hwv : qalk c.mask W = V at h2 hwd
   generalize hbv : (bits .and .u64 c.value c.mask != c.value) = B at h2
   have wj : IntKind.i64.wrap ((j : Int) + 1) = (j : Int) + 1 := qaar (by omega) (by omega)
   replace h2 := Lib.hid h2
   replace hcs := Lib.hid hcs
   replace hld := Lib.hid hld
   replace hwv := Lib.hid hwv
   replace h0 := Lib.hid h0
   cases kV : V <;> cases kB : B <;> cases kL : (L != 0)
   all_goals
    rw [kV] at hwd
    rw [kB] at hbv
    repeat' (first | (with_reducible first | refine zA ?_ | refine qaae ?_) | ((with_reducible refine qaac ?_); (try rw [hP]); simp -implicitDefEqProofs [*]) | ((with_reducible refine qaaf ?_); (try simp -implicitDefEqProofs [*])) | ((with_reducible refine qaam ?_); (try simp only [qaap, qaag, qaai])) | ((with_reducible refine qaaa rfl (fun h => ?_) (fun h => ?_)) <;> have h' := h <;> (try simp at h') <;> (try subst h')) | ((first | refine qaa0 (hwd _) ?_ | refine qaa0 (hld.out _) ?_); simp -implicitDefEqProofs [*]) | (with_reducible refine zM hm ?_) | (with_reducible first | refine za ?_ ?_ | refine zb ?_ ?_ ?_ ?_) | (with_reducible first | exact qaab | exact qaad) | ((with_reducible first | refine zga ?_ | refine zgb ?_); rfl) | ((with_reducible first | refine zgd ?_ | refine zge ?_); (first | omega | (simp; done))) | (exact Co.refl _) | (exact CoL.refl _) | ((refine qaaj hJ (j + 1) ?_ ?_ ?_; (with_reducible refine qaah [] hm ?_ ?_ ?_ ?_) <;> (try simp only [zT, puth, Nat.reduceEqDiff, reduceIte, Nat.reduceAdd]))) | fail)
    have kL' := kL
    simp at kL'
    first | (refine ⟨by omega, ?_⟩; rw [h2.out]; simp [kV, kB, kL']; done) | (rw [h2.out]; simp [kV, kB, kL']; done) | skip
  ·obtain rfl : j = x.cases_.length := by omega
   rw [List.drop_length] at h2
   replace h2 := Lib.hid h2
   replace h0 := Lib.hid h0
   replace hcs := Lib.hid hcs
   repeat' (first | (with_reducible refine zA ?_) | ((with_reducible refine qaac ?_); (try rw [hP]); simp -implicitDefEqProofs [*]) | ((with_reducible refine qaak ?_); (try simp -implicitDefEqProofs [*])) | ((with_reducible refine qaam ?_); (try simp only [qaap, qaag, qaai])) | ((with_reducible refine qaaa rfl (fun h => ?_) (fun h => ?_)) <;> have h' := h <;> (try simp at h') <;> (try subst h')) | (refine qaa0 (hlead.out _ _) ?_; simp -implicitDefEqProofs [*]) | (with_reducible refine zM hm ?_) | fail)
   rw [h2.out]; rfl
 replace hcs := Lib.hid hcs
 replace loop := Lib.hid loop
 replace main := Lib.hid main
 cases k1 : (x.head != -1)
 all_goals cases k2 : H
 all_goals rw [k2] at hhead
 all_goals cases k3 : decide (4 < (x.cases_.length : Int))
 all_goals have kn : decide (0 < x.cases_.length) = decide (0 < (x.cases_.length : Int)) := decide_eq_decide.2 (by omega)
 all_goals cases k4 : decide (0 < (x.cases_.length : Int)) <;> rw [k4] at kn
 all_goals cases k5 : (W == 0)
 all_goals
  repeat' (first | (with_reducible refine zA ?_) | ((with_reducible refine qaac ?_); (try rw [hP]); simp -implicitDefEqProofs [*]) | ((with_reducible refine qaaf ?_); (try simp -implicitDefEqProofs [*])) | ((with_reducible refine qaam ?_); (try simp only [qaap, qaag, qaai])) | ((with_reducible refine qaaa rfl (fun h => ?_) (fun h => ?_)) <;> have h' := h <;> (try simp at h') <;> (try subst h')) | ((first | refine qaa0 (hhead.out _) ?_ | refine qaa0 (hwid.out _) ?_); simp -implicitDefEqProofs [*]) | (with_reducible refine zM hm ?_) | fail)
 all_goals (first | (have q := hst.out; simp only [k1, k2, k3, k4, k5, Bool.false_and, Bool.true_and, Bool.not_true, Bool.not_false, reduceIte, Bool.false_eq_true] at q; exact q.symm) | (have q := hst.out; simp [k1, k2, k3, k4, k5] at q; exact q.symm) | (have q := hst.out; simp [k1, k2, k3, k4] at q; exact q.symm) | skip)
 all_goals
  refine qac9 ?_ (loop.out (main.out (by simp only [k1, k2]; rfl) k3 (by simp only [k4, k5]; rfl)))
  repeat' (first | ((with_reducible refine qaah [] hm ?_ ?_ ?_ ?_) <;> (try simp only [zT, puth, Nat.reduceEqDiff, reduceIte, Nat.reduceAdd])) | (with_reducible first | refine za ?_ ?_ | refine zb ?_ ?_ ?_ ?_) | (with_reducible first | exact qaab | exact qaad) | ((with_reducible first | refine zga ?_ | refine zgb ?_); rfl) | ((with_reducible refine zgd ?_); (first | omega | (simp; done))) | (exact Co.refl _) | (exact CoL.refl _) | fail)
end Go.Proofs.Ytnfjldobjgdiaaa
namespace Go.Proofs.Ytnfjldobjgdiaaa
set_option linter.all false
open Go.RowKit
variable {w : World} {ρ : qacn} {fp : Nat → Nat → Prop} {O : Nat → Prop} {h1 : Hp}
theorem qafm (k : Nat) : ¬ Live [] fp k := fun ⟨_, _, h, _⟩ => by cases h
def Lent (h1 : Hp) (x y : SV) : Prop := ∀ (O : Nat → Prop) (ρ : qacn) (fp : Nat → Nat → Prop) (w : World) (v : Value), HeapOk O ρ fp h1 w → RepV w (fun k => O k ∨ Live h1 fp k) ρ x v → RepV w (fun k => O k ∨ Live [] fp k) ρ y v
def LentL (h1 : Hp) : List SV → List SV → Prop
 | [], [] => True
 | x :: xs, y :: ys => Lent h1 x y ∧ LentL h1 xs ys
 | _, _ => False
theorem qbbn {k : Nat} : (O k ∨ Live [] fp k) → O k ∨ Live h1 fp k := fun hk => hk.elim .inl fun h => absurd h (qafm k)
theorem qa9e (x : SV) : Lent h1 x x := fun _ _ _ _ _ _ hx => hx.weaken fun _ hk _ => qbbn hk
theorem qago : ∀ {xs ys}, LentL h1 xs ys → xs.length = ys.length
 | [], [], _ => rfl
 | _ :: _, _ :: _, h => by simp [qago h.2]
 | [], _ :: _, h => h.elim
 | _ :: _, [], h => h.elim
theorem qapv : ∀ {xs ys : List SV} {j : Nat} {y : SV}, LentL h1 xs ys → ys[j]? = some y → ∃ x, xs[j]? = some x ∧ Lent h1 x y
 | x :: xs, y :: ys, 0, _, h, hy => by cases hy; exact ⟨x, rfl, h.1⟩
 | x :: xs, y :: ys, j + 1, _, h, hy => qapv (xs := xs) (ys := ys) (j := j) h.2 (by simpa using hy)
 | [], [], _, _, _, hy => by simp at hy
 | [], _ :: _, _, _, h, _ => h.elim
 | _ :: _, [], _, _, h, _ => h.elim
theorem qbct {id z e : Nat} {es : List (List SV)} (ho : geth h1 id = some (.row e z es)) (hp : ∀ e ∈ es, qapb e) {n : Nat} (hn : n = es.length) : Lent h1 (.own id n) (.view z es) := fun O ρ fp w v hok hx => by
 subst hn
 obtain ⟨v0, us, how, ⟨hrep, huo⟩, hzs, hρ', hfp⟩ := hok.objs id _ ho
 generalize hn : es.length = n at hx
 cases hx with
 | own0 hρ => rw [List.eq_nil_of_length_eq_zero hn]; exact .view0 (by simp [maxLen]) (fun _ => rfl)
 | own hρ hnc hm =>
  rename_i b c
  rw [hρ] at hρ'
  have hp0 : qad6 v0 = some (b, c) := (Option.some.inj hρ').symm
  obtain ⟨hv0, hcell, hlt, _, _⟩ := qae7 how hp0
  have hown : fp id b := (hfp b).2 (by rw [hv0]; rfl)
  have hval : ∀ i e j x, es[i]? = some e → e[j]? = some x → ∃ u, us[i * z + j]? = some u ∧ RepV w (fun k => O k ∨ Live h1 fp k) ρ x u := fun i e j x he hx => hrep.get (qagq hzs he hx)
  refine .view (fun i j => us.getD (i * z + j) undef) hn hnc hm (fun hO => hO.elim (hok.lt b ⟨id, _, ho, hown⟩).2 (qafm b)) hlt hzs (fun i e j x he hx => ?_) (fun i e j x he hx => ?_) (fun i e j x he hx => ?_)
  ·obtain ⟨u, h1, h2⟩ := hval i e j x he hx
   rw [Nat.zero_add, List.getD_eq_getElem?_getD, h1]
   exact hcell _ _ h1
  ·obtain ⟨u, h1, h2⟩ := hval i e j x he hx
   rw [List.getD_eq_getElem?_getD, h1]
   exact (hp e (List.mem_of_getElem? he) x (List.mem_of_getElem? hx) _ _ _ _ h2).weaken fun k hk _ => qbbn hk
  ·obtain ⟨u, h1, h2⟩ := hval i e j x he hx
   rw [List.getD_eq_getElem?_getD, h1]
   exact huo u (List.mem_of_getElem? h1)
def qba4 (x : SV) : Prop := ∀ w A A' ρ v, RepV w A ρ x v → RepV w A' ρ x v
theorem qa17 (b : Bool) : qba4 (.bool b) := fun w A A' ρ v h => by cases h; exact .bool
def qbed (cs : List SV) : Prop := ∀ x ∈ cs, qba4 x
theorem qajs {A A' : Nat → Prop} {cs : List SV} {vs : List Value} (hc : qbed cs) (h : Reps w A ρ cs vs) : Reps w A' ρ cs vs :=
 ⟨h.1, fun j x v hx hv => hc x (List.mem_of_getElem? hx) _ _ _ _ _ (h.2 j x v hx hv)⟩
def CleanO : SObj → Prop
 | .cells _ cs => qbed cs
 | .row _ _ es => ∀ e ∈ es, qbed e
 | .abs _ => False
theorem qa9w {A A' : Nat → Prop} {id : Nat} {F : Nat → Prop} {o : SObj} (hc : CleanO o) (h : ObjRep w A ρ id F o) : ObjRep w A' ρ id F o := by
 cases o with
 | cells t cs =>
  obtain ⟨b, c, vs, q1, q2, ⟨q3, q4⟩, q5⟩ := h
  exact ⟨b, c, vs, q1, q2, ⟨qajs hc q3, q4⟩, q5⟩
 | row e z es =>
  obtain ⟨v, vs, q1, ⟨q2, q3⟩, q4, q5, q6⟩ := h
  exact ⟨v, vs, q1, ⟨qajs (fun x hx => by obtain ⟨e, he, hx⟩ := List.mem_flatten.1 hx; exact hc e he x hx) q2, q3⟩, q4, q5, q6⟩
 | abs I => exact hc.elim
theorem qaq3 (h1 h2 : Hp) (id : Nat) : geth (h1 ++ h2) id = match geth h1 id with | some o => some o | none => geth h2 id := by
 induction h1 with
 | nil => rfl
 | cons p h1 ih =>
  obtain ⟨i, o⟩ := p
  rw [List.cons_append]
  simp only [geth]
  split
  ·rfl
  ·exact ih
theorem qaqu {P : Program} {f : FuncId} {args args' : List SV} {h1 h2 : Hp} {q : Nat} {r : SV} (h : SCalls P f args' [] q r h2) (ha : LentL h1 args args') (hr : qba4 r) (hc : ∀ id o, geth h2 id = some o → CleanO o)
  (hd : ∀ id, geth h1 id ≠ none → geth h2 id = none) : SCalls P f args h1 q r (h1 ++ h2) := by
 refine ⟨h.ent, fun O ρ fp w vs hok hargs hfr => ?_⟩
 have hargs' : Reps w (fun k => O k ∨ Live [] fp k) ρ args' vs := by
  refine ⟨by rw [← qago ha]; exact hargs.1, fun j y v hy hv => ?_⟩
  obtain ⟨x, h1, h2⟩ := qapv ha hy
  exact h2 O ρ fp w v hok (hargs.2 j x v h1 hv)
 refine (h.does O ρ fp w vs ⟨fun id o ho => (by cases ho), fun id id' o o' _ ho => (by cases ho), fun k hk => absurd hk (qafm k), hok.O_lt⟩ hargs' hfr).mono ?_
 rintro e w' ⟨v, ρ', fp', rfl, hk, hv, hst, hρ, hnew, hfp⟩
 have hst' : ∀ S : Nat → Prop, Step S w w' := fun S => hst.mono fun k hk => absurd hk (qafm k)
 have hbig : ∀ id o, geth h2 id = some o → ∀ k, fp' id k → w.heap.size ≤ k := fun id o ho k hk => (hfp id o ho k hk).elim (fun h => absurd h (qafm k)) fun h => h
 have hg : ∀ id o, geth (h1 ++ h2) id = some o → geth h1 id = some o ∧ geth h2 id = none ∨ geth h1 id = none ∧ geth h2 id = some o := fun id o ho => by
  rw [qaq3] at ho
  cases e : geth h1 id with
  | some o' => rw [e] at ho; cases ho; exact .inl ⟨rfl, hd id (by rw [e]; simp)⟩
  | none => rw [e] at ho; exact .inr ⟨rfl, ho⟩
 let F : Nat → Nat → Prop := fun id k => (geth h2 id ≠ none ∧ fp' id k) ∨ (geth h2 id = none ∧ fp id k)
 have F1 : ∀ id, geth h2 id = none → F id = fp id := fun id hn => by funext k; simp [F, hn]
 have F2 : ∀ id o, geth h2 id = some o → F id = fp' id := fun id o hn => by funext k; simp [F, hn]
 have hav : ∀ k, (O k ∨ Live (h1 ++ h2) F k) → k < w.heap.size → O k ∨ Live h1 fp k := by
  rintro k (hO | ⟨id, o, ho, hk'⟩) hlt
  ·exact .inl hO
  ·rcases hg id o ho with ⟨q1, q2⟩ | ⟨q1, q2⟩
   ·rw [F1 id q2] at hk'; exact .inr ⟨id, o, q1, hk'⟩
   ·rw [F2 id o q2] at hk'; exact absurd (hbig id o q2 k hk') (by omega)
 refine ⟨v, ρ', F, rfl, ⟨fun id o ho => ?_, fun id id' o o' hne ho ho' k hk' hk2 => ?_, ?_, hk.O_lt⟩, hr _ _ _ _ _ hv, hst' _, hρ, hnew, fun id o ho k hk' => ?_⟩
 ·rcases hg id o ho with ⟨q1, q2⟩ | ⟨q1, q2⟩
  ·rw [F1 id q2]
   exact (hok.objs id o q1).mono ⟨hst' _, hav, hρ⟩ fun k hk' => hst.block k (hok.lt k ⟨id, o, q1, hk'⟩).1 (qafm k)
  ·rw [F2 id o q2]
   exact qa9w (hc id o q2) (hk.objs id o q2)
 ·rcases hg id o ho with ⟨q1, q2⟩ | ⟨q1, q2⟩ <;> rcases hg id' o' ho' with ⟨q3, q4⟩ | ⟨q3, q4⟩
  ·rw [F1 id q2] at hk'; rw [F1 id' q4] at hk2; exact hok.disj id id' o o' hne q1 q3 k hk' hk2
  ·rw [F1 id q2] at hk'; rw [F2 id' o' q4] at hk2
   have := (hok.lt k ⟨id, o, q1, hk'⟩).1; have := hbig id' o' q4 k hk2; omega
  ·rw [F2 id o q2] at hk'; rw [F1 id' q4] at hk2
   have := (hok.lt k ⟨id', o', q3, hk2⟩).1; have := hbig id o q2 k hk'; omega
  ·rw [F2 id o q2] at hk'; rw [F2 id' o' q4] at hk2; exact hk.disj id id' o o' hne q2 q4 k hk' hk2
 ·rintro k ⟨id, o, ho, hk'⟩
  rcases hg id o ho with ⟨q1, q2⟩ | ⟨q1, q2⟩
  ·rw [F1 id q2] at hk'
   have := hok.lt k ⟨id, o, q1, hk'⟩
   exact ⟨Nat.lt_of_lt_of_le this.1 hst.size, this.2⟩
  ·rw [F2 id o q2] at hk'
   exact hk.lt k ⟨id, o, q2, hk'⟩
 ·rcases hg id o ho with ⟨q1, q2⟩ | ⟨q1, q2⟩
  ·rw [F1 id q2] at hk'; exact .inl ⟨id, o, q1, hk'⟩
  ·rw [F2 id o q2] at hk'; exact .inr (hbig id o q2 k hk')
theorem qaqt {P : Program} {f : FuncId} {args args' : List SV} {h1 : Hp} {q : Nat} {r : SV} (h : SCalls P f args' [] q r []) (ha : LentL h1 args args') (hr : qba4 r) : SCalls P f args h1 q r h1 := by
 have := qaqu h ha hr (fun id o ho => by cases ho) fun _ _ => rfl
 rwa [List.append_nil] at this
end Go.Proofs.Ytnfjldobjgdiaaa
namespace Go.Proofs.Ytnfjldobjgdiaaa
set_option linter.all false
open Go.RowKit
attribute [local simp] qabg qabf qaas qaaz qaat qaay qabd qabe qaao qabn SOp.run SX.ev putd puts argS upds SOp.touch SSt.keep SSt.skip gets geth puth delh idOf SV.cells? setL qac5 qac6 sbin eq0 eq1 eqL qac4 qab1 qab2 qaap qabh qaag qabi qabo qaai qaaq FrzOk qaa9 qaa3 qaa7 qaa8 qaau qaa2 qabl qaa4 qaaw qaba qaav frzS frzH frz frz1 frz0 SlotsM ObjsM ObjM rn ren ren1 ren0 qabu qaca qacf qabt qabm qacg qace CoL qabb qach dels adds idsH qab3
attribute [local simp] qads refc qae3 qaet qacc opc actc tabc qad7 qacu nums
def qadj (n : Nat) : List Int → List Int → List Int
 | [], acc => acc
 | t :: ts, acc => if (decide (tgt n t ≤ n) && !acc.contains (tgt n t)) = true then qadj n ts (acc ++ [tgt n t]) else qadj n ts acc
def qaha (p : PlanD) (s : StateD) : List Int := qadj p.states.length (qacq s) []
theorem qafn (n : Nat) (k : Int) : ∀ (ts acc : List Int), k ∈ qadj n ts acc ↔ k ∈ acc ∨ (k ≤ n ∧ ∃ t ∈ ts, tgt n t = k)
 | [], acc => by simp [qadj]
 | t :: ts, acc => by
  unfold qadj
  by_cases h : (decide (tgt n t ≤ n) && !acc.contains (tgt n t)) = true
  ·rw [if_pos h, qafn n k ts]
   rw [Bool.and_eq_true, decide_eq_true_eq, Bool.not_eq_true'] at h
   constructor
   ·rintro (h1 | ⟨h1, t', h2, h3⟩)
    ·rcases List.mem_append.1 h1 with h1 | h1
     ·exact .inl h1
     ·rw [List.mem_singleton.1 h1]; exact .inr ⟨h.1, t, by simp, rfl⟩
    ·exact .inr ⟨h1, t', by simp [h2], h3⟩
   ·rintro (h1 | ⟨h1, t', h2, h3⟩)
    ·exact .inl (List.mem_append_left _ h1)
    ·rcases List.mem_cons.1 h2 with e | e
     ·rw [← h3, e]; exact .inl (List.mem_append_right _ (by simp))
     ·exact .inr ⟨h1, t', e, h3⟩
  ·rw [if_neg h, qafn n k ts]
   rw [Bool.and_eq_true, decide_eq_true_eq, Bool.not_eq_true'] at h
   constructor
   ·rintro (h1 | ⟨h1, t', h2, h3⟩)
    ·exact .inl h1
    ·exact .inr ⟨h1, t', by simp [h2], h3⟩
   ·rintro (h1 | ⟨h1, t', h2, h3⟩)
    ·exact .inl h1
    ·rcases List.mem_cons.1 h2 with e | e
     ·subst e
      have : acc.contains (tgt n t') = true := by
       by_cases hc : acc.contains (tgt n t') = true
       ·exact hc
       ·exact absurd ⟨by omega, by simpa using hc⟩ h
      rw [h3] at this
      exact .inl (by simpa using this)
     ·exact .inr ⟨h1, t', e, h3⟩
theorem qad9 (n : Nat) : ∀ (ts acc : List Int), acc.Nodup → (qadj n ts acc).Nodup
 | [], acc, h => h
 | t :: ts, acc, h => by
  unfold qadj
  by_cases hc : (decide (tgt n t ≤ n) && !acc.contains (tgt n t)) = true
  ·rw [if_pos hc]
   refine qad9 n ts _ ?_
   rw [Bool.and_eq_true, Bool.not_eq_true'] at hc
   rw [List.nodup_append]
   refine ⟨h, by simp, fun a ha b hb => ?_⟩
   rw [List.mem_singleton.1 hb]
   intro e
   rw [e] at ha
   have : acc.contains (tgt n t) = true := by simpa using ha
   rw [this] at hc; exact absurd hc.2 (by decide)
  ·rw [if_neg hc]; exact qad9 n ts acc h
theorem qafo (n : Nat) : ∀ (ts acc : List Int), (qadj n ts acc).length ≤ acc.length + ts.length
 | [], acc => by simp [qadj]
 | t :: ts, acc => by
  unfold qadj
  split
  ·have := qafo n ts (acc ++ [tgt n t]); simp at this; simp; omega
  ·have := qafo n ts acc; simp; omega
theorem in_look (acc : List Int) (v : Int) (hl : acc.length ≤ 1000000) (R q : Nat) : SCalls Try.prog 43 [.own R acc.length, .int .i64 v] [(R, .row 3 1 (acc.map fun x => [SV.int .i64 x]))] q (.bool (acc.contains v)) [(R, .row 3 1 (acc.map fun x => [SV.int .i64 x]))] := by
 have hr : Lent [(R, .row 3 1 (acc.map fun x => [SV.int .i64 x]))] (.own R acc.length) (nums .i64 acc) := qbct (e := 3) (by simp [geth]) (qapn _ _) (by simp)
 exact qaqt (rin_s acc v hl q) ⟨hr, qa9e _, trivial⟩ (qa17 _)
theorem qaeg (s : StateD) : (qacq s).length = s.cases_.length + 1 := by simp [qacq]
theorem qa0v (s : StateD) {k : Nat} (hk : k ≤ s.cases_.length) : (qacq s)[k]'(by rw [qaeg]; omega) = if h : k < s.cases_.length then s.cases_[k].to_ else s.els := by
 unfold qacq
 by_cases h : k < s.cases_.length
 ·rw [dif_pos h, List.getElem_append_left (by simpa using h), List.getElem_map]
 ·rw [dif_neg h, List.getElem_append_right (by simp; omega)]
  simp
set_option maxHeartbeats 4000000 in
theorem qbcc (p : PlanD) (hp : PlOk p) (i : Nat) (hi : i < p.states.length) (q : Nat) : SCalls Try.prog 78 [.agg (qacu p), .int .i64 i] [] q (nums .i64 (qaha p p.states[i])) [] := by
 refine qabj ?_ (fun _ => rfl) (fun _ => rfl) rfl q
 refine qaax (N := 65) Try.func78 rfl rfl (by kernel_rfl) qajp (by simp) (by repeat' (first | exact trivial | refine And.intro ?_ ?_ | rfl | decide | exact PureR.ren _)) (by repeat' (first | exact trivial | refine And.intro ?_ ?_ | rfl | decide | exact PureR.ren _)) ?_
 rintro X hP hN hm
 have hcl := (hp.ok i hi).cases_
 have hn := hp.states.2
 clear hp
 generalize hxx : p.states[i] = x at hcl
 have hF : qaha p x = qadj p.states.length ((qacq x).drop 0) [] := rfl
 generalize qaha p x = F at hF
 replace hF := Lib.hid hF
 unfold c_rleads
 repeat' (first | (with_reducible refine zA ?_) | ((with_reducible refine qaac ?_); (try rw [hP]); simp -implicitDefEqProofs [*]) | fail)
 refine qac9 (qaia 5 3 1 rfl) ?_
 simp only [zT, puth, Nat.reduceEqDiff, reduceIte, Nat.reduceAdd]
 refine qaal (qaa5 (fun s (z : Nat × List Int) => s.turn [(5, .own 4 z.2.length), (6, .int .i64 z.1)] [(4, .row 3 1 (z.2.map fun x => [SV.int .i64 x]))]) (fun z => z.1 ≤ x.cases_.length + 1 ∧ z.2.length ≤ z.1 ∧ F = qadj p.states.length ((qacq x).drop z.1) z.2) (fun z => x.cases_.length + 1 - z.1) (0, []) ?_ ⟨by simp, by simp, hF.out⟩ ?_)
 ·repeat' (first | ((with_reducible refine qaah [] hm ?_ ?_ ?_ ?_) <;> (try simp only [zT, puth, Nat.reduceEqDiff, reduceIte, Nat.reduceAdd])) | (with_reducible first | refine za ?_ ?_ | refine zb ?_ ?_ ?_ ?_ | refine zc ?_ ?_ ?_ ?_) | (with_reducible first | exact qaab | exact qaad) | ((with_reducible first | refine zga ?_ | refine zgb ?_); rfl) | ((with_reducible refine zgc ?_); (first | (with_reducible rfl) | rfl | (simp; done))) | ((with_reducible refine zgd ?_); (first | omega | (simp; done))) | (exact Co.refl _) | (exact CoL.refl _) | fail)
 rintro J hJ ⟨k, acc⟩ ⟨h1, h2, h3⟩
 unfold qahz
 simp only [zT, puth, Nat.reduceEqDiff, reduceIte, Nat.reduceAdd] at h1 h2 h3 ⊢
 rcases Nat.lt_or_ge x.cases_.length k with hk | hk
 ·obtain rfl : k = x.cases_.length + 1 := by omega
  rw [List.drop_of_length_le (by rw [qaeg]; exact Nat.le_refl _)] at h3
  have h4 : F = acc := h3
  subst h4
  clear h3
  replace hF := Lib.hid hF
  have kx : decide ((x.cases_.length : Int) + 1 ≤ x.cases_.length) = false := by rw [decide_eq_false_iff_not]; omega
  repeat' (first | (with_reducible refine zA ?_) | ((with_reducible refine qaac ?_); (try rw [hP]); simp -implicitDefEqProofs [*]) | ((with_reducible refine qaak ?_); (try simp -implicitDefEqProofs [*])) | ((with_reducible refine qaam ?_); (try simp only [qaap, qaag, qaai])) | ((with_reducible refine qaaa rfl (fun h => ?_) (fun h => ?_)) <;> have h' := h <;> (try simp at h') <;> (try subst h')) | (refine qap9 hm rfl rfl ?_ rfl) | fail)
  all_goals simp
 ·have hbm : acc.length + 1 ≤ maxLen := by unfold maxLen; omega
  have wk1 : IntKind.i64.wrap ((k : Int) + 1) = (k : Int) + 1 := qaar (by omega) (by omega)
  have hkl : k < (qacq x).length := by rw [qaeg]; omega
  rw [List.drop_eq_getElem_cons hkl] at h3
  have hta := qa0v x hk
  have hlen' : ((acc.map fun x => [SV.int .i64 x])).length = acc.length := by simp
  have hgo : ∀ (t : Int) (C : Bool) (K : Int), acc.contains K = C → K = tgt p.states.length t → (qacq x)[k] = t → F = if (decide (K ≤ p.states.length) && !C) = true then qadj p.states.length ((qacq x).drop (k + 1)) (acc ++ [K]) else qadj p.states.length ((qacq x).drop (k + 1)) acc := fun t C K hC hK ht => by
   rw [h3, ht, ← hC, hK]; rfl
  have hin := fun K q => in_look acc K (by omega) 4 q
  have hrow : ∀ K, (acc.map fun x => [SV.int .i64 x]) ++ [[SV.int .i64 K]] = (acc ++ [K]).map fun x => [SV.int .i64 x] := fun K => by rw [List.map_append]; rfl
  have hal : ∀ K, (acc ++ [K]).length = acc.length + 1 := fun K => by simp
  clear h3
  replace hF := Lib.hid hF
  replace hgo := Lib.hid hgo
  replace hin := Lib.hid hin
  replace hrow := Lib.hid hrow
  have hcase : (∃ (h : k < x.cases_.length) (t : Int), x.cases_[k].to_ = t ∧ (qacq x)[k] = t) ∨ (x.cases_.length = k ∧ ∃ t, x.els = t ∧ (qacq x)[k] = t) := by
   by_cases hlt : k < x.cases_.length
   ·rw [dif_pos hlt] at hta; exact .inl ⟨hlt, _, rfl, hta⟩
   ·rw [dif_neg hlt] at hta; exact .inr ⟨by omega, _, rfl, hta⟩
  clear hta
  rcases hcase with ⟨hlt, t, ht, hta⟩ | ⟨hlt, t, ht, hta⟩
  all_goals
   have hK : tgt p.states.length t = if t = 1000 then (p.states.length : Int) else t := rfl
   have hE := fun C h => hgo.out t C (tgt p.states.length t) h rfl hta
   have hi4 := fun q => hin.out (tgt p.states.length t) q
   have hr4 := hrow.out (tgt p.states.length t)
   have ha4 := hal (tgt p.states.length t)
   clear hta hgo hin hrow hal
   generalize tgt p.states.length t = K at hK hE hi4 hr4 ha4
   cases hC : acc.contains K
   all_goals
    rw [hC] at hi4
    have hE2 := hE _ hC
    clear hE
    replace hC := Lib.hid hC
    replace hi4 := Lib.hid hi4
    replace hr4 := Lib.hid hr4
    cases kb : decide (K ≤ (p.states.length : Int))
    all_goals
     rw [kb] at hE2
     replace hE2 := Lib.hid hE2
     cases kt : (t == 1000)
     all_goals
      first
      | (have e : K = t := by rw [hK, if_neg (by simpa using kt)]
         subst e)
      | (have e : K = (p.states.length : Int) := by rw [hK, if_pos (by simpa using kt)]
         subst e)
      replace hK := Lib.hid hK
      try (exfalso; simp at kb; done)
     all_goals
      repeat' (first | (with_reducible first | refine zA ?_ | refine qaae ?_) | ((with_reducible refine qaac ?_); (try rw [hP]); simp -implicitDefEqProofs [*]) | ((with_reducible refine qaaf ?_); (try simp -implicitDefEqProofs [*])) | ((with_reducible refine qaaa rfl (fun h => ?_) (fun h => ?_)) <;> have h' := h <;> (try simp at h') <;> (try subst h')) | ((with_reducible refine qabv ?_ ?_); (first | omega | (unfold maxLen; omega)); simp -implicitDefEqProofs [*]) | (refine call_r (hi4.out _) ⟨rfl, trivial⟩ ⟨rfl, trivial⟩ ?_; simp -implicitDefEqProofs [*]) | fail)
      first
      | (refine qaaj hJ (k + 1, acc) ?_ (And.intro ?_ (And.intro ?_ hE2.out)) ?_
         rotate_left
         (focus (dsimp only; omega))
         (focus (dsimp only; omega))
         (focus (dsimp only; omega))
         (with_reducible refine qaah [] hm ?_ ?_ ?_ ?_) <;> (try simp only [zT, puth, Nat.reduceEqDiff, reduceIte, Nat.reduceAdd]))
      | (refine qaaj hJ (k + 1, acc ++ [_]) ?_ (And.intro ?_ (And.intro ?_ hE2.out)) ?_
         rotate_left
         (focus (dsimp only; omega))
         (focus (dsimp only; omega))
         (focus (dsimp only; omega))
         (with_reducible refine qaah [(4, ?_)] hm ?_ ?_ ?_ ?_) <;> (try simp only [zT, puth, Nat.reduceEqDiff, reduceIte, Nat.reduceAdd]))
      all_goals (try simp only [List.length_append, List.length_cons, List.length_nil, Nat.zero_add])
      repeat' (first | (with_reducible first | refine za ?_ ?_ | refine zb ?_ ?_ ?_ ?_ | refine zc ?_ ?_ ?_ ?_) | (with_reducible first | exact qaab | exact qaad) | ((with_reducible first | refine zga ?_ | refine zgb ?_); rfl) | ((with_reducible refine zgc ?_); (first | (with_reducible rfl) | rfl | (simp; done))) | ((with_reducible refine zgd ?_); (first | omega | (simp; done))) | (exact Co.refl _) | (exact CoL.refl _) | fail)
      all_goals (exact hr4.out)
end Go.Proofs.Ytnfjldobjgdiaaa
namespace Go.Proofs.Ytnfjldobjgdiaaa
set_option linter.all false
open Go.RowKit
structure WayD where
 st : Nat
 taken : BitVec 64
 bytes : Int
def wayc (w : WayD) : List SV := [.int .i64 w.st, .int .u64 w.taken.toNat, .int .i64 w.bytes]
def qais (p : PlanD) (w : WayD) : List WayD := if h : w.st < p.states.length then (qaha p p.states[w.st]).map (fun k => ⟨k.toNat, (qaph p p.states[w.st].head (w.taken, w.bytes)).1, (qaph p p.states[w.st].head (w.taken, w.bytes)).2⟩) else []
def qait (p : PlanD) : Nat → List WayD → Nat → List WayD
 | 0, out, _ => out
 | f + 1, out, i => if h : i < out.length then qait p f (out ++ qais p out[i]) (i + 1) else out
def gs : List Nat → Nat
 | [] => 0
 | x :: l => 2 ^ x + gs l
theorem qap0 : ∀ a b, gs (a ++ b) = gs a + gs b
 | [], b => by simp [gs]
 | x :: a, b => by simp only [List.cons_append, gs, qap0 a b]; omega
theorem gs_len : ∀ l, l.length ≤ gs l
 | [] => Nat.le_refl _
 | x :: l => by have := gs_len l; have := Nat.one_le_two_pow (n := x); simp only [List.length_cons, gs]; omega
theorem qa1u (m : Nat) : ∀ l, m ∈ l → gs l = 2 ^ m + gs (l.erase m)
 | [], h => by cases h
 | x :: l, h => by
  by_cases e : x = m
  ·subst e; simp [gs]
  ·have h2 : m ∈ l := by rcases List.mem_cons.1 h with q | q; exact absurd q.symm e; exact q
   rw [List.erase_cons_tail (by simpa using e)]
   simp only [gs]
   rw [qa1u m l h2]; omega
theorem gs_lt : ∀ (m : Nat) (l : List Nat), l.Nodup → (∀ x ∈ l, x < m) → gs l < 2 ^ m
 | 0, l, _, h => by
  have : l = [] := by
   cases l with
   | nil => rfl
   | cons x l => exact absurd (h x (by simp)) (by omega)
  subst this; simp [gs]
 | m + 1, l, hn, h => by
  rw [Nat.pow_succ]
  by_cases hm : m ∈ l
  ·rw [qa1u m l hm]
   have := gs_lt m (l.erase m) (hn.erase m) (fun x hx => by
    have h1 := h x (List.mem_of_mem_erase hx)
    have h2 : x ≠ m := fun e => by subst e; exact (List.Nodup.not_mem_erase hn) hx
    omega)
   omega
  ·have := gs_lt m l hn (fun x hx => by
    have h1 := h x hx
    have h2 : x ≠ m := fun e => by subst e; exact hm hx
    omega)
   omega
def phi (p : PlanD) (l : List WayD) : Nat := gs (l.map fun w => p.states.length - w.st)
theorem qa1o {p : PlanD} {s : StateD} {k : Int} : k ∈ qaha p s ↔ (k ≤ p.states.length ∧ ∃ t ∈ qacq s, tgt p.states.length t = k) := by
 unfold qaha; rw [qafn]; simp
theorem qafd {p : PlanD} (hp : PlOk p) {i : Nat} (hi : i < p.states.length) {k : Int} (hk : k ∈ qaha p p.states[i]) : (i : Int) < k ∧ k ≤ p.states.length ∧ Leads p p.states[i] k.toNat := by
 obtain ⟨h1, t, h2, h3⟩ := qa1o.1 hk
 have := qa8z (hp.ok i hi) hi hp.states.2 h2
 refine ⟨by omega, h1, by omega, t, h2, by omega⟩
theorem qagn {α β : Type} {f : α → β} : ∀ {l : List α}, (∀ a ∈ l, ∀ b ∈ l, f a = f b → a = b) → l.Nodup → (l.map f).Nodup
 | [], _, _ => by simp
 | x :: l, h, hn => by
  rw [List.nodup_cons] at hn
  rw [List.map_cons, List.nodup_cons]
  refine ⟨fun hm => ?_, qagn (fun a ha b hb e => h a (by simp [ha]) b (by simp [hb]) e) hn.2⟩
  obtain ⟨y, hy, e⟩ := List.mem_map.1 hm
  have := h x (by simp) y (by simp [hy]) e.symm
  exact hn.1 (by rw [this]; exact hy)
theorem qbcf {p : PlanD} (hp : PlOk p) (w : WayD) : phi p (qais p w) < 2 ^ (p.states.length - w.st) := by
 unfold phi qais
 by_cases h : w.st < p.states.length
 ·rw [dif_pos h, List.map_map]
  refine gs_lt _ _ ?_ ?_
  ·refine qagn (fun a ha b hb e => ?_) (qad9 _ _ _ (by simp))
   have h1 := qafd hp h ha
   have h2 := qafd hp h hb
   simp only [Function.comp] at e
   omega
  ·intro x hx
   obtain ⟨k, hk, rfl⟩ := List.mem_map.1 hx
   have h1 := qafd hp h hk
   simp only [Function.comp]; omega
 ·rw [dif_neg h]; simp [gs]; exact Nat.two_pow_pos _
structure InvW (p : PlanD) (out : List WayD) (i : Nat) : Prop where
 sound : ∀ w ∈ out, w.st ≤ p.states.length ∧ RW p w.st w.st (w.taken, w.bytes)
 le : i ≤ out.length
 fin : i + phi p (out.drop i) ≤ 256
 start : (⟨0, 0, 0⟩ : WayD) ∈ out
 closed : ∀ (j : Nat) (hj : j < out.length), j < i → ∀ v ∈ qais p out[j], v ∈ out
theorem qa1n {p : PlanD} (hp : PlOk p) {w : WayD} (h : RW p w.st w.st (w.taken, w.bytes)) {v : WayD} (hv : v ∈ qais p w) : v.st ≤ p.states.length ∧ RW p v.st v.st (v.taken, v.bytes) := by
 unfold qais at hv
 by_cases hs : w.st < p.states.length
 ·rw [dif_pos hs] at hv
  obtain ⟨k, hk, rfl⟩ := List.mem_map.1 hv
  have h1 := qafd hp hs hk
  refine ⟨by show k.toNat ≤ _; omega, ?_⟩
  show RW p k.toNat k.toNat _
  have h2 : RW p (w.st + 1) k.toNat (qaph p p.states[w.st].head (w.taken, w.bytes)) := .inr ⟨hs, _, h, h1.2.2, rfl⟩
  have stay : ∀ j, w.st + 1 ≤ j → j ≤ p.states.length → ∀ k y, RW p (w.st + 1) k y → RW p j k y := by
   intro j
   induction j with
   | zero => intro h; omega
   | succ j ih =>
    intro h3 h4 k y h5
    by_cases e : w.st + 1 = j + 1
    ·rw [← e]; exact h5
    ·exact .inl (ih (by omega) (by omega) k y h5)
  exact stay k.toNat (by omega) (by omega) _ _ h2
 ·rw [dif_neg hs] at hv; cases hv
theorem qaii {p : PlanD} (hp : PlOk p) : InvW p [⟨0, 0, 0⟩] 0 := by
 refine ⟨fun w hw => ?_, by simp, ?_, by simp, fun j _ hj => by omega⟩
 ·rw [List.mem_singleton.1 hw]; exact ⟨by simp, rfl, rfl⟩
 ·have := hp.states.2
  have h2 : 2 ^ p.states.length ≤ 2 ^ 8 := Nat.pow_le_pow_right (by omega) this
  simp [phi, gs]; omega
theorem qa1s {p : PlanD} (hp : PlOk p) {out : List WayD} {i : Nat} (h : InvW p out i) (hi : i < out.length) : InvW p (out ++ qais p out[i]) (i + 1) ∧ phi p ((out ++ qais p out[i]).drop (i + 1)) < phi p (out.drop i) := by
 have hw := h.sound out[i] (List.getElem_mem hi)
 have hd : (out ++ qais p out[i]).drop (i + 1) = out.drop (i + 1) ++ qais p out[i] := by rw [List.drop_append_of_le_length (by omega)]
 have hph : phi p (out.drop i) = 2 ^ (p.states.length - out[i].st) + phi p (out.drop (i + 1)) := by
  unfold phi; rw [List.drop_eq_getElem_cons hi]; rfl
 have hph2 : phi p ((out ++ qais p out[i]).drop (i + 1)) = phi p (out.drop (i + 1)) + phi p (qais p out[i]) := by
  rw [hd]; unfold phi; rw [List.map_append, qap0]
 have hlt := qbcf hp out[i]
 refine ⟨⟨fun w hw' => ?_, by simp; omega, by have := h.fin; omega, List.mem_append_left _ h.start, fun j hj hj2 v hv => ?_⟩, by omega⟩
 ·rcases List.mem_append.1 hw' with q | q
  ·exact h.sound w q
  ·exact qa1n hp hw.2 q
 ·have hjl : j < out.length := by omega
  rw [List.getElem_append_left hjl] at hv
  by_cases e : j = i
  ·subst e; exact List.mem_append_right _ hv
  ·exact List.mem_append_left _ (h.closed j hjl (by omega) v hv)
theorem qbbp {p : PlanD} {out : List WayD} {i : Nat} (h : InvW p out i) : out.length ≤ 256 := by
 have h1 := h.fin
 have h2 := gs_len ((out.drop i).map fun w => p.states.length - w.st)
 rw [List.length_map, List.length_drop] at h2
 unfold phi at h1; have := h.le; omega
def qa0s (p : PlanD) : List WayD := qait p 257 [⟨0, 0, 0⟩] 0
theorem qa0r {p : PlanD} (hp : PlOk p) : ∀ f out i, InvW p out i → phi p (out.drop i) < f → ∃ j, InvW p (qait p f out i) j ∧ (qait p f out i).length ≤ j
 | 0, out, i, _, h => by omega
 | f + 1, out, i, h, hf => by
  unfold qait
  by_cases hi : i < out.length
  ·rw [dif_pos hi]
   obtain ⟨h1, h2⟩ := qa1s hp h hi
   exact qa0r hp f _ _ h1 (by omega)
  ·rw [dif_neg hi]; exact ⟨i, h, by omega⟩
theorem qalo {p : PlanD} (hp : PlOk p) : ∃ j, InvW p (qa0s p) j ∧ (qa0s p).length ≤ j := qa0r hp 257 _ 0 (qaii hp) (by have := (qaii hp).fin; omega)
theorem ways_rw {p : PlanD} (hp : PlOk p) {k : Nat} (hk : k ≤ p.states.length) (y : TB) : (∃ w ∈ qa0s p, w.st = k ∧ y = (w.taken, w.bytes)) ↔ RW p p.states.length k y := by
 obtain ⟨j, h, hj⟩ := qalo hp
 have stay := qa05 hp (k := k) p.states.length hk (Nat.le_refl _) y
 constructor
 ·rintro ⟨w, hw, e1, e2⟩
  have := (h.sound w hw).2
  rw [stay, ← e1, e2]; exact this
 ·have main : ∀ i k y, i ≤ p.states.length → k ≤ p.states.length → RW p i k y → ∃ w ∈ qa0s p, w.st = k ∧ y = (w.taken, w.bytes) := by
   intro i
   induction i with
   | zero => intro k y _ _ hr; exact ⟨_, h.start, hr.1.symm, hr.2⟩
   | succ i ih =>
    intro k y hi hk hr
    rcases hr with hr | ⟨hlt, z, h1, h2, h3⟩
    ·exact ih k y (by omega) hk hr
    ·obtain ⟨w, hw, e1, e2⟩ := ih i z (by omega) (by omega) h1
     obtain ⟨m, hm, e3⟩ := List.getElem_of_mem hw
     refine ⟨⟨k, y.1, y.2⟩, h.closed m hm (by omega) _ ?_, rfl, rfl⟩
     rw [e3]
     unfold qais
     rw [dif_pos (by omega)]
     subst e1
     refine List.mem_map.2 ⟨(k : Int), qa1o.2 ⟨by have := h2.1; omega, h2.2⟩, ?_⟩
     rw [h3, e2]; rfl
  exact main _ _ _ (Nat.le_refl _) hk
end Go.Proofs.Ytnfjldobjgdiaaa
namespace Go.Proofs.Ytnfjldobjgdiaaa
set_option linter.all false
open Go.RowKit
attribute [local simp] qabg qabf qaas qaaz qaat qaay qabd qabe qaao qabn SOp.run SX.ev putd puts argS upds SOp.touch SSt.keep SSt.skip gets geth puth delh idOf SV.cells? setL qac5 qac6 sbin eq0 eq1 eqL qac4 qab1 qab2 qaap qabh qaag qabi qabo qaai qaaq FrzOk qaa9 qaa3 qaa7 qaa8 qaau qaa2 qabl qaa4 qaaw qaba qaav frzS frzH frz frz1 frz0 SlotsM ObjsM ObjM rn ren ren1 ren0 qabu qaca qacf qabt qabm qacg qace CoL qabb qach dels adds idsH qab3
attribute [local simp] qads refc qae3 qaet qacc opc actc tabc qad7 qacu nums wayc
instance : PureF wayc := ⟨fun _ _ => rfl, fun _ => rfl, fun _ => qab5 _ rfl⟩
theorem qbce (h : Int) (h0 : 0 ≤ h) (h1 : h < 64) (q : Nat) : SCalls Try.prog 59 [.int .i64 h] [] q (.int .u64 (bitB h).toNat) [] := by
 refine qabj ?_ (fun _ => rfl) (fun _ => rfl) rfl q
 refine qaax (N := 6) Try.func59 rfl rfl (by kernel_rfl) qara (by simp) (by repeat' (first | exact trivial | refine And.intro ?_ ?_ | rfl | decide | exact PureR.ren _)) (by repeat' (first | exact trivial | refine And.intro ?_ ?_ | rfl | decide | exact PureR.ren _)) ?_
 rintro X hP hN hm
 unfold c_rbit
 have e := qba9 h0 h1
 rw [Int.one_mul] at e
 have e2 : IntKind.u64.wrap h = h := qape (by omega) (by omega)
 repeat' (first | (with_reducible refine zA ?_) | ((with_reducible refine qaac ?_); (try rw [hP]); simp -implicitDefEqProofs [*]) | ((with_reducible refine qaam ?_); (try simp only [qaap, qaag, qaai])) | (with_reducible refine zM hm ?_) | fail)
 all_goals rfl
set_option maxHeartbeats 4000000 in
theorem rways_s (p : PlanD) (hp : PlOk p) (q : Nat) : SCalls Try.prog 58 [.agg (qacu p)] [] q (.view 3 ((qa0s p).map wayc)) [] := by
 refine qabj ?_ (fun _ => rfl) (fun _ => rfl) rfl q
 refine qaax (N := 83) Try.func58 rfl rfl (by kernel_rfl) qamc (by simp) (by repeat' (first | exact trivial | refine And.intro ?_ ?_ | rfl | decide | exact PureR.ren _)) (by repeat' (first | exact trivial | refine And.intro ?_ ?_ | rfl | decide | exact PureR.ren _)) ?_
 rintro X hP hN hm
 have hn := hp.states.2
 have hF : qa0s p = qait p 257 [⟨0, 0, 0⟩] 0 := rfl
 generalize qa0s p = F at hF
 have hi0 := qaii hp
 have hph0 : phi p ([⟨0, 0, 0⟩].drop 0) < 257 := by have := hi0.fin; omega
 replace hF := Lib.hid hF
 replace hi0 := Lib.hid hi0
 replace hph0 := Lib.hid hph0
 unfold c_rways
 repeat' (first | (with_reducible refine zA ?_) | ((with_reducible refine qaac ?_); (try rw [hP]); simp -implicitDefEqProofs [*]) | fail)
 refine qaal (qaa5 (fun s (z : Nat × List WayD × Nat) => s.turn [(3, .own 3 z.2.1.length), (4, .int .i64 z.2.2)] [(3, .row 109 3 (z.2.1.map wayc))]) (fun z => InvW p z.2.1 z.2.2 ∧ phi p (z.2.1.drop z.2.2) < z.1 ∧ F = qait p z.1 z.2.1 z.2.2) (fun z => z.1) (257, [⟨0, 0, 0⟩], 0) ?_ ⟨hi0.out, hph0.out, hF.out⟩ ?_)
 ·repeat' (first | ((with_reducible refine qaah [] hm ?_ ?_ ?_ ?_) <;> (try simp only [zT, puth, Nat.reduceEqDiff, reduceIte, Nat.reduceAdd])) | (with_reducible first | refine za ?_ ?_ | refine zb ?_ ?_ ?_ ?_ | refine zc ?_ ?_ ?_ ?_) | (with_reducible first | exact qaab | exact qaad) | ((with_reducible first | refine zga ?_ | refine zgb ?_); rfl) | ((with_reducible refine zgc ?_); (first | (with_reducible rfl) | rfl | (simp; done))) | ((with_reducible refine zgd ?_); (first | omega | (simp; done))) | (exact Co.refl _) | (exact CoL.refl _) | fail)
 rintro J hJ ⟨f, out, i⟩ ⟨hI, hf, hFz⟩
 have hJo := hJ
 unfold qakg
 simp only [zT, puth, Nat.reduceEqDiff, reduceIte, Nat.reduceAdd] at hI hf hFz ⊢
 clear hF hi0 hph0
 have hol := qbbp hI
 have hil := hI.le
 obtain ⟨f, rfl⟩ : ∃ f', f = f' + 1 := ⟨f - 1, by omega⟩
 have hmapl : (out.map wayc).length = out.length := by simp
 have wi : IntKind.i64.wrap ((i : Int) + 1) = (i : Int) + 1 := qaar (by omega) (by omega)
 rcases Nat.lt_or_ge i out.length with hi | hi
 ·have hst := qa1s hp hI hi
  have hFs : F = qait p f (out ++ qais p out[i]) (i + 1) := by
   rw [hFz]; show (if h : i < out.length then _ else _) = _; rw [dif_pos hi]
  have hsw := hI.sound out[i] (List.getElem_mem hi)
  have hrin := rw_in hp _ _ _ hsw.2
  have hget : out[i]? = some out[i] := List.getElem?_eq_getElem hi
  clear hFz hI
  generalize hww : out[i] = w at hst hFs hsw hrin hget
  simp only at hrin
  by_cases hs : w.st = p.states.length
  ·have hnx : qais p w = [] := by unfold qais; rw [dif_neg (by omega)]
   rw [hnx, List.append_nil] at hst hFs
   have ks : ((w.st : Int) == (p.states.length : Int)) = true := by rw [beq_iff_eq]; omega
   replace hs := Lib.hid hs
   replace hst := Lib.hid hst
   replace hFs := Lib.hid hFs
   replace hsw := Lib.hid hsw
   replace hp := Lib.hid hp
   repeat' (first | (with_reducible first | refine zA ?_ | refine qaae ?_) | ((with_reducible refine qaac ?_); (try rw [hP]); simp -implicitDefEqProofs [*]) | ((with_reducible first | refine qaaf ?_ | refine qaak ?_); (try simp -implicitDefEqProofs [*])) | ((with_reducible refine qaaa rfl (fun h => ?_) (fun h => ?_)) <;> have h' := h <;> (try simp at h') <;> (try subst h')) | (with_reducible first | refine za ?_ ?_ | refine zb ?_ ?_ ?_ ?_ | refine zc ?_ ?_ ?_ ?_) | (with_reducible first | exact qaab | exact qaad) | ((with_reducible first | refine zga ?_ | refine zgb ?_); rfl) | ((with_reducible refine zgc ?_); (first | (with_reducible rfl) | rfl | (simp; done))) | ((with_reducible first | refine zgd ?_ | refine zge ?_); (first | omega | (simp; done))) | (exact Co.refl _) | (exact CoL.refl _) | ((refine qaaj hJ (f, out, i + 1) ?_ ?_ ?_; (with_reducible refine qaah [] hm ?_ ?_ ?_ ?_) <;> (try simp only [zT, puth, Nat.reduceEqDiff, reduceIte, Nat.reduceAdd]))) | fail)
   all_goals (exact ⟨hst.out.1, by have := hst.out.2; dsimp only; omega, hFs.out⟩)
  ·have hsl : w.st < p.states.length := by have := hsw.1; omega
   have ks : ((w.st : Int) == (p.states.length : Int)) = false := by rw [beq_eq_false_iff_ne]; omega
   have ok := hp.ok w.st hsl
   have hh := ok.head
   have hh6 := hp.heads
   have hleads := fun q => qbcc p hp w.st hsl q
   have hpos := fun k hk => qafd hp hsl (k := k) hk
   have hnx : qais p w = (qaha p p.states[w.st]).map (fun k => ⟨k.toNat, (qaph p p.states[w.st].head (w.taken, w.bytes)).1, (qaph p p.states[w.st].head (w.taken, w.bytes)).2⟩) := by unfold qais; rw [dif_pos hsl]
   have hll : (qaha p p.states[w.st]).length ≤ 5 := by
    have := qafo p.states.length (qacq p.states[w.st]) []
    rw [qaeg] at this
    have h4 := ok.cases_
    show (qadj _ _ _).length ≤ 5
    simp at this; omega
   clear ok
   generalize hxx : p.states[w.st] = x at hh hleads hpos hnx hll
   generalize qaha p x = l at hleads hpos hnx hll
   obtain ⟨⟨TK, BY⟩, hT⟩ : ∃ z, qaph p x.head (w.taken, w.bytes) = z := ⟨_, rfl⟩
   rw [hT] at hnx
   simp only at hnx
   rw [hnx] at hst hFs
   have tail : SWp X (SCode.seq (SCode.reg false qaen [1, 3, 4, 5, 9]) (SCode.seq (SCode.reg false qaem [1, 3, 4, 5, 9, 10]) (SCode.block 2 (SCode.loop qaeb)))) (qaiq 1 (QSeq X (SCode.reg false qahv [1, 3, 4]) (qbea X J (f + 1) (qaiq 0 (QSeq X ((SCode.reg false qahu [2]).seq SCode.ret) (QFun X [ResultVar.tmp 2] 0 (SV.view 3 (List.map wayc F)) []))))))
     ⟨[(1, .ptr 0 0), (3, .own 3 out.length), (4, .int .i64 i), (5, .ptr 14 0)], [(0, .cells 29 (qacu p)), (3, .row 109 3 (out.map wayc)), (14, .cells 109 [.int .i64 w.st, .int .u64 TK.toNat, .int .i64 BY])], 15⟩ := by
    replace hst := Lib.hid hst
    replace hFs := Lib.hid hFs
    replace hleads := Lib.hid hleads
    replace hpos := Lib.hid hpos
    replace hp := Lib.hid hp
    clear hnx hs hT hsw hww hget ks
    repeat' (first | (with_reducible refine zA ?_) | ((with_reducible refine qaac ?_); (try rw [hP]); simp -implicitDefEqProofs [*]) | (refine qaa0 (hleads.out _) ?_; simp -implicitDefEqProofs [*]) | fail)
    refine qaal (qaa5 (fun s (k : Nat) => s.turn [(3, .own 3 (out.length + k)), (10, .int .i64 k)] [(3, .row 109 3 ((out ++ (l.take k).map (fun k => (⟨k.toNat, TK, BY⟩ : WayD))).map wayc))]) (fun k => k ≤ l.length) (fun k => l.length - k) 0 ?_ (by simp) ?_)
    ·repeat' (first | ((with_reducible refine qaah [] hm ?_ ?_ ?_ ?_) <;> (try simp only [zT, puth, Nat.reduceEqDiff, reduceIte, Nat.reduceAdd])) | (with_reducible first | refine za ?_ ?_ | refine zb ?_ ?_ ?_ ?_ | refine zc ?_ ?_ ?_ ?_) | (with_reducible first | exact qaab | exact qaad) | ((with_reducible first | refine zga ?_ | refine zgb ?_); rfl) | ((with_reducible refine zgc ?_); (first | (with_reducible rfl) | rfl | (simp; done))) | ((with_reducible refine zgd ?_); (first | omega | (simp; done))) | (exact Co.refl _) | (exact CoL.refl _) | fail)
     all_goals simp
    rintro J hJ k hk
    unfold qaeb
    simp only [zT, puth, Nat.reduceEqDiff, reduceIte, Nat.reduceAdd]
    have hlen2 : ((out ++ (l.take k).map (fun k => (⟨k.toNat, TK, BY⟩ : WayD))).map wayc).length = out.length + k := by simp; omega
    have hb2 : out.length + k + 1 ≤ maxLen := by unfold maxLen; omega
    rcases Nat.lt_or_ge k l.length with h2 | h2
    ·have wk2 : IntKind.i64.wrap ((k : Int) + 1) = (k : Int) + 1 := qaar (by omega) (by omega)
     have hrow2 : (out ++ (l.take k).map (fun k => (⟨k.toNat, TK, BY⟩ : WayD))).map wayc ++ [[.int .i64 l[k], .int .u64 TK.toNat, .int .i64 BY]] = (out ++ (l.take (k + 1)).map (fun k => (⟨k.toNat, TK, BY⟩ : WayD))).map wayc := by
      have := hpos.out l[k] (List.getElem_mem h2)
      rw [List.take_succ_eq_append_getElem h2]
      simp only [List.map_append, List.append_assoc]
      congr 2
      show _ = [[SV.int .i64 ((l[k].toNat : Nat) : Int), _, _]]
      rw [show ((l[k].toNat : Nat) : Int) = l[k] by omega]
     generalize hy : l[k] = y at hrow2
     replace hrow2 := Lib.hid hrow2
     generalize hRR : (out ++ (l.take k).map (fun k => (⟨k.toNat, TK, BY⟩ : WayD))).map wayc = RR at hlen2 hrow2
     repeat' (first | (with_reducible first | refine zA ?_ | refine qae5 ?_ | refine zK ?_) | ((with_reducible first | refine qaac ?_ | refine qaa1 (by rw [hP]; exact qacx) ?_); (try rw [hP]); simp -implicitDefEqProofs [*]) | ((with_reducible refine qaaf ?_); (try simp -implicitDefEqProofs [*])) | ((with_reducible refine qaaa rfl (fun h => ?_) (fun h => ?_)) <;> have h' := h <;> (try simp at h') <;> (try subst h')) | ((with_reducible refine qabv ?_ ?_); (first | omega | (unfold maxLen; omega)); simp -implicitDefEqProofs [*]) | (with_reducible first | refine za ?_ ?_ | refine zb ?_ ?_ ?_ ?_ | refine zc ?_ ?_ ?_ ?_) | (with_reducible first | exact qaab | exact qaad) | ((with_reducible first | refine zga ?_ | refine zgb ?_); rfl) | ((with_reducible first | refine zgd ?_ | refine zge ?_); (first | omega | (simp; done))) | (exact Co.refl _) | (exact CoL.refl _) | ((refine qaaj hJ (k + 1) ?_ ?_ ?_; (with_reducible refine qaah [(3, ?_)] hm ?_ ?_ ?_ ?_) <;> (try simp only [zT, puth, Nat.reduceEqDiff, reduceIte, Nat.reduceAdd]))) | fail)
     all_goals (exact hrow2.out)
    ·obtain rfl : k = l.length := by omega
     rw [List.take_length]
     repeat' (first | (with_reducible refine zA ?_) | ((with_reducible refine qaac ?_); (try rw [hP]); simp -implicitDefEqProofs [*]) | ((with_reducible refine qaak ?_); (try simp -implicitDefEqProofs [*])) | ((with_reducible refine qaaa rfl (fun h => ?_) (fun h => ?_)) <;> have h' := h <;> (try simp at h') <;> (try subst h')) | (with_reducible first | refine za ?_ ?_ | refine zb ?_ ?_ ?_ ?_ | refine zc ?_ ?_ ?_ ?_) | (with_reducible first | exact qaab | exact qaad) | ((with_reducible first | refine zga ?_ | refine zgb ?_); rfl) | ((with_reducible refine zgc ?_); (first | (with_reducible rfl) | rfl | (simp; done))) | ((with_reducible first | refine zgd ?_ | refine zge ?_); (first | omega | (simp; done))) | (exact Co.refl _) | (exact CoL.refl _) | ((refine qaaj hJo (f, out ++ l.map (fun k => (⟨k.toNat, TK, BY⟩ : WayD)), i + 1) ?_ ?_ ?_; (with_reducible refine qaah [] hm ?_ ?_ ?_ ?_) <;> (try simp only [zT, puth, Nat.reduceEqDiff, reduceIte, Nat.reduceAdd]))) | fail)
     all_goals first | (rw [show (out ++ l.map (fun k => (⟨k.toNat, TK, BY⟩ : WayD))).length = out.length + l.length by simp]; exact Co.refl _) | (exact ⟨hst.out.1, by have := hst.out.2; dsimp only; omega, hFs.out⟩)
   replace tail := Lib.hid tail
   replace hst := Lib.hid hst
   replace hFs := Lib.hid hFs
   replace hsw := Lib.hid hsw
   replace hleads := Lib.hid hleads
   replace hpos := Lib.hid hpos
   clear hnx hs
   cases kh : decide (0 ≤ x.head)
   ·have hT2 : (w.taken, w.bytes) = (TK, BY) := by rw [← hT]; unfold qaph; rw [if_neg (of_decide_eq_false kh)]
    have hTK : w.taken = TK := (Prod.mk.inj hT2).1
    have hBY : w.bytes = BY := (Prod.mk.inj hT2).2
    replace hp := Lib.hid hp
    replace hT := Lib.hid hT
    clear hT2
    repeat' (first | ((with_reducible refine qac2 (c := .seq (.reg false qaen [1, 3, 4, 5, 9]) (.seq (.reg false qaem [1, 3, 4, 5, 9, 10]) (.block 2 (.loop qaeb)))) ?_)) | (with_reducible first | refine zA ?_ | refine qaae ?_) | ((with_reducible refine qaac ?_); (try rw [hP]); simp -implicitDefEqProofs [*]) | ((with_reducible refine qaaf ?_); (try simp -implicitDefEqProofs [*])) | ((with_reducible refine qaaa rfl (fun h => ?_) (fun h => ?_)) <;> have h' := h <;> (try simp at h') <;> (try subst h')) | fail)
    constructor
    refine qac9 ?_ tail.out
    repeat' (first | ((with_reducible refine qaah [] hm ?_ ?_ ?_ ?_) <;> (try simp only [zT, puth, Nat.reduceEqDiff, reduceIte, Nat.reduceAdd])) | (with_reducible first | refine za ?_ ?_ | refine zb ?_ ?_ ?_ ?_ | refine zc ?_ ?_ ?_ ?_) | (with_reducible first | exact qaab | exact qaad) | ((with_reducible first | refine zga ?_ | refine zgb ?_); rfl) | ((with_reducible refine zgc ?_); (first | (with_reducible rfl) | rfl | (simp; done))) | ((with_reducible refine zgd ?_); (first | omega | (simp; done))) | (exact Co.refl _) | (exact CoL.refl _) | fail)
   ·have hh0 := of_decide_eq_true kh
    have hS2 := qaly hp hh0 hh.2
    have hT2 : (w.taken ||| bitB x.head, w.bytes + qag5 p x.head) = (TK, BY) := by rw [← hT]; unfold qaph; rw [if_pos hh0]
    have hTK : w.taken ||| bitB x.head = TK := (Prod.mk.inj hT2).1
    have hBY : IntKind.i64.wrap (w.bytes + qag5 p x.head) = BY := by rw [← (Prod.mk.inj hT2).2]; exact qaar (by omega) (by omega)
    have hlt : x.head.toNat < p.heads.length := by omega
    have hsz : headW p x.head = p.heads[x.head.toNat].w := by unfold headW; rw [List.getElem?_eq_getElem hlt]; rfl
    have hcs := fun q => qbbb p.heads[x.head.toNat].w q
    rw [← hsz] at hcs
    unfold qall at hcs
    rw [show qapl (headW p x.head) = qag5 p x.head from rfl] at hcs
    generalize qag5 p x.head = N at hBY hcs hT2
    have hbh := fun q => qbce x.head hh0 (by omega) q
    generalize hq1 : p.heads[x.head.toNat] = hd at hsz
    have hsz2 : hd.w = headW p x.head := hsz.symm
    generalize headW p x.head = ws at hcs hsz2
    clear hT2 hS2 hsz
    replace hT := Lib.hid hT
    replace hp := Lib.hid hp
    replace hcs := Lib.hid hcs
    replace hbh := Lib.hid hbh
    repeat' (first | ((with_reducible refine qac2 (c := .seq (.reg false qaen [1, 3, 4, 5, 9]) (.seq (.reg false qaem [1, 3, 4, 5, 9, 10]) (.block 2 (.loop qaeb)))) ?_)) | (with_reducible first | refine zA ?_ | refine qaae ?_ | refine zK ?_) | ((with_reducible first | refine qaac ?_ | refine qaa1 (by rw [hP]; exact qacx) ?_); (try rw [hP]); simp -implicitDefEqProofs [-BitVec.toNat_and, -BitVec.toNat_or, qabx, *]) | ((with_reducible refine qaaf ?_); (try simp -implicitDefEqProofs [-BitVec.toNat_and, -BitVec.toNat_or, qabx, *])) | ((with_reducible refine qaaa rfl (fun h => ?_) (fun h => ?_)) <;> have h' := h <;> (try simp at h') <;> (try subst h')) | ((first | refine qaa0 (hcs.out _) ?_ | refine qaa0 (hbh.out _) ?_); simp -implicitDefEqProofs [-BitVec.toNat_and, -BitVec.toNat_or, qabx, *]) | fail)
    constructor
    refine qac9 ?_ tail.out
    repeat' (first | ((with_reducible refine qaah [] hm ?_ ?_ ?_ ?_) <;> (try simp only [zT, puth, Nat.reduceEqDiff, reduceIte, Nat.reduceAdd])) | (with_reducible first | refine za ?_ ?_ | refine zb ?_ ?_ ?_ ?_ | refine zc ?_ ?_ ?_ ?_) | (with_reducible first | exact qaab | exact qaad) | ((with_reducible first | refine zga ?_ | refine zgb ?_); rfl) | ((with_reducible refine zgc ?_); (first | (with_reducible rfl) | rfl | (simp; done))) | ((with_reducible refine zgd ?_); (first | omega | (simp; done))) | (exact Co.refl _) | (exact CoL.refl _) | fail)
 ·have hie : i = out.length := by omega
  have hFe : F = out := by
   rw [hFz]; show (if h : i < out.length then _ else _) = _; rw [dif_neg (by omega)]
  subst hFe hie
  clear hFz
  replace hI := Lib.hid hI
  replace hp := Lib.hid hp
  repeat' (first | (with_reducible refine zA ?_) | ((with_reducible refine qaac ?_); (try rw [hP]); simp -implicitDefEqProofs [*]) | ((with_reducible refine qaak ?_); (try simp -implicitDefEqProofs [*])) | ((with_reducible refine qaam ?_); (try simp only [qaap, qaag, qaai])) | ((with_reducible refine qaaa rfl (fun h => ?_) (fun h => ?_)) <;> have h' := h <;> (try simp at h') <;> (try subst h')) | (refine qap9 hm rfl rfl ?_ rfl) | fail)
  all_goals simp
end Go.Proofs.Ytnfjldobjgdiaaa
namespace Go.Proofs.Ytnfjldobjgdiaaa
set_option linter.all false
open Go.RowKit
attribute [local simp] qabg qabf qaas qaaz qaat qaay qabd qabe qaao qabn SOp.run SX.ev putd puts argS upds SOp.touch SSt.keep SSt.skip gets geth puth delh idOf SV.cells? setL qac5 qac6 sbin eq0 eq1 eqL qac4 qab1 qab2 qaap qabh qaag qabi qabo qaai qaaq FrzOk qaa9 qaa3 qaa7 qaa8 qaau qaa2 qabl qaa4 qaaw qaba qaav frzS frzH frz frz1 frz0 SlotsM ObjsM ObjM rn ren ren1 ren0 qabu qaca qacf qabt qabm qacg qace CoL qabb qach dels adds idsH qab3
attribute [local simp] qads refc qae3 qaet qacc opc actc tabc qad7 qacu nums
set_option maxHeartbeats 4000000 in
theorem ract_s (p : PlanD) (a : ActD) (h1 : a.w.length ≤ 1000000) (h2 : a.ops.length ≤ 1000000) (h3 : ∀ o ∈ a.ops, o.e.length ≤ 1000000) (q : Nat) : SCalls Try.prog 42 [.agg (qacu p), .agg (actc a)] [] q (.int .i64 (actF p a)) [] := by
 refine qabj ?_ (fun _ => rfl) (fun _ => rfl) rfl q
 refine qaax (N := 58) Try.func42 rfl rfl (by kernel_rfl) qarb (by simp) (by repeat' (first | exact trivial | refine And.intro ?_ ?_ | rfl | decide | exact PureR.ren _)) (by repeat' (first | exact trivial | refine And.intro ?_ ?_ | rfl | decide | exact PureR.ren _)) ?_
 rintro X hP hN hm
 unfold c_ract
 by_cases g1 : 3 < a.w.length ∨ 5 < a.ops.length
 ·have hz : actF p a = 2 := by unfold actF; rw [if_pos g1]
  rw [hz]
  replace g1 := Lib.hid g1
  repeat' (first | (with_reducible refine zA ?_) | ((with_reducible refine qaac ?_); (try rw [hP]); simp -implicitDefEqProofs [*]) | ((with_reducible refine qaaf ?_); (try simp -implicitDefEqProofs [*])) | ((with_reducible refine qaam ?_); (try simp only [qaap, qaag, qaai])) | ((with_reducible refine qaaa rfl (fun h => ?_) (fun h => ?_)) <;> have h' := h <;> (try simp at h') <;> (try subst h')) | ((with_reducible refine qaan (fun h => ?_) (fun h => ?_)) <;> have h' := h <;> (try simp at h') <;> (try subst h') <;> simp -implicitDefEqProofs [*]) | (with_reducible refine zM hm ?_) | fail)
  all_goals (first | rfl | (exfalso; have q := g1.out; omega))
 have hF : actF p a = if (a.w.drop 0).any wOut = true then 6 else qacd (fun o => qag6 p o a.w) (a.ops.drop 0) := by unfold actF; rw [if_neg g1]; rfl
 generalize actF p a = F at hF
 have l3 : decide (3 < (a.w.length : Int)) = false := by rw [decide_eq_false_iff_not]; omega
 have l5 : decide (5 < (a.ops.length : Int)) = false := by rw [decide_eq_false_iff_not]; omega
 clear g1
 replace hF := Lib.hid hF
 replace h3 := Lib.hid h3
 repeat' (first | (with_reducible refine zA ?_) | ((with_reducible refine qaac ?_); (try rw [hP]); simp -implicitDefEqProofs [*]) | ((with_reducible refine qaaf ?_); (try simp -implicitDefEqProofs [*])) | ((with_reducible refine qaaa rfl (fun h => ?_) (fun h => ?_)) <;> have h' := h <;> (try simp at h') <;> (try subst h')) | fail)
 refine qaal (qaa5 (fun s (i : Nat) => s.turn [(5, .int .i64 i)] []) (fun i => i ≤ a.w.length ∧ F = if (a.w.drop i).any wOut = true then 6 else qacd (fun o => qag6 p o a.w) (a.ops.drop 0)) (fun i => a.w.length - i) 0 ?_ ⟨by simp, hF.out⟩ ?_)
 ·repeat' (first | ((with_reducible refine qaah [] hm ?_ ?_ ?_ ?_) <;> (try simp only [zT, puth, Nat.reduceEqDiff, reduceIte, Nat.reduceAdd])) | (with_reducible first | refine za ?_ ?_ | refine zb ?_ ?_ ?_ ?_) | (with_reducible first | exact qaab | exact qaad) | ((with_reducible first | refine zga ?_ | refine zgb ?_); rfl) | ((with_reducible refine zgd ?_); (first | omega | (simp; done))) | (exact Co.refl _) | (exact CoL.refl _) | fail)
 rintro J hJ i ⟨h5, h6⟩
 unfold qaqi
 simp only [zT, puth, Nat.reduceEqDiff, reduceIte, Nat.reduceAdd] at h5 h6 ⊢
 rcases Nat.lt_or_ge i a.w.length with hi | hi
 ·rw [qadi _ hi] at h6
  generalize hxx : a.w[i] = x at h6
  have wi : IntKind.i64.wrap ((i : Int) + 1) = (i : Int) + 1 := qaar (by omega) (by omega)
  replace h6 := Lib.hid h6
  cases hv : wOut x
  ·have hv1 : decide (x < 1) = false ∧ decide (48 < x) = false := by simpa [wOut] using hv
   obtain ⟨v1, v2⟩ := hv1
   repeat' (first | (with_reducible first | refine zA ?_ | refine qaae ?_) | ((with_reducible refine qaac ?_); (try rw [hP]); simp -implicitDefEqProofs [*]) | ((with_reducible refine qaaf ?_); (try simp -implicitDefEqProofs [*])) | ((with_reducible refine qaaa rfl (fun h => ?_) (fun h => ?_)) <;> have h' := h <;> (try simp at h') <;> (try subst h')) | (with_reducible first | refine za ?_ ?_ | refine zb ?_ ?_ ?_ ?_) | (with_reducible first | exact qaab | exact qaad) | ((with_reducible first | refine zga ?_ | refine zgb ?_); rfl) | ((with_reducible first | refine zgd ?_ | refine zge ?_); (first | omega | (simp; done))) | (exact Co.refl _) | (exact CoL.refl _) | ((refine qaaj hJ (i + 1) ?_ ?_ ?_; (with_reducible refine qaah [] hm ?_ ?_ ?_ ?_) <;> (try simp only [zT, puth, Nat.reduceEqDiff, reduceIte, Nat.reduceAdd]))) | fail)
   exact ⟨by omega, by rw [h6.out, hv, Bool.false_or]⟩
  ·replace hv := Lib.hid hv
   repeat' (first | (with_reducible first | refine zA ?_ | refine qaae ?_) | ((with_reducible refine qaac ?_); (try rw [hP]); simp -implicitDefEqProofs [*]) | ((with_reducible refine qaaf ?_); (try simp -implicitDefEqProofs [*])) | ((with_reducible refine qaam ?_); (try simp only [qaap, qaag, qaai])) | ((with_reducible refine qaaa rfl (fun h => ?_) (fun h => ?_)) <;> have h' := h <;> (try simp at h') <;> (try subst h')) | ((with_reducible refine qaan (fun h => ?_) (fun h => ?_)) <;> have h' := h <;> (try simp at h') <;> (try subst h') <;> simp -implicitDefEqProofs [*]) | (with_reducible refine zM hm ?_) | (with_reducible first | refine za ?_ ?_ | refine zb ?_ ?_ ?_ ?_) | (with_reducible first | exact qaab | exact qaad) | ((with_reducible first | refine zga ?_ | refine zgb ?_); rfl) | ((with_reducible first | refine zgd ?_ | refine zge ?_); (first | omega | (simp; done))) | (exact Co.refl _) | (exact CoL.refl _) | ((refine qaaj hJ (i + 1) ?_ ?_ ?_; (with_reducible refine qaah [] hm ?_ ?_ ?_ ?_) <;> (try simp only [zT, puth, Nat.reduceEqDiff, reduceIte, Nat.reduceAdd]))) | fail)
   all_goals (first | (exfalso; have q := hv.out; simp only [wOut, Bool.or_eq_true, decide_eq_true_eq] at q; omega) | (rw [h6.out, hv.out]; rfl))
 ·obtain rfl : i = a.w.length := by omega
  have h7 : F = qacd (fun o => qag6 p o a.w) (a.ops.drop 0) := by rw [h6, List.drop_length]; rfl
  replace h7 := Lib.hid h7
  replace h6 := Lib.hid h6
  repeat' (first | (with_reducible refine zA ?_) | ((with_reducible refine qaac ?_); (try rw [hP]); simp -implicitDefEqProofs [*]) | ((with_reducible refine qaak ?_); (try simp -implicitDefEqProofs [*])) | ((with_reducible refine qaaa rfl (fun h => ?_) (fun h => ?_)) <;> have h' := h <;> (try simp at h') <;> (try subst h')) | fail)
  refine qaal (qaa5 (fun s (i : Nat) => s.turn [(6, .int .i64 i)] []) (fun i => i ≤ a.ops.length ∧ F = qacd (fun o => qag6 p o a.w) (a.ops.drop i)) (fun i => a.ops.length - i) 0 ?_ ⟨by simp, h7.out⟩ ?_)
  ·repeat' (first | ((with_reducible refine qaah [] hm ?_ ?_ ?_ ?_) <;> (try simp only [zT, puth, Nat.reduceEqDiff, reduceIte, Nat.reduceAdd])) | (with_reducible first | refine za ?_ ?_ | refine zb ?_ ?_ ?_ ?_) | (with_reducible first | exact qaab | exact qaad) | ((with_reducible first | refine zga ?_ | refine zgb ?_); rfl) | ((with_reducible refine zgd ?_); (first | omega | (simp; done))) | (exact Co.refl _) | (exact CoL.refl _) | fail)
  rintro J hJ i ⟨h8, h10⟩
  unfold qaqh
  simp only [zT, puth, Nat.reduceEqDiff, reduceIte, Nat.reduceAdd] at h8 h10 ⊢
  rcases Nat.lt_or_ge i a.ops.length with hi | hi
  ·rw [qaek _ hi] at h10
   have hdl := fun q => rdeed_s p a.ops[i] a.w (h3.out _ (List.getElem_mem hi)) q
   generalize hxx : a.ops[i] = x at h10 hdl
   generalize qag6 p x a.w = D at h10 hdl
   have wi : IntKind.i64.wrap ((i : Int) + 1) = (i : Int) + 1 := qaar (by omega) (by omega)
   replace h10 := Lib.hid h10
   replace hdl := Lib.hid hdl
   cases kD : (D != 0)
   all_goals
    have kD' := kD
    simp at kD'
    replace kD' := Lib.hid kD'
    repeat' (first | (with_reducible first | refine zA ?_ | refine qaae ?_ | refine zK ?_) | ((with_reducible first | refine qaac ?_ | refine qaa1 (by rw [hP]; exact qacx) ?_); (try rw [hP]); simp -implicitDefEqProofs [*]) | ((with_reducible refine qaaf ?_); (try simp -implicitDefEqProofs [*])) | ((with_reducible refine qaam ?_); (try simp only [qaap, qaag, qaai])) | ((with_reducible refine qaaa rfl (fun h => ?_) (fun h => ?_)) <;> have h' := h <;> (try simp at h') <;> (try subst h')) | (refine qaa0 (hdl.out _) ?_; simp -implicitDefEqProofs [*]) | (with_reducible refine zM hm ?_) | (with_reducible first | refine za ?_ ?_ | refine zb ?_ ?_ ?_ ?_) | (with_reducible first | exact qaab | exact qaad) | ((with_reducible first | refine zga ?_ | refine zgb ?_); rfl) | ((with_reducible first | refine zgd ?_ | refine zge ?_); (first | omega | (simp; done))) | (exact Co.refl _) | (exact CoL.refl _) | ((refine qaaj hJ (i + 1) ?_ ?_ ?_; (with_reducible refine qaah [] hm ?_ ?_ ?_ ?_) <;> (try simp only [zT, puth, Nat.reduceEqDiff, reduceIte, Nat.reduceAdd]))) | fail)
    first | (refine ⟨by omega, ?_⟩; rw [h10.out, if_pos kD'.out]) | (rw [h10.out, if_neg kD'.out]) | skip
  ·obtain rfl : i = a.ops.length := by omega
   rw [List.drop_length] at h10
   replace h10 := Lib.hid h10
   repeat' (first | (with_reducible refine zA ?_) | ((with_reducible refine qaac ?_); (try rw [hP]); simp -implicitDefEqProofs [*]) | ((with_reducible refine qaak ?_); (try simp -implicitDefEqProofs [*])) | ((with_reducible refine qaam ?_); (try simp only [qaap, qaag, qaai])) | ((with_reducible refine qaaa rfl (fun h => ?_) (fun h => ?_)) <;> have h' := h <;> (try simp at h') <;> (try subst h')) | (with_reducible refine zM hm ?_) | fail)
   rw [h10.out]; rfl
theorem rsays_s (t : TabD) (acts : List ActD) (act : Int) (args : List Int) (hl : t.acts.length ≤ 1000000) (hl2 : args.length ≤ 1000000) (hr : ∀ k ∈ t.acts, 0 ≤ k ∧ k < acts.length) (q : Nat) : SCalls Try.prog 72 [.agg (tabc t), .view 2 (acts.map actc), .agg [.int .i64 act, nums .u64 args]] [] q (.int .i64 (qagk t.acts acts act args)) [] := by
 refine qabj ?_ (fun _ => rfl) (fun _ => rfl) rfl q
 refine qaax (N := 43) Try.func72 rfl rfl (by kernel_rfl) qamf (by simp) (by repeat' (first | exact trivial | refine And.intro ?_ ?_ | rfl | decide | exact PureR.ren _)) (by repeat' (first | exact trivial | refine And.intro ?_ ?_ | rfl | decide | exact PureR.ren _)) ?_
 rintro X hP hN hm
 have hc := fun q => rin_s t.acts act hl q
 unfold c_rsays
 cases hin : t.acts.contains act
 ·rw [hin] at hc
  have hz : qagk t.acts acts act args = 5 := by unfold qagk; rw [hin]; rfl
  rw [hz]
  repeat' (first | (with_reducible refine zA ?_) | ((with_reducible refine qaac ?_); (try rw [hP]); simp -implicitDefEqProofs [*]) | ((with_reducible refine qaam ?_); (try simp only [qaap, qaag, qaai])) | ((with_reducible refine qaaa rfl (fun h => ?_) (fun h => ?_)) <;> have h' := h <;> (try simp at h') <;> (try subst h')) | (refine qaa0 (hc _) ?_; simp -implicitDefEqProofs [*]) | (with_reducible refine zM hm ?_) | fail)
  rfl
 ·rw [hin] at hc
  obtain ⟨hr0, hr1⟩ := hr act (by simpa using hin)
  have hlt : act.toNat < acts.length := by omega
  have hF : qagk t.acts acts act args = if args.length ≠ acts[act.toNat].w.length then 2 else if qafx args acts[act.toNat].w = true then 6 else 0 := by
   unfold qagk
   have : actW acts act = acts[act.toNat].w := by unfold actW; rw [List.getElem?_eq_getElem hlt]; rfl
   rw [hin, this]; rfl
  generalize qagk t.acts acts act args = F at hF
  generalize hA : acts[act.toNat] = A at hF
  by_cases hlen : args.length = A.w.length
  ·rw [if_neg (by simpa using hlen)] at hF
   have kl : ((A.w.length : Int) != (args.length : Int)) = false := by simp [hlen]
   replace hF := Lib.hid hF
   replace hlen := Lib.hid hlen
   repeat' (first | (with_reducible refine zA ?_) | ((with_reducible refine qaac ?_); (try rw [hP]); simp -implicitDefEqProofs [*]) | ((with_reducible refine qaaf ?_); (try simp -implicitDefEqProofs [*])) | ((with_reducible refine qaaa rfl (fun h => ?_) (fun h => ?_)) <;> have h' := h <;> (try simp at h') <;> (try subst h')) | (refine qaa0 (hc _) ?_; simp -implicitDefEqProofs [*]) | fail)
   refine qaal (qaa5 (fun s (i : Nat) => s.turn [(8, .int .i64 i)] []) (fun i => i ≤ A.w.length ∧ F = if qafx (args.drop i) (A.w.drop i) = true then 6 else 0) (fun i => A.w.length - i) 0 ?_ ⟨by simp, hF.out⟩ ?_)
   ·repeat' (first | ((with_reducible refine qaah [] hm ?_ ?_ ?_ ?_) <;> (try simp only [zT, puth, Nat.reduceEqDiff, reduceIte, Nat.reduceAdd])) | (with_reducible first | refine za ?_ ?_ | refine zb ?_ ?_ ?_ ?_) | (with_reducible first | exact qaab | exact qaad) | ((with_reducible first | refine zga ?_ | refine zgb ?_); rfl) | ((with_reducible refine zgd ?_); (first | omega | (simp; done))) | (exact Co.refl _) | (exact CoL.refl _) | fail)
   rintro J hJ i ⟨h1, h2⟩
   unfold qakk
   simp only [zT, puth, Nat.reduceEqDiff, reduceIte, Nat.reduceAdd] at h1 h2 ⊢
   rcases Nat.lt_or_ge i A.w.length with hi2 | hi
   ·have hi : i < args.length := by have := hlen.out; omega
    rw [qagf hi hi2] at h2
    have hms := fun q => qaqc args[i] A.w[i] q
    generalize hw : A.w[i] = w at h2 hms
    generalize hx : args[i] = x at h2 hms
    have wi : IntKind.i64.wrap ((i : Int) + 1) = (i : Int) + 1 := qaar (by have := hlen.out; omega) (by have := hlen.out; omega)
    cases hv : qalk x w <;> rw [hv] at h2 hms <;> replace h2 := Lib.hid h2
    ·repeat' (first | (with_reducible first | refine zA ?_ | refine qaae ?_ | refine zK ?_) | ((with_reducible first | refine qaac ?_ | refine qaa1 (by rw [hP]; exact qacx) ?_); (try rw [hP]); simp -implicitDefEqProofs [*]) | ((with_reducible refine qaaf ?_); (try simp -implicitDefEqProofs [*])) | ((with_reducible refine qaaa rfl (fun h => ?_) (fun h => ?_)) <;> have h' := h <;> (try simp at h') <;> (try subst h')) | (refine qaa0 (hms _) ?_; simp -implicitDefEqProofs [*]) | (with_reducible first | refine za ?_ ?_ | refine zb ?_ ?_ ?_ ?_) | (with_reducible first | exact qaab | exact qaad) | ((with_reducible first | refine zga ?_ | refine zgb ?_); rfl) | ((with_reducible first | refine zgd ?_ | refine zge ?_); (first | omega | (simp; done))) | (exact Co.refl _) | (exact CoL.refl _) | ((refine qaaj hJ (i + 1) ?_ ?_ ?_; (with_reducible refine qaah [] hm ?_ ?_ ?_ ?_) <;> (try simp only [zT, puth, Nat.reduceEqDiff, reduceIte, Nat.reduceAdd]))) | fail)
     exact ⟨by omega, by rw [h2.out, Bool.false_or]⟩
    ·repeat' (first | (with_reducible first | refine zA ?_ | refine qaae ?_ | refine zK ?_) | ((with_reducible first | refine qaac ?_ | refine qaa1 (by rw [hP]; exact qacx) ?_); (try rw [hP]); simp -implicitDefEqProofs [*]) | ((with_reducible refine qaaf ?_); (try simp -implicitDefEqProofs [*])) | ((with_reducible refine qaam ?_); (try simp only [qaap, qaag, qaai])) | ((with_reducible refine qaaa rfl (fun h => ?_) (fun h => ?_)) <;> have h' := h <;> (try simp at h') <;> (try subst h')) | (refine qaa0 (hms _) ?_; simp -implicitDefEqProofs [*]) | (with_reducible refine zM hm ?_) | fail)
     rw [h2.out]; rfl
   ·obtain rfl : i = A.w.length := by omega
    rw [← hlen.out, List.drop_length] at h2
    replace h2 := Lib.hid h2
    repeat' (first | (with_reducible refine zA ?_) | ((with_reducible refine qaac ?_); (try rw [hP]); simp -implicitDefEqProofs [*]) | ((with_reducible refine qaak ?_); (try simp -implicitDefEqProofs [*])) | ((with_reducible refine qaam ?_); (try simp only [qaap, qaag, qaai])) | ((with_reducible refine qaaa rfl (fun h => ?_) (fun h => ?_)) <;> have h' := h <;> (try simp at h') <;> (try subst h')) | (with_reducible refine zM hm ?_) | fail)
    rw [h2.out]; rfl
  ·rw [if_pos (by simpa using hlen)] at hF
   have kl : ((A.w.length : Int) != (args.length : Int)) = true := by simp; omega
   replace hF := Lib.hid hF
   repeat' (first | (with_reducible refine zA ?_) | ((with_reducible refine qaac ?_); (try rw [hP]); simp -implicitDefEqProofs [*]) | ((with_reducible refine qaaf ?_); (try simp -implicitDefEqProofs [*])) | ((with_reducible refine qaam ?_); (try simp only [qaap, qaag, qaai])) | ((with_reducible refine qaaa rfl (fun h => ?_) (fun h => ?_)) <;> have h' := h <;> (try simp at h') <;> (try subst h')) | (refine qaa0 (hc _) ?_; simp -implicitDefEqProofs [*]) | (with_reducible refine zM hm ?_) | fail)
   rw [hF.out]
set_option maxHeartbeats 4000000 in
theorem qbca (t : TabD) (ws : List Int) (acts : List ActD) (h1 : t.acts.length ≤ 1000000) (h2 : t.args.length ≤ 1000000) (h3 : ws.length ≤ 1000000) (h4 : acts.length ≤ 1000000) (q : Nat) : SCalls Try.prog 44 [.agg (tabc t), nums .i64 ws, .view 2 (acts.map actc)] [] q (.int .i64 (qadf t ws acts)) [] := by
 refine qabj ?_ (fun _ => rfl) (fun _ => rfl) rfl q
 refine qaax (N := 104) Try.func44 rfl rfl (by kernel_rfl) qajn (by simp) (by repeat' (first | exact trivial | refine And.intro ?_ ?_ | rfl | decide | exact PureR.ren _)) (by repeat' (first | exact trivial | refine And.intro ?_ ?_ | rfl | decide | exact PureR.ren _)) ?_
 rintro X hP hN hm
 have hsays := fun (hr : ∀ k ∈ t.acts, 0 ≤ k ∧ k < acts.length) q => rsays_s t acts t.def_ t.args h1 h2 hr q
 replace hsays := Lib.hid hsays
 obtain ⟨n, hn⟩ : ∃ n, ws.length = n := ⟨_, rfl⟩
 obtain ⟨m, hma⟩ : ∃ m, t.acts.length = m := ⟨_, rfl⟩
 unfold c_rtable
 by_cases g1 : t.kind < 1 ∨ 3 < t.kind
 ·have hz : qadf t ws acts = 5 := by unfold qadf; rw [if_pos g1]
  rw [hz]
  replace g1 := Lib.hid g1
  repeat' (first | (with_reducible refine zA ?_) | ((with_reducible refine qaac ?_); (try rw [hP]); simp -implicitDefEqProofs [*]) | ((with_reducible refine qaaf ?_); (try simp -implicitDefEqProofs [*])) | ((with_reducible refine qaam ?_); (try simp only [qaap, qaag, qaai])) | ((with_reducible refine qaaa rfl (fun h => ?_) (fun h => ?_)) <;> have h' := h <;> (try simp at h') <;> (try subst h')) | ((with_reducible refine qaan (fun h => ?_) (fun h => ?_)) <;> have h' := h <;> (try simp at h') <;> (try subst h') <;> simp -implicitDefEqProofs [*]) | (with_reducible refine zM hm ?_) | fail)
  all_goals (first | rfl | (exfalso; have q1 := g1.out; omega))
 have g11 : decide (t.kind < 1) = false := by rw [decide_eq_false_iff_not]; omega
 have g12 : decide (3 < t.kind) = false := by rw [decide_eq_false_iff_not]; omega
 by_cases g2 : ws.length < 1 ∨ 3 < ws.length ∨ (t.kind = 2 ∧ 1 < ws.length) ∨ t.acts.length < 1 ∨ 4 < t.acts.length
 ·have hz : qadf t ws acts = 2 := by unfold qadf; rw [if_neg g1, if_pos g2]
  rw [hz]
  replace g1 := Lib.hid g1
  replace g2 := Lib.hid g2
  repeat' (first | (with_reducible refine zA ?_) | ((with_reducible refine qaac ?_); (try rw [hP]); simp -implicitDefEqProofs [*]) | ((with_reducible refine qaaf ?_); (try simp -implicitDefEqProofs [*])) | ((with_reducible refine qaam ?_); (try simp only [qaap, qaag, qaai])) | ((with_reducible refine qaaa rfl (fun h => ?_) (fun h => ?_)) <;> have h' := h <;> (try simp at h') <;> (try subst h')) | ((with_reducible refine qaan (fun h => ?_) (fun h => ?_)) <;> have h' := h <;> (try simp at h') <;> (try subst h') <;> simp -implicitDefEqProofs [*]) | (with_reducible refine zM hm ?_) | fail)
  all_goals (first | rfl | (exfalso; have q := g2.out; have q1 := g1.out; omega))
 by_cases g3 : t.cap < 0 ∨ 16 < t.cap
 ·have hz : qadf t ws acts = 1 := by unfold qadf; rw [if_neg g1, if_neg g2, if_pos g3]
  rw [hz]
  replace g1 := Lib.hid g1
  replace g2 := Lib.hid g2
  replace g3 := Lib.hid g3
  repeat' (first | (with_reducible refine zA ?_) | ((with_reducible refine qaac ?_); (try rw [hP]); simp -implicitDefEqProofs [*]) | ((with_reducible refine qaaf ?_); (try simp -implicitDefEqProofs [*])) | ((with_reducible refine qaam ?_); (try simp only [qaap, qaag, qaai])) | ((with_reducible refine qaaa rfl (fun h => ?_) (fun h => ?_)) <;> have h' := h <;> (try simp at h') <;> (try subst h')) | ((with_reducible refine qaan (fun h => ?_) (fun h => ?_)) <;> have h' := h <;> (try simp at h') <;> (try subst h') <;> simp -implicitDefEqProofs [*]) | (with_reducible refine zM hm ?_) | fail)
  all_goals (first | rfl | (exfalso; have q := g2.out; have q1 := g1.out; have q3 := g3.out; omega))
 have hF : qadf t ws acts = if (ws.drop 0).any wOut = true then 6 else if (t.acts.drop 0).any (aOut acts.length) = true then 1 else qagk t.acts acts t.def_ t.args := by
  unfold qadf; rw [if_neg g1, if_neg g2, if_neg g3]; rfl
 generalize qadf t ws acts = F at hF
 replace hF := Lib.hid hF
 have l0 : decide ((ws.length : Int) < 1) = false := by rw [decide_eq_false_iff_not]; omega
 have l3 : decide (3 < (ws.length : Int)) = false := by rw [decide_eq_false_iff_not]; omega
 have a0 : decide ((t.acts.length : Int) < 1) = false := by rw [decide_eq_false_iff_not]; omega
 have a4 : decide (4 < (t.acts.length : Int)) = false := by rw [decide_eq_false_iff_not]; omega
 have q0 : decide (t.cap < 0) = false := by rw [decide_eq_false_iff_not]; omega
 have q16 : decide (16 < t.cap) = false := by rw [decide_eq_false_iff_not]; omega
 have hks : (t.kind == 2) = false ∨ ((t.kind == 2) = true ∧ decide (1 < (ws.length : Int)) = false) := by
  by_cases e2 : t.kind = 2
  ·right; refine ⟨by simpa using e2, ?_⟩
   rw [decide_eq_false_iff_not]; omega
  ·left; simpa using e2
 clear g1 g2 g3 hn hma n m
 rcases hks with k1 | ⟨k1, k2⟩
 all_goals
  repeat' (first | (with_reducible refine zA ?_) | ((with_reducible refine qaac ?_); (try rw [hP]); simp -implicitDefEqProofs [*]) | ((with_reducible refine qaaf ?_); (try simp -implicitDefEqProofs [*])) | ((with_reducible refine qaaa rfl (fun h => ?_) (fun h => ?_)) <;> have h' := h <;> (try simp at h') <;> (try subst h')) | fail)
  clear k1 a0 a4 q0 q16 l0 l3
  refine qaal (qaa5 (fun s (i : Nat) => s.turn [(7, .int .i64 i)] []) (fun i => i ≤ ws.length ∧ F = if (ws.drop i).any wOut = true then 6 else if (t.acts.drop 0).any (aOut acts.length) = true then 1 else qagk t.acts acts t.def_ t.args) (fun i => ws.length - i) 0 ?_ ⟨by simp, hF.out⟩ ?_)
  ·repeat' (first | ((with_reducible refine qaah [] hm ?_ ?_ ?_ ?_) <;> (try simp only [zT, puth, Nat.reduceEqDiff, reduceIte, Nat.reduceAdd])) | (with_reducible first | refine za ?_ ?_ | refine zb ?_ ?_ ?_ ?_) | (with_reducible first | exact qaab | exact qaad) | ((with_reducible first | refine zga ?_ | refine zgb ?_); rfl) | ((with_reducible refine zgd ?_); (first | omega | (simp; done))) | (exact Co.refl _) | (exact CoL.refl _) | fail)
  rintro J hJ i ⟨h5, h6⟩
  unfold qahy
  simp only [zT, puth, Nat.reduceEqDiff, reduceIte, Nat.reduceAdd] at h5 h6 ⊢
  rcases Nat.lt_or_ge i ws.length with hi | hi
  ·rw [qadi _ hi] at h6
   generalize hxx : ws[i] = x at h6
   have wi : IntKind.i64.wrap ((i : Int) + 1) = (i : Int) + 1 := qaar (by omega) (by omega)
   replace h6 := Lib.hid h6
   cases hv : wOut x
   ·have hv1 : decide (x < 1) = false ∧ decide (48 < x) = false := by simpa [wOut] using hv
    obtain ⟨v1, v2⟩ := hv1
    repeat' (first | (with_reducible first | refine zA ?_ | refine qaae ?_) | ((with_reducible refine qaac ?_); (try rw [hP]); simp -implicitDefEqProofs [*]) | ((with_reducible refine qaaf ?_); (try simp -implicitDefEqProofs [*])) | ((with_reducible refine qaaa rfl (fun h => ?_) (fun h => ?_)) <;> have h' := h <;> (try simp at h') <;> (try subst h')) | (with_reducible first | refine za ?_ ?_ | refine zb ?_ ?_ ?_ ?_) | (with_reducible first | exact qaab | exact qaad) | ((with_reducible first | refine zga ?_ | refine zgb ?_); rfl) | ((with_reducible first | refine zgd ?_ | refine zge ?_); (first | omega | (simp; done))) | (exact Co.refl _) | (exact CoL.refl _) | ((refine qaaj hJ (i + 1) ?_ ?_ ?_; (with_reducible refine qaah [] hm ?_ ?_ ?_ ?_) <;> (try simp only [zT, puth, Nat.reduceEqDiff, reduceIte, Nat.reduceAdd]))) | fail)
    exact ⟨by omega, by rw [h6.out, hv, Bool.false_or]⟩
   ·replace hv := Lib.hid hv
    repeat' (first | (with_reducible first | refine zA ?_ | refine qaae ?_) | ((with_reducible refine qaac ?_); (try rw [hP]); simp -implicitDefEqProofs [*]) | ((with_reducible refine qaaf ?_); (try simp -implicitDefEqProofs [*])) | ((with_reducible refine qaam ?_); (try simp only [qaap, qaag, qaai])) | ((with_reducible refine qaaa rfl (fun h => ?_) (fun h => ?_)) <;> have h' := h <;> (try simp at h') <;> (try subst h')) | ((with_reducible refine qaan (fun h => ?_) (fun h => ?_)) <;> have h' := h <;> (try simp at h') <;> (try subst h') <;> simp -implicitDefEqProofs [*]) | (with_reducible refine zM hm ?_) | (with_reducible first | refine za ?_ ?_ | refine zb ?_ ?_ ?_ ?_) | (with_reducible first | exact qaab | exact qaad) | ((with_reducible first | refine zga ?_ | refine zgb ?_); rfl) | ((with_reducible first | refine zgd ?_ | refine zge ?_); (first | omega | (simp; done))) | (exact Co.refl _) | (exact CoL.refl _) | ((refine qaaj hJ (i + 1) ?_ ?_ ?_; (with_reducible refine qaah [] hm ?_ ?_ ?_ ?_) <;> (try simp only [zT, puth, Nat.reduceEqDiff, reduceIte, Nat.reduceAdd]))) | fail)
    all_goals (first | (exfalso; have q := hv.out; simp only [wOut, Bool.or_eq_true, decide_eq_true_eq] at q; omega) | (rw [h6.out, hv.out]; rfl))
  ·obtain rfl : i = ws.length := by omega
   have h7 : F = if (t.acts.drop 0).any (aOut acts.length) = true then 1 else qagk t.acts acts t.def_ t.args := by rw [h6, List.drop_length]; rfl
   replace h7 := Lib.hid h7
   replace h6 := Lib.hid h6
   repeat' (first | (with_reducible refine zA ?_) | ((with_reducible refine qaac ?_); (try rw [hP]); simp -implicitDefEqProofs [*]) | ((with_reducible refine qaak ?_); (try simp -implicitDefEqProofs [*])) | ((with_reducible refine qaaa rfl (fun h => ?_) (fun h => ?_)) <;> have h' := h <;> (try simp at h') <;> (try subst h')) | fail)
   refine qaal (qaa5 (fun s (i : Nat) => s.turn [(8, .int .i64 i)] []) (fun i => i ≤ t.acts.length ∧ (∀ k ∈ t.acts.take i, aOut acts.length k = false) ∧ F = if (t.acts.drop i).any (aOut acts.length) = true then 1 else qagk t.acts acts t.def_ t.args) (fun i => t.acts.length - i) 0 ?_ ⟨by simp, by simp, h7.out⟩ ?_)
   ·repeat' (first | ((with_reducible refine qaah [] hm ?_ ?_ ?_ ?_) <;> (try simp only [zT, puth, Nat.reduceEqDiff, reduceIte, Nat.reduceAdd])) | (with_reducible first | refine za ?_ ?_ | refine zb ?_ ?_ ?_ ?_) | (with_reducible first | exact qaab | exact qaad) | ((with_reducible first | refine zga ?_ | refine zgb ?_); rfl) | ((with_reducible refine zgd ?_); (first | omega | (simp; done))) | (exact Co.refl _) | (exact CoL.refl _) | fail)
   rintro J hJ i ⟨h8, h9, h10⟩
   unfold qahx
   simp only [zT, puth, Nat.reduceEqDiff, reduceIte, Nat.reduceAdd] at h8 h9 h10 ⊢
   replace h9 := Lib.hid h9
   rcases Nat.lt_or_ge i t.acts.length with hi | hi
   ·rw [qadi _ hi] at h10
    have htk : t.acts.take (i + 1) = t.acts.take i ++ [t.acts[i]] := List.take_succ_eq_append_getElem hi
    generalize hxx : t.acts[i] = x at h10 htk
    have wi : IntKind.i64.wrap ((i : Int) + 1) = (i : Int) + 1 := qaar (by omega) (by omega)
    replace h10 := Lib.hid h10
    replace htk := Lib.hid htk
    cases hv : aOut acts.length x
    ·have hv1 : decide (x < 0) = false ∧ decide ((acts.length : Int) ≤ x) = false := by simpa [aOut] using hv
     obtain ⟨v1, v2⟩ := hv1
     replace hv := Lib.hid hv
     repeat' (first | (with_reducible first | refine zA ?_ | refine qaae ?_) | ((with_reducible refine qaac ?_); (try rw [hP]); simp -implicitDefEqProofs [*]) | ((with_reducible refine qaaf ?_); (try simp -implicitDefEqProofs [*])) | ((with_reducible refine qaaa rfl (fun h => ?_) (fun h => ?_)) <;> have h' := h <;> (try simp at h') <;> (try subst h')) | (with_reducible first | refine za ?_ ?_ | refine zb ?_ ?_ ?_ ?_) | (with_reducible first | exact qaab | exact qaad) | ((with_reducible first | refine zga ?_ | refine zgb ?_); rfl) | ((with_reducible first | refine zgd ?_ | refine zge ?_); (first | omega | (simp; done))) | (exact Co.refl _) | (exact CoL.refl _) | ((refine qaaj hJ (i + 1) ?_ ?_ ?_; (with_reducible refine qaah [] hm ?_ ?_ ?_ ?_) <;> (try simp only [zT, puth, Nat.reduceEqDiff, reduceIte, Nat.reduceAdd]))) | fail)
     refine ⟨by omega, fun k hk => ?_, by rw [h10.out, hv.out, Bool.false_or]⟩
     rw [htk.out, List.mem_append] at hk
     rcases hk with hk | hk
     ·exact h9.out k hk
     ·rw [List.mem_singleton.1 hk]; exact hv.out
    ·replace hv := Lib.hid hv
     repeat' (first | (with_reducible first | refine zA ?_ | refine qaae ?_) | ((with_reducible refine qaac ?_); (try rw [hP]); simp -implicitDefEqProofs [*]) | ((with_reducible refine qaaf ?_); (try simp -implicitDefEqProofs [*])) | ((with_reducible refine qaam ?_); (try simp only [qaap, qaag, qaai])) | ((with_reducible refine qaaa rfl (fun h => ?_) (fun h => ?_)) <;> have h' := h <;> (try simp at h') <;> (try subst h')) | ((with_reducible refine qaan (fun h => ?_) (fun h => ?_)) <;> have h' := h <;> (try simp at h') <;> (try subst h') <;> simp -implicitDefEqProofs [*]) | (with_reducible refine zM hm ?_) | (with_reducible first | refine za ?_ ?_ | refine zb ?_ ?_ ?_ ?_) | (with_reducible first | exact qaab | exact qaad) | ((with_reducible first | refine zga ?_ | refine zgb ?_); rfl) | ((with_reducible first | refine zgd ?_ | refine zge ?_); (first | omega | (simp; done))) | (exact Co.refl _) | (exact CoL.refl _) | ((refine qaaj hJ (i + 1) ?_ ?_ ?_; (with_reducible refine qaah [] hm ?_ ?_ ?_ ?_) <;> (try simp only [zT, puth, Nat.reduceEqDiff, reduceIte, Nat.reduceAdd]))) | fail)
     all_goals (first | (exfalso; have q := hv.out; simp only [aOut, Bool.or_eq_true, decide_eq_true_eq] at q; omega) | (rw [h10.out, hv.out]; rfl))
   ·obtain rfl : i = t.acts.length := by omega
    have h11 : ∀ k ∈ t.acts, 0 ≤ k ∧ k < acts.length := fun k hk => by
     have := h9.out k (by rw [List.take_length]; exact hk)
     unfold aOut at this; rw [Bool.or_eq_false_iff, decide_eq_false_iff_not, decide_eq_false_iff_not] at this; omega
    have h12 : F = qagk t.acts acts t.def_ t.args := by rw [h10, List.drop_length]; rfl
    have hs := hsays.out h11
    replace hs := Lib.hid hs
    replace h11 := Lib.hid h11
    replace h10 := Lib.hid h10
    replace h12 := Lib.hid h12
    repeat' (first | (with_reducible refine zA ?_) | ((with_reducible refine qaac ?_); (try rw [hP]); simp -implicitDefEqProofs [*]) | ((with_reducible refine qaak ?_); (try simp -implicitDefEqProofs [*])) | ((with_reducible refine qaam ?_); (try simp only [qaap, qaag, qaai])) | ((with_reducible refine qaaa rfl (fun h => ?_) (fun h => ?_)) <;> have h' := h <;> (try simp at h') <;> (try subst h')) | (refine qaa0 (hs.out _) ?_; simp -implicitDefEqProofs [*]) | (with_reducible refine zM hm ?_) | fail)
    rw [h12.out]
end Go.Proofs.Ytnfjldobjgdiaaa
