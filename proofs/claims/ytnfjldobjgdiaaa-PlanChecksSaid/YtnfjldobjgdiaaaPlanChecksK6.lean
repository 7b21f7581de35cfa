/-
  Texts joined: XCplr XPlnR XPlnS XBv XPlnF XPlnG XPlnT XPlnH. No condition.
-/
import Derived.Test.YtnfjldobjgdiaaaProg
import Derived.ProofKit
import Derived.WalkSpells
import Derived.RegionTactic
import Derived.BigRegion
import Derived.Deep.RegionLaw
import Derived.Test.YtnfjldobjgdiaaaPlanChecksK5
namespace Go.Proofs.Ytnfjldobjgdiaaa
set_option linter.all false
open Go.RowKit
abbrev c_rwidth_r1 : List SOper := [Oa 3 (.box 29 (.t 0)), Oa 4 (.box 31 (.t 1)), Oa 6 (.mv (.c (.int .i64 0)))]
abbrev c_rwidth_r2 : List SOper := [Oa 7 (.mv (.c .nilsl))]
abbrev c_rwidth_r3 : List SOper := [Oa 8 (.faddr 0 (.t 4)), Oa 9 (.load (.t 8))]
abbrev c_rwidth_r4 : List SOper := [Oa 29 (.bin .eql (.t 9) (.c (.int .i64 (-3)))), Oa 28 (.mv (.t 29))]
abbrev c_rwidth_r5 : List SOper := [Oa 30 (.mkrow 3 1 1 [(.int .i64 0)] [(0, (.c (.int .i64 16)))]), Oa 7 (.mv (.t 30))]
abbrev c_rwidth_r6 : List SOper := [Oa 32 (.bin .eql (.t 9) (.c (.int .i64 (-1)))), Oa 31 (.mv (.t 32))]
abbrev c_rwidth_r7 : List SOper := [Oa 33 (.faddr 1 (.t 3)), Oa 34 (.load (.t 33)), Oa 7 (.mv (.t 34))]
abbrev c_rwidth_r8 : List SOper := [Oa 36 (.bin .eql (.t 9) (.c (.int .i64 (-2)))), Oa 35 (.mv (.t 36))]
abbrev c_rwidth_r9 : List SOper := [Oa 37 (.mv (.t 2)), Oa 7 (.mv (.t 37))]
abbrev c_rwidth_r10 : List SOper := [Oa 10 (.faddr 0 (.t 4)), Oa 11 (.load (.t 10)), Oa 12 (.bin .geq (.t 11) (.c (.int .i64 0))), Oa 13 (.mv (.t 12)), Oe 14 (.faddr 0 (.t 4)) 13 true, Oe 15 (.load (.t 14)) 13 true, Oe 16 (.faddr 0 (.t 3)) 13 true, Oe 17 (.load (.t 16)) 13 true, Oe 18 (.len false (.t 17)) 13 true, Oe 19 (.bin .lss (.t 15) (.t 18)) 13 true, Oa 20 (.pick (.t 13) (.t 19) (.c (.bool false)))]
abbrev c_rwidth_r11 : List SOper := [Oa 21 (.faddr 0 (.t 3)), Oa 22 (.load (.t 21)), Oa 23 (.faddr 0 (.t 4)), Oa 24 (.load (.t 23)), Oa 25 (.iaddr 1 (.t 22) (.t 24)), Oa 26 (.faddr 0 (.t 25)), Oa 27 (.load (.t 26)), Oa 7 (.mv (.t 27))]
abbrev c_rwidth_r12 : List SOper := [Oa 38 (.faddr 1 (.t 4)), Oa 39 (.load (.t 38)), Oa 40 (.bin .lss (.t 39) (.c (.int .i64 0))), Oa 41 (.mv (.t 40)), Oe 42 (.faddr 1 (.t 4)) 41 false, Oe 43 (.load (.t 42)) 41 false, Oe 44 (.mv (.t 7)) 41 false, Oe 45 (.len false (.t 44)) 41 false, Oe 46 (.bin .geq (.t 43) (.t 45)) 41 false, Oa 47 (.pick (.t 41) (.c (.bool true)) (.t 46))]
abbrev c_rwidth_r13 : List SOper := [Oa 6 (.mv (.c (.int .i64 0)))]
abbrev c_rwidth_r14 : List SOper := [Oa 48 (.mv (.t 7)), Oa 49 (.faddr 1 (.t 4)), Oa 50 (.load (.t 49)), Oa 51 (.iaddr 1 (.t 48) (.t 50)), Oa 52 (.load (.t 51)), Oa 6 (.mv (.t 52))]
def c_rwidth : SCode := (.seq (.reg false c_rwidth_r1 [2, 3, 4]) (.seq (.reg false c_rwidth_r2 [2, 3, 4, 7]) (.seq (.seq (.reg false c_rwidth_r3 [2, 3, 4, 7, 9]) (.block 0 (.seq (.reg false c_rwidth_r4 [2, 3, 4, 7, 9, 28]) (.cond (.t 28) (.reg false c_rwidth_r5 [4, 7]) (.seq (.reg false c_rwidth_r6 [2, 3, 4, 7, 9, 31]) (.cond (.t 31) (.reg false c_rwidth_r7 [4, 7]) (.seq (.reg false c_rwidth_r8 [2, 3, 4, 7, 35]) (.cond (.t 35) (.reg false c_rwidth_r9 [4, 7]) (.seq (.reg false c_rwidth_r10 [3, 4, 7, 20]) (.cond (.t 20) (.reg false c_rwidth_r11 [4, 7]) .skip)))))))))) (.seq (.seq (.reg false c_rwidth_r12 [4, 7, 47]) (.cond (.t 47) (.seq (.reg false c_rwidth_r13 [6]) .ret) .skip)) (.seq (.reg false c_rwidth_r14 [6]) .ret)))))
theorem comp_c_rwidth : comp Try.prog 53 ((Try.f10.body).getD .skip) = some c_rwidth.erase := by kernel_rfl
abbrev c_rtakes_r1 : List SOper := [Oa 2 (.mv (.c (.int .i64 0)))]
abbrev c_rtakes_r2 : List SOper := [Oa 3 (.mv (.t 0)), Oa 4 (.bin .lss (.t 3) (.c (.int .i64 1))), Oa 5 (.mv (.t 4)), Oe 6 (.mv (.t 0)) 5 false, Oe 7 (.bin .gtr (.t 6) (.c (.int .i64 13))) 5 false, Oa 8 (.pick (.t 5) (.c (.bool true)) (.t 7))]
abbrev c_rtakes_r3 : List SOper := [Oa 2 (.mv (.c (.int .i64 (-1))))]
abbrev c_rtakes_r4 : List SOper := [Oa 9 (.mkrow 3 1 14 [(.int .i64 0)] [(0, (.c (.int .i64 0))), (1, (.c (.int .i64 0))), (2, (.c (.int .i64 0))), (3, (.c (.int .i64 2))), (4, (.c (.int .i64 2))), (5, (.c (.int .i64 2))), (6, (.c (.int .i64 2))), (7, (.c (.int .i64 2))), (8, (.c (.int .i64 2))), (9, (.c (.int .i64 2))), (10, (.c (.int .i64 2))), (11, (.c (.int .i64 2))), (12, (.c (.int .i64 2))), (13, (.c (.int .i64 1)))]), Oa 10 (.mv (.t 0)), Oa 11 (.iaddr 1 (.t 9) (.t 10)), Oa 12 (.load (.t 11)), Oa 2 (.mv (.t 12))]
def c_rtakes : SCode := (.seq (.reg false c_rtakes_r1 [0]) (.seq (.seq (.reg false c_rtakes_r2 [0, 8]) (.cond (.t 8) (.seq (.reg false c_rtakes_r3 [2]) .ret) .skip)) (.seq (.reg false c_rtakes_r4 [2]) .ret)))
theorem comp_c_rtakes : comp Try.prog 13 ((Try.f15.body).getD .skip) = some c_rtakes.erase := by kernel_rfl
abbrev c_rexpr_r1 : List SOper := [Oa 3 (.box 29 (.t 0)), Oa 6 (.mv (.c (.int .i64 0)))]
abbrev c_rexpr_r2 : List SOper := [Oa 10 (.mv (.t 1)), Oa 11 (.len false (.t 10)), Oa 12 (.bin .gtr (.t 11) (.c (.int .i64 8)))]
abbrev c_rexpr_r3 : List SOper := [Oa 6 (.mv (.c (.int .i64 2)))]
abbrev c_rexpr_r4 : List SOper := [Oa 7 (.mv (.c (.int .i64 0)))]
abbrev c_rexpr_r5 : List SOper := [Oa 8 (.mv (.c (.int .i64 0)))]
abbrev c_rexpr_r6 : List SOper := [Oa 13 (.mv (.t 8)), Oa 14 (.mv (.t 1)), Oa 15 (.len false (.t 14)), Oa 16 (.bin .lss (.t 13) (.t 15))]
abbrev c_rexpr_r7 : List SOper := [Oa 19 (.mv (.t 1)), Oa 20 (.mv (.t 8)), Oa 21 (.iaddr 4 (.t 19) (.t 20)), Oa 22 (.faddr 0 (.t 21)), Oa 23 (.load (.t 22)), Oc 24 15 [(.t 23)], Oa 9 (.mv (.t 24))]
abbrev c_rexpr_r8 : List SOper := [Oa 25 (.mv (.t 9)), Oa 26 (.bin .lss (.t 25) (.c (.int .i64 0))), Oa 27 (.mv (.t 26)), Oe 28 (.mv (.t 9)) 27 false, Oe 29 (.mv (.t 7)) 27 false, Oe 30 (.bin .gtr (.t 28) (.t 29)) 27 false, Oa 31 (.pick (.t 27) (.c (.bool true)) (.t 30))]
abbrev c_rexpr_r9 : List SOper := [Oa 6 (.mv (.c (.int .i64 13)))]
abbrev c_rexpr_r10 : List SOper := [Oa 32 (.mv (.t 1)), Oa 33 (.mv (.t 8)), Od 34 (.iaddr 4 (.t 32) (.t 33)) 3, Od 35 (.faddr 0 (.t 34)) 7, Od 36 (.load (.t 35)) 15, Od 37 (.bin .eql (.t 36) (.c (.int .i64 2))) 31, Od 38 (.mv (.t 37)) 63, Of 39 (.loads 7 (.t 3)) 38 true 127, Of 40 (.mv (.t 1)) 38 true 127, Of 41 (.mv (.t 8)) 38 true 127, Of 42 (.iaddr 4 (.t 40) (.t 41)) 38 true 895, Of 43 (.faddr 1 (.t 42)) 38 true 1919, Of 44 (.loads 2 (.t 43)) 38 true 3967, Of 45 (.mv (.t 2)) 38 true 127, ⟨(some 46), .mv (.c .any), some ((.c (.fn (.func 10) [] [])), [(.t 39), (.t 44), (.t 45)]), (some (38, true)), 16383⟩, Of 47 (.bin .eql (.t 46) (.c (.int .i64 0))) 38 true 32767, Od 48 (.pick (.t 38) (.t 47) (.c (.bool false))) 65535]
abbrev c_rexpr_r11 : List SOper := [Oa 6 (.mv (.c (.int .i64 1)))]
abbrev c_rexpr_r12 : List SOper := [Oa 49 (.mv (.t 7)), Oa 50 (.mv (.t 9)), Oa 51 (.bin .sub (.t 49) (.t 50)), Oa 52 (.bin .add (.t 51) (.c (.int .i64 1))), Oa 7 (.mv (.t 52))]
abbrev c_rexpr_r13 : List SOper := [Oa 17 (.mv (.t 8)), Oa 18 (.bin .add (.t 17) (.c (.int .i64 1))), Oa 8 (.mv (.t 18))]
def c_rexpr_l1 : SCode := (.seq (.seq (.reg false c_rexpr_r6 [1, 2, 3, 7, 8, 16]) (.cond (.t 16) .skip (.exit 0))) (.seq (.block 1 (.seq (.reg false c_rexpr_r7 [1, 2, 3, 7, 8, 9]) (.seq (.seq (.reg false c_rexpr_r8 [1, 2, 3, 7, 8, 9, 31]) (.cond (.t 31) (.seq (.reg false c_rexpr_r9 [6]) .ret) .skip)) (.seq (.seq (.reg true c_rexpr_r10 [1, 2, 3, 7, 8, 9, 48]) (.cond (.t 48) (.seq (.reg false c_rexpr_r11 [6]) .ret) .skip)) (.reg false c_rexpr_r12 [1, 2, 3, 7, 8]))))) (.reg false c_rexpr_r13 [1, 2, 3, 7, 8])))
abbrev c_rexpr_r14 : List SOper := [Oa 53 (.mv (.t 7)), Oa 54 (.bin .neq (.t 53) (.c (.int .i64 1)))]
abbrev c_rexpr_r15 : List SOper := [Oa 6 (.mv (.c (.int .i64 13)))]
abbrev c_rexpr_r16 : List SOper := [Oa 6 (.mv (.c (.int .i64 0)))]
def c_rexpr : SCode := (.seq (.reg false c_rexpr_r1 [1, 2, 3]) (.seq (.seq (.reg false c_rexpr_r2 [1, 2, 3, 12]) (.cond (.t 12) (.seq (.reg false c_rexpr_r3 [6]) .ret) .skip)) (.seq (.reg false c_rexpr_r4 [1, 2, 3, 7]) (.seq (.seq (.reg false c_rexpr_r5 [1, 2, 3, 7, 8]) (.block 0 (.loop c_rexpr_l1))) (.seq (.seq (.reg false c_rexpr_r14 [54]) (.cond (.t 54) (.seq (.reg false c_rexpr_r15 [6]) .ret) .skip)) (.seq (.reg false c_rexpr_r16 [6]) .ret))))))
theorem comp_c_rexpr : comp Try.prog 55 ((Try.f73.body).getD .skip) = some c_rexpr.erase := by kernel_rfl
abbrev c_rhead_r1 : List SOper := [Oa 2 (.box 29 (.t 0)), Oa 4 (.mv (.c (.bool false)))]
abbrev c_rhead_r2 : List SOper := [Oa 5 (.mv (.t 1)), Oa 6 (.bin .geq (.t 5) (.c (.int .i64 0))), Oa 7 (.mv (.t 6)), Oe 8 (.mv (.t 1)) 7 true, Oe 9 (.faddr 0 (.t 2)) 7 true, Oe 10 (.load (.t 9)) 7 true, Oe 11 (.len false (.t 10)) 7 true, Oe 12 (.bin .lss (.t 8) (.t 11)) 7 true, Oa 13 (.pick (.t 7) (.t 12) (.c (.bool false))), Oa 4 (.mv (.t 13))]
def c_rhead : SCode := (.seq (.reg false c_rhead_r1 [1, 2]) (.seq (.reg false c_rhead_r2 [4]) .ret))
theorem comp_c_rhead : comp Try.prog 14 ((Try.f46.body).getD .skip) = some c_rhead.erase := by kernel_rfl
abbrev c_rmay_r1 : List SOper := [Oa 2 (.box 29 (.t 0)), Oa 3 (.box 31 (.t 1)), Oa 4 (.mv (.c (.bool false)))]
abbrev c_rmay_r2 : List SOper := [Oa 5 (.faddr 0 (.t 3)), Oa 6 (.load (.t 5)), Oa 7 (.bin .geq (.t 6) (.c (.int .i64 (-1)))), Oa 8 (.mv (.t 7)), Oe 9 (.loads 7 (.t 2)) 8 true, Oe 10 (.loads 2 (.t 3)) 8 true, ⟨(some 11), .mv (.c .any), some ((.c (.fn (.func 10) [] [])), [(.t 9), (.t 10), (.c .nilsl)]), (some (8, true)), 0⟩, Oe 12 (.bin .gtr (.t 11) (.c (.int .i64 0))) 8 true, Oa 13 (.pick (.t 8) (.t 12) (.c (.bool false))), Oa 4 (.mv (.t 13))]
def c_rmay : SCode := (.seq (.reg false c_rmay_r1 [2, 3]) (.seq (.reg false c_rmay_r2 [4]) .ret))
theorem comp_c_rmay : comp Try.prog 14 ((Try.f89.body).getD .skip) = some c_rmay.erase := by kernel_rfl
abbrev c_rdeed_r1 : List SOper := [Oa 3 (.box 29 (.t 0)), Oa 4 (.box 71 (.t 1)), Oa 6 (.mv (.c (.int .i64 0)))]
abbrev c_rdeed_r2 : List SOper := [Oa 7 (.faddr 0 (.t 4)), Oa 8 (.load (.t 7))]
abbrev c_rdeed_r3 : List SOper := [Oa 10 (.bin .eql (.t 8) (.c (.int .i64 1))), Oa 9 (.mv (.t 10))]
abbrev c_rdeed_r4 : List SOper := [Oa 11 (.loads 7 (.t 3)), Oa 12 (.faddr 1 (.t 4)), Oa 13 (.loads 2 (.t 12)), Oc 14 89 [(.t 11), (.t 13)], Oa 15 (.un .not (.t 14))]
abbrev c_rdeed_r5 : List SOper := [Oa 6 (.mv (.c (.int .i64 1)))]
abbrev c_rdeed_r6 : List SOper := [Oa 16 (.loads 7 (.t 3)), Oa 17 (.faddr 4 (.t 4)), Oa 18 (.load (.t 17)), Oa 19 (.mv (.t 2)), Oc 20 73 [(.t 16), (.t 18), (.t 19)], Oa 6 (.mv (.t 20))]
abbrev c_rdeed_r7 : List SOper := [Oa 22 (.bin .eql (.t 8) (.c (.int .i64 2))), Oa 21 (.mv (.t 22))]
abbrev c_rdeed_r8 : List SOper := [Oa 23 (.bin .eql (.t 8) (.c (.int .i64 3))), Oa 21 (.mv (.t 23))]
abbrev c_rdeed_r9 : List SOper := [Oa 24 (.loads 7 (.t 3)), Oa 25 (.faddr 3 (.t 4)), Oa 26 (.load (.t 25)), Oc 27 46 [(.t 24), (.t 26)], Oa 28 (.un .not (.t 27))]
abbrev c_rdeed_r10 : List SOper := [Oa 6 (.mv (.c (.int .i64 1)))]
abbrev c_rdeed_r11 : List SOper := [Oa 30 (.bin .eql (.t 8) (.c (.int .i64 4))), Oa 29 (.mv (.t 30))]
abbrev c_rdeed_r12 : List SOper := [Oa 32 (.bin .eql (.t 8) (.c (.int .i64 5))), Oa 31 (.mv (.t 32))]
abbrev c_rdeed_r13 : List SOper := [Oa 33 (.loads 7 (.t 3)), Oa 34 (.faddr 4 (.t 4)), Oa 35 (.load (.t 34)), Oa 36 (.mv (.t 2)), Oc 37 73 [(.t 33), (.t 35), (.t 36)], Oa 6 (.mv (.t 37))]
abbrev c_rdeed_r14 : List SOper := [Oa 39 (.bin .eql (.t 8) (.c (.int .i64 6))), Oa 38 (.mv (.t 39))]
abbrev c_rdeed_r15 : List SOper := [Oa 40 (.loads 7 (.t 3)), Oa 41 (.faddr 1 (.t 4)), Oa 42 (.loads 2 (.t 41)), Oc 43 89 [(.t 40), (.t 42)], Oa 44 (.un .not (.t 43)), Oa 45 (.mv (.t 44)), Oe 46 (.loads 7 (.t 3)) 45 false, Oe 47 (.faddr 3 (.t 4)) 45 false, Oe 48 (.load (.t 47)) 45 false, ⟨(some 49), .mv (.c .any), some ((.c (.fn (.func 46) [] [])), [(.t 46), (.t 48)]), (some (45, false)), 0⟩, Oe 50 (.un .not (.t 49)) 45 false, Oa 51 (.pick (.t 45) (.c (.bool true)) (.t 50))]
abbrev c_rdeed_r16 : List SOper := [Oa 6 (.mv (.c (.int .i64 1)))]
abbrev c_rdeed_r17 : List SOper := [Oa 6 (.mv (.c (.int .i64 5)))]
abbrev c_rdeed_r18 : List SOper := [Oa 6 (.mv (.c (.int .i64 0)))]
def c_rdeed : SCode := (.seq (.reg false c_rdeed_r1 [2, 3, 4]) (.seq (.seq (.reg false c_rdeed_r2 [2, 3, 4, 8]) (.block 0 (.seq (.reg false c_rdeed_r3 [2, 3, 4, 8, 9]) (.cond (.t 9) (.seq (.seq (.reg false c_rdeed_r4 [2, 3, 4, 15]) (.cond (.t 15) (.seq (.reg false c_rdeed_r5 [6]) .ret) .skip)) (.seq (.reg false c_rdeed_r6 [6]) .ret)) (.seq (.seq (.reg false c_rdeed_r7 [2, 3, 4, 8, 21]) (.cond (.t 21) .skip (.reg false c_rdeed_r8 [2, 3, 4, 8, 21]))) (.cond (.t 21) (.seq (.reg false c_rdeed_r9 [28]) (.cond (.t 28) (.seq (.reg false c_rdeed_r10 [6]) .ret) .skip)) (.seq (.reg false c_rdeed_r11 [2, 3, 4, 8, 29]) (.cond (.t 29) .skip (.seq (.reg false c_rdeed_r12 [2, 3, 4, 8, 31]) (.cond (.t 31) (.seq (.reg false c_rdeed_r13 [6]) .ret) (.seq (.reg false c_rdeed_r14 [3, 4, 38]) (.cond (.t 38) (.seq (.reg false c_rdeed_r15 [51]) (.cond (.t 51) (.seq (.reg false c_rdeed_r16 [6]) .ret) .skip)) (.seq (.reg false c_rdeed_r17 [6]) .ret))))))))))))) (.seq (.reg false c_rdeed_r18 [6]) .ret)))
theorem comp_c_rdeed : comp Try.prog 52 ((Try.f71.body).getD .skip) = some c_rdeed.erase := by kernel_rfl
abbrev c_rlead_r1 : List SOper := [Oa 3 (.box 29 (.t 0)), Oa 6 (.mv (.c (.int .i64 0)))]
abbrev c_rlead_r2 : List SOper := [Oa 7 (.mv (.t 2)), Oa 8 (.bin .eql (.t 7) (.c (.int .i64 1000))), Oa 9 (.mv (.t 8)), Oe 10 (.mv (.t 2)) 9 false, Oe 11 (.bin .eql (.t 10) (.c (.int .i64 1001))) 9 false, Oa 12 (.pick (.t 9) (.c (.bool true)) (.t 11))]
abbrev c_rlead_r3 : List SOper := [Oa 6 (.mv (.c (.int .i64 0)))]
abbrev c_rlead_r4 : List SOper := [Oa 13 (.mv (.t 2)), Oa 14 (.bin .lss (.t 13) (.c (.int .i64 0))), Oa 15 (.mv (.t 14)), Oe 16 (.mv (.t 2)) 15 false, Oe 17 (.faddr 2 (.t 3)) 15 false, Oe 18 (.load (.t 17)) 15 false, Oe 19 (.len false (.t 18)) 15 false, Oe 20 (.bin .geq (.t 16) (.t 19)) 15 false, Oa 21 (.pick (.t 15) (.c (.bool true)) (.t 20))]
abbrev c_rlead_r5 : List SOper := [Oa 6 (.mv (.c (.int .i64 1)))]
abbrev c_rlead_r6 : List SOper := [Oa 22 (.mv (.t 2)), Oa 23 (.mv (.t 1)), Oa 24 (.bin .leq (.t 22) (.t 23))]
abbrev c_rlead_r7 : List SOper := [Oa 6 (.mv (.c (.int .i64 11)))]
abbrev c_rlead_r8 : List SOper := [Oa 6 (.mv (.c (.int .i64 0)))]
def c_rlead : SCode := (.seq (.reg false c_rlead_r1 [1, 2, 3]) (.seq (.seq (.reg false c_rlead_r2 [1, 2, 3, 12]) (.cond (.t 12) (.seq (.reg false c_rlead_r3 [6]) .ret) .skip)) (.seq (.seq (.reg false c_rlead_r4 [1, 2, 21]) (.cond (.t 21) (.seq (.reg false c_rlead_r5 [6]) .ret) .skip)) (.seq (.seq (.reg false c_rlead_r6 [24]) (.cond (.t 24) (.seq (.reg false c_rlead_r7 [6]) .ret) .skip)) (.seq (.reg false c_rlead_r8 [6]) .ret)))))
theorem comp_c_rlead : comp Try.prog 25 ((Try.f70.body).getD .skip) = some c_rlead.erase := by kernel_rfl
abbrev c_rstate_r1 : List SOper := [Oa 2 (.box 29 (.t 0)), Oa 4 (.mv (.c (.int .i64 0)))]
abbrev c_rstate_r2 : List SOper := [Oa 10 (.faddr 2 (.t 2)), Oa 11 (.load (.t 10)), Oa 12 (.mv (.t 1)), Oa 13 (.iaddr 5 (.t 11) (.t 12)), Oa 14 (.loads 5 (.t 13)), Oa 5 (.alloc 65 [(.int .i64 0), (.int .i64 0), (.int .i64 0), .nilsl, (.int .i64 0)]), Ob (.store 5 (.t 5) (.t 14))]
abbrev c_rstate_r3 : List SOper := [Oa 15 (.faddr 0 (.t 5)), Oa 16 (.load (.t 15)), Oa 17 (.bin .neq (.t 16) (.c (.int .i64 (-1)))), Oa 18 (.mv (.t 17)), Oe 19 (.loads 7 (.t 2)) 18 true, Oe 20 (.faddr 0 (.t 5)) 18 true, Oe 21 (.load (.t 20)) 18 true, ⟨(some 22), .mv (.c .any), some ((.c (.fn (.func 46) [] [])), [(.t 19), (.t 21)]), (some (18, true)), 0⟩, Oe 23 (.un .not (.t 22)) 18 true, Oa 24 (.pick (.t 18) (.t 23) (.c (.bool false)))]
abbrev c_rstate_r4 : List SOper := [Oa 4 (.mv (.c (.int .i64 1)))]
abbrev c_rstate_r5 : List SOper := [Oa 25 (.faddr 3 (.t 5)), Oa 26 (.load (.t 25)), Oa 27 (.len false (.t 26)), Oa 28 (.bin .gtr (.t 27) (.c (.int .i64 4)))]
abbrev c_rstate_r6 : List SOper := [Oa 4 (.mv (.c (.int .i64 2)))]
abbrev c_rstate_r7 : List SOper := [Oa 29 (.loads 7 (.t 2)), Oa 30 (.faddr 1 (.t 5)), Oa 31 (.loads 2 (.t 30)), Oc 32 10 [(.t 29), (.t 31), (.c .nilsl)], Oa 6 (.mv (.t 32))]
abbrev c_rstate_r8 : List SOper := [Oa 33 (.faddr 3 (.t 5)), Oa 34 (.load (.t 33)), Oa 35 (.len false (.t 34)), Oa 36 (.bin .gtr (.t 35) (.c (.int .i64 0))), Oa 37 (.mv (.t 36)), Oe 38 (.mv (.t 6)) 37 true, Oe 39 (.bin .eql (.t 38) (.c (.int .i64 0))) 37 true, Oa 40 (.pick (.t 37) (.t 39) (.c (.bool false)))]
abbrev c_rstate_r9 : List SOper := [Oa 4 (.mv (.c (.int .i64 1)))]
abbrev c_rstate_r10 : List SOper := [Oa 7 (.mv (.c (.int .i64 0)))]
abbrev c_rstate_r11 : List SOper := [Oa 41 (.mv (.t 7)), Oa 42 (.faddr 3 (.t 5)), Oa 43 (.load (.t 42)), Oa 44 (.len false (.t 43)), Oa 45 (.bin .lss (.t 41) (.t 44))]
abbrev c_rstate_r12 : List SOper := [Oa 48 (.faddr 3 (.t 5)), Oa 49 (.load (.t 48)), Oa 50 (.mv (.t 7)), Oa 51 (.iaddr 3 (.t 49) (.t 50)), Oa 52 (.loads 3 (.t 51)), Oa 8 (.alloc 95 [(.int .u64 0), (.int .u64 0), (.int .i64 0)]), Ob (.store 3 (.t 8) (.t 52))]
abbrev c_rstate_r13 : List SOper := [Oa 53 (.faddr 1 (.t 8)), Oa 54 (.load (.t 53)), Oa 55 (.mv (.t 6)), Oc 56 69 [(.t 54), (.t 55)], Oa 57 (.mv (.t 56)), Oe 58 (.faddr 0 (.t 8)) 57 false, Oe 59 (.load (.t 58)) 57 false, Oe 60 (.faddr 1 (.t 8)) 57 false, Oe 61 (.load (.t 60)) 57 false, Oe 62 (.bin .and (.t 59) (.t 61)) 57 false, Oe 63 (.faddr 0 (.t 8)) 57 false, Oe 64 (.load (.t 63)) 57 false, Oe 65 (.bin .neq (.t 62) (.t 64)) 57 false, Oa 66 (.pick (.t 57) (.c (.bool true)) (.t 65))]
abbrev c_rstate_r14 : List SOper := [Oa 4 (.mv (.c (.int .i64 6)))]
abbrev c_rstate_r15 : List SOper := [Oa 67 (.loads 7 (.t 2)), Oa 68 (.mv (.t 1)), Oa 69 (.faddr 2 (.t 8)), Oa 70 (.load (.t 69)), Oc 71 70 [(.t 67), (.t 68), (.t 70)], Oa 9 (.mv (.t 71))]
abbrev c_rstate_r16 : List SOper := [Oa 72 (.mv (.t 9)), Oa 73 (.bin .neq (.t 72) (.c (.int .i64 0)))]
abbrev c_rstate_r17 : List SOper := [Oa 74 (.mv (.t 9)), Oa 4 (.mv (.t 74))]
abbrev c_rstate_r18 : List SOper := [Oa 46 (.mv (.t 7)), Oa 47 (.bin .add (.t 46) (.c (.int .i64 1))), Oa 7 (.mv (.t 47))]
def c_rstate_l1 : SCode := (.seq (.seq (.reg false c_rstate_r11 [1, 2, 5, 6, 7, 45]) (.cond (.t 45) .skip (.exit 0))) (.seq (.block 1 (.seq (.reg false c_rstate_r12 [1, 2, 5, 6, 7, 8]) (.seq (.seq (.reg false c_rstate_r13 [1, 2, 5, 6, 7, 8, 66]) (.cond (.t 66) (.seq (.reg false c_rstate_r14 [4]) .ret) .skip)) (.seq (.reg false c_rstate_r15 [1, 2, 5, 6, 7, 9]) (.seq (.reg false c_rstate_r16 [1, 2, 5, 6, 7, 9, 73]) (.cond (.t 73) (.seq (.reg false c_rstate_r17 [4]) .ret) .skip)))))) (.reg false c_rstate_r18 [1, 2, 5, 6, 7])))
abbrev c_rstate_r19 : List SOper := [Oa 75 (.loads 7 (.t 2)), Oa 76 (.mv (.t 1)), Oa 77 (.faddr 4 (.t 5)), Oa 78 (.load (.t 77)), Oc 79 70 [(.t 75), (.t 76), (.t 78)], Oa 4 (.mv (.t 79))]
def c_rstate : SCode := (.seq (.reg false c_rstate_r1 [1, 2]) (.seq (.reg false c_rstate_r2 [1, 2, 5]) (.seq (.seq (.reg false c_rstate_r3 [1, 2, 5, 24]) (.cond (.t 24) (.seq (.reg false c_rstate_r4 [4]) .ret) .skip)) (.seq (.seq (.reg false c_rstate_r5 [1, 2, 5, 28]) (.cond (.t 28) (.seq (.reg false c_rstate_r6 [4]) .ret) .skip)) (.seq (.reg false c_rstate_r7 [1, 2, 5, 6]) (.seq (.seq (.reg false c_rstate_r8 [1, 2, 5, 6, 40]) (.cond (.t 40) (.seq (.reg false c_rstate_r9 [4]) .ret) .skip)) (.seq (.seq (.reg false c_rstate_r10 [1, 2, 5, 6, 7]) (.block 0 (.loop c_rstate_l1))) (.seq (.reg false c_rstate_r19 [4]) .ret))))))))
theorem comp_c_rstate : comp Try.prog 80 ((Try.f41.body).getD .skip) = some c_rstate.erase := by kernel_rfl
abbrev c_ract_r1 : List SOper := [Oa 2 (.box 29 (.t 0)), Oa 3 (.box 68 (.t 1)), Oa 4 (.mv (.c (.int .i64 0)))]
abbrev c_ract_r2 : List SOper := [Oa 8 (.faddr 0 (.t 3)), Oa 9 (.load (.t 8)), Oa 10 (.len false (.t 9)), Oa 11 (.bin .gtr (.t 10) (.c (.int .i64 3))), Oa 12 (.mv (.t 11)), Oe 13 (.faddr 1 (.t 3)) 12 false, Oe 14 (.load (.t 13)) 12 false, Oe 15 (.len false (.t 14)) 12 false, Oe 16 (.bin .gtr (.t 15) (.c (.int .i64 5))) 12 false, Oa 17 (.pick (.t 12) (.c (.bool true)) (.t 16))]
abbrev c_ract_r3 : List SOper := [Oa 4 (.mv (.c (.int .i64 2)))]
abbrev c_ract_r4 : List SOper := [Oa 5 (.mv (.c (.int .i64 0)))]
abbrev c_ract_r5 : List SOper := [Oa 18 (.mv (.t 5)), Oa 19 (.faddr 0 (.t 3)), Oa 20 (.load (.t 19)), Oa 21 (.len false (.t 20)), Oa 22 (.bin .lss (.t 18) (.t 21))]
abbrev c_ract_r6 : List SOper := [Oa 25 (.faddr 0 (.t 3)), Oa 26 (.load (.t 25)), Oa 27 (.mv (.t 5)), Oa 28 (.iaddr 1 (.t 26) (.t 27)), Oa 29 (.load (.t 28)), Oa 30 (.bin .lss (.t 29) (.c (.int .i64 1))), Oa 31 (.mv (.t 30)), Oe 32 (.faddr 0 (.t 3)) 31 false, Oe 33 (.load (.t 32)) 31 false, Oe 34 (.mv (.t 5)) 31 false, Oe 35 (.iaddr 1 (.t 33) (.t 34)) 31 false, Oe 36 (.load (.t 35)) 31 false, Oe 37 (.bin .gtr (.t 36) (.c (.int .i64 48))) 31 false, Oa 38 (.pick (.t 31) (.c (.bool true)) (.t 37))]
abbrev c_ract_r7 : List SOper := [Oa 4 (.mv (.c (.int .i64 6)))]
abbrev c_ract_r8 : List SOper := [Oa 23 (.mv (.t 5)), Oa 24 (.bin .add (.t 23) (.c (.int .i64 1))), Oa 5 (.mv (.t 24))]
def c_ract_l1 : SCode := (.seq (.seq (.reg false c_ract_r5 [2, 3, 5, 22]) (.cond (.t 22) .skip (.exit 0))) (.seq (.block 1 (.seq (.reg false c_ract_r6 [2, 3, 5, 38]) (.cond (.t 38) (.seq (.reg false c_ract_r7 [4]) .ret) .skip))) (.reg false c_ract_r8 [2, 3, 5])))
abbrev c_ract_r9 : List SOper := [Oa 6 (.mv (.c (.int .i64 0)))]
abbrev c_ract_r10 : List SOper := [Oa 39 (.mv (.t 6)), Oa 40 (.faddr 1 (.t 3)), Oa 41 (.load (.t 40)), Oa 42 (.len false (.t 41)), Oa 43 (.bin .lss (.t 39) (.t 42))]
abbrev c_ract_r11 : List SOper := [Oa 46 (.loads 7 (.t 2)), Oa 47 (.faddr 1 (.t 3)), Od 48 (.load (.t 47)) 2, Oa 49 (.mv (.t 6)), Od 50 (.iaddr 5 (.t 48) (.t 49)) 14, Od 51 (.loads 5 (.t 50)) 30, Oa 52 (.faddr 0 (.t 3)), Od 53 (.load (.t 52)) 64, ⟨(some 54), .mv (.c .any), some ((.c (.fn (.func 71) [] [])), [(.t 46), (.t 51), (.t 53)]), none, 255⟩, Od 7 (.mv (.t 54)) 511]
abbrev c_ract_r12 : List SOper := [Oa 55 (.mv (.t 7)), Oa 56 (.bin .neq (.t 55) (.c (.int .i64 0)))]
abbrev c_ract_r13 : List SOper := [Oa 57 (.mv (.t 7)), Oa 4 (.mv (.t 57))]
abbrev c_ract_r14 : List SOper := [Oa 44 (.mv (.t 6)), Oa 45 (.bin .add (.t 44) (.c (.int .i64 1))), Oa 6 (.mv (.t 45))]
def c_ract_l2 : SCode := (.seq (.seq (.reg false c_ract_r10 [2, 3, 6, 43]) (.cond (.t 43) .skip (.exit 2))) (.seq (.block 3 (.seq (.reg true c_ract_r11 [2, 3, 6, 7]) (.seq (.reg false c_ract_r12 [2, 3, 6, 7, 56]) (.cond (.t 56) (.seq (.reg false c_ract_r13 [4]) .ret) .skip)))) (.reg false c_ract_r14 [2, 3, 6])))
abbrev c_ract_r15 : List SOper := [Oa 4 (.mv (.c (.int .i64 0)))]
def c_ract : SCode := (.seq (.reg false c_ract_r1 [2, 3]) (.seq (.seq (.reg false c_ract_r2 [2, 3, 17]) (.cond (.t 17) (.seq (.reg false c_ract_r3 [4]) .ret) .skip)) (.seq (.seq (.reg false c_ract_r4 [2, 3, 5]) (.block 0 (.loop c_ract_l1))) (.seq (.seq (.reg false c_ract_r9 [2, 3, 6]) (.block 2 (.loop c_ract_l2))) (.seq (.reg false c_ract_r15 [4]) .ret)))))
theorem comp_c_ract : comp Try.prog 58 ((Try.f42.body).getD .skip) = some c_ract.erase := by kernel_rfl
abbrev c_rwidths_r1 : List SOper := [Oa 2 (.box 29 (.t 0)), Oa 3 (.box 35 (.t 1)), Oa 4 (.mv (.c .nilsl))]
abbrev c_rwidths_r2 : List SOper := [Oa 5 (.mv (.c .nilsl))]
abbrev c_rwidths_r3 : List SOper := [Oa 6 (.mv (.c (.int .i64 0)))]
abbrev c_rwidths_r4 : List SOper := [Oa 7 (.mv (.t 6)), Oa 8 (.faddr 1 (.t 3)), Oa 9 (.load (.t 8)), Oa 10 (.len false (.t 9)), Oa 11 (.bin .lss (.t 7) (.t 10))]
abbrev c_rwidths_r5 : List SOper := [Oa 14 (.mv (.t 5)), Oa 15 (.loads 7 (.t 2)), Oa 16 (.faddr 1 (.t 3)), Od 17 (.load (.t 16)) 4, Oa 18 (.mv (.t 6)), Od 19 (.iaddr 2 (.t 17) (.t 18)) 28, Od 20 (.loads 2 (.t 19)) 60, ⟨(some 21), .mv (.c .any), some ((.c (.fn (.func 10) [] [])), [(.t 15), (.t 20), (.c .nilsl)]), none, 126⟩, Od 22 (.mkrow 3 1 1 [(.int .i64 0)] [(0, (.t 21))]) 254, Od 23 (.app 3 1 8 (.t 14) (.t 22)) 511, Od 5 (.mv (.t 23)) 1023]
abbrev c_rwidths_r6 : List SOper := [Oa 12 (.mv (.t 6)), Oa 13 (.bin .add (.t 12) (.c (.int .i64 1))), Oa 6 (.mv (.t 13))]
def c_rwidths_l1 : SCode := (.seq (.seq (.reg false c_rwidths_r4 [2, 3, 5, 6, 11]) (.cond (.t 11) .skip (.exit 0))) (.seq (.block 1 (.reg true c_rwidths_r5 [2, 3, 5, 6])) (.reg false c_rwidths_r6 [2, 3, 5, 6])))
abbrev c_rwidths_r7 : List SOper := [Oa 24 (.mv (.t 5)), Oa 4 (.mv (.t 24))]
def c_rwidths : SCode := (.seq (.reg false c_rwidths_r1 [2, 3]) (.seq (.reg false c_rwidths_r2 [2, 3, 5]) (.seq (.seq (.reg false c_rwidths_r3 [2, 3, 5, 6]) (.block 0 (.loop c_rwidths_l1))) (.seq (.reg false c_rwidths_r7 [4]) .ret))))
theorem comp_c_rwidths : comp Try.prog 25 ((Try.f13.body).getD .skip) = some c_rwidths.erase := by kernel_rfl
abbrev c_rnode_r1 : List SOper := [Oa 2 (.box 29 (.t 0)), Oa 4 (.mv (.c (.int .i64 0)))]
abbrev c_rnode_r2 : List SOper := [Oa 9 (.faddr 5 (.t 2)), Oa 10 (.load (.t 9)), Oa 11 (.mv (.t 1)), Oa 12 (.iaddr 5 (.t 10) (.t 11)), Oa 13 (.loads 5 (.t 12)), Oa 5 (.alloc 73 [(.int .i64 0), (.int .i64 0), .nilsl, (.int .i64 0), (.int .i64 0)]), Ob (.store 5 (.t 5) (.t 13))]
abbrev c_rnode_r3 : List SOper := [Oa 6 (.mv (.c (.int .i64 0)))]
abbrev c_rnode_r4 : List SOper := [Oa 14 (.faddr 3 (.t 5)), Oa 15 (.load (.t 14)), Oa 16 (.mkrow 3 1 1 [(.int .i64 0)] [(0, (.t 15))]), Oa 7 (.mv (.t 16))]
abbrev c_rnode_r5 : List SOper := [Oa 17 (.faddr 0 (.t 5)), Oa 18 (.load (.t 17))]
abbrev c_rnode_r6 : List SOper := [Oa 20 (.bin .eql (.t 18) (.c (.int .i64 1))), Oa 19 (.mv (.t 20))]
abbrev c_rnode_r7 : List SOper := [Oa 21 (.faddr 1 (.t 5)), Oa 22 (.load (.t 21)), Oa 23 (.bin .lss (.t 22) (.c (.int .i64 0))), Oa 24 (.mv (.t 23)), Oe 25 (.faddr 1 (.t 5)) 24 false, Oe 26 (.load (.t 25)) 24 false, Oe 27 (.faddr 4 (.t 2)) 24 false, Oe 28 (.load (.t 27)) 24 false, Oe 29 (.len false (.t 28)) 24 false, Oe 30 (.bin .geq (.t 26) (.t 29)) 24 false, Oa 31 (.pick (.t 24) (.c (.bool true)) (.t 30))]
abbrev c_rnode_r8 : List SOper := [Oa 6 (.mv (.c (.int .i64 1)))]
abbrev c_rnode_r9 : List SOper := [Oa 33 (.bin .eql (.t 18) (.c (.int .i64 2))), Oa 32 (.mv (.t 33))]
abbrev c_rnode_r10 : List SOper := [Oa 34 (.faddr 1 (.t 5)), Oa 35 (.load (.t 34)), Oa 36 (.bin .lss (.t 35) (.c (.int .i64 0))), Oa 37 (.mv (.t 36)), Oe 38 (.faddr 1 (.t 5)) 37 false, Oe 39 (.load (.t 38)) 37 false, Oe 40 (.faddr 3 (.t 2)) 37 false, Oe 41 (.load (.t 40)) 37 false, Oe 42 (.len false (.t 41)) 37 false, Oe 43 (.bin .geq (.t 39) (.t 42)) 37 false, Oa 44 (.pick (.t 37) (.c (.bool true)) (.t 43))]
abbrev c_rnode_r11 : List SOper := [Oa 6 (.mv (.c (.int .i64 1)))]
abbrev c_rnode_r12 : List SOper := [Oa 45 (.faddr 3 (.t 2)), Oa 46 (.load (.t 45)), Oa 47 (.faddr 1 (.t 5)), Oa 48 (.load (.t 47)), Oa 49 (.iaddr 2 (.t 46) (.t 48)), Oa 50 (.faddr 0 (.t 49)), Oa 51 (.load (.t 50)), Oa 52 (.len false (.t 51)), Oa 53 (.bin .gtr (.t 52) (.c (.int .i64 0)))]
abbrev c_rnode_r13 : List SOper := [Oa 6 (.mv (.c (.int .i64 2)))]
abbrev c_rnode_r14 : List SOper := [Oa 55 (.bin .eql (.t 18) (.c (.int .i64 3))), Oa 54 (.mv (.t 55))]
abbrev c_rnode_r15 : List SOper := [Oa 56 (.loads 7 (.t 2)), Oa 57 (.faddr 2 (.t 5)), Oa 58 (.load (.t 57)), Oc 59 73 [(.t 56), (.t 58), (.c .nilsl)], Oa 6 (.mv (.t 59))]
abbrev c_rnode_r16 : List SOper := [Oa 60 (.faddr 3 (.t 5)), Oa 61 (.load (.t 60)), Oa 62 (.faddr 4 (.t 5)), Oa 63 (.load (.t 62)), Oa 64 (.mkrow 3 1 2 [(.int .i64 0)] [(0, (.t 61)), (1, (.t 63))]), Oa 7 (.mv (.t 64))]
abbrev c_rnode_r17 : List SOper := [Oa 66 (.bin .eql (.t 18) (.c (.int .i64 4))), Oa 65 (.mv (.t 66))]
abbrev c_rnode_r18 : List SOper := [Oa 67 (.loads 7 (.t 2)), Oa 68 (.faddr 1 (.t 5)), Oa 69 (.load (.t 68)), Oc 70 46 [(.t 67), (.t 69)], Oa 71 (.un .not (.t 70))]
abbrev c_rnode_r19 : List SOper := [Oa 6 (.mv (.c (.int .i64 1)))]
abbrev c_rnode_r20 : List SOper := [Oa 72 (.faddr 3 (.t 5)), Oa 73 (.load (.t 72)), Oa 74 (.faddr 4 (.t 5)), Oa 75 (.load (.t 74)), Oa 76 (.mkrow 3 1 2 [(.int .i64 0)] [(0, (.t 73)), (1, (.t 75))]), Oa 7 (.mv (.t 76))]
abbrev c_rnode_r21 : List SOper := [Oa 6 (.mv (.c (.int .i64 5)))]
abbrev c_rnode_r22 : List SOper := [Oa 8 (.mv (.c (.int .i64 0)))]
abbrev c_rnode_r23 : List SOper := [Oa 77 (.mv (.t 8)), Oa 78 (.mv (.t 7)), Oa 79 (.len false (.t 78)), Oa 80 (.bin .lss (.t 77) (.t 79)), Oa 81 (.mv (.t 80)), Oe 82 (.mv (.t 6)) 81 true, Oe 83 (.bin .eql (.t 82) (.c (.int .i64 0))) 81 true, Oa 84 (.pick (.t 81) (.t 83) (.c (.bool false)))]
abbrev c_rnode_r24 : List SOper := [Oa 87 (.mv (.t 7)), Oa 88 (.mv (.t 8)), Od 89 (.iaddr 1 (.t 87) (.t 88)) 3, Od 90 (.load (.t 89)) 7, Od 91 (.bin .lss (.t 90) (.c (.int .i64 0))) 15, Od 92 (.mv (.t 91)) 31, Of 93 (.mv (.t 7)) 92 false 63, Of 94 (.mv (.t 8)) 92 false 63, Of 95 (.iaddr 1 (.t 93) (.t 94)) 92 false 255, Of 96 (.load (.t 95)) 92 false 511, Of 97 (.faddr 5 (.t 2)) 92 false 63, Of 98 (.load (.t 97)) 92 false 1087, Of 99 (.len false (.t 98)) 92 false 3135, Of 100 (.bin .gtr (.t 96) (.t 99)) 92 false 8191, Od 101 (.pick (.t 92) (.c (.bool true)) (.t 100)) 16383]
abbrev c_rnode_r25 : List SOper := [Oa 6 (.mv (.c (.int .i64 1)))]
abbrev c_rnode_r26 : List SOper := [Oa 102 (.mv (.t 7)), Oa 103 (.mv (.t 8)), Oa 104 (.iaddr 1 (.t 102) (.t 103)), Oa 105 (.load (.t 104)), Oa 106 (.mv (.t 1)), Oa 107 (.bin .leq (.t 105) (.t 106))]
abbrev c_rnode_r27 : List SOper := [Oa 6 (.mv (.c (.int .i64 11)))]
abbrev c_rnode_r28 : List SOper := [Oa 85 (.mv (.t 8)), Oa 86 (.bin .add (.t 85) (.c (.int .i64 1))), Oa 8 (.mv (.t 86))]
def c_rnode_l1 : SCode := (.seq (.seq (.reg false c_rnode_r23 [1, 2, 6, 7, 8, 84]) (.cond (.t 84) .skip (.exit 1))) (.seq (.block 2 (.seq (.reg true c_rnode_r24 [1, 2, 6, 7, 8, 101]) (.cond (.t 101) (.reg false c_rnode_r25 [1, 2, 6, 7, 8]) (.seq (.reg false c_rnode_r26 [1, 2, 6, 7, 8, 107]) (.cond (.t 107) (.reg false c_rnode_r27 [1, 2, 6, 7, 8]) .skip))))) (.reg false c_rnode_r28 [1, 2, 6, 7, 8])))
abbrev c_rnode_r29 : List SOper := [Oa 108 (.mv (.t 6)), Oa 4 (.mv (.t 108))]
def c_rnode : SCode := (.seq (.reg false c_rnode_r1 [1, 2]) (.seq (.reg false c_rnode_r2 [1, 2, 5]) (.seq (.reg false c_rnode_r3 [1, 2, 5, 6]) (.seq (.reg false c_rnode_r4 [1, 2, 5, 6, 7]) (.seq (.seq (.reg false c_rnode_r5 [1, 2, 5, 6, 7, 18]) (.block 0 (.seq (.reg false c_rnode_r6 [1, 2, 5, 6, 7, 18, 19]) (.cond (.t 19) (.seq (.reg false c_rnode_r7 [1, 2, 6, 7, 31]) (.cond (.t 31) (.reg false c_rnode_r8 [1, 2, 6, 7]) .skip)) (.seq (.reg false c_rnode_r9 [1, 2, 5, 6, 7, 18, 32]) (.cond (.t 32) (.seq (.reg false c_rnode_r10 [1, 2, 5, 6, 7, 44]) (.cond (.t 44) (.reg false c_rnode_r11 [1, 2, 6, 7]) (.seq (.reg false c_rnode_r12 [1, 2, 6, 7, 53]) (.cond (.t 53) (.reg false c_rnode_r13 [1, 2, 6, 7]) .skip)))) (.seq (.reg false c_rnode_r14 [1, 2, 5, 6, 7, 18, 54]) (.cond (.t 54) (.seq (.reg false c_rnode_r15 [1, 2, 5, 6]) (.reg false c_rnode_r16 [1, 2, 6, 7])) (.seq (.reg false c_rnode_r17 [1, 2, 5, 6, 7, 65]) (.cond (.t 65) (.seq (.seq (.reg false c_rnode_r18 [1, 2, 5, 6, 71]) (.cond (.t 71) (.reg false c_rnode_r19 [1, 2, 5, 6]) .skip)) (.reg false c_rnode_r20 [1, 2, 6, 7])) (.reg false c_rnode_r21 [1, 2, 6, 7]))))))))))) (.seq (.seq (.reg false c_rnode_r22 [1, 2, 6, 7, 8]) (.block 1 (.loop c_rnode_l1))) (.seq (.reg false c_rnode_r29 [4]) .ret)))))))
theorem comp_c_rnode : comp Try.prog 109 ((Try.f45.body).getD .skip) = some c_rnode.erase := by kernel_rfl
abbrev c_rform_r1 : List SOper := [Oa 1 (.box 29 (.t 0)), Oa 2 (.alloc 45 [(.int .i64 0), (.int .i64 0)])]
abbrev c_rform_r2 : List SOper := [Oa 18 (.faddr 0 (.t 1)), Oa 19 (.load (.t 18)), Oa 20 (.len false (.t 19)), Oa 21 (.bin .gtr (.t 20) (.c (.int .i64 6)))]
abbrev c_rform_r3 : List SOper := [Oc 22 39 [(.c (.int .i64 2)), (.c (.int .i64 (-1)))], Ob (.store 2 (.t 2) (.t 22))]
abbrev c_rform_r4 : List SOper := [Oa 3 (.mv (.c (.int .i64 0)))]
abbrev c_rform_r5 : List SOper := [Oa 23 (.mv (.t 3)), Oa 24 (.faddr 0 (.t 1)), Oa 25 (.load (.t 24)), Oa 26 (.len false (.t 25)), Oa 27 (.bin .lss (.t 23) (.t 26))]
abbrev c_rform_r6 : List SOper := [Oa 31 (.faddr 0 (.t 1)), Oa 32 (.load (.t 31)), Oa 33 (.mv (.t 3)), Oa 34 (.iaddr 1 (.t 32) (.t 33)), Oa 35 (.loads 1 (.t 34)), Oc 36 40 [(.t 35)], Oa 30 (.mv (.t 36)), Oa 37 (.extr (.t 30) 0), Oa 38 (.extr (.t 30) 1), Oa 5 (.alloc 45 [(.int .i64 0), (.int .i64 0)]), Oa 4 (.mv (.t 37)), Ob (.store 2 (.t 5) (.t 38))]
abbrev c_rform_r7 : List SOper := [Oa 39 (.faddr 0 (.t 5)), Oa 40 (.load (.t 39)), Oa 41 (.bin .neq (.t 40) (.c (.int .i64 0)))]
abbrev c_rform_r8 : List SOper := [Oa 42 (.faddr 0 (.t 5)), Oa 43 (.load (.t 42)), Oa 44 (.mv (.t 3)), Oa 45 (.bin .add (.c (.int .i64 1000)) (.t 44)), Oc 46 39 [(.t 43), (.t 45)], Ob (.store 2 (.t 2) (.t 46))]
abbrev c_rform_r9 : List SOper := [Oa 28 (.mv (.t 3)), Oa 29 (.bin .add (.t 28) (.c (.int .i64 1))), Oa 3 (.mv (.t 29))]
def c_rform_l1 : SCode := (.seq (.seq (.reg false c_rform_r5 [1, 2, 3, 27]) (.cond (.t 27) .skip (.exit 0))) (.seq (.block 1 (.seq (.reg false c_rform_r6 [1, 2, 3, 5]) (.seq (.reg false c_rform_r7 [1, 2, 3, 5, 41]) (.cond (.t 41) (.seq (.reg false c_rform_r8 [2]) .ret) .skip)))) (.reg false c_rform_r9 [1, 2, 3])))
abbrev c_rform_r10 : List SOper := [Oa 47 (.faddr 1 (.t 1)), Oa 48 (.load (.t 47)), Oa 49 (.len false (.t 48)), Oa 50 (.bin .gtr (.t 49) (.c (.int .i64 4)))]
abbrev c_rform_r11 : List SOper := [Oc 51 39 [(.c (.int .i64 2)), (.c (.int .i64 (-2)))], Ob (.store 2 (.t 2) (.t 51))]
abbrev c_rform_r12 : List SOper := [Oa 6 (.mv (.c (.int .i64 0)))]
abbrev c_rform_r13 : List SOper := [Oa 52 (.mv (.t 6)), Oa 53 (.faddr 1 (.t 1)), Oa 54 (.load (.t 53)), Oa 55 (.len false (.t 54)), Oa 56 (.bin .lss (.t 52) (.t 55))]
abbrev c_rform_r14 : List SOper := [Oa 59 (.faddr 1 (.t 1)), Oa 60 (.load (.t 59)), Oa 61 (.mv (.t 6)), Oa 62 (.iaddr 1 (.t 60) (.t 61)), Oa 63 (.load (.t 62)), Oa 64 (.bin .lss (.t 63) (.c (.int .i64 1))), Oa 65 (.mv (.t 64)), Oe 66 (.faddr 1 (.t 1)) 65 false, Oe 67 (.load (.t 66)) 65 false, Oe 68 (.mv (.t 6)) 65 false, Oe 69 (.iaddr 1 (.t 67) (.t 68)) 65 false, Oe 70 (.load (.t 69)) 65 false, Oe 71 (.bin .gtr (.t 70) (.c (.int .i64 48))) 65 false, Oa 72 (.pick (.t 65) (.c (.bool true)) (.t 71))]
abbrev c_rform_r15 : List SOper := [Oa 73 (.mv (.t 6)), Oa 74 (.bin .add (.c (.int .i64 2000)) (.t 73)), Oc 75 39 [(.c (.int .i64 6)), (.t 74)], Ob (.store 2 (.t 2) (.t 75))]
abbrev c_rform_r16 : List SOper := [Oa 57 (.mv (.t 6)), Oa 58 (.bin .add (.t 57) (.c (.int .i64 1))), Oa 6 (.mv (.t 58))]
def c_rform_l2 : SCode := (.seq (.seq (.reg false c_rform_r13 [1, 2, 6, 56]) (.cond (.t 56) .skip (.exit 2))) (.seq (.block 3 (.seq (.reg false c_rform_r14 [1, 2, 6, 72]) (.cond (.t 72) (.seq (.reg false c_rform_r15 [2]) .ret) .skip))) (.reg false c_rform_r16 [1, 2, 6])))
abbrev c_rform_r17 : List SOper := [Oa 76 (.faddr 2 (.t 1)), Oa 77 (.load (.t 76)), Oa 78 (.len false (.t 77)), Oa 79 (.bin .lss (.t 78) (.c (.int .i64 1))), Oa 80 (.mv (.t 79)), Oe 81 (.faddr 2 (.t 1)) 80 false, Oe 82 (.load (.t 81)) 80 false, Oe 83 (.len false (.t 82)) 80 false, Oe 84 (.bin .gtr (.t 83) (.c (.int .i64 8))) 80 false, Oa 85 (.pick (.t 80) (.c (.bool true)) (.t 84))]
abbrev c_rform_r18 : List SOper := [Oc 86 39 [(.c (.int .i64 2)), (.c (.int .i64 (-3)))], Ob (.store 2 (.t 2) (.t 86))]
abbrev c_rform_r19 : List SOper := [Oa 7 (.mv (.c (.int .i64 0)))]
abbrev c_rform_r20 : List SOper := [Oa 87 (.mv (.t 7)), Oa 88 (.faddr 2 (.t 1)), Oa 89 (.load (.t 88)), Oa 90 (.len false (.t 89)), Oa 91 (.bin .lss (.t 87) (.t 90))]
abbrev c_rform_r21 : List SOper := [Oa 94 (.loads 7 (.t 1)), Oa 95 (.mv (.t 7)), Oc 96 41 [(.t 94), (.t 95)], Oa 8 (.mv (.t 96))]
abbrev c_rform_r22 : List SOper := [Oa 97 (.mv (.t 8)), Oa 98 (.bin .neq (.t 97) (.c (.int .i64 0)))]
abbrev c_rform_r23 : List SOper := [Oa 99 (.mv (.t 8)), Oa 100 (.mv (.t 7)), Oa 101 (.bin .add (.c (.int .i64 3000)) (.t 100)), Oc 102 39 [(.t 99), (.t 101)], Ob (.store 2 (.t 2) (.t 102))]
abbrev c_rform_r24 : List SOper := [Oa 92 (.mv (.t 7)), Oa 93 (.bin .add (.t 92) (.c (.int .i64 1))), Oa 7 (.mv (.t 93))]
def c_rform_l3 : SCode := (.seq (.seq (.reg false c_rform_r20 [1, 2, 7, 91]) (.cond (.t 91) .skip (.exit 4))) (.seq (.block 5 (.seq (.reg false c_rform_r21 [1, 2, 7, 8]) (.seq (.reg false c_rform_r22 [1, 2, 7, 8, 98]) (.cond (.t 98) (.seq (.reg false c_rform_r23 [2]) .ret) .skip)))) (.reg false c_rform_r24 [1, 2, 7])))
abbrev c_rform_r25 : List SOper := [Oa 103 (.faddr 3 (.t 1)), Oa 104 (.load (.t 103)), Oa 105 (.len false (.t 104)), Oa 106 (.bin .gtr (.t 105) (.c (.int .i64 8)))]
abbrev c_rform_r26 : List SOper := [Oc 107 39 [(.c (.int .i64 2)), (.c (.int .i64 (-4)))], Ob (.store 2 (.t 2) (.t 107))]
abbrev c_rform_r27 : List SOper := [Oa 9 (.mv (.c (.int .i64 0)))]
abbrev c_rform_r28 : List SOper := [Oa 108 (.mv (.t 9)), Oa 109 (.faddr 3 (.t 1)), Oa 110 (.load (.t 109)), Oa 111 (.len false (.t 110)), Oa 112 (.bin .lss (.t 108) (.t 111))]
abbrev c_rform_r29 : List SOper := [Oa 115 (.loads 7 (.t 1)), Oa 116 (.faddr 3 (.t 1)), Od 117 (.load (.t 116)) 2, Oa 118 (.mv (.t 9)), Od 119 (.iaddr 2 (.t 117) (.t 118)) 14, Od 120 (.loads 2 (.t 119)) 30, ⟨(some 121), .mv (.c .any), some ((.c (.fn (.func 42) [] [])), [(.t 115), (.t 120)]), none, 63⟩, Od 10 (.mv (.t 121)) 127]
abbrev c_rform_r30 : List SOper := [Oa 122 (.mv (.t 10)), Oa 123 (.bin .neq (.t 122) (.c (.int .i64 0)))]
abbrev c_rform_r31 : List SOper := [Oa 124 (.mv (.t 10)), Oa 125 (.mv (.t 9)), Oa 126 (.bin .add (.c (.int .i64 4000)) (.t 125)), Oc 127 39 [(.t 124), (.t 126)], Ob (.store 2 (.t 2) (.t 127))]
abbrev c_rform_r32 : List SOper := [Oa 113 (.mv (.t 9)), Oa 114 (.bin .add (.t 113) (.c (.int .i64 1))), Oa 9 (.mv (.t 114))]
def c_rform_l4 : SCode := (.seq (.seq (.reg false c_rform_r28 [1, 2, 9, 112]) (.cond (.t 112) .skip (.exit 6))) (.seq (.block 7 (.seq (.reg true c_rform_r29 [1, 2, 9, 10]) (.seq (.reg false c_rform_r30 [1, 2, 9, 10, 123]) (.cond (.t 123) (.seq (.reg false c_rform_r31 [2]) .ret) .skip)))) (.reg false c_rform_r32 [1, 2, 9])))
abbrev c_rform_r33 : List SOper := [Oa 128 (.faddr 4 (.t 1)), Oa 129 (.load (.t 128)), Oa 130 (.len false (.t 129)), Oa 131 (.bin .gtr (.t 130) (.c (.int .i64 5)))]
abbrev c_rform_r34 : List SOper := [Oc 132 39 [(.c (.int .i64 2)), (.c (.int .i64 (-5)))], Ob (.store 2 (.t 2) (.t 132))]
abbrev c_rform_r35 : List SOper := [Oa 11 (.mv (.c (.int .i64 0)))]
abbrev c_rform_r36 : List SOper := [Oa 133 (.mv (.t 11)), Oa 134 (.faddr 4 (.t 1)), Oa 135 (.load (.t 134)), Oa 136 (.len false (.t 135)), Oa 137 (.bin .lss (.t 133) (.t 136))]
abbrev c_rform_r37 : List SOper := [Oa 140 (.faddr 4 (.t 1)), Oa 141 (.load (.t 140)), Oa 142 (.mv (.t 11)), Oa 143 (.iaddr 6 (.t 141) (.t 142)), Oa 144 (.loads 6 (.t 143)), Oa 12 (.alloc 35 [(.int .i64 0), .nilsl, .nilsl, (.int .i64 0), (.int .i64 0), .nilsl]), Ob (.store 6 (.t 12) (.t 144))]
abbrev c_rform_r38 : List SOper := [Oa 145 (.faddr 1 (.t 12)), Oa 146 (.load (.t 145)), Oa 147 (.len false (.t 146)), Oa 148 (.bin .gtr (.t 147) (.c (.int .i64 3)))]
abbrev c_rform_r39 : List SOper := [Oa 149 (.mv (.t 11)), Oa 150 (.bin .add (.c (.int .i64 5000)) (.t 149)), Oc 151 39 [(.c (.int .i64 2)), (.t 150)], Ob (.store 2 (.t 2) (.t 151))]
abbrev c_rform_r40 : List SOper := [Oa 152 (.loads 7 (.t 1)), Oa 153 (.loads 6 (.t 12)), Oc 154 13 [(.t 152), (.t 153)], Oa 13 (.mv (.t 154))]
abbrev c_rform_r41 : List SOper := [Oa 155 (.mv (.t 13)), Oc 156 43 [(.t 155), (.c (.int .i64 0))]]
abbrev c_rform_r42 : List SOper := [Oa 157 (.mv (.t 11)), Oa 158 (.bin .add (.c (.int .i64 5000)) (.t 157)), Oc 159 39 [(.c (.int .i64 1)), (.t 158)], Ob (.store 2 (.t 2) (.t 159))]
abbrev c_rform_r43 : List SOper := [Oa 160 (.loads 6 (.t 12)), Oa 161 (.mv (.t 13)), Oa 162 (.faddr 3 (.t 1)), Oa 163 (.load (.t 162)), Oc 164 44 [(.t 160), (.t 161), (.t 163)], Oa 14 (.mv (.t 164))]
abbrev c_rform_r44 : List SOper := [Oa 165 (.mv (.t 14)), Oa 166 (.bin .neq (.t 165) (.c (.int .i64 0)))]
abbrev c_rform_r45 : List SOper := [Oa 167 (.mv (.t 14)), Oa 168 (.mv (.t 11)), Oa 169 (.bin .add (.c (.int .i64 5000)) (.t 168)), Oc 170 39 [(.t 167), (.t 169)], Ob (.store 2 (.t 2) (.t 170))]
abbrev c_rform_r46 : List SOper := [Oa 138 (.mv (.t 11)), Oa 139 (.bin .add (.t 138) (.c (.int .i64 1))), Oa 11 (.mv (.t 139))]
def c_rform_l5 : SCode := (.seq (.seq (.reg false c_rform_r36 [1, 2, 11, 137]) (.cond (.t 137) .skip (.exit 8))) (.seq (.block 9 (.seq (.reg false c_rform_r37 [1, 2, 11, 12]) (.seq (.seq (.reg false c_rform_r38 [1, 2, 11, 12, 148]) (.cond (.t 148) (.seq (.reg false c_rform_r39 [2]) .ret) .skip)) (.seq (.reg false c_rform_r40 [1, 2, 11, 12, 13]) (.seq (.seq (.reg false c_rform_r41 [1, 2, 11, 12, 13, 156]) (.cond (.t 156) (.seq (.reg false c_rform_r42 [2]) .ret) .skip)) (.seq (.reg false c_rform_r43 [1, 2, 11, 14]) (.seq (.reg false c_rform_r44 [1, 2, 11, 14, 166]) (.cond (.t 166) (.seq (.reg false c_rform_r45 [2]) .ret) .skip)))))))) (.reg false c_rform_r46 [1, 2, 11])))
abbrev c_rform_r47 : List SOper := [Oa 171 (.faddr 5 (.t 1)), Oa 172 (.load (.t 171)), Oa 173 (.len false (.t 172)), Oa 174 (.bin .gtr (.t 173) (.c (.int .i64 10)))]
abbrev c_rform_r48 : List SOper := [Oc 175 39 [(.c (.int .i64 2)), (.c (.int .i64 (-6)))], Ob (.store 2 (.t 2) (.t 175))]
abbrev c_rform_r49 : List SOper := [Oa 15 (.mv (.c (.int .i64 0)))]
abbrev c_rform_r50 : List SOper := [Oa 176 (.mv (.t 15)), Oa 177 (.faddr 5 (.t 1)), Oa 178 (.load (.t 177)), Oa 179 (.len false (.t 178)), Oa 180 (.bin .lss (.t 176) (.t 179))]
abbrev c_rform_r51 : List SOper := [Oa 183 (.loads 7 (.t 1)), Oa 184 (.mv (.t 15)), Oc 185 45 [(.t 183), (.t 184)], Oa 16 (.mv (.t 185))]
abbrev c_rform_r52 : List SOper := [Oa 186 (.mv (.t 16)), Oa 187 (.bin .neq (.t 186) (.c (.int .i64 0)))]
abbrev c_rform_r53 : List SOper := [Oa 188 (.mv (.t 16)), Oa 189 (.mv (.t 15)), Oa 190 (.bin .add (.c (.int .i64 6000)) (.t 189)), Oc 191 39 [(.t 188), (.t 190)], Ob (.store 2 (.t 2) (.t 191))]
abbrev c_rform_r54 : List SOper := [Oa 181 (.mv (.t 15)), Oa 182 (.bin .add (.t 181) (.c (.int .i64 1))), Oa 15 (.mv (.t 182))]
def c_rform_l6 : SCode := (.seq (.seq (.reg false c_rform_r50 [1, 2, 15, 180]) (.cond (.t 180) .skip (.exit 10))) (.seq (.block 11 (.seq (.reg false c_rform_r51 [1, 2, 15, 16]) (.seq (.reg false c_rform_r52 [1, 2, 15, 16, 187]) (.cond (.t 187) (.seq (.reg false c_rform_r53 [2]) .ret) .skip)))) (.reg false c_rform_r54 [1, 2, 15])))
abbrev c_rform_r55 : List SOper := [Oa 192 (.faddr 6 (.t 1)), Oa 193 (.load (.t 192)), Oa 194 (.len false (.t 193)), Oa 195 (.bin .gtr (.t 194) (.c (.int .i64 6)))]
abbrev c_rform_r56 : List SOper := [Oc 196 39 [(.c (.int .i64 2)), (.c (.int .i64 (-7)))], Ob (.store 2 (.t 2) (.t 196))]
abbrev c_rform_r57 : List SOper := [Oa 17 (.mv (.c (.int .i64 0)))]
abbrev c_rform_r58 : List SOper := [Oa 197 (.mv (.t 17)), Oa 198 (.faddr 6 (.t 1)), Oa 199 (.load (.t 198)), Oa 200 (.len false (.t 199)), Oa 201 (.bin .lss (.t 197) (.t 200))]
abbrev c_rform_r59 : List SOper := [Oa 204 (.loads 7 (.t 1)), Oa 205 (.faddr 6 (.t 1)), Od 206 (.load (.t 205)) 2, Oa 207 (.mv (.t 17)), Od 208 (.iaddr 1 (.t 206) (.t 207)) 14, Od 209 (.load (.t 208)) 30, ⟨(some 210), .mv (.c .any), some ((.c (.fn (.func 46) [] [])), [(.t 204), (.t 209)]), none, 63⟩, Od 211 (.un .not (.t 210)) 127]
abbrev c_rform_r60 : List SOper := [Oa 212 (.mv (.t 17)), Oa 213 (.bin .add (.c (.int .i64 7000)) (.t 212)), Oc 214 39 [(.c (.int .i64 1)), (.t 213)], Ob (.store 2 (.t 2) (.t 214))]
abbrev c_rform_r61 : List SOper := [Oa 215 (.faddr 6 (.t 1)), Od 216 (.load (.t 215)) 1, Oa 217 (.mv (.t 17)), Od 218 (.slice 1 (.t 216) none (some (.t 217))) 7, Oa 219 (.faddr 6 (.t 1)), Od 220 (.load (.t 219)) 16, Oa 221 (.mv (.t 17)), Od 222 (.iaddr 1 (.t 220) (.t 221)) 112, Od 223 (.load (.t 222)) 240, ⟨(some 224), .mv (.c .any), some ((.c (.fn (.func 43) [] [])), [(.t 218), (.t 223)]), none, 511⟩]
abbrev c_rform_r62 : List SOper := [Oa 225 (.mv (.t 17)), Oa 226 (.bin .add (.c (.int .i64 7000)) (.t 225)), Oc 227 39 [(.c (.int .i64 7)), (.t 226)], Ob (.store 2 (.t 2) (.t 227))]
abbrev c_rform_r63 : List SOper := [Oa 202 (.mv (.t 17)), Oa 203 (.bin .add (.t 202) (.c (.int .i64 1))), Oa 17 (.mv (.t 203))]
def c_rform_l7 : SCode := (.seq (.seq (.reg false c_rform_r58 [1, 2, 17, 201]) (.cond (.t 201) .skip (.exit 12))) (.seq (.block 13 (.seq (.seq (.reg true c_rform_r59 [1, 2, 17, 211]) (.cond (.t 211) (.seq (.reg false c_rform_r60 [2]) .ret) .skip)) (.seq (.reg true c_rform_r61 [1, 2, 17, 224]) (.cond (.t 224) (.seq (.reg false c_rform_r62 [2]) .ret) .skip)))) (.reg false c_rform_r63 [1, 2, 17])))
abbrev c_rform_r64 : List SOper := [Oa 228 (.build [(.int .i64 0), (.int .i64 0)] []), Ob (.store 2 (.t 2) (.t 228))]
def c_rform : SCode := (.seq (.reg false c_rform_r1 [1, 2]) (.seq (.seq (.reg false c_rform_r2 [1, 2, 21]) (.cond (.t 21) (.seq (.reg false c_rform_r3 [2]) .ret) .skip)) (.seq (.seq (.reg false c_rform_r4 [1, 2, 3]) (.block 0 (.loop c_rform_l1))) (.seq (.seq (.reg false c_rform_r10 [1, 2, 50]) (.cond (.t 50) (.seq (.reg false c_rform_r11 [2]) .ret) .skip)) (.seq (.seq (.reg false c_rform_r12 [1, 2, 6]) (.block 2 (.loop c_rform_l2))) (.seq (.seq (.reg false c_rform_r17 [1, 2, 85]) (.cond (.t 85) (.seq (.reg false c_rform_r18 [2]) .ret) .skip)) (.seq (.seq (.reg false c_rform_r19 [1, 2, 7]) (.block 4 (.loop c_rform_l3))) (.seq (.seq (.reg false c_rform_r25 [1, 2, 106]) (.cond (.t 106) (.seq (.reg false c_rform_r26 [2]) .ret) .skip)) (.seq (.seq (.reg false c_rform_r27 [1, 2, 9]) (.block 6 (.loop c_rform_l4))) (.seq (.seq (.reg false c_rform_r33 [1, 2, 131]) (.cond (.t 131) (.seq (.reg false c_rform_r34 [2]) .ret) .skip)) (.seq (.seq (.reg false c_rform_r35 [1, 2, 11]) (.block 8 (.loop c_rform_l5))) (.seq (.seq (.reg false c_rform_r47 [1, 2, 174]) (.cond (.t 174) (.seq (.reg false c_rform_r48 [2]) .ret) .skip)) (.seq (.seq (.reg false c_rform_r49 [1, 2, 15]) (.block 10 (.loop c_rform_l6))) (.seq (.seq (.reg false c_rform_r55 [1, 2, 195]) (.cond (.t 195) (.seq (.reg false c_rform_r56 [2]) .ret) .skip)) (.seq (.seq (.reg false c_rform_r57 [1, 2, 17]) (.block 12 (.loop c_rform_l7))) (.seq (.reg false c_rform_r64 [2]) .ret))))))))))))))))
theorem comp_c_rform : comp Try.prog 229 ((Try.f18.body).getD .skip) = some c_rform.erase := by kernel_rfl
abbrev c_rin_r1 : List SOper := [Oa 4 (.mv (.c (.bool false)))]
abbrev c_rin_r2 : List SOper := [Oa 5 (.mv (.c (.int .i64 0)))]
abbrev c_rin_r3 : List SOper := [Oa 6 (.mv (.t 5)), Oa 7 (.mv (.t 0)), Oa 8 (.len false (.t 7)), Oa 9 (.bin .lss (.t 6) (.t 8))]
abbrev c_rin_r4 : List SOper := [Oa 12 (.mv (.t 0)), Oa 13 (.mv (.t 5)), Oa 14 (.iaddr 1 (.t 12) (.t 13)), Oa 15 (.load (.t 14)), Oa 16 (.mv (.t 1)), Oa 17 (.bin .eql (.t 15) (.t 16))]
abbrev c_rin_r5 : List SOper := [Oa 4 (.mv (.c (.bool true)))]
abbrev c_rin_r6 : List SOper := [Oa 10 (.mv (.t 5)), Oa 11 (.bin .add (.t 10) (.c (.int .i64 1))), Oa 5 (.mv (.t 11))]
def c_rin_l1 : SCode := (.seq (.seq (.reg false c_rin_r3 [0, 1, 5, 9]) (.cond (.t 9) .skip (.exit 0))) (.seq (.block 1 (.seq (.reg false c_rin_r4 [0, 1, 5, 17]) (.cond (.t 17) (.seq (.reg false c_rin_r5 [4]) .ret) .skip))) (.reg false c_rin_r6 [0, 1, 5])))
abbrev c_rin_r7 : List SOper := [Oa 4 (.mv (.c (.bool false)))]
def c_rin : SCode := (.seq (.reg false c_rin_r1 [0, 1]) (.seq (.seq (.reg false c_rin_r2 [0, 1, 5]) (.block 0 (.loop c_rin_l1))) (.seq (.reg false c_rin_r7 [4]) .ret)))
theorem comp_c_rin : comp Try.prog 18 ((Try.f43.body).getD .skip) = some c_rin.erase := by kernel_rfl
abbrev c_rsays_r1 : List SOper := [Oa 3 (.box 35 (.t 0)), Oa 5 (.box 125 (.t 2)), Oa 6 (.mv (.c (.int .i64 0)))]
abbrev c_rsays_r2 : List SOper := [Oa 9 (.faddr 2 (.t 3)), Oa 10 (.load (.t 9)), Oa 11 (.faddr 0 (.t 5)), Oa 12 (.load (.t 11)), Oc 13 43 [(.t 10), (.t 12)], Oa 14 (.un .not (.t 13))]
abbrev c_rsays_r3 : List SOper := [Oa 6 (.mv (.c (.int .i64 5)))]
abbrev c_rsays_r4 : List SOper := [Oa 15 (.mv (.t 1)), Oa 16 (.faddr 0 (.t 5)), Oa 17 (.load (.t 16)), Oa 18 (.iaddr 2 (.t 15) (.t 17)), Oa 19 (.faddr 0 (.t 18)), Oa 20 (.load (.t 19)), Oa 7 (.mv (.t 20))]
abbrev c_rsays_r5 : List SOper := [Oa 21 (.mv (.t 7)), Oa 22 (.len false (.t 21)), Oa 23 (.faddr 1 (.t 5)), Oa 24 (.load (.t 23)), Oa 25 (.len false (.t 24)), Oa 26 (.bin .neq (.t 22) (.t 25))]
abbrev c_rsays_r6 : List SOper := [Oa 6 (.mv (.c (.int .i64 2)))]
abbrev c_rsays_r7 : List SOper := [Oa 8 (.mv (.c (.int .i64 0)))]
abbrev c_rsays_r8 : List SOper := [Oa 27 (.mv (.t 8)), Oa 28 (.mv (.t 7)), Oa 29 (.len false (.t 28)), Oa 30 (.bin .lss (.t 27) (.t 29))]
abbrev c_rsays_r9 : List SOper := [Oa 33 (.faddr 1 (.t 5)), Od 34 (.load (.t 33)) 1, Oa 35 (.mv (.t 8)), Od 36 (.iaddr 1 (.t 34) (.t 35)) 7, Od 37 (.load (.t 36)) 15, Oa 38 (.mv (.t 7)), Oa 39 (.mv (.t 8)), Od 40 (.iaddr 1 (.t 38) (.t 39)) 96, Od 41 (.load (.t 40)) 224, ⟨(some 42), .mv (.c .any), some ((.c (.fn (.func 69) [] [])), [(.t 37), (.t 41)]), none, 511⟩]
abbrev c_rsays_r10 : List SOper := [Oa 6 (.mv (.c (.int .i64 6)))]
abbrev c_rsays_r11 : List SOper := [Oa 31 (.mv (.t 8)), Oa 32 (.bin .add (.t 31) (.c (.int .i64 1))), Oa 8 (.mv (.t 32))]
def c_rsays_l1 : SCode := (.seq (.seq (.reg false c_rsays_r8 [5, 7, 8, 30]) (.cond (.t 30) .skip (.exit 0))) (.seq (.block 1 (.seq (.reg true c_rsays_r9 [5, 7, 8, 42]) (.cond (.t 42) (.seq (.reg false c_rsays_r10 [6]) .ret) .skip))) (.reg false c_rsays_r11 [5, 7, 8])))
abbrev c_rsays_r12 : List SOper := [Oa 6 (.mv (.c (.int .i64 0)))]
def c_rsays : SCode := (.seq (.reg false c_rsays_r1 [1, 3, 5]) (.seq (.seq (.reg false c_rsays_r2 [1, 5, 14]) (.cond (.t 14) (.seq (.reg false c_rsays_r3 [6]) .ret) .skip)) (.seq (.reg false c_rsays_r4 [5, 7]) (.seq (.seq (.reg false c_rsays_r5 [5, 7, 26]) (.cond (.t 26) (.seq (.reg false c_rsays_r6 [6]) .ret) .skip)) (.seq (.seq (.reg false c_rsays_r7 [5, 7, 8]) (.block 0 (.loop c_rsays_l1))) (.seq (.reg false c_rsays_r12 [6]) .ret))))))
theorem comp_c_rsays : comp Try.prog 43 ((Try.f72.body).getD .skip) = some c_rsays.erase := by kernel_rfl
abbrev c_rtable_r1 : List SOper := [Oa 3 (.box 35 (.t 0)), Oa 6 (.mv (.c (.int .i64 0)))]
abbrev c_rtable_r2 : List SOper := [Oa 9 (.faddr 0 (.t 3)), Oa 10 (.load (.t 9)), Oa 11 (.bin .lss (.t 10) (.c (.int .i64 1))), Oa 12 (.mv (.t 11)), Oe 13 (.faddr 0 (.t 3)) 12 false, Oe 14 (.load (.t 13)) 12 false, Oe 15 (.bin .gtr (.t 14) (.c (.int .i64 3))) 12 false, Oa 16 (.pick (.t 12) (.c (.bool true)) (.t 15))]
abbrev c_rtable_r3 : List SOper := [Oa 6 (.mv (.c (.int .i64 5)))]
abbrev c_rtable_r4 : List SOper := [Oa 17 (.mv (.t 1)), Oa 18 (.len false (.t 17)), Oa 19 (.bin .lss (.t 18) (.c (.int .i64 1))), Oa 20 (.mv (.t 19)), Oe 21 (.mv (.t 1)) 20 false, Oe 22 (.len false (.t 21)) 20 false, Oe 23 (.bin .gtr (.t 22) (.c (.int .i64 3))) 20 false, Oa 24 (.pick (.t 20) (.c (.bool true)) (.t 23)), Oa 25 (.mv (.t 24)), Oe 26 (.faddr 0 (.t 3)) 25 false, Oe 27 (.load (.t 26)) 25 false, Oe 28 (.bin .eql (.t 27) (.c (.int .i64 2))) 25 false, Oe 29 (.mv (.t 28)) 25 false, Oe 30 (.mv (.t 1)) 29 true, Oe 31 (.len false (.t 30)) 29 true, Oe 32 (.bin .gtr (.t 31) (.c (.int .i64 1))) 29 true, Oe 33 (.pick (.t 29) (.t 32) (.c (.bool false))) 25 false, Oa 34 (.pick (.t 25) (.c (.bool true)) (.t 33)), Oa 35 (.mv (.t 34)), Oe 36 (.faddr 2 (.t 3)) 35 false, Oe 37 (.load (.t 36)) 35 false, Oe 38 (.len false (.t 37)) 35 false, Oe 39 (.bin .lss (.t 38) (.c (.int .i64 1))) 35 false, Oa 40 (.pick (.t 35) (.c (.bool true)) (.t 39)), Oa 41 (.mv (.t 40)), Oe 42 (.faddr 2 (.t 3)) 41 false, Oe 43 (.load (.t 42)) 41 false, Oe 44 (.len false (.t 43)) 41 false, Oe 45 (.bin .gtr (.t 44) (.c (.int .i64 4))) 41 false, Oa 46 (.pick (.t 41) (.c (.bool true)) (.t 45))]
abbrev c_rtable_r5 : List SOper := [Oa 6 (.mv (.c (.int .i64 2)))]
abbrev c_rtable_r6 : List SOper := [Oa 47 (.faddr 3 (.t 3)), Oa 48 (.load (.t 47)), Oa 49 (.bin .lss (.t 48) (.c (.int .i64 0))), Oa 50 (.mv (.t 49)), Oe 51 (.faddr 3 (.t 3)) 50 false, Oe 52 (.load (.t 51)) 50 false, Oe 53 (.bin .gtr (.t 52) (.c (.int .i64 16))) 50 false, Oa 54 (.pick (.t 50) (.c (.bool true)) (.t 53))]
abbrev c_rtable_r7 : List SOper := [Oa 6 (.mv (.c (.int .i64 1)))]
abbrev c_rtable_r8 : List SOper := [Oa 7 (.mv (.c (.int .i64 0)))]
abbrev c_rtable_r9 : List SOper := [Oa 55 (.mv (.t 7)), Oa 56 (.mv (.t 1)), Oa 57 (.len false (.t 56)), Oa 58 (.bin .lss (.t 55) (.t 57))]
abbrev c_rtable_r10 : List SOper := [Oa 61 (.mv (.t 1)), Oa 62 (.mv (.t 7)), Oa 63 (.iaddr 1 (.t 61) (.t 62)), Oa 64 (.load (.t 63)), Oa 65 (.bin .lss (.t 64) (.c (.int .i64 1))), Oa 66 (.mv (.t 65)), Oe 67 (.mv (.t 1)) 66 false, Oe 68 (.mv (.t 7)) 66 false, Oe 69 (.iaddr 1 (.t 67) (.t 68)) 66 false, Oe 70 (.load (.t 69)) 66 false, Oe 71 (.bin .gtr (.t 70) (.c (.int .i64 48))) 66 false, Oa 72 (.pick (.t 66) (.c (.bool true)) (.t 71))]
abbrev c_rtable_r11 : List SOper := [Oa 6 (.mv (.c (.int .i64 6)))]
abbrev c_rtable_r12 : List SOper := [Oa 59 (.mv (.t 7)), Oa 60 (.bin .add (.t 59) (.c (.int .i64 1))), Oa 7 (.mv (.t 60))]
def c_rtable_l1 : SCode := (.seq (.seq (.reg false c_rtable_r9 [1, 2, 3, 7, 58]) (.cond (.t 58) .skip (.exit 0))) (.seq (.block 1 (.seq (.reg false c_rtable_r10 [1, 2, 3, 7, 72]) (.cond (.t 72) (.seq (.reg false c_rtable_r11 [6]) .ret) .skip))) (.reg false c_rtable_r12 [1, 2, 3, 7])))
abbrev c_rtable_r13 : List SOper := [Oa 8 (.mv (.c (.int .i64 0)))]
abbrev c_rtable_r14 : List SOper := [Oa 73 (.mv (.t 8)), Oa 74 (.faddr 2 (.t 3)), Oa 75 (.load (.t 74)), Oa 76 (.len false (.t 75)), Oa 77 (.bin .lss (.t 73) (.t 76))]
abbrev c_rtable_r15 : List SOper := [Oa 80 (.faddr 2 (.t 3)), Oa 81 (.load (.t 80)), Oa 82 (.mv (.t 8)), Oa 83 (.iaddr 1 (.t 81) (.t 82)), Oa 84 (.load (.t 83)), Oa 85 (.bin .lss (.t 84) (.c (.int .i64 0))), Oa 86 (.mv (.t 85)), Oe 87 (.faddr 2 (.t 3)) 86 false, Oe 88 (.load (.t 87)) 86 false, Oe 89 (.mv (.t 8)) 86 false, Oe 90 (.iaddr 1 (.t 88) (.t 89)) 86 false, Oe 91 (.load (.t 90)) 86 false, Oe 92 (.mv (.t 2)) 86 false, Oe 93 (.len false (.t 92)) 86 false, Oe 94 (.bin .geq (.t 91) (.t 93)) 86 false, Oa 95 (.pick (.t 86) (.c (.bool true)) (.t 94))]
abbrev c_rtable_r16 : List SOper := [Oa 6 (.mv (.c (.int .i64 1)))]
abbrev c_rtable_r17 : List SOper := [Oa 78 (.mv (.t 8)), Oa 79 (.bin .add (.t 78) (.c (.int .i64 1))), Oa 8 (.mv (.t 79))]
def c_rtable_l2 : SCode := (.seq (.seq (.reg false c_rtable_r14 [2, 3, 8, 77]) (.cond (.t 77) .skip (.exit 2))) (.seq (.block 3 (.seq (.reg false c_rtable_r15 [2, 3, 8, 95]) (.cond (.t 95) (.seq (.reg false c_rtable_r16 [6]) .ret) .skip))) (.reg false c_rtable_r17 [2, 3, 8])))
abbrev c_rtable_r18 : List SOper := [Oa 96 (.loads 6 (.t 3)), Oa 97 (.mv (.t 2)), Oa 98 (.faddr 4 (.t 3)), Oa 99 (.load (.t 98)), Oa 100 (.faddr 5 (.t 3)), Oa 101 (.load (.t 100)), Oa 102 (.build [(.int .i64 0), .nilsl] [(0, 1, (.t 99)), (1, 1, (.t 101))]), Oc 103 72 [(.t 96), (.t 97), (.t 102)], Oa 6 (.mv (.t 103))]
def c_rtable : SCode := (.seq (.reg false c_rtable_r1 [1, 2, 3]) (.seq (.seq (.reg false c_rtable_r2 [1, 2, 3, 16]) (.cond (.t 16) (.seq (.reg false c_rtable_r3 [6]) .ret) .skip)) (.seq (.seq (.reg false c_rtable_r4 [1, 2, 3, 46]) (.cond (.t 46) (.seq (.reg false c_rtable_r5 [6]) .ret) .skip)) (.seq (.seq (.reg false c_rtable_r6 [1, 2, 3, 54]) (.cond (.t 54) (.seq (.reg false c_rtable_r7 [6]) .ret) .skip)) (.seq (.seq (.reg false c_rtable_r8 [1, 2, 3, 7]) (.block 0 (.loop c_rtable_l1))) (.seq (.seq (.reg false c_rtable_r13 [2, 3, 8]) (.block 2 (.loop c_rtable_l2))) (.seq (.reg false c_rtable_r18 [6]) .ret)))))))
theorem comp_c_rtable : comp Try.prog 104 ((Try.f44.body).getD .skip) = some c_rtable.erase := by kernel_rfl
end Go.Proofs.Ytnfjldobjgdiaaa
namespace Go.Proofs.Ytnfjldobjgdiaaa
set_option linter.all false
open Go.RowKit
attribute [local simp] sops_nil sops_run sopsk_some sops_call sops_guard sopsg_yes sopsg_tf sopsg_ft sopsg_undef rg_true SOp.run SX.ev putd puts argS upds SOp.touch SSt.keep SSt.skip gets geth puth delh idOf SV.cells? setL fillS fillR sbin eq0 eq1 eqL rowOf qseq_n qseq_e qseq_r qblock_n qblock_r qblock_e qloop_e qloop_r take_map_len FrzOk pureV_int pureV_bool pureV_str pureV_nil pureV_nilsl pureV_view pureV_cp pureL_nil_ pureL_cons_ pureO_row pureO_cells frzS frzH frz frz1 frz0 SlotsM ObjsM ObjM rn ren ren1 ren0 co_self co_int co_own co_view co_nilsl co_agg co_tup CoL coll_self mergeH dels adds idsH okNames
attribute [local simp] headc refc pushc casec statec opc actc tabc nodec planc nums
theorem rhead_s (p : PlanD) (hh : Int) (q : Nat) : SCalls Try.prog 46 [.agg (planc p), .int .i64 hh] [] q (.bool (isHead p hh)) [] := by
 refine scalls_q ?_ (fun _ => rfl) (fun _ => rfl) rfl q
 refine scalls_of (N := 14) Try.func46 rfl rfl (by kernel_rfl) comp_c_rhead (by simp) (by repeat' (first | exact trivial | refine And.intro ?_ ?_ | rfl | decide | exact PureR.ren _)) (by repeat' (first | exact trivial | refine And.intro ?_ ?_ | rfl | decide | exact PureR.ren _)) ?_
 rintro X hP hN hm
 unfold c_rhead
 repeat' (first | (with_reducible first | refine zA ?_ | refine swp_block1 ?_ | refine swp_block2 ?_ | refine zK ?_) | ((with_reducible first | refine swp_reg ?_ | refine swp_regd (by rw [hP]; exact mixed) ?_); (try rw [hP]); simp -implicitDefEqProofs [*]) | ((with_reducible first | refine swp_skip ?_ | refine swp_exit ?_); (try simp -implicitDefEqProofs [*])) | ((with_reducible refine swp_ret ?_); (try simp only [qseq_r, qblock_r, qloop_r])) | ((with_reducible refine swp_cond rfl (fun h => ?_) (fun h => ?_)) <;> have h' := h <;> (try simp at h') <;> (try subst h')) | ((with_reducible refine sopsg_cases (fun h => ?_) (fun h => ?_)) <;> have h' := h <;> (try simp at h') <;> (try subst h') <;> simp -implicitDefEqProofs [*]) | ((with_reducible refine sopsk_rg ?_ ?_); (first | omega | (unfold maxLen; omega)); simp -implicitDefEqProofs [*]) | (with_reducible first | refine zM hm ?_ | refine zN hm ?_ | refine zO hm ?_ | refine zP hm ?_) | fail)
 all_goals (first | (simp [isHead, *]; done) | (simp_all [isHead]; done) | (simp_all [isHead]; omega))
theorem rlead_s (p : PlanD) (from_ to_ : Int) (q : Nat) : SCalls Try.prog 70 [.agg (planc p), .int .i64 from_, .int .i64 to_] [] q (.int .i64 (leadF p from_ to_)) [] := by
 refine scalls_q ?_ (fun _ => rfl) (fun _ => rfl) rfl q
 refine scalls_of (N := 25) Try.func70 rfl rfl (by kernel_rfl) comp_c_rlead (by simp) (by repeat' (first | exact trivial | refine And.intro ?_ ?_ | rfl | decide | exact PureR.ren _)) (by repeat' (first | exact trivial | refine And.intro ?_ ?_ | rfl | decide | exact PureR.ren _)) ?_
 rintro X hP hN hm
 unfold c_rlead
 repeat' (first | (with_reducible first | refine zA ?_ | refine swp_block1 ?_ | refine swp_block2 ?_ | refine zK ?_) | ((with_reducible first | refine swp_reg ?_ | refine swp_regd (by rw [hP]; exact mixed) ?_); (try rw [hP]); simp -implicitDefEqProofs [*]) | ((with_reducible first | refine swp_skip ?_ | refine swp_exit ?_); (try simp -implicitDefEqProofs [*])) | ((with_reducible refine swp_ret ?_); (try simp only [qseq_r, qblock_r, qloop_r])) | ((with_reducible refine swp_cond rfl (fun h => ?_) (fun h => ?_)) <;> have h' := h <;> (try simp at h') <;> (try subst h')) | ((with_reducible refine sopsg_cases (fun h => ?_) (fun h => ?_)) <;> have h' := h <;> (try simp at h') <;> (try subst h') <;> simp -implicitDefEqProofs [*]) | ((with_reducible refine sopsk_rg ?_ ?_); (first | omega | (unfold maxLen; omega)); simp -implicitDefEqProofs [*]) | (with_reducible first | refine zM hm ?_ | refine zN hm ?_ | refine zO hm ?_ | refine zP hm ?_) | fail)
 all_goals ((try simp only [leadF]); (repeat' split) <;> (first | omega | (simp_all; done) | (simp_all; omega)))
theorem rwidth_s (p : PlanD) (r : RefD) (args : List Int) (q : Nat) : SCalls Try.prog 10 [.agg (planc p), .agg (refc r), nums .i64 args] [] q (.int .i64 (widthOf p r args)) [] := by
 refine scalls_q ?_ (fun _ => rfl) (fun _ => rfl) rfl q
 refine scalls_of (N := 53) Try.func10 rfl rfl (by kernel_rfl) comp_c_rwidth (by simp) (by repeat' (first | exact trivial | refine And.intro ?_ ?_ | rfl | decide | exact PureR.ren _)) (by repeat' (first | exact trivial | refine And.intro ?_ ?_ | rfl | decide | exact PureR.ren _)) ?_
 rintro X hP hN hm
 unfold c_rwidth
 by_cases hc : r.h = -3 ∧ r.f = 0
 ·obtain ⟨e1, e2⟩ := hc
  have hz : widthOf p r args = 16 := by unfold widthOf rowOf_ pick_; rw [e1, e2]; rfl
  rw [hz]
  repeat' (first | (with_reducible first | refine zA ?_ | refine swp_block1 ?_ | refine swp_block2 ?_ | refine zK ?_) | ((with_reducible first | refine swp_reg ?_ | refine swp_regd (by rw [hP]; exact mixed) ?_); (try rw [hP]); simp -implicitDefEqProofs [*]) | ((with_reducible first | refine swp_skip ?_ | refine swp_exit ?_); (try simp -implicitDefEqProofs [*])) | ((with_reducible refine swp_ret ?_); (try simp only [qseq_r, qblock_r, qloop_r])) | ((with_reducible refine swp_cond rfl (fun h => ?_) (fun h => ?_)) <;> have h' := h <;> (try simp at h') <;> (try subst h')) | ((with_reducible refine sopsg_cases (fun h => ?_) (fun h => ?_)) <;> have h' := h <;> (try simp at h') <;> (try subst h') <;> simp -implicitDefEqProofs [*]) | ((with_reducible refine sopsk_rg ?_ ?_); (first | omega | (unfold maxLen; omega)); simp -implicitDefEqProofs [*]) | (with_reducible first | refine zM hm ?_ | refine zN hm ?_ | refine zO hm ?_ | refine zP hm ?_) | fail)
  rfl
 ·replace hc := Lib.hid hc
  repeat' (first | (with_reducible first | refine zA ?_ | refine swp_block1 ?_ | refine swp_block2 ?_ | refine zK ?_) | ((with_reducible first | refine swp_reg ?_ | refine swp_regd (by rw [hP]; exact mixed) ?_); (try rw [hP]); simp -implicitDefEqProofs [*]) | ((with_reducible first | refine swp_skip ?_ | refine swp_exit ?_); (try simp -implicitDefEqProofs [*])) | ((with_reducible refine swp_ret ?_); (try simp only [qseq_r, qblock_r, qloop_r])) | ((with_reducible refine swp_cond rfl (fun h => ?_) (fun h => ?_)) <;> have h' := h <;> (try simp at h') <;> (try subst h')) | ((with_reducible refine sopsg_cases (fun h => ?_) (fun h => ?_)) <;> have h' := h <;> (try simp at h') <;> (try subst h') <;> simp -implicitDefEqProofs [*]) | ((with_reducible refine sopsk_rg ?_ ?_); (first | omega | (unfold maxLen; omega)); simp -implicitDefEqProofs [*]) | (with_reducible first | refine zM hm ?_ | refine zN hm ?_ | refine zO hm ?_ | refine zP hm ?_) | ((exfalso; have := hc.out; omega)) | fail)
  all_goals ((try simp only [widthOf, rowOf_, pick_, headW, el]); (repeat' split) <;> (try first | omega | (simp_all; done) | (simp_all; omega)))
theorem rtakes_s (op : Int) (q : Nat) : SCalls Try.prog 15 [.int .i64 op] [] q (.int .i64 (takesOf op)) [] := by
 refine scalls_q ?_ (fun _ => rfl) (fun _ => rfl) rfl q
 refine scalls_of (N := 13) Try.func15 rfl rfl (by kernel_rfl) comp_c_rtakes (by simp) (by repeat' (first | exact trivial | refine And.intro ?_ ?_ | rfl | decide | exact PureR.ren _)) (by repeat' (first | exact trivial | refine And.intro ?_ ?_ | rfl | decide | exact PureR.ren _)) ?_
 rintro X hP hN hm
 unfold c_rtakes
 by_cases h0 : op < 1
 ·have hz : takesOf op = -1 := by unfold takesOf; rw [if_neg (by omega), if_neg (by omega), if_neg (by omega)]
  rw [hz]
  repeat' (first | (with_reducible first | refine zA ?_ | refine swp_block1 ?_ | refine swp_block2 ?_ | refine zK ?_) | ((with_reducible first | refine swp_reg ?_ | refine swp_regd (by rw [hP]; exact mixed) ?_); (try rw [hP]); simp -implicitDefEqProofs [*]) | ((with_reducible first | refine swp_skip ?_ | refine swp_exit ?_); (try simp -implicitDefEqProofs [*])) | ((with_reducible refine swp_ret ?_); (try simp only [qseq_r, qblock_r, qloop_r])) | ((with_reducible refine swp_cond rfl (fun h => ?_) (fun h => ?_)) <;> have h' := h <;> (try simp at h') <;> (try subst h')) | ((with_reducible refine sopsg_cases (fun h => ?_) (fun h => ?_)) <;> have h' := h <;> (try simp at h') <;> (try subst h') <;> simp -implicitDefEqProofs [*]) | ((with_reducible refine sopsk_rg ?_ ?_); (first | omega | (unfold maxLen; omega)); simp -implicitDefEqProofs [*]) | (with_reducible first | refine zM hm ?_ | refine zN hm ?_ | refine zO hm ?_ | refine zP hm ?_) | fail)
  all_goals first | rfl | omega
 by_cases h9 : 13 < op
 ·have hz : takesOf op = -1 := by unfold takesOf; rw [if_neg (by omega), if_neg (by omega), if_neg (by omega)]
  rw [hz]
  repeat' (first | (with_reducible first | refine zA ?_ | refine swp_block1 ?_ | refine swp_block2 ?_ | refine zK ?_) | ((with_reducible first | refine swp_reg ?_ | refine swp_regd (by rw [hP]; exact mixed) ?_); (try rw [hP]); simp -implicitDefEqProofs [*]) | ((with_reducible first | refine swp_skip ?_ | refine swp_exit ?_); (try simp -implicitDefEqProofs [*])) | ((with_reducible refine swp_ret ?_); (try simp only [qseq_r, qblock_r, qloop_r])) | ((with_reducible refine swp_cond rfl (fun h => ?_) (fun h => ?_)) <;> have h' := h <;> (try simp at h') <;> (try subst h')) | ((with_reducible refine sopsg_cases (fun h => ?_) (fun h => ?_)) <;> have h' := h <;> (try simp at h') <;> (try subst h') <;> simp -implicitDefEqProofs [*]) | ((with_reducible refine sopsk_rg ?_ ?_); (first | omega | (unfold maxLen; omega)); simp -implicitDefEqProofs [*]) | (with_reducible first | refine zM hm ?_ | refine zN hm ?_ | refine zO hm ?_ | refine zP hm ?_) | fail)
  all_goals first | rfl | omega
 have : op = 1 ∨ op = 2 ∨ op = 3 ∨ op = 4 ∨ op = 5 ∨ op = 6 ∨ op = 7 ∨ op = 8 ∨ op = 9 ∨ op = 10 ∨ op = 11 ∨ op = 12 ∨ op = 13 := by omega
 clear h0 h9
 rcases this with rfl | rfl | rfl | rfl | rfl | rfl | rfl | rfl | rfl | rfl | rfl | rfl | rfl
 all_goals
  repeat' (first | (with_reducible first | refine zA ?_ | refine swp_block1 ?_ | refine swp_block2 ?_ | refine zK ?_) | ((with_reducible first | refine swp_reg ?_ | refine swp_regd (by rw [hP]; exact mixed) ?_); (try rw [hP]); simp -implicitDefEqProofs [*]) | ((with_reducible first | refine swp_skip ?_ | refine swp_exit ?_); (try simp -implicitDefEqProofs [*])) | ((with_reducible refine swp_ret ?_); (try simp only [qseq_r, qblock_r, qloop_r])) | ((with_reducible refine swp_cond rfl (fun h => ?_) (fun h => ?_)) <;> have h' := h <;> (try simp at h') <;> (try subst h')) | ((with_reducible refine sopsg_cases (fun h => ?_) (fun h => ?_)) <;> have h' := h <;> (try simp at h') <;> (try subst h') <;> simp -implicitDefEqProofs [*]) | ((with_reducible refine sopsk_rg ?_ ?_); (first | omega | (unfold maxLen; omega)); simp -implicitDefEqProofs [*]) | (with_reducible first | refine zM hm ?_ | refine zN hm ?_ | refine zO hm ?_ | refine zP hm ?_) | fail)
  rfl
end Go.Proofs.Ytnfjldobjgdiaaa
namespace Go.Proofs.Ytnfjldobjgdiaaa
set_option linter.all false
open Go.RowKit
attribute [local simp] sops_nil sops_run sopsk_some sops_call sops_guard sopsg_yes sopsg_tf sopsg_ft sopsg_undef rg_true SOp.run SX.ev putd puts argS upds SOp.touch SSt.keep SSt.skip gets geth puth delh idOf SV.cells? setL fillS fillR sbin eq0 eq1 eqL rowOf qseq_n qseq_e qseq_r qblock_n qblock_r qblock_e qloop_e qloop_r take_map_len FrzOk pureV_int pureV_bool pureV_str pureV_nil pureV_nilsl pureV_view pureV_cp pureL_nil_ pureL_cons_ pureO_row pureO_cells frzS frzH frz frz1 frz0 SlotsM ObjsM ObjM rn ren ren1 ren0 co_self co_int co_own co_view co_nilsl co_agg co_tup CoL coll_self mergeH dels adds idsH okNames
attribute [local simp] headc refc pushc casec statec opc actc tabc nodec planc nums
theorem rwidth0_s (p : PlanD) (r : RefD) (q : Nat) : SCalls Try.prog 10 [.agg (planc p), .agg (refc r), .nilsl] [] q (.int .i64 (widthOf p r [])) [] := scalls_co (rwidth_s p r [] q) ⟨Co.refl _, Co.refl _, Co.nilsl _, trivial⟩
theorem rmay_s (p : PlanD) (r : RefD) (q : Nat) : SCalls Try.prog 89 [.agg (planc p), .agg (refc r)] [] q (.bool (mayBe p r)) [] := by
 refine scalls_q ?_ (fun _ => rfl) (fun _ => rfl) rfl q
 refine scalls_of (N := 14) Try.func89 rfl rfl (by kernel_rfl) comp_c_rmay (by simp) (by repeat' (first | exact trivial | refine And.intro ?_ ?_ | rfl | decide | exact PureR.ren _)) (by repeat' (first | exact trivial | refine And.intro ?_ ?_ | rfl | decide | exact PureR.ren _)) ?_
 rintro X hP hN hm
 unfold c_rmay
 repeat' (first | (with_reducible first | refine zA ?_ | refine swp_block1 ?_ | refine swp_block2 ?_ | refine zK ?_) | ((with_reducible first | refine swp_reg ?_ | refine swp_regd (by rw [hP]; exact mixed) ?_); (try rw [hP]); simp -implicitDefEqProofs [*]) | ((with_reducible first | refine swp_skip ?_ | refine swp_exit ?_); (try simp -implicitDefEqProofs [*])) | ((with_reducible refine swp_ret ?_); (try simp only [qseq_r, qblock_r, qloop_r])) | ((with_reducible refine swp_cond rfl (fun h => ?_) (fun h => ?_)) <;> have h' := h <;> (try simp at h') <;> (try subst h')) | ((with_reducible refine sopsg_cases (fun h => ?_) (fun h => ?_)) <;> have h' := h <;> (try simp at h') <;> (try subst h') <;> simp -implicitDefEqProofs [*]) | ((with_reducible refine sopsk_rg ?_ ?_); (first | omega | (unfold maxLen; omega)); simp -implicitDefEqProofs [*]) | (refine call_q (rwidth0_s p r _) ?_; simp -implicitDefEqProofs [*]) | (with_reducible first | refine zM hm ?_ | refine zN hm ?_ | refine zO hm ?_ | refine zP hm ?_) | fail)
 all_goals (first | (simp [mayBe, *]; done) | (simp_all [mayBe]; done) | (simp_all [mayBe]; omega))
theorem rexpr_s (p : PlanD) (l : List PushD) (args : List Int) (hl : l.length ≤ 1000000) (q : Nat) : SCalls Try.prog 73 [.agg (planc p), pushes l, nums .i64 args] [] q (.int .i64 (exprF p l args)) [] := by
 refine scalls_q ?_ (fun _ => rfl) (fun _ => rfl) rfl q
 refine scalls_of (N := 55) Try.func73 rfl rfl (by kernel_rfl) comp_c_rexpr (by simp) (by repeat' (first | exact trivial | refine And.intro ?_ ?_ | rfl | decide | exact PureR.ren _)) (by repeat' (first | exact trivial | refine And.intro ?_ ?_ | rfl | decide | exact PureR.ren _)) ?_
 rintro X hP hN hm
 unfold c_rexpr
 by_cases h8 : 8 < l.length
 ·have hz : exprF p l args = 2 := by unfold exprF; rw [if_pos h8]
  rw [hz]
  have k8 : (8 : Int) < l.length := by omega
  repeat' (first | (with_reducible first | refine zA ?_ | refine swp_block1 ?_ | refine swp_block2 ?_ | refine zK ?_) | ((with_reducible first | refine swp_reg ?_ | refine swp_regd (by rw [hP]; exact mixed) ?_); (try rw [hP]); simp -implicitDefEqProofs [pushes, *]) | ((with_reducible first | refine swp_skip ?_ | refine swp_exit ?_); (try simp -implicitDefEqProofs [pushes, *])) | ((with_reducible refine swp_ret ?_); (try simp only [qseq_r, qblock_r, qloop_r])) | ((with_reducible refine swp_cond rfl (fun h => ?_) (fun h => ?_)) <;> have h' := h <;> (try simp at h') <;> (try subst h')) | ((with_reducible refine sopsg_cases (fun h => ?_) (fun h => ?_)) <;> have h' := h <;> (try simp at h') <;> (try subst h') <;> simp -implicitDefEqProofs [pushes, *]) | ((with_reducible refine sopsk_rg ?_ ?_); (first | omega | (unfold maxLen; omega)); simp -implicitDefEqProofs [pushes, *]) | (with_reducible first | refine zM hm ?_ | refine zN hm ?_ | refine zO hm ?_ | refine zP hm ?_) | ((exfalso; omega)) | fail)
  rfl
 have hF : exprF p l args = exprGo p args (l.drop 0) 0 := by unfold exprF; rw [if_neg h8]; rfl
 have k8 : ¬ (8 : Int) < l.length := by omega
 generalize exprF p l args = F at hF
 replace hF := Lib.hid hF
 repeat' (first | (with_reducible first | refine zA ?_ | refine swp_block1 ?_ | refine swp_block2 ?_ | refine zK ?_) | ((with_reducible first | refine swp_reg ?_ | refine swp_regd (by rw [hP]; exact mixed) ?_); (try rw [hP]); simp -implicitDefEqProofs [pushes, *]) | ((with_reducible first | refine swp_skip ?_ | refine swp_exit ?_); (try simp -implicitDefEqProofs [pushes, *])) | ((with_reducible refine swp_ret ?_); (try simp only [qseq_r, qblock_r, qloop_r])) | ((with_reducible refine swp_cond rfl (fun h => ?_) (fun h => ?_)) <;> have h' := h <;> (try simp at h') <;> (try subst h')) | ((with_reducible refine sopsg_cases (fun h => ?_) (fun h => ?_)) <;> have h' := h <;> (try simp at h') <;> (try subst h') <;> simp -implicitDefEqProofs [pushes, *]) | ((with_reducible refine sopsk_rg ?_ ?_); (first | omega | (unfold maxLen; omega)); simp -implicitDefEqProofs [pushes, *]) | (with_reducible first | refine zM hm ?_ | refine zN hm ?_ | refine zO hm ?_ | refine zP hm ?_) | fail)
 refine swp_block (swp_for (fun s (x : Nat × Int) => s.turn [(7, .int .i64 x.2), (8, .int .i64 x.1)] []) (fun x => x.1 ≤ l.length ∧ (0 ≤ x.2 ∧ x.2 ≤ 2 * x.1) ∧ F = exprGo p args (l.drop x.1) x.2) (fun x => l.length - x.1) (0, 0) ?_ ⟨by simp, by simp, hF.out⟩ ?_)
 ·repeat' (first | ((with_reducible refine wk_self [] hm ?_ ?_ ?_ ?_) <;> (try simp only [zT, puth, Nat.reduceEqDiff, reduceIte, Nat.reduceAdd])) | (with_reducible first | refine za ?_ ?_ | refine zb ?_ ?_ ?_ ?_ | refine zc ?_ ?_ ?_ ?_ | refine zd ?_ ?_ ?_ ?_ | refine objsM_abs ?_ ?_ | refine subH_cons ?_ ?_) | (with_reducible first | exact slotsM_nil | exact objsM_nil | exact subH_nil | exact coL_nilm | exact Co.refl _ | exact CoL.refl _ | exact CoLL.refl _) | ((with_reducible first | refine zga ?_ | refine zgb ?_); rfl) | ((with_reducible refine zgc ?_); (first | (with_reducible rfl) | rfl | (simp; done))) | ((with_reducible first | refine zgd ?_ | refine zge ?_); (first | omega | (simp; done))) | (refine co_wrap ⟨?_, ?_⟩ ?_ <;> omega) | (exact Co.refl _) | (exact CoL.refl _) | (exact CoLL.refl _) | (refine co_own ?_; omega) | (refine co_int ?_; first | omega | (simp_all; done)) | (with_reducible first | refine coL_cons ?_ ?_ | refine coL_consm ?_ ?_) | fail)
 rintro J hJ ⟨i, n⟩ ⟨h1, h2, h3⟩
 unfold c_rexpr_l1
 simp only [zT, puth, Nat.reduceEqDiff, reduceIte, Nat.reduceAdd] at h1 h2 h3 ⊢
 rcases Nat.lt_or_ge i l.length with hi | hi
 ·rw [List.drop_eq_getElem_cons hi, exprGo_cons] at h3
  generalize hxx : l[i] = x at h3
  have wi : IntKind.i64.wrap ((i : Int) + 1) = (i : Int) + 1 := i64_add_ (by omega) (by omega)
  have ht : -1 ≤ takesOf x.op ∧ takesOf x.op ≤ 2 := by unfold takesOf; repeat' split <;> omega
  have hc := fun q => rtakes_s x.op q
  have w1 : IntKind.i64.wrap (n - takesOf x.op) = n - takesOf x.op := IntWalk.i64_in _ ⟨by omega, by omega⟩
  have w2 : IntKind.i64.wrap (n - takesOf x.op + 1) = n - takesOf x.op + 1 := IntWalk.i64_in _ ⟨by omega, by omega⟩
  generalize takesOf x.op = T at h3 ht hc w1 w2
  replace h3 := Lib.hid h3
  repeat' (first | (with_reducible first | refine zA ?_ | refine swp_block1 ?_ | refine swp_block2 ?_ | refine zK ?_) | ((with_reducible first | refine swp_reg ?_ | refine swp_regd (by rw [hP]; exact mixed) ?_); (try rw [hP]); simp -implicitDefEqProofs [pushes, *]) | ((with_reducible first | refine swp_skip ?_ | refine swp_exit ?_); (try simp -implicitDefEqProofs [pushes, *])) | ((with_reducible refine swp_ret ?_); (try simp only [qseq_r, qblock_r, qloop_r])) | ((with_reducible refine swp_cond rfl (fun h => ?_) (fun h => ?_)) <;> have h' := h <;> (try simp at h') <;> (try subst h')) | ((with_reducible refine sopsg_cases (fun h => ?_) (fun h => ?_)) <;> have h' := h <;> (try simp at h') <;> (try subst h') <;> simp -implicitDefEqProofs [pushes, *]) | ((with_reducible refine sopsk_rg ?_ ?_); (first | omega | (unfold maxLen; omega)); simp -implicitDefEqProofs [pushes, *]) | ((first | refine call_q (hc _) ?_ | refine call_q (rwidth_s p x.r args _) ?_); simp -implicitDefEqProofs [pushes, *]) | (with_reducible first | refine zM hm ?_ | refine zN hm ?_ | refine zO hm ?_ | refine zP hm ?_) | ((with_reducible refine wk_self [] hm ?_ ?_ ?_ ?_) <;> (try simp only [zT, puth, Nat.reduceEqDiff, reduceIte, Nat.reduceAdd])) | (with_reducible first | refine za ?_ ?_ | refine zb ?_ ?_ ?_ ?_ | refine zc ?_ ?_ ?_ ?_ | refine zd ?_ ?_ ?_ ?_ | refine objsM_abs ?_ ?_ | refine subH_cons ?_ ?_) | (with_reducible first | exact slotsM_nil | exact objsM_nil | exact subH_nil | exact coL_nilm | exact Co.refl _ | exact CoL.refl _ | exact CoLL.refl _) | ((with_reducible first | refine zga ?_ | refine zgb ?_); rfl) | ((with_reducible refine zgc ?_); (first | (with_reducible rfl) | rfl | (simp; done))) | ((with_reducible first | refine zgd ?_ | refine zge ?_); (first | omega | (simp; done))) | (refine co_wrap ⟨?_, ?_⟩ ?_ <;> omega) | (exact Co.refl _) | (exact CoL.refl _) | (exact CoLL.refl _) | (refine co_own ?_; omega) | (refine co_int ?_; first | omega | (simp_all; done)) | (with_reducible first | refine coL_cons ?_ ?_ | refine coL_consm ?_ ?_) | ((refine qfor_next hJ (i + 1, n - T + 1) ?_ ?_ ?_; (with_reducible refine wk_self [] hm ?_ ?_ ?_ ?_) <;> (try simp only [zT, puth, Nat.reduceEqDiff, reduceIte, Nat.reduceAdd]))) | fail)
  all_goals (try dsimp only)
  all_goals (first | (rw [h3.out]; simp_all; done) | (refine ⟨by omega, ⟨by omega, by omega⟩, ?_⟩; rw [h3.out, if_neg (by omega), if_neg (by simp_all), show n - T + 1 = n + (1 - T) by omega]) | skip)
 ·obtain rfl : i = l.length := by omega
  rw [List.drop_length, exprGo_nil] at h3
  replace h3 := Lib.hid h3
  repeat' (first | (with_reducible first | refine zA ?_ | refine swp_block1 ?_ | refine swp_block2 ?_ | refine zK ?_) | ((with_reducible first | refine swp_reg ?_ | refine swp_regd (by rw [hP]; exact mixed) ?_); (try rw [hP]); simp -implicitDefEqProofs [pushes, *]) | ((with_reducible first | refine swp_skip ?_ | refine swp_exit ?_); (try simp -implicitDefEqProofs [pushes, *])) | ((with_reducible refine swp_ret ?_); (try simp only [qseq_r, qblock_r, qloop_r])) | ((with_reducible refine swp_cond rfl (fun h => ?_) (fun h => ?_)) <;> have h' := h <;> (try simp at h') <;> (try subst h')) | ((with_reducible refine sopsg_cases (fun h => ?_) (fun h => ?_)) <;> have h' := h <;> (try simp at h') <;> (try subst h') <;> simp -implicitDefEqProofs [pushes, *]) | ((with_reducible refine sopsk_rg ?_ ?_); (first | omega | (unfold maxLen; omega)); simp -implicitDefEqProofs [pushes, *]) | (with_reducible first | refine zM hm ?_ | refine zN hm ?_ | refine zO hm ?_ | refine zP hm ?_) | fail)
  all_goals (rw [h3.out]; simp_all; done)
end Go.Proofs.Ytnfjldobjgdiaaa
namespace Go.Proofs.Ytnfjldobjgdiaaa
set_option linter.all false
open Go.RowKit
theorem u64_bv {x : Int} (h : 0 ≤ x ∧ x ≤ 18446744073709551615) : ∃ v : BitVec 64, x = (v.toNat : Int) := ⟨BitVec.ofNat 64 x.toNat, by rw [BitVec.toNat_ofNat, Nat.mod_eq_of_lt (by omega)]; omega⟩
theorem bv_back (v : BitVec 64) : BitVec.ofInt 64 (v.toNat : Int) = v := by
 rw [BitVec.ofInt_natCast]; simp
theorem bv_wrap (v : BitVec 64) : IntKind.u64.wrap (v.toNat : Int) = v.toNat := u64_in_ (by omega) (by have := v.isLt; omega)
theorem bits_and (v w : BitVec 64) : bits .and .u64 v.toNat w.toNat = ((v &&& w).toNat : Int) := by
 show IntKind.u64.wrap (((BitVec.ofInt 64 (v.toNat : Int)) &&& (BitVec.ofInt 64 (w.toNat : Int))).toNat : Int) = _
 rw [bv_back, bv_back, bv_wrap]
theorem bits_andNot (v w : BitVec 64) : bits .andNot .u64 v.toNat w.toNat = ((v &&& ~~~w).toNat : Int) := by
 show IntKind.u64.wrap (((BitVec.ofInt 64 (v.toNat : Int)) &&& ~~~(BitVec.ofInt 64 (w.toNat : Int))).toNat : Int) = _
 rw [bv_back, bv_back, bv_wrap]
theorem bv_inj {v w : BitVec 64} : (v.toNat : Int) = w.toNat ↔ v = w := ⟨fun h => BitVec.eq_of_toNat_eq (by omega), fun h => by rw [h]⟩
theorem andNot_zero {a b : Int} (ha : 0 ≤ a ∧ a ≤ 18446744073709551615) (hb : 0 ≤ b ∧ b ≤ 18446744073709551615) : bits .andNot .u64 a b = 0 ↔ bits .and .u64 a b = a := by
 obtain ⟨v, rfl⟩ := u64_bv ha
 obtain ⟨w, rfl⟩ := u64_bv hb
 rw [bits_andNot, bits_and, bv_inj]
 have e : (((v &&& ~~~w).toNat : Nat) : Int) = 0 ↔ v &&& ~~~w = 0#64 := by
  rw [show (0 : Int) = ((0#64).toNat : Int) by rfl, bv_inj]
 rw [e]
 constructor
 ·intro h
  ext i hi
  have := congrArg (fun z => z.getLsbD i) h
  simp [hi] at this ⊢
  exact this
 ·intro h
  ext i hi
  have := congrArg (fun z => z.getLsbD i) h
  simp [hi] at this ⊢
  exact this
end Go.Proofs.Ytnfjldobjgdiaaa
namespace Go.Proofs.Ytnfjldobjgdiaaa
set_option linter.all false
open Go.RowKit
attribute [local simp] sops_nil sops_run sopsk_some sops_call sops_guard sopsg_yes sopsg_tf sopsg_ft sopsg_undef rg_true SOp.run SX.ev putd puts argS upds SOp.touch SSt.keep SSt.skip gets geth puth delh idOf SV.cells? setL fillS fillR sbin eq0 eq1 eqL rowOf qseq_n qseq_e qseq_r qblock_n qblock_r qblock_e qloop_e qloop_r take_map_len FrzOk pureV_int pureV_bool pureV_str pureV_nil pureV_nilsl pureV_view pureV_cp pureL_nil_ pureL_cons_ pureO_row pureO_cells frzS frzH frz frz1 frz0 SlotsM ObjsM ObjM rn ren ren1 ren0 co_self co_int co_own co_view co_nilsl co_agg co_tup CoL coll_self mergeH dels adds idsH okNames
attribute [local simp] headc refc pushc casec statec opc actc tabc nodec planc nums jc
theorem case_step (e g : Int) (B : Bool) (l rest E at_ : Int) : orF (e, g) (if (if (if B = true then 6 else l) = 0 then rest else (if B = true then 6 else l)) = 0 then E else (if (if B = true then 6 else l) = 0 then rest else (if B = true then 6 else l)), at_) = orF (thenF (failF e g B 6 at_).1 (failF e g B 6 at_).2 l at_) (if rest = 0 then E else rest, at_) := by
 unfold orF thenF failF
 cases B <;> by_cases he : e = 0 <;> by_cases hl : l = 0 <;> by_cases hr : rest = 0 <;> simp [he, hl, hr]
theorem mask_s (w : Int) (hw : 0 ≤ w ∧ w ≤ 48) (q : Nat) : SCalls Try.prog 63 [.int .i64 w] [] q (.int .u64 (if w ≤ 64 then 2 ^ w.toNat - 1 else 0)) [] := by
 refine scalls_in (Enters.of Try.func63 rfl rfl) (fun O w1 vs hO h => ?_) (fun σ => rfl) q
 obtain ⟨v, us, rfl, h1, h2⟩ := Reps.cons_inv h
 have := h2.nil_inv; subst this
 cases h1
 refine (Mask_any w w1 (Fits.of_i64 (by omega) (by omega))).mono ?_
 rintro e w' ⟨rfl, rfl⟩
 refine ⟨_, rfl, .refl _ _, ?_⟩
 have : ones w = if w ≤ 64 then 2 ^ w.toNat - 1 else 0 := by
  unfold ones onesN
  by_cases h0 : 1 ≤ w
  ·rw [if_pos ⟨h0, by omega⟩, if_pos (by omega)]
  ·obtain rfl : w = 0 := by omega
   rfl
 rw [this]; exact .int
set_option maxHeartbeats 8000000 in
theorem jstates_s (p : PlanD) (hp : PW p) (hs : SmallP p) (hk : OkPlan p) (a b : Int) : SCalls Try.prog 33 [.ptr 0 0] [(0, .cells 78 (jc p a b))] 1 (.tup []) [(0, .cells 78 (jc p (orF (a, b) (statesF p)).1 (orF (a, b) (statesF p)).2))] := by
 refine scalls_of (N := 130) Try.func33 rfl rfl (by kernel_rfl) comp_c_jstates (by simp) (by repeat' (first | exact trivial | refine And.intro ?_ ?_ | rfl | decide | exact PureR.ren _)) (by repeat' (first | exact trivial | refine And.intro ?_ ?_ | rfl | decide | exact PureR.ren _)) ?_
 rintro X hP hN hm
 have hF : orF (a, b) (statesF p) = orF (failF a b (decide ((p.states.length : Int) < 1) || decide (8 < (p.states.length : Int))) 2 (-3)) (rowF (fun i s => stateF p i s) 3000 0 p.states) := by
  unfold statesF; rw [many_step]; congr 4
  ·exact propext (by omega)
  ·exact propext (by omega)
 generalize orF (a, b) (statesF p) = F at hF
 replace hF := Lib.hid hF
 have hla := hs.states
 unfold c_jstates
 have main : ∀ e0 g0, F = orF (e0, g0) (rowF (fun i s => stateF p i s) 3000 0 p.states) → SWp X (SCode.block 0 c_jstates_l2.loop) (QFun X [] 1 (SV.tup []) [(0, .cells 78 (jc p F.1 F.2))]) ⟨[(0, .ptr 0 0), (2, .int .i64 0)], [(0, .cells 78 (jc p e0 g0))], 1⟩ := by
  intro e0 g0 h0
  replace h0 := Lib.hid h0
  refine swp_block (swp_for (fun s (x : Nat × Int × Int) => s.turn [(2, .int .i64 x.1)] [(0, .cells 78 (jc p x.2.1 x.2.2))]) (fun x => x.1 ≤ p.states.length ∧ F = orF (x.2.1, x.2.2) (rowF (fun i s => stateF p i s) 3000 x.1 (p.states.drop x.1))) (fun x => p.states.length - x.1) (0, _, _) ?_ ⟨by simp, h0.out⟩ ?_)
  ·repeat' (first | ((with_reducible refine wk_self [] hm ?_ ?_ ?_ ?_) <;> (try simp only [zT, puth, Nat.reduceEqDiff, reduceIte, Nat.reduceAdd])) | (with_reducible first | refine za ?_ ?_ | refine zb ?_ ?_ ?_ ?_ | refine zc ?_ ?_ ?_ ?_ | refine zd ?_ ?_ ?_ ?_ | refine objsM_abs ?_ ?_ | refine subH_cons ?_ ?_) | (with_reducible first | exact slotsM_nil | exact objsM_nil | exact subH_nil | exact coL_nilm | exact Co.refl _ | exact CoL.refl _ | exact CoLL.refl _) | ((with_reducible first | refine zga ?_ | refine zgb ?_); rfl) | ((with_reducible refine zgc ?_); (first | (with_reducible rfl) | rfl | (simp; done))) | ((with_reducible first | refine zgd ?_ | refine zge ?_); (first | omega | (simp; done))) | (refine co_wrap ⟨?_, ?_⟩ ?_ <;> omega) | (exact Co.refl _) | (exact CoL.refl _) | (exact CoLL.refl _) | (refine co_own ?_; omega) | (refine co_int ?_; first | omega | (simp_all; done)) | (with_reducible first | refine coL_cons ?_ ?_ | refine coL_consm ?_ ?_) | fail)
  rintro J hJ ⟨i, e, g⟩ ⟨h1, h2⟩
  have hJo := hJ
  unfold c_jstates_l2
  simp only [zT, puth, Nat.reduceEqDiff, reduceIte, Nat.reduceAdd] at h1 h2 ⊢
  rcases Nat.lt_or_ge i p.states.length with hi | hi
  ·have hxm : p.states[i] ∈ p.states := List.getElem_mem hi
   have hc := hs.cases_ _ hxm
   rw [rowF_drop _ _ hi] at h2
   generalize hxx : p.states[i] = x at h2 hc
   by_cases he : e = 0
   ·subst he
    rw [row_step] at h2
    have wi : IntKind.i64.wrap ((i : Int) + 1) = (i : Int) + 1 := i64_add_ (by omega) (by omega)
    have wa : IntKind.i64.wrap (3000 + (i : Int)) = 3000 + (i : Int) := i64_add_ (by omega) (by omega)
    have hst : stateF p i x = if (decide (x.head < -1) || decide ((p.heads.length : Int) ≤ x.head)) = true then 1 else if decide (4 < (x.cases_.length : Int)) = true then 2 else if (decide (0 < (x.cases_.length : Int)) && (widthOf p x.on [] == 0)) = true then 1 else if firstF (caseF p i (widthOf p x.on [])) (x.cases_.drop 0) = 0 then leadF p i x.els else firstF (caseF p i (widthOf p x.on [])) (x.cases_.drop 0) := by
     unfold stateF
     rw [List.drop_zero]
     simp only [Bool.or_eq_true, Bool.and_eq_true, decide_eq_true_eq, beq_iff_eq, ne_eq, ite_not]
     have e1 : (4 < x.cases_.length) = (4 < (x.cases_.length : Int)) := propext (by omega)
     have e2 : (0 < x.cases_.length) = (0 < (x.cases_.length : Int)) := propext (by omega)
     simp only [e1, e2]
    have hA : orF (0, g) (stateF p i x, 3000 + (i : Int)) = orF (failF (failF (failF 0 g (decide (x.head < -1) || decide ((p.heads.length : Int) ≤ x.head)) 1 (3000 + i)).1 (failF 0 g (decide (x.head < -1) || decide ((p.heads.length : Int) ≤ x.head)) 1 (3000 + i)).2 (decide (4 < (x.cases_.length : Int))) 2 (3000 + i)).1 (failF (failF 0 g (decide (x.head < -1) || decide ((p.heads.length : Int) ≤ x.head)) 1 (3000 + i)).1 (failF 0 g (decide (x.head < -1) || decide ((p.heads.length : Int) ≤ x.head)) 1 (3000 + i)).2 (decide (4 < (x.cases_.length : Int))) 2 (3000 + i)).2 (decide (0 < (x.cases_.length : Int)) && (widthOf p x.on [] == 0)) 1 (3000 + i)) (if firstF (caseF p i (widthOf p x.on [])) (x.cases_.drop 0) = 0 then leadF p i x.els else firstF (caseF p i (widthOf p x.on [])) (x.cases_.drop 0), 3000 + (i : Int)) := by
     rw [hst, fail_step _ _ _ _ _ _ (by decide)]
     refine (fail_step _ _ _ _ _ _ (by decide)).trans ?_
     exact fail_step _ _ _ _ _ _ (by decide)
    clear hst
    generalize orF (0, g) (stateF p i x, 3000 + (i : Int)) = A at hA h2
    have hW := hp x.on
    have hfit : ∀ c ∈ x.cases_, OkCase c := by rw [← hxx]; exact (hk.2.2.1 _ hxm).2.2.1
    replace hA := Lib.hid hA
    replace h2 := Lib.hid h2
    replace hfit := Lib.hid hfit
    have hms := mask_s (widthOf p x.on []) hW
    generalize hww : widthOf p x.on [] = W at hA hms hW
    replace hms := Lib.hid hms
    have kn : decide (0 < x.cases_.length) = decide (0 < (x.cases_.length : Int)) := decide_eq_decide.2 (by omega)
    cases k1 : decide (x.head < -1) <;> cases k3 : decide (0 < (x.cases_.length : Int)) <;> rw [k3] at kn
    all_goals
     repeat' (first | (with_reducible first | refine zA ?_ | refine swp_block1 ?_ | refine swp_block2 ?_ | refine zK ?_) | ((with_reducible first | refine swp_reg ?_ | refine swp_regd (by rw [hP]; exact mixed) ?_); (try rw [hP]); simp -implicitDefEqProofs [*]) | ((with_reducible first | refine swp_skip ?_ | refine swp_exit ?_); (try simp -implicitDefEqProofs [*])) | ((with_reducible refine swp_ret ?_); (try simp only [qseq_r, qblock_r, qloop_r])) | ((with_reducible refine swp_cond rfl (fun h => ?_) (fun h => ?_)) <;> have h' := h <;> (try simp at h') <;> (try subst h')) | ((with_reducible refine sopsg_cases (fun h => ?_) (fun h => ?_)) <;> have h' := h <;> (try simp at h') <;> (try subst h') <;> simp -implicitDefEqProofs [*]) | ((with_reducible refine sopsk_rg ?_ ?_); (first | omega | (unfold maxLen; omega)); simp -implicitDefEqProofs [*]) | ((first | refine call_h (call_jfail p _ _ _ _ _ _ _ (by simp)) ⟨rfl, trivial⟩ ⟨rfl, trivial⟩ ?_ | refine call_q (call_width0 p x.on _) ?_); simp -implicitDefEqProofs [*]) | (with_reducible first | refine zM hm ?_ | refine zN hm ?_ | refine zO hm ?_ | refine zP hm ?_) | fail)
     refine swp_block (swp_for (fun s (y : Nat × Int × Int) => s.turn [(99, .int .i64 y.1)] [(0, .cells 78 (jc p y.2.1 y.2.2))]) (fun y => y.1 ≤ x.cases_.length ∧ A = orF (y.2.1, y.2.2) (if firstF (caseF p i W) (x.cases_.drop y.1) = 0 then leadF p i x.els else firstF (caseF p i W) (x.cases_.drop y.1), 3000 + (i : Int))) (fun y => x.cases_.length - y.1) (0, _, _) ?_ ⟨by simp, by have q := hA.out; simp only [k1, k3, Bool.true_or, Bool.false_or, Bool.true_and, Bool.false_and] at q; exact q⟩ ?_)
     ·repeat' (first | ((with_reducible refine wk_self [] hm ?_ ?_ ?_ ?_) <;> (try simp only [zT, puth, Nat.reduceEqDiff, reduceIte, Nat.reduceAdd])) | (with_reducible first | refine za ?_ ?_ | refine zb ?_ ?_ ?_ ?_ | refine zc ?_ ?_ ?_ ?_ | refine zd ?_ ?_ ?_ ?_ | refine objsM_abs ?_ ?_ | refine subH_cons ?_ ?_) | (with_reducible first | exact slotsM_nil | exact objsM_nil | exact subH_nil | exact coL_nilm | exact Co.refl _ | exact CoL.refl _ | exact CoLL.refl _) | ((with_reducible first | refine zga ?_ | refine zgb ?_); rfl) | ((with_reducible refine zgc ?_); (first | (with_reducible rfl) | rfl | (simp; done))) | ((with_reducible first | refine zgd ?_ | refine zge ?_); (first | omega | (simp; done))) | (refine co_wrap ⟨?_, ?_⟩ ?_ <;> omega) | (exact Co.refl _) | (exact CoL.refl _) | (exact CoLL.refl _) | (refine co_own ?_; omega) | (refine co_int ?_; first | omega | (simp_all; done)) | (with_reducible first | refine coL_cons ?_ ?_ | refine coL_consm ?_ ?_) | fail)
     rintro J hJ ⟨j, e1, g1⟩ ⟨h3, h4⟩
     unfold c_jstates_l1
     simp only [zT, puth, Nat.reduceEqDiff, reduceIte, Nat.reduceAdd] at h3 h4 ⊢
     rcases Nat.lt_or_ge j x.cases_.length with hj | hj
     ·have hf := hfit.out x.cases_[j] (List.getElem_mem hj)
      rw [firstF_drop _ hj] at h4
      generalize hcc : x.cases_[j] = c at h4 hf
      obtain ⟨f1, f2, f3⟩ := hf
      have hz := andNot_zero f1.u64 f2.u64
      replace hz := Lib.hid hz
      replace h4 := Lib.hid h4
      have wj : IntKind.i64.wrap ((j : Int) + 1) = (j : Int) + 1 := i64_add_ (by omega) (by omega)
      repeat' (first | (with_reducible first | refine zA ?_ | refine swp_block1 ?_ | refine swp_block2 ?_ | refine zK ?_) | ((with_reducible first | refine swp_reg ?_ | refine swp_regd (by rw [hP]; exact mixed) ?_); (try rw [hP]); simp -implicitDefEqProofs [*]) | ((with_reducible first | refine swp_skip ?_ | refine swp_exit ?_); (try simp -implicitDefEqProofs [*])) | ((with_reducible refine swp_ret ?_); (try simp only [qseq_r, qblock_r, qloop_r])) | ((with_reducible refine swp_cond rfl (fun h => ?_) (fun h => ?_)) <;> have h' := h <;> (try simp at h') <;> (try subst h')) | ((with_reducible refine sopsg_cases (fun h => ?_) (fun h => ?_)) <;> have h' := h <;> (try simp at h') <;> (try subst h') <;> simp -implicitDefEqProofs [*]) | ((with_reducible refine sopsk_rg ?_ ?_); (first | omega | (unfold maxLen; omega)); simp -implicitDefEqProofs [*]) | ((first | refine call_h (call_jfail p _ _ _ _ _ _ _ (by simp)) ⟨rfl, trivial⟩ ⟨rfl, trivial⟩ ?_ | refine call_q (hms.out _) ?_ | refine call_h (call_jto p _ _ _ _ ⟨by omega, by omega⟩ _ _ (by simp)) ⟨rfl, trivial⟩ ⟨rfl, trivial⟩ ?_); simp -implicitDefEqProofs [*]) | (with_reducible first | refine zM hm ?_ | refine zN hm ?_ | refine zO hm ?_ | refine zP hm ?_) | ((with_reducible refine wk_self [] hm ?_ ?_ ?_ ?_) <;> (try simp only [zT, puth, Nat.reduceEqDiff, reduceIte, Nat.reduceAdd])) | (with_reducible first | refine za ?_ ?_ | refine zb ?_ ?_ ?_ ?_ | refine zc ?_ ?_ ?_ ?_ | refine zd ?_ ?_ ?_ ?_ | refine objsM_abs ?_ ?_ | refine subH_cons ?_ ?_) | (with_reducible first | exact slotsM_nil | exact objsM_nil | exact subH_nil | exact coL_nilm | exact Co.refl _ | exact CoL.refl _ | exact CoLL.refl _) | ((with_reducible first | refine zga ?_ | refine zgb ?_); rfl) | ((with_reducible refine zgc ?_); (first | (with_reducible rfl) | rfl | (simp; done))) | ((with_reducible first | refine zgd ?_ | refine zge ?_); (first | omega | (simp; done))) | (refine co_wrap ⟨?_, ?_⟩ ?_ <;> omega) | (exact Co.refl _) | (exact CoL.refl _) | (exact CoLL.refl _) | (refine co_own ?_; omega) | (refine co_int ?_; first | omega | (simp_all; done)) | (with_reducible first | refine coL_cons ?_ ?_ | refine coL_consm ?_ ?_) | ((refine qfor_next hJ (j + 1, ?_, ?_) ?_ ?_ ?_; rotate_left 2; (with_reducible refine wk_self [] hm ?_ ?_ ?_ ?_) <;> (try simp only [zT, puth, Nat.reduceEqDiff, reduceIte, Nat.reduceAdd]))) | fail)
      all_goals (try dsimp only)
      all_goals (refine ⟨by omega, ?_⟩; rw [h4.out]; refine Eq.trans ?_ (case_step e1 g1 _ (leadF p i c.to_) _ (leadF p i x.els) (3000 + (i : Int))); refine congrArg (fun z => orF (e1, g1) (if (if z = 0 then firstF (caseF p i W) (x.cases_.drop (j + 1)) else z) = 0 then leadF p i x.els else (if z = 0 then firstF (caseF p i W) (x.cases_.drop (j + 1)) else z), 3000 + (i : Int))) ?_; have z := hz.out; unfold caseF wideI; simp [*])
     ·obtain rfl : j = x.cases_.length := by omega
      rw [List.drop_length] at h4
      replace h4 := Lib.hid h4
      repeat' (first | (with_reducible first | refine zA ?_ | refine swp_block1 ?_ | refine swp_block2 ?_ | refine zK ?_) | ((with_reducible first | refine swp_reg ?_ | refine swp_regd (by rw [hP]; exact mixed) ?_); (try rw [hP]); simp -implicitDefEqProofs [*]) | ((with_reducible first | refine swp_skip ?_ | refine swp_exit ?_); (try simp -implicitDefEqProofs [*])) | ((with_reducible refine swp_ret ?_); (try simp only [qseq_r, qblock_r, qloop_r])) | ((with_reducible refine swp_cond rfl (fun h => ?_) (fun h => ?_)) <;> have h' := h <;> (try simp at h') <;> (try subst h')) | ((with_reducible refine sopsg_cases (fun h => ?_) (fun h => ?_)) <;> have h' := h <;> (try simp at h') <;> (try subst h') <;> simp -implicitDefEqProofs [*]) | ((with_reducible refine sopsk_rg ?_ ?_); (first | omega | (unfold maxLen; omega)); simp -implicitDefEqProofs [*]) | (refine call_h (call_jto p _ _ _ _ ⟨by omega, by omega⟩ _ _ (by simp)) ⟨rfl, trivial⟩ ⟨rfl, trivial⟩ ?_; simp -implicitDefEqProofs [*]) | (with_reducible first | refine zM hm ?_ | refine zN hm ?_ | refine zO hm ?_ | refine zP hm ?_) | ((with_reducible refine wk_self [] hm ?_ ?_ ?_ ?_) <;> (try simp only [zT, puth, Nat.reduceEqDiff, reduceIte, Nat.reduceAdd])) | (with_reducible first | refine za ?_ ?_ | refine zb ?_ ?_ ?_ ?_ | refine zc ?_ ?_ ?_ ?_ | refine zd ?_ ?_ ?_ ?_ | refine objsM_abs ?_ ?_ | refine subH_cons ?_ ?_) | (with_reducible first | exact slotsM_nil | exact objsM_nil | exact subH_nil | exact coL_nilm | exact Co.refl _ | exact CoL.refl _ | exact CoLL.refl _) | ((with_reducible first | refine zga ?_ | refine zgb ?_); rfl) | ((with_reducible refine zgc ?_); (first | (with_reducible rfl) | rfl | (simp; done))) | ((with_reducible first | refine zgd ?_ | refine zge ?_); (first | omega | (simp; done))) | (refine co_wrap ⟨?_, ?_⟩ ?_ <;> omega) | (exact Co.refl _) | (exact CoL.refl _) | (exact CoLL.refl _) | (refine co_own ?_; omega) | (refine co_int ?_; first | omega | (simp_all; done)) | (with_reducible first | refine coL_cons ?_ ?_ | refine coL_consm ?_ ?_) | ((refine qfor_next hJo (i + 1, ?_, ?_) ?_ ?_ ?_; rotate_left 2; (with_reducible refine wk_self [] hm ?_ ?_ ?_ ?_) <;> (try simp only [zT, puth, Nat.reduceEqDiff, reduceIte, Nat.reduceAdd]))) | fail)
      all_goals (try dsimp only)
      all_goals (refine ⟨by omega, ?_⟩; rw [h2.out]; congr 1; rw [h4.out]; unfold firstF; rw [if_pos rfl]; exact (then_or _ _ _ _).symm)
   ·have ke : (e == 0) = false := by simpa using he
    replace h2 := Lib.hid h2
    repeat' (first | (with_reducible first | refine zA ?_ | refine swp_block1 ?_ | refine swp_block2 ?_ | refine zK ?_) | ((with_reducible first | refine swp_reg ?_ | refine swp_regd (by rw [hP]; exact mixed) ?_); (try rw [hP]); simp -implicitDefEqProofs [*]) | ((with_reducible first | refine swp_skip ?_ | refine swp_exit ?_); (try simp -implicitDefEqProofs [*])) | ((with_reducible refine swp_ret ?_); (try simp only [qseq_r, qblock_r, qloop_r])) | ((with_reducible refine swp_cond rfl (fun h => ?_) (fun h => ?_)) <;> have h' := h <;> (try simp at h') <;> (try subst h')) | ((with_reducible refine sopsg_cases (fun h => ?_) (fun h => ?_)) <;> have h' := h <;> (try simp at h') <;> (try subst h') <;> simp -implicitDefEqProofs [*]) | ((with_reducible refine sopsk_rg ?_ ?_); (first | omega | (unfold maxLen; omega)); simp -implicitDefEqProofs [*]) | (with_reducible first | refine zM hm ?_ | refine zN hm ?_ | refine zO hm ?_ | refine zP hm ?_) | (refine fin_voidn hm rfl ?_ (fun σ => rfl)) | fail)
    rw [h2.out, orF_pos he]
  ·obtain rfl : i = p.states.length := by omega
   rw [List.drop_length] at h2
   replace h2 := Lib.hid h2
   repeat' (first | (with_reducible first | refine zA ?_ | refine swp_block1 ?_ | refine swp_block2 ?_ | refine zK ?_) | ((with_reducible first | refine swp_reg ?_ | refine swp_regd (by rw [hP]; exact mixed) ?_); (try rw [hP]); simp -implicitDefEqProofs [*]) | ((with_reducible first | refine swp_skip ?_ | refine swp_exit ?_); (try simp -implicitDefEqProofs [*])) | ((with_reducible refine swp_ret ?_); (try simp only [qseq_r, qblock_r, qloop_r])) | ((with_reducible refine swp_cond rfl (fun h => ?_) (fun h => ?_)) <;> have h' := h <;> (try simp at h') <;> (try subst h')) | ((with_reducible refine sopsg_cases (fun h => ?_) (fun h => ?_)) <;> have h' := h <;> (try simp at h') <;> (try subst h') <;> simp -implicitDefEqProofs [*]) | ((with_reducible refine sopsk_rg ?_ ?_); (first | omega | (unfold maxLen; omega)); simp -implicitDefEqProofs [*]) | (with_reducible first | refine zM hm ?_ | refine zN hm ?_ | refine zO hm ?_ | refine zP hm ?_) | (refine fin_voidn hm rfl ?_ (fun σ => rfl)) | fail)
   rw [h2.out, orF_none _ rfl]
 replace main := Lib.hid main
 by_cases h0 : p.states.length = 0
 ·repeat' (first | (with_reducible first | refine zA ?_ | refine swp_block1 ?_ | refine swp_block2 ?_ | refine zK ?_) | ((with_reducible first | refine swp_reg ?_ | refine swp_regd (by rw [hP]; exact mixed) ?_); (try rw [hP]); simp -implicitDefEqProofs [*]) | ((with_reducible first | refine swp_skip ?_ | refine swp_exit ?_); (try simp -implicitDefEqProofs [*])) | ((with_reducible refine swp_ret ?_); (try simp only [qseq_r, qblock_r, qloop_r])) | ((with_reducible refine swp_cond rfl (fun h => ?_) (fun h => ?_)) <;> have h' := h <;> (try simp at h') <;> (try subst h')) | ((with_reducible refine sopsg_cases (fun h => ?_) (fun h => ?_)) <;> have h' := h <;> (try simp at h') <;> (try subst h') <;> simp -implicitDefEqProofs [*]) | ((with_reducible refine sopsk_rg ?_ ?_); (first | omega | (unfold maxLen; omega)); simp -implicitDefEqProofs [*]) | (refine call_h (call_jfail p _ _ _ _ _ _ _ (by simp)) ⟨rfl, trivial⟩ ⟨rfl, trivial⟩ ?_; simp -implicitDefEqProofs [*]) | (with_reducible first | refine zM hm ?_ | refine zN hm ?_ | refine zO hm ?_ | refine zP hm ?_) | fail)
  refine swp_wk ?_ (main.out (failF a b true 2 (-3)).1 (failF a b true 2 (-3)).2 ?_)
  ·repeat' (first | ((with_reducible refine wk_self [] hm ?_ ?_ ?_ ?_) <;> (try simp only [zT, puth, Nat.reduceEqDiff, reduceIte, Nat.reduceAdd])) | (with_reducible first | refine za ?_ ?_ | refine zb ?_ ?_ ?_ ?_ | refine zc ?_ ?_ ?_ ?_ | refine zd ?_ ?_ ?_ ?_ | refine objsM_abs ?_ ?_ | refine subH_cons ?_ ?_) | (with_reducible first | exact slotsM_nil | exact objsM_nil | exact subH_nil | exact coL_nilm | exact Co.refl _ | exact CoL.refl _ | exact CoLL.refl _) | ((with_reducible first | refine zga ?_ | refine zgb ?_); rfl) | ((with_reducible refine zgc ?_); (first | (with_reducible rfl) | rfl | (simp; done))) | ((with_reducible first | refine zgd ?_ | refine zge ?_); (first | omega | (simp; done))) | (refine co_wrap ⟨?_, ?_⟩ ?_ <;> omega) | (exact Co.refl _) | (exact CoL.refl _) | (exact CoLL.refl _) | (refine co_own ?_; omega) | (refine co_int ?_; first | omega | (simp_all; done)) | (with_reducible first | refine coL_cons ?_ ?_ | refine coL_consm ?_ ?_) | fail)
  ·have q := hF.out
   rw [show decide ((p.states.length : Int) < 1) = true by rw [h0]; rfl, Bool.true_or] at q
   exact q
 ·have k0 : ((p.states.length : Int) == 0) = false := by simpa using h0
  have k1 : decide ((p.states.length : Int) < 1) = false := by simp; omega
  replace h0 := Lib.hid h0
  repeat' (first | (with_reducible first | refine zA ?_ | refine swp_block1 ?_ | refine swp_block2 ?_ | refine zK ?_) | ((with_reducible first | refine swp_reg ?_ | refine swp_regd (by rw [hP]; exact mixed) ?_); (try rw [hP]); simp -implicitDefEqProofs [*]) | ((with_reducible first | refine swp_skip ?_ | refine swp_exit ?_); (try simp -implicitDefEqProofs [*])) | ((with_reducible refine swp_ret ?_); (try simp only [qseq_r, qblock_r, qloop_r])) | ((with_reducible refine swp_cond rfl (fun h => ?_) (fun h => ?_)) <;> have h' := h <;> (try simp at h') <;> (try subst h')) | ((with_reducible refine sopsg_cases (fun h => ?_) (fun h => ?_)) <;> have h' := h <;> (try simp at h') <;> (try subst h') <;> simp -implicitDefEqProofs [*]) | ((with_reducible refine sopsk_rg ?_ ?_); (first | omega | (unfold maxLen; omega)); simp -implicitDefEqProofs [*]) | (refine call_h (call_jfail p _ _ _ _ _ _ _ (by simp)) ⟨rfl, trivial⟩ ⟨rfl, trivial⟩ ?_; simp -implicitDefEqProofs [*]) | (with_reducible first | refine zM hm ?_ | refine zN hm ?_ | refine zO hm ?_ | refine zP hm ?_) | fail)
  refine swp_wk ?_ (main.out (failF a b (decide (8 < (p.states.length : Int))) 2 (-3)).1 (failF a b (decide (8 < (p.states.length : Int))) 2 (-3)).2 ?_)
  ·repeat' (first | ((with_reducible refine wk_self [] hm ?_ ?_ ?_ ?_) <;> (try simp only [zT, puth, Nat.reduceEqDiff, reduceIte, Nat.reduceAdd])) | (with_reducible first | refine za ?_ ?_ | refine zb ?_ ?_ ?_ ?_ | refine zc ?_ ?_ ?_ ?_ | refine zd ?_ ?_ ?_ ?_ | refine objsM_abs ?_ ?_ | refine subH_cons ?_ ?_) | (with_reducible first | exact slotsM_nil | exact objsM_nil | exact subH_nil | exact coL_nilm | exact Co.refl _ | exact CoL.refl _ | exact CoLL.refl _) | ((with_reducible first | refine zga ?_ | refine zgb ?_); rfl) | ((with_reducible refine zgc ?_); (first | (with_reducible rfl) | rfl | (simp; done))) | ((with_reducible first | refine zgd ?_ | refine zge ?_); (first | omega | (simp; done))) | (refine co_wrap ⟨?_, ?_⟩ ?_ <;> omega) | (exact Co.refl _) | (exact CoL.refl _) | (exact CoLL.refl _) | (refine co_own ?_; omega) | (refine co_int ?_; first | omega | (simp_all; done)) | (with_reducible first | refine coL_cons ?_ ?_ | refine coL_consm ?_ ?_) | fail)
  ·have q := hF.out
   rw [k1, Bool.false_or] at q
   exact q
end Go.Proofs.Ytnfjldobjgdiaaa
namespace Go.Proofs.Ytnfjldobjgdiaaa
set_option linter.all false
open Go.RowKit
attribute [local simp] sops_nil sops_run sopsk_some sops_call sops_guard sopsg_yes sopsg_tf sopsg_ft sopsg_undef rg_true SOp.run SX.ev putd puts argS upds SOp.touch SSt.keep SSt.skip gets geth puth delh idOf SV.cells? setL fillS fillR sbin eq0 eq1 eqL rowOf qseq_n qseq_e qseq_r qblock_n qblock_r qblock_e qloop_e qloop_r take_map_len FrzOk pureV_int pureV_bool pureV_str pureV_nil pureV_nilsl pureV_view pureV_cp pureL_nil_ pureL_cons_ pureO_row pureO_cells frzS frzH frz frz1 frz0 SlotsM ObjsM ObjM rn ren ren1 ren0 co_self co_int co_own co_view co_nilsl co_agg co_tup CoL coll_self mergeH dels adds idsH okNames
attribute [local simp] headc refc pushc casec statec opc actc tabc nodec planc nums jc
def firstIdx (v : Int) : List Int → Nat → Int
 | [], _ => -1
 | x :: l, i => if v = x then (i : Int) else firstIdx v l (i + 1)
theorem firstIdx_drop (v : Int) {l : List Int} {i : Nat} (hi : i < l.length) : firstIdx v (l.drop i) i = if v = l[i] then (i : Int) else firstIdx v (l.drop (i + 1)) (i + 1) := by
 rw [List.drop_eq_getElem_cons hi]; rfl
theorem firstIdx_in (v : Int) : ∀ (l : List Int) (i : Nat), decide (0 ≤ firstIdx v l i) = l.contains v
 | [], i => rfl
 | x :: l, i => by
  unfold firstIdx
  rw [List.contains_cons]
  by_cases h : v = x
  ·subst h; simp
  ·rw [if_neg h, firstIdx_in v l (i + 1)]; simp [h]
theorem index_s (l : List Int) (v : Int) (hl : l.length ≤ 1000000) : SCalls Try.prog 68 [nums .i64 l, .int .i64 v] [] 0 (.int .i64 (firstIdx v l 0)) [] := by
 refine scalls_of (N := 19) Try.func68 rfl rfl (by kernel_rfl) comp_c_index (by simp) (by repeat' (first | exact trivial | refine And.intro ?_ ?_ | rfl | decide | exact PureR.ren _)) (by repeat' (first | exact trivial | refine And.intro ?_ ?_ | rfl | decide | exact PureR.ren _)) ?_
 rintro X hP hN hm
 have hF : firstIdx v l 0 = firstIdx v (l.drop 0) 0 := rfl
 generalize firstIdx v l 0 = F at hF
 replace hF := Lib.hid hF
 unfold c_index
 repeat' (first | (with_reducible first | refine zA ?_ | refine swp_block1 ?_ | refine swp_block2 ?_ | refine zK ?_) | ((with_reducible first | refine swp_reg ?_ | refine swp_regd (by rw [hP]; exact mixed) ?_); (try rw [hP]); simp -implicitDefEqProofs [*]) | ((with_reducible first | refine swp_skip ?_ | refine swp_exit ?_); (try simp -implicitDefEqProofs [*])) | ((with_reducible refine swp_ret ?_); (try simp only [qseq_r, qblock_r, qloop_r])) | ((with_reducible refine swp_cond rfl (fun h => ?_) (fun h => ?_)) <;> have h' := h <;> (try simp at h') <;> (try subst h')) | ((with_reducible refine sopsg_cases (fun h => ?_) (fun h => ?_)) <;> have h' := h <;> (try simp at h') <;> (try subst h') <;> simp -implicitDefEqProofs [*]) | ((with_reducible refine sopsk_rg ?_ ?_); (first | omega | (unfold maxLen; omega)); simp -implicitDefEqProofs [*]) | (with_reducible first | refine zM hm ?_ | refine zN hm ?_ | refine zO hm ?_ | refine zP hm ?_) | fail)
 refine swp_block (swp_for (fun s (i : Nat) => s.turn [(8, .int .i64 i)] []) (fun i => i ≤ l.length ∧ F = firstIdx v (l.drop i) i) (fun i => l.length - i) 0 ?_ ⟨by simp, hF.out⟩ ?_)
 ·repeat' (first | ((with_reducible refine wk_self [] hm ?_ ?_ ?_ ?_) <;> (try simp only [zT, puth, Nat.reduceEqDiff, reduceIte, Nat.reduceAdd])) | (with_reducible first | refine za ?_ ?_ | refine zb ?_ ?_ ?_ ?_ | refine zc ?_ ?_ ?_ ?_ | refine zd ?_ ?_ ?_ ?_ | refine objsM_abs ?_ ?_ | refine subH_cons ?_ ?_) | (with_reducible first | exact slotsM_nil | exact objsM_nil | exact subH_nil | exact coL_nilm | exact Co.refl _ | exact CoL.refl _ | exact CoLL.refl _) | ((with_reducible first | refine zga ?_ | refine zgb ?_); rfl) | ((with_reducible refine zgc ?_); (first | (with_reducible rfl) | rfl | (simp; done))) | ((with_reducible first | refine zgd ?_ | refine zge ?_); (first | omega | (simp; done))) | (refine co_wrap ⟨?_, ?_⟩ ?_ <;> omega) | (exact Co.refl _) | (exact CoL.refl _) | (exact CoLL.refl _) | (refine co_own ?_; omega) | (refine co_int ?_; first | omega | (simp_all; done)) | (with_reducible first | refine coL_cons ?_ ?_ | refine coL_consm ?_ ?_) | fail)
 rintro J hJ i ⟨h1, h2⟩
 unfold c_index_l1
 simp only [zT, puth, Nat.reduceEqDiff, reduceIte, Nat.reduceAdd] at h1 h2 ⊢
 rcases Nat.lt_or_ge i l.length with hi | hi
 ·rw [firstIdx_drop v hi] at h2
  generalize hxx : l[i] = x at h2
  have wi : IntKind.i64.wrap ((i : Int) + 1) = (i : Int) + 1 := i64_add_ (by omega) (by omega)
  replace h2 := Lib.hid h2
  cases hv : (v == x)
  ·have hv' : ¬ v = x := by simpa using hv
   repeat' (first | (with_reducible first | refine zA ?_ | refine swp_block1 ?_ | refine swp_block2 ?_ | refine zK ?_) | ((with_reducible first | refine swp_reg ?_ | refine swp_regd (by rw [hP]; exact mixed) ?_); (try rw [hP]); simp -implicitDefEqProofs [*]) | ((with_reducible first | refine swp_skip ?_ | refine swp_exit ?_); (try simp -implicitDefEqProofs [*])) | ((with_reducible refine swp_ret ?_); (try simp only [qseq_r, qblock_r, qloop_r])) | ((with_reducible refine swp_cond rfl (fun h => ?_) (fun h => ?_)) <;> have h' := h <;> (try simp at h') <;> (try subst h')) | ((with_reducible refine sopsg_cases (fun h => ?_) (fun h => ?_)) <;> have h' := h <;> (try simp at h') <;> (try subst h') <;> simp -implicitDefEqProofs [*]) | ((with_reducible refine sopsk_rg ?_ ?_); (first | omega | (unfold maxLen; omega)); simp -implicitDefEqProofs [*]) | (with_reducible first | refine zM hm ?_ | refine zN hm ?_ | refine zO hm ?_ | refine zP hm ?_) | ((with_reducible refine wk_self [] hm ?_ ?_ ?_ ?_) <;> (try simp only [zT, puth, Nat.reduceEqDiff, reduceIte, Nat.reduceAdd])) | (with_reducible first | refine za ?_ ?_ | refine zb ?_ ?_ ?_ ?_ | refine zc ?_ ?_ ?_ ?_ | refine zd ?_ ?_ ?_ ?_ | refine objsM_abs ?_ ?_ | refine subH_cons ?_ ?_) | (with_reducible first | exact slotsM_nil | exact objsM_nil | exact subH_nil | exact coL_nilm | exact Co.refl _ | exact CoL.refl _ | exact CoLL.refl _) | ((with_reducible first | refine zga ?_ | refine zgb ?_); rfl) | ((with_reducible refine zgc ?_); (first | (with_reducible rfl) | rfl | (simp; done))) | ((with_reducible first | refine zgd ?_ | refine zge ?_); (first | omega | (simp; done))) | (refine co_wrap ⟨?_, ?_⟩ ?_ <;> omega) | (exact Co.refl _) | (exact CoL.refl _) | (exact CoLL.refl _) | (refine co_own ?_; omega) | (refine co_int ?_; first | omega | (simp_all; done)) | (with_reducible first | refine coL_cons ?_ ?_ | refine coL_consm ?_ ?_) | ((refine qfor_next hJ (i + 1) ?_ ?_ ?_; (with_reducible refine wk_self [] hm ?_ ?_ ?_ ?_) <;> (try simp only [zT, puth, Nat.reduceEqDiff, reduceIte, Nat.reduceAdd]))) | fail)
   exact ⟨by omega, by rw [h2.out, if_neg hv']⟩
  ·have hv' : v = x := by simpa using hv
   replace hv' := Lib.hid hv'
   repeat' (first | (with_reducible first | refine zA ?_ | refine swp_block1 ?_ | refine swp_block2 ?_ | refine zK ?_) | ((with_reducible first | refine swp_reg ?_ | refine swp_regd (by rw [hP]; exact mixed) ?_); (try rw [hP]); simp -implicitDefEqProofs [*]) | ((with_reducible first | refine swp_skip ?_ | refine swp_exit ?_); (try simp -implicitDefEqProofs [*])) | ((with_reducible refine swp_ret ?_); (try simp only [qseq_r, qblock_r, qloop_r])) | ((with_reducible refine swp_cond rfl (fun h => ?_) (fun h => ?_)) <;> have h' := h <;> (try simp at h') <;> (try subst h')) | ((with_reducible refine sopsg_cases (fun h => ?_) (fun h => ?_)) <;> have h' := h <;> (try simp at h') <;> (try subst h') <;> simp -implicitDefEqProofs [*]) | ((with_reducible refine sopsk_rg ?_ ?_); (first | omega | (unfold maxLen; omega)); simp -implicitDefEqProofs [*]) | (with_reducible first | refine zM hm ?_ | refine zN hm ?_ | refine zO hm ?_ | refine zP hm ?_) | fail)
   rw [h2.out, if_pos hv'.out]
 ·obtain rfl : i = l.length := by omega
  rw [List.drop_length] at h2
  replace h2 := Lib.hid h2
  repeat' (first | (with_reducible first | refine zA ?_ | refine swp_block1 ?_ | refine swp_block2 ?_ | refine zK ?_) | ((with_reducible first | refine swp_reg ?_ | refine swp_regd (by rw [hP]; exact mixed) ?_); (try rw [hP]); simp -implicitDefEqProofs [*]) | ((with_reducible first | refine swp_skip ?_ | refine swp_exit ?_); (try simp -implicitDefEqProofs [*])) | ((with_reducible refine swp_ret ?_); (try simp only [qseq_r, qblock_r, qloop_r])) | ((with_reducible refine swp_cond rfl (fun h => ?_) (fun h => ?_)) <;> have h' := h <;> (try simp at h') <;> (try subst h')) | ((with_reducible refine sopsg_cases (fun h => ?_) (fun h => ?_)) <;> have h' := h <;> (try simp at h') <;> (try subst h') <;> simp -implicitDefEqProofs [*]) | ((with_reducible refine sopsk_rg ?_ ?_); (first | omega | (unfold maxLen; omega)); simp -implicitDefEqProofs [*]) | (with_reducible first | refine zM hm ?_ | refine zN hm ?_ | refine zO hm ?_ | refine zP hm ?_) | fail)
  rw [h2.out]; rfl
theorem contains_s (l : List Int) (v : Int) (hl : l.length ≤ 1000000) (q : Nat) : SCalls Try.prog 38 [nums .i64 l, .int .i64 v] [] q (.bool (l.contains v)) [] := by
 refine scalls_q ?_ (fun _ => rfl) (fun _ => rfl) rfl q
 refine scalls_of (N := 9) Try.func38 rfl rfl (by kernel_rfl) comp_c_contains (by simp) (by repeat' (first | exact trivial | refine And.intro ?_ ?_ | rfl | decide | exact PureR.ren _)) (by repeat' (first | exact trivial | refine And.intro ?_ ?_ | rfl | decide | exact PureR.ren _)) ?_
 rintro X hP hN hm
 have hi := firstIdx_in v l 0
 have hc := fun q => scalls_q (index_s l v hl) (fun _ => rfl) (fun _ => rfl) rfl q
 generalize firstIdx v l 0 = I at hi hc
 unfold c_contains
 repeat' (first | (with_reducible first | refine zA ?_ | refine swp_block1 ?_ | refine swp_block2 ?_ | refine zK ?_) | ((with_reducible first | refine swp_reg ?_ | refine swp_regd (by rw [hP]; exact mixed) ?_); (try rw [hP]); simp -implicitDefEqProofs [*]) | ((with_reducible first | refine swp_skip ?_ | refine swp_exit ?_); (try simp -implicitDefEqProofs [*])) | ((with_reducible refine swp_ret ?_); (try simp only [qseq_r, qblock_r, qloop_r])) | ((with_reducible refine swp_cond rfl (fun h => ?_) (fun h => ?_)) <;> have h' := h <;> (try simp at h') <;> (try subst h')) | ((with_reducible refine sopsg_cases (fun h => ?_) (fun h => ?_)) <;> have h' := h <;> (try simp at h') <;> (try subst h') <;> simp -implicitDefEqProofs [*]) | ((with_reducible refine sopsk_rg ?_ ?_); (first | omega | (unfold maxLen; omega)); simp -implicitDefEqProofs [*]) | (refine call_q (hc _) ?_; simp -implicitDefEqProofs [*]) | (with_reducible first | refine zM hm ?_ | refine zN hm ?_ | refine zO hm ?_ | refine zP hm ?_) | fail)
 all_goals (exact decide_eq_decide.2 Iff.rfl)
def wrow (p : PlanD) (l : List RefD) (i : Nat) : List (List SV) := (l.take i).map fun r => [.int .i64 (widthOf p r [])]
instance (p : PlanD) (l : List RefD) (i : Nat) : PureR (wrow p l i) := ⟨fun σ => by unfold wrow; rw [List.map_map]; rfl, fun x hx => by obtain ⟨b, _, rfl⟩ := List.mem_map.1 hx; rfl, fun x hx => by obtain ⟨b, _, rfl⟩ := List.mem_map.1 hx; exact pureL_ints _ rfl⟩
theorem wrow_len (p : PlanD) {l : List RefD} {i : Nat} (hi : i ≤ l.length) : (wrow p l i).length = i := by unfold wrow; simp; omega
theorem wrow_succ (p : PlanD) {l : List RefD} {i : Nat} (hi : i < l.length) : wrow p l i ++ [[.int .i64 (widthOf p l[i] [])]] = wrow p l (i + 1) := by
 unfold wrow; rw [List.take_succ_eq_append_getElem hi, List.map_append]; rfl
theorem wrow_all (p : PlanD) (t : TabD) : SV.view 1 (wrow p t.keys t.keys.length) = nums .i64 (widthsOf p t) := by
 unfold wrow nums widthsOf; rw [List.take_length, List.map_map]; rfl
theorem widths_s (p : PlanD) (t : TabD) (hl : t.keys.length ≤ 1000000) : SCalls Try.prog 12 [.agg (planc p), .agg (tabc t)] [] 0 (nums .i64 (widthsOf p t)) [] := by
 rw [← wrow_all]
 refine scalls_of (N := 23) Try.func12 rfl rfl (by kernel_rfl) comp_c_widths (by simp) (by repeat' (first | exact trivial | refine And.intro ?_ ?_ | rfl | decide | exact PureR.ren _)) (by repeat' (first | exact trivial | refine And.intro ?_ ?_ | rfl | decide | exact PureR.ren _)) ?_
 rintro X hP hN hm
 unfold c_widths
 repeat' (first | (with_reducible first | refine zA ?_ | refine swp_block1 ?_ | refine swp_block2 ?_ | refine zK ?_) | ((with_reducible first | refine swp_reg ?_ | refine swp_regd (by rw [hP]; exact mixed) ?_); (try rw [hP]); simp -implicitDefEqProofs [*]) | ((with_reducible first | refine swp_skip ?_ | refine swp_exit ?_); (try simp -implicitDefEqProofs [*])) | ((with_reducible refine swp_ret ?_); (try simp only [qseq_r, qblock_r, qloop_r])) | ((with_reducible refine swp_cond rfl (fun h => ?_) (fun h => ?_)) <;> have h' := h <;> (try simp at h') <;> (try subst h')) | ((with_reducible refine sopsg_cases (fun h => ?_) (fun h => ?_)) <;> have h' := h <;> (try simp at h') <;> (try subst h') <;> simp -implicitDefEqProofs [*]) | ((with_reducible refine sopsk_rg ?_ ?_); (first | omega | (unfold maxLen; omega)); simp -implicitDefEqProofs [*]) | (with_reducible first | refine zM hm ?_ | refine zN hm ?_ | refine zO hm ?_ | refine zP hm ?_) | fail)
 refine swp_wk (wk_adoptS 5 3 1 rfl) ?_
 simp only [zT, puth, Nat.reduceEqDiff, reduceIte, Nat.reduceAdd]
 refine swp_block (swp_for (fun s (i : Nat) => s.turn [(5, .own 8 i), (11, .int .i64 i)] [(8, .row 3 1 (wrow p t.keys i))]) (fun i => i ≤ t.keys.length) (fun i => t.keys.length - i) 0 ?_ (by simp) ?_)
 ·repeat' (first | ((with_reducible refine wk_self [] hm ?_ ?_ ?_ ?_) <;> (try simp only [zT, puth, Nat.reduceEqDiff, reduceIte, Nat.reduceAdd])) | (with_reducible first | refine za ?_ ?_ | refine zb ?_ ?_ ?_ ?_ | refine zc ?_ ?_ ?_ ?_ | refine zd ?_ ?_ ?_ ?_ | refine objsM_abs ?_ ?_ | refine subH_cons ?_ ?_) | (with_reducible first | exact slotsM_nil | exact objsM_nil | exact subH_nil | exact coL_nilm | exact Co.refl _ | exact CoL.refl _ | exact CoLL.refl _) | ((with_reducible first | refine zga ?_ | refine zgb ?_); rfl) | ((with_reducible refine zgc ?_); (first | (with_reducible rfl) | rfl | (simp; done))) | ((with_reducible first | refine zgd ?_ | refine zge ?_); (first | omega | (simp; done))) | (refine co_wrap ⟨?_, ?_⟩ ?_ <;> omega) | (exact Co.refl _) | (exact CoL.refl _) | (exact CoLL.refl _) | (refine co_own ?_; omega) | (refine co_int ?_; first | omega | (simp_all; done)) | (with_reducible first | refine coL_cons ?_ ?_ | refine coL_consm ?_ ?_) | fail)
 rintro J hJ i hi
 unfold c_widths_l1
 simp only [zT, puth, Nat.reduceEqDiff, reduceIte, Nat.reduceAdd]
 have hlen := wrow_len p hi
 have hb1 : i + 1 ≤ maxLen := by unfold maxLen; omega
 rcases Nat.lt_or_ge i t.keys.length with h | h
 ·have wi : IntKind.i64.wrap ((i : Int) + 1) = (i : Int) + 1 := i64_add_ (by omega) (by omega)
  have hrow := wrow_succ p h
  generalize hr : t.keys[i] = r at hrow
  repeat' (first | (with_reducible first | refine zA ?_ | refine swp_block1 ?_ | refine swp_block2 ?_ | refine zK ?_) | ((with_reducible first | refine swp_reg ?_ | refine swp_regd (by rw [hP]; exact mixed) ?_); (try rw [hP]); simp -implicitDefEqProofs [*]) | ((with_reducible first | refine swp_skip ?_ | refine swp_exit ?_); (try simp -implicitDefEqProofs [*])) | ((with_reducible refine swp_ret ?_); (try simp only [qseq_r, qblock_r, qloop_r])) | ((with_reducible refine swp_cond rfl (fun h => ?_) (fun h => ?_)) <;> have h' := h <;> (try simp at h') <;> (try subst h')) | ((with_reducible refine sopsg_cases (fun h => ?_) (fun h => ?_)) <;> have h' := h <;> (try simp at h') <;> (try subst h') <;> simp -implicitDefEqProofs [*]) | ((with_reducible refine sopsk_rg ?_ ?_); (first | omega | (unfold maxLen; omega)); simp -implicitDefEqProofs [*]) | (refine call_q (call_width0 p r _) ?_; simp -implicitDefEqProofs [*]) | (with_reducible first | refine zM hm ?_ | refine zN hm ?_ | refine zO hm ?_ | refine zP hm ?_) | ((with_reducible refine wk_self [] hm ?_ ?_ ?_ ?_) <;> (try simp only [zT, puth, Nat.reduceEqDiff, reduceIte, Nat.reduceAdd])) | (with_reducible first | refine za ?_ ?_ | refine zb ?_ ?_ ?_ ?_ | refine zc ?_ ?_ ?_ ?_ | refine zd ?_ ?_ ?_ ?_ | refine objsM_abs ?_ ?_ | refine subH_cons ?_ ?_) | (with_reducible first | exact slotsM_nil | exact objsM_nil | exact subH_nil | exact coL_nilm | exact Co.refl _ | exact CoL.refl _ | exact CoLL.refl _) | ((with_reducible first | refine zga ?_ | refine zgb ?_); rfl) | ((with_reducible refine zgc ?_); (first | (with_reducible rfl) | rfl | (simp; done))) | ((with_reducible first | refine zgd ?_ | refine zge ?_); (first | omega | (simp; done))) | (refine co_wrap ⟨?_, ?_⟩ ?_ <;> omega) | (exact Co.refl _) | (exact CoL.refl _) | (exact CoLL.refl _) | (refine co_own ?_; omega) | (refine co_int ?_; first | omega | (simp_all; done)) | (with_reducible first | refine coL_cons ?_ ?_ | refine coL_consm ?_ ?_) | ((refine qfor_next hJ (i + 1) ?_ ?_ ?_; (with_reducible refine wk_self [(8, ?_)] hm ?_ ?_ ?_ ?_) <;> (try simp only [zT, puth, Nat.reduceEqDiff, reduceIte, Nat.reduceAdd]))) | fail)
 ·obtain rfl : i = t.keys.length := by omega
  repeat' (first | ((with_reducible refine swp_stop (c := .seq (.reg false c_widths_r8 [4]) .ret) ?_)) | (with_reducible first | refine zA ?_ | refine swp_block1 ?_ | refine swp_block2 ?_ | refine zK ?_) | ((with_reducible first | refine swp_reg ?_ | refine swp_regd (by rw [hP]; exact mixed) ?_); (try rw [hP]); simp -implicitDefEqProofs [*]) | ((with_reducible first | refine swp_skip ?_ | refine swp_exit ?_); (try simp -implicitDefEqProofs [*])) | ((with_reducible refine swp_ret ?_); (try simp only [qseq_r, qblock_r, qloop_r])) | ((with_reducible refine swp_cond rfl (fun h => ?_) (fun h => ?_)) <;> have h' := h <;> (try simp at h') <;> (try subst h')) | ((with_reducible refine sopsg_cases (fun h => ?_) (fun h => ?_)) <;> have h' := h <;> (try simp at h') <;> (try subst h') <;> simp -implicitDefEqProofs [*]) | ((with_reducible refine sopsk_rg ?_ ?_); (first | omega | (unfold maxLen; omega)); simp -implicitDefEqProofs [*]) | (with_reducible first | refine zM hm ?_ | refine zN hm ?_ | refine zO hm ?_ | refine zP hm ?_) | fail)
  constructor
  refine swp_frz [8] ?_ ?_
  ·simp only [FrzOk, geth, Nat.reduceEqDiff, reduceIte, pureR_O, and_true]
  have htk : (wrow p t.keys t.keys.length).take t.keys.length = wrow p t.keys t.keys.length := List.take_of_length_le (by omega)
  simp -implicitDefEqProofs [htk, hlen, Nat.le_refl]
  repeat' (first | (with_reducible first | refine zA ?_ | refine swp_block1 ?_ | refine swp_block2 ?_ | refine zK ?_) | ((with_reducible first | refine swp_reg ?_ | refine swp_regd (by rw [hP]; exact mixed) ?_); (try rw [hP]); simp -implicitDefEqProofs [*]) | ((with_reducible first | refine swp_skip ?_ | refine swp_exit ?_); (try simp -implicitDefEqProofs [*])) | ((with_reducible refine swp_ret ?_); (try simp only [qseq_r, qblock_r, qloop_r])) | ((with_reducible refine swp_cond rfl (fun h => ?_) (fun h => ?_)) <;> have h' := h <;> (try simp at h') <;> (try subst h')) | ((with_reducible refine sopsg_cases (fun h => ?_) (fun h => ?_)) <;> have h' := h <;> (try simp at h') <;> (try subst h') <;> simp -implicitDefEqProofs [*]) | ((with_reducible refine sopsk_rg ?_ ?_); (first | omega | (unfold maxLen; omega)); simp -implicitDefEqProofs [*]) | (with_reducible first | refine zM hm ?_ | refine zN hm ?_ | refine zO hm ?_ | refine zP hm ?_) | (refine fin_tmp hm ?_ (noN_view _ _)) | fail)
  rfl
end Go.Proofs.Ytnfjldobjgdiaaa
namespace Go.Proofs.Ytnfjldobjgdiaaa
set_option linter.all false
open Go.RowKit
attribute [local simp] sops_nil sops_run sopsk_some sops_call sops_guard sopsg_yes sopsg_tf sopsg_ft sopsg_undef rg_true SOp.run SX.ev putd puts argS upds SOp.touch SSt.keep SSt.skip gets geth puth delh idOf SV.cells? setL fillS fillR sbin eq0 eq1 eqL rowOf qseq_n qseq_e qseq_r qblock_n qblock_r qblock_e qloop_e qloop_r take_map_len FrzOk pureV_int pureV_bool pureV_str pureV_nil pureV_nilsl pureV_view pureV_cp pureL_nil_ pureL_cons_ pureO_row pureO_cells frzS frzH frz frz1 frz0 SlotsM ObjsM ObjM rn ren ren1 ren0 co_self co_int co_own co_view co_nilsl co_agg co_tup CoL coll_self mergeH dels adds idsH okNames
attribute [local simp] headc refc pushc casec statec opc actc tabc nodec planc nums
theorem rdeed_s (p : PlanD) (o : OpD) (args : List Int) (hl : o.e.length ≤ 1000000) (q : Nat) : SCalls Try.prog 71 [.agg (planc p), .agg (opc o), nums .i64 args] [] q (.int .i64 (deedF p o args)) [] := by
 refine scalls_q ?_ (fun _ => rfl) (fun _ => rfl) rfl q
 refine scalls_of (N := 52) Try.func71 rfl rfl (by kernel_rfl) comp_c_rdeed (by simp) (by repeat' (first | exact trivial | refine And.intro ?_ ?_ | rfl | decide | exact PureR.ren _)) (by repeat' (first | exact trivial | refine And.intro ?_ ?_ | rfl | decide | exact PureR.ren _)) ?_
 rintro X hP hN hm
 unfold c_rdeed
 have c1 := fun q => rmay_s p o.r q
 have c2 := fun q => rexpr_s p o.e args hl q
 have c3 := fun q => rhead_s p o.head q
 have hD : deedF p o args = if o.kind = 1 then (if mayBe p o.r then exprF p o.e args else 1) else if o.kind = 2 then (if isHead p o.head then 0 else 1) else if o.kind = 3 then (if isHead p o.head then 0 else 1)
  else if o.kind = 4 then 0 else if o.kind = 5 then exprF p o.e args else if o.kind = 6 then (if mayBe p o.r && isHead p o.head then 0 else 1) else 5 := by
  unfold deedF
  by_cases k2 : o.kind = 2
  ·simp [k2]
  by_cases k3 : o.kind = 3
  ·simp [k3]
  simp [k2, k3]
 generalize deedF p o args = F at hD
 generalize exprF p o.e args = E at hD c2
 generalize mayBe p o.r = M at hD c1
 generalize isHead p o.head = H at hD c3
 replace hD := Lib.hid hD
 replace c1 := Lib.hid c1
 replace c2 := Lib.hid c2
 replace c3 := Lib.hid c3
 repeat' (first | (with_reducible first | refine zA ?_ | refine swp_block1 ?_ | refine swp_block2 ?_ | refine zK ?_) | ((with_reducible first | refine swp_reg ?_ | refine swp_regd (by rw [hP]; exact mixed) ?_); (try rw [hP]); simp -implicitDefEqProofs [pushes, *]) | ((with_reducible first | refine swp_skip ?_ | refine swp_exit ?_); (try simp -implicitDefEqProofs [pushes, *])) | ((with_reducible refine swp_ret ?_); (try simp only [qseq_r, qblock_r, qloop_r])) | ((with_reducible refine swp_cond rfl (fun h => ?_) (fun h => ?_)) <;> have h' := h <;> (try simp at h') <;> (try subst h')) | ((with_reducible refine sopsg_cases (fun h => ?_) (fun h => ?_)) <;> have h' := h <;> (try simp at h') <;> (try subst h') <;> simp -implicitDefEqProofs [pushes, *]) | ((with_reducible refine sopsk_rg ?_ ?_); (first | omega | (unfold maxLen; omega)); simp -implicitDefEqProofs [pushes, *]) | ((first | refine call_q (c1.out _) ?_ | refine call_q (c2.out _) ?_ | refine call_q (c3.out _) ?_); simp -implicitDefEqProofs [pushes, *]) | (with_reducible first | refine zM hm ?_ | refine zN hm ?_ | refine zO hm ?_ | refine zP hm ?_) | fail)
 all_goals (rw [hD.out]; first | (simp [*]; done) | (simp_all; done))
theorem contains_drop (v : Int) {l : List Int} {i : Nat} (hi : i < l.length) : (l.drop i).contains v = (l[i] == v || (l.drop (i + 1)).contains v) := by
 rw [List.drop_eq_getElem_cons hi, List.contains_cons, Bool.beq_comm]
theorem rin_s (l : List Int) (v : Int) (hl : l.length ≤ 1000000) (q : Nat) : SCalls Try.prog 43 [nums .i64 l, .int .i64 v] [] q (.bool (l.contains v)) [] := by
 refine scalls_q ?_ (fun _ => rfl) (fun _ => rfl) rfl q
 refine scalls_of (N := 18) Try.func43 rfl rfl (by kernel_rfl) comp_c_rin (by simp) (by repeat' (first | exact trivial | refine And.intro ?_ ?_ | rfl | decide | exact PureR.ren _)) (by repeat' (first | exact trivial | refine And.intro ?_ ?_ | rfl | decide | exact PureR.ren _)) ?_
 rintro X hP hN hm
 have hF : l.contains v = (l.drop 0).contains v := rfl
 generalize l.contains v = F at hF
 replace hF := Lib.hid hF
 unfold c_rin
 repeat' (first | (with_reducible first | refine zA ?_ | refine swp_block1 ?_ | refine swp_block2 ?_ | refine zK ?_) | ((with_reducible first | refine swp_reg ?_ | refine swp_regd (by rw [hP]; exact mixed) ?_); (try rw [hP]); simp -implicitDefEqProofs [*]) | ((with_reducible first | refine swp_skip ?_ | refine swp_exit ?_); (try simp -implicitDefEqProofs [*])) | ((with_reducible refine swp_ret ?_); (try simp only [qseq_r, qblock_r, qloop_r])) | ((with_reducible refine swp_cond rfl (fun h => ?_) (fun h => ?_)) <;> have h' := h <;> (try simp at h') <;> (try subst h')) | ((with_reducible refine sopsg_cases (fun h => ?_) (fun h => ?_)) <;> have h' := h <;> (try simp at h') <;> (try subst h') <;> simp -implicitDefEqProofs [*]) | ((with_reducible refine sopsk_rg ?_ ?_); (first | omega | (unfold maxLen; omega)); simp -implicitDefEqProofs [*]) | (with_reducible first | refine zM hm ?_ | refine zN hm ?_ | refine zO hm ?_ | refine zP hm ?_) | fail)
 refine swp_block (swp_for (fun s (i : Nat) => s.turn [(5, .int .i64 i)] []) (fun i => i ≤ l.length ∧ F = (l.drop i).contains v) (fun i => l.length - i) 0 ?_ ⟨by simp, hF.out⟩ ?_)
 ·repeat' (first | ((with_reducible refine wk_self [] hm ?_ ?_ ?_ ?_) <;> (try simp only [zT, puth, Nat.reduceEqDiff, reduceIte, Nat.reduceAdd])) | (with_reducible first | refine za ?_ ?_ | refine zb ?_ ?_ ?_ ?_ | refine zc ?_ ?_ ?_ ?_ | refine zd ?_ ?_ ?_ ?_ | refine objsM_abs ?_ ?_ | refine subH_cons ?_ ?_) | (with_reducible first | exact slotsM_nil | exact objsM_nil | exact subH_nil | exact coL_nilm | exact Co.refl _ | exact CoL.refl _ | exact CoLL.refl _) | ((with_reducible first | refine zga ?_ | refine zgb ?_); rfl) | ((with_reducible refine zgc ?_); (first | (with_reducible rfl) | rfl | (simp; done))) | ((with_reducible first | refine zgd ?_ | refine zge ?_); (first | omega | (simp; done))) | (refine co_wrap ⟨?_, ?_⟩ ?_ <;> omega) | (exact Co.refl _) | (exact CoL.refl _) | (exact CoLL.refl _) | (refine co_own ?_; omega) | (refine co_int ?_; first | omega | (simp_all; done)) | (with_reducible first | refine coL_cons ?_ ?_ | refine coL_consm ?_ ?_) | fail)
 rintro J hJ i ⟨h1, h2⟩
 unfold c_rin_l1
 simp only [zT, puth, Nat.reduceEqDiff, reduceIte, Nat.reduceAdd] at h1 h2 ⊢
 rcases Nat.lt_or_ge i l.length with hi | hi
 ·rw [contains_drop v hi] at h2
  generalize hxx : l[i] = x at h2
  have wi : IntKind.i64.wrap ((i : Int) + 1) = (i : Int) + 1 := i64_add_ (by omega) (by omega)
  cases hv : (x == v) <;> rw [hv] at h2 <;> replace h2 := Lib.hid h2
  ·repeat' (first | (with_reducible first | refine zA ?_ | refine swp_block1 ?_ | refine swp_block2 ?_ | refine zK ?_) | ((with_reducible first | refine swp_reg ?_ | refine swp_regd (by rw [hP]; exact mixed) ?_); (try rw [hP]); simp -implicitDefEqProofs [*]) | ((with_reducible first | refine swp_skip ?_ | refine swp_exit ?_); (try simp -implicitDefEqProofs [*])) | ((with_reducible refine swp_ret ?_); (try simp only [qseq_r, qblock_r, qloop_r])) | ((with_reducible refine swp_cond rfl (fun h => ?_) (fun h => ?_)) <;> have h' := h <;> (try simp at h') <;> (try subst h')) | ((with_reducible refine sopsg_cases (fun h => ?_) (fun h => ?_)) <;> have h' := h <;> (try simp at h') <;> (try subst h') <;> simp -implicitDefEqProofs [*]) | ((with_reducible refine sopsk_rg ?_ ?_); (first | omega | (unfold maxLen; omega)); simp -implicitDefEqProofs [*]) | (with_reducible first | refine zM hm ?_ | refine zN hm ?_ | refine zO hm ?_ | refine zP hm ?_) | ((with_reducible refine wk_self [] hm ?_ ?_ ?_ ?_) <;> (try simp only [zT, puth, Nat.reduceEqDiff, reduceIte, Nat.reduceAdd])) | (with_reducible first | refine za ?_ ?_ | refine zb ?_ ?_ ?_ ?_ | refine zc ?_ ?_ ?_ ?_ | refine zd ?_ ?_ ?_ ?_ | refine objsM_abs ?_ ?_ | refine subH_cons ?_ ?_) | (with_reducible first | exact slotsM_nil | exact objsM_nil | exact subH_nil | exact coL_nilm | exact Co.refl _ | exact CoL.refl _ | exact CoLL.refl _) | ((with_reducible first | refine zga ?_ | refine zgb ?_); rfl) | ((with_reducible refine zgc ?_); (first | (with_reducible rfl) | rfl | (simp; done))) | ((with_reducible first | refine zgd ?_ | refine zge ?_); (first | omega | (simp; done))) | (refine co_wrap ⟨?_, ?_⟩ ?_ <;> omega) | (exact Co.refl _) | (exact CoL.refl _) | (exact CoLL.refl _) | (refine co_own ?_; omega) | (refine co_int ?_; first | omega | (simp_all; done)) | (with_reducible first | refine coL_cons ?_ ?_ | refine coL_consm ?_ ?_) | ((refine qfor_next hJ (i + 1) ?_ ?_ ?_; (with_reducible refine wk_self [] hm ?_ ?_ ?_ ?_) <;> (try simp only [zT, puth, Nat.reduceEqDiff, reduceIte, Nat.reduceAdd]))) | fail)
   exact ⟨by omega, by rw [h2.out, Bool.false_or]⟩
  ·repeat' (first | (with_reducible first | refine zA ?_ | refine swp_block1 ?_ | refine swp_block2 ?_ | refine zK ?_) | ((with_reducible first | refine swp_reg ?_ | refine swp_regd (by rw [hP]; exact mixed) ?_); (try rw [hP]); simp -implicitDefEqProofs [*]) | ((with_reducible first | refine swp_skip ?_ | refine swp_exit ?_); (try simp -implicitDefEqProofs [*])) | ((with_reducible refine swp_ret ?_); (try simp only [qseq_r, qblock_r, qloop_r])) | ((with_reducible refine swp_cond rfl (fun h => ?_) (fun h => ?_)) <;> have h' := h <;> (try simp at h') <;> (try subst h')) | ((with_reducible refine sopsg_cases (fun h => ?_) (fun h => ?_)) <;> have h' := h <;> (try simp at h') <;> (try subst h') <;> simp -implicitDefEqProofs [*]) | ((with_reducible refine sopsk_rg ?_ ?_); (first | omega | (unfold maxLen; omega)); simp -implicitDefEqProofs [*]) | (with_reducible first | refine zM hm ?_ | refine zN hm ?_ | refine zO hm ?_ | refine zP hm ?_) | fail)
   rw [h2.out]; rfl
 ·obtain rfl : i = l.length := by omega
  rw [List.drop_length] at h2
  replace h2 := Lib.hid h2
  repeat' (first | (with_reducible first | refine zA ?_ | refine swp_block1 ?_ | refine swp_block2 ?_ | refine zK ?_) | ((with_reducible first | refine swp_reg ?_ | refine swp_regd (by rw [hP]; exact mixed) ?_); (try rw [hP]); simp -implicitDefEqProofs [*]) | ((with_reducible first | refine swp_skip ?_ | refine swp_exit ?_); (try simp -implicitDefEqProofs [*])) | ((with_reducible refine swp_ret ?_); (try simp only [qseq_r, qblock_r, qloop_r])) | ((with_reducible refine swp_cond rfl (fun h => ?_) (fun h => ?_)) <;> have h' := h <;> (try simp at h') <;> (try subst h')) | ((with_reducible refine sopsg_cases (fun h => ?_) (fun h => ?_)) <;> have h' := h <;> (try simp at h') <;> (try subst h') <;> simp -implicitDefEqProofs [*]) | ((with_reducible refine sopsk_rg ?_ ?_); (first | omega | (unfold maxLen; omega)); simp -implicitDefEqProofs [*]) | (with_reducible first | refine zM hm ?_ | refine zN hm ?_ | refine zO hm ?_ | refine zP hm ?_) | fail)
  rw [h2.out]; rfl
theorem rwidths_s (p : PlanD) (t : TabD) (hl : t.keys.length ≤ 1000000) (q : Nat) : SCalls Try.prog 13 [.agg (planc p), .agg (tabc t)] [] q (nums .i64 (widthsOf p t)) [] := by
 refine scalls_q ?_ (fun _ => rfl) (fun _ => rfl) rfl q
 rw [← wrow_all]
 refine scalls_of (N := 25) Try.func13 rfl rfl (by kernel_rfl) comp_c_rwidths (by simp) (by repeat' (first | exact trivial | refine And.intro ?_ ?_ | rfl | decide | exact PureR.ren _)) (by repeat' (first | exact trivial | refine And.intro ?_ ?_ | rfl | decide | exact PureR.ren _)) ?_
 rintro X hP hN hm
 unfold c_rwidths
 repeat' (first | (with_reducible first | refine zA ?_ | refine swp_block1 ?_ | refine swp_block2 ?_ | refine zK ?_) | ((with_reducible first | refine swp_reg ?_ | refine swp_regd (by rw [hP]; exact mixed) ?_); (try rw [hP]); simp -implicitDefEqProofs [*]) | ((with_reducible first | refine swp_skip ?_ | refine swp_exit ?_); (try simp -implicitDefEqProofs [*])) | ((with_reducible refine swp_ret ?_); (try simp only [qseq_r, qblock_r, qloop_r])) | ((with_reducible refine swp_cond rfl (fun h => ?_) (fun h => ?_)) <;> have h' := h <;> (try simp at h') <;> (try subst h')) | ((with_reducible refine sopsg_cases (fun h => ?_) (fun h => ?_)) <;> have h' := h <;> (try simp at h') <;> (try subst h') <;> simp -implicitDefEqProofs [*]) | ((with_reducible refine sopsk_rg ?_ ?_); (first | omega | (unfold maxLen; omega)); simp -implicitDefEqProofs [*]) | (with_reducible first | refine zM hm ?_ | refine zN hm ?_ | refine zO hm ?_ | refine zP hm ?_) | fail)
 refine swp_wk (wk_adoptS 5 3 1 rfl) ?_
 simp only [zT, puth, Nat.reduceEqDiff, reduceIte, Nat.reduceAdd]
 refine swp_block (swp_for (fun s (i : Nat) => s.turn [(5, .own 5 i), (6, .int .i64 i)] [(5, .row 3 1 (wrow p t.keys i))]) (fun i => i ≤ t.keys.length) (fun i => t.keys.length - i) 0 ?_ (by simp) ?_)
 ·repeat' (first | ((with_reducible refine wk_self [] hm ?_ ?_ ?_ ?_) <;> (try simp only [zT, puth, Nat.reduceEqDiff, reduceIte, Nat.reduceAdd])) | (with_reducible first | refine za ?_ ?_ | refine zb ?_ ?_ ?_ ?_ | refine zc ?_ ?_ ?_ ?_ | refine zd ?_ ?_ ?_ ?_ | refine objsM_abs ?_ ?_ | refine subH_cons ?_ ?_) | (with_reducible first | exact slotsM_nil | exact objsM_nil | exact subH_nil | exact coL_nilm | exact Co.refl _ | exact CoL.refl _ | exact CoLL.refl _) | ((with_reducible first | refine zga ?_ | refine zgb ?_); rfl) | ((with_reducible refine zgc ?_); (first | (with_reducible rfl) | rfl | (simp; done))) | ((with_reducible first | refine zgd ?_ | refine zge ?_); (first | omega | (simp; done))) | (refine co_wrap ⟨?_, ?_⟩ ?_ <;> omega) | (exact Co.refl _) | (exact CoL.refl _) | (exact CoLL.refl _) | (refine co_own ?_; omega) | (refine co_int ?_; first | omega | (simp_all; done)) | (with_reducible first | refine coL_cons ?_ ?_ | refine coL_consm ?_ ?_) | fail)
 rintro J hJ i hi
 unfold c_rwidths_l1
 simp only [zT, puth, Nat.reduceEqDiff, reduceIte, Nat.reduceAdd]
 have hlen := wrow_len p hi
 have hb1 : i + 1 ≤ maxLen := by unfold maxLen; omega
 rcases Nat.lt_or_ge i t.keys.length with h | h
 ·have wi : IntKind.i64.wrap ((i : Int) + 1) = (i : Int) + 1 := i64_add_ (by omega) (by omega)
  have hrow := wrow_succ p h
  generalize hr : t.keys[i] = r at hrow
  repeat' (first | (with_reducible first | refine zA ?_ | refine swp_block1 ?_ | refine swp_block2 ?_ | refine zK ?_) | ((with_reducible first | refine swp_reg ?_ | refine swp_regd (by rw [hP]; exact mixed) ?_); (try rw [hP]); simp -implicitDefEqProofs [*]) | ((with_reducible first | refine swp_skip ?_ | refine swp_exit ?_); (try simp -implicitDefEqProofs [*])) | ((with_reducible refine swp_ret ?_); (try simp only [qseq_r, qblock_r, qloop_r])) | ((with_reducible refine swp_cond rfl (fun h => ?_) (fun h => ?_)) <;> have h' := h <;> (try simp at h') <;> (try subst h')) | ((with_reducible refine sopsg_cases (fun h => ?_) (fun h => ?_)) <;> have h' := h <;> (try simp at h') <;> (try subst h') <;> simp -implicitDefEqProofs [*]) | ((with_reducible refine sopsk_rg ?_ ?_); (first | omega | (unfold maxLen; omega)); simp -implicitDefEqProofs [*]) | (refine call_q (rwidth0_s p r _) ?_; simp -implicitDefEqProofs [*]) | (with_reducible first | refine zM hm ?_ | refine zN hm ?_ | refine zO hm ?_ | refine zP hm ?_) | ((with_reducible refine wk_self [] hm ?_ ?_ ?_ ?_) <;> (try simp only [zT, puth, Nat.reduceEqDiff, reduceIte, Nat.reduceAdd])) | (with_reducible first | refine za ?_ ?_ | refine zb ?_ ?_ ?_ ?_ | refine zc ?_ ?_ ?_ ?_ | refine zd ?_ ?_ ?_ ?_ | refine objsM_abs ?_ ?_ | refine subH_cons ?_ ?_) | (with_reducible first | exact slotsM_nil | exact objsM_nil | exact subH_nil | exact coL_nilm | exact Co.refl _ | exact CoL.refl _ | exact CoLL.refl _) | ((with_reducible first | refine zga ?_ | refine zgb ?_); rfl) | ((with_reducible refine zgc ?_); (first | (with_reducible rfl) | rfl | (simp; done))) | ((with_reducible first | refine zgd ?_ | refine zge ?_); (first | omega | (simp; done))) | (refine co_wrap ⟨?_, ?_⟩ ?_ <;> omega) | (exact Co.refl _) | (exact CoL.refl _) | (exact CoLL.refl _) | (refine co_own ?_; omega) | (refine co_int ?_; first | omega | (simp_all; done)) | (with_reducible first | refine coL_cons ?_ ?_ | refine coL_consm ?_ ?_) | ((refine qfor_next hJ (i + 1) ?_ ?_ ?_; (with_reducible refine wk_self [(5, ?_)] hm ?_ ?_ ?_ ?_) <;> (try simp only [zT, puth, Nat.reduceEqDiff, reduceIte, Nat.reduceAdd]))) | fail)
 ·obtain rfl : i = t.keys.length := by omega
  repeat' (first | ((with_reducible refine swp_stop (c := .seq (.reg false c_rwidths_r7 [4]) .ret) ?_)) | (with_reducible first | refine zA ?_ | refine swp_block1 ?_ | refine swp_block2 ?_ | refine zK ?_) | ((with_reducible first | refine swp_reg ?_ | refine swp_regd (by rw [hP]; exact mixed) ?_); (try rw [hP]); simp -implicitDefEqProofs [*]) | ((with_reducible first | refine swp_skip ?_ | refine swp_exit ?_); (try simp -implicitDefEqProofs [*])) | ((with_reducible refine swp_ret ?_); (try simp only [qseq_r, qblock_r, qloop_r])) | ((with_reducible refine swp_cond rfl (fun h => ?_) (fun h => ?_)) <;> have h' := h <;> (try simp at h') <;> (try subst h')) | ((with_reducible refine sopsg_cases (fun h => ?_) (fun h => ?_)) <;> have h' := h <;> (try simp at h') <;> (try subst h') <;> simp -implicitDefEqProofs [*]) | ((with_reducible refine sopsk_rg ?_ ?_); (first | omega | (unfold maxLen; omega)); simp -implicitDefEqProofs [*]) | (with_reducible first | refine zM hm ?_ | refine zN hm ?_ | refine zO hm ?_ | refine zP hm ?_) | fail)
  constructor
  refine swp_frz [5] ?_ ?_
  ·simp only [FrzOk, geth, Nat.reduceEqDiff, reduceIte, pureR_O, and_true]
  have htk : (wrow p t.keys t.keys.length).take t.keys.length = wrow p t.keys t.keys.length := List.take_of_length_le (by omega)
  simp -implicitDefEqProofs [htk, hlen, Nat.le_refl]
  repeat' (first | (with_reducible first | refine zA ?_ | refine swp_block1 ?_ | refine swp_block2 ?_ | refine zK ?_) | ((with_reducible first | refine swp_reg ?_ | refine swp_regd (by rw [hP]; exact mixed) ?_); (try rw [hP]); simp -implicitDefEqProofs [*]) | ((with_reducible first | refine swp_skip ?_ | refine swp_exit ?_); (try simp -implicitDefEqProofs [*])) | ((with_reducible refine swp_ret ?_); (try simp only [qseq_r, qblock_r, qloop_r])) | ((with_reducible refine swp_cond rfl (fun h => ?_) (fun h => ?_)) <;> have h' := h <;> (try simp at h') <;> (try subst h')) | ((with_reducible refine sopsg_cases (fun h => ?_) (fun h => ?_)) <;> have h' := h <;> (try simp at h') <;> (try subst h') <;> simp -implicitDefEqProofs [*]) | ((with_reducible refine sopsk_rg ?_ ?_); (first | omega | (unfold maxLen; omega)); simp -implicitDefEqProofs [*]) | (with_reducible first | refine zM hm ?_ | refine zN hm ?_ | refine zO hm ?_ | refine zP hm ?_) | (refine fin_tmp hm ?_ (noN_view _ _)) | fail)
  rfl
theorem call_wide (n k : Int) (q : Nat) : SCalls Try.prog 69 [.int .u64 n, .int .i64 k] [] q (.bool (wideI n k)) [] := scalls_q (wide_s n k) (fun _ => rfl) (fun _ => rfl) rfl q
set_option maxHeartbeats 4000000 in
theorem rstate_s (p : PlanD) (i : Nat) (hi : i < p.states.length) (hsl : p.states.length ≤ 1000000) (hcl : p.states[i].cases_.length ≤ 1000000) (q : Nat) : SCalls Try.prog 41 [.agg (planc p), .int .i64 i] [] q (.int .i64 (stateF p i p.states[i])) [] := by
 refine scalls_q ?_ (fun _ => rfl) (fun _ => rfl) rfl q
 refine scalls_of (N := 80) Try.func41 rfl rfl (by kernel_rfl) comp_c_rstate (by simp) (by repeat' (first | exact trivial | refine And.intro ?_ ?_ | rfl | decide | exact PureR.ren _)) (by repeat' (first | exact trivial | refine And.intro ?_ ?_ | rfl | decide | exact PureR.ren _)) ?_
 rintro X hP hN hm
 unfold c_rstate
 generalize hxx : p.states[i] = x at hcl
 have hlead := fun to_ q => rlead_s p i to_ q
 have hwid := fun q => rwidth0_s p x.on q
 have hhead := fun q => rhead_s p x.head q
 have hst : stateF p i x = if (x.head != -1 && !isHead p x.head) = true then 1 else if decide (4 < (x.cases_.length : Int)) = true then 2 else if (decide (0 < (x.cases_.length : Int)) && (widthOf p x.on [] == 0)) = true then 1 else if firstF (caseF p i (widthOf p x.on [])) (x.cases_.drop 0) = 0 then leadF p i x.els else firstF (caseF p i (widthOf p x.on [])) (x.cases_.drop 0) := by
  unfold stateF
  have c1 : (x.head < -1 ∨ (p.heads.length : Int) ≤ x.head) ↔ (x.head != -1 && !isHead p x.head) = true := by
   unfold isHead; rw [Bool.and_eq_true, Bool.not_eq_true', Bool.and_eq_false_iff, decide_eq_false_iff_not, decide_eq_false_iff_not, bne_iff_ne]; omega
  have c2 : (4 < x.cases_.length) ↔ decide (4 < (x.cases_.length : Int)) = true := by rw [decide_eq_true_eq]; omega
  have c3 : (0 < x.cases_.length ∧ widthOf p x.on [] = 0) ↔ (decide (0 < (x.cases_.length : Int)) && (widthOf p x.on [] == 0)) = true := by rw [Bool.and_eq_true, decide_eq_true_eq, beq_iff_eq]; omega
  simp only [propext c1, propext c2, propext c3, List.drop_zero, ne_eq, ite_not]
 generalize stateF p i x = F at hst
 generalize widthOf p x.on [] = W at hst hwid
 generalize isHead p x.head = H at hst hhead
 replace hlead := Lib.hid hlead
 replace hwid := Lib.hid hwid
 replace hhead := Lib.hid hhead
 replace hst := Lib.hid hst
 have main : (x.head != -1 && !H) = false → decide (4 < (x.cases_.length : Int)) = false → (decide (0 < (x.cases_.length : Int)) && (W == 0)) = false → F = if firstF (caseF p i W) (x.cases_.drop 0) = 0 then leadF p i x.els else firstF (caseF p i W) (x.cases_.drop 0) := fun b1 b2 b3 => by
  have := hst.out; rw [b1, b2, b3] at this; exact this
 have hcs : ∀ c, caseF p i W c = if (wideI c.mask W || (bits .and .u64 c.value c.mask != c.value)) = true then 6 else leadF p i c.to_ := fun c => by
  unfold caseF; congr 1
  rw [show decide (bits .and .u64 c.value c.mask ≠ c.value) = (bits .and .u64 c.value c.mask != c.value) by rw [Bool.eq_iff_iff]; simp]
 have loop : F = (if firstF (caseF p i W) (x.cases_.drop 0) = 0 then leadF p i x.els else firstF (caseF p i W) (x.cases_.drop 0)) → SWp X (SCode.block 0 c_rstate_l1.loop) (QSeq X ((SCode.reg false c_rstate_r19 [4]).seq SCode.ret) (QFun X [ResultVar.tmp 4] 0 (SV.int IntKind.i64 F) []))
   ⟨[(1, .int .i64 i), (2, .ptr 0 0), (5, .ptr 7 0), (6, .int .i64 W), (7, .int .i64 0)], [(0, .cells 29 (planc p)), (7, .cells 65 (statec x))], 8⟩ := fun h0 => by
  clear main hst
  refine swp_block (swp_for (fun s (j : Nat) => s.turn [(7, .int .i64 j)] []) (fun j => j ≤ x.cases_.length ∧ F = if firstF (caseF p i W) (x.cases_.drop j) = 0 then leadF p i x.els else firstF (caseF p i W) (x.cases_.drop j)) (fun j => x.cases_.length - j) 0 ?_ ⟨by simp, h0⟩ ?_)
  ·repeat' (first | ((with_reducible refine wk_self [] hm ?_ ?_ ?_ ?_) <;> (try simp only [zT, puth, Nat.reduceEqDiff, reduceIte, Nat.reduceAdd])) | (with_reducible first | refine za ?_ ?_ | refine zb ?_ ?_ ?_ ?_ | refine zc ?_ ?_ ?_ ?_ | refine zd ?_ ?_ ?_ ?_ | refine objsM_abs ?_ ?_ | refine subH_cons ?_ ?_) | (with_reducible first | exact slotsM_nil | exact objsM_nil | exact subH_nil | exact coL_nilm | exact Co.refl _ | exact CoL.refl _ | exact CoLL.refl _) | ((with_reducible first | refine zga ?_ | refine zgb ?_); rfl) | ((with_reducible refine zgc ?_); (first | (with_reducible rfl) | rfl | (simp; done))) | ((with_reducible first | refine zgd ?_ | refine zge ?_); (first | omega | (simp; done))) | (refine co_wrap ⟨?_, ?_⟩ ?_ <;> omega) | (exact Co.refl _) | (exact CoL.refl _) | (exact CoLL.refl _) | (refine co_own ?_; omega) | (refine co_int ?_; first | omega | (simp_all; done)) | (with_reducible first | refine coL_cons ?_ ?_ | refine coL_consm ?_ ?_) | fail)
  rintro J hJ j ⟨h1, h2⟩
  unfold c_rstate_l1
  simp only [zT, puth, Nat.reduceEqDiff, reduceIte, Nat.reduceAdd] at h1 h2 ⊢
  rcases Nat.lt_or_ge j x.cases_.length with hj | hj
  ·rw [firstF_drop _ hj] at h2
   generalize hcc : x.cases_[j] = c at h2
   rw [hcs c] at h2
   have hwd := fun q => call_wide c.mask W q
   have hld := fun q => hlead.out c.to_ q
   generalize leadF p i c.to_ = L at h2 hld
   generalize hwv : wideI c.mask W = V at h2 hwd
   generalize hbv : (bits .and .u64 c.value c.mask != c.value) = B at h2
   have wj : IntKind.i64.wrap ((j : Int) + 1) = (j : Int) + 1 := i64_add_ (by omega) (by omega)
   replace h2 := Lib.hid h2
   replace hcs := Lib.hid hcs
   replace hld := Lib.hid hld
   replace hwv := Lib.hid hwv
   replace h0 := Lib.hid h0
   cases kV : V <;> cases kB : B <;> cases kL : (L != 0)
   all_goals
    rw [kV] at hwd
    rw [kB] at hbv
    repeat' (first | (with_reducible first | refine zA ?_ | refine swp_block1 ?_ | refine swp_block2 ?_ | refine zK ?_) | ((with_reducible first | refine swp_reg ?_ | refine swp_regd (by rw [hP]; exact mixed) ?_); (try rw [hP]); simp -implicitDefEqProofs [*]) | ((with_reducible first | refine swp_skip ?_ | refine swp_exit ?_); (try simp -implicitDefEqProofs [*])) | ((with_reducible refine swp_ret ?_); (try simp only [qseq_r, qblock_r, qloop_r])) | ((with_reducible refine swp_cond rfl (fun h => ?_) (fun h => ?_)) <;> have h' := h <;> (try simp at h') <;> (try subst h')) | ((with_reducible refine sopsg_cases (fun h => ?_) (fun h => ?_)) <;> have h' := h <;> (try simp at h') <;> (try subst h') <;> simp -implicitDefEqProofs [*]) | ((with_reducible refine sopsk_rg ?_ ?_); (first | omega | (unfold maxLen; omega)); simp -implicitDefEqProofs [*]) | ((first | refine call_q (hwd _) ?_ | refine call_q (hld.out _) ?_); simp -implicitDefEqProofs [*]) | (with_reducible first | refine zM hm ?_ | refine zN hm ?_ | refine zO hm ?_ | refine zP hm ?_) | ((with_reducible refine wk_self [] hm ?_ ?_ ?_ ?_) <;> (try simp only [zT, puth, Nat.reduceEqDiff, reduceIte, Nat.reduceAdd])) | (with_reducible first | refine za ?_ ?_ | refine zb ?_ ?_ ?_ ?_ | refine zc ?_ ?_ ?_ ?_ | refine zd ?_ ?_ ?_ ?_ | refine objsM_abs ?_ ?_ | refine subH_cons ?_ ?_) | (with_reducible first | exact slotsM_nil | exact objsM_nil | exact subH_nil | exact coL_nilm | exact Co.refl _ | exact CoL.refl _ | exact CoLL.refl _) | ((with_reducible first | refine zga ?_ | refine zgb ?_); rfl) | ((with_reducible refine zgc ?_); (first | (with_reducible rfl) | rfl | (simp; done))) | ((with_reducible first | refine zgd ?_ | refine zge ?_); (first | omega | (simp; done))) | (refine co_wrap ⟨?_, ?_⟩ ?_ <;> omega) | (exact Co.refl _) | (exact CoL.refl _) | (exact CoLL.refl _) | (refine co_own ?_; omega) | (refine co_int ?_; first | omega | (simp_all; done)) | (with_reducible first | refine coL_cons ?_ ?_ | refine coL_consm ?_ ?_) | ((refine qfor_next hJ (j + 1) ?_ ?_ ?_; (with_reducible refine wk_self [] hm ?_ ?_ ?_ ?_) <;> (try simp only [zT, puth, Nat.reduceEqDiff, reduceIte, Nat.reduceAdd]))) | fail)
    have kL' := kL
    simp at kL'
    first | (refine ⟨by omega, ?_⟩; rw [h2.out]; simp [kV, kB, kL']; done) | (rw [h2.out]; simp [kV, kB, kL']; done) | skip
  ·obtain rfl : j = x.cases_.length := by omega
   rw [List.drop_length] at h2
   replace h2 := Lib.hid h2
   replace h0 := Lib.hid h0
   replace hcs := Lib.hid hcs
   repeat' (first | (with_reducible first | refine zA ?_ | refine swp_block1 ?_ | refine swp_block2 ?_ | refine zK ?_) | ((with_reducible first | refine swp_reg ?_ | refine swp_regd (by rw [hP]; exact mixed) ?_); (try rw [hP]); simp -implicitDefEqProofs [*]) | ((with_reducible first | refine swp_skip ?_ | refine swp_exit ?_); (try simp -implicitDefEqProofs [*])) | ((with_reducible refine swp_ret ?_); (try simp only [qseq_r, qblock_r, qloop_r])) | ((with_reducible refine swp_cond rfl (fun h => ?_) (fun h => ?_)) <;> have h' := h <;> (try simp at h') <;> (try subst h')) | ((with_reducible refine sopsg_cases (fun h => ?_) (fun h => ?_)) <;> have h' := h <;> (try simp at h') <;> (try subst h') <;> simp -implicitDefEqProofs [*]) | ((with_reducible refine sopsk_rg ?_ ?_); (first | omega | (unfold maxLen; omega)); simp -implicitDefEqProofs [*]) | (refine call_q (hlead.out _ _) ?_; simp -implicitDefEqProofs [*]) | (with_reducible first | refine zM hm ?_ | refine zN hm ?_ | refine zO hm ?_ | refine zP hm ?_) | fail)
   rw [h2.out]; rfl
 replace hcs := Lib.hid hcs
 replace loop := Lib.hid loop
 replace main := Lib.hid main
 cases k1 : (x.head != -1)
 all_goals cases k2 : H
 all_goals rw [k2] at hhead
 all_goals cases k3 : decide (4 < (x.cases_.length : Int))
 all_goals have kn : decide (0 < x.cases_.length) = decide (0 < (x.cases_.length : Int)) := decide_eq_decide.2 (by omega)
 all_goals cases k4 : decide (0 < (x.cases_.length : Int)) <;> rw [k4] at kn
 all_goals cases k5 : (W == 0)
 all_goals
  repeat' (first | (with_reducible first | refine zA ?_ | refine swp_block1 ?_ | refine swp_block2 ?_ | refine zK ?_) | ((with_reducible first | refine swp_reg ?_ | refine swp_regd (by rw [hP]; exact mixed) ?_); (try rw [hP]); simp -implicitDefEqProofs [*]) | ((with_reducible first | refine swp_skip ?_ | refine swp_exit ?_); (try simp -implicitDefEqProofs [*])) | ((with_reducible refine swp_ret ?_); (try simp only [qseq_r, qblock_r, qloop_r])) | ((with_reducible refine swp_cond rfl (fun h => ?_) (fun h => ?_)) <;> have h' := h <;> (try simp at h') <;> (try subst h')) | ((with_reducible refine sopsg_cases (fun h => ?_) (fun h => ?_)) <;> have h' := h <;> (try simp at h') <;> (try subst h') <;> simp -implicitDefEqProofs [*]) | ((with_reducible refine sopsk_rg ?_ ?_); (first | omega | (unfold maxLen; omega)); simp -implicitDefEqProofs [*]) | ((first | refine call_q (hhead.out _) ?_ | refine call_q (hwid.out _) ?_); simp -implicitDefEqProofs [*]) | (with_reducible first | refine zM hm ?_ | refine zN hm ?_ | refine zO hm ?_ | refine zP hm ?_) | fail)
 all_goals (first | (have q := hst.out; simp only [k1, k2, k3, k4, k5, Bool.false_and, Bool.true_and, Bool.not_true, Bool.not_false, reduceIte, Bool.false_eq_true] at q; exact q.symm) | (have q := hst.out; simp [k1, k2, k3, k4, k5] at q; exact q.symm) | (have q := hst.out; simp [k1, k2, k3, k4] at q; exact q.symm) | skip)
 all_goals
  refine swp_wk ?_ (loop.out (main.out (by simp only [k1, k2]; rfl) k3 (by simp only [k4, k5]; rfl)))
  repeat' (first | ((with_reducible refine wk_self [] hm ?_ ?_ ?_ ?_) <;> (try simp only [zT, puth, Nat.reduceEqDiff, reduceIte, Nat.reduceAdd])) | (with_reducible first | refine za ?_ ?_ | refine zb ?_ ?_ ?_ ?_ | refine zc ?_ ?_ ?_ ?_ | refine zd ?_ ?_ ?_ ?_ | refine objsM_abs ?_ ?_ | refine subH_cons ?_ ?_) | (with_reducible first | exact slotsM_nil | exact objsM_nil | exact subH_nil | exact coL_nilm | exact Co.refl _ | exact CoL.refl _ | exact CoLL.refl _) | ((with_reducible first | refine zga ?_ | refine zgb ?_); rfl) | ((with_reducible refine zgc ?_); (first | (with_reducible rfl) | rfl | (simp; done))) | ((with_reducible first | refine zgd ?_ | refine zge ?_); (first | omega | (simp; done))) | (refine co_wrap ⟨?_, ?_⟩ ?_ <;> omega) | (exact Co.refl _) | (exact CoL.refl _) | (exact CoLL.refl _) | (refine co_own ?_; omega) | (refine co_int ?_; first | omega | (simp_all; done)) | (with_reducible first | refine coL_cons ?_ ?_ | refine coL_consm ?_ ?_) | fail)
end Go.Proofs.Ytnfjldobjgdiaaa
namespace Go.Proofs.Ytnfjldobjgdiaaa
set_option linter.all false
open Go.RowKit
attribute [local simp] sops_nil sops_run sopsk_some sops_call sops_guard sopsg_yes sopsg_tf sopsg_ft sopsg_undef rg_true SOp.run SX.ev putd puts argS upds SOp.touch SSt.keep SSt.skip gets geth puth delh idOf SV.cells? setL fillS fillR sbin eq0 eq1 eqL rowOf qseq_n qseq_e qseq_r qblock_n qblock_r qblock_e qloop_e qloop_r take_map_len FrzOk pureV_int pureV_bool pureV_str pureV_nil pureV_nilsl pureV_view pureV_cp pureL_nil_ pureL_cons_ pureO_row pureO_cells frzS frzH frz frz1 frz0 SlotsM ObjsM ObjM rn ren ren1 ren0 co_self co_int co_own co_view co_nilsl co_agg co_tup CoL coll_self mergeH dels adds idsH okNames
attribute [local simp] headc refc pushc casec statec opc actc tabc nodec planc nums jc
theorem wideAny_drop {xs ks : List Int} {i : Nat} (h1 : i < xs.length) (h2 : i < ks.length) : wideAny (xs.drop i) (ks.drop i) = (wideI xs[i] ks[i] || wideAny (xs.drop (i + 1)) (ks.drop (i + 1))) := by
 rw [List.drop_eq_getElem_cons h1, List.drop_eq_getElem_cons h2]; rfl
def AW (acts : List ActD) : Prop := ∀ a ∈ acts, ∀ w ∈ a.w, 0 ≤ w ∧ w ≤ 48
theorem says_s (t : TabD) (acts : List ActD) (act : Int) (args : List Int) (ha : AW acts) (hl : t.acts.length ≤ 1000000) (hl2 : args.length ≤ 1000000) (hr : ∀ k ∈ t.acts, 0 ≤ k ∧ k < acts.length) (q : Nat) : SCalls Try.prog 87 [.agg (tabc t), .view 2 (acts.map actc), .int .i64 act, nums .u64 args] [] q (.int .i64 (saysF t.acts acts act args)) [] := by
 refine scalls_q ?_ (fun _ => rfl) (fun _ => rfl) rfl q
 refine scalls_of (N := 42) Try.func87 rfl rfl (by kernel_rfl) comp_c_says (by simp) (by repeat' (first | exact trivial | refine And.intro ?_ ?_ | rfl | decide | exact PureR.ren _)) (by repeat' (first | exact trivial | refine And.intro ?_ ?_ | rfl | decide | exact PureR.ren _)) ?_
 rintro X hP hN hm
 have hc := fun q => contains_s t.acts act hl q
 unfold c_says
 cases hin : t.acts.contains act
 ·rw [hin] at hc
  have hz : saysF t.acts acts act args = 5 := by unfold saysF; rw [hin]; rfl
  rw [hz]
  repeat' (first | (with_reducible first | refine zA ?_ | refine swp_block1 ?_ | refine swp_block2 ?_ | refine zK ?_) | ((with_reducible first | refine swp_reg ?_ | refine swp_regd (by rw [hP]; exact mixed) ?_); (try rw [hP]); simp -implicitDefEqProofs [*]) | ((with_reducible first | refine swp_skip ?_ | refine swp_exit ?_); (try simp -implicitDefEqProofs [*])) | ((with_reducible refine swp_ret ?_); (try simp only [qseq_r, qblock_r, qloop_r])) | ((with_reducible refine swp_cond rfl (fun h => ?_) (fun h => ?_)) <;> have h' := h <;> (try simp at h') <;> (try subst h')) | ((with_reducible refine sopsg_cases (fun h => ?_) (fun h => ?_)) <;> have h' := h <;> (try simp at h') <;> (try subst h') <;> simp -implicitDefEqProofs [*]) | ((with_reducible refine sopsk_rg ?_ ?_); (first | omega | (unfold maxLen; omega)); simp -implicitDefEqProofs [*]) | (refine call_q (hc _) ?_; simp -implicitDefEqProofs [*]) | (with_reducible first | refine zM hm ?_ | refine zN hm ?_ | refine zO hm ?_ | refine zP hm ?_) | fail)
  rfl
 ·rw [hin] at hc
  obtain ⟨hr0, hr1⟩ := hr act (by simpa using hin)
  have hlt : act.toNat < acts.length := by omega
  have hAm := ha acts[act.toNat] (List.getElem_mem hlt)
  have hF : saysF t.acts acts act args = if args.length ≠ acts[act.toNat].w.length then 2 else if wideAny args acts[act.toNat].w = true then 6 else 0 := by
   unfold saysF
   have : actW acts act = acts[act.toNat].w := by unfold actW; rw [List.getElem?_eq_getElem hlt]; rfl
   rw [hin, this]; rfl
  generalize saysF t.acts acts act args = F at hF
  generalize hA : acts[act.toNat] = A at hAm hF
  replace hAm := Lib.hid hAm
  by_cases hlen : args.length = A.w.length
  ·rw [if_neg (by simpa using hlen)] at hF
   have kl : ((args.length : Int) != (A.w.length : Int)) = false := by simp [hlen]
   replace hF := Lib.hid hF
   replace hlen := Lib.hid hlen
   repeat' (first | (with_reducible first | refine zA ?_ | refine swp_block1 ?_ | refine swp_block2 ?_ | refine zK ?_) | ((with_reducible first | refine swp_reg ?_ | refine swp_regd (by rw [hP]; exact mixed) ?_); (try rw [hP]); simp -implicitDefEqProofs [*]) | ((with_reducible first | refine swp_skip ?_ | refine swp_exit ?_); (try simp -implicitDefEqProofs [*])) | ((with_reducible refine swp_ret ?_); (try simp only [qseq_r, qblock_r, qloop_r])) | ((with_reducible refine swp_cond rfl (fun h => ?_) (fun h => ?_)) <;> have h' := h <;> (try simp at h') <;> (try subst h')) | ((with_reducible refine sopsg_cases (fun h => ?_) (fun h => ?_)) <;> have h' := h <;> (try simp at h') <;> (try subst h') <;> simp -implicitDefEqProofs [*]) | ((with_reducible refine sopsk_rg ?_ ?_); (first | omega | (unfold maxLen; omega)); simp -implicitDefEqProofs [*]) | (refine call_q (hc _) ?_; simp -implicitDefEqProofs [*]) | (with_reducible first | refine zM hm ?_ | refine zN hm ?_ | refine zO hm ?_ | refine zP hm ?_) | fail)
   refine swp_block (swp_for (fun s (i : Nat) => s.turn [(29, .int .i64 i)] []) (fun i => i ≤ args.length ∧ F = if wideAny (args.drop i) (A.w.drop i) = true then 6 else 0) (fun i => args.length - i) 0 ?_ ⟨by simp, hF.out⟩ ?_)
   ·repeat' (first | ((with_reducible refine wk_self [] hm ?_ ?_ ?_ ?_) <;> (try simp only [zT, puth, Nat.reduceEqDiff, reduceIte, Nat.reduceAdd])) | (with_reducible first | refine za ?_ ?_ | refine zb ?_ ?_ ?_ ?_ | refine zc ?_ ?_ ?_ ?_ | refine zd ?_ ?_ ?_ ?_ | refine objsM_abs ?_ ?_ | refine subH_cons ?_ ?_) | (with_reducible first | exact slotsM_nil | exact objsM_nil | exact subH_nil | exact coL_nilm | exact Co.refl _ | exact CoL.refl _ | exact CoLL.refl _) | ((with_reducible first | refine zga ?_ | refine zgb ?_); rfl) | ((with_reducible refine zgc ?_); (first | (with_reducible rfl) | rfl | (simp; done))) | ((with_reducible first | refine zgd ?_ | refine zge ?_); (first | omega | (simp; done))) | (refine co_wrap ⟨?_, ?_⟩ ?_ <;> omega) | (exact Co.refl _) | (exact CoL.refl _) | (exact CoLL.refl _) | (refine co_own ?_; omega) | (refine co_int ?_; first | omega | (simp_all; done)) | (with_reducible first | refine coL_cons ?_ ?_ | refine coL_consm ?_ ?_) | fail)
   rintro J hJ i ⟨h1, h2⟩
   unfold c_says_l1
   simp only [zT, puth, Nat.reduceEqDiff, reduceIte, Nat.reduceAdd] at h1 h2 ⊢
   rcases Nat.lt_or_ge i args.length with hi | hi
   ·have hi2 : i < A.w.length := by have := hlen.out; omega
    rw [wideAny_drop hi hi2] at h2
    have hms := fun q => mask_s A.w[i] (hAm.out _ (List.getElem_mem hi2)) q
    generalize hw : A.w[i] = w at h2 hms
    generalize hx : args[i] = x at h2
    have wi : IntKind.i64.wrap ((i : Int) + 1) = (i : Int) + 1 := i64_add_ (by omega) (by omega)
    replace h2 := Lib.hid h2
    cases hv : wideI x w
    ·unfold wideI at hv
     repeat' (first | (with_reducible first | refine zA ?_ | refine swp_block1 ?_ | refine swp_block2 ?_ | refine zK ?_) | ((with_reducible first | refine swp_reg ?_ | refine swp_regd (by rw [hP]; exact mixed) ?_); (try rw [hP]); simp -implicitDefEqProofs [*]) | ((with_reducible first | refine swp_skip ?_ | refine swp_exit ?_); (try simp -implicitDefEqProofs [*])) | ((with_reducible refine swp_ret ?_); (try simp only [qseq_r, qblock_r, qloop_r])) | ((with_reducible refine swp_cond rfl (fun h => ?_) (fun h => ?_)) <;> have h' := h <;> (try simp at h') <;> (try subst h')) | ((with_reducible refine sopsg_cases (fun h => ?_) (fun h => ?_)) <;> have h' := h <;> (try simp at h') <;> (try subst h') <;> simp -implicitDefEqProofs [*]) | ((with_reducible refine sopsk_rg ?_ ?_); (first | omega | (unfold maxLen; omega)); simp -implicitDefEqProofs [*]) | (refine call_q (hms _) ?_; simp -implicitDefEqProofs [*]) | (with_reducible first | refine zM hm ?_ | refine zN hm ?_ | refine zO hm ?_ | refine zP hm ?_) | ((with_reducible refine wk_self [] hm ?_ ?_ ?_ ?_) <;> (try simp only [zT, puth, Nat.reduceEqDiff, reduceIte, Nat.reduceAdd])) | (with_reducible first | refine za ?_ ?_ | refine zb ?_ ?_ ?_ ?_ | refine zc ?_ ?_ ?_ ?_ | refine zd ?_ ?_ ?_ ?_ | refine objsM_abs ?_ ?_ | refine subH_cons ?_ ?_) | (with_reducible first | exact slotsM_nil | exact objsM_nil | exact subH_nil | exact coL_nilm | exact Co.refl _ | exact CoL.refl _ | exact CoLL.refl _) | ((with_reducible first | refine zga ?_ | refine zgb ?_); rfl) | ((with_reducible refine zgc ?_); (first | (with_reducible rfl) | rfl | (simp; done))) | ((with_reducible first | refine zgd ?_ | refine zge ?_); (first | omega | (simp; done))) | (refine co_wrap ⟨?_, ?_⟩ ?_ <;> omega) | (exact Co.refl _) | (exact CoL.refl _) | (exact CoLL.refl _) | (refine co_own ?_; omega) | (refine co_int ?_; first | omega | (simp_all; done)) | (with_reducible first | refine coL_cons ?_ ?_ | refine coL_consm ?_ ?_) | ((refine qfor_next hJ (i + 1) ?_ ?_ ?_; (with_reducible refine wk_self [] hm ?_ ?_ ?_ ?_) <;> (try simp only [zT, puth, Nat.reduceEqDiff, reduceIte, Nat.reduceAdd]))) | fail)
     refine ⟨by omega, ?_⟩
     rw [h2.out, show wideI x w = false from hv, Bool.false_or]
    ·unfold wideI at hv
     repeat' (first | (with_reducible first | refine zA ?_ | refine swp_block1 ?_ | refine swp_block2 ?_ | refine zK ?_) | ((with_reducible first | refine swp_reg ?_ | refine swp_regd (by rw [hP]; exact mixed) ?_); (try rw [hP]); simp -implicitDefEqProofs [*]) | ((with_reducible first | refine swp_skip ?_ | refine swp_exit ?_); (try simp -implicitDefEqProofs [*])) | ((with_reducible refine swp_ret ?_); (try simp only [qseq_r, qblock_r, qloop_r])) | ((with_reducible refine swp_cond rfl (fun h => ?_) (fun h => ?_)) <;> have h' := h <;> (try simp at h') <;> (try subst h')) | ((with_reducible refine sopsg_cases (fun h => ?_) (fun h => ?_)) <;> have h' := h <;> (try simp at h') <;> (try subst h') <;> simp -implicitDefEqProofs [*]) | ((with_reducible refine sopsk_rg ?_ ?_); (first | omega | (unfold maxLen; omega)); simp -implicitDefEqProofs [*]) | (refine call_q (hms _) ?_; simp -implicitDefEqProofs [*]) | (with_reducible first | refine zM hm ?_ | refine zN hm ?_ | refine zO hm ?_ | refine zP hm ?_) | fail)
     rw [h2.out, show wideI x w = true from hv]; rfl
   ·obtain rfl : i = args.length := by omega
    rw [List.drop_length] at h2
    replace h2 := Lib.hid h2
    repeat' (first | (with_reducible first | refine zA ?_ | refine swp_block1 ?_ | refine swp_block2 ?_ | refine zK ?_) | ((with_reducible first | refine swp_reg ?_ | refine swp_regd (by rw [hP]; exact mixed) ?_); (try rw [hP]); simp -implicitDefEqProofs [*]) | ((with_reducible first | refine swp_skip ?_ | refine swp_exit ?_); (try simp -implicitDefEqProofs [*])) | ((with_reducible refine swp_ret ?_); (try simp only [qseq_r, qblock_r, qloop_r])) | ((with_reducible refine swp_cond rfl (fun h => ?_) (fun h => ?_)) <;> have h' := h <;> (try simp at h') <;> (try subst h')) | ((with_reducible refine sopsg_cases (fun h => ?_) (fun h => ?_)) <;> have h' := h <;> (try simp at h') <;> (try subst h') <;> simp -implicitDefEqProofs [*]) | ((with_reducible refine sopsk_rg ?_ ?_); (first | omega | (unfold maxLen; omega)); simp -implicitDefEqProofs [*]) | (with_reducible first | refine zM hm ?_ | refine zN hm ?_ | refine zO hm ?_ | refine zP hm ?_) | fail)
    rw [h2.out]; rfl
  ·rw [if_pos (by simpa using hlen)] at hF
   have kl : ((args.length : Int) != (A.w.length : Int)) = true := by simp; omega
   replace hF := Lib.hid hF
   repeat' (first | (with_reducible first | refine zA ?_ | refine swp_block1 ?_ | refine swp_block2 ?_ | refine zK ?_) | ((with_reducible first | refine swp_reg ?_ | refine swp_regd (by rw [hP]; exact mixed) ?_); (try rw [hP]); simp -implicitDefEqProofs [*]) | ((with_reducible first | refine swp_skip ?_ | refine swp_exit ?_); (try simp -implicitDefEqProofs [*])) | ((with_reducible refine swp_ret ?_); (try simp only [qseq_r, qblock_r, qloop_r])) | ((with_reducible refine swp_cond rfl (fun h => ?_) (fun h => ?_)) <;> have h' := h <;> (try simp at h') <;> (try subst h')) | ((with_reducible refine sopsg_cases (fun h => ?_) (fun h => ?_)) <;> have h' := h <;> (try simp at h') <;> (try subst h') <;> simp -implicitDefEqProofs [*]) | ((with_reducible refine sopsk_rg ?_ ?_); (first | omega | (unfold maxLen; omega)); simp -implicitDefEqProofs [*]) | (refine call_q (hc _) ?_; simp -implicitDefEqProofs [*]) | (with_reducible first | refine zM hm ?_ | refine zN hm ?_ | refine zO hm ?_ | refine zP hm ?_) | fail)
   rw [hF.out]
set_option maxHeartbeats 4000000 in
theorem tcheck_s (t : TabD) (ws : List Int) (acts : List ActD) (ha : AW acts) (h1 : t.acts.length ≤ 1000000) (h2 : t.args.length ≤ 1000000) (h3 : ws.length ≤ 1000000) (h4 : acts.length ≤ 1000000) (q : Nat) : SCalls Try.prog 66 [.agg (tabc t), nums .i64 ws, .view 2 (acts.map actc)] [] q (.int .i64 (tableF t ws acts)) [] := by
 refine scalls_q ?_ (fun _ => rfl) (fun _ => rfl) rfl q
 refine scalls_of (N := 101) Try.func66 rfl rfl (by kernel_rfl) comp_c_tcheck (by simp) (by repeat' (first | exact trivial | refine And.intro ?_ ?_ | rfl | decide | exact PureR.ren _)) (by repeat' (first | exact trivial | refine And.intro ?_ ?_ | rfl | decide | exact PureR.ren _)) ?_
 rintro X hP hN hm
 have hsays := fun (hr : ∀ k ∈ t.acts, 0 ≤ k ∧ k < acts.length) q => says_s t acts t.def_ t.args ha h1 h2 hr q
 replace hsays := Lib.hid hsays
 replace ha := Lib.hid ha
 obtain ⟨n, hn⟩ : ∃ n, ws.length = n := ⟨_, rfl⟩
 obtain ⟨m, hma⟩ : ∃ m, t.acts.length = m := ⟨_, rfl⟩
 unfold c_tcheck
 by_cases g1 : t.kind < 1 ∨ 3 < t.kind
 ·have hz : tableF t ws acts = 5 := by unfold tableF; rw [if_pos g1]
  rw [hz]
  have k1 : (t.kind != 1) = true := by simp; omega
  have k2 : (t.kind != 2) = true := by simp; omega
  have k3 : (t.kind != 3) = true := by simp; omega
  replace g1 := Lib.hid g1
  repeat' (first | (with_reducible first | refine zA ?_ | refine swp_block1 ?_ | refine swp_block2 ?_ | refine zK ?_) | ((with_reducible first | refine swp_reg ?_ | refine swp_regd (by rw [hP]; exact mixed) ?_); (try rw [hP]); simp -implicitDefEqProofs [*]) | ((with_reducible first | refine swp_skip ?_ | refine swp_exit ?_); (try simp -implicitDefEqProofs [*])) | ((with_reducible refine swp_ret ?_); (try simp only [qseq_r, qblock_r, qloop_r])) | ((with_reducible refine swp_cond rfl (fun h => ?_) (fun h => ?_)) <;> have h' := h <;> (try simp at h') <;> (try subst h')) | ((with_reducible refine sopsg_cases (fun h => ?_) (fun h => ?_)) <;> have h' := h <;> (try simp at h') <;> (try subst h') <;> simp -implicitDefEqProofs [*]) | ((with_reducible refine sopsk_rg ?_ ?_); (first | omega | (unfold maxLen; omega)); simp -implicitDefEqProofs [*]) | (with_reducible first | refine zM hm ?_ | refine zN hm ?_ | refine zO hm ?_ | refine zP hm ?_) | fail)
  rfl
 by_cases g2 : ws.length < 1 ∨ 3 < ws.length ∨ (t.kind = 2 ∧ 1 < ws.length) ∨ t.acts.length < 1 ∨ 4 < t.acts.length
 ·have hz : tableF t ws acts = 2 := by unfold tableF; rw [if_neg g1, if_pos g2]
  rw [hz]
  replace g1 := Lib.hid g1
  replace g2 := Lib.hid g2
  repeat' (first | (with_reducible first | refine zA ?_ | refine swp_block1 ?_ | refine swp_block2 ?_ | refine zK ?_) | ((with_reducible first | refine swp_reg ?_ | refine swp_regd (by rw [hP]; exact mixed) ?_); (try rw [hP]); simp -implicitDefEqProofs [*]) | ((with_reducible first | refine swp_skip ?_ | refine swp_exit ?_); (try simp -implicitDefEqProofs [*])) | ((with_reducible refine swp_ret ?_); (try simp only [qseq_r, qblock_r, qloop_r])) | ((with_reducible refine swp_cond rfl (fun h => ?_) (fun h => ?_)) <;> have h' := h <;> (try simp at h') <;> (try subst h')) | ((with_reducible refine sopsg_cases (fun h => ?_) (fun h => ?_)) <;> have h' := h <;> (try simp at h') <;> (try subst h') <;> simp -implicitDefEqProofs [*]) | ((with_reducible refine sopsk_rg ?_ ?_); (first | omega | (unfold maxLen; omega)); simp -implicitDefEqProofs [*]) | (with_reducible first | refine zM hm ?_ | refine zN hm ?_ | refine zO hm ?_ | refine zP hm ?_) | fail)
  all_goals (first | rfl | (exfalso; have q := g2.out; have q1 := g1.out; omega))
 by_cases g3 : t.cap < 0 ∨ 16 < t.cap
 ·have hz : tableF t ws acts = 1 := by unfold tableF; rw [if_neg g1, if_neg g2, if_pos g3]
  rw [hz]
  replace g1 := Lib.hid g1
  replace g2 := Lib.hid g2
  replace g3 := Lib.hid g3
  repeat' (first | (with_reducible first | refine zA ?_ | refine swp_block1 ?_ | refine swp_block2 ?_ | refine zK ?_) | ((with_reducible first | refine swp_reg ?_ | refine swp_regd (by rw [hP]; exact mixed) ?_); (try rw [hP]); simp -implicitDefEqProofs [*]) | ((with_reducible first | refine swp_skip ?_ | refine swp_exit ?_); (try simp -implicitDefEqProofs [*])) | ((with_reducible refine swp_ret ?_); (try simp only [qseq_r, qblock_r, qloop_r])) | ((with_reducible refine swp_cond rfl (fun h => ?_) (fun h => ?_)) <;> have h' := h <;> (try simp at h') <;> (try subst h')) | ((with_reducible refine sopsg_cases (fun h => ?_) (fun h => ?_)) <;> have h' := h <;> (try simp at h') <;> (try subst h') <;> simp -implicitDefEqProofs [*]) | ((with_reducible refine sopsk_rg ?_ ?_); (first | omega | (unfold maxLen; omega)); simp -implicitDefEqProofs [*]) | (with_reducible first | refine zM hm ?_ | refine zN hm ?_ | refine zO hm ?_ | refine zP hm ?_) | fail)
  all_goals (first | rfl | (exfalso; have q := g2.out; have q1 := g1.out; have q3 := g3.out; omega))
 have hF : tableF t ws acts = if (ws.drop 0).any wOut = true then 6 else if (t.acts.drop 0).any (aOut acts.length) = true then 1 else saysF t.acts acts t.def_ t.args := by
  unfold tableF; rw [if_neg g1, if_neg g2, if_neg g3]; rfl
 generalize tableF t ws acts = F at hF
 replace hF := Lib.hid hF
 have l0 : ((ws.length : Int) == 0) = false := by rw [beq_eq_false_iff_ne]; omega
 have l3 : decide (3 < (ws.length : Int)) = false := by rw [decide_eq_false_iff_not]; omega
 have a0 : ((t.acts.length : Int) == 0) = false := by rw [beq_eq_false_iff_ne]; omega
 have a4 : decide (4 < (t.acts.length : Int)) = false := by rw [decide_eq_false_iff_not]; omega
 have q0 : decide (t.cap < 0) = false := by rw [decide_eq_false_iff_not]; omega
 have q16 : decide (16 < t.cap) = false := by rw [decide_eq_false_iff_not]; omega
 have hks : ((t.kind != 1) = false ∧ (t.kind == 2) = false) ∨ ((t.kind != 1) = true ∧ (t.kind != 2) = false ∧ (t.kind == 2) = true ∧ ((ws.length : Int) != 1) = false) ∨ ((t.kind != 1) = true ∧ (t.kind != 2) = true ∧ (t.kind != 3) = false ∧ (t.kind == 2) = false) := by
  by_cases e1 : t.kind = 1
  ·left; rw [e1]; exact ⟨rfl, rfl⟩
  by_cases e2 : t.kind = 2
  ·right; left; refine ⟨by simpa using e1, by simpa using e2, by simpa using e2, ?_⟩
   rw [bne_eq_false_iff_eq]; omega
  ·right; right; refine ⟨by simpa using e1, by simpa using e2, ?_, by simpa using e2⟩
   rw [bne_eq_false_iff_eq]; omega
 clear g1 g2 g3 hn hma n m
 rcases hks with ⟨k1, k2⟩ | ⟨k1, k2, k3, k4⟩ | ⟨k1, k2, k3, k4⟩
 all_goals
  repeat' (first | (with_reducible first | refine zA ?_ | refine swp_block1 ?_ | refine swp_block2 ?_ | refine zK ?_) | ((with_reducible first | refine swp_reg ?_ | refine swp_regd (by rw [hP]; exact mixed) ?_); (try rw [hP]); simp -implicitDefEqProofs [*]) | ((with_reducible first | refine swp_skip ?_ | refine swp_exit ?_); (try simp -implicitDefEqProofs [*])) | ((with_reducible refine swp_ret ?_); (try simp only [qseq_r, qblock_r, qloop_r])) | ((with_reducible refine swp_cond rfl (fun h => ?_) (fun h => ?_)) <;> have h' := h <;> (try simp at h') <;> (try subst h')) | ((with_reducible refine sopsg_cases (fun h => ?_) (fun h => ?_)) <;> have h' := h <;> (try simp at h') <;> (try subst h') <;> simp -implicitDefEqProofs [*]) | ((with_reducible refine sopsk_rg ?_ ?_); (first | omega | (unfold maxLen; omega)); simp -implicitDefEqProofs [*]) | (with_reducible first | refine zM hm ?_ | refine zN hm ?_ | refine zO hm ?_ | refine zP hm ?_) | fail)
  clear k1 k2 a0 a4 q0 q16 l0 l3
  refine swp_block (swp_for (fun s (i : Nat) => s.turn [(67, .int .i64 i)] []) (fun i => i ≤ ws.length ∧ F = if (ws.drop i).any wOut = true then 6 else if (t.acts.drop 0).any (aOut acts.length) = true then 1 else saysF t.acts acts t.def_ t.args) (fun i => ws.length - i) 0 ?_ ⟨by simp, hF.out⟩ ?_)
  ·repeat' (first | ((with_reducible refine wk_self [] hm ?_ ?_ ?_ ?_) <;> (try simp only [zT, puth, Nat.reduceEqDiff, reduceIte, Nat.reduceAdd])) | (with_reducible first | refine za ?_ ?_ | refine zb ?_ ?_ ?_ ?_ | refine zc ?_ ?_ ?_ ?_ | refine zd ?_ ?_ ?_ ?_ | refine objsM_abs ?_ ?_ | refine subH_cons ?_ ?_) | (with_reducible first | exact slotsM_nil | exact objsM_nil | exact subH_nil | exact coL_nilm | exact Co.refl _ | exact CoL.refl _ | exact CoLL.refl _) | ((with_reducible first | refine zga ?_ | refine zgb ?_); rfl) | ((with_reducible refine zgc ?_); (first | (with_reducible rfl) | rfl | (simp; done))) | ((with_reducible first | refine zgd ?_ | refine zge ?_); (first | omega | (simp; done))) | (refine co_wrap ⟨?_, ?_⟩ ?_ <;> omega) | (exact Co.refl _) | (exact CoL.refl _) | (exact CoLL.refl _) | (refine co_own ?_; omega) | (refine co_int ?_; first | omega | (simp_all; done)) | (with_reducible first | refine coL_cons ?_ ?_ | refine coL_consm ?_ ?_) | fail)
  rintro J hJ i ⟨h5, h6⟩
  unfold c_tcheck_l1
  simp only [zT, puth, Nat.reduceEqDiff, reduceIte, Nat.reduceAdd] at h5 h6 ⊢
  rcases Nat.lt_or_ge i ws.length with hi | hi
  ·rw [any_drop _ hi] at h6
   generalize hxx : ws[i] = x at h6
   have wi : IntKind.i64.wrap ((i : Int) + 1) = (i : Int) + 1 := i64_add_ (by omega) (by omega)
   replace h6 := Lib.hid h6
   cases hv : wOut x
   ·have hv1 : decide (x < 1) = false ∧ decide (48 < x) = false := by simpa [wOut] using hv
    obtain ⟨v1, v2⟩ := hv1
    repeat' (first | (with_reducible first | refine zA ?_ | refine swp_block1 ?_ | refine swp_block2 ?_ | refine zK ?_) | ((with_reducible first | refine swp_reg ?_ | refine swp_regd (by rw [hP]; exact mixed) ?_); (try rw [hP]); simp -implicitDefEqProofs [*]) | ((with_reducible first | refine swp_skip ?_ | refine swp_exit ?_); (try simp -implicitDefEqProofs [*])) | ((with_reducible refine swp_ret ?_); (try simp only [qseq_r, qblock_r, qloop_r])) | ((with_reducible refine swp_cond rfl (fun h => ?_) (fun h => ?_)) <;> have h' := h <;> (try simp at h') <;> (try subst h')) | ((with_reducible refine sopsg_cases (fun h => ?_) (fun h => ?_)) <;> have h' := h <;> (try simp at h') <;> (try subst h') <;> simp -implicitDefEqProofs [*]) | ((with_reducible refine sopsk_rg ?_ ?_); (first | omega | (unfold maxLen; omega)); simp -implicitDefEqProofs [*]) | (with_reducible first | refine zM hm ?_ | refine zN hm ?_ | refine zO hm ?_ | refine zP hm ?_) | ((with_reducible refine wk_self [] hm ?_ ?_ ?_ ?_) <;> (try simp only [zT, puth, Nat.reduceEqDiff, reduceIte, Nat.reduceAdd])) | (with_reducible first | refine za ?_ ?_ | refine zb ?_ ?_ ?_ ?_ | refine zc ?_ ?_ ?_ ?_ | refine zd ?_ ?_ ?_ ?_ | refine objsM_abs ?_ ?_ | refine subH_cons ?_ ?_) | (with_reducible first | exact slotsM_nil | exact objsM_nil | exact subH_nil | exact coL_nilm | exact Co.refl _ | exact CoL.refl _ | exact CoLL.refl _) | ((with_reducible first | refine zga ?_ | refine zgb ?_); rfl) | ((with_reducible refine zgc ?_); (first | (with_reducible rfl) | rfl | (simp; done))) | ((with_reducible first | refine zgd ?_ | refine zge ?_); (first | omega | (simp; done))) | (refine co_wrap ⟨?_, ?_⟩ ?_ <;> omega) | (exact Co.refl _) | (exact CoL.refl _) | (exact CoLL.refl _) | (refine co_own ?_; omega) | (refine co_int ?_; first | omega | (simp_all; done)) | (with_reducible first | refine coL_cons ?_ ?_ | refine coL_consm ?_ ?_) | ((refine qfor_next hJ (i + 1) ?_ ?_ ?_; (with_reducible refine wk_self [] hm ?_ ?_ ?_ ?_) <;> (try simp only [zT, puth, Nat.reduceEqDiff, reduceIte, Nat.reduceAdd]))) | fail)
    exact ⟨by omega, by rw [h6.out, hv, Bool.false_or]⟩
   ·replace hv := Lib.hid hv
    repeat' (first | (with_reducible first | refine zA ?_ | refine swp_block1 ?_ | refine swp_block2 ?_ | refine zK ?_) | ((with_reducible first | refine swp_reg ?_ | refine swp_regd (by rw [hP]; exact mixed) ?_); (try rw [hP]); simp -implicitDefEqProofs [*]) | ((with_reducible first | refine swp_skip ?_ | refine swp_exit ?_); (try simp -implicitDefEqProofs [*])) | ((with_reducible refine swp_ret ?_); (try simp only [qseq_r, qblock_r, qloop_r])) | ((with_reducible refine swp_cond rfl (fun h => ?_) (fun h => ?_)) <;> have h' := h <;> (try simp at h') <;> (try subst h')) | ((with_reducible refine sopsg_cases (fun h => ?_) (fun h => ?_)) <;> have h' := h <;> (try simp at h') <;> (try subst h') <;> simp -implicitDefEqProofs [*]) | ((with_reducible refine sopsk_rg ?_ ?_); (first | omega | (unfold maxLen; omega)); simp -implicitDefEqProofs [*]) | (with_reducible first | refine zM hm ?_ | refine zN hm ?_ | refine zO hm ?_ | refine zP hm ?_) | ((with_reducible refine wk_self [] hm ?_ ?_ ?_ ?_) <;> (try simp only [zT, puth, Nat.reduceEqDiff, reduceIte, Nat.reduceAdd])) | (with_reducible first | refine za ?_ ?_ | refine zb ?_ ?_ ?_ ?_ | refine zc ?_ ?_ ?_ ?_ | refine zd ?_ ?_ ?_ ?_ | refine objsM_abs ?_ ?_ | refine subH_cons ?_ ?_) | (with_reducible first | exact slotsM_nil | exact objsM_nil | exact subH_nil | exact coL_nilm | exact Co.refl _ | exact CoL.refl _ | exact CoLL.refl _) | ((with_reducible first | refine zga ?_ | refine zgb ?_); rfl) | ((with_reducible refine zgc ?_); (first | (with_reducible rfl) | rfl | (simp; done))) | ((with_reducible first | refine zgd ?_ | refine zge ?_); (first | omega | (simp; done))) | (refine co_wrap ⟨?_, ?_⟩ ?_ <;> omega) | (exact Co.refl _) | (exact CoL.refl _) | (exact CoLL.refl _) | (refine co_own ?_; omega) | (refine co_int ?_; first | omega | (simp_all; done)) | (with_reducible first | refine coL_cons ?_ ?_ | refine coL_consm ?_ ?_) | ((refine qfor_next hJ (i + 1) ?_ ?_ ?_; (with_reducible refine wk_self [] hm ?_ ?_ ?_ ?_) <;> (try simp only [zT, puth, Nat.reduceEqDiff, reduceIte, Nat.reduceAdd]))) | fail)
    all_goals (first | (exfalso; have q := hv.out; simp only [wOut, Bool.or_eq_true, decide_eq_true_eq] at q; omega) | (rw [h6.out, hv.out]; rfl))
  ·obtain rfl : i = ws.length := by omega
   have h7 : F = if (t.acts.drop 0).any (aOut acts.length) = true then 1 else saysF t.acts acts t.def_ t.args := by rw [h6, List.drop_length]; rfl
   replace h7 := Lib.hid h7
   replace h6 := Lib.hid h6
   repeat' (first | (with_reducible first | refine zA ?_ | refine swp_block1 ?_ | refine swp_block2 ?_ | refine zK ?_) | ((with_reducible first | refine swp_reg ?_ | refine swp_regd (by rw [hP]; exact mixed) ?_); (try rw [hP]); simp -implicitDefEqProofs [*]) | ((with_reducible first | refine swp_skip ?_ | refine swp_exit ?_); (try simp -implicitDefEqProofs [*])) | ((with_reducible refine swp_ret ?_); (try simp only [qseq_r, qblock_r, qloop_r])) | ((with_reducible refine swp_cond rfl (fun h => ?_) (fun h => ?_)) <;> have h' := h <;> (try simp at h') <;> (try subst h')) | ((with_reducible refine sopsg_cases (fun h => ?_) (fun h => ?_)) <;> have h' := h <;> (try simp at h') <;> (try subst h') <;> simp -implicitDefEqProofs [*]) | ((with_reducible refine sopsk_rg ?_ ?_); (first | omega | (unfold maxLen; omega)); simp -implicitDefEqProofs [*]) | (with_reducible first | refine zM hm ?_ | refine zN hm ?_ | refine zO hm ?_ | refine zP hm ?_) | fail)
   refine swp_block (swp_for (fun s (i : Nat) => s.turn [(81, .int .i64 i)] []) (fun i => i ≤ t.acts.length ∧ (∀ k ∈ t.acts.take i, aOut acts.length k = false) ∧ F = if (t.acts.drop i).any (aOut acts.length) = true then 1 else saysF t.acts acts t.def_ t.args) (fun i => t.acts.length - i) 0 ?_ ⟨by simp, by simp, h7.out⟩ ?_)
   ·repeat' (first | ((with_reducible refine wk_self [] hm ?_ ?_ ?_ ?_) <;> (try simp only [zT, puth, Nat.reduceEqDiff, reduceIte, Nat.reduceAdd])) | (with_reducible first | refine za ?_ ?_ | refine zb ?_ ?_ ?_ ?_ | refine zc ?_ ?_ ?_ ?_ | refine zd ?_ ?_ ?_ ?_ | refine objsM_abs ?_ ?_ | refine subH_cons ?_ ?_) | (with_reducible first | exact slotsM_nil | exact objsM_nil | exact subH_nil | exact coL_nilm | exact Co.refl _ | exact CoL.refl _ | exact CoLL.refl _) | ((with_reducible first | refine zga ?_ | refine zgb ?_); rfl) | ((with_reducible refine zgc ?_); (first | (with_reducible rfl) | rfl | (simp; done))) | ((with_reducible first | refine zgd ?_ | refine zge ?_); (first | omega | (simp; done))) | (refine co_wrap ⟨?_, ?_⟩ ?_ <;> omega) | (exact Co.refl _) | (exact CoL.refl _) | (exact CoLL.refl _) | (refine co_own ?_; omega) | (refine co_int ?_; first | omega | (simp_all; done)) | (with_reducible first | refine coL_cons ?_ ?_ | refine coL_consm ?_ ?_) | fail)
   rintro J hJ i ⟨h8, h9, h10⟩
   unfold c_tcheck_l2
   simp only [zT, puth, Nat.reduceEqDiff, reduceIte, Nat.reduceAdd] at h8 h9 h10 ⊢
   replace h9 := Lib.hid h9
   rcases Nat.lt_or_ge i t.acts.length with hi | hi
   ·rw [any_drop _ hi] at h10
    have htk : t.acts.take (i + 1) = t.acts.take i ++ [t.acts[i]] := List.take_succ_eq_append_getElem hi
    generalize hxx : t.acts[i] = x at h10 htk
    have wi : IntKind.i64.wrap ((i : Int) + 1) = (i : Int) + 1 := i64_add_ (by omega) (by omega)
    replace h10 := Lib.hid h10
    replace htk := Lib.hid htk
    cases hv : aOut acts.length x
    ·have hv1 : decide (x < 0) = false ∧ decide ((acts.length : Int) ≤ x) = false := by simpa [aOut] using hv
     obtain ⟨v1, v2⟩ := hv1
     replace hv := Lib.hid hv
     repeat' (first | (with_reducible first | refine zA ?_ | refine swp_block1 ?_ | refine swp_block2 ?_ | refine zK ?_) | ((with_reducible first | refine swp_reg ?_ | refine swp_regd (by rw [hP]; exact mixed) ?_); (try rw [hP]); simp -implicitDefEqProofs [*]) | ((with_reducible first | refine swp_skip ?_ | refine swp_exit ?_); (try simp -implicitDefEqProofs [*])) | ((with_reducible refine swp_ret ?_); (try simp only [qseq_r, qblock_r, qloop_r])) | ((with_reducible refine swp_cond rfl (fun h => ?_) (fun h => ?_)) <;> have h' := h <;> (try simp at h') <;> (try subst h')) | ((with_reducible refine sopsg_cases (fun h => ?_) (fun h => ?_)) <;> have h' := h <;> (try simp at h') <;> (try subst h') <;> simp -implicitDefEqProofs [*]) | ((with_reducible refine sopsk_rg ?_ ?_); (first | omega | (unfold maxLen; omega)); simp -implicitDefEqProofs [*]) | (with_reducible first | refine zM hm ?_ | refine zN hm ?_ | refine zO hm ?_ | refine zP hm ?_) | ((with_reducible refine wk_self [] hm ?_ ?_ ?_ ?_) <;> (try simp only [zT, puth, Nat.reduceEqDiff, reduceIte, Nat.reduceAdd])) | (with_reducible first | refine za ?_ ?_ | refine zb ?_ ?_ ?_ ?_ | refine zc ?_ ?_ ?_ ?_ | refine zd ?_ ?_ ?_ ?_ | refine objsM_abs ?_ ?_ | refine subH_cons ?_ ?_) | (with_reducible first | exact slotsM_nil | exact objsM_nil | exact subH_nil | exact coL_nilm | exact Co.refl _ | exact CoL.refl _ | exact CoLL.refl _) | ((with_reducible first | refine zga ?_ | refine zgb ?_); rfl) | ((with_reducible refine zgc ?_); (first | (with_reducible rfl) | rfl | (simp; done))) | ((with_reducible first | refine zgd ?_ | refine zge ?_); (first | omega | (simp; done))) | (refine co_wrap ⟨?_, ?_⟩ ?_ <;> omega) | (exact Co.refl _) | (exact CoL.refl _) | (exact CoLL.refl _) | (refine co_own ?_; omega) | (refine co_int ?_; first | omega | (simp_all; done)) | (with_reducible first | refine coL_cons ?_ ?_ | refine coL_consm ?_ ?_) | ((refine qfor_next hJ (i + 1) ?_ ?_ ?_; (with_reducible refine wk_self [] hm ?_ ?_ ?_ ?_) <;> (try simp only [zT, puth, Nat.reduceEqDiff, reduceIte, Nat.reduceAdd]))) | fail)
     refine ⟨by omega, fun k hk => ?_, by rw [h10.out, hv.out, Bool.false_or]⟩
     rw [htk.out, List.mem_append] at hk
     rcases hk with hk | hk
     ·exact h9.out k hk
     ·rw [List.mem_singleton.1 hk]; exact hv.out
    ·replace hv := Lib.hid hv
     repeat' (first | (with_reducible first | refine zA ?_ | refine swp_block1 ?_ | refine swp_block2 ?_ | refine zK ?_) | ((with_reducible first | refine swp_reg ?_ | refine swp_regd (by rw [hP]; exact mixed) ?_); (try rw [hP]); simp -implicitDefEqProofs [*]) | ((with_reducible first | refine swp_skip ?_ | refine swp_exit ?_); (try simp -implicitDefEqProofs [*])) | ((with_reducible refine swp_ret ?_); (try simp only [qseq_r, qblock_r, qloop_r])) | ((with_reducible refine swp_cond rfl (fun h => ?_) (fun h => ?_)) <;> have h' := h <;> (try simp at h') <;> (try subst h')) | ((with_reducible refine sopsg_cases (fun h => ?_) (fun h => ?_)) <;> have h' := h <;> (try simp at h') <;> (try subst h') <;> simp -implicitDefEqProofs [*]) | ((with_reducible refine sopsk_rg ?_ ?_); (first | omega | (unfold maxLen; omega)); simp -implicitDefEqProofs [*]) | (with_reducible first | refine zM hm ?_ | refine zN hm ?_ | refine zO hm ?_ | refine zP hm ?_) | ((with_reducible refine wk_self [] hm ?_ ?_ ?_ ?_) <;> (try simp only [zT, puth, Nat.reduceEqDiff, reduceIte, Nat.reduceAdd])) | (with_reducible first | refine za ?_ ?_ | refine zb ?_ ?_ ?_ ?_ | refine zc ?_ ?_ ?_ ?_ | refine zd ?_ ?_ ?_ ?_ | refine objsM_abs ?_ ?_ | refine subH_cons ?_ ?_) | (with_reducible first | exact slotsM_nil | exact objsM_nil | exact subH_nil | exact coL_nilm | exact Co.refl _ | exact CoL.refl _ | exact CoLL.refl _) | ((with_reducible first | refine zga ?_ | refine zgb ?_); rfl) | ((with_reducible refine zgc ?_); (first | (with_reducible rfl) | rfl | (simp; done))) | ((with_reducible first | refine zgd ?_ | refine zge ?_); (first | omega | (simp; done))) | (refine co_wrap ⟨?_, ?_⟩ ?_ <;> omega) | (exact Co.refl _) | (exact CoL.refl _) | (exact CoLL.refl _) | (refine co_own ?_; omega) | (refine co_int ?_; first | omega | (simp_all; done)) | (with_reducible first | refine coL_cons ?_ ?_ | refine coL_consm ?_ ?_) | ((refine qfor_next hJ (i + 1) ?_ ?_ ?_; (with_reducible refine wk_self [] hm ?_ ?_ ?_ ?_) <;> (try simp only [zT, puth, Nat.reduceEqDiff, reduceIte, Nat.reduceAdd]))) | fail)
     all_goals (first | (exfalso; have q := hv.out; simp only [aOut, Bool.or_eq_true, decide_eq_true_eq] at q; omega) | (rw [h10.out, hv.out]; rfl))
   ·obtain rfl : i = t.acts.length := by omega
    have h11 : ∀ k ∈ t.acts, 0 ≤ k ∧ k < acts.length := fun k hk => by
     have := h9.out k (by rw [List.take_length]; exact hk)
     unfold aOut at this; rw [Bool.or_eq_false_iff, decide_eq_false_iff_not, decide_eq_false_iff_not] at this; omega
    have h12 : F = saysF t.acts acts t.def_ t.args := by rw [h10, List.drop_length]; rfl
    have hs := hsays.out h11
    replace hs := Lib.hid hs
    replace h11 := Lib.hid h11
    replace h10 := Lib.hid h10
    replace h12 := Lib.hid h12
    repeat' (first | (with_reducible first | refine zA ?_ | refine swp_block1 ?_ | refine swp_block2 ?_ | refine zK ?_) | ((with_reducible first | refine swp_reg ?_ | refine swp_regd (by rw [hP]; exact mixed) ?_); (try rw [hP]); simp -implicitDefEqProofs [*]) | ((with_reducible first | refine swp_skip ?_ | refine swp_exit ?_); (try simp -implicitDefEqProofs [*])) | ((with_reducible refine swp_ret ?_); (try simp only [qseq_r, qblock_r, qloop_r])) | ((with_reducible refine swp_cond rfl (fun h => ?_) (fun h => ?_)) <;> have h' := h <;> (try simp at h') <;> (try subst h')) | ((with_reducible refine sopsg_cases (fun h => ?_) (fun h => ?_)) <;> have h' := h <;> (try simp at h') <;> (try subst h') <;> simp -implicitDefEqProofs [*]) | ((with_reducible refine sopsk_rg ?_ ?_); (first | omega | (unfold maxLen; omega)); simp -implicitDefEqProofs [*]) | (refine call_q (hs.out _) ?_; simp -implicitDefEqProofs [*]) | (with_reducible first | refine zM hm ?_ | refine zN hm ?_ | refine zO hm ?_ | refine zP hm ?_) | fail)
    rw [h12.out]
end Go.Proofs.Ytnfjldobjgdiaaa
