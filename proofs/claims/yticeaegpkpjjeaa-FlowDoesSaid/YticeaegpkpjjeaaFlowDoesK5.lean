/-
  Texts joined: XCwlk XCpls XCplu XPlnX XPlnY XWlkC XWlkD XWlkE. No condition.
-/
import Derived.Test.YticeaegpkpjjeaaProg
import Derived.ProofKit
import Derived.WalkSpells
import Derived.RegionTactic
import Derived.BigRegion
import Derived.Deep.RegionLaw
import Derived.Test.YticeaegpkpjjeaaFlowDoesK4
namespace Go.Proofs.Yticeaegpkpjjeaa
set_option linter.all false
open Go.RowKit
abbrev qa6y : List SOper := [Oa 2 (.box 45 (.t 0)), Oa 3 (.box 45 (.t 1)), Oa 4 (.alloc 45 [(.int .u64 0), (.int .u64 0), (.int .i64 0), (.int .i64 0), (.bool false)])]
abbrev qa6x : List SOper := [Oa 5 (.faddr 4 (.t 2)), Oa 6 (.load (.t 5)), Oa 7 (.un .not (.t 6))]
abbrev qa6w : List SOper := [Oa 8 (.loads 5 (.t 3)), Ob (.store 5 (.t 4) (.t 8))]
abbrev qa6v : List SOper := [Oa 9 (.faddr 0 (.t 2)), Oa 10 (.load (.t 9)), Oa 11 (.faddr 0 (.t 3)), Oa 12 (.load (.t 11)), Oa 13 (.bin .and (.t 10) (.t 12)), Oa 14 (.faddr 1 (.t 2)), Oa 15 (.load (.t 14)), Oa 16 (.faddr 1 (.t 3)), Oa 17 (.load (.t 16)), Oa 18 (.bin .or (.t 15) (.t 17)), Oa 19 (.faddr 2 (.t 2)), Oa 20 (.load (.t 19)), Oa 21 (.faddr 2 (.t 3)), Oa 22 (.load (.t 21)), Oa 23 (.mm false (.t 20) (.t 22)), Oa 24 (.faddr 3 (.t 2)), Oa 25 (.load (.t 24)), Oa 26 (.faddr 3 (.t 3)), Oa 27 (.load (.t 26)), Oa 28 (.mm true (.t 25) (.t 27)), Oa 29 (.build [(.int .u64 0), (.int .u64 0), (.int .i64 0), (.int .i64 0), (.bool false)] [(0, 1, (.t 13)), (1, 1, (.t 18)), (2, 1, (.t 23)), (3, 1, (.t 28)), (4, 1, (.c (.bool true)))]), Ob (.store 5 (.t 4) (.t 29))]
def c_wjoin : SCode := (.seq (.reg false qa6y [2, 3, 4]) (.seq (.seq (.reg false qa6x [2, 3, 4, 7]) (.cond (.t 7) (.seq (.reg false qa6w [4]) .ret) .skip)) (.seq (.reg false qa6v [4]) .ret)))
theorem qanw : comp Try.prog 30 ((Try.f129.body).getD .skip) = some c_wjoin.erase := by kernel_rfl
abbrev qa69 : List SOper := [Oa 8 (.mv (.t 1)), Oa 9 (.mv (.t 8)), Oe 10 (.mv (.t 0)) 9 true, Oe 11 (.nilc (.t 10)) 9 true, Oe 12 (.faddr 8 (.t 11)) 9 true, Oe 13 (.faddr 0 (.t 12)) 9 true, Oe 14 (.load (.t 13)) 9 true, Oe 15 (.bin .eql (.t 14) (.c (.int .i64 0))) 9 true, Oa 16 (.pick (.t 9) (.t 15) (.c (.bool false)))]
abbrev qa68 : List SOper := [Oa 17 (.mv (.t 0)), Oa 18 (.mv (.t 2)), Oa 19 (.mv (.t 3)), Oa 20 (.build [(.int .i64 0), (.int .i64 0)] [(0, 1, (.t 18)), (1, 1, (.t 19))]), Oa 21 (.nilc (.t 17)), Oa 22 (.faddr 8 (.t 21)), Ob (.store 2 (.t 22) (.t 20))]
def c_wfail : SCode := (.seq (.reg false qa69 [0, 2, 3, 16]) (.cond (.t 16) (.reg false qa68 []) .skip))
theorem qany : comp Try.prog 23 ((Try.f90.body).getD .skip) = some c_wfail.erase := by kernel_rfl
abbrev qbky : List SOper := [Oa 5 (.box 45 (.t 2))]
abbrev qbkx : List SOper := [Oa 6 (.mv (.t 1)), Oa 7 (.bin .eql (.t 6) (.c (.int .i64 1000)))]
abbrev qbkw : List SOper := [Oa 8 (.mv (.t 0)), Oa 9 (.nilc (.t 8)), Oa 10 (.faddr 0 (.t 9)), Oa 11 (.faddr 2 (.t 10)), Oa 12 (.load (.t 11)), Oa 13 (.len false (.t 12)), Oa 1 (.mv (.t 13))]
abbrev qbkv : List SOper := [Oa 14 (.mv (.t 1)), Oa 15 (.mv (.t 0)), Oa 16 (.nilc (.t 15)), Oa 17 (.faddr 0 (.t 16)), Oa 18 (.faddr 2 (.t 17)), Oa 19 (.load (.t 18)), Oa 20 (.len false (.t 19)), Oa 21 (.bin .leq (.t 14) (.t 20))]
abbrev qbku : List SOper := [Oa 22 (.mv (.t 0)), Od 23 (.nilc (.t 22)) 1, Od 24 (.faddr 7 (.t 23)) 3, Od 25 (.load (.t 24)) 7, Oa 26 (.mv (.t 1)), Oa 27 (.mv (.t 0)), Od 28 (.nilc (.t 27)) 32, Od 29 (.faddr 7 (.t 28)) 96, Od 30 (.load (.t 29)) 224, Oa 31 (.mv (.t 1)), Od 32 (.iaddr 5 (.t 30) (.t 31)) 992, Od 33 (.loads 5 (.t 32)) 2016, Oa 34 (.loads 5 (.t 5)), ⟨(some 35), .mv (.c .any), some ((.c (.fn (.func 129) [] [])), [(.t 33), (.t 34)]), none, 8160⟩, Od 36 (.iaddr 5 (.t 25) (.t 26)) 16383, ⟨none, .store 5 (.t 36) (.t 35), none, none, 32767⟩]
def c_wto : SCode := (.seq (.reg false qbky [0, 1, 5]) (.seq (.seq (.reg false qbkx [0, 1, 5, 7]) (.cond (.t 7) (.reg false qbkw [0, 1, 5]) .skip)) (.seq (.reg false qbkv [0, 1, 5, 21]) (.cond (.t 21) (.reg true qbku []) .skip))))
theorem qa6i : comp Try.prog 37 ((Try.f92.body).getD .skip) = some c_wto.erase := by kernel_rfl
abbrev qbgg : List SOper := [Oa 2 (.mv (.c (.int .u64 0)))]
abbrev qbgf : List SOper := [Oa 3 (.mv (.t 0)), Oa 4 (.bin .shl (.c (.int .u64 1)) (.t 3)), Oa 2 (.mv (.t 4))]
def c_wbit : SCode := (.seq (.reg false qbgg [0]) (.seq (.reg false qbgf [2]) .ret))
theorem qato : comp Try.prog 5 ((Try.f91.body).getD .skip) = some c_wbit.erase := by kernel_rfl
abbrev qauc : List SOper := [Oa 10 (.mv (.t 0)), Od 11 (.nilc (.t 10)) 1, Od 12 (.faddr 0 (.t 11)) 3, Od 13 (.faddr 2 (.t 12)) 7, Od 14 (.load (.t 13)) 15, Oa 15 (.mv (.t 1)), Od 16 (.iaddr 5 (.t 14) (.t 15)) 63, Od 17 (.loads 5 (.t 16)) 127, Oa 18 (.mv (.t 0)), Od 19 (.nilc (.t 18)) 256, Od 20 (.faddr 7 (.t 19)) 768, Od 21 (.load (.t 20)) 1792, Oa 22 (.mv (.t 1)), Od 23 (.iaddr 5 (.t 21) (.t 22)) 7936, Od 24 (.loads 5 (.t 23)) 16128, Oa 4 (.alloc 105 [(.int .i64 0), (.int .i64 0), (.int .i64 0), .nilsl, (.int .i64 0)]), Oa 5 (.alloc 45 [(.int .u64 0), (.int .u64 0), (.int .i64 0), (.int .i64 0), (.bool false)]), ⟨none, .store 5 (.t 4) (.t 17), none, none, 98559⟩, ⟨none, .store 5 (.t 5) (.t 24), none, none, 262143⟩]
abbrev qaub : List SOper := [Oa 25 (.faddr 4 (.t 5)), Oa 26 (.load (.t 25)), Oa 27 (.un .not (.t 26))]
abbrev qaua : List SOper := [Oa 28 (.faddr 0 (.t 4)), Oa 29 (.load (.t 28)), Oa 30 (.bin .geq (.t 29) (.c (.int .i64 0)))]
abbrev qat9 : List SOper := [Oa 31 (.mv (.t 0)), Oa 32 (.faddr 1 (.t 5)), Od 33 (.load (.t 32)) 2, Oa 34 (.faddr 0 (.t 4)), Od 35 (.load (.t 34)) 8, ⟨(some 36), .mv (.c .any), some ((.c (.fn (.func 91) [] [])), [(.t 35)]), none, 24⟩, Od 37 (.bin .and (.t 33) (.t 36)) 62, Od 38 (.bin .neq (.t 37) (.c (.int .u64 0))) 126, Oa 39 (.mv (.t 1)), Od 40 (.bin .add (.c (.int .i64 3000)) (.t 39)) 256, ⟨(some 41), .mv (.c .any), some ((.c (.fn (.func 90) [] [])), [(.t 31), (.t 38), (.c (.int .i64 7)), (.t 40)]), none, 1023⟩]
abbrev qat8 : List SOper := [Oa 43 (.mv (.t 0)), Od 44 (.nilc (.t 43)) 1, Od 45 (.faddr 0 (.t 44)) 3, Od 46 (.faddr 0 (.t 45)) 7, Od 47 (.load (.t 46)) 15, Oa 48 (.faddr 0 (.t 4)), Od 49 (.load (.t 48)) 32, Od 50 (.iaddr 1 (.t 47) (.t 49)) 127, Od 51 (.loads 1 (.t 50)) 255, ⟨(some 52), .mv (.c .any), some ((.c (.fn (.func 83) [] [])), [(.t 51)]), none, 511⟩, Od 42 (.mv (.t 52)) 1023, Od 53 (.extr (.t 42) 0) 2047, Od 54 (.extr (.t 42) 1) 2047, Oa 7 (.alloc 35 [(.int .i64 0), (.int .i64 0)]), Od 6 (.mv (.t 53)) 12287, ⟨none, .store 2 (.t 7) (.t 54), none, none, 32767⟩]
abbrev qat7 : List SOper := [Oa 55 (.faddr 0 (.t 5)), Od 56 (.load (.t 55)) 1, Oa 57 (.faddr 0 (.t 4)), Od 58 (.load (.t 57)) 4, ⟨(some 59), .mv (.c .any), some ((.c (.fn (.func 91) [] [])), [(.t 58)]), none, 12⟩, Od 60 (.bin .or (.t 56) (.t 59)) 31, Oa 61 (.faddr 1 (.t 5)), Od 62 (.load (.t 61)) 64, Oa 63 (.faddr 0 (.t 4)), Od 64 (.load (.t 63)) 256, ⟨(some 65), .mv (.c .any), some ((.c (.fn (.func 91) [] [])), [(.t 64)]), none, 796⟩, Od 66 (.bin .or (.t 62) (.t 65)) 2012, Oa 67 (.faddr 2 (.t 5)), Od 68 (.load (.t 67)) 4096, Oa 69 (.mv (.t 6)), Od 70 (.bin .add (.t 68) (.t 69)) 28672, Oa 71 (.faddr 3 (.t 5)), Od 72 (.load (.t 71)) 65536, Oa 73 (.mv (.t 6)), Od 74 (.bin .add (.t 72) (.t 73)) 458752, Od 75 (.build [(.int .u64 0), (.int .u64 0), (.int .i64 0), (.int .i64 0), (.bool false)] [(0, 1, (.t 60)), (1, 1, (.t 66)), (2, 1, (.t 70)), (3, 1, (.t 74)), (4, 1, (.c (.bool true)))]) 1048575, ⟨none, .store 5 (.t 5) (.t 75), none, none, 2097151⟩]
abbrev qat6 : List SOper := [Oa 76 (.faddr 3 (.t 4)), Oa 77 (.load (.t 76)), Oa 78 (.len false (.t 77)), Oa 79 (.bin .gtr (.t 78) (.c (.int .i64 0)))]
abbrev qat5 : List SOper := [Oa 80 (.mv (.t 0)), Oa 81 (.faddr 1 (.t 4)), Od 82 (.faddr 0 (.t 81)) 2, Od 83 (.load (.t 82)) 6, Od 84 (.bin .geq (.t 83) (.c (.int .i64 0))) 14, Od 85 (.mv (.t 84)) 30, Of 86 (.faddr 0 (.t 5)) 85 true 62, Of 87 (.load (.t 86)) 85 true 126, Of 88 (.faddr 1 (.t 4)) 85 true 62, Of 89 (.faddr 0 (.t 88)) 85 true 318, Of 90 (.load (.t 89)) 85 true 830, ⟨(some 91), .mv (.c .any), some ((.c (.fn (.func 91) [] [])), [(.t 90)]), (some (85, true)), 1854⟩, Of 92 (.bin .and (.t 87) (.t 91)) 85 true 4094, Of 93 (.bin .eql (.t 92) (.c (.int .u64 0))) 85 true 8190, Od 94 (.pick (.t 85) (.t 93) (.c (.bool false))) 16382, Oa 95 (.mv (.t 1)), Od 96 (.bin .add (.c (.int .i64 3000)) (.t 95)) 32768, ⟨(some 97), .mv (.c .any), some ((.c (.fn (.func 90) [] [])), [(.t 80), (.t 94), (.c (.int .i64 12)), (.t 96)]), none, 131071⟩]
abbrev qat4 : List SOper := [Oa 98 (.faddr 3 (.t 4)), Oa 99 (.load (.t 98)), Oa 100 (.len false (.t 99)), Oa 101 (.mv (.c (.int .i64 0)))]
abbrev qao3 : List SOper := [Oa 102 (.bin .lss (.t 101) (.t 100))]
abbrev qao2 : List SOper := [Oa 103 (.iaddr 3 (.t 99) (.t 101)), Oa 104 (.loads 3 (.t 103)), Oa 9 (.alloc 176 [(.int .u64 0), (.int .u64 0), (.int .i64 0)]), Ob (.store 3 (.t 9) (.t 104))]
abbrev qao1 : List SOper := [Oa 105 (.mv (.t 0)), Oa 106 (.faddr 2 (.t 9)), Oa 107 (.load (.t 106)), Oa 108 (.loads 5 (.t 5)), Oc 109 92 [(.t 105), (.t 107), (.t 108)]]
abbrev qao0 : List SOper := [Oa 110 (.bin .add (.t 101) (.c (.int .i64 1))), Oa 101 (.mv (.t 110))]
def c_wstate_l1 : SCode := (.seq (.reg false qao3 [0, 4, 5, 99, 100, 101, 102]) (.seq (.cond (.t 102) .skip (.exit 0)) (.seq (.block 1 (.seq (.reg false qao2 [0, 4, 5, 9, 99, 100, 101]) (.reg false qao1 [0, 4, 5, 99, 100, 101]))) (.reg false qao0 [0, 4, 5, 99, 100, 101]))))
abbrev qahx : List SOper := [Oa 111 (.mv (.t 0)), Oa 112 (.faddr 4 (.t 4)), Oa 113 (.load (.t 112)), Oa 114 (.loads 5 (.t 5)), Oc 115 92 [(.t 111), (.t 113), (.t 114)]]
def c_wstate : SCode := (.seq (.reg true qauc [0, 1, 4, 5]) (.seq (.seq (.reg false qaub [0, 1, 4, 5, 27]) (.cond (.t 27) .ret .skip)) (.seq (.seq (.reg false qaua [0, 1, 4, 5, 30]) (.cond (.t 30) (.seq (.reg true qat9 [0, 1, 4, 5]) (.seq (.reg true qat8 [0, 1, 4, 5, 6]) (.reg true qat7 [0, 1, 4, 5]))) .skip)) (.seq (.seq (.reg false qat6 [0, 1, 4, 5, 79]) (.cond (.t 79) (.reg true qat5 [0, 4, 5]) .skip)) (.seq (.seq (.reg false qat4 [0, 4, 5, 99, 100, 101]) (.block 0 (.loop c_wstate_l1))) (.reg false qahx []))))))
theorem qakq : comp Try.prog 116 ((Try.f45.body).getD .skip) = some c_wstate.erase := by kernel_rfl
abbrev qbgp : List SOper := [Oa 1 (.box 29 (.t 0)), Oa 2 (.mv (.c .nilsl)), Oa 3 (.alloc 35 [(.int .i64 0), (.int .i64 0)])]
abbrev qbgo : List SOper := [Oa 7 (.loads 7 (.t 1)), Oc 8 44 [(.t 7)], Oa 4 (.alloc 35 [(.int .i64 0), (.int .i64 0)]), Ob (.store 2 (.t 4) (.t 8))]
abbrev qbgn : List SOper := [Oa 9 (.faddr 0 (.t 4)), Oa 10 (.load (.t 9)), Oa 11 (.bin .neq (.t 10) (.c (.int .i64 0)))]
abbrev qbgm : List SOper := [Oa 12 (.loads 2 (.t 4)), Oa 2 (.mv (.c .nilsl)), ⟨none, .store 2 (.t 3) (.t 12), none, none, 3⟩]
abbrev qbgl : List SOper := [Oa 13 (.loads 7 (.t 1)), Oa 14 (.faddr 2 (.t 1)), Od 15 (.load (.t 14)) 2, Od 16 (.len false (.t 15)) 6, Od 17 (.bin .add (.t 16) (.c (.int .i64 1))) 14, Od 18 (.mkslice 45 5 40 [(.int .u64 0), (.int .u64 0), (.int .i64 0), (.int .i64 0), (.bool false)] (.t 17) (.t 17)) 30, Od 19 (.build [.nilsl, .nilsl, .nilsl, .nilsl, .nilsl, .nilsl, .nilsl, .nilsl, (.int .i64 0), (.int .i64 0)] [(0, 7, (.t 13)), (7, 1, (.t 18))]) 63, Od 20 (.box 119 (.t 19)) 127, Od 5 (.mv (.t 20)) 255]
abbrev qbgk : List SOper := [Oa 21 (.mv (.t 5)), Oa 22 (.nilc (.t 21)), Oa 23 (.faddr 7 (.t 22)), Oa 24 (.load (.t 23)), Oa 25 (.iaddr 5 (.t 24) (.c (.int .i64 0))), Oa 26 (.faddr 4 (.t 25)), Ob (.store 1 (.t 26) (.c (.bool true)))]
abbrev qbgj : List SOper := [Oa 27 (.faddr 2 (.t 1)), Oa 28 (.load (.t 27)), Oa 29 (.len false (.t 28)), Oa 30 (.mv (.c (.int .i64 0)))]
abbrev qbgi : List SOper := [Oa 31 (.bin .lss (.t 30) (.t 29))]
abbrev qbgh : List SOper := [Oa 32 (.mv (.t 30)), Oa 6 (.mv (.t 32))]
abbrev qa7d : List SOper := [Oa 33 (.mv (.t 5)), Oa 34 (.mv (.t 6)), Oc 35 45 [(.t 33), (.t 34)]]
abbrev qa7c : List SOper := [Oa 36 (.bin .add (.t 30) (.c (.int .i64 1))), Oa 30 (.mv (.t 36))]
def qasu : SCode := (.seq (.reg false qbgi [3, 5, 29, 30, 31]) (.seq (.cond (.t 31) .skip (.exit 0)) (.seq (.block 1 (.seq (.reg false qbgh [3, 5, 6, 29, 30]) (.reg false qa7d [3, 5, 29, 30]))) (.reg false qa7c [3, 5, 29, 30]))))
abbrev qa7b : List SOper := [Oa 37 (.mv (.t 5)), Oa 38 (.nilc (.t 37)), Oa 39 (.faddr 8 (.t 38)), Oa 40 (.faddr 0 (.t 39)), Oa 41 (.load (.t 40)), Oa 42 (.bin .neq (.t 41) (.c (.int .i64 0)))]
abbrev qa7a : List SOper := [Oa 43 (.mv (.t 5)), Od 44 (.nilc (.t 43)) 1, Od 45 (.faddr 8 (.t 44)) 3, Od 46 (.loads 2 (.t 45)) 7, Oa 2 (.mv (.c .nilsl)), ⟨none, .store 2 (.t 3) (.t 46), none, none, 31⟩]
abbrev qala : List SOper := [Oa 47 (.mv (.t 5)), Oa 48 (.nilc (.t 47)), Oa 49 (.faddr 7 (.t 48)), Oa 50 (.load (.t 49)), Oa 51 (.build [(.int .i64 0), (.int .i64 0)] []), Oa 2 (.mv (.t 50)), Ob (.store 2 (.t 3) (.t 51))]
def c_walk : SCode := (.seq (.reg false qbgp [1, 3]) (.seq (.seq (.reg false qbgo [1, 3, 4]) (.seq (.reg false qbgn [1, 3, 4, 11]) (.cond (.t 11) (.seq (.reg true qbgm [2, 3]) .ret) .skip))) (.seq (.reg true qbgl [1, 3, 5]) (.seq (.reg false qbgk [1, 3, 5]) (.seq (.seq (.reg false qbgj [3, 5, 29, 30]) (.block 0 (.loop qasu))) (.seq (.seq (.reg false qa7b [3, 5, 42]) (.cond (.t 42) (.seq (.reg true qa7a [2, 3]) .ret) .skip)) (.seq (.reg false qala [2, 3]) .ret)))))))
theorem qatp : comp Try.prog 52 ((Try.f10.body).getD .skip) = some c_walk.erase := by kernel_rfl
abbrev qbg2 : List SOper := [Oa 2 (.mv (.c (.int .u64 0)))]
abbrev qbg1 : List SOper := [Oa 3 (.mv (.t 0)), Oa 4 (.conv .u64 (.t 3)), Oa 5 (.bin .shl (.c (.int .u64 1)) (.t 4)), Oa 2 (.mv (.t 5))]
def c_rbit : SCode := (.seq (.reg false qbg2 [0]) (.seq (.reg false qbg1 [2]) .ret))
theorem qats : comp Try.prog 6 ((Try.f97.body).getD .skip) = some c_rbit.erase := by kernel_rfl
abbrev qay3 : List SOper := [Oa 2 (.box 29 (.t 0)), Oa 4 (.mv (.c .nilsl))]
abbrev qay2 : List SOper := [Oa 5 (.mv (.c .nilsl))]
abbrev qay1 : List SOper := [Oa 6 (.mv (.c (.int .i64 0)))]
abbrev qay0 : List SOper := [Oa 8 (.mv (.t 6)), Oa 9 (.faddr 2 (.t 2)), Oa 10 (.load (.t 9)), Oa 11 (.mv (.t 1)), Oa 12 (.iaddr 5 (.t 10) (.t 11)), Oa 13 (.faddr 3 (.t 12)), Oa 14 (.load (.t 13)), Oa 15 (.len false (.t 14)), Oa 16 (.bin .leq (.t 8) (.t 15))]
abbrev qayz : List SOper := [Oa 19 (.faddr 2 (.t 2)), Oa 20 (.load (.t 19)), Oa 21 (.mv (.t 1)), Oa 22 (.iaddr 5 (.t 20) (.t 21)), Oa 23 (.faddr 4 (.t 22)), Oa 24 (.load (.t 23)), Oa 7 (.mv (.t 24))]
abbrev qayy : List SOper := [Oa 25 (.mv (.t 6)), Oa 26 (.faddr 2 (.t 2)), Oa 27 (.load (.t 26)), Oa 28 (.mv (.t 1)), Oa 29 (.iaddr 5 (.t 27) (.t 28)), Oa 30 (.faddr 3 (.t 29)), Oa 31 (.load (.t 30)), Oa 32 (.len false (.t 31)), Oa 33 (.bin .lss (.t 25) (.t 32))]
abbrev qayx : List SOper := [Oa 34 (.faddr 2 (.t 2)), Oa 35 (.load (.t 34)), Oa 36 (.mv (.t 1)), Oa 37 (.iaddr 5 (.t 35) (.t 36)), Oa 38 (.faddr 3 (.t 37)), Oa 39 (.load (.t 38)), Oa 40 (.mv (.t 6)), Oa 41 (.iaddr 3 (.t 39) (.t 40)), Oa 42 (.faddr 2 (.t 41)), Oa 43 (.load (.t 42)), Oa 7 (.mv (.t 43))]
abbrev qayw : List SOper := [Oa 44 (.mv (.t 7)), Oa 45 (.bin .eql (.t 44) (.c (.int .i64 1000)))]
abbrev qayv : List SOper := [Oa 46 (.faddr 2 (.t 2)), Oa 47 (.load (.t 46)), Oa 48 (.len false (.t 47)), Oa 7 (.mv (.t 48))]
abbrev qaqb : List SOper := [Oa 49 (.mv (.t 7)), Oa 50 (.faddr 2 (.t 2)), Oa 51 (.load (.t 50)), Oa 52 (.len false (.t 51)), Oa 53 (.bin .leq (.t 49) (.t 52)), Oa 54 (.mv (.t 53)), Oe 55 (.mv (.t 5)) 54 true, Oe 56 (.mv (.t 7)) 54 true, ⟨(some 57), .mv (.c .any), some ((.c (.fn (.func 135) [] [])), [(.t 55), (.t 56)]), (some (54, true)), 0⟩, Oe 58 (.un .not (.t 57)) 54 true, Oa 59 (.pick (.t 54) (.t 58) (.c (.bool false)))]
abbrev qaqa : List SOper := [Oa 60 (.mv (.t 5)), Oa 61 (.mv (.t 7)), Oa 62 (.mkrow 3 1 1 [(.int .i64 0)] [(0, (.t 61))]), Oa 63 (.app 3 1 8 (.t 60) (.t 62)), Oa 5 (.mv (.t 63))]
abbrev qap9 : List SOper := [Oa 17 (.mv (.t 6)), Oa 18 (.bin .add (.t 17) (.c (.int .i64 1))), Oa 6 (.mv (.t 18))]
def qai1 : SCode := (.seq (.seq (.reg false qay0 [1, 2, 5, 6, 16]) (.cond (.t 16) .skip (.exit 0))) (.seq (.block 1 (.seq (.reg false qayz [1, 2, 5, 6, 7]) (.seq (.seq (.reg false qayy [1, 2, 5, 6, 7, 33]) (.cond (.t 33) (.reg false qayx [1, 2, 5, 6, 7]) .skip)) (.seq (.seq (.reg false qayw [1, 2, 5, 6, 7, 45]) (.cond (.t 45) (.reg false qayv [1, 2, 5, 6, 7]) .skip)) (.seq (.reg false qaqb [1, 2, 5, 6, 7, 59]) (.cond (.t 59) (.reg false qaqa [1, 2, 5, 6]) .skip)))))) (.reg false qap9 [1, 2, 5, 6])))
abbrev qap8 : List SOper := [Oa 64 (.mv (.t 5)), Oa 4 (.mv (.t 64))]
def c_rleads : SCode := (.seq (.reg false qay3 [1, 2]) (.seq (.reg false qay2 [1, 2, 5]) (.seq (.seq (.reg false qay1 [1, 2, 5, 6]) (.block 0 (.loop qai1))) (.seq (.reg false qap8 [4]) .ret))))
theorem qak0 : comp Try.prog 65 ((Try.f139.body).getD .skip) = some c_rleads.erase := by kernel_rfl
abbrev qa8u : List SOper := [Oa 1 (.box 29 (.t 0)), Oa 2 (.mv (.c .nilsl))]
abbrev qa8t : List SOper := [Oa 11 (.build [(.int .i64 0), (.int .u64 0), (.int .i64 0)] []), Oa 12 (.mkrow 197 3 1 [(.int .i64 0), (.int .u64 0), (.int .i64 0)] [(0, (.t 11))]), Oa 3 (.mv (.t 12))]
abbrev qa8s : List SOper := [Oa 4 (.mv (.c (.int .i64 0)))]
abbrev qa8r : List SOper := [Oa 13 (.mv (.t 4)), Oa 14 (.mv (.t 3)), Oa 15 (.len false (.t 14)), Oa 16 (.bin .lss (.t 13) (.t 15))]
abbrev qa8q : List SOper := [Oa 19 (.mv (.t 3)), Oa 20 (.mv (.t 4)), Oa 21 (.iaddr 3 (.t 19) (.t 20)), Oa 22 (.loads 3 (.t 21)), Oa 5 (.alloc 197 [(.int .i64 0), (.int .u64 0), (.int .i64 0)]), Ob (.store 3 (.t 5) (.t 22))]
abbrev qa8p : List SOper := [Oa 23 (.faddr 0 (.t 5)), Oa 24 (.load (.t 23)), Oa 25 (.faddr 2 (.t 1)), Oa 26 (.load (.t 25)), Oa 27 (.len false (.t 26)), Oa 28 (.bin .eql (.t 24) (.t 27))]
abbrev qa8o : List SOper := [Oa 29 (.faddr 2 (.t 1)), Oa 30 (.load (.t 29)), Oa 31 (.faddr 0 (.t 5)), Oa 32 (.load (.t 31)), Oa 33 (.iaddr 5 (.t 30) (.t 32)), Oa 34 (.loads 5 (.t 33)), Oa 6 (.alloc 105 [(.int .i64 0), (.int .i64 0), (.int .i64 0), .nilsl, (.int .i64 0)]), Ob (.store 5 (.t 6) (.t 34))]
abbrev qa8n : List SOper := [Oa 35 (.faddr 0 (.t 6)), Oa 36 (.load (.t 35)), Oa 37 (.bin .geq (.t 36) (.c (.int .i64 0)))]
abbrev qa8m : List SOper := [Oa 39 (.faddr 0 (.t 1)), Oa 40 (.load (.t 39)), Oa 41 (.faddr 0 (.t 6)), Oa 42 (.load (.t 41)), Oa 43 (.iaddr 1 (.t 40) (.t 42)), Oa 44 (.loads 1 (.t 43)), Oc 45 94 [(.t 44)], Oa 38 (.mv (.t 45)), Oa 46 (.extr (.t 38) 0), Oa 47 (.extr (.t 38) 1), Oa 8 (.alloc 35 [(.int .i64 0), (.int .i64 0)]), Oa 7 (.mv (.t 46)), Ob (.store 2 (.t 8) (.t 47))]
abbrev qawj : List SOper := [Oa 48 (.faddr 1 (.t 5)), Od 49 (.load (.t 48)) 1, Oa 50 (.faddr 0 (.t 6)), Od 51 (.load (.t 50)) 4, ⟨(some 52), .mv (.c .any), some ((.c (.fn (.func 97) [] [])), [(.t 51)]), none, 12⟩, Od 53 (.bin .or (.t 49) (.t 52)) 31, Od 54 (.faddr 1 (.t 5)) 63, ⟨none, .store 1 (.t 54) (.t 53), none, none, 127⟩]
abbrev qawi : List SOper := [Oa 55 (.faddr 2 (.t 5)), Oa 56 (.load (.t 55)), Oa 57 (.mv (.t 7)), Oa 58 (.bin .add (.t 56) (.t 57)), Oa 59 (.faddr 2 (.t 5)), Ob (.store 1 (.t 59) (.t 58))]
abbrev qafa : List SOper := [Oa 60 (.loads 7 (.t 1)), Oa 61 (.faddr 0 (.t 5)), Oa 62 (.load (.t 61)), Oc 63 139 [(.t 60), (.t 62)], Oa 9 (.mv (.t 63))]
abbrev qae9 : List SOper := [Oa 10 (.mv (.c (.int .i64 0)))]
abbrev qawh : List SOper := [Oa 64 (.mv (.t 10)), Oa 65 (.mv (.t 9)), Oa 66 (.len false (.t 65)), Oa 67 (.bin .lss (.t 64) (.t 66))]
abbrev qawg : List SOper := [Oa 70 (.mv (.t 3)), Oa 71 (.mv (.t 9)), Oa 72 (.mv (.t 10)), Od 73 (.iaddr 1 (.t 71) (.t 72)) 6, Od 74 (.load (.t 73)) 14, Oa 75 (.faddr 1 (.t 5)), Od 76 (.load (.t 75)) 32, Oa 77 (.faddr 2 (.t 5)), Od 78 (.load (.t 77)) 128, Od 79 (.build [(.int .i64 0), (.int .u64 0), (.int .i64 0)] [(0, 1, (.t 74)), (1, 1, (.t 76)), (2, 1, (.t 78))]) 510, Od 80 (.mkrow 197 3 1 [(.int .i64 0), (.int .u64 0), (.int .i64 0)] [(0, (.t 79))]) 1022, Od 81 (.app 197 3 24 (.t 70) (.t 80)) 2047, Od 3 (.mv (.t 81)) 4095]
abbrev qawf : List SOper := [Oa 68 (.mv (.t 10)), Oa 69 (.bin .add (.t 68) (.c (.int .i64 1))), Oa 10 (.mv (.t 69))]
def qaey : SCode := (.seq (.seq (.reg false qawh [1, 3, 4, 5, 9, 10, 67]) (.cond (.t 67) .skip (.exit 2))) (.seq (.block 3 (.reg true qawg [1, 3, 4, 5, 9, 10])) (.reg false qawf [1, 3, 4, 5, 9, 10])))
abbrev qaiw : List SOper := [Oa 17 (.mv (.t 4)), Oa 18 (.bin .add (.t 17) (.c (.int .i64 1))), Oa 4 (.mv (.t 18))]
def qalt : SCode := (.seq (.seq (.reg false qa8r [1, 3, 4, 16]) (.cond (.t 16) .skip (.exit 0))) (.seq (.block 1 (.seq (.reg false qa8q [1, 3, 4, 5]) (.seq (.seq (.reg false qa8p [1, 3, 4, 5, 28]) (.cond (.t 28) (.exit 1) .skip)) (.seq (.reg false qa8o [1, 3, 4, 5, 6]) (.seq (.seq (.reg false qa8n [1, 3, 4, 5, 6, 37]) (.cond (.t 37) (.seq (.reg false qa8m [1, 3, 4, 5, 6, 7]) (.seq (.reg true qawj [1, 3, 4, 5, 7]) (.reg false qawi [1, 3, 4, 5]))) .skip)) (.seq (.reg false qafa [1, 3, 4, 5, 9]) (.seq (.reg false qae9 [1, 3, 4, 5, 9, 10]) (.block 2 (.loop qaey))))))))) (.reg false qaiw [1, 3, 4])))
abbrev qaiv : List SOper := [Oa 82 (.mv (.t 3)), Oa 2 (.mv (.t 82))]
def c_rways : SCode := (.seq (.reg false qa8u [1]) (.seq (.reg false qa8t [1, 3]) (.seq (.seq (.reg false qa8s [1, 3, 4]) (.block 0 (.loop qalt))) (.seq (.reg false qaiv [2]) .ret))))
theorem qan5 : comp Try.prog 83 ((Try.f103.body).getD .skip) = some c_rways.erase := by kernel_rfl
abbrev qa83 : List SOper := [Oa 1 (.box 29 (.t 0)), Oa 2 (.mv (.c .nilsl)), Oa 3 (.alloc 35 [(.int .i64 0), (.int .i64 0)])]
abbrev qa82 : List SOper := [Oa 11 (.loads 7 (.t 1)), Oc 12 102 [(.t 11)], Oa 4 (.alloc 35 [(.int .i64 0), (.int .i64 0)]), Ob (.store 2 (.t 4) (.t 12))]
abbrev qa81 : List SOper := [Oa 13 (.faddr 0 (.t 4)), Oa 14 (.load (.t 13)), Oa 15 (.bin .neq (.t 14) (.c (.int .i64 0)))]
abbrev qa80 : List SOper := [Oa 16 (.loads 2 (.t 4)), Oa 2 (.mv (.c .nilsl)), ⟨none, .store 2 (.t 3) (.t 16), none, none, 3⟩]
abbrev qa8z : List SOper := [Oa 17 (.loads 7 (.t 1)), Oc 18 103 [(.t 17)], Oa 5 (.mv (.t 18))]
abbrev qa8y : List SOper := [Oa 19 (.faddr 2 (.t 1)), Oa 20 (.load (.t 19)), Oa 21 (.len false (.t 20)), Oa 22 (.bin .add (.t 21) (.c (.int .i64 1))), Oa 23 (.mkslice 146 5 40 [(.int .u64 0), (.int .u64 0), (.int .i64 0), (.int .i64 0), (.bool false)] (.t 22) (.t 22)), Oa 6 (.mv (.t 23))]
abbrev qa8x : List SOper := [Oa 7 (.mv (.c (.int .i64 0)))]
abbrev qa8w : List SOper := [Oa 24 (.mv (.t 7)), Oa 25 (.mv (.t 5)), Oa 26 (.len false (.t 25)), Oa 27 (.bin .lss (.t 24) (.t 26))]
abbrev qa8v : List SOper := [Oa 30 (.mv (.t 6)), Oa 31 (.mv (.t 5)), Oa 32 (.mv (.t 7)), Oa 33 (.iaddr 3 (.t 31) (.t 32)), Oa 34 (.faddr 0 (.t 33)), Oa 35 (.load (.t 34)), Oa 36 (.iaddr 5 (.t 30) (.t 35)), Oa 8 (.mv (.t 36))]
abbrev qaw1 : List SOper := [Oa 37 (.mv (.t 8)), Oa 38 (.nilc (.t 37)), Oa 39 (.faddr 4 (.t 38)), Oa 40 (.load (.t 39)), Oa 41 (.un .not (.t 40))]
abbrev qaw0 : List SOper := [Oa 42 (.mv (.t 8)), Oa 43 (.mv (.t 5)), Oa 44 (.mv (.t 7)), Od 45 (.iaddr 3 (.t 43) (.t 44)) 6, Od 46 (.faddr 1 (.t 45)) 14, Od 47 (.load (.t 46)) 30, Oa 48 (.mv (.t 5)), Oa 49 (.mv (.t 7)), Od 50 (.iaddr 3 (.t 48) (.t 49)) 192, Od 51 (.faddr 1 (.t 50)) 448, Od 52 (.load (.t 51)) 960, Oa 53 (.mv (.t 5)), Oa 54 (.mv (.t 7)), Od 55 (.iaddr 3 (.t 53) (.t 54)) 6144, Od 56 (.faddr 2 (.t 55)) 14336, Od 57 (.load (.t 56)) 30720, Oa 58 (.mv (.t 5)), Oa 59 (.mv (.t 7)), Od 60 (.iaddr 3 (.t 58) (.t 59)) 196608, Od 61 (.faddr 2 (.t 60)) 458752, Od 62 (.load (.t 61)) 983040, Od 63 (.build [(.int .u64 0), (.int .u64 0), (.int .i64 0), (.int .i64 0), (.bool false)] [(0, 1, (.t 47)), (1, 1, (.t 52)), (2, 1, (.t 57)), (3, 1, (.t 62)), (4, 1, (.c (.bool true)))]) 2097150, Od 64 (.nilc (.t 42)) 4194303, ⟨none, .store 5 (.t 64) (.t 63), none, none, 8388607⟩]
abbrev qawz : List SOper := [Oa 65 (.mv (.t 8)), Oa 66 (.mv (.t 8)), Od 67 (.nilc (.t 66)) 2, Od 68 (.faddr 0 (.t 67)) 6, Od 69 (.load (.t 68)) 14, Oa 70 (.mv (.t 5)), Oa 71 (.mv (.t 7)), Od 72 (.iaddr 3 (.t 70) (.t 71)) 96, Od 73 (.faddr 1 (.t 72)) 224, Od 74 (.load (.t 73)) 480, Od 75 (.bin .and (.t 69) (.t 74)) 1022, Od 76 (.nilc (.t 65)) 2047, Od 77 (.faddr 0 (.t 76)) 4095, ⟨none, .store 1 (.t 77) (.t 75), none, none, 8191⟩]
abbrev qawy : List SOper := [Oa 78 (.mv (.t 8)), Oa 79 (.mv (.t 8)), Od 80 (.nilc (.t 79)) 2, Od 81 (.faddr 1 (.t 80)) 6, Od 82 (.load (.t 81)) 14, Oa 83 (.mv (.t 5)), Oa 84 (.mv (.t 7)), Od 85 (.iaddr 3 (.t 83) (.t 84)) 96, Od 86 (.faddr 1 (.t 85)) 224, Od 87 (.load (.t 86)) 480, Od 88 (.bin .or (.t 82) (.t 87)) 1022, Od 89 (.nilc (.t 78)) 2047, Od 90 (.faddr 1 (.t 89)) 4095, ⟨none, .store 1 (.t 90) (.t 88), none, none, 8191⟩]
abbrev qawx : List SOper := [Oa 91 (.mv (.t 5)), Oa 92 (.mv (.t 7)), Od 93 (.iaddr 3 (.t 91) (.t 92)) 3, Od 94 (.faddr 2 (.t 93)) 7, Od 95 (.load (.t 94)) 15, Oa 96 (.mv (.t 8)), Od 97 (.nilc (.t 96)) 32, Od 98 (.faddr 2 (.t 97)) 96, Od 99 (.load (.t 98)) 224, Od 100 (.bin .lss (.t 95) (.t 99)) 511]
abbrev qaww : List SOper := [Oa 101 (.mv (.t 8)), Oa 102 (.mv (.t 5)), Oa 103 (.mv (.t 7)), Oa 104 (.iaddr 3 (.t 102) (.t 103)), Oa 105 (.faddr 2 (.t 104)), Oa 106 (.load (.t 105)), Oa 107 (.nilc (.t 101)), Oa 108 (.faddr 2 (.t 107)), Ob (.store 1 (.t 108) (.t 106))]
abbrev qawv : List SOper := [Oa 109 (.mv (.t 5)), Oa 110 (.mv (.t 7)), Od 111 (.iaddr 3 (.t 109) (.t 110)) 3, Od 112 (.faddr 2 (.t 111)) 7, Od 113 (.load (.t 112)) 15, Oa 114 (.mv (.t 8)), Od 115 (.nilc (.t 114)) 32, Od 116 (.faddr 3 (.t 115)) 96, Od 117 (.load (.t 116)) 224, Od 118 (.bin .gtr (.t 113) (.t 117)) 511]
abbrev qawu : List SOper := [Oa 119 (.mv (.t 8)), Oa 120 (.mv (.t 5)), Oa 121 (.mv (.t 7)), Oa 122 (.iaddr 3 (.t 120) (.t 121)), Oa 123 (.faddr 2 (.t 122)), Oa 124 (.load (.t 123)), Oa 125 (.nilc (.t 119)), Oa 126 (.faddr 3 (.t 125)), Ob (.store 1 (.t 126) (.t 124))]
abbrev qawt : List SOper := [Oa 28 (.mv (.t 7)), Oa 29 (.bin .add (.t 28) (.c (.int .i64 1))), Oa 7 (.mv (.t 29))]
def qalv : SCode := (.seq (.seq (.reg false qa8w [1, 3, 5, 6, 7, 27]) (.cond (.t 27) .skip (.exit 0))) (.seq (.block 1 (.seq (.reg false qa8v [1, 3, 5, 6, 7, 8]) (.seq (.seq (.reg false qaw1 [1, 3, 5, 6, 7, 8, 41]) (.cond (.t 41) (.seq (.reg true qaw0 [1, 3, 5, 6, 7]) (.exit 1)) .skip)) (.seq (.reg true qawz [1, 3, 5, 6, 7, 8]) (.seq (.reg true qawy [1, 3, 5, 6, 7, 8]) (.seq (.seq (.reg true qawx [1, 3, 5, 6, 7, 8, 100]) (.cond (.t 100) (.reg false qaww [1, 3, 5, 6, 7, 8]) .skip)) (.seq (.reg true qawv [1, 3, 5, 6, 7, 8, 118]) (.cond (.t 118) (.reg false qawu [1, 3, 5, 6, 7]) .skip)))))))) (.reg false qawt [1, 3, 5, 6, 7])))
abbrev qaws : List SOper := [Oa 9 (.mv (.c (.int .i64 0)))]
abbrev qawr : List SOper := [Oa 127 (.mv (.t 9)), Oa 128 (.faddr 2 (.t 1)), Oa 129 (.load (.t 128)), Oa 130 (.len false (.t 129)), Oa 131 (.bin .lss (.t 127) (.t 130))]
abbrev qawq : List SOper := [Oa 134 (.faddr 2 (.t 1)), Oa 135 (.load (.t 134)), Oa 136 (.mv (.t 9)), Oa 137 (.iaddr 5 (.t 135) (.t 136)), Oa 138 (.loads 5 (.t 137)), Oa 10 (.alloc 105 [(.int .i64 0), (.int .i64 0), (.int .i64 0), .nilsl, (.int .i64 0)]), Ob (.store 5 (.t 10) (.t 138))]
abbrev qawp : List SOper := [Oa 139 (.mv (.t 6)), Oa 140 (.mv (.t 9)), Oa 141 (.iaddr 5 (.t 139) (.t 140)), Oa 142 (.faddr 4 (.t 141)), Oa 143 (.load (.t 142)), Oa 144 (.un .not (.t 143))]
abbrev qawo : List SOper := [Oa 145 (.faddr 0 (.t 10)), Od 146 (.load (.t 145)) 1, Od 147 (.bin .geq (.t 146) (.c (.int .i64 0))) 3, Od 148 (.mv (.t 147)) 7, Of 149 (.mv (.t 6)) 148 true 15, Of 150 (.mv (.t 9)) 148 true 15, Of 151 (.iaddr 5 (.t 149) (.t 150)) 148 true 63, Of 152 (.faddr 1 (.t 151)) 148 true 127, Of 153 (.load (.t 152)) 148 true 255, Of 154 (.faddr 0 (.t 10)) 148 true 15, Of 155 (.load (.t 154)) 148 true 527, ⟨(some 156), .mv (.c .any), some ((.c (.fn (.func 97) [] [])), [(.t 155)]), (some (148, true)), 1551⟩, Of 157 (.bin .and (.t 153) (.t 156)) 148 true 4095, Of 158 (.bin .neq (.t 157) (.c (.int .u64 0))) 148 true 8191, Od 159 (.pick (.t 148) (.t 158) (.c (.bool false))) 16383]
abbrev qawn : List SOper := [Oa 160 (.mv (.t 9)), Oa 161 (.bin .add (.c (.int .i64 3000)) (.t 160)), Oc 162 46 [(.c (.int .i64 7)), (.t 161)], Oa 2 (.mv (.c .nilsl)), Ob (.store 2 (.t 3) (.t 162))]
abbrev qawm : List SOper := [Oa 163 (.faddr 3 (.t 10)), Od 164 (.load (.t 163)) 1, Od 165 (.len false (.t 164)) 3, Od 166 (.bin .gtr (.t 165) (.c (.int .i64 0))) 7, Od 167 (.mv (.t 166)) 15, Of 168 (.faddr 1 (.t 10)) 167 true 31, Of 169 (.faddr 0 (.t 168)) 167 true 63, Of 170 (.load (.t 169)) 167 true 127, Of 171 (.bin .geq (.t 170) (.c (.int .i64 0))) 167 true 255, Od 172 (.pick (.t 167) (.t 171) (.c (.bool false))) 511, Od 173 (.mv (.t 172)) 1023, Of 174 (.faddr 1 (.t 10)) 173 true 2047, Of 175 (.faddr 0 (.t 174)) 173 true 4095, Of 176 (.load (.t 175)) 173 true 8191, Of 177 (.faddr 0 (.t 10)) 173 true 2047, Of 178 (.load (.t 177)) 173 true 18431, Of 179 (.bin .neq (.t 176) (.t 178)) 173 true 65535, Od 180 (.pick (.t 173) (.t 179) (.c (.bool false))) 131071, Od 181 (.mv (.t 180)) 262143, Of 182 (.mv (.t 6)) 181 true 524287, Of 183 (.mv (.t 9)) 181 true 524287, Of 184 (.iaddr 5 (.t 182) (.t 183)) 181 true 2097151, Of 185 (.faddr 0 (.t 184)) 181 true 4194303, Of 186 (.load (.t 185)) 181 true 8388607, Of 187 (.faddr 1 (.t 10)) 181 true 524287, Of 188 (.faddr 0 (.t 187)) 181 true 17301503, Of 189 (.load (.t 188)) 181 true 50855935, ⟨(some 190), .mv (.c .any), some ((.c (.fn (.func 97) [] [])), [(.t 189)]), (some (181, true)), 117964799⟩, Of 191 (.bin .and (.t 186) (.t 190)) 181 true 268435455, Of 192 (.bin .eql (.t 191) (.c (.int .u64 0))) 181 true 536870911, Od 193 (.pick (.t 181) (.t 192) (.c (.bool false))) 1073741823]
abbrev qawl : List SOper := [Oa 194 (.mv (.t 9)), Oa 195 (.bin .add (.c (.int .i64 3000)) (.t 194)), Oc 196 46 [(.c (.int .i64 12)), (.t 195)], Oa 2 (.mv (.c .nilsl)), Ob (.store 2 (.t 3) (.t 196))]
abbrev qawk : List SOper := [Oa 132 (.mv (.t 9)), Oa 133 (.bin .add (.t 132) (.c (.int .i64 1))), Oa 9 (.mv (.t 133))]
def qalu : SCode := (.seq (.seq (.reg false qawr [1, 3, 6, 9, 131]) (.cond (.t 131) .skip (.exit 2))) (.seq (.block 3 (.seq (.reg false qawq [1, 3, 6, 9, 10]) (.seq (.seq (.reg false qawp [1, 3, 6, 9, 10, 144]) (.cond (.t 144) (.exit 3) .skip)) (.seq (.seq (.reg true qawo [1, 3, 6, 9, 10, 159]) (.cond (.t 159) (.seq (.reg false qawn [2, 3]) .ret) .skip)) (.seq (.reg true qawm [1, 3, 6, 9, 193]) (.cond (.t 193) (.seq (.reg false qawl [2, 3]) .ret) .skip)))))) (.reg false qawk [1, 3, 6, 9])))
abbrev qaix : List SOper := [Oa 197 (.mv (.t 6)), Oa 198 (.build [(.int .i64 0), (.int .i64 0)] []), Oa 2 (.mv (.t 197)), Ob (.store 2 (.t 3) (.t 198))]
def c_rwalk : SCode := (.seq (.reg false qa83 [1, 3]) (.seq (.seq (.reg false qa82 [1, 3, 4]) (.seq (.reg false qa81 [1, 3, 4, 15]) (.cond (.t 15) (.seq (.reg true qa80 [2, 3]) .ret) .skip))) (.seq (.reg false qa8z [1, 3, 5]) (.seq (.reg false qa8y [1, 3, 5, 6]) (.seq (.seq (.reg false qa8x [1, 3, 5, 6, 7]) (.block 0 (.loop qalv))) (.seq (.seq (.reg false qaws [1, 3, 6, 9]) (.block 2 (.loop qalu))) (.seq (.reg false qaix [2, 3]) .ret)))))))
theorem qan6 : comp Try.prog 199 ((Try.f55.body).getD .skip) = some c_rwalk.erase := by kernel_rfl
abbrev qbk0 : List SOper := [Oa 0 (.alloc 29 [.nilsl, .nilsl, .nilsl, .nilsl, .nilsl, .nilsl, .nilsl])]
abbrev qbkz : List SOper := [Oa 1 (.mkrow 3 1 1 [(.int .i64 0)] [(0, (.c (.int .i64 8)))]), Oa 2 (.build [.nilsl] [(0, 1, (.t 1))]), Oa 3 (.mkrow 3 1 1 [(.int .i64 0)] [(0, (.c (.int .i64 16)))]), Oa 4 (.build [.nilsl] [(0, 1, (.t 3))]), Oa 5 (.mkrow 100 1 2 [.nilsl] [(0, (.t 2)), (1, (.t 4))]), Oa 6 (.build [(.int .i64 0), (.int .i64 0)] []), Oa 7 (.build [(.int .u64 0), (.int .u64 0), (.int .i64 0)] [(0, 1, (.c (.int .u64 1))), (1, 1, (.c (.int .u64 1))), (2, 1, (.c (.int .i64 1)))]), Oa 8 (.mkrow 176 3 1 [(.int .u64 0), (.int .u64 0), (.int .i64 0)] [(0, (.t 7))]), Oa 9 (.build [(.int .i64 0), (.int .i64 0), (.int .i64 0), .nilsl, (.int .i64 0)] [(0, 1, (.c (.int .i64 0))), (1, 2, (.t 6)), (3, 1, (.t 8)), (4, 1, (.c (.int .i64 1000)))]), Oa 10 (.build [(.int .i64 0), (.int .i64 0), (.int .i64 0), .nilsl, (.int .i64 0)] [(0, 1, (.c (.int .i64 1))), (4, 1, (.c (.int .i64 1000)))]), Oa 11 (.mkrow 105 5 2 [(.int .i64 0), (.int .i64 0), (.int .i64 0), .nilsl, (.int .i64 0)] [(0, (.t 9)), (1, (.t 10))]), Oa 12 (.mkrow 3 1 2 [(.int .i64 0)] [(0, (.c (.int .i64 0))), (1, (.c (.int .i64 1)))]), Oa 13 (.build [.nilsl, .nilsl, .nilsl, .nilsl, .nilsl, .nilsl, .nilsl] [(0, 1, (.t 5)), (2, 1, (.t 11)), (6, 1, (.t 12))]), Ob (.store 7 (.t 0) (.t 13))]
def c_two : SCode := (.seq (.reg false qbk0 [0]) (.seq (.reg false qbkz [0]) .ret))
theorem qa6j : comp Try.prog 14 ((Try.f43.body).getD .skip) = some c_two.erase := by kernel_rfl
end Go.Proofs.Yticeaegpkpjjeaa
namespace Go.Proofs.Yticeaegpkpjjeaa
set_option linter.all false
open Go.RowKit
abbrev qa7u : List SOper := [Oa 6 (.mv (.c (.bool false)))]
abbrev qa7t : List SOper := [Oa 10 (.mv (.t 0)), Oa 11 (.len false (.t 10)), Oa 12 (.mv (.t 1)), Oa 13 (.len false (.t 12)), Oa 14 (.bin .neq (.t 11) (.t 13))]
abbrev qa7s : List SOper := [Oa 6 (.mv (.c (.bool false)))]
abbrev qa7r : List SOper := [Oa 7 (.mv (.c (.int .i64 0)))]
abbrev qa7q : List SOper := [Oa 15 (.mv (.t 7)), Oa 16 (.mv (.t 0)), Oa 17 (.len false (.t 16)), Oa 18 (.bin .lss (.t 15) (.t 17))]
abbrev qa7p : List SOper := [Oa 21 (.mv (.t 0)), Oa 22 (.mv (.t 7)), Od 23 (.iaddr 4 (.t 21) (.t 22)) 3, Od 24 (.loads 4 (.t 23)) 7, Oa 25 (.mv (.t 1)), Oa 26 (.mv (.t 7)), Od 27 (.iaddr 4 (.t 25) (.t 26)) 48, Od 28 (.loads 4 (.t 27)) 112, Oa 8 (.alloc 137 [(.int .i64 0), (.int .i64 0), (.int .i64 0), (.int .u64 0)]), Oa 9 (.alloc 137 [(.int .i64 0), (.int .i64 0), (.int .i64 0), (.int .u64 0)]), ⟨none, .store 4 (.t 8) (.t 24), none, none, 783⟩, ⟨none, .store 4 (.t 9) (.t 28), none, none, 2047⟩]
abbrev qa7o : List SOper := [Oa 29 (.faddr 0 (.t 8)), Oa 30 (.load (.t 29)), Oa 31 (.faddr 0 (.t 9)), Oa 32 (.load (.t 31)), Oa 33 (.bin .neq (.t 30) (.t 32)), Oa 34 (.mv (.t 33)), Oe 35 (.mv (.t 2)) 34 false, Oe 36 (.un .not (.t 35)) 34 false, Oe 37 (.mv (.t 36)) 34 false, Oe 38 (.faddr 0 (.t 8)) 37 false, Oe 39 (.load (.t 38)) 37 false, Oe 40 (.bin .eql (.t 39) (.c (.int .i64 1))) 37 false, Oe 41 (.pick (.t 37) (.c (.bool true)) (.t 40)) 34 false, Oe 42 (.mv (.t 41)) 34 false, Oe 43 (.faddr 3 (.t 8)) 42 true, Oe 44 (.load (.t 43)) 42 true, Oe 45 (.faddr 3 (.t 9)) 42 true, Oe 46 (.load (.t 45)) 42 true, Oe 47 (.bin .neq (.t 44) (.t 46)) 42 true, Oe 48 (.pick (.t 42) (.t 47) (.c (.bool false))) 34 false, Oa 49 (.pick (.t 34) (.c (.bool true)) (.t 48)), Oa 50 (.mv (.t 49)), Oe 51 (.mv (.t 2)) 50 false, Oe 52 (.un .not (.t 51)) 50 false, Oe 53 (.mv (.t 52)) 50 false, Oe 54 (.faddr 0 (.t 8)) 53 false, Oe 55 (.load (.t 54)) 53 false, Oe 56 (.bin .eql (.t 55) (.c (.int .i64 2))) 53 false, Oe 57 (.pick (.t 53) (.c (.bool true)) (.t 56)) 50 false, Oe 58 (.mv (.t 57)) 50 false, Oe 59 (.faddr 1 (.t 8)) 58 true, Oe 60 (.loads 2 (.t 59)) 58 true, Oe 61 (.faddr 1 (.t 9)) 58 true, Oe 62 (.loads 2 (.t 61)) 58 true, Oe 63 (.eqs [1, 1] true (.t 60) (.t 62)) 58 true, Oe 64 (.pick (.t 58) (.t 63) (.c (.bool false))) 50 false, Oa 65 (.pick (.t 50) (.c (.bool true)) (.t 64))]
abbrev qa7n : List SOper := [Oa 6 (.mv (.c (.bool false)))]
abbrev qa7m : List SOper := [Oa 19 (.mv (.t 7)), Oa 20 (.bin .add (.t 19) (.c (.int .i64 1))), Oa 7 (.mv (.t 20))]
def qalb : SCode := (.seq (.seq (.reg false qa7q [0, 1, 2, 7, 18]) (.cond (.t 18) .skip (.exit 0))) (.seq (.block 1 (.seq (.reg true qa7p [0, 1, 2, 7, 8, 9]) (.seq (.reg false qa7o [0, 1, 2, 7, 65]) (.cond (.t 65) (.seq (.reg false qa7n [6]) .ret) .skip)))) (.reg false qa7m [0, 1, 2, 7])))
abbrev qaux : List SOper := [Oa 6 (.mv (.c (.bool true)))]
def c_stree : SCode := (.seq (.reg false qa7u [0, 1, 2]) (.seq (.seq (.reg false qa7t [0, 1, 2, 14]) (.cond (.t 14) (.seq (.reg false qa7s [6]) .ret) .skip)) (.seq (.seq (.reg false qa7r [0, 1, 2, 7]) (.block 0 (.loop qalb))) (.seq (.reg false qaux [6]) .ret))))
theorem qan0 : comp Try.prog 66 ((Try.f107.body).getD .skip) = some c_stree.erase := by kernel_rfl
abbrev qavf : List SOper := [Oa 3 (.box 105 (.t 0)), Oa 4 (.box 105 (.t 1)), Oa 6 (.mv (.c (.bool false)))]
abbrev qave : List SOper := [Oa 8 (.faddr 0 (.t 3)), Oa 9 (.load (.t 8)), Oa 10 (.faddr 0 (.t 4)), Oa 11 (.load (.t 10)), Oa 12 (.bin .neq (.t 9) (.t 11)), Oa 13 (.mv (.t 12)), Oe 14 (.faddr 4 (.t 3)) 13 false, Oe 15 (.load (.t 14)) 13 false, Oe 16 (.faddr 4 (.t 4)) 13 false, Oe 17 (.load (.t 16)) 13 false, Oe 18 (.bin .neq (.t 15) (.t 17)) 13 false, Oa 19 (.pick (.t 13) (.c (.bool true)) (.t 18)), Oa 20 (.mv (.t 19)), Oe 21 (.faddr 3 (.t 3)) 20 false, Oe 22 (.load (.t 21)) 20 false, Oe 23 (.len false (.t 22)) 20 false, Oe 24 (.faddr 3 (.t 4)) 20 false, Oe 25 (.load (.t 24)) 20 false, Oe 26 (.len false (.t 25)) 20 false, Oe 27 (.bin .neq (.t 23) (.t 26)) 20 false, Oa 28 (.pick (.t 20) (.c (.bool true)) (.t 27)), Oa 29 (.mv (.t 28)), Oe 30 (.mv (.t 2)) 29 false, Oe 31 (.un .not (.t 30)) 29 false, Oe 32 (.mv (.t 31)) 29 false, Oe 33 (.faddr 3 (.t 3)) 32 false, Oe 34 (.load (.t 33)) 32 false, Oe 35 (.len false (.t 34)) 32 false, Oe 36 (.bin .gtr (.t 35) (.c (.int .i64 0))) 32 false, Oe 37 (.pick (.t 32) (.c (.bool true)) (.t 36)) 29 false, Oe 38 (.mv (.t 37)) 29 false, Oe 39 (.faddr 1 (.t 3)) 38 true, Oe 40 (.loads 2 (.t 39)) 38 true, Oe 41 (.faddr 1 (.t 4)) 38 true, Oe 42 (.loads 2 (.t 41)) 38 true, Oe 43 (.eqs [1, 1] true (.t 40) (.t 42)) 38 true, Oe 44 (.pick (.t 38) (.t 43) (.c (.bool false))) 29 false, Oa 45 (.pick (.t 29) (.c (.bool true)) (.t 44))]
abbrev qavd : List SOper := [Oa 6 (.mv (.c (.bool false)))]
abbrev qavc : List SOper := [Oa 7 (.mv (.c (.int .i64 0)))]
abbrev qavb : List SOper := [Oa 46 (.mv (.t 7)), Oa 47 (.faddr 3 (.t 3)), Oa 48 (.load (.t 47)), Oa 49 (.len false (.t 48)), Oa 50 (.bin .lss (.t 46) (.t 49))]
abbrev qava : List SOper := [Oa 53 (.faddr 3 (.t 3)), Od 54 (.load (.t 53)) 1, Oa 55 (.mv (.t 7)), Od 56 (.iaddr 3 (.t 54) (.t 55)) 7, Od 57 (.loads 3 (.t 56)) 15, Oa 58 (.faddr 3 (.t 4)), Od 59 (.load (.t 58)) 32, Oa 60 (.mv (.t 7)), Od 61 (.iaddr 3 (.t 59) (.t 60)) 224, Od 62 (.loads 3 (.t 61)) 480, Od 63 (.eqs [1, 1, 1] true (.t 57) (.t 62)) 1023]
abbrev qau9 : List SOper := [Oa 6 (.mv (.c (.bool false)))]
abbrev qau8 : List SOper := [Oa 51 (.mv (.t 7)), Oa 52 (.bin .add (.t 51) (.c (.int .i64 1))), Oa 7 (.mv (.t 52))]
def qaiu : SCode := (.seq (.seq (.reg false qavb [3, 4, 7, 50]) (.cond (.t 50) .skip (.exit 0))) (.seq (.block 1 (.seq (.reg true qava [3, 4, 7, 63]) (.cond (.t 63) (.seq (.reg false qau9 [6]) .ret) .skip))) (.reg false qau8 [3, 4, 7])))
abbrev qau7 : List SOper := [Oa 6 (.mv (.c (.bool true)))]
def c_sstate : SCode := (.seq (.reg false qavf [2, 3, 4]) (.seq (.seq (.reg false qave [3, 4, 45]) (.cond (.t 45) (.seq (.reg false qavd [6]) .ret) .skip)) (.seq (.seq (.reg false qavc [3, 4, 7]) (.block 0 (.loop qaiu))) (.seq (.reg false qau7 [6]) .ret))))
theorem qaku : comp Try.prog 64 ((Try.f59.body).getD .skip) = some c_sstate.erase := by kernel_rfl
abbrev qbk5 : List SOper := [Oa 3 (.box 111 (.t 0)), Oa 4 (.box 111 (.t 1)), Oa 6 (.mv (.c (.bool false)))]
abbrev qbk4 : List SOper := [Oa 10 (.mv (.t 2)), Oa 11 (.un .not (.t 10)), Oa 12 (.mv (.t 11)), Oe 13 (.faddr 0 (.t 3)) 12 false, Oe 14 (.load (.t 13)) 12 false, Oe 15 (.bin .eql (.t 14) (.c (.int .i64 1))) 12 false, Oa 16 (.pick (.t 12) (.c (.bool true)) (.t 15)), Oa 17 (.mv (.t 16)), Oe 18 (.faddr 0 (.t 3)) 17 false, Oe 19 (.load (.t 18)) 17 false, Oe 20 (.bin .eql (.t 19) (.c (.int .i64 6))) 17 false, Oa 21 (.pick (.t 17) (.c (.bool true)) (.t 20)), Oa 7 (.mv (.t 21))]
abbrev qbk3 : List SOper := [Oa 22 (.mv (.t 2)), Oa 23 (.un .not (.t 22)), Oa 24 (.mv (.t 23)), Oe 25 (.faddr 0 (.t 3)) 24 false, Oe 26 (.load (.t 25)) 24 false, Oe 27 (.bin .eql (.t 26) (.c (.int .i64 2))) 24 false, Oa 28 (.pick (.t 24) (.c (.bool true)) (.t 27)), Oa 29 (.mv (.t 28)), Oe 30 (.faddr 0 (.t 3)) 29 false, Oe 31 (.load (.t 30)) 29 false, Oe 32 (.bin .eql (.t 31) (.c (.int .i64 3))) 29 false, Oa 33 (.pick (.t 29) (.c (.bool true)) (.t 32)), Oa 34 (.mv (.t 33)), Oe 35 (.faddr 0 (.t 3)) 34 false, Oe 36 (.load (.t 35)) 34 false, Oe 37 (.bin .eql (.t 36) (.c (.int .i64 6))) 34 false, Oa 38 (.pick (.t 34) (.c (.bool true)) (.t 37)), Oa 8 (.mv (.t 38))]
abbrev qbk2 : List SOper := [Oa 39 (.mv (.t 2)), Oa 40 (.un .not (.t 39)), Oa 41 (.mv (.t 40)), Oe 42 (.faddr 0 (.t 3)) 41 false, Oe 43 (.load (.t 42)) 41 false, Oe 44 (.bin .eql (.t 43) (.c (.int .i64 1))) 41 false, Oa 45 (.pick (.t 41) (.c (.bool true)) (.t 44)), Oa 46 (.mv (.t 45)), Oe 47 (.faddr 0 (.t 3)) 46 false, Oe 48 (.load (.t 47)) 46 false, Oe 49 (.bin .eql (.t 48) (.c (.int .i64 5))) 46 false, Oa 50 (.pick (.t 46) (.c (.bool true)) (.t 49)), Oa 9 (.mv (.t 50))]
abbrev qbk1 : List SOper := [Oa 51 (.faddr 0 (.t 3)), Oa 52 (.load (.t 51)), Oa 53 (.faddr 0 (.t 4)), Oa 54 (.load (.t 53)), Oa 55 (.bin .eql (.t 52) (.t 54)), Oa 56 (.mv (.t 55)), Oe 57 (.mv (.t 7)) 56 true, Oe 58 (.un .not (.t 57)) 56 true, Oe 59 (.mv (.t 58)) 56 true, Oe 60 (.faddr 1 (.t 3)) 59 false, Oe 61 (.loads 2 (.t 60)) 59 false, Oe 62 (.faddr 1 (.t 4)) 59 false, Oe 63 (.loads 2 (.t 62)) 59 false, Oe 64 (.eqs [1, 1] false (.t 61) (.t 63)) 59 false, Oe 65 (.pick (.t 59) (.c (.bool true)) (.t 64)) 56 true, Oa 66 (.pick (.t 56) (.t 65) (.c (.bool false))), Oa 67 (.mv (.t 66)), Oe 68 (.mv (.t 8)) 67 true, Oe 69 (.un .not (.t 68)) 67 true, Oe 70 (.mv (.t 69)) 67 true, Oe 71 (.faddr 3 (.t 3)) 70 false, Oe 72 (.load (.t 71)) 70 false, Oe 73 (.faddr 3 (.t 4)) 70 false, Oe 74 (.load (.t 73)) 70 false, Oe 75 (.bin .eql (.t 72) (.t 74)) 70 false, Oe 76 (.pick (.t 70) (.c (.bool true)) (.t 75)) 67 true, Oa 77 (.pick (.t 67) (.t 76) (.c (.bool false))), Oa 78 (.mv (.t 77)), Oe 79 (.mv (.t 9)) 78 true, Oe 80 (.un .not (.t 79)) 78 true, Oe 81 (.mv (.t 80)) 78 true, Oe 82 (.faddr 4 (.t 3)) 81 false, Oe 83 (.load (.t 82)) 81 false, Oe 84 (.faddr 4 (.t 4)) 81 false, Oe 85 (.load (.t 84)) 81 false, Oe 86 (.mv (.t 2)) 81 false, ⟨(some 87), .mv (.c .any), some ((.c (.fn (.func 107) [] [])), [(.t 83), (.t 85), (.t 86)]), (some (81, false)), 0⟩, Oe 88 (.pick (.t 81) (.c (.bool true)) (.t 87)) 78 true, Oa 89 (.pick (.t 78) (.t 88) (.c (.bool false))), Oa 6 (.mv (.t 89))]
def c_sop : SCode := (.seq (.reg false qbk5 [2, 3, 4]) (.seq (.reg false qbk4 [2, 3, 4, 7]) (.seq (.reg false qbk3 [2, 3, 4, 7, 8]) (.seq (.reg false qbk2 [2, 3, 4, 7, 8, 9]) (.seq (.reg false qbk1 [6]) .ret)))))
theorem qa6k : comp Try.prog 90 ((Try.f60.body).getD .skip) = some c_sop.erase := by kernel_rfl
abbrev qau6 : List SOper := [Oa 2 (.box 114 (.t 0)), Oa 3 (.box 114 (.t 1)), Oa 4 (.mv (.c (.bool false)))]
abbrev qau5 : List SOper := [Oa 6 (.faddr 1 (.t 2)), Oa 7 (.load (.t 6)), Oa 8 (.len false (.t 7)), Oa 9 (.faddr 1 (.t 3)), Oa 10 (.load (.t 9)), Oa 11 (.len false (.t 10)), Oa 12 (.bin .neq (.t 8) (.t 11))]
abbrev qau4 : List SOper := [Oa 4 (.mv (.c (.bool false)))]
abbrev qau3 : List SOper := [Oa 5 (.mv (.c (.int .i64 0)))]
abbrev qau2 : List SOper := [Oa 13 (.mv (.t 5)), Oa 14 (.faddr 1 (.t 2)), Oa 15 (.load (.t 14)), Oa 16 (.len false (.t 15)), Oa 17 (.bin .lss (.t 13) (.t 16))]
abbrev qau1 : List SOper := [Oa 20 (.faddr 1 (.t 2)), Od 21 (.load (.t 20)) 1, Oa 22 (.mv (.t 5)), Od 23 (.iaddr 2 (.t 21) (.t 22)) 7, Od 24 (.loads 2 (.t 23)) 15, Oa 25 (.faddr 1 (.t 3)), Od 26 (.load (.t 25)) 32, Oa 27 (.mv (.t 5)), Od 28 (.iaddr 2 (.t 26) (.t 27)) 224, Od 29 (.loads 2 (.t 28)) 480, Od 30 (.eqs [1, 1] true (.t 24) (.t 29)) 1023]
abbrev qau0 : List SOper := [Oa 4 (.mv (.c (.bool false)))]
abbrev qauz : List SOper := [Oa 18 (.mv (.t 5)), Oa 19 (.bin .add (.t 18) (.c (.int .i64 1))), Oa 5 (.mv (.t 19))]
def qait : SCode := (.seq (.seq (.reg false qau2 [2, 3, 5, 17]) (.cond (.t 17) .skip (.exit 0))) (.seq (.block 1 (.seq (.reg true qau1 [2, 3, 5, 30]) (.cond (.t 30) (.seq (.reg false qau0 [4]) .ret) .skip))) (.reg false qauz [2, 3, 5])))
abbrev qauy : List SOper := [Oa 31 (.faddr 0 (.t 2)), Oa 32 (.load (.t 31)), Oa 33 (.faddr 0 (.t 3)), Oa 34 (.load (.t 33)), Oa 35 (.bin .eql (.t 32) (.t 34)), Oa 36 (.mv (.t 35)), Oe 37 (.faddr 2 (.t 2)) 36 true, Oe 38 (.load (.t 37)) 36 true, Oe 39 (.faddr 2 (.t 3)) 36 true, Oe 40 (.load (.t 39)) 36 true, ⟨(some 41), .mv (.c .any), some ((.c (.fn (.func 58) [] [])), [(.t 38), (.t 40)]), (some (36, true)), 0⟩, Oa 42 (.pick (.t 36) (.t 41) (.c (.bool false))), Oa 43 (.mv (.t 42)), Oe 44 (.faddr 3 (.t 2)) 43 true, Oe 45 (.load (.t 44)) 43 true, Oe 46 (.faddr 3 (.t 3)) 43 true, Oe 47 (.load (.t 46)) 43 true, Oe 48 (.bin .eql (.t 45) (.t 47)) 43 true, Oa 49 (.pick (.t 43) (.t 48) (.c (.bool false))), Oa 50 (.mv (.t 49)), Oe 51 (.faddr 4 (.t 2)) 50 true, Oe 52 (.load (.t 51)) 50 true, Oe 53 (.faddr 4 (.t 3)) 50 true, Oe 54 (.load (.t 53)) 50 true, Oe 55 (.bin .eql (.t 52) (.t 54)) 50 true, Oa 56 (.pick (.t 50) (.t 55) (.c (.bool false))), Oa 57 (.mv (.t 56)), Oe 58 (.faddr 5 (.t 2)) 57 true, Oe 59 (.load (.t 58)) 57 true, Oe 60 (.faddr 5 (.t 3)) 57 true, Oe 61 (.load (.t 60)) 57 true, ⟨(some 62), .mv (.c .any), some ((.c (.fn (.func 18) [] [])), [(.t 59), (.t 61)]), (some (57, true)), 0⟩, Oa 63 (.pick (.t 57) (.t 62) (.c (.bool false))), Oa 4 (.mv (.t 63))]
def c_stable : SCode := (.seq (.reg false qau6 [2, 3]) (.seq (.seq (.reg false qau5 [2, 3, 12]) (.cond (.t 12) (.seq (.reg false qau4 [4]) .ret) .skip)) (.seq (.seq (.reg false qau3 [2, 3, 5]) (.block 0 (.loop qait))) (.seq (.reg false qauy [4]) .ret))))
theorem qakt : comp Try.prog 64 ((Try.f61.body).getD .skip) = some c_stable.erase := by kernel_rfl
abbrev qa78 : List SOper := [Oa 3 (.box 116 (.t 0)), Oa 4 (.box 116 (.t 1)), Oa 6 (.mv (.c (.bool false)))]
abbrev qa77 : List SOper := [Oa 10 (.mv (.t 2)), Oa 11 (.un .not (.t 10)), Oa 12 (.mv (.t 11)), Oe 13 (.faddr 0 (.t 3)) 12 false, Oe 14 (.load (.t 13)) 12 false, Oe 15 (.bin .neq (.t 14) (.c (.int .i64 3))) 12 false, Oa 16 (.pick (.t 12) (.c (.bool true)) (.t 15)), Oa 7 (.mv (.t 16))]
abbrev qa76 : List SOper := [Oa 17 (.mv (.t 2)), Oa 18 (.un .not (.t 17)), Oa 19 (.mv (.t 18)), Oe 20 (.faddr 0 (.t 3)) 19 false, Oe 21 (.load (.t 20)) 19 false, Oe 22 (.bin .eql (.t 21) (.c (.int .i64 3))) 19 false, Oa 23 (.pick (.t 19) (.c (.bool true)) (.t 22)), Oa 8 (.mv (.t 23))]
abbrev qa75 : List SOper := [Oa 24 (.mv (.t 2)), Oa 25 (.un .not (.t 24)), Oa 26 (.mv (.t 25)), Oe 27 (.faddr 0 (.t 3)) 26 false, Oe 28 (.load (.t 27)) 26 false, Oe 29 (.bin .eql (.t 28) (.c (.int .i64 3))) 26 false, Oa 30 (.pick (.t 26) (.c (.bool true)) (.t 29)), Oa 31 (.mv (.t 30)), Oe 32 (.faddr 0 (.t 3)) 31 false, Oe 33 (.load (.t 32)) 31 false, Oe 34 (.bin .eql (.t 33) (.c (.int .i64 4))) 31 false, Oa 35 (.pick (.t 31) (.c (.bool true)) (.t 34)), Oa 9 (.mv (.t 35))]
abbrev qa74 : List SOper := [Oa 36 (.faddr 0 (.t 3)), Oa 37 (.load (.t 36)), Oa 38 (.faddr 0 (.t 4)), Oa 39 (.load (.t 38)), Oa 40 (.bin .eql (.t 37) (.t 39)), Oa 41 (.mv (.t 40)), Oe 42 (.faddr 3 (.t 3)) 41 true, Oe 43 (.load (.t 42)) 41 true, Oe 44 (.faddr 3 (.t 4)) 41 true, Oe 45 (.load (.t 44)) 41 true, Oe 46 (.bin .eql (.t 43) (.t 45)) 41 true, Oa 47 (.pick (.t 41) (.t 46) (.c (.bool false))), Oa 48 (.mv (.t 47)), Oe 49 (.mv (.t 7)) 48 true, Oe 50 (.un .not (.t 49)) 48 true, Oe 51 (.mv (.t 50)) 48 true, Oe 52 (.faddr 1 (.t 3)) 51 false, Oe 53 (.load (.t 52)) 51 false, Oe 54 (.faddr 1 (.t 4)) 51 false, Oe 55 (.load (.t 54)) 51 false, Oe 56 (.bin .eql (.t 53) (.t 55)) 51 false, Oe 57 (.pick (.t 51) (.c (.bool true)) (.t 56)) 48 true, Oa 58 (.pick (.t 48) (.t 57) (.c (.bool false))), Oa 59 (.mv (.t 58)), Oe 60 (.mv (.t 8)) 59 true, Oe 61 (.un .not (.t 60)) 59 true, Oe 62 (.mv (.t 61)) 59 true, Oe 63 (.faddr 2 (.t 3)) 62 false, Oe 64 (.load (.t 63)) 62 false, Oe 65 (.faddr 2 (.t 4)) 62 false, Oe 66 (.load (.t 65)) 62 false, Oe 67 (.mv (.t 2)) 62 false, ⟨(some 68), .mv (.c .any), some ((.c (.fn (.func 107) [] [])), [(.t 64), (.t 66), (.t 67)]), (some (62, false)), 0⟩, Oe 69 (.pick (.t 62) (.c (.bool true)) (.t 68)) 59 true, Oa 70 (.pick (.t 59) (.t 69) (.c (.bool false))), Oa 71 (.mv (.t 70)), Oe 72 (.mv (.t 9)) 71 true, Oe 73 (.un .not (.t 72)) 71 true, Oe 74 (.mv (.t 73)) 71 true, Oe 75 (.faddr 4 (.t 3)) 74 false, Oe 76 (.load (.t 75)) 74 false, Oe 77 (.faddr 4 (.t 4)) 74 false, Oe 78 (.load (.t 77)) 74 false, Oe 79 (.bin .eql (.t 76) (.t 78)) 74 false, Oe 80 (.pick (.t 74) (.c (.bool true)) (.t 79)) 71 true, Oa 81 (.pick (.t 71) (.t 80) (.c (.bool false))), Oa 6 (.mv (.t 81))]
def c_snode : SCode := (.seq (.reg false qa78 [2, 3, 4]) (.seq (.reg false qa77 [2, 3, 4, 7]) (.seq (.reg false qa76 [2, 3, 4, 7, 8]) (.seq (.reg false qa75 [2, 3, 4, 7, 8, 9]) (.seq (.reg false qa74 [6]) .ret)))))
theorem qan3 : comp Try.prog 82 ((Try.f62.body).getD .skip) = some c_snode.erase := by kernel_rfl
abbrev qa73 : List SOper := [Oa 3 (.box 29 (.t 0)), Oa 4 (.box 29 (.t 1)), Oa 6 (.mv (.c (.bool false)))]
abbrev qa72 : List SOper := [Oa 15 (.faddr 0 (.t 3)), Oa 16 (.load (.t 15)), Oa 17 (.len false (.t 16)), Oa 18 (.faddr 0 (.t 4)), Oa 19 (.load (.t 18)), Oa 20 (.len false (.t 19)), Oa 21 (.bin .neq (.t 17) (.t 20)), Oa 22 (.mv (.t 21)), Oe 23 (.faddr 1 (.t 3)) 22 false, Oe 24 (.load (.t 23)) 22 false, Oe 25 (.faddr 1 (.t 4)) 22 false, Oe 26 (.load (.t 25)) 22 false, ⟨(some 27), .mv (.c .any), some ((.c (.fn (.func 58) [] [])), [(.t 24), (.t 26)]), (some (22, false)), 0⟩, Oe 28 (.un .not (.t 27)) 22 false, Oa 29 (.pick (.t 22) (.c (.bool true)) (.t 28)), Oa 30 (.mv (.t 29)), Oe 31 (.faddr 2 (.t 3)) 30 false, Oe 32 (.load (.t 31)) 30 false, Oe 33 (.len false (.t 32)) 30 false, Oe 34 (.faddr 2 (.t 4)) 30 false, Oe 35 (.load (.t 34)) 30 false, Oe 36 (.len false (.t 35)) 30 false, Oe 37 (.bin .neq (.t 33) (.t 36)) 30 false, Oa 38 (.pick (.t 30) (.c (.bool true)) (.t 37)), Oa 39 (.mv (.t 38)), Oe 40 (.faddr 3 (.t 3)) 39 false, Oe 41 (.load (.t 40)) 39 false, Oe 42 (.len false (.t 41)) 39 false, Oe 43 (.faddr 3 (.t 4)) 39 false, Oe 44 (.load (.t 43)) 39 false, Oe 45 (.len false (.t 44)) 39 false, Oe 46 (.bin .neq (.t 42) (.t 45)) 39 false, Oa 47 (.pick (.t 39) (.c (.bool true)) (.t 46)), Oa 48 (.mv (.t 47)), Oe 49 (.faddr 4 (.t 3)) 48 false, Oe 50 (.load (.t 49)) 48 false, Oe 51 (.len false (.t 50)) 48 false, Oe 52 (.faddr 4 (.t 4)) 48 false, Oe 53 (.load (.t 52)) 48 false, Oe 54 (.len false (.t 53)) 48 false, Oe 55 (.bin .neq (.t 51) (.t 54)) 48 false, Oa 56 (.pick (.t 48) (.c (.bool true)) (.t 55)), Oa 57 (.mv (.t 56)), Oe 58 (.faddr 5 (.t 3)) 57 false, Oe 59 (.load (.t 58)) 57 false, Oe 60 (.len false (.t 59)) 57 false, Oe 61 (.faddr 5 (.t 4)) 57 false, Oe 62 (.load (.t 61)) 57 false, Oe 63 (.len false (.t 62)) 57 false, Oe 64 (.bin .neq (.t 60) (.t 63)) 57 false, Oa 65 (.pick (.t 57) (.c (.bool true)) (.t 64)), Oa 66 (.mv (.t 65)), Oe 67 (.faddr 6 (.t 3)) 66 false, Oe 68 (.load (.t 67)) 66 false, Oe 69 (.faddr 6 (.t 4)) 66 false, Oe 70 (.load (.t 69)) 66 false, ⟨(some 71), .mv (.c .any), some ((.c (.fn (.func 58) [] [])), [(.t 68), (.t 70)]), (some (66, false)), 0⟩, Oe 72 (.un .not (.t 71)) 66 false, Oa 73 (.pick (.t 66) (.c (.bool true)) (.t 72))]
abbrev qa71 : List SOper := [Oa 6 (.mv (.c (.bool false)))]
abbrev qa70 : List SOper := [Oa 7 (.mv (.c (.int .i64 0)))]
abbrev qa7z : List SOper := [Oa 74 (.mv (.t 7)), Oa 75 (.faddr 0 (.t 3)), Oa 76 (.load (.t 75)), Oa 77 (.len false (.t 76)), Oa 78 (.bin .lss (.t 74) (.t 77))]
abbrev qa7y : List SOper := [Oa 81 (.faddr 0 (.t 3)), Od 82 (.load (.t 81)) 1, Oa 83 (.mv (.t 7)), Od 84 (.iaddr 1 (.t 82) (.t 83)) 7, Od 85 (.faddr 0 (.t 84)) 15, Od 86 (.load (.t 85)) 31, Oa 87 (.faddr 0 (.t 4)), Od 88 (.load (.t 87)) 64, Oa 89 (.mv (.t 7)), Od 90 (.iaddr 1 (.t 88) (.t 89)) 448, Od 91 (.faddr 0 (.t 90)) 960, Od 92 (.load (.t 91)) 1984, ⟨(some 93), .mv (.c .any), some ((.c (.fn (.func 58) [] [])), [(.t 86), (.t 92)]), none, 4095⟩, Od 94 (.un .not (.t 93)) 8191]
abbrev qa7x : List SOper := [Oa 6 (.mv (.c (.bool false)))]
abbrev qa7w : List SOper := [Oa 79 (.mv (.t 7)), Oa 80 (.bin .add (.t 79) (.c (.int .i64 1))), Oa 7 (.mv (.t 80))]
def qalh : SCode := (.seq (.seq (.reg false qa7z [2, 3, 4, 7, 78]) (.cond (.t 78) .skip (.exit 0))) (.seq (.block 1 (.seq (.reg true qa7y [2, 3, 4, 7, 94]) (.cond (.t 94) (.seq (.reg false qa7x [6]) .ret) .skip))) (.reg false qa7w [2, 3, 4, 7])))
abbrev qa7v : List SOper := [Oa 8 (.mv (.c (.int .i64 0)))]
abbrev qav5 : List SOper := [Oa 95 (.mv (.t 8)), Oa 96 (.faddr 2 (.t 3)), Oa 97 (.load (.t 96)), Oa 98 (.len false (.t 97)), Oa 99 (.bin .lss (.t 95) (.t 98))]
abbrev qav4 : List SOper := [Oa 102 (.faddr 2 (.t 3)), Od 103 (.load (.t 102)) 1, Oa 104 (.mv (.t 8)), Od 105 (.iaddr 5 (.t 103) (.t 104)) 7, Od 106 (.loads 5 (.t 105)) 15, Oa 107 (.faddr 2 (.t 4)), Od 108 (.load (.t 107)) 32, Oa 109 (.mv (.t 8)), Od 110 (.iaddr 5 (.t 108) (.t 109)) 224, Od 111 (.loads 5 (.t 110)) 480, Oa 112 (.mv (.t 2)), ⟨(some 113), .mv (.c .any), some ((.c (.fn (.func 59) [] [])), [(.t 106), (.t 111), (.t 112)]), none, 2047⟩, Od 114 (.un .not (.t 113)) 4095]
abbrev qav3 : List SOper := [Oa 6 (.mv (.c (.bool false)))]
abbrev qav2 : List SOper := [Oa 100 (.mv (.t 8)), Oa 101 (.bin .add (.t 100) (.c (.int .i64 1))), Oa 8 (.mv (.t 101))]
def qalg : SCode := (.seq (.seq (.reg false qav5 [2, 3, 4, 8, 99]) (.cond (.t 99) .skip (.exit 2))) (.seq (.block 3 (.seq (.reg true qav4 [2, 3, 4, 8, 114]) (.cond (.t 114) (.seq (.reg false qav3 [6]) .ret) .skip))) (.reg false qav2 [2, 3, 4, 8])))
abbrev qav1 : List SOper := [Oa 9 (.mv (.c (.int .i64 0)))]
abbrev qav0 : List SOper := [Oa 115 (.mv (.t 9)), Oa 116 (.faddr 3 (.t 3)), Oa 117 (.load (.t 116)), Oa 118 (.len false (.t 117)), Oa 119 (.bin .lss (.t 115) (.t 118))]
abbrev qavz : List SOper := [Oa 122 (.faddr 3 (.t 3)), Od 123 (.load (.t 122)) 1, Oa 124 (.mv (.t 9)), Od 125 (.iaddr 2 (.t 123) (.t 124)) 7, Od 126 (.loads 2 (.t 125)) 15, Oa 127 (.faddr 3 (.t 4)), Od 128 (.load (.t 127)) 32, Oa 129 (.mv (.t 9)), Od 130 (.iaddr 2 (.t 128) (.t 129)) 224, Od 131 (.loads 2 (.t 130)) 480, Oa 10 (.alloc 108 [.nilsl, .nilsl]), Oa 11 (.alloc 108 [.nilsl, .nilsl]), ⟨none, .store 2 (.t 10) (.t 126), none, none, 3103⟩, ⟨none, .store 2 (.t 11) (.t 131), none, none, 8191⟩]
abbrev qavy : List SOper := [Oa 132 (.faddr 0 (.t 10)), Oa 133 (.load (.t 132)), Oa 134 (.faddr 0 (.t 11)), Oa 135 (.load (.t 134)), Oc 136 58 [(.t 133), (.t 135)], Oa 137 (.un .not (.t 136)), Oa 138 (.mv (.t 137)), Oe 139 (.faddr 1 (.t 10)) 138 false, Oe 140 (.load (.t 139)) 138 false, Oe 141 (.len false (.t 140)) 138 false, Oe 142 (.faddr 1 (.t 11)) 138 false, Oe 143 (.load (.t 142)) 138 false, Oe 144 (.len false (.t 143)) 138 false, Oe 145 (.bin .neq (.t 141) (.t 144)) 138 false, Oa 146 (.pick (.t 138) (.c (.bool true)) (.t 145))]
abbrev qavx : List SOper := [Oa 6 (.mv (.c (.bool false)))]
abbrev qavw : List SOper := [Oa 12 (.mv (.c (.int .i64 0)))]
abbrev qavv : List SOper := [Oa 147 (.mv (.t 12)), Oa 148 (.faddr 1 (.t 10)), Oa 149 (.load (.t 148)), Oa 150 (.len false (.t 149)), Oa 151 (.bin .lss (.t 147) (.t 150))]
abbrev qavu : List SOper := [Oa 154 (.faddr 1 (.t 10)), Od 155 (.load (.t 154)) 1, Oa 156 (.mv (.t 12)), Od 157 (.iaddr 5 (.t 155) (.t 156)) 7, Od 158 (.loads 5 (.t 157)) 15, Oa 159 (.faddr 1 (.t 11)), Od 160 (.load (.t 159)) 32, Oa 161 (.mv (.t 12)), Od 162 (.iaddr 5 (.t 160) (.t 161)) 224, Od 163 (.loads 5 (.t 162)) 480, Oa 164 (.mv (.t 2)), ⟨(some 165), .mv (.c .any), some ((.c (.fn (.func 60) [] [])), [(.t 158), (.t 163), (.t 164)]), none, 2047⟩, Od 166 (.un .not (.t 165)) 4095]
abbrev qavt : List SOper := [Oa 6 (.mv (.c (.bool false)))]
abbrev qavs : List SOper := [Oa 152 (.mv (.t 12)), Oa 153 (.bin .add (.t 152) (.c (.int .i64 1))), Oa 12 (.mv (.t 153))]
def qalf : SCode := (.seq (.seq (.reg false qavv [2, 3, 4, 9, 10, 11, 12, 151]) (.cond (.t 151) .skip (.exit 6))) (.seq (.block 7 (.seq (.reg true qavu [2, 3, 4, 9, 10, 11, 12, 166]) (.cond (.t 166) (.seq (.reg false qavt [6]) .ret) .skip))) (.reg false qavs [2, 3, 4, 9, 10, 11, 12])))
abbrev qavr : List SOper := [Oa 120 (.mv (.t 9)), Oa 121 (.bin .add (.t 120) (.c (.int .i64 1))), Oa 9 (.mv (.t 121))]
def qale : SCode := (.seq (.seq (.reg false qav0 [2, 3, 4, 9, 119]) (.cond (.t 119) .skip (.exit 4))) (.seq (.block 5 (.seq (.reg true qavz [2, 3, 4, 9, 10, 11]) (.seq (.seq (.reg false qavy [2, 3, 4, 9, 10, 11, 146]) (.cond (.t 146) (.seq (.reg false qavx [6]) .ret) .skip)) (.seq (.reg false qavw [2, 3, 4, 9, 10, 11, 12]) (.block 6 (.loop qalf)))))) (.reg false qavr [2, 3, 4, 9])))
abbrev qavq : List SOper := [Oa 13 (.mv (.c (.int .i64 0)))]
abbrev qavp : List SOper := [Oa 167 (.mv (.t 13)), Oa 168 (.faddr 4 (.t 3)), Oa 169 (.load (.t 168)), Oa 170 (.len false (.t 169)), Oa 171 (.bin .lss (.t 167) (.t 170))]
abbrev qavo : List SOper := [Oa 174 (.faddr 4 (.t 3)), Od 175 (.load (.t 174)) 1, Oa 176 (.mv (.t 13)), Od 177 (.iaddr 6 (.t 175) (.t 176)) 7, Od 178 (.loads 6 (.t 177)) 15, Oa 179 (.faddr 4 (.t 4)), Od 180 (.load (.t 179)) 32, Oa 181 (.mv (.t 13)), Od 182 (.iaddr 6 (.t 180) (.t 181)) 224, Od 183 (.loads 6 (.t 182)) 480, ⟨(some 184), .mv (.c .any), some ((.c (.fn (.func 61) [] [])), [(.t 178), (.t 183)]), none, 1023⟩, Od 185 (.un .not (.t 184)) 2047]
abbrev qavn : List SOper := [Oa 6 (.mv (.c (.bool false)))]
abbrev qavm : List SOper := [Oa 172 (.mv (.t 13)), Oa 173 (.bin .add (.t 172) (.c (.int .i64 1))), Oa 13 (.mv (.t 173))]
def qald : SCode := (.seq (.seq (.reg false qavp [2, 3, 4, 13, 171]) (.cond (.t 171) .skip (.exit 8))) (.seq (.block 9 (.seq (.reg true qavo [2, 3, 4, 13, 185]) (.cond (.t 185) (.seq (.reg false qavn [6]) .ret) .skip))) (.reg false qavm [2, 3, 4, 13])))
abbrev qavl : List SOper := [Oa 14 (.mv (.c (.int .i64 0)))]
abbrev qavk : List SOper := [Oa 186 (.mv (.t 14)), Oa 187 (.faddr 5 (.t 3)), Oa 188 (.load (.t 187)), Oa 189 (.len false (.t 188)), Oa 190 (.bin .lss (.t 186) (.t 189))]
abbrev qavj : List SOper := [Oa 193 (.faddr 5 (.t 3)), Od 194 (.load (.t 193)) 1, Oa 195 (.mv (.t 14)), Od 196 (.iaddr 5 (.t 194) (.t 195)) 7, Od 197 (.loads 5 (.t 196)) 15, Oa 198 (.faddr 5 (.t 4)), Od 199 (.load (.t 198)) 32, Oa 200 (.mv (.t 14)), Od 201 (.iaddr 5 (.t 199) (.t 200)) 224, Od 202 (.loads 5 (.t 201)) 480, Oa 203 (.mv (.t 2)), ⟨(some 204), .mv (.c .any), some ((.c (.fn (.func 62) [] [])), [(.t 197), (.t 202), (.t 203)]), none, 2047⟩, Od 205 (.un .not (.t 204)) 4095]
abbrev qavi : List SOper := [Oa 6 (.mv (.c (.bool false)))]
abbrev qavh : List SOper := [Oa 191 (.mv (.t 14)), Oa 192 (.bin .add (.t 191) (.c (.int .i64 1))), Oa 14 (.mv (.t 192))]
def qalc : SCode := (.seq (.seq (.reg false qavk [2, 3, 4, 14, 190]) (.cond (.t 190) .skip (.exit 10))) (.seq (.block 11 (.seq (.reg true qavj [2, 3, 4, 14, 205]) (.cond (.t 205) (.seq (.reg false qavi [6]) .ret) .skip))) (.reg false qavh [2, 3, 4, 14])))
abbrev qavg : List SOper := [Oa 6 (.mv (.c (.bool true)))]
def c_splan : SCode := (.seq (.reg false qa73 [2, 3, 4]) (.seq (.seq (.reg false qa72 [2, 3, 4, 73]) (.cond (.t 73) (.seq (.reg false qa71 [6]) .ret) .skip)) (.seq (.seq (.reg false qa70 [2, 3, 4, 7]) (.block 0 (.loop qalh))) (.seq (.seq (.reg false qa7v [2, 3, 4, 8]) (.block 2 (.loop qalg))) (.seq (.seq (.reg false qav1 [2, 3, 4, 9]) (.block 4 (.loop qale))) (.seq (.seq (.reg false qavq [2, 3, 4, 13]) (.block 8 (.loop qald))) (.seq (.seq (.reg false qavl [2, 3, 4, 14]) (.block 10 (.loop qalc))) (.seq (.reg false qavg [6]) .ret))))))))
theorem qan1 : comp Try.prog 206 ((Try.f20.body).getD .skip) = some c_splan.erase := by kernel_rfl
abbrev qbci : List SOper := [Oa 2 (.mv (.c .nilsl))]
abbrev qbch : List SOper := [Oa 3 (.mv (.c .nilsl))]
abbrev qbcg : List SOper := [Oa 4 (.mv (.t 3)), Oa 5 (.mv (.t 0)), Oa 6 (.app 3 1 8 (.t 4) (.t 5)), Oa 2 (.mv (.t 6))]
def c_oints : SCode := (.seq (.reg false qbci [0]) (.seq (.reg false qbch [0, 3]) (.seq (.reg false qbcg [2]) .ret)))
theorem qaom : comp Try.prog 7 ((Try.f52.body).getD .skip) = some c_oints.erase := by kernel_rfl
abbrev qbb7 : List SOper := [Oa 2 (.mv (.c .nilsl))]
abbrev qbb6 : List SOper := [Oa 3 (.mv (.c .nilsl))]
abbrev qbb5 : List SOper := [Oa 4 (.mv (.t 3)), Oa 5 (.mv (.t 0)), Oa 6 (.app 137 4 32 (.t 4) (.t 5)), Oa 2 (.mv (.t 6))]
def c_otree : SCode := (.seq (.reg false qbb7 [0]) (.seq (.reg false qbb6 [0, 3]) (.seq (.reg false qbb5 [2]) .ret)))
theorem qaok : comp Try.prog 7 ((Try.f53.body).getD .skip) = some c_otree.erase := by kernel_rfl
abbrev qbcf : List SOper := [Oa 1 (.box 29 (.t 0)), Oa 2 (.alloc 29 [.nilsl, .nilsl, .nilsl, .nilsl, .nilsl, .nilsl, .nilsl])]
abbrev qbce : List SOper := [Oa 18 (.faddr 1 (.t 1)), Od 19 (.load (.t 18)) 1, ⟨(some 20), .mv (.c .any), some ((.c (.fn (.func 52) [] [])), [(.t 19)]), none, 3⟩, Oa 21 (.faddr 6 (.t 1)), Od 22 (.load (.t 21)) 8, ⟨(some 23), .mv (.c .any), some ((.c (.fn (.func 52) [] [])), [(.t 22)]), none, 31⟩, Od 24 (.build [.nilsl, .nilsl, .nilsl, .nilsl, .nilsl, .nilsl, .nilsl] [(1, 1, (.t 20)), (6, 1, (.t 23))]) 63, Oa 3 (.alloc 29 [.nilsl, .nilsl, .nilsl, .nilsl, .nilsl, .nilsl, .nilsl]), ⟨none, .store 7 (.t 3) (.t 24), none, none, 255⟩]
abbrev qbcd : List SOper := [Oa 4 (.mv (.c (.int .i64 0)))]
abbrev qbcc : List SOper := [Oa 25 (.mv (.t 4)), Oa 26 (.faddr 0 (.t 1)), Oa 27 (.load (.t 26)), Oa 28 (.len false (.t 27)), Oa 29 (.bin .lss (.t 25) (.t 28))]
abbrev qbcb : List SOper := [Oa 32 (.faddr 0 (.t 3)), Od 33 (.load (.t 32)) 1, Oa 34 (.faddr 0 (.t 1)), Od 35 (.load (.t 34)) 4, Oa 36 (.mv (.t 4)), Od 37 (.iaddr 1 (.t 35) (.t 36)) 28, Od 38 (.faddr 0 (.t 37)) 60, Od 39 (.load (.t 38)) 124, ⟨(some 40), .mv (.c .any), some ((.c (.fn (.func 52) [] [])), [(.t 39)]), none, 252⟩, Od 41 (.build [.nilsl] [(0, 1, (.t 40))]) 508, Od 42 (.mkrow 100 1 1 [.nilsl] [(0, (.t 41))]) 1020, Od 43 (.app 100 1 24 (.t 33) (.t 42)) 2047, Od 44 (.faddr 0 (.t 3)) 4095, ⟨none, .store 1 (.t 44) (.t 43), none, none, 8191⟩]
abbrev qbca : List SOper := [Oa 30 (.mv (.t 4)), Oa 31 (.bin .add (.t 30) (.c (.int .i64 1))), Oa 4 (.mv (.t 31))]
def qamb : SCode := (.seq (.seq (.reg false qbcc [1, 2, 3, 4, 29]) (.cond (.t 29) .skip (.exit 0))) (.seq (.block 1 (.reg true qbcb [1, 2, 3, 4])) (.reg false qbca [1, 2, 3, 4])))
abbrev qal9 : List SOper := [Oa 5 (.mv (.c (.int .i64 0)))]
abbrev qbb9 : List SOper := [Oa 45 (.mv (.t 5)), Oa 46 (.faddr 2 (.t 1)), Oa 47 (.load (.t 46)), Oa 48 (.len false (.t 47)), Oa 49 (.bin .lss (.t 45) (.t 48))]
abbrev qbb8 : List SOper := [Oa 52 (.faddr 2 (.t 1)), Oa 53 (.load (.t 52)), Oa 54 (.mv (.t 5)), Oa 55 (.iaddr 5 (.t 53) (.t 54)), Oa 56 (.loads 5 (.t 55)), Oa 6 (.alloc 105 [(.int .i64 0), (.int .i64 0), (.int .i64 0), .nilsl, (.int .i64 0)]), Ob (.store 5 (.t 6) (.t 56))]
abbrev qa2s : List SOper := [Oa 7 (.mv (.c .nilsl))]
abbrev qa2r : List SOper := [Oa 57 (.mv (.t 7)), Oa 58 (.faddr 3 (.t 6)), Oa 59 (.load (.t 58)), Oa 60 (.app 176 3 24 (.t 57) (.t 59)), Oa 61 (.faddr 3 (.t 6)), Ob (.store 1 (.t 61) (.t 60))]
abbrev qajb : List SOper := [Oa 62 (.faddr 2 (.t 3)), Oa 63 (.load (.t 62)), Oa 64 (.loads 5 (.t 6)), Oa 65 (.mkrow 105 5 1 [(.int .i64 0), (.int .i64 0), (.int .i64 0), .nilsl, (.int .i64 0)] [(0, (.t 64))]), Oa 66 (.app 105 5 56 (.t 63) (.t 65)), Oa 67 (.faddr 2 (.t 3)), Ob (.store 1 (.t 67) (.t 66))]
abbrev qa2q : List SOper := [Oa 50 (.mv (.t 5)), Oa 51 (.bin .add (.t 50) (.c (.int .i64 1))), Oa 5 (.mv (.t 51))]
def qah4 : SCode := (.seq (.seq (.reg false qbb9 [1, 2, 3, 5, 49]) (.cond (.t 49) .skip (.exit 2))) (.seq (.block 3 (.seq (.reg false qbb8 [1, 2, 3, 5, 6]) (.seq (.reg false qa2s [1, 2, 3, 5, 6, 7]) (.seq (.reg false qa2r [1, 2, 3, 5, 6]) (.reg false qajb [1, 2, 3, 5]))))) (.reg false qa2q [1, 2, 3, 5])))
abbrev qagv : List SOper := [Oa 8 (.mv (.c (.int .i64 0)))]
abbrev qa2p : List SOper := [Oa 68 (.mv (.t 8)), Oa 69 (.faddr 3 (.t 1)), Oa 70 (.load (.t 69)), Oa 71 (.len false (.t 70)), Oa 72 (.bin .lss (.t 68) (.t 71))]
abbrev qa2o : List SOper := [Oa 75 (.faddr 3 (.t 1)), Oa 76 (.load (.t 75)), Oa 77 (.mv (.t 8)), Oa 78 (.iaddr 2 (.t 76) (.t 77)), Oa 79 (.faddr 0 (.t 78)), Oa 80 (.load (.t 79)), Oc 81 52 [(.t 80)], Oa 82 (.build [.nilsl, .nilsl] [(0, 1, (.t 81))]), Oa 9 (.alloc 108 [.nilsl, .nilsl]), Ob (.store 2 (.t 9) (.t 82))]
abbrev qa2n : List SOper := [Oa 10 (.mv (.c (.int .i64 0)))]
abbrev qa2m : List SOper := [Oa 83 (.mv (.t 10)), Oa 84 (.faddr 3 (.t 1)), Oa 85 (.load (.t 84)), Oa 86 (.mv (.t 8)), Oa 87 (.iaddr 2 (.t 85) (.t 86)), Oa 88 (.faddr 1 (.t 87)), Oa 89 (.load (.t 88)), Oa 90 (.len false (.t 89)), Oa 91 (.bin .lss (.t 83) (.t 90))]
abbrev qa2l : List SOper := [Oa 94 (.faddr 3 (.t 1)), Oa 95 (.load (.t 94)), Oa 96 (.mv (.t 8)), Oa 97 (.iaddr 2 (.t 95) (.t 96)), Oa 98 (.faddr 1 (.t 97)), Oa 99 (.load (.t 98)), Oa 100 (.mv (.t 10)), Oa 101 (.iaddr 5 (.t 99) (.t 100)), Oa 102 (.loads 5 (.t 101)), Oa 11 (.alloc 111 [(.int .i64 0), (.int .i64 0), (.int .i64 0), (.int .i64 0), .nilsl]), Ob (.store 5 (.t 11) (.t 102))]
abbrev qa2k : List SOper := [Oa 103 (.faddr 4 (.t 11)), Oa 104 (.load (.t 103)), Oc 105 53 [(.t 104)], Oa 106 (.faddr 4 (.t 11)), Ob (.store 1 (.t 106) (.t 105))]
abbrev qa2j : List SOper := [Oa 107 (.faddr 1 (.t 9)), Oa 108 (.load (.t 107)), Oa 109 (.loads 5 (.t 11)), Oa 110 (.mkrow 111 5 1 [(.int .i64 0), (.int .i64 0), (.int .i64 0), (.int .i64 0), .nilsl] [(0, (.t 109))]), Oa 111 (.app 111 5 56 (.t 108) (.t 110)), Oa 112 (.faddr 1 (.t 9)), Ob (.store 1 (.t 112) (.t 111))]
abbrev qa2i : List SOper := [Oa 92 (.mv (.t 10)), Oa 93 (.bin .add (.t 92) (.c (.int .i64 1))), Oa 10 (.mv (.t 93))]
def qama : SCode := (.seq (.seq (.reg false qa2m [1, 2, 3, 8, 9, 10, 91]) (.cond (.t 91) .skip (.exit 6))) (.seq (.block 7 (.seq (.reg false qa2l [1, 2, 3, 8, 9, 10, 11]) (.seq (.reg false qa2k [1, 2, 3, 8, 9, 10, 11]) (.reg false qa2j [1, 2, 3, 8, 9, 10])))) (.reg false qa2i [1, 2, 3, 8, 9, 10])))
abbrev qaja : List SOper := [Oa 113 (.faddr 3 (.t 3)), Oa 114 (.load (.t 113)), Oa 115 (.loads 2 (.t 9)), Oa 116 (.mkrow 108 2 1 [.nilsl, .nilsl] [(0, (.t 115))]), Oa 117 (.app 108 2 48 (.t 114) (.t 116)), Oa 118 (.faddr 3 (.t 3)), Ob (.store 1 (.t 118) (.t 117))]
abbrev qa2h : List SOper := [Oa 73 (.mv (.t 8)), Oa 74 (.bin .add (.t 73) (.c (.int .i64 1))), Oa 8 (.mv (.t 74))]
def qagb : SCode := (.seq (.seq (.reg false qa2p [1, 2, 3, 8, 72]) (.cond (.t 72) .skip (.exit 4))) (.seq (.block 5 (.seq (.reg false qa2o [1, 2, 3, 8, 9]) (.seq (.seq (.reg false qa2n [1, 2, 3, 8, 9, 10]) (.block 6 (.loop qama))) (.reg false qaja [1, 2, 3, 8])))) (.reg false qa2h [1, 2, 3, 8])))
abbrev qafc : List SOper := [Oa 12 (.mv (.c (.int .i64 0)))]
abbrev qa2g : List SOper := [Oa 119 (.mv (.t 12)), Oa 120 (.faddr 4 (.t 1)), Oa 121 (.load (.t 120)), Oa 122 (.len false (.t 121)), Oa 123 (.bin .lss (.t 119) (.t 122))]
abbrev qa2f : List SOper := [Oa 126 (.faddr 4 (.t 1)), Oa 127 (.load (.t 126)), Oa 128 (.mv (.t 12)), Oa 129 (.iaddr 6 (.t 127) (.t 128)), Oa 130 (.loads 6 (.t 129)), Oa 13 (.alloc 114 [(.int .i64 0), .nilsl, .nilsl, (.int .i64 0), (.int .i64 0), .nilsl]), Ob (.store 6 (.t 13) (.t 130))]
abbrev qa2e : List SOper := [Oa 14 (.mv (.c .nilsl))]
abbrev qa2d : List SOper := [Oa 15 (.mv (.c .nilsl))]
abbrev qa2c : List SOper := [Oa 131 (.mv (.t 14)), Oa 132 (.faddr 1 (.t 13)), Od 133 (.load (.t 132)) 2, Od 134 (.app 102 2 16 (.t 131) (.t 133)) 7, Oa 135 (.faddr 2 (.t 13)), Od 136 (.load (.t 135)) 16, ⟨(some 137), .mv (.c .any), some ((.c (.fn (.func 52) [] [])), [(.t 136)]), none, 63⟩, Oa 138 (.mv (.t 15)), Oa 139 (.faddr 5 (.t 13)), Od 140 (.load (.t 139)) 256, Od 141 (.app 39 1 8 (.t 138) (.t 140)) 1023, Od 142 (.faddr 1 (.t 13)) 831, ⟨none, .store 1 (.t 142) (.t 134), none, none, 4095⟩, Od 143 (.faddr 2 (.t 13)) 8191, ⟨none, .store 1 (.t 143) (.t 137), none, none, 16383⟩, Od 144 (.faddr 5 (.t 13)) 32767, ⟨none, .store 1 (.t 144) (.t 141), none, none, 65535⟩]
abbrev qai9 : List SOper := [Oa 145 (.faddr 4 (.t 3)), Oa 146 (.load (.t 145)), Oa 147 (.loads 6 (.t 13)), Oa 148 (.mkrow 114 6 1 [(.int .i64 0), .nilsl, .nilsl, (.int .i64 0), (.int .i64 0), .nilsl] [(0, (.t 147))]), Oa 149 (.app 114 6 96 (.t 146) (.t 148)), Oa 150 (.faddr 4 (.t 3)), Ob (.store 1 (.t 150) (.t 149))]
abbrev qa2b : List SOper := [Oa 124 (.mv (.t 12)), Oa 125 (.bin .add (.t 124) (.c (.int .i64 1))), Oa 12 (.mv (.t 125))]
def qaez : SCode := (.seq (.seq (.reg false qa2g [1, 2, 3, 12, 123]) (.cond (.t 123) .skip (.exit 8))) (.seq (.block 9 (.seq (.reg false qa2f [1, 2, 3, 12, 13]) (.seq (.reg false qa2e [1, 2, 3, 12, 13, 14]) (.seq (.reg false qa2d [1, 2, 3, 12, 13, 14, 15]) (.seq (.reg true qa2c [1, 2, 3, 12, 13]) (.reg false qai9 [1, 2, 3, 12])))))) (.reg false qa2b [1, 2, 3, 12])))
abbrev qaej : List SOper := [Oa 16 (.mv (.c (.int .i64 0)))]
abbrev qa2a : List SOper := [Oa 151 (.mv (.t 16)), Oa 152 (.faddr 5 (.t 1)), Oa 153 (.load (.t 152)), Oa 154 (.len false (.t 153)), Oa 155 (.bin .lss (.t 151) (.t 154))]
abbrev qa19 : List SOper := [Oa 158 (.faddr 5 (.t 1)), Oa 159 (.load (.t 158)), Oa 160 (.mv (.t 16)), Oa 161 (.iaddr 5 (.t 159) (.t 160)), Oa 162 (.loads 5 (.t 161)), Oa 17 (.alloc 116 [(.int .i64 0), (.int .i64 0), .nilsl, (.int .i64 0), (.int .i64 0)]), Ob (.store 5 (.t 17) (.t 162))]
abbrev qa18 : List SOper := [Oa 163 (.faddr 2 (.t 17)), Oa 164 (.load (.t 163)), Oc 165 53 [(.t 164)], Oa 166 (.faddr 2 (.t 17)), Ob (.store 1 (.t 166) (.t 165))]
abbrev qa17 : List SOper := [Oa 167 (.faddr 5 (.t 3)), Oa 168 (.load (.t 167)), Oa 169 (.loads 5 (.t 17)), Oa 170 (.mkrow 116 5 1 [(.int .i64 0), (.int .i64 0), .nilsl, (.int .i64 0), (.int .i64 0)] [(0, (.t 169))]), Oa 171 (.app 116 5 56 (.t 168) (.t 170)), Oa 172 (.faddr 5 (.t 3)), Ob (.store 1 (.t 172) (.t 171))]
abbrev qa16 : List SOper := [Oa 156 (.mv (.t 16)), Oa 157 (.bin .add (.t 156) (.c (.int .i64 1))), Oa 16 (.mv (.t 157))]
def qaek : SCode := (.seq (.seq (.reg false qa2a [1, 2, 3, 16, 155]) (.cond (.t 155) .skip (.exit 10))) (.seq (.block 11 (.seq (.reg false qa19 [1, 2, 3, 16, 17]) (.seq (.reg false qa18 [1, 2, 3, 16, 17]) (.reg false qa17 [1, 2, 3, 16])))) (.reg false qa16 [1, 2, 3, 16])))
abbrev qadz : List SOper := [Oa 173 (.loads 7 (.t 3)), Ob (.store 7 (.t 2) (.t 173))]
def c_oplan : SCode := (.seq (.reg false qbcf [1, 2]) (.seq (.reg true qbce [1, 2, 3]) (.seq (.seq (.reg false qbcd [1, 2, 3, 4]) (.block 0 (.loop qamb))) (.seq (.seq (.reg false qal9 [1, 2, 3, 5]) (.block 2 (.loop qah4))) (.seq (.seq (.reg false qagv [1, 2, 3, 8]) (.block 4 (.loop qagb))) (.seq (.seq (.reg false qafc [1, 2, 3, 12]) (.block 8 (.loop qaez))) (.seq (.seq (.reg false qaej [1, 2, 3, 16]) (.block 10 (.loop qaek))) (.seq (.reg false qadz [2]) .ret))))))))
theorem qaol : comp Try.prog 174 ((Try.f15.body).getD .skip) = some c_oplan.erase := by kernel_rfl
abbrev qbdt : List SOper := [Oa 1 (.box 29 (.t 0)), Oa 2 (.mv (.c (.bool false)))]
abbrev qbds : List SOper := [Oa 9 (.faddr 0 (.t 1)), Oa 10 (.load (.t 9)), Oa 11 (.len false (.t 10)), Oa 12 (.bin .gtr (.t 11) (.c (.int .i64 50))), Oa 13 (.mv (.t 12)), Oe 14 (.faddr 1 (.t 1)) 13 false, Oe 15 (.load (.t 14)) 13 false, Oe 16 (.len false (.t 15)) 13 false, Oe 17 (.bin .gtr (.t 16) (.c (.int .i64 500))) 13 false, Oa 18 (.pick (.t 13) (.c (.bool true)) (.t 17)), Oa 19 (.mv (.t 18)), Oe 20 (.faddr 2 (.t 1)) 19 false, Oe 21 (.load (.t 20)) 19 false, Oe 22 (.len false (.t 21)) 19 false, Oe 23 (.bin .gtr (.t 22) (.c (.int .i64 50))) 19 false, Oa 24 (.pick (.t 19) (.c (.bool true)) (.t 23)), Oa 25 (.mv (.t 24)), Oe 26 (.faddr 3 (.t 1)) 25 false, Oe 27 (.load (.t 26)) 25 false, Oe 28 (.len false (.t 27)) 25 false, Oe 29 (.bin .gtr (.t 28) (.c (.int .i64 50))) 25 false, Oa 30 (.pick (.t 25) (.c (.bool true)) (.t 29)), Oa 31 (.mv (.t 30)), Oe 32 (.faddr 4 (.t 1)) 31 false, Oe 33 (.load (.t 32)) 31 false, Oe 34 (.len false (.t 33)) 31 false, Oe 35 (.bin .gtr (.t 34) (.c (.int .i64 50))) 31 false, Oa 36 (.pick (.t 31) (.c (.bool true)) (.t 35)), Oa 37 (.mv (.t 36)), Oe 38 (.faddr 5 (.t 1)) 37 false, Oe 39 (.load (.t 38)) 37 false, Oe 40 (.len false (.t 39)) 37 false, Oe 41 (.bin .gtr (.t 40) (.c (.int .i64 50))) 37 false, Oa 42 (.pick (.t 37) (.c (.bool true)) (.t 41)), Oa 43 (.mv (.t 42)), Oe 44 (.faddr 6 (.t 1)) 43 false, Oe 45 (.load (.t 44)) 43 false, Oe 46 (.len false (.t 45)) 43 false, Oe 47 (.bin .gtr (.t 46) (.c (.int .i64 500))) 43 false, Oa 48 (.pick (.t 43) (.c (.bool true)) (.t 47))]
abbrev qbdr : List SOper := [Oa 2 (.mv (.c (.bool true)))]
abbrev qbdq : List SOper := [Oa 3 (.mv (.c (.int .i64 0)))]
abbrev qbdp : List SOper := [Oa 49 (.mv (.t 3)), Oa 50 (.faddr 0 (.t 1)), Oa 51 (.load (.t 50)), Oa 52 (.len false (.t 51)), Oa 53 (.bin .lss (.t 49) (.t 52))]
abbrev qbdo : List SOper := [Oa 56 (.faddr 0 (.t 1)), Oa 57 (.load (.t 56)), Oa 58 (.mv (.t 3)), Oa 59 (.iaddr 1 (.t 57) (.t 58)), Oa 60 (.faddr 0 (.t 59)), Oa 61 (.load (.t 60)), Oa 62 (.len false (.t 61)), Oa 63 (.bin .gtr (.t 62) (.c (.int .i64 500)))]
abbrev qbdn : List SOper := [Oa 2 (.mv (.c (.bool true)))]
abbrev qbdm : List SOper := [Oa 54 (.mv (.t 3)), Oa 55 (.bin .add (.t 54) (.c (.int .i64 1))), Oa 3 (.mv (.t 55))]
def qamv : SCode := (.seq (.seq (.reg false qbdp [1, 3, 53]) (.cond (.t 53) .skip (.exit 0))) (.seq (.block 1 (.seq (.reg false qbdo [1, 3, 63]) (.cond (.t 63) (.seq (.reg false qbdn [2]) .ret) .skip))) (.reg false qbdm [1, 3])))
abbrev qbdl : List SOper := [Oa 4 (.mv (.c (.int .i64 0)))]
abbrev qa3z : List SOper := [Oa 64 (.mv (.t 4)), Oa 65 (.faddr 2 (.t 1)), Oa 66 (.load (.t 65)), Oa 67 (.len false (.t 66)), Oa 68 (.bin .lss (.t 64) (.t 67))]
abbrev qa3y : List SOper := [Oa 71 (.faddr 2 (.t 1)), Oa 72 (.load (.t 71)), Oa 73 (.mv (.t 4)), Oa 74 (.iaddr 5 (.t 72) (.t 73)), Oa 75 (.faddr 3 (.t 74)), Oa 76 (.load (.t 75)), Oa 77 (.len false (.t 76)), Oa 78 (.bin .gtr (.t 77) (.c (.int .i64 500)))]
abbrev qa3x : List SOper := [Oa 2 (.mv (.c (.bool true)))]
abbrev qa3w : List SOper := [Oa 69 (.mv (.t 4)), Oa 70 (.bin .add (.t 69) (.c (.int .i64 1))), Oa 4 (.mv (.t 70))]
def qamu : SCode := (.seq (.seq (.reg false qa3z [1, 4, 68]) (.cond (.t 68) .skip (.exit 2))) (.seq (.block 3 (.seq (.reg false qa3y [1, 4, 78]) (.cond (.t 78) (.seq (.reg false qa3x [2]) .ret) .skip))) (.reg false qa3w [1, 4])))
abbrev qa3v : List SOper := [Oa 5 (.mv (.c (.int .i64 0)))]
abbrev qa3u : List SOper := [Oa 79 (.mv (.t 5)), Oa 80 (.faddr 3 (.t 1)), Oa 81 (.load (.t 80)), Oa 82 (.len false (.t 81)), Oa 83 (.bin .lss (.t 79) (.t 82))]
abbrev qa3t : List SOper := [Oa 86 (.faddr 3 (.t 1)), Oa 87 (.load (.t 86)), Oa 88 (.mv (.t 5)), Oa 89 (.iaddr 2 (.t 87) (.t 88)), Oa 90 (.faddr 0 (.t 89)), Oa 91 (.load (.t 90)), Oa 92 (.len false (.t 91)), Oa 93 (.bin .gtr (.t 92) (.c (.int .i64 500))), Oa 94 (.mv (.t 93)), Oe 95 (.faddr 3 (.t 1)) 94 false, Oe 96 (.load (.t 95)) 94 false, Oe 97 (.mv (.t 5)) 94 false, Oe 98 (.iaddr 2 (.t 96) (.t 97)) 94 false, Oe 99 (.faddr 1 (.t 98)) 94 false, Oe 100 (.load (.t 99)) 94 false, Oe 101 (.len false (.t 100)) 94 false, Oe 102 (.bin .gtr (.t 101) (.c (.int .i64 50))) 94 false, Oa 103 (.pick (.t 94) (.c (.bool true)) (.t 102))]
abbrev qa3s : List SOper := [Oa 2 (.mv (.c (.bool true)))]
abbrev qa3r : List SOper := [Oa 6 (.mv (.c (.int .i64 0)))]
abbrev qa3q : List SOper := [Oa 104 (.mv (.t 6)), Oa 105 (.faddr 3 (.t 1)), Oa 106 (.load (.t 105)), Oa 107 (.mv (.t 5)), Oa 108 (.iaddr 2 (.t 106) (.t 107)), Oa 109 (.faddr 1 (.t 108)), Oa 110 (.load (.t 109)), Oa 111 (.len false (.t 110)), Oa 112 (.bin .lss (.t 104) (.t 111))]
abbrev qa3p : List SOper := [Oa 115 (.faddr 3 (.t 1)), Oa 116 (.load (.t 115)), Oa 117 (.mv (.t 5)), Oa 118 (.iaddr 2 (.t 116) (.t 117)), Oa 119 (.faddr 1 (.t 118)), Oa 120 (.load (.t 119)), Oa 121 (.mv (.t 6)), Oa 122 (.iaddr 5 (.t 120) (.t 121)), Oa 123 (.faddr 4 (.t 122)), Oa 124 (.load (.t 123)), Oa 125 (.len false (.t 124)), Oa 126 (.bin .gtr (.t 125) (.c (.int .i64 500)))]
abbrev qa3o : List SOper := [Oa 2 (.mv (.c (.bool true)))]
abbrev qa3n : List SOper := [Oa 113 (.mv (.t 6)), Oa 114 (.bin .add (.t 113) (.c (.int .i64 1))), Oa 6 (.mv (.t 114))]
def qamt : SCode := (.seq (.seq (.reg false qa3q [1, 5, 6, 112]) (.cond (.t 112) .skip (.exit 6))) (.seq (.block 7 (.seq (.reg false qa3p [1, 5, 6, 126]) (.cond (.t 126) (.seq (.reg false qa3o [2]) .ret) .skip))) (.reg false qa3n [1, 5, 6])))
abbrev qa3m : List SOper := [Oa 84 (.mv (.t 5)), Oa 85 (.bin .add (.t 84) (.c (.int .i64 1))), Oa 5 (.mv (.t 85))]
def qams : SCode := (.seq (.seq (.reg false qa3u [1, 5, 83]) (.cond (.t 83) .skip (.exit 4))) (.seq (.block 5 (.seq (.seq (.reg false qa3t [1, 5, 103]) (.cond (.t 103) (.seq (.reg false qa3s [2]) .ret) .skip)) (.seq (.reg false qa3r [1, 5, 6]) (.block 6 (.loop qamt))))) (.reg false qa3m [1, 5])))
abbrev qa3l : List SOper := [Oa 7 (.mv (.c (.int .i64 0)))]
abbrev qa3k : List SOper := [Oa 127 (.mv (.t 7)), Oa 128 (.faddr 4 (.t 1)), Oa 129 (.load (.t 128)), Oa 130 (.len false (.t 129)), Oa 131 (.bin .lss (.t 127) (.t 130))]
abbrev qa3j : List SOper := [Oa 134 (.faddr 4 (.t 1)), Oa 135 (.load (.t 134)), Oa 136 (.mv (.t 7)), Oa 137 (.iaddr 6 (.t 135) (.t 136)), Oa 138 (.faddr 1 (.t 137)), Oa 139 (.load (.t 138)), Oa 140 (.len false (.t 139)), Oa 141 (.bin .gtr (.t 140) (.c (.int .i64 500))), Oa 142 (.mv (.t 141)), Oe 143 (.faddr 4 (.t 1)) 142 false, Oe 144 (.load (.t 143)) 142 false, Oe 145 (.mv (.t 7)) 142 false, Oe 146 (.iaddr 6 (.t 144) (.t 145)) 142 false, Oe 147 (.faddr 2 (.t 146)) 142 false, Oe 148 (.load (.t 147)) 142 false, Oe 149 (.len false (.t 148)) 142 false, Oe 150 (.bin .gtr (.t 149) (.c (.int .i64 500))) 142 false, Oa 151 (.pick (.t 142) (.c (.bool true)) (.t 150)), Oa 152 (.mv (.t 151)), Oe 153 (.faddr 4 (.t 1)) 152 false, Oe 154 (.load (.t 153)) 152 false, Oe 155 (.mv (.t 7)) 152 false, Oe 156 (.iaddr 6 (.t 154) (.t 155)) 152 false, Oe 157 (.faddr 5 (.t 156)) 152 false, Oe 158 (.load (.t 157)) 152 false, Oe 159 (.len false (.t 158)) 152 false, Oe 160 (.bin .gtr (.t 159) (.c (.int .i64 500))) 152 false, Oa 161 (.pick (.t 152) (.c (.bool true)) (.t 160))]
abbrev qa3i : List SOper := [Oa 2 (.mv (.c (.bool true)))]
abbrev qa3h : List SOper := [Oa 132 (.mv (.t 7)), Oa 133 (.bin .add (.t 132) (.c (.int .i64 1))), Oa 7 (.mv (.t 133))]
def qamr : SCode := (.seq (.seq (.reg false qa3k [1, 7, 131]) (.cond (.t 131) .skip (.exit 8))) (.seq (.block 9 (.seq (.reg false qa3j [1, 7, 161]) (.cond (.t 161) (.seq (.reg false qa3i [2]) .ret) .skip))) (.reg false qa3h [1, 7])))
abbrev qa3g : List SOper := [Oa 8 (.mv (.c (.int .i64 0)))]
abbrev qa3f : List SOper := [Oa 162 (.mv (.t 8)), Oa 163 (.faddr 5 (.t 1)), Oa 164 (.load (.t 163)), Oa 165 (.len false (.t 164)), Oa 166 (.bin .lss (.t 162) (.t 165))]
abbrev qa3e : List SOper := [Oa 169 (.faddr 5 (.t 1)), Oa 170 (.load (.t 169)), Oa 171 (.mv (.t 8)), Oa 172 (.iaddr 5 (.t 170) (.t 171)), Oa 173 (.faddr 2 (.t 172)), Oa 174 (.load (.t 173)), Oa 175 (.len false (.t 174)), Oa 176 (.bin .gtr (.t 175) (.c (.int .i64 500)))]
abbrev qa3d : List SOper := [Oa 2 (.mv (.c (.bool true)))]
abbrev qa3c : List SOper := [Oa 167 (.mv (.t 8)), Oa 168 (.bin .add (.t 167) (.c (.int .i64 1))), Oa 8 (.mv (.t 168))]
def qamq : SCode := (.seq (.seq (.reg false qa3f [1, 8, 166]) (.cond (.t 166) .skip (.exit 10))) (.seq (.block 11 (.seq (.reg false qa3e [1, 8, 176]) (.cond (.t 176) (.seq (.reg false qa3d [2]) .ret) .skip))) (.reg false qa3c [1, 8])))
abbrev qa3b : List SOper := [Oa 2 (.mv (.c (.bool false)))]
def c_gplan : SCode := (.seq (.reg false qbdt [1]) (.seq (.seq (.reg false qbds [1, 48]) (.cond (.t 48) (.seq (.reg false qbdr [2]) .ret) .skip)) (.seq (.seq (.reg false qbdq [1, 3]) (.block 0 (.loop qamv))) (.seq (.seq (.reg false qbdl [1, 4]) (.block 2 (.loop qamu))) (.seq (.seq (.reg false qa3v [1, 5]) (.block 4 (.loop qams))) (.seq (.seq (.reg false qa3l [1, 7]) (.block 8 (.loop qamr))) (.seq (.seq (.reg false qa3g [1, 8]) (.block 10 (.loop qamq))) (.seq (.reg false qa3b [2]) .ret))))))))
theorem qaot : comp Try.prog 177 ((Try.f9.body).getD .skip) = some c_gplan.erase := by kernel_rfl
end Go.Proofs.Yticeaegpkpjjeaa
namespace Go.Proofs.Yticeaegpkpjjeaa
set_option linter.all false
open Go.RowKit
abbrev qa8h : List SOper := [Oa 4 (.mv (.c (.bool false)))]
abbrev qa8g : List SOper := [Oa 6 (.mv (.t 0)), Oa 7 (.len false (.t 6)), Oa 8 (.mv (.t 1)), Oa 9 (.len false (.t 8)), Oa 10 (.bin .neq (.t 7) (.t 9))]
abbrev qa8f : List SOper := [Oa 4 (.mv (.c (.bool false)))]
abbrev qa8e : List SOper := [Oa 5 (.mv (.c (.int .i64 0)))]
abbrev qa8d : List SOper := [Oa 11 (.mv (.t 5)), Oa 12 (.mv (.t 0)), Oa 13 (.len false (.t 12)), Oa 14 (.bin .lss (.t 11) (.t 13))]
abbrev qa8c : List SOper := [Oa 17 (.mv (.t 0)), Oa 18 (.mv (.t 5)), Od 19 (.iaddr 1 (.t 17) (.t 18)) 3, Od 20 (.load (.t 19)) 7, Oa 21 (.mv (.t 1)), Oa 22 (.mv (.t 5)), Od 23 (.iaddr 1 (.t 21) (.t 22)) 48, Od 24 (.load (.t 23)) 112, Od 25 (.bin .neq (.t 20) (.t 24)) 255]
abbrev qa8b : List SOper := [Oa 4 (.mv (.c (.bool false)))]
abbrev qa8a : List SOper := [Oa 15 (.mv (.t 5)), Oa 16 (.bin .add (.t 15) (.c (.int .i64 1))), Oa 5 (.mv (.t 16))]
def qals : SCode := (.seq (.seq (.reg false qa8d [0, 1, 5, 14]) (.cond (.t 14) .skip (.exit 0))) (.seq (.block 1 (.seq (.reg true qa8c [0, 1, 5, 25]) (.cond (.t 25) (.seq (.reg false qa8b [4]) .ret) .skip))) (.reg false qa8a [0, 1, 5])))
abbrev qa79 : List SOper := [Oa 4 (.mv (.c (.bool true)))]
def c_sints : SCode := (.seq (.reg false qa8h [0, 1]) (.seq (.seq (.reg false qa8g [0, 1, 10]) (.cond (.t 10) (.seq (.reg false qa8f [4]) .ret) .skip)) (.seq (.seq (.reg false qa8e [0, 1, 5]) (.block 0 (.loop qals))) (.seq (.reg false qa79 [4]) .ret))))
theorem qan4 : comp Try.prog 26 ((Try.f58.body).getD .skip) = some c_sints.erase := by kernel_rfl
end Go.Proofs.Yticeaegpkpjjeaa
namespace Go.Proofs.Yticeaegpkpjjeaa
set_option linter.all false
open Go.RowKit
attribute [local simp] qabg qabf qaas qaa3 qaat qaa2 qabd qabe qaan qabo SOp.run SX.ev putd puts argS upds SOp.touch SSt.keep SSt.skip gets geth puth delh idOf SV.cells? setL qac6 qac7 sbin eq0 eq1 eqL qac1 qab1 qab2 qaap qabh qaag qabi qabp qaai qaao FrzOk qaa7 qaa0 qaa5 qaa6 qaau qaaz qabl qaa1 qaaw qaa8 qaav frzS frzH frz frz1 frz0 SlotsM ObjsM ObjM rn ren ren1 ren0 qabt qab6 qab9 qabs qabm qaca qab8 CoL qaa9 qacb dels adds idsH qabx
attribute [local simp] qadr refc qael qaed qab7 opc actc tabc qady qacl nums
theorem qaj9 (l : List Int) (hl : l.length ≤ 1000000) (q : Nat) : SCalls Try.prog 58 [nums .i64 l, nums .i64 l] [] q (.bool true) [] := by
 refine qabj ?_ (fun _ => rfl) (fun _ => rfl) rfl q
 refine qaax (N := 26) Try.func58 rfl rfl (by kernel_rfl) qan4 (by simp) (by repeat' (first | exact trivial | refine And.intro ?_ ?_ | rfl | decide | exact PureR.ren _)) (by repeat' (first | exact trivial | refine And.intro ?_ ?_ | rfl | decide | exact PureR.ren _)) ?_
 rintro X hP hN hm
 unfold c_sints
 repeat' (first | (with_reducible refine zA ?_) | ((with_reducible refine qaac ?_); (try rw [hP]); simp -implicitDefEqProofs [*]) | ((with_reducible refine qaaf ?_); (try simp -implicitDefEqProofs [*])) | ((with_reducible refine qaaa rfl (fun h => ?_) (fun h => ?_)) <;> have h' := h <;> (try simp at h') <;> (try subst h')) | fail)
 refine qaal (qabb (fun s (i : Nat) => s.turn [(5, .int .i64 i)] []) (fun i => i ≤ l.length) (fun i => l.length - i) 0 ?_ (by simp) ?_)
 ·repeat' (first | ((with_reducible refine qaah [] hm ?_ ?_ ?_ ?_) <;> (try simp only [zT, puth, Nat.reduceEqDiff, reduceIte, Nat.reduceAdd])) | (with_reducible refine za ?_ ?_) | (with_reducible first | exact qaab | exact qaad) | ((with_reducible refine zgb ?_); rfl) | ((with_reducible refine zgd ?_); (first | omega | (simp; done))) | (exact Co.refl _) | fail)
 rintro J hJ i h1
 unfold qals
 simp only [zT, puth, Nat.reduceEqDiff, reduceIte, Nat.reduceAdd] at h1 ⊢
 rcases Nat.lt_or_ge i l.length with hi | hi
 ·have wi : IntKind.i64.wrap ((i : Int) + 1) = (i : Int) + 1 := qaaq (by omega) (by omega)
  generalize hxx : l[i] = x
  repeat' (first | (with_reducible first | refine zA ?_ | refine qaae ?_ | refine zK ?_) | ((with_reducible first | refine qaac ?_ | refine qaa4 (by rw [hP]; exact qacr) ?_); (try rw [hP]); simp -implicitDefEqProofs [*]) | ((with_reducible refine qaaf ?_); (try simp -implicitDefEqProofs [*])) | ((with_reducible refine qaaa rfl (fun h => ?_) (fun h => ?_)) <;> have h' := h <;> (try simp at h') <;> (try subst h')) | (with_reducible refine za ?_ ?_) | (with_reducible first | exact qaab | exact qaad) | ((with_reducible refine zgb ?_); rfl) | ((with_reducible first | refine zgd ?_ | refine zge ?_); (first | omega | (simp; done))) | (exact Co.refl _) | ((refine qaaj hJ (i + 1) ?_ ?_ ?_; (with_reducible refine qaah [] hm ?_ ?_ ?_ ?_) <;> (try simp only [zT, puth, Nat.reduceEqDiff, reduceIte, Nat.reduceAdd]))) | fail)
  all_goals omega
 ·obtain rfl : i = l.length := by omega
  repeat' (first | (with_reducible refine zA ?_) | ((with_reducible refine qaac ?_); (try rw [hP]); simp -implicitDefEqProofs [*]) | ((with_reducible refine qaak ?_); (try simp -implicitDefEqProofs [*])) | ((with_reducible refine qaam ?_); (try simp only [qaap, qaag, qaai])) | ((with_reducible refine qaaa rfl (fun h => ?_) (fun h => ?_)) <;> have h' := h <;> (try simp at h') <;> (try subst h')) | (with_reducible refine zN hm ?_) | fail)
  all_goals rfl
theorem qbjd (l : List Int) (hl : l.length ≤ 1000000) (q : Nat) : SCalls Try.prog 18 [nums .u64 l, nums .u64 l] [] q (.bool true) [] := by
 have := qabj (qbic l l hl) (fun _ => rfl) (fun _ => rfl) rfl q
 rwa [decide_eq_true rfl] at this
theorem qbia (l : List PushD) (hl : l.length ≤ 1000000) (q : Nat) : SCalls Try.prog 107 [qab5 l, qab5 l, .bool false] [] q (.bool true) [] := by
 refine qabj ?_ (fun _ => rfl) (fun _ => rfl) rfl q
 refine qaax (N := 66) Try.func107 rfl rfl (by kernel_rfl) qan0 (by simp) (by repeat' (first | exact trivial | refine And.intro ?_ ?_ | rfl | decide | exact PureR.ren _)) (by repeat' (first | exact trivial | refine And.intro ?_ ?_ | rfl | decide | exact PureR.ren _)) ?_
 rintro X hP hN hm
 unfold c_stree
 repeat' (first | (with_reducible refine zA ?_) | ((with_reducible refine qaac ?_); (try rw [hP]); simp -implicitDefEqProofs [qab5, *]) | ((with_reducible refine qaaf ?_); (try simp -implicitDefEqProofs [qab5, *])) | ((with_reducible refine qaaa rfl (fun h => ?_) (fun h => ?_)) <;> have h' := h <;> (try simp at h') <;> (try subst h')) | fail)
 refine qaal (qabb (fun s (i : Nat) => s.turn [(7, .int .i64 i)] []) (fun i => i ≤ l.length) (fun i => l.length - i) 0 ?_ (by simp) ?_)
 ·repeat' (first | ((with_reducible refine qaah [] hm ?_ ?_ ?_ ?_) <;> (try simp only [zT, puth, Nat.reduceEqDiff, reduceIte, Nat.reduceAdd])) | (with_reducible refine za ?_ ?_) | (with_reducible first | exact qaab | exact qaad) | ((with_reducible refine zgb ?_); rfl) | ((with_reducible refine zgd ?_); (first | omega | (simp; done))) | (exact Co.refl _) | fail)
 rintro J hJ i h1
 unfold qalb
 simp only [zT, puth, Nat.reduceEqDiff, reduceIte, Nat.reduceAdd] at h1 ⊢
 rcases Nat.lt_or_ge i l.length with hi | hi
 ·have wi : IntKind.i64.wrap ((i : Int) + 1) = (i : Int) + 1 := qaaq (by omega) (by omega)
  generalize hxx : l[i] = x
  repeat' (first | (with_reducible first | refine zA ?_ | refine qaae ?_ | refine zK ?_) | ((with_reducible first | refine qaac ?_ | refine qaa4 (by rw [hP]; exact qacr) ?_); (try rw [hP]); simp -implicitDefEqProofs [*]) | ((with_reducible refine qaaf ?_); (try simp -implicitDefEqProofs [*])) | ((with_reducible refine qaaa rfl (fun h => ?_) (fun h => ?_)) <;> have h' := h <;> (try simp at h') <;> (try subst h')) | (with_reducible refine za ?_ ?_) | (with_reducible first | exact qaab | exact qaad) | ((with_reducible refine zgb ?_); rfl) | ((with_reducible first | refine zgd ?_ | refine zge ?_); (first | omega | (simp; done))) | (exact Co.refl _) | ((refine qaaj hJ (i + 1) ?_ ?_ ?_; (with_reducible refine qaah [] hm ?_ ?_ ?_ ?_) <;> (try simp only [zT, puth, Nat.reduceEqDiff, reduceIte, Nat.reduceAdd]))) | fail)
  all_goals omega
 ·obtain rfl : i = l.length := by omega
  repeat' (first | (with_reducible refine zA ?_) | ((with_reducible refine qaac ?_); (try rw [hP]); simp -implicitDefEqProofs [*]) | ((with_reducible refine qaak ?_); (try simp -implicitDefEqProofs [*])) | ((with_reducible refine qaam ?_); (try simp only [qaap, qaag, qaai])) | ((with_reducible refine qaaa rfl (fun h => ?_) (fun h => ?_)) <;> have h' := h <;> (try simp at h') <;> (try subst h')) | (with_reducible refine zN hm ?_) | fail)
  all_goals rfl
theorem qbjc (s : StateD) (hl : s.cases_.length ≤ 1000000) (q : Nat) : SCalls Try.prog 59 [.agg (qab7 s), .agg (qab7 s), .bool false] [] q (.bool true) [] := by
 refine qabj ?_ (fun _ => rfl) (fun _ => rfl) rfl q
 refine qaax (N := 64) Try.func59 rfl rfl (by kernel_rfl) qaku (by simp) (by repeat' (first | exact trivial | refine And.intro ?_ ?_ | rfl | decide | exact PureR.ren _)) (by repeat' (first | exact trivial | refine And.intro ?_ ?_ | rfl | decide | exact PureR.ren _)) ?_
 rintro X hP hN hm
 unfold c_sstate
 repeat' (first | (with_reducible refine zA ?_) | ((with_reducible refine qaac ?_); (try rw [hP]); simp -implicitDefEqProofs [*]) | ((with_reducible refine qaaf ?_); (try simp -implicitDefEqProofs [*])) | ((with_reducible refine qaaa rfl (fun h => ?_) (fun h => ?_)) <;> have h' := h <;> (try simp at h') <;> (try subst h')) | fail)
 refine qaal (qabb (fun σ (i : Nat) => σ.turn [(7, .int .i64 i)] []) (fun i => i ≤ s.cases_.length) (fun i => s.cases_.length - i) 0 ?_ (by simp) ?_)
 ·repeat' (first | ((with_reducible refine qaah [] hm ?_ ?_ ?_ ?_) <;> (try simp only [zT, puth, Nat.reduceEqDiff, reduceIte, Nat.reduceAdd])) | (with_reducible first | refine za ?_ ?_ | refine zb ?_ ?_ ?_ ?_) | (with_reducible first | exact qaab | exact qaad) | ((with_reducible first | refine zga ?_ | refine zgb ?_); rfl) | ((with_reducible refine zgd ?_); (first | omega | (simp; done))) | (exact Co.refl _) | (exact CoL.refl _) | fail)
 rintro J hJ i h1
 unfold qaiu
 simp only [zT, puth, Nat.reduceEqDiff, reduceIte, Nat.reduceAdd] at h1 ⊢
 rcases Nat.lt_or_ge i s.cases_.length with hi | hi
 ·have wi : IntKind.i64.wrap ((i : Int) + 1) = (i : Int) + 1 := qaaq (by omega) (by omega)
  generalize hxx : s.cases_[i] = x
  repeat' (first | (with_reducible first | refine zA ?_ | refine qaae ?_ | refine zK ?_) | ((with_reducible first | refine qaac ?_ | refine qaa4 (by rw [hP]; exact qacr) ?_); (try rw [hP]); simp -implicitDefEqProofs [*]) | ((with_reducible refine qaaf ?_); (try simp -implicitDefEqProofs [*])) | ((with_reducible refine qaaa rfl (fun h => ?_) (fun h => ?_)) <;> have h' := h <;> (try simp at h') <;> (try subst h')) | (with_reducible first | refine za ?_ ?_ | refine zb ?_ ?_ ?_ ?_) | (with_reducible first | exact qaab | exact qaad) | ((with_reducible first | refine zga ?_ | refine zgb ?_); rfl) | ((with_reducible first | refine zgd ?_ | refine zge ?_); (first | omega | (simp; done))) | (exact Co.refl _) | (exact CoL.refl _) | ((refine qaaj hJ (i + 1) ?_ ?_ ?_; (with_reducible refine qaah [] hm ?_ ?_ ?_ ?_) <;> (try simp only [zT, puth, Nat.reduceEqDiff, reduceIte, Nat.reduceAdd]))) | fail)
  all_goals omega
 ·obtain rfl : i = s.cases_.length := by omega
  repeat' (first | (with_reducible refine zA ?_) | ((with_reducible refine qaac ?_); (try rw [hP]); simp -implicitDefEqProofs [*]) | ((with_reducible refine qaak ?_); (try simp -implicitDefEqProofs [*])) | ((with_reducible refine qaam ?_); (try simp only [qaap, qaag, qaai])) | ((with_reducible refine qaaa rfl (fun h => ?_) (fun h => ?_)) <;> have h' := h <;> (try simp at h') <;> (try subst h')) | (with_reducible refine zN hm ?_) | fail)
  all_goals rfl
theorem sop_s (o : OpD) (hl : o.e.length ≤ 1000000) (q : Nat) : SCalls Try.prog 60 [.agg (opc o), .agg (opc o), .bool false] [] q (.bool true) [] := by
 refine qabj ?_ (fun _ => rfl) (fun _ => rfl) rfl q
 refine qaax (N := 90) Try.func60 rfl rfl (by kernel_rfl) qa6k (by simp) (by repeat' (first | exact trivial | refine And.intro ?_ ?_ | rfl | decide | exact PureR.ren _)) (by repeat' (first | exact trivial | refine And.intro ?_ ?_ | rfl | decide | exact PureR.ren _)) ?_
 rintro X hP hN hm
 unfold c_sop
 repeat' (first | (with_reducible refine zA ?_) | ((with_reducible refine qaac ?_); (try rw [hP]); simp -implicitDefEqProofs [*]) | ((with_reducible refine qaam ?_); (try simp only [qaap, qaag, qaai])) | (refine qaay (qbia o.e hl _) ?_; simp -implicitDefEqProofs [*]) | (with_reducible refine zN hm ?_) | fail)
 all_goals rfl
theorem snode_s (o : NodeD) (hl : o.e.length ≤ 1000000) (q : Nat) : SCalls Try.prog 62 [.agg (qady o), .agg (qady o), .bool false] [] q (.bool true) [] := by
 refine qabj ?_ (fun _ => rfl) (fun _ => rfl) rfl q
 refine qaax (N := 82) Try.func62 rfl rfl (by kernel_rfl) qan3 (by simp) (by repeat' (first | exact trivial | refine And.intro ?_ ?_ | rfl | decide | exact PureR.ren _)) (by repeat' (first | exact trivial | refine And.intro ?_ ?_ | rfl | decide | exact PureR.ren _)) ?_
 rintro X hP hN hm
 unfold c_snode
 repeat' (first | (with_reducible refine zA ?_) | ((with_reducible refine qaac ?_); (try rw [hP]); simp -implicitDefEqProofs [*]) | ((with_reducible refine qaam ?_); (try simp only [qaap, qaag, qaai])) | (refine qaay (qbia o.e hl _) ?_; simp -implicitDefEqProofs [*]) | (with_reducible refine zN hm ?_) | fail)
 all_goals rfl
theorem qbjb (t : TabD) (h1 : t.keys.length ≤ 1000000) (h2 : t.acts.length ≤ 1000000) (h3 : t.args.length ≤ 1000000) (q : Nat) : SCalls Try.prog 61 [.agg (tabc t), .agg (tabc t)] [] q (.bool true) [] := by
 refine qabj ?_ (fun _ => rfl) (fun _ => rfl) rfl q
 refine qaax (N := 64) Try.func61 rfl rfl (by kernel_rfl) qakt (by simp) (by repeat' (first | exact trivial | refine And.intro ?_ ?_ | rfl | decide | exact PureR.ren _)) (by repeat' (first | exact trivial | refine And.intro ?_ ?_ | rfl | decide | exact PureR.ren _)) ?_
 rintro X hP hN hm
 unfold c_stable
 repeat' (first | (with_reducible refine zA ?_) | ((with_reducible refine qaac ?_); (try rw [hP]); simp -implicitDefEqProofs [*]) | ((with_reducible refine qaaf ?_); (try simp -implicitDefEqProofs [*])) | ((with_reducible refine qaaa rfl (fun h => ?_) (fun h => ?_)) <;> have h' := h <;> (try simp at h') <;> (try subst h')) | fail)
 refine qaal (qabb (fun s (i : Nat) => s.turn [(5, .int .i64 i)] []) (fun i => i ≤ t.keys.length) (fun i => t.keys.length - i) 0 ?_ (by simp) ?_)
 ·repeat' (first | ((with_reducible refine qaah [] hm ?_ ?_ ?_ ?_) <;> (try simp only [zT, puth, Nat.reduceEqDiff, reduceIte, Nat.reduceAdd])) | (with_reducible first | refine za ?_ ?_ | refine zb ?_ ?_ ?_ ?_) | (with_reducible first | exact qaab | exact qaad) | ((with_reducible first | refine zga ?_ | refine zgb ?_); rfl) | ((with_reducible refine zgd ?_); (first | omega | (simp; done))) | (exact Co.refl _) | (exact CoL.refl _) | fail)
 rintro J hJ i h1
 unfold qait
 simp only [zT, puth, Nat.reduceEqDiff, reduceIte, Nat.reduceAdd] at h1 ⊢
 rcases Nat.lt_or_ge i t.keys.length with hi | hi
 ·have wi : IntKind.i64.wrap ((i : Int) + 1) = (i : Int) + 1 := qaaq (by omega) (by omega)
  generalize hxx : t.keys[i] = x
  repeat' (first | (with_reducible first | refine zA ?_ | refine qaae ?_ | refine zK ?_) | ((with_reducible first | refine qaac ?_ | refine qaa4 (by rw [hP]; exact qacr) ?_); (try rw [hP]); simp -implicitDefEqProofs [*]) | ((with_reducible refine qaaf ?_); (try simp -implicitDefEqProofs [*])) | ((with_reducible refine qaaa rfl (fun h => ?_) (fun h => ?_)) <;> have h' := h <;> (try simp at h') <;> (try subst h')) | (with_reducible first | refine za ?_ ?_ | refine zb ?_ ?_ ?_ ?_) | (with_reducible first | exact qaab | exact qaad) | ((with_reducible first | refine zga ?_ | refine zgb ?_); rfl) | ((with_reducible first | refine zgd ?_ | refine zge ?_); (first | omega | (simp; done))) | (exact Co.refl _) | (exact CoL.refl _) | ((refine qaaj hJ (i + 1) ?_ ?_ ?_; (with_reducible refine qaah [] hm ?_ ?_ ?_ ?_) <;> (try simp only [zT, puth, Nat.reduceEqDiff, reduceIte, Nat.reduceAdd]))) | fail)
  all_goals omega
 ·obtain rfl : i = t.keys.length := by omega
  repeat' (first | (with_reducible refine zA ?_) | ((with_reducible refine qaac ?_); (try rw [hP]); simp -implicitDefEqProofs [*]) | ((with_reducible refine qaak ?_); (try simp -implicitDefEqProofs [*])) | ((with_reducible refine qaam ?_); (try simp only [qaap, qaag, qaai])) | ((with_reducible refine qaaa rfl (fun h => ?_) (fun h => ?_)) <;> have h' := h <;> (try simp at h') <;> (try subst h')) | ((first | refine qaay (qaj9 t.acts h2 _) ?_ | refine qaay (qbjd t.args h3 _) ?_); simp -implicitDefEqProofs [*]) | (with_reducible refine zN hm ?_) | fail)
  all_goals rfl
set_option maxHeartbeats 4000000 in
theorem splan_s (p : PlanD) (hs : SmallP p) (q : Nat) : SCalls Try.prog 20 [.agg (qacl p), .agg (qacl p), .bool false] [] q (.bool true) [] := by
 refine qabj ?_ (fun _ => rfl) (fun _ => rfl) rfl q
 refine qaax (N := 206) Try.func20 rfl rfl (by kernel_rfl) qan1 (by simp) (by repeat' (first | exact trivial | refine And.intro ?_ ?_ | rfl | decide | exact PureR.ren _)) (by repeat' (first | exact trivial | refine And.intro ?_ ?_ | rfl | decide | exact PureR.ren _)) ?_
 rintro X hP hN hm
 have hl1 := hs.heads
 have hl2 := hs.metas
 have hl3 := hs.states
 have hl4 := hs.acts
 have hl5 := hs.tabs
 have hl6 := hs.nodes
 have hl7 := hs.outs
 unfold c_splan
 repeat' (first | (with_reducible refine zA ?_) | ((with_reducible refine qaac ?_); (try rw [hP]); simp -implicitDefEqProofs [*]) | ((with_reducible refine qaaf ?_); (try simp -implicitDefEqProofs [*])) | ((with_reducible refine qaaa rfl (fun h => ?_) (fun h => ?_)) <;> have h' := h <;> (try simp at h') <;> (try subst h')) | ((first | refine qaay (qaj9 p.meta_ (by omega) _) ?_ | refine qaay (qaj9 p.out (by omega) _) ?_); simp -implicitDefEqProofs [*]) | fail)
 refine qaal (qabb (fun s (i : Nat) => s.turn [(7, .int .i64 i)] []) (fun i => i ≤ p.heads.length) (fun i => p.heads.length - i) 0 ?_ (by simp) ?_)
 ·repeat' (first | ((with_reducible refine qaah [] hm ?_ ?_ ?_ ?_) <;> (try simp only [zT, puth, Nat.reduceEqDiff, reduceIte, Nat.reduceAdd])) | (with_reducible first | refine za ?_ ?_ | refine zb ?_ ?_ ?_ ?_) | (with_reducible first | exact qaab | exact qaad) | ((with_reducible first | refine zga ?_ | refine zgb ?_); rfl) | ((with_reducible refine zgd ?_); (first | omega | (simp; done))) | (exact Co.refl _) | (exact CoL.refl _) | fail)
 rintro J hJ i h1
 unfold qalh
 simp only [zT, puth, Nat.reduceEqDiff, reduceIte, Nat.reduceAdd] at h1 ⊢
 rcases Nat.lt_or_ge i p.heads.length with hi | hi
 ·have wi : IntKind.i64.wrap ((i : Int) + 1) = (i : Int) + 1 := qaaq (by omega) (by omega)
  have hc := fun q => qaj9 p.heads[i].w (by have := hs.headW _ (List.getElem_mem hi); omega) q
  replace hc := Lib.hid hc
  generalize hxx : p.heads[i] = x at hc
  repeat' (first | (with_reducible first | refine zA ?_ | refine qaae ?_ | refine zK ?_) | ((with_reducible first | refine qaac ?_ | refine qaa4 (by rw [hP]; exact qacr) ?_); (try rw [hP]); simp -implicitDefEqProofs [*]) | ((with_reducible refine qaaf ?_); (try simp -implicitDefEqProofs [*])) | ((with_reducible refine qaaa rfl (fun h => ?_) (fun h => ?_)) <;> have h' := h <;> (try simp at h') <;> (try subst h')) | (refine qaay (hc.out _) ?_; simp -implicitDefEqProofs [*]) | (with_reducible first | refine za ?_ ?_ | refine zb ?_ ?_ ?_ ?_) | (with_reducible first | exact qaab | exact qaad) | ((with_reducible first | refine zga ?_ | refine zgb ?_); rfl) | ((with_reducible first | refine zgd ?_ | refine zge ?_); (first | omega | (simp; done))) | (exact Co.refl _) | (exact CoL.refl _) | ((refine qaaj hJ (i + 1) ?_ ?_ ?_; (with_reducible refine qaah [] hm ?_ ?_ ?_ ?_) <;> (try simp only [zT, puth, Nat.reduceEqDiff, reduceIte, Nat.reduceAdd]))) | fail)
  all_goals omega
 ·obtain rfl : i = p.heads.length := by omega
  clear hJ h1 hi
  repeat' (first | (with_reducible refine zA ?_) | ((with_reducible refine qaac ?_); (try rw [hP]); simp -implicitDefEqProofs [*]) | ((with_reducible refine qaak ?_); (try simp -implicitDefEqProofs [*])) | ((with_reducible refine qaaa rfl (fun h => ?_) (fun h => ?_)) <;> have h' := h <;> (try simp at h') <;> (try subst h')) | fail)
  refine qaal (qabb (fun s (i : Nat) => s.turn [(8, .int .i64 i)] []) (fun i => i ≤ p.states.length) (fun i => p.states.length - i) 0 ?_ (by simp) ?_)
  ·repeat' (first | ((with_reducible refine qaah [] hm ?_ ?_ ?_ ?_) <;> (try simp only [zT, puth, Nat.reduceEqDiff, reduceIte, Nat.reduceAdd])) | (with_reducible first | refine za ?_ ?_ | refine zb ?_ ?_ ?_ ?_) | (with_reducible first | exact qaab | exact qaad) | ((with_reducible first | refine zga ?_ | refine zgb ?_); rfl) | ((with_reducible refine zgd ?_); (first | omega | (simp; done))) | (exact Co.refl _) | (exact CoL.refl _) | fail)
  rintro J hJ i h1
  unfold qalg
  simp only [zT, puth, Nat.reduceEqDiff, reduceIte, Nat.reduceAdd] at h1 ⊢
  rcases Nat.lt_or_ge i p.states.length with hi | hi
  ·have wi : IntKind.i64.wrap ((i : Int) + 1) = (i : Int) + 1 := qaaq (by omega) (by omega)
   have hc := fun q => qbjc p.states[i] (by have := hs.cases_ _ (List.getElem_mem hi); omega) q
   replace hc := Lib.hid hc
   generalize hxx : p.states[i] = x at hc
   repeat' (first | (with_reducible first | refine zA ?_ | refine qaae ?_ | refine zK ?_) | ((with_reducible first | refine qaac ?_ | refine qaa4 (by rw [hP]; exact qacr) ?_); (try rw [hP]); simp -implicitDefEqProofs [*]) | ((with_reducible refine qaaf ?_); (try simp -implicitDefEqProofs [*])) | ((with_reducible refine qaaa rfl (fun h => ?_) (fun h => ?_)) <;> have h' := h <;> (try simp at h') <;> (try subst h')) | (refine qaay (hc.out _) ?_; simp -implicitDefEqProofs [*]) | (with_reducible first | refine za ?_ ?_ | refine zb ?_ ?_ ?_ ?_) | (with_reducible first | exact qaab | exact qaad) | ((with_reducible first | refine zga ?_ | refine zgb ?_); rfl) | ((with_reducible first | refine zgd ?_ | refine zge ?_); (first | omega | (simp; done))) | (exact Co.refl _) | (exact CoL.refl _) | ((refine qaaj hJ (i + 1) ?_ ?_ ?_; (with_reducible refine qaah [] hm ?_ ?_ ?_ ?_) <;> (try simp only [zT, puth, Nat.reduceEqDiff, reduceIte, Nat.reduceAdd]))) | fail)
   all_goals omega
  ·obtain rfl : i = p.states.length := by omega
   clear hJ h1 hi
   repeat' (first | (with_reducible refine zA ?_) | ((with_reducible refine qaac ?_); (try rw [hP]); simp -implicitDefEqProofs [*]) | ((with_reducible refine qaak ?_); (try simp -implicitDefEqProofs [*])) | ((with_reducible refine qaaa rfl (fun h => ?_) (fun h => ?_)) <;> have h' := h <;> (try simp at h') <;> (try subst h')) | fail)
   refine qaal (qabb (fun s (i : Nat) => s.turn [(9, .int .i64 i)] []) (fun i => i ≤ p.acts.length) (fun i => p.acts.length - i) 0 ?_ (by simp) ?_)
   ·repeat' (first | ((with_reducible refine qaah [] hm ?_ ?_ ?_ ?_) <;> (try simp only [zT, puth, Nat.reduceEqDiff, reduceIte, Nat.reduceAdd])) | (with_reducible first | refine za ?_ ?_ | refine zb ?_ ?_ ?_ ?_) | (with_reducible first | exact qaab | exact qaad) | ((with_reducible first | refine zga ?_ | refine zgb ?_); rfl) | ((with_reducible refine zgd ?_); (first | omega | (simp; done))) | (exact Co.refl _) | (exact CoL.refl _) | fail)
   rintro J hJ i h1
   have hJo := hJ
   unfold qale
   simp only [zT, puth, Nat.reduceEqDiff, reduceIte, Nat.reduceAdd] at h1 ⊢
   rcases Nat.lt_or_ge i p.acts.length with hi | hi
   ·have wi : IntKind.i64.wrap ((i : Int) + 1) = (i : Int) + 1 := qaaq (by omega) (by omega)
    have hc := fun q => qaj9 p.acts[i].w (by have := hs.actW _ (List.getElem_mem hi); omega) q
    have hol := hs.ops _ (List.getElem_mem hi)
    have htl := hs.tree _ (List.getElem_mem hi)
    replace hc := Lib.hid hc
    generalize hxx : p.acts[i] = x at hc hol htl
    replace htl := Lib.hid htl
    repeat' (first | (with_reducible first | refine zA ?_ | refine qaae ?_ | refine zK ?_) | ((with_reducible first | refine qaac ?_ | refine qaa4 (by rw [hP]; exact qacr) ?_); (try rw [hP]); simp -implicitDefEqProofs [*]) | ((with_reducible refine qaaf ?_); (try simp -implicitDefEqProofs [*])) | ((with_reducible refine qaaa rfl (fun h => ?_) (fun h => ?_)) <;> have h' := h <;> (try simp at h') <;> (try subst h')) | (refine qaay (hc.out _) ?_; simp -implicitDefEqProofs [*]) | fail)
    refine qaal (qabb (fun s (k : Nat) => s.turn [(12, .int .i64 k)] []) (fun k => k ≤ x.ops.length) (fun k => x.ops.length - k) 0 ?_ (by simp) ?_)
    ·repeat' (first | ((with_reducible refine qaah [] hm ?_ ?_ ?_ ?_) <;> (try simp only [zT, puth, Nat.reduceEqDiff, reduceIte, Nat.reduceAdd])) | (with_reducible first | refine za ?_ ?_ | refine zb ?_ ?_ ?_ ?_) | (with_reducible first | exact qaab | exact qaad) | ((with_reducible first | refine zga ?_ | refine zgb ?_); rfl) | ((with_reducible refine zgd ?_); (first | omega | (simp; done))) | (exact Co.refl _) | (exact CoL.refl _) | fail)
    rintro J hJ k h2
    unfold qalf
    simp only [zT, puth, Nat.reduceEqDiff, reduceIte, Nat.reduceAdd] at h2 ⊢
    rcases Nat.lt_or_ge k x.ops.length with hk | hk
    ·have wj : IntKind.i64.wrap ((k : Int) + 1) = (k : Int) + 1 := qaaq (by omega) (by omega)
     have hc2 := fun q => sop_s x.ops[k] (by have := htl.out _ (List.getElem_mem hk); omega) q
     replace hc2 := Lib.hid hc2
     generalize hyy : x.ops[k] = y at hc2
     repeat' (first | (with_reducible first | refine zA ?_ | refine qaae ?_ | refine zK ?_) | ((with_reducible first | refine qaac ?_ | refine qaa4 (by rw [hP]; exact qacr) ?_); (try rw [hP]); simp -implicitDefEqProofs [*]) | ((with_reducible refine qaaf ?_); (try simp -implicitDefEqProofs [*])) | ((with_reducible refine qaaa rfl (fun h => ?_) (fun h => ?_)) <;> have h' := h <;> (try simp at h') <;> (try subst h')) | (refine qaay (hc2.out _) ?_; simp -implicitDefEqProofs [*]) | (with_reducible first | refine za ?_ ?_ | refine zb ?_ ?_ ?_ ?_) | (with_reducible first | exact qaab | exact qaad) | ((with_reducible first | refine zga ?_ | refine zgb ?_); rfl) | ((with_reducible first | refine zgd ?_ | refine zge ?_); (first | omega | (simp; done))) | (exact Co.refl _) | (exact CoL.refl _) | ((refine qaaj hJ (k + 1) ?_ ?_ ?_; (with_reducible refine qaah [] hm ?_ ?_ ?_ ?_) <;> (try simp only [zT, puth, Nat.reduceEqDiff, reduceIte, Nat.reduceAdd]))) | fail)
     all_goals omega
    ·obtain rfl : k = x.ops.length := by omega
     repeat' (first | (with_reducible refine zA ?_) | ((with_reducible refine qaac ?_); (try rw [hP]); simp -implicitDefEqProofs [*]) | ((with_reducible refine qaak ?_); (try simp -implicitDefEqProofs [*])) | ((with_reducible refine qaaa rfl (fun h => ?_) (fun h => ?_)) <;> have h' := h <;> (try simp at h') <;> (try subst h')) | (with_reducible first | refine za ?_ ?_ | refine zb ?_ ?_ ?_ ?_) | (with_reducible first | exact qaab | exact qaad) | ((with_reducible first | refine zga ?_ | refine zgb ?_); rfl) | ((with_reducible first | refine zgd ?_ | refine zge ?_); (first | omega | (simp; done))) | (exact Co.refl _) | (exact CoL.refl _) | ((refine qaaj hJo (i + 1) ?_ ?_ ?_; (with_reducible refine qaah [] hm ?_ ?_ ?_ ?_) <;> (try simp only [zT, puth, Nat.reduceEqDiff, reduceIte, Nat.reduceAdd]))) | fail)
     all_goals omega
   ·obtain rfl : i = p.acts.length := by omega
    clear hJ hJo h1 hi
    repeat' (first | (with_reducible refine zA ?_) | ((with_reducible refine qaac ?_); (try rw [hP]); simp -implicitDefEqProofs [*]) | ((with_reducible refine qaak ?_); (try simp -implicitDefEqProofs [*])) | ((with_reducible refine qaaa rfl (fun h => ?_) (fun h => ?_)) <;> have h' := h <;> (try simp at h') <;> (try subst h')) | fail)
    refine qaal (qabb (fun s (i : Nat) => s.turn [(13, .int .i64 i)] []) (fun i => i ≤ p.tabs.length) (fun i => p.tabs.length - i) 0 ?_ (by simp) ?_)
    ·repeat' (first | ((with_reducible refine qaah [] hm ?_ ?_ ?_ ?_) <;> (try simp only [zT, puth, Nat.reduceEqDiff, reduceIte, Nat.reduceAdd])) | (with_reducible first | refine za ?_ ?_ | refine zb ?_ ?_ ?_ ?_) | (with_reducible first | exact qaab | exact qaad) | ((with_reducible first | refine zga ?_ | refine zgb ?_); rfl) | ((with_reducible refine zgd ?_); (first | omega | (simp; done))) | (exact Co.refl _) | (exact CoL.refl _) | fail)
    rintro J hJ i h1
    unfold qald
    simp only [zT, puth, Nat.reduceEqDiff, reduceIte, Nat.reduceAdd] at h1 ⊢
    rcases Nat.lt_or_ge i p.tabs.length with hi | hi
    ·have wi : IntKind.i64.wrap ((i : Int) + 1) = (i : Int) + 1 := qaaq (by omega) (by omega)
     have hc := fun q => qbjb p.tabs[i] (by have := hs.keys _ (List.getElem_mem hi); omega) (by have := hs.keys _ (List.getElem_mem hi); omega) (by have := hs.keys _ (List.getElem_mem hi); omega) q
     replace hc := Lib.hid hc
     generalize hxx : p.tabs[i] = x at hc
     repeat' (first | (with_reducible first | refine zA ?_ | refine qaae ?_ | refine zK ?_) | ((with_reducible first | refine qaac ?_ | refine qaa4 (by rw [hP]; exact qacr) ?_); (try rw [hP]); simp -implicitDefEqProofs [*]) | ((with_reducible refine qaaf ?_); (try simp -implicitDefEqProofs [*])) | ((with_reducible refine qaaa rfl (fun h => ?_) (fun h => ?_)) <;> have h' := h <;> (try simp at h') <;> (try subst h')) | (refine qaay (hc.out _) ?_; simp -implicitDefEqProofs [*]) | (with_reducible first | refine za ?_ ?_ | refine zb ?_ ?_ ?_ ?_) | (with_reducible first | exact qaab | exact qaad) | ((with_reducible first | refine zga ?_ | refine zgb ?_); rfl) | ((with_reducible first | refine zgd ?_ | refine zge ?_); (first | omega | (simp; done))) | (exact Co.refl _) | (exact CoL.refl _) | ((refine qaaj hJ (i + 1) ?_ ?_ ?_; (with_reducible refine qaah [] hm ?_ ?_ ?_ ?_) <;> (try simp only [zT, puth, Nat.reduceEqDiff, reduceIte, Nat.reduceAdd]))) | fail)
     all_goals omega
    ·obtain rfl : i = p.tabs.length := by omega
     clear hJ h1 hi
     repeat' (first | (with_reducible refine zA ?_) | ((with_reducible refine qaac ?_); (try rw [hP]); simp -implicitDefEqProofs [*]) | ((with_reducible refine qaak ?_); (try simp -implicitDefEqProofs [*])) | ((with_reducible refine qaaa rfl (fun h => ?_) (fun h => ?_)) <;> have h' := h <;> (try simp at h') <;> (try subst h')) | fail)
     refine qaal (qabb (fun s (i : Nat) => s.turn [(14, .int .i64 i)] []) (fun i => i ≤ p.nodes.length) (fun i => p.nodes.length - i) 0 ?_ (by simp) ?_)
     ·repeat' (first | ((with_reducible refine qaah [] hm ?_ ?_ ?_ ?_) <;> (try simp only [zT, puth, Nat.reduceEqDiff, reduceIte, Nat.reduceAdd])) | (with_reducible first | refine za ?_ ?_ | refine zb ?_ ?_ ?_ ?_) | (with_reducible first | exact qaab | exact qaad) | ((with_reducible first | refine zga ?_ | refine zgb ?_); rfl) | ((with_reducible refine zgd ?_); (first | omega | (simp; done))) | (exact Co.refl _) | (exact CoL.refl _) | fail)
     rintro J hJ i h1
     unfold qalc
     simp only [zT, puth, Nat.reduceEqDiff, reduceIte, Nat.reduceAdd] at h1 ⊢
     rcases Nat.lt_or_ge i p.nodes.length with hi | hi
     ·have wi : IntKind.i64.wrap ((i : Int) + 1) = (i : Int) + 1 := qaaq (by omega) (by omega)
      have hc := fun q => snode_s p.nodes[i] (by have := hs.node _ (List.getElem_mem hi); omega) q
      replace hc := Lib.hid hc
      generalize hxx : p.nodes[i] = x at hc
      repeat' (first | (with_reducible first | refine zA ?_ | refine qaae ?_ | refine zK ?_) | ((with_reducible first | refine qaac ?_ | refine qaa4 (by rw [hP]; exact qacr) ?_); (try rw [hP]); simp -implicitDefEqProofs [*]) | ((with_reducible refine qaaf ?_); (try simp -implicitDefEqProofs [*])) | ((with_reducible refine qaaa rfl (fun h => ?_) (fun h => ?_)) <;> have h' := h <;> (try simp at h') <;> (try subst h')) | (refine qaay (hc.out _) ?_; simp -implicitDefEqProofs [*]) | (with_reducible first | refine za ?_ ?_ | refine zb ?_ ?_ ?_ ?_) | (with_reducible first | exact qaab | exact qaad) | ((with_reducible first | refine zga ?_ | refine zgb ?_); rfl) | ((with_reducible first | refine zgd ?_ | refine zge ?_); (first | omega | (simp; done))) | (exact Co.refl _) | (exact CoL.refl _) | ((refine qaaj hJ (i + 1) ?_ ?_ ?_; (with_reducible refine qaah [] hm ?_ ?_ ?_ ?_) <;> (try simp only [zT, puth, Nat.reduceEqDiff, reduceIte, Nat.reduceAdd]))) | fail)
      all_goals omega
     ·obtain rfl : i = p.nodes.length := by omega
      repeat' (first | (with_reducible refine zA ?_) | ((with_reducible refine qaac ?_); (try rw [hP]); simp -implicitDefEqProofs [*]) | ((with_reducible refine qaak ?_); (try simp -implicitDefEqProofs [*])) | ((with_reducible refine qaam ?_); (try simp only [qaap, qaag, qaai])) | ((with_reducible refine qaaa rfl (fun h => ?_) (fun h => ?_)) <;> have h' := h <;> (try simp at h') <;> (try subst h')) | (with_reducible refine zN hm ?_) | fail)
      all_goals rfl
end Go.Proofs.Yticeaegpkpjjeaa
namespace Go.Proofs.Yticeaegpkpjjeaa
set_option linter.all false
open Go.RowKit
attribute [local simp] qabg qabf qaas qaa3 qaat qaa2 qabd qabe qaan qabo SOp.run SX.ev putd puts argS upds SOp.touch SSt.keep SSt.skip gets geth puth delh idOf SV.cells? setL qac6 qac7 sbin eq0 eq1 eqL qac1 qab1 qab2 qaap qabh qaag qabi qabp qaai qaao FrzOk qaa7 qaa0 qaa5 qaa6 qaau qaaz qabl qaa1 qaaw qaa8 qaav frzS frzH frz frz1 frz0 SlotsM ObjsM ObjM rn ren ren1 ren0 qabt qab6 qab9 qabs qabm qaca qab8 CoL qaa9 qacb dels adds idsH qabx
attribute [local simp] qadr refc qael qaed qab7 opc actc tabc qady qacl nums
theorem qasn {X : Cx} {sl : Sl} {hp : Hp} {t nx id n e z : Nat} {es fs : List (List SV)} [PureR es] (hm : X.m = 0) (hu : gets sl t = .own id n) (h : geth hp id = some (.row e z es)) (hn : n = es.length) (hf : es = fs) : QFun X [.tmp t] 0 (.view z fs) [] .ret ⟨sl, hp, nx⟩ := by
 subst hf hn
 have h1 : Wk X ⟨sl, hp, nx⟩ (SSt.frz ⟨sl, hp, nx⟩ [id]) := wk_frz [id] fun i o hi ho => by
  have : i = id := by simpa using hi
  subst this
  rw [h] at ho; cases ho
  exact (qad8 e z es).2 trivial
 have h2 : gets (frzS (geth hp) [id] sl) t = .view z es := by
  rw [qanr, hu]; simp [frz, frz1, frz0, h]
 refine ⟨⟨[(t, .view z es)], [], 0⟩, h1.trans (qad3 [] hm rfl (Nat.zero_le _) ⟨?_, trivial⟩ trivial), by simp [qar3, resL, resV, one_, gets], trivial, by simp⟩
 show Co (gets (frzS (geth hp) [id] sl) t) _
 rw [h2]; exact Co.refl _
theorem qakd (l : List Int) (hl : l.length ≤ 1000000) (q : Nat) : SCalls Try.prog 52 [nums .i64 l] [] q (nums .i64 l) [] := by
 refine qabj ?_ (fun _ => rfl) (fun _ => rfl) rfl q
 refine qaax (N := 7) Try.func52 rfl rfl (by kernel_rfl) qaom (by simp) (by repeat' (first | exact trivial | refine And.intro ?_ ?_ | rfl | decide | exact PureR.ren _)) (by repeat' (first | exact trivial | refine And.intro ?_ ?_ | rfl | decide | exact PureR.ren _)) ?_
 rintro X hP hN hm
 have hb : l.length ≤ maxLen := by unfold maxLen; omega
 unfold c_oints
 repeat' (first | (with_reducible refine zA ?_) | ((with_reducible refine qaac ?_); (try rw [hP]); simp -implicitDefEqProofs [*]) | ((with_reducible refine qaam ?_); (try simp only [qaap, qaag, qaai])) | ((with_reducible refine qabq ?_ ?_); (first | omega | (unfold maxLen; omega)); simp -implicitDefEqProofs [*]) | (refine qasn hm rfl rfl ?_ rfl) | fail)
 all_goals simp
theorem qbin (l : List PushD) (hl : l.length ≤ 1000000) (q : Nat) : SCalls Try.prog 53 [qab5 l] [] q (qab5 l) [] := by
 refine qabj ?_ (fun _ => rfl) (fun _ => rfl) rfl q
 refine qaax (N := 7) Try.func53 rfl rfl (by kernel_rfl) qaok (by simp) (by repeat' (first | exact trivial | refine And.intro ?_ ?_ | rfl | decide | exact PureR.ren _)) (by repeat' (first | exact trivial | refine And.intro ?_ ?_ | rfl | decide | exact PureR.ren _)) ?_
 rintro X hP hN hm
 have hb : l.length ≤ maxLen := by unfold maxLen; omega
 unfold c_otree
 repeat' (first | (with_reducible refine zA ?_) | ((with_reducible refine qaac ?_); (try rw [hP]); simp -implicitDefEqProofs [qab5, *]) | ((with_reducible refine qaam ?_); (try simp only [qaap, qaag, qaai])) | ((with_reducible refine qabq ?_ ?_); (first | omega | (unfold maxLen; omega)); simp -implicitDefEqProofs [qab5, *]) | (refine qasn hm rfl rfl ?_ rfl) | fail)
 all_goals simp
instance pureR_take (fs : List (List SV)) [PureR fs] (i : Nat) : PureR (fs.take i) := ⟨fun σ => by rw [List.map_take, PureR.ren], fun x hx => PureR.ok x (List.mem_of_mem_take hx), fun x hx => PureR.pure x (List.mem_of_mem_take hx)⟩
theorem qagd {α : Type} (f : α → List SV) {l : List α} {i : Nat} (hi : i ≤ l.length) : ((l.take i).map f).length = i := by simp; omega
theorem qae0 {α : Type} (f : α → List SV) {l : List α} {i : Nat} (hi : i < l.length) : (l.take i).map f ++ [f l[i]] = (l.take (i + 1)).map f := by
 rw [List.take_succ_eq_append_getElem hi, List.map_append]; rfl
theorem qbe4 : qah8 Try.prog 29 = some true := by kernel_rfl
theorem qarw : qacd Try.prog 29 = some 7 := by kernel_rfl
set_option maxHeartbeats 8000000 in
theorem oplan_s (p : PlanD) (hs : SmallP p) (q : Nat) : SCalls Try.prog 15 [.agg (qacl p)] [] q (.agg (qacl p)) [] := by
 refine qabj ?_ (fun _ => rfl) (fun _ => rfl) rfl q
 refine qaax (N := 174) Try.func15 rfl rfl (by kernel_rfl) qaol (by simp) (by repeat' (first | exact trivial | refine And.intro ?_ ?_ | rfl | decide | exact PureR.ren _)) (by repeat' (first | exact trivial | refine And.intro ?_ ?_ | rfl | decide | exact PureR.ren _)) ?_
 rintro X hP hN hm
 have hl1 := hs.heads
 have hl2 := hs.metas
 have hl3 := hs.states
 have hl4 := hs.acts
 have hl5 := hs.tabs
 have hl6 := hs.nodes
 have hl7 := hs.outs
 unfold c_oplan
 repeat' (first | (with_reducible first | refine zA ?_ | refine zK ?_) | ((with_reducible first | refine qaac ?_ | refine qaa4 (by rw [hP]; exact qacr) ?_); (try rw [hP]); simp -implicitDefEqProofs [*]) | ((first | refine qaay (qakd p.meta_ (by omega) _) ?_ | refine qaay (qakd p.out (by omega) _) ?_); simp -implicitDefEqProofs [*]) | fail)
 refine qacs (qaem (t := 29) (cs := [.nilsl, nums .i64 p.meta_, .nilsl, .nilsl, .nilsl, .nilsl, nums .i64 p.out]) 23 0 100 1 rfl rfl) ?_
 simp only [zT, puth, Nat.reduceEqDiff, reduceIte, Nat.reduceAdd, List.set]
 refine qaal (qabb (fun s (i : Nat) => s.turn [(4, .int .i64 i)] [(23, .cells 29 [.own 26 i, nums .i64 p.meta_, .nilsl, .nilsl, .nilsl, .nilsl, nums .i64 p.out]), (26, .row 100 1 ((p.heads.take i).map qadr))]) (fun i => i ≤ p.heads.length) (fun i => p.heads.length - i) 0 ?_ (by simp) ?_)
 ·repeat' (first | ((with_reducible refine qaah [] hm ?_ ?_ ?_ ?_) <;> (try simp only [zT, puth, Nat.reduceEqDiff, reduceIte, Nat.reduceAdd])) | (with_reducible first | refine za ?_ ?_ | refine zb ?_ ?_ ?_ ?_ | refine zc ?_ ?_ ?_ ?_) | (with_reducible first | exact qaab | exact qaad) | ((with_reducible first | refine zga ?_ | refine zgb ?_); rfl) | ((with_reducible refine zgc ?_); (first | (with_reducible rfl) | rfl | (simp; done))) | ((with_reducible refine zgd ?_); (first | omega | (simp; done))) | (exact Co.refl _) | (exact CoL.refl _) | fail)
 rintro J hJ i hi
 unfold qamb
 simp only [zT, puth, Nat.reduceEqDiff, reduceIte, Nat.reduceAdd]
 have hlen := qagd qadr hi
 have hb1 : i + 1 ≤ maxLen := by unfold maxLen; omega
 rcases Nat.lt_or_ge i p.heads.length with h | h
 ·have wi : IntKind.i64.wrap ((i : Int) + 1) = (i : Int) + 1 := qaaq (by omega) (by omega)
  have hrow := qae0 qadr h
  have hc := fun q => qakd p.heads[i].w (by have := hs.headW _ (List.getElem_mem h); omega) q
  generalize hr : p.heads[i] = r at hrow hc
  replace hc := Lib.hid hc
  repeat' (first | (with_reducible first | refine zA ?_ | refine qaeh ?_ | refine zK ?_) | ((with_reducible first | refine qaac ?_ | refine qaa4 (by rw [hP]; exact qacr) ?_); (try rw [hP]); simp -implicitDefEqProofs [*]) | ((with_reducible refine qaaf ?_); (try simp -implicitDefEqProofs [*])) | ((with_reducible refine qaaa rfl (fun h => ?_) (fun h => ?_)) <;> have h' := h <;> (try simp at h') <;> (try subst h')) | ((with_reducible refine qabq ?_ ?_); (first | omega | (unfold maxLen; omega)); simp -implicitDefEqProofs [*]) | (refine qaay (hc.out _) ?_; simp -implicitDefEqProofs [*]) | (with_reducible first | refine za ?_ ?_ | refine zb ?_ ?_ ?_ ?_ | refine zc ?_ ?_ ?_ ?_) | (with_reducible first | exact qaab | exact qaad) | ((with_reducible first | refine zga ?_ | refine zgb ?_); rfl) | ((with_reducible first | refine zgd ?_ | refine zge ?_); (first | omega | (simp; done))) | (exact Co.refl _) | (exact CoL.refl _) | ((refine qaaj hJ (i + 1) ?_ ?_ ?_; (with_reducible refine qaah [(23, ?_), (26, ?_)] hm ?_ ?_ ?_ ?_) <;> (try simp only [zT, puth, Nat.reduceEqDiff, reduceIte, Nat.reduceAdd]))) | fail)
  all_goals (first | exact hrow | (rw [← List.map_take]; exact hrow) | omega)
 ·obtain rfl : i = p.heads.length := by omega
  repeat' (first | ((with_reducible refine qacj (c := (.seq (.seq (.reg false qal9 [1, 2, 3, 5]) (.block 2 (.loop qah4))) (.seq (.seq (.reg false qagv [1, 2, 3, 8]) (.block 4 (.loop qagb))) (.seq (.seq (.reg false qafc [1, 2, 3, 12]) (.block 8 (.loop qaez))) (.seq (.seq (.reg false qaej [1, 2, 3, 16]) (.block 10 (.loop qaek))) (.seq (.reg false qadz [2]) .ret)))))) ?_)) | (with_reducible refine zA ?_) | ((with_reducible refine qaac ?_); (try rw [hP]); simp -implicitDefEqProofs [*]) | ((with_reducible refine qaak ?_); (try simp -implicitDefEqProofs [*])) | ((with_reducible refine qaaa rfl (fun h => ?_) (fun h => ?_)) <;> have h' := h <;> (try simp at h') <;> (try subst h')) | fail)
  constructor
  clear hJ hi h
  refine qads [26] ?_ ?_
  ·simp only [FrzOk, geth, Nat.reduceEqDiff, reduceIte, qad8, and_true]
  have htk : ((p.heads.take p.heads.length).map qadr).take p.heads.length = p.heads.map qadr := by rw [List.take_length]; exact List.take_of_length_le (by simp)
  simp -implicitDefEqProofs [htk, hlen, Nat.le_refl]
  clear hlen htk hb1
  repeat' (first | (with_reducible refine zA ?_) | ((with_reducible refine qaac ?_); (try rw [hP]); simp -implicitDefEqProofs [*]) | fail)
  refine qacs (qaem (t := 29) (cs := [.view 1 (p.heads.map qadr), nums .i64 p.meta_, .nilsl, .nilsl, .nilsl, .nilsl, nums .i64 p.out]) 23 2 105 5 rfl rfl) ?_
  simp only [zT, puth, Nat.reduceEqDiff, reduceIte, Nat.reduceAdd, List.set]
  refine qaal (qabb (fun s (i : Nat) => s.turn [(5, .int .i64 i)] [(23, .cells 29 [.view 1 (p.heads.map qadr), nums .i64 p.meta_, .own 33 i, .nilsl, .nilsl, .nilsl, nums .i64 p.out]), (33, .row 105 5 ((p.states.take i).map qab7))]) (fun i => i ≤ p.states.length) (fun i => p.states.length - i) 0 ?_ (by simp) ?_)
  ·repeat' (first | ((with_reducible refine qaah [] hm ?_ ?_ ?_ ?_) <;> (try simp only [zT, puth, Nat.reduceEqDiff, reduceIte, Nat.reduceAdd])) | (with_reducible first | refine za ?_ ?_ | refine zb ?_ ?_ ?_ ?_ | refine zc ?_ ?_ ?_ ?_) | (with_reducible first | exact qaab | exact qaad) | ((with_reducible first | refine zga ?_ | refine zgb ?_); rfl) | ((with_reducible refine zgc ?_); (first | (with_reducible rfl) | rfl | (simp; done))) | ((with_reducible refine zgd ?_); (first | omega | (simp; done))) | (exact Co.refl _) | (exact CoL.refl _) | fail)
  rintro J hJ i hi
  unfold qah4
  simp only [zT, puth, Nat.reduceEqDiff, reduceIte, Nat.reduceAdd]
  have hlen := qagd qab7 hi
  have hb1 : i + 1 ≤ maxLen := by unfold maxLen; omega
  rcases Nat.lt_or_ge i p.states.length with h | h
  ·have wi : IntKind.i64.wrap ((i : Int) + 1) = (i : Int) + 1 := qaaq (by omega) (by omega)
   have hrow := qae0 qab7 h
   have hcl := hs.cases_ _ (List.getElem_mem h)
   generalize hr : p.states[i] = r at hrow hcl
   have hcb : r.cases_.length ≤ maxLen := by unfold maxLen; omega
   repeat' (first | ((with_reducible refine qacj (c := .reg false qajb [1, 2, 3, 5]) ?_)) | (with_reducible first | refine zA ?_ | refine qaae ?_) | ((with_reducible refine qaac ?_); (try rw [hP]); simp -implicitDefEqProofs [*]) | ((with_reducible refine qaaf ?_); (try simp -implicitDefEqProofs [*])) | ((with_reducible refine qaaa rfl (fun h => ?_) (fun h => ?_)) <;> have h' := h <;> (try simp at h') <;> (try subst h')) | ((with_reducible refine qabq ?_ ?_); (first | omega | (unfold maxLen; omega)); simp -implicitDefEqProofs [*]) | fail)
   constructor
   refine qads [50] ?_ ?_
   ·simp only [FrzOk, geth, Nat.reduceEqDiff, reduceIte, qad8, and_true]
   have htk : (r.cases_.map qaed).take r.cases_.length = r.cases_.map qaed := List.take_of_length_le (by simp)
   simp -implicitDefEqProofs [htk, Nat.le_refl]
   repeat' (first | ((with_reducible refine qaac ?_); (try rw [hP]); simp -implicitDefEqProofs [*]) | ((with_reducible refine qabq ?_ ?_); (first | omega | (unfold maxLen; omega)); simp -implicitDefEqProofs [*]) | (with_reducible first | refine za ?_ ?_ | refine zb ?_ ?_ ?_ ?_ | refine zc ?_ ?_ ?_ ?_) | (with_reducible first | exact qaab | exact qaad) | ((with_reducible first | refine zga ?_ | refine zgb ?_); rfl) | ((with_reducible first | refine zgd ?_ | refine zge ?_); (first | omega | (simp; done))) | (exact Co.refl _) | (exact CoL.refl _) | ((refine qaaj hJ (i + 1) ?_ ?_ ?_; (with_reducible refine qaah [(23, ?_), (33, ?_)] hm ?_ ?_ ?_ ?_) <;> (try simp only [zT, puth, Nat.reduceEqDiff, reduceIte, Nat.reduceAdd]))) | fail)
   all_goals (first | exact hrow | (rw [← List.map_take]; exact hrow) | omega)
  ·obtain rfl : i = p.states.length := by omega
   repeat' (first | ((with_reducible refine qacj (c := (.seq (.seq (.reg false qagv [1, 2, 3, 8]) (.block 4 (.loop qagb))) (.seq (.seq (.reg false qafc [1, 2, 3, 12]) (.block 8 (.loop qaez))) (.seq (.seq (.reg false qaej [1, 2, 3, 16]) (.block 10 (.loop qaek))) (.seq (.reg false qadz [2]) .ret))))) ?_)) | (with_reducible refine zA ?_) | ((with_reducible refine qaac ?_); (try rw [hP]); simp -implicitDefEqProofs [*]) | ((with_reducible refine qaak ?_); (try simp -implicitDefEqProofs [*])) | ((with_reducible refine qaaa rfl (fun h => ?_) (fun h => ?_)) <;> have h' := h <;> (try simp at h') <;> (try subst h')) | fail)
   constructor
   clear hJ hi h
   refine qads [33] ?_ ?_
   ·simp only [FrzOk, geth, Nat.reduceEqDiff, reduceIte, qad8, and_true]
   have htk : ((p.states.take p.states.length).map qab7).take p.states.length = p.states.map qab7 := by rw [List.take_length]; exact List.take_of_length_le (by simp)
   simp -implicitDefEqProofs [htk, hlen, Nat.le_refl]
   clear hlen htk hb1
   repeat' (first | (with_reducible refine zA ?_) | ((with_reducible refine qaac ?_); (try rw [hP]); simp -implicitDefEqProofs [*]) | fail)
   refine qacs (qaem (t := 29) (cs := [.view 1 (p.heads.map qadr), nums .i64 p.meta_, .view 5 (p.states.map qab7), .nilsl, .nilsl, .nilsl, nums .i64 p.out]) 23 3 108 2 rfl rfl) ?_
   simp only [zT, puth, Nat.reduceEqDiff, reduceIte, Nat.reduceAdd, List.set]
   refine qaal (qabb (fun s (i : Nat) => s.turn [(8, .int .i64 i)] [(23, .cells 29 [.view 1 (p.heads.map qadr), nums .i64 p.meta_, .view 5 (p.states.map qab7), .own 40 i, .nilsl, .nilsl, nums .i64 p.out]), (40, .row 108 2 ((p.acts.take i).map actc))]) (fun i => i ≤ p.acts.length) (fun i => p.acts.length - i) 0 ?_ (by simp) ?_)
   ·repeat' (first | ((with_reducible refine qaah [] hm ?_ ?_ ?_ ?_) <;> (try simp only [zT, puth, Nat.reduceEqDiff, reduceIte, Nat.reduceAdd])) | (with_reducible first | refine za ?_ ?_ | refine zb ?_ ?_ ?_ ?_ | refine zc ?_ ?_ ?_ ?_) | (with_reducible first | exact qaab | exact qaad) | ((with_reducible first | refine zga ?_ | refine zgb ?_); rfl) | ((with_reducible refine zgc ?_); (first | (with_reducible rfl) | rfl | (simp; done))) | ((with_reducible refine zgd ?_); (first | omega | (simp; done))) | (exact Co.refl _) | (exact CoL.refl _) | fail)
   rintro J hJ i hi
   have hJo := hJ
   unfold qagb
   simp only [zT, puth, Nat.reduceEqDiff, reduceIte, Nat.reduceAdd]
   have hlen := qagd actc hi
   have hb1 : i + 1 ≤ maxLen := by unfold maxLen; omega
   rcases Nat.lt_or_ge i p.acts.length with h | h
   ·have wi : IntKind.i64.wrap ((i : Int) + 1) = (i : Int) + 1 := qaaq (by omega) (by omega)
    have hrow := qae0 actc h
    have hc := fun q => qakd p.acts[i].w (by have := hs.actW _ (List.getElem_mem h); omega) q
    have hol := hs.ops _ (List.getElem_mem h)
    have htl := hs.tree _ (List.getElem_mem h)
    generalize hr : p.acts[i] = r at hrow hc hol htl
    replace hc := Lib.hid hc
    replace htl := Lib.hid htl
    repeat' (first | (with_reducible first | refine zA ?_ | refine qaae ?_) | ((with_reducible refine qaac ?_); (try rw [hP]); simp -implicitDefEqProofs [*]) | ((with_reducible refine qaaf ?_); (try simp -implicitDefEqProofs [*])) | ((with_reducible refine qaaa rfl (fun h => ?_) (fun h => ?_)) <;> have h' := h <;> (try simp at h') <;> (try subst h')) | (refine qaay (hc.out _) ?_; simp -implicitDefEqProofs [*]) | fail)
    refine qacs (qaem (t := 108) (cs := [nums .i64 r.w, .nilsl]) 61 1 111 5 rfl rfl) ?_
    simp only [zT, puth, Nat.reduceEqDiff, reduceIte, Nat.reduceAdd, List.set]
    refine qaal (qabb (fun s (k : Nat) => s.turn [(10, .int .i64 k)] [(61, .cells 108 [nums .i64 r.w, .own 64 k]), (64, .row 111 5 ((r.ops.take k).map opc))]) (fun k => k ≤ r.ops.length) (fun k => r.ops.length - k) 0 ?_ (by simp) ?_)
    ·repeat' (first | ((with_reducible refine qaah [] hm ?_ ?_ ?_ ?_) <;> (try simp only [zT, puth, Nat.reduceEqDiff, reduceIte, Nat.reduceAdd])) | (with_reducible first | refine za ?_ ?_ | refine zb ?_ ?_ ?_ ?_ | refine zc ?_ ?_ ?_ ?_) | (with_reducible first | exact qaab | exact qaad) | ((with_reducible first | refine zga ?_ | refine zgb ?_); rfl) | ((with_reducible refine zgc ?_); (first | (with_reducible rfl) | rfl | (simp; done))) | ((with_reducible refine zgd ?_); (first | omega | (simp; done))) | (exact Co.refl _) | (exact CoL.refl _) | fail)
    rintro J hJ k hk
    unfold qama
    simp only [zT, puth, Nat.reduceEqDiff, reduceIte, Nat.reduceAdd]
    have hlen2 := qagd opc hk
    have hb2 : k + 1 ≤ maxLen := by unfold maxLen; omega
    rcases Nat.lt_or_ge k r.ops.length with h2 | h2
    ·have wk2 : IntKind.i64.wrap ((k : Int) + 1) = (k : Int) + 1 := qaaq (by omega) (by omega)
     have hrow2 := qae0 opc h2
     have hc2 := fun q => qbin r.ops[k].e (by have := htl.out _ (List.getElem_mem h2); omega) q
     generalize hy : r.ops[k] = y at hrow2 hc2
     replace hc2 := Lib.hid hc2
     repeat' (first | (with_reducible first | refine zA ?_ | refine qaae ?_) | ((with_reducible refine qaac ?_); (try rw [hP]); simp -implicitDefEqProofs [qab5, *]) | ((with_reducible refine qaaf ?_); (try simp -implicitDefEqProofs [qab5, *])) | ((with_reducible refine qaaa rfl (fun h => ?_) (fun h => ?_)) <;> have h' := h <;> (try simp at h') <;> (try subst h')) | ((with_reducible refine qabq ?_ ?_); (first | omega | (unfold maxLen; omega)); simp -implicitDefEqProofs [qab5, *]) | (refine qaay (hc2.out _) ?_; simp -implicitDefEqProofs [qab5, *]) | (with_reducible first | refine za ?_ ?_ | refine zb ?_ ?_ ?_ ?_ | refine zc ?_ ?_ ?_ ?_) | (with_reducible first | exact qaab | exact qaad) | ((with_reducible first | refine zga ?_ | refine zgb ?_); rfl) | ((with_reducible refine zgc ?_); (first | (with_reducible rfl) | rfl | (simp; done))) | ((with_reducible first | refine zgd ?_ | refine zge ?_); (first | omega | (simp; done))) | (exact Co.refl _) | (exact CoL.refl _) | ((refine qaaj hJ (k + 1) ?_ ?_ ?_; (with_reducible refine qaah [(61, ?_), (64, ?_)] hm ?_ ?_ ?_ ?_) <;> (try simp only [zT, puth, Nat.reduceEqDiff, reduceIte, Nat.reduceAdd]))) | fail)
     all_goals (first | exact hrow2 | (rw [← List.map_take]; exact hrow2) | omega)
    ·obtain rfl : k = r.ops.length := by omega
     repeat' (first | ((with_reducible refine qacj (c := .reg false qaja [1, 2, 3, 8]) ?_)) | (with_reducible refine zA ?_) | ((with_reducible refine qaac ?_); (try rw [hP]); simp -implicitDefEqProofs [*]) | ((with_reducible refine qaak ?_); (try simp -implicitDefEqProofs [*])) | ((with_reducible refine qaaa rfl (fun h => ?_) (fun h => ?_)) <;> have h' := h <;> (try simp at h') <;> (try subst h')) | fail)
     constructor
     refine qads [64] ?_ ?_
     ·simp only [FrzOk, geth, Nat.reduceEqDiff, reduceIte, qad8, and_true]
     have htk : ((r.ops.take r.ops.length).map opc).take r.ops.length = r.ops.map opc := by rw [List.take_length]; exact List.take_of_length_le (by simp)
     simp -implicitDefEqProofs [htk, hlen2, Nat.le_refl]
     repeat' (first | ((with_reducible refine qaac ?_); (try rw [hP]); simp -implicitDefEqProofs [*]) | ((with_reducible refine qabq ?_ ?_); (first | omega | (unfold maxLen; omega)); simp -implicitDefEqProofs [*]) | (with_reducible first | refine za ?_ ?_ | refine zb ?_ ?_ ?_ ?_ | refine zc ?_ ?_ ?_ ?_) | (with_reducible first | exact qaab | exact qaad) | ((with_reducible first | refine zga ?_ | refine zgb ?_); rfl) | ((with_reducible first | refine zgd ?_ | refine zge ?_); (first | omega | (simp; done))) | (exact Co.refl _) | (exact CoL.refl _) | ((refine qaaj hJo (i + 1) ?_ ?_ ?_; (with_reducible refine qaah [(23, ?_), (40, ?_)] hm ?_ ?_ ?_ ?_) <;> (try simp only [zT, puth, Nat.reduceEqDiff, reduceIte, Nat.reduceAdd]))) | fail)
     all_goals (first | exact hrow | (rw [← List.map_take]; exact hrow) | omega)
   ·obtain rfl : i = p.acts.length := by omega
    repeat' (first | ((with_reducible refine qacj (c := (.seq (.seq (.reg false qafc [1, 2, 3, 12]) (.block 8 (.loop qaez))) (.seq (.seq (.reg false qaej [1, 2, 3, 16]) (.block 10 (.loop qaek))) (.seq (.reg false qadz [2]) .ret)))) ?_)) | (with_reducible refine zA ?_) | ((with_reducible refine qaac ?_); (try rw [hP]); simp -implicitDefEqProofs [*]) | ((with_reducible refine qaak ?_); (try simp -implicitDefEqProofs [*])) | ((with_reducible refine qaaa rfl (fun h => ?_) (fun h => ?_)) <;> have h' := h <;> (try simp at h') <;> (try subst h')) | fail)
    constructor
    clear hJ hi h
    refine qads [40] ?_ ?_
    ·simp only [FrzOk, geth, Nat.reduceEqDiff, reduceIte, qad8, and_true]
    have htk : ((p.acts.take p.acts.length).map actc).take p.acts.length = p.acts.map actc := by rw [List.take_length]; exact List.take_of_length_le (by simp)
    simp -implicitDefEqProofs [htk, hlen, Nat.le_refl]
    clear hlen htk hb1
    repeat' (first | (with_reducible refine zA ?_) | ((with_reducible refine qaac ?_); (try rw [hP]); simp -implicitDefEqProofs [*]) | fail)
    refine qacs (qaem (t := 29) (cs := [.view 1 (p.heads.map qadr), nums .i64 p.meta_, .view 5 (p.states.map qab7), .view 2 (p.acts.map actc), .nilsl, .nilsl, nums .i64 p.out]) 23 4 114 6 rfl rfl) ?_
    simp only [zT, puth, Nat.reduceEqDiff, reduceIte, Nat.reduceAdd, List.set]
    refine qaal (qabb (fun s (i : Nat) => s.turn [(12, .int .i64 i)] [(23, .cells 29 [.view 1 (p.heads.map qadr), nums .i64 p.meta_, .view 5 (p.states.map qab7), .view 2 (p.acts.map actc), .own 47 i, .nilsl, nums .i64 p.out]), (47, .row 114 6 ((p.tabs.take i).map tabc))]) (fun i => i ≤ p.tabs.length) (fun i => p.tabs.length - i) 0 ?_ (by simp) ?_)
    ·repeat' (first | ((with_reducible refine qaah [] hm ?_ ?_ ?_ ?_) <;> (try simp only [zT, puth, Nat.reduceEqDiff, reduceIte, Nat.reduceAdd])) | (with_reducible first | refine za ?_ ?_ | refine zb ?_ ?_ ?_ ?_ | refine zc ?_ ?_ ?_ ?_) | (with_reducible first | exact qaab | exact qaad) | ((with_reducible first | refine zga ?_ | refine zgb ?_); rfl) | ((with_reducible refine zgc ?_); (first | (with_reducible rfl) | rfl | (simp; done))) | ((with_reducible refine zgd ?_); (first | omega | (simp; done))) | (exact Co.refl _) | (exact CoL.refl _) | fail)
    rintro J hJ i hi
    unfold qaez
    simp only [zT, puth, Nat.reduceEqDiff, reduceIte, Nat.reduceAdd]
    have hlen := qagd tabc hi
    have hb1 : i + 1 ≤ maxLen := by unfold maxLen; omega
    rcases Nat.lt_or_ge i p.tabs.length with h | h
    ·have wi : IntKind.i64.wrap ((i : Int) + 1) = (i : Int) + 1 := qaaq (by omega) (by omega)
     have hrow := qae0 tabc h
     have hkl := hs.keys _ (List.getElem_mem h)
     generalize hr : p.tabs[i] = r at hrow hkl
     have hkb1 : r.keys.length ≤ maxLen := by unfold maxLen; omega
     have hkb2 : r.args.length ≤ maxLen := by unfold maxLen; omega
     have hc := fun q => qakd r.acts (by omega) q
     replace hc := Lib.hid hc
     repeat' (first | ((with_reducible refine qacj (c := .reg false qai9 [1, 2, 3, 12]) ?_)) | (with_reducible first | refine zA ?_ | refine qaae ?_ | refine zK ?_) | ((with_reducible first | refine qaac ?_ | refine qaa4 (by rw [hP]; exact qacr) ?_); (try rw [hP]); simp -implicitDefEqProofs [*]) | ((with_reducible refine qaaf ?_); (try simp -implicitDefEqProofs [*])) | ((with_reducible refine qaaa rfl (fun h => ?_) (fun h => ?_)) <;> have h' := h <;> (try simp at h') <;> (try subst h')) | ((with_reducible refine qabq ?_ ?_); (first | omega | (unfold maxLen; omega)); simp -implicitDefEqProofs [*]) | (refine qaay (hc.out _) ?_; simp -implicitDefEqProofs [*]) | fail)
     constructor
     refine qads [65, 79] ?_ ?_
     ·simp only [FrzOk, geth, Nat.reduceEqDiff, reduceIte, qad8, and_true]
     have htk1 : (r.keys.map refc).take r.keys.length = r.keys.map refc := List.take_of_length_le (by simp)
     have htk2 : (r.args.map fun x => [SV.int .u64 x]).take r.args.length = r.args.map fun x => [SV.int .u64 x] := List.take_of_length_le (by simp)
     simp -implicitDefEqProofs [htk1, htk2, Nat.le_refl]
     repeat' (first | ((with_reducible refine qaac ?_); (try rw [hP]); simp -implicitDefEqProofs [*]) | ((with_reducible refine qabq ?_ ?_); (first | omega | (unfold maxLen; omega)); simp -implicitDefEqProofs [*]) | (with_reducible first | refine za ?_ ?_ | refine zb ?_ ?_ ?_ ?_ | refine zc ?_ ?_ ?_ ?_) | (with_reducible first | exact qaab | exact qaad) | ((with_reducible first | refine zga ?_ | refine zgb ?_); rfl) | ((with_reducible first | refine zgd ?_ | refine zge ?_); (first | omega | (simp; done))) | (exact Co.refl _) | (exact CoL.refl _) | ((refine qaaj hJ (i + 1) ?_ ?_ ?_; (with_reducible refine qaah [(23, ?_), (47, ?_)] hm ?_ ?_ ?_ ?_) <;> (try simp only [zT, puth, Nat.reduceEqDiff, reduceIte, Nat.reduceAdd]))) | fail)
     all_goals (first | exact hrow | (rw [← List.map_take]; exact hrow) | omega)
    ·obtain rfl : i = p.tabs.length := by omega
     repeat' (first | ((with_reducible refine qacj (c := (.seq (.seq (.reg false qaej [1, 2, 3, 16]) (.block 10 (.loop qaek))) (.seq (.reg false qadz [2]) .ret))) ?_)) | (with_reducible refine zA ?_) | ((with_reducible refine qaac ?_); (try rw [hP]); simp -implicitDefEqProofs [*]) | ((with_reducible refine qaak ?_); (try simp -implicitDefEqProofs [*])) | ((with_reducible refine qaaa rfl (fun h => ?_) (fun h => ?_)) <;> have h' := h <;> (try simp at h') <;> (try subst h')) | fail)
     constructor
     clear hJ hi h
     refine qads [47] ?_ ?_
     ·simp only [FrzOk, geth, Nat.reduceEqDiff, reduceIte, qad8, and_true]
     have htk : ((p.tabs.take p.tabs.length).map tabc).take p.tabs.length = p.tabs.map tabc := by rw [List.take_length]; exact List.take_of_length_le (by simp)
     simp -implicitDefEqProofs [htk, hlen, Nat.le_refl]
     clear hlen htk hb1
     repeat' (first | (with_reducible refine zA ?_) | ((with_reducible refine qaac ?_); (try rw [hP]); simp -implicitDefEqProofs [*]) | fail)
     refine qacs (qaem (t := 29) (cs := [.view 1 (p.heads.map qadr), nums .i64 p.meta_, .view 5 (p.states.map qab7), .view 2 (p.acts.map actc), .view 6 (p.tabs.map tabc), .nilsl, nums .i64 p.out]) 23 5 116 5 rfl rfl) ?_
     simp only [zT, puth, Nat.reduceEqDiff, reduceIte, Nat.reduceAdd, List.set]
     refine qaal (qabb (fun s (i : Nat) => s.turn [(16, .int .i64 i)] [(23, .cells 29 [.view 1 (p.heads.map qadr), nums .i64 p.meta_, .view 5 (p.states.map qab7), .view 2 (p.acts.map actc), .view 6 (p.tabs.map tabc), .own 54 i, nums .i64 p.out]), (54, .row 116 5 ((p.nodes.take i).map qady))]) (fun i => i ≤ p.nodes.length) (fun i => p.nodes.length - i) 0 ?_ (by simp) ?_)
     ·repeat' (first | ((with_reducible refine qaah [] hm ?_ ?_ ?_ ?_) <;> (try simp only [zT, puth, Nat.reduceEqDiff, reduceIte, Nat.reduceAdd])) | (with_reducible first | refine za ?_ ?_ | refine zb ?_ ?_ ?_ ?_ | refine zc ?_ ?_ ?_ ?_) | (with_reducible first | exact qaab | exact qaad) | ((with_reducible first | refine zga ?_ | refine zgb ?_); rfl) | ((with_reducible refine zgc ?_); (first | (with_reducible rfl) | rfl | (simp; done))) | ((with_reducible refine zgd ?_); (first | omega | (simp; done))) | (exact Co.refl _) | (exact CoL.refl _) | fail)
     rintro J hJ i hi
     unfold qaek
     simp only [zT, puth, Nat.reduceEqDiff, reduceIte, Nat.reduceAdd]
     have hlen := qagd qady hi
     have hb1 : i + 1 ≤ maxLen := by unfold maxLen; omega
     rcases Nat.lt_or_ge i p.nodes.length with h | h
     ·have wi : IntKind.i64.wrap ((i : Int) + 1) = (i : Int) + 1 := qaaq (by omega) (by omega)
      have hrow := qae0 qady h
      have hc := fun q => qbin p.nodes[i].e (by have := hs.node _ (List.getElem_mem h); omega) q
      generalize hr : p.nodes[i] = r at hrow hc
      replace hc := Lib.hid hc
      repeat' (first | (with_reducible first | refine zA ?_ | refine qaae ?_) | ((with_reducible refine qaac ?_); (try rw [hP]); simp -implicitDefEqProofs [qab5, *]) | ((with_reducible refine qaaf ?_); (try simp -implicitDefEqProofs [qab5, *])) | ((with_reducible refine qaaa rfl (fun h => ?_) (fun h => ?_)) <;> have h' := h <;> (try simp at h') <;> (try subst h')) | ((with_reducible refine qabq ?_ ?_); (first | omega | (unfold maxLen; omega)); simp -implicitDefEqProofs [qab5, *]) | (refine qaay (hc.out _) ?_; simp -implicitDefEqProofs [qab5, *]) | (with_reducible first | refine za ?_ ?_ | refine zb ?_ ?_ ?_ ?_ | refine zc ?_ ?_ ?_ ?_) | (with_reducible first | exact qaab | exact qaad) | ((with_reducible first | refine zga ?_ | refine zgb ?_); rfl) | ((with_reducible first | refine zgd ?_ | refine zge ?_); (first | omega | (simp; done))) | (exact Co.refl _) | (exact CoL.refl _) | ((refine qaaj hJ (i + 1) ?_ ?_ ?_; (with_reducible refine qaah [(23, ?_), (54, ?_)] hm ?_ ?_ ?_ ?_) <;> (try simp only [zT, puth, Nat.reduceEqDiff, reduceIte, Nat.reduceAdd]))) | fail)
      all_goals (first | exact hrow | (rw [← List.map_take]; exact hrow) | omega)
     ·obtain rfl : i = p.nodes.length := by omega
      repeat' (first | ((with_reducible refine qacj (c := (.seq (.reg false qadz [2]) .ret)) ?_)) | (with_reducible refine zA ?_) | ((with_reducible refine qaac ?_); (try rw [hP]); simp -implicitDefEqProofs [*]) | ((with_reducible refine qaak ?_); (try simp -implicitDefEqProofs [*])) | ((with_reducible refine qaaa rfl (fun h => ?_) (fun h => ?_)) <;> have h' := h <;> (try simp at h') <;> (try subst h')) | fail)
      constructor
      clear hJ hi h
      refine qads [54] ?_ ?_
      ·simp only [FrzOk, geth, Nat.reduceEqDiff, reduceIte, qad8, and_true]
      have htk : ((p.nodes.take p.nodes.length).map qady).take p.nodes.length = p.nodes.map qady := by rw [List.take_length]; exact List.take_of_length_le (by simp)
      simp -implicitDefEqProofs [htk, hlen, Nat.le_refl]
      clear hlen htk hb1
      repeat' (first | (with_reducible refine zA ?_) | ((with_reducible refine qaac ?_); (try rw [hP]); simp -implicitDefEqProofs [*]) | ((with_reducible refine qaam ?_); (try simp only [qaap, qaag, qaai])) | (refine qag0 hm rfl rfl (by rw [hP]; exact qbe4) (by rw [hP]; exact qarw) rfl (CoL.refl _) rfl (fun σ => rfl)) | fail)
end Go.Proofs.Yticeaegpkpjjeaa
namespace Go.Proofs.Yticeaegpkpjjeaa
set_option linter.all false
open Go.RowKit
attribute [local simp] qabg qabf qaas qaa3 qaat qaa2 qabd qabe qaan qabo SOp.run SX.ev putd puts argS upds SOp.touch SSt.keep SSt.skip gets geth puth delh idOf SV.cells? setL qac6 qac7 sbin eq0 eq1 eqL qac1 qab1 qab2 qaap qabh qaag qabi qabp qaai qaao FrzOk qaa7 qaa0 qaa5 qaa6 qaau qaaz qabl qaa1 qaaw qaa8 qaav frzS frzH frz frz1 frz0 SlotsM ObjsM ObjM rn ren ren1 ren0 qabt qab6 qab9 qabs qabm qaca qab8 CoL qaa9 qacb dels adds idsH qabx
attribute [local simp] qadr refc qael qaed qab7 opc actc tabc qady qacl nums setc
theorem qbls : qah8 Try.prog 45 = some true := by kernel_rfl
theorem qbfc : qacd Try.prog 45 = some 5 := by kernel_rfl
instance : PureF setc := ⟨fun _ _ => rfl, fun _ => rfl, fun _ => qab0 _ rfl⟩
theorem wjoin_s (s t : SetsD) (q : Nat) : SCalls Try.prog 129 [.agg (setc s), .agg (setc t)] [] q (.agg (setc (qano s t))) [] := by
 refine qabj ?_ (fun _ => rfl) (fun _ => rfl) rfl q
 refine qaax (N := 30) Try.func129 rfl rfl (by kernel_rfl) qanw (by simp) (by repeat' (first | exact trivial | refine And.intro ?_ ?_ | rfl | decide | exact PureR.ren _)) (by repeat' (first | exact trivial | refine And.intro ?_ ?_ | rfl | decide | exact PureR.ren _)) ?_
 rintro X hP hN hm
 unfold c_wjoin qano
 cases hs : s.there
 all_goals
  repeat' (first | (with_reducible refine zA ?_) | ((with_reducible refine qaac ?_); (try rw [hP]); simp -implicitDefEqProofs [qaba, qabu, *]) | ((with_reducible refine qaaf ?_); (try simp -implicitDefEqProofs [qaba, qabu, *])) | ((with_reducible refine qaam ?_); (try simp only [qaap, qaag, qaai])) | ((with_reducible refine qaaa rfl (fun h => ?_) (fun h => ?_)) <;> have h' := h <;> (try simp at h') <;> (try subst h')) | (refine qag0 hm rfl rfl (by rw [hP]; exact qbls) (by rw [hP]; exact qbfc) rfl (CoL.refl _) ?_ (fun σ => rfl)) | fail)
  all_goals simp [lo, hi_]
theorem qblq {h : Int} (h1 : h < 64) : ((bitB h).toNat : Int) = 2 ^ h.toNat := by
 unfold bitB
 have hlt : 2 ^ h.toNat < 2 ^ 64 := Nat.pow_lt_pow_right (by omega) (by omega)
 rw [BitVec.toNat_twoPow, Nat.mod_eq_of_lt hlt]
 push_cast; rfl
theorem qa49 {h : Int} (h0 : 0 ≤ h) (h1 : h < 64) : IntKind.u64.wrap (1 * 2 ^ min h.toNat IntKind.u64.bits) = ((bitB h).toNat : Int) := by
 have e : min h.toNat IntKind.u64.bits = h.toNat := Nat.min_eq_left (by show h.toNat ≤ 64; omega)
 rw [e, Int.one_mul, ← qblq h1, qas7]
theorem qbi7 (h : Int) (h0 : 0 ≤ h) (h1 : h < 64) (q : Nat) : SCalls Try.prog 91 [.int .i64 h] [] q (.int .u64 (bitB h).toNat) [] := by
 refine qabj ?_ (fun _ => rfl) (fun _ => rfl) rfl q
 refine qaax (N := 5) Try.func91 rfl rfl (by kernel_rfl) qato (by simp) (by repeat' (first | exact trivial | refine And.intro ?_ ?_ | rfl | decide | exact PureR.ren _)) (by repeat' (first | exact trivial | refine And.intro ?_ ?_ | rfl | decide | exact PureR.ren _)) ?_
 rintro X hP hN hm
 unfold c_wbit
 have e := qa49 h0 h1
 rw [Int.one_mul] at e
 repeat' (first | (with_reducible refine zA ?_) | ((with_reducible refine qaac ?_); (try rw [hP]); simp -implicitDefEqProofs [*]) | ((with_reducible refine qaam ?_); (try simp only [qaap, qaag, qaai])) | (with_reducible refine zM hm ?_) | fail)
 all_goals rfl
def wc (p : PlanD) (n : Nat) (a b : Int) : List SV := qacl p ++ [.own 1 n, .int .i64 a, .int .i64 b]
attribute [local simp] wc
abbrev qah9 (l : List SetsD) : SObj := .row 45 5 (l.map setc)
theorem qblz {X : Cx} {sl : Sl} {hp : Hp} {nx n : Nat} {p : PlanD} {a b : Int} {cs : List SV} {es : List (List SV)} {l : List SetsD} (hm : X.m = 2) (h0 : geth hp 0 = some (.cells 119 cs)) (h1 : geth hp 1 = some (.row 45 5 es)) (e0 : cs = wc p n a b) (e1 : es = l.map setc) : QFun X [] 2 (.tup []) [(0, .cells 119 (wc p n a b)), (1, qah9 l)] .normal ⟨sl, hp, nx⟩ := by
 subst e0 e1
 refine ⟨⟨[], [(0, .cells 119 (wc p n a b)), (1, qah9 l)], 2⟩, ?_, rfl, ⟨rfl, rfl, trivial⟩, by simp⟩
 exact qaah [] hm trivial ⟨⟨_, h0, rfl, CoL.refl _⟩, ⟨_, h1, rfl, rfl, by rw [qajj]; exact CoLL.refl _⟩, trivial⟩ rfl (Nat.le_refl _)
theorem fin_wr {X : Cx} {sl : Sl} {hp : Hp} {nx n : Nat} {p : PlanD} {a b : Int} {cs : List SV} {es : List (List SV)} {l : List SetsD} (hm : X.m = 2) (h0 : geth hp 0 = some (.cells 119 cs)) (h1 : geth hp 1 = some (.row 45 5 es)) (e0 : cs = wc p n a b) (e1 : es = l.map setc) : QFun X [] 2 (.tup []) [(0, .cells 119 (wc p n a b)), (1, qah9 l)] .ret ⟨sl, hp, nx⟩ := qblz hm h0 h1 e0 e1
theorem wfail_s (p : PlanD) (n : Nat) (a b : Int) (l : List SetsD) (is : Bool) (code at_ : Int) : SCalls Try.prog 90 [.ptr 0 0, .bool is, .int .i64 code, .int .i64 at_] [(0, .cells 119 (wc p n a b)), (1, qah9 l)] 2 (.tup []) [(0, .cells 119 (wc p n (qab3 a b is code at_).1 (qab3 a b is code at_).2)), (1, qah9 l)] := by
 refine qaax (N := 23) Try.func90 rfl rfl (by kernel_rfl) qany (by simp) (by repeat' (first | exact trivial | refine And.intro ?_ ?_ | rfl | decide | exact PureR.ren _)) (by repeat' (first | exact trivial | refine And.intro ?_ ?_ | rfl | decide | exact PureR.ren _)) ?_
 rintro X hP hN hm
 unfold c_wfail
 repeat' (first | (with_reducible refine zA ?_) | ((with_reducible refine qaac ?_); (try rw [hP]); simp -implicitDefEqProofs [*]) | ((with_reducible refine qaaf ?_); (try simp -implicitDefEqProofs [*])) | ((with_reducible refine qaaa rfl (fun h => ?_) (fun h => ?_)) <;> have h' := h <;> (try simp at h') <;> (try subst h')) | ((with_reducible refine qaar (fun h => ?_) (fun h => ?_)) <;> have h' := h <;> (try simp at h') <;> (try subst h') <;> simp -implicitDefEqProofs [*]) | (refine qblz hm rfl rfl ?_ rfl) | fail)
 all_goals (first | (simp [qab3, *]; done) | (simp_all [qab3]; done) | (simp_all [qab3]; omega))
theorem wto_s (p : PlanD) (a b : Int) (l : List SetsD) (k : Int) (s : SetsD) (hn : p.states.length ≤ 1000) (hl : l.length = p.states.length + 1) (hk : 0 ≤ tgt p.states.length k) : SCalls Try.prog 92 [.ptr 0 0, .int .i64 k, .agg (setc s)] [(0, .cells 119 (wc p l.length a b)), (1, qah9 l)] 2 (.tup []) [(0, .cells 119 (wc p l.length a b)), (1, qah9 (toS p.states.length l k s))] := by
 refine qaax (N := 37) Try.func92 rfl rfl (by kernel_rfl) qa6i (by simp) (by repeat' (first | exact trivial | refine And.intro ?_ ?_ | rfl | decide | exact PureR.ren _)) (by repeat' (first | exact trivial | refine And.intro ?_ ?_ | rfl | decide | exact PureR.ren _)) ?_
 rintro X hP hN hm
 unfold c_wto
 obtain ⟨K, hK⟩ : ∃ K, tgt p.states.length k = K := ⟨_, rfl⟩
 rw [hK] at hk
 by_cases hle : K ≤ p.states.length
 ·have hlt : K.toNat < l.length := by omega
  have hset : (l.map setc).set K.toNat (setc (qano l[K.toNat] s)) = (toS p.states.length l k s).map setc := by
   unfold toS
   rw [hK, if_pos hle, List.map_set]
   congr 2
   rw [List.getD_eq_getElem?_getD, List.getElem?_eq_getElem hlt]; rfl
  have k2 : decide (K ≤ (p.states.length : Int)) = true := by simpa using hle
  have hj := fun q => wjoin_s l[K.toNat] s q
  generalize toS p.states.length l k s = L at hset
  have hget : l[K.toNat]? = some l[K.toNat] := List.getElem?_eq_getElem hlt
  generalize l[K.toNat] = x at hset hj hget
  generalize hjj : qano x s = y at hset hj
  replace hj := Lib.hid hj
  unfold tgt at hK
  cases k1 : (k == 1000)
  ·have e : k = K := by rw [if_neg (by simpa using k1)] at hK; exact hK
   subst e
   repeat' (first | (with_reducible first | refine zA ?_ | refine zK ?_) | ((with_reducible first | refine qaac ?_ | refine qaa4 (by rw [hP]; exact qacr) ?_); (try rw [hP]); simp -implicitDefEqProofs [*]) | ((with_reducible refine qaaf ?_); (try simp -implicitDefEqProofs [*])) | ((with_reducible refine qaaa rfl (fun h => ?_) (fun h => ?_)) <;> have h' := h <;> (try simp at h') <;> (try subst h')) | ((with_reducible refine qabq ?_ ?_); (first | omega | (unfold maxLen; omega)); simp -implicitDefEqProofs [*]) | (refine qaay (hj.out _) ?_; simp -implicitDefEqProofs [*]) | (refine qblz hm rfl rfl ?_ ?_) | fail)
   ·rfl
   ·exact hset
  ·have e : (p.states.length : Int) = K := by rw [if_pos (by simpa using k1)] at hK; exact hK
   subst e
   have hget2 : l[p.states.length]? = some x := by simpa using hget
   have hget3 : l[p.states.length]'(by omega) = x := by rw [List.getElem?_eq_getElem (by omega)] at hget2; exact Option.some.inj hget2
   have hset2 : (l.map setc).set p.states.length (setc y) = L.map setc := by simpa using hset
   replace hset := Lib.hid hset
   repeat' (first | (with_reducible first | refine zA ?_ | refine zK ?_) | ((with_reducible first | refine qaac ?_ | refine qaa4 (by rw [hP]; exact qacr) ?_); (try rw [hP]); simp -implicitDefEqProofs [*]) | ((with_reducible refine qaaa rfl (fun h => ?_) (fun h => ?_)) <;> have h' := h <;> (try simp at h') <;> (try subst h')) | ((with_reducible refine qabq ?_ ?_); (first | omega | (unfold maxLen; omega)); simp -implicitDefEqProofs [*]) | (refine qaay (hj.out _) ?_; simp -implicitDefEqProofs [*]) | (refine qblz hm rfl rfl ?_ ?_) | fail)
   ·rfl
   ·exact hset2
 ·have hL : toS p.states.length l k s = l := by unfold toS; rw [hK, if_neg hle]
  rw [hL]
  have k2 : decide (K ≤ (p.states.length : Int)) = false := by simpa using hle
  unfold tgt at hK
  cases k1 : (k == 1000)
  ·have e : k = K := by rw [if_neg (by simpa using k1)] at hK; exact hK
   subst e
   repeat' (first | (with_reducible refine zA ?_) | ((with_reducible refine qaac ?_); (try rw [hP]); simp -implicitDefEqProofs [*]) | ((with_reducible refine qaaf ?_); (try simp -implicitDefEqProofs [*])) | ((with_reducible refine qaaa rfl (fun h => ?_) (fun h => ?_)) <;> have h' := h <;> (try simp at h') <;> (try subst h')) | (refine qblz hm rfl rfl ?_ rfl) | fail)
   all_goals rfl
  ·have e : (p.states.length : Int) = K := by rw [if_pos (by simpa using k1)] at hK; exact hK
   omega
end Go.Proofs.Yticeaegpkpjjeaa
namespace Go.Proofs.Yticeaegpkpjjeaa
set_option linter.all false
open Go.RowKit
attribute [local simp] qabg qabf qaas qaa3 qaat qaa2 qabd qabe qaan qabo SOp.run SX.ev putd puts argS upds SOp.touch SSt.keep SSt.skip gets geth puth delh idOf SV.cells? setL qac6 qac7 sbin eq0 eq1 eqL qac1 qab1 qab2 qaap qabh qaag qabi qabp qaai qaao FrzOk qaa7 qaa0 qaa5 qaa6 qaau qaaz qabl qaa1 qaaw qaa8 qaav frzS frzH frz frz1 frz0 SlotsM ObjsM ObjM rn ren ren1 ren0 qabt qab6 qab9 qabs qabm qaca qab8 CoL qaa9 qacb dels adds idsH qabx
attribute [local simp] qadr refc qael qaed qab7 opc actc tabc qady qacl nums setc wc
theorem qahk {P : Program} {f : FuncId} {args args' : List SV} {t : TypeId} {cs ds cs' ds' : List SV} {e z : Nat} {es fs : List (List SV)} [PureR es] [PureR fs] (h : SCalls P f args [(0, .cells t cs), (1, .row e z es)] 2 (.tup []) [(0, .cells t ds), (1, .row e z fs)]) (i j q : Nat) (hij : i ≠ j) (hi : i < q) (hj : j < q)
  (ha : args' = args.map (ren (sg [i, j] q))) (hc : cs' = cs.map (ren (sg [i, j] q))) (hd : ds' = ds.map (ren (sg [i, j] q))) (hok : ds.all ok2 = true) : SCalls P f args' [(i, .cells t cs'), (j, .row e z es)] q (.tup []) [(i, .cells t ds'), (j, .row e z fs)] := by
 have e0 : sg [i, j] q 0 = i := rfl
 have e1 : sg [i, j] q 1 = j := rfl
 refine qaev [i, j] h rfl (by simp [hij]) (by simp; omega) ha ?_ (by simp [idsH]) rfl rfl ?_ (by simp [idsH]) (by simp [idsH, e0, e1])
 ·refine ⟨⟨.cells t cs', by rw [e0]; simp [geth], rfl, by rw [hc]; exact CoL.refl _⟩, ⟨.row e z es, by rw [e1]; simp [geth, hij], rfl, rfl, by rw [PureR.ren]; exact CoLL.refl _⟩, trivial⟩
 ·exact ⟨⟨.cells t ds', by rw [e0]; simp [geth], rfl, hok, hd⟩, ⟨.row e z fs, by rw [e1]; simp [geth, hij], rfl, rfl, PureR.ok, (PureR.ren _).symm⟩, trivial⟩
theorem qaex (p : PlanD) (n : Nat) (a b : Int) (l : List SetsD) (is : Bool) (code at_ : Int) (q : Nat) (hq : 2 ≤ q) : SCalls Try.prog 90 [.ptr 0 0, .bool is, .int .i64 code, .int .i64 at_] [(0, .cells 119 (wc p n a b)), (1, qah9 l)] q (.tup []) [(0, .cells 119 (wc p n (qab3 a b is code at_).1 (qab3 a b is code at_).2)), (1, qah9 l)] :=
 qahk (wfail_s p n a b l is code at_) 0 1 q (by decide) (by omega) (by omega) rfl rfl rfl rfl
theorem qbks (p : PlanD) (a b : Int) (l : List SetsD) (n : Nat) (hln : l.length = n) (k : Int) (s : SetsD) (hn : p.states.length ≤ 1000) (hl : l.length = p.states.length + 1) (hk : 0 ≤ tgt p.states.length k) (q : Nat) (hq : 2 ≤ q) : SCalls Try.prog 92 [.ptr 0 0, .int .i64 k, .agg (setc s)] [(0, .cells 119 (wc p n a b)), (1, qah9 l)] q (.tup []) [(0, .cells 119 (wc p n a b)), (1, qah9 (toS p.states.length l k s))] := by
 subst hln
 exact qahk (wto_s p a b l k s hn hl hk) 0 1 q (by decide) (by omega) (by omega) rfl rfl rfl rfl
theorem qac8 (v : BitVec 64) : ((v.toNat : Int) != 0) = (v != 0) := by
 have := qbe2 (v := v) (w := 0)
 rw [Bool.eq_iff_iff, bne_iff_ne, bne_iff_ne]
 exact not_congr this
theorem qacn (v : BitVec 64) : ((v.toNat : Int) == 0) = (v == 0) := by
 have := qbe2 (v := v) (w := 0)
 rw [Bool.eq_iff_iff, beq_iff_eq, beq_iff_eq]
 exact this
theorem qblp {h : Int} (h1 : h < 64) (j : Nat) : (bitB h).getLsbD j = decide (h.toNat = j) := by
 unfold bitB
 rw [BitVec.getLsbD_twoPow]
 by_cases e : h.toNat = j <;> simp [e]
 omega
theorem gone_eq {h o : Int} (h0 : 0 ≤ h ∧ h < 64) (ho : 0 ≤ o ∧ o < 64) (m : BitVec 64) : ((m ||| bitB h) &&& bitB o == 0) = (o != h && (m &&& bitB o == 0)) := by
 by_cases e : o = h
 ·subst e
  have : ¬ ((m ||| bitB o) &&& bitB o = 0) := fun hz => by
   have := congrArg (fun v => v.getLsbD o.toNat) hz
   simp [BitVec.getLsbD_and, BitVec.getLsbD_or, qblp h0.2] at this
  simpa using this
 ·have e2 : (m ||| bitB h) &&& bitB o = m &&& bitB o := BitVec.eq_of_getLsbD_eq fun j hj => by
   rw [BitVec.getLsbD_and, BitVec.getLsbD_or, BitVec.getLsbD_and, qblp h0.2, qblp ho.2]
   by_cases q1 : o.toNat = j
   ·have q2 : ¬ h.toNat = j := by omega
    simp [q1, q2]
   ·simp [q1]
  have e3 : (o != h) = true := by simpa using e
  rw [e2, e3, Bool.true_and]
theorem qbfk (a b at_ : Int) (s : StateD) (x : SetsD) (hx : x.there = true) (c1 c2 : Bool) (h1 : (decide (0 ≤ s.head) && (x.may &&& bitB s.head != 0)) = c1) (h2 : (decide (0 < s.cases_.length) && (decide (0 ≤ s.on.h) && (s.on.h != s.head && (x.must &&& bitB s.on.h == 0)))) = c2) :
  orF (a, b) (refC s x, at_) = qab3 (qab3 a b c1 7 at_).1 (qab3 a b c1 7 at_).2 c2 12 at_ := by
 unfold refC
 rw [if_neg (by rw [hx]; decide), h1, h2, qac0 _ _ _ _ _ _ (by decide)]
 refine (qac0 _ _ _ _ _ _ (by decide)).trans ?_
 exact qach _ rfl
set_option maxHeartbeats 4000000 in
theorem qbi3 (p : PlanD) (hp : PlOk p) (hk : qafw p) (i : Nat) (hi : i < p.states.length) (a b : Int) (l : List SetsD) (hl : l.length = p.states.length + 1) (hb : 0 ≤ (l.getD i qaef).least ∧ (l.getD i qaef).least ≤ 256 ∧ 0 ≤ (l.getD i qaef).most ∧ (l.getD i qaef).most ≤ 256) :
  SCalls Try.prog 45 [.ptr 0 0, .int .i64 i] [(0, .cells 119 (wc p (p.states.length + 1) a b)), (1, qah9 l)] 2 (.tup []) [(0, .cells 119 (wc p (p.states.length + 1) (orF (a, b) (refC p.states[i] (l.getD i qaef), 3000 + i)).1 (orF (a, b) (refC p.states[i] (l.getD i qaef), 3000 + i)).2)), (1, qah9 (qaj8 p p.states[i] i l))] := by
 refine qaax (N := 116) Try.func45 rfl rfl (by kernel_rfl) qakq (by simp) (by repeat' (first | exact trivial | refine And.intro ?_ ?_ | rfl | decide | exact PureR.ren _)) (by repeat' (first | exact trivial | refine And.intro ?_ ?_ | rfl | decide | exact PureR.ren _)) ?_
 rintro X hP hN hm
 unfold c_wstate
 have hli : i < l.length := by omega
 have hy : l[i]? = some (l.getD i qaef) := by rw [List.getD_eq_getElem?_getD, List.getElem?_eq_getElem hli]; rfl
 have hn := hp.states.2
 have ok := hp.ok i hi
 have hh6 := hp.heads
 have hts : ∀ t ∈ qac2 p.states[i], 0 ≤ tgt p.states.length t := fun t ht => by have := qbfb ok hi hn ht; omega
 have hmem : p.states[i] ∈ p.states := List.getElem_mem hi
 have hS : qaj8 p p.states[i] i l = if (l.getD i qaef).there then (qac2 p.states[i]).foldl (fun m k => toS p.states.length m k (qbib p p.states[i].head (l.getD i qaef))) l else l := rfl
 have hok1 := ok.head
 have hok2 := ok.on
 have hok3 := ok.cases_
 have hget3 : l[i]'hli = l.getD i qaef := by rw [List.getD_eq_getElem?_getD, List.getElem?_eq_getElem hli]; rfl
 generalize l.getD i qaef = y at hy hb hS hget3
 generalize hxx : p.states[i] = x at hts hS hok1 hok2 hok3
 clear ok hmem
 have wa : IntKind.i64.wrap (3000 + (i : Int)) = 3000 + (i : Int) := qaaq (by omega) (by omega)
 cases hth : y.there
 ·rw [hth, if_neg (by decide)] at hS
  have hR : refC x y = 0 := by unfold refC; rw [if_pos hth]
  rw [hS, hR, show orF (a, b) (0, 3000 + (i : Int)) = (a, b) from qach _ rfl]
  replace hS := Lib.hid hS
  replace hts := Lib.hid hts
  repeat' (first | (with_reducible first | refine zA ?_ | refine zK ?_) | ((with_reducible first | refine qaac ?_ | refine qaa4 (by rw [hP]; exact qacr) ?_); (try rw [hP]); simp -implicitDefEqProofs [*]) | ((with_reducible refine qaam ?_); (try simp only [qaap, qaag, qaai])) | ((with_reducible refine qaaa rfl (fun h => ?_) (fun h => ?_)) <;> have h' := h <;> (try simp at h') <;> (try subst h')) | ((with_reducible refine qabq ?_ ?_); (first | omega | (unfold maxLen; omega)); simp -implicitDefEqProofs [*]) | (refine fin_wr hm rfl rfl ?_ rfl) | fail)
  all_goals rfl
 ·rw [hth, if_pos rfl] at hS
  have hG := fun c1 c2 h1 h2 => qbfk a b (3000 + (i : Int)) x y hth c1 c2 h1 h2
  generalize orF (a, b) (refC x y, 3000 + (i : Int)) = G at hG
  obtain ⟨T, hT⟩ : ∃ T, qbib p x.head y = T := ⟨_, rfl⟩
  rw [hT] at hS
  generalize qaj8 p x i l = L at hS
  have hTt : T.there = true := by rw [← hT]; unfold qbib; split <;> first | rfl | exact hth
  have kn : decide (0 < x.cases_.length) = decide (0 < (x.cases_.length : Int)) := decide_eq_decide.2 (by omega)
  replace hS := Lib.hid hS
  replace hts := Lib.hid hts
  replace hG := Lib.hid hG
  have hto : ∀ (m : List SetsD) (hml : m.length = p.states.length + 1) (e g k : Int) (hk : 0 ≤ tgt p.states.length k) (q : Nat) (hq : 2 ≤ q), SCalls Try.prog 92 [.ptr 0 0, .int .i64 k, .agg [.int .u64 T.must.toNat, .int .u64 T.may.toNat, .int .i64 T.least, .int .i64 T.most, .bool true]] [(0, .cells 119 (wc p (p.states.length + 1) e g)), (1, qah9 m)] q (.tup []) [(0, .cells 119 (wc p (p.states.length + 1) e g)), (1, qah9 (toS p.states.length m k T))] := fun m hml e g k hk q hq => by
   have := qbks p e g m _ hml k T (by omega) hml hk q hq
   unfold setc at this
   rw [hTt] at this
   exact this
  have loopL : ∀ e g, G = (e, g) → SWp X (SCode.block 0 c_wstate_l1.loop) (QSeq X (SCode.reg false qahx []) (QFun X [] 2 (.tup []) [(0, .cells 119 (wc p (p.states.length + 1) G.1 G.2)), (1, qah9 L)]))
    ⟨[(0, .ptr 0 0), (4, .ptr 17 0), (5, .ptr 18 0), (99, .view 3 (x.cases_.map qaed)), (100, .int .i64 x.cases_.length), (101, .int .i64 0)], [(0, .cells 119 (wc p (p.states.length + 1) e g)), (1, qah9 l), (17, .cells 105 (qab7 x)), (18, .cells 45 [.int .u64 T.must.toNat, .int .u64 T.may.toNat, .int .i64 T.least, .int .i64 T.most, .bool true])], 19⟩ := fun e g hge => by
   subst hge
   clear hG hget3 hb hth hTt hT
   replace hto := Lib.hid hto
   have h0 : L = (((x.cases_.drop 0).map CaseD.to_) ++ [x.els]).foldl (fun m k => toS p.states.length m k T) l := hS.out
   replace h0 := Lib.hid h0
   refine qaal (qabb (fun s (z : Nat × List SetsD) => s.turn [(101, .int .i64 z.1)] [(1, qah9 z.2)]) (fun z => z.1 ≤ x.cases_.length ∧ z.2.length = p.states.length + 1 ∧ L = (((x.cases_.drop z.1).map CaseD.to_) ++ [x.els]).foldl (fun m k => toS p.states.length m k T) z.2) (fun z => x.cases_.length - z.1) (0, l) ?_ ⟨by simp, hl, h0.out⟩ ?_)
   ·repeat' (first | ((with_reducible refine qaah [] hm ?_ ?_ ?_ ?_) <;> (try simp only [zT, puth, Nat.reduceEqDiff, reduceIte, Nat.reduceAdd])) | (with_reducible first | refine za ?_ ?_ | refine zb ?_ ?_ ?_ ?_ | refine zc ?_ ?_ ?_ ?_) | (with_reducible first | exact qaab | exact qaad) | ((with_reducible first | refine zga ?_ | refine zgb ?_); rfl) | ((with_reducible refine zgc ?_); (first | (with_reducible rfl) | rfl | (simp; done))) | ((with_reducible refine zgd ?_); (first | omega | (simp; done))) | (exact Co.refl _) | (exact CoL.refl _) | fail)
   rintro J hJ ⟨j, m⟩ ⟨h1, hml, h2⟩
   unfold c_wstate_l1
   simp only [zT, puth, Nat.reduceEqDiff, reduceIte, Nat.reduceAdd] at h1 hml h2 ⊢
   clear hl hy hli h0
   rcases Nat.lt_or_ge j x.cases_.length with hj | hj
   ·have htm : 0 ≤ tgt p.states.length x.cases_[j].to_ := hts.out _ (List.mem_append_left _ (List.mem_map.2 ⟨_, List.getElem_mem hj, rfl⟩))
    rw [List.drop_eq_getElem_cons hj, List.map_cons, List.cons_append, List.foldl_cons] at h2
    have hsl : (toS p.states.length m x.cases_[j].to_ T).length = p.states.length + 1 := by rw [qa4z, hml]
    generalize hcc : x.cases_[j] = c at h2 htm hsl
    have wj : IntKind.i64.wrap ((j : Int) + 1) = (j : Int) + 1 := qaaq (by omega) (by omega)
    replace h2 := Lib.hid h2
    replace hsl := Lib.hid hsl
    replace hml := Lib.hid hml
    replace htm := Lib.hid htm
    repeat' (first | (with_reducible first | refine zA ?_ | refine qaae ?_) | ((with_reducible refine qaac ?_); (try rw [hP]); simp -implicitDefEqProofs [*]) | ((with_reducible refine qaaf ?_); (try simp -implicitDefEqProofs [*])) | ((with_reducible refine qaaa rfl (fun h => ?_) (fun h => ?_)) <;> have h' := h <;> (try simp at h') <;> (try subst h')) | (refine qabv (hto.out m hml.out _ _ c.to_ htm.out _ (by simp)) ⟨rfl, rfl, trivial⟩ ⟨rfl, rfl, trivial⟩ ?_; simp -implicitDefEqProofs [*]) | (with_reducible first | refine za ?_ ?_ | refine zb ?_ ?_ ?_ ?_ | refine zc ?_ ?_ ?_ ?_) | (with_reducible first | exact qaab | exact qaad) | ((with_reducible first | refine zga ?_ | refine zgb ?_); rfl) | ((with_reducible refine zgc ?_); (first | (with_reducible rfl) | rfl | (simp; done))) | ((with_reducible first | refine zgd ?_ | refine zge ?_); (first | omega | (simp; done))) | (exact Co.refl _) | (exact CoL.refl _) | ((refine qaaj hJ (j + 1, toS p.states.length m c.to_ T) ?_ ?_ ?_; (with_reducible refine qaah [] hm ?_ ?_ ?_ ?_) <;> (try simp only [zT, puth, Nat.reduceEqDiff, reduceIte, Nat.reduceAdd]))) | fail)
    all_goals (exact ⟨by omega, hsl.out, h2.out⟩)
   ·obtain rfl : j = x.cases_.length := by omega
    rw [List.drop_length] at h2
    have h3 : L = toS p.states.length m x.els T := h2
    have htm : 0 ≤ tgt p.states.length x.els := hts.out _ (List.mem_append_right _ (by simp))
    replace h2 := Lib.hid h2
    replace h3 := Lib.hid h3
    replace hml := Lib.hid hml
    replace htm := Lib.hid htm
    repeat' (first | (with_reducible refine zA ?_) | ((with_reducible refine qaac ?_); (try rw [hP]); simp -implicitDefEqProofs [*]) | ((with_reducible refine qaak ?_); (try simp -implicitDefEqProofs [*])) | ((with_reducible refine qaaa rfl (fun h => ?_) (fun h => ?_)) <;> have h' := h <;> (try simp at h') <;> (try subst h')) | (refine qabv (hto.out m hml.out _ _ x.els htm.out _ (by simp)) ⟨rfl, rfl, trivial⟩ ⟨rfl, rfl, trivial⟩ ?_; simp -implicitDefEqProofs [*]) | (refine qblz hm rfl rfl ?_ ?_) | fail)
    ·rfl
    ·rw [h3.out]
  replace hto := Lib.hid hto
  replace loopL := Lib.hid loopL
  cases kh : decide (0 ≤ x.head)
  ·have hTy : T = y := by rw [← hT]; unfold qbib; rw [if_neg (of_decide_eq_false kh)]
   subst hTy
   replace hT := Lib.hid hT
   replace hok2 := Lib.hid hok2
   have hd : x.head < 0 := by have := of_decide_eq_false kh; omega
   cases kc : decide (0 < (x.cases_.length : Int)) <;> rw [kc] at kn
   ·have hf := hG.out false false (by rw [kh]; rfl) (by rw [kn]; rfl)
    simp only [qabr] at hf
    replace hf := Lib.hid hf
    repeat' (first | (with_reducible first | refine zA ?_ | refine zK ?_) | ((with_reducible first | refine qaac ?_ | refine qaa4 (by rw [hP]; exact qacr) ?_); (try rw [hP]); simp -implicitDefEqProofs [-BitVec.toNat_and, -BitVec.toNat_or, qaba, qabu, qac8, qacn, *]) | ((with_reducible refine qaaf ?_); (try simp -implicitDefEqProofs [-BitVec.toNat_and, -BitVec.toNat_or, qaba, qabu, qac8, qacn, *])) | ((with_reducible refine qaaa rfl (fun h => ?_) (fun h => ?_)) <;> have h' := h <;> (try simp at h') <;> (try subst h')) | ((with_reducible refine qabq ?_ ?_); (first | omega | (unfold maxLen; omega)); simp -implicitDefEqProofs [-BitVec.toNat_and, -BitVec.toNat_or, qaba, qabu, qac8, qacn, *]) | fail)
    refine qacs ?_ (loopL.out _ _ hf.out)
    repeat' (first | ((with_reducible refine qaah [] hm ?_ ?_ ?_ ?_) <;> (try simp only [zT, puth, Nat.reduceEqDiff, reduceIte, Nat.reduceAdd])) | (with_reducible first | refine za ?_ ?_ | refine zb ?_ ?_ ?_ ?_ | refine zc ?_ ?_ ?_ ?_) | (with_reducible first | exact qaab | exact qaad) | ((with_reducible first | refine zga ?_ | refine zgb ?_); rfl) | ((with_reducible refine zgc ?_); (first | (with_reducible rfl) | rfl | (simp; done))) | ((with_reducible refine zgd ?_); (first | omega | (simp; done))) | (exact Co.refl _) | (exact CoL.refl _) | fail)
   ·cases ko : decide (0 ≤ x.on.h)
    ·have hf := hG.out false false (by rw [kh]; rfl) (by rw [kn, ko]; rfl)
     simp only [qabr] at hf
     replace hf := Lib.hid hf
     repeat' (first | (with_reducible first | refine zA ?_ | refine zK ?_) | ((with_reducible first | refine qaac ?_ | refine qaa4 (by rw [hP]; exact qacr) ?_); (try rw [hP]); simp -implicitDefEqProofs [-BitVec.toNat_and, -BitVec.toNat_or, qaba, qabu, qac8, qacn, qabr, *]) | ((with_reducible refine qaaf ?_); (try simp -implicitDefEqProofs [-BitVec.toNat_and, -BitVec.toNat_or, qaba, qabu, qac8, qacn, qabr, *])) | ((with_reducible refine qaaa rfl (fun h => ?_) (fun h => ?_)) <;> have h' := h <;> (try simp at h') <;> (try subst h')) | ((with_reducible refine qabq ?_ ?_); (first | omega | (unfold maxLen; omega)); simp -implicitDefEqProofs [-BitVec.toNat_and, -BitVec.toNat_or, qaba, qabu, qac8, qacn, qabr, *]) | (refine qabv (qaex p _ _ _ l _ _ _ _ (by simp)) ⟨rfl, rfl, trivial⟩ ⟨rfl, rfl, trivial⟩ ?_; simp -implicitDefEqProofs [-BitVec.toNat_and, -BitVec.toNat_or, qaba, qabu, qac8, qacn, qabr, *]) | fail)
     refine qacs ?_ (loopL.out _ _ hf.out)
     repeat' (first | ((with_reducible refine qaah [] hm ?_ ?_ ?_ ?_) <;> (try simp only [zT, puth, Nat.reduceEqDiff, reduceIte, Nat.reduceAdd])) | (with_reducible first | refine za ?_ ?_ | refine zb ?_ ?_ ?_ ?_ | refine zc ?_ ?_ ?_ ?_) | (with_reducible first | exact qaab | exact qaad) | ((with_reducible first | refine zga ?_ | refine zgb ?_); rfl) | ((with_reducible refine zgc ?_); (first | (with_reducible rfl) | rfl | (simp; done))) | ((with_reducible refine zgd ?_); (first | omega | (simp; done))) | (exact Co.refl _) | (exact CoL.refl _) | fail)
    ·have hoh := hok2.out (by have := of_decide_eq_true kc; omega)
     have ho0 := of_decide_eq_true ko
     have hne : (x.on.h != x.head) = true := by rw [bne_iff_ne]; omega
     have hf := hG.out false _ (by rw [kh]; rfl) (by rw [kn, ko, hne, Bool.true_and, Bool.true_and, Bool.true_and])
     simp only [qabr] at hf
     have hbt := fun q => qbi7 x.on.h ho0 (by omega) q
     replace hf := Lib.hid hf
     replace hbt := Lib.hid hbt
     clear hne
     repeat' (first | (with_reducible first | refine zA ?_ | refine zK ?_) | ((with_reducible first | refine qaac ?_ | refine qaa4 (by rw [hP]; exact qacr) ?_); (try rw [hP]); simp -implicitDefEqProofs [-BitVec.toNat_and, -BitVec.toNat_or, qaba, qabu, qac8, qacn, *]) | ((with_reducible refine qaaf ?_); (try simp -implicitDefEqProofs [-BitVec.toNat_and, -BitVec.toNat_or, qaba, qabu, qac8, qacn, *])) | ((with_reducible refine qaaa rfl (fun h => ?_) (fun h => ?_)) <;> have h' := h <;> (try simp at h') <;> (try subst h')) | ((with_reducible refine qabq ?_ ?_); (first | omega | (unfold maxLen; omega)); simp -implicitDefEqProofs [-BitVec.toNat_and, -BitVec.toNat_or, qaba, qabu, qac8, qacn, *]) | ((first | refine qabv (qaex p _ _ _ l _ _ _ _ (by simp)) ⟨rfl, rfl, trivial⟩ ⟨rfl, rfl, trivial⟩ ?_ | refine qaay (hbt.out _) ?_); simp -implicitDefEqProofs [-BitVec.toNat_and, -BitVec.toNat_or, qaba, qabu, qac8, qacn, *]) | fail)
     refine qacs ?_ (loopL.out _ _ hf.out)
     repeat' (first | ((with_reducible refine qaah [] hm ?_ ?_ ?_ ?_) <;> (try simp only [zT, puth, Nat.reduceEqDiff, reduceIte, Nat.reduceAdd])) | (with_reducible first | refine za ?_ ?_ | refine zb ?_ ?_ ?_ ?_ | refine zc ?_ ?_ ?_ ?_) | (with_reducible first | exact qaab | exact qaad) | ((with_reducible first | refine zga ?_ | refine zgb ?_); rfl) | ((with_reducible refine zgc ?_); (first | (with_reducible rfl) | rfl | (simp; done))) | ((with_reducible refine zgd ?_); (first | omega | (simp; done))) | (exact Co.refl _) | (exact CoL.refl _) | fail)
  ·have hh0 := of_decide_eq_true kh
   have hS2 := qanq hp hh0 hok1.2
   have hE : T = ⟨y.must ||| bitB x.head, y.may ||| bitB x.head, y.least + qah7 p x.head, y.most + qah7 p x.head, true⟩ := by rw [← hT]; unfold qbib; rw [if_pos hh0]
   have hM : y.must ||| bitB x.head = T.must := by rw [hE]
   have hY : y.may ||| bitB x.head = T.may := by rw [hE]
   have hgeq : ∀ o, 0 ≤ o → o < 64 → (T.must &&& bitB o == 0) = (o != x.head && (y.must &&& bitB o == 0)) := fun o h0 h1 => by rw [← hM]; exact gone_eq ⟨hh0, by omega⟩ ⟨h0, h1⟩ y.must
   have hLe : IntKind.i64.wrap (y.least + qah7 p x.head) = T.least := by rw [hE]; exact qaaq (by omega) (by omega)
   have hMo : IntKind.i64.wrap (y.most + qah7 p x.head) = T.most := by rw [hE]; exact qaaq (by omega) (by omega)
   have hlt : x.head.toNat < p.heads.length := by omega
   have hsz : headW p x.head = p.heads[x.head.toNat].w := by unfold headW; rw [List.getElem?_eq_getElem hlt]; rfl
   have hcs := fun q => qbim p.heads[x.head.toNat].w q
   rw [← hsz] at hcs
   unfold qam8 at hcs
   rw [show qary (headW p x.head) = qah7 p x.head from rfl] at hcs
   generalize qah7 p x.head = N at hLe hMo hcs
   have hbh := fun q => qbi7 x.head hh0 (by omega) q
   generalize hq1 : p.heads[x.head.toNat] = hd at hsz
   have hsz2 : hd.w = headW p x.head := hsz.symm
   generalize headW p x.head = ws at hcs hsz2
   clear hE hT hS2 hsz
   replace hcs := Lib.hid hcs
   replace hbh := Lib.hid hbh
   replace hgeq := Lib.hid hgeq
   replace hok2 := Lib.hid hok2
   cases kc : decide (0 < (x.cases_.length : Int)) <;> rw [kc] at kn
   ·have hf := hG.out _ false (by rw [kh, Bool.true_and]) (by rw [kn]; rfl)
    simp only [qabr] at hf
    replace hf := Lib.hid hf
    repeat' (first | (with_reducible first | refine zA ?_ | refine zK ?_) | ((with_reducible first | refine qaac ?_ | refine qaa4 (by rw [hP]; exact qacr) ?_); (try rw [hP]); simp -implicitDefEqProofs [-BitVec.toNat_and, -BitVec.toNat_or, qaba, qabu, qac8, qacn, *]) | ((with_reducible refine qaaf ?_); (try simp -implicitDefEqProofs [-BitVec.toNat_and, -BitVec.toNat_or, qaba, qabu, qac8, qacn, *])) | ((with_reducible refine qaaa rfl (fun h => ?_) (fun h => ?_)) <;> have h' := h <;> (try simp at h') <;> (try subst h')) | ((with_reducible refine qabq ?_ ?_); (first | omega | (unfold maxLen; omega)); simp -implicitDefEqProofs [-BitVec.toNat_and, -BitVec.toNat_or, qaba, qabu, qac8, qacn, *]) | ((first | refine qabv (qaex p _ _ _ l _ _ _ _ (by simp)) ⟨rfl, rfl, trivial⟩ ⟨rfl, rfl, trivial⟩ ?_ | refine qaay (hcs.out _) ?_ | refine qaay (hbh.out _) ?_); simp -implicitDefEqProofs [-BitVec.toNat_and, -BitVec.toNat_or, qaba, qabu, qac8, qacn, *]) | fail)
    refine qacs ?_ (loopL.out _ _ hf.out)
    repeat' (first | ((with_reducible refine qaah [] hm ?_ ?_ ?_ ?_) <;> (try simp only [zT, puth, Nat.reduceEqDiff, reduceIte, Nat.reduceAdd])) | (with_reducible first | refine za ?_ ?_ | refine zb ?_ ?_ ?_ ?_ | refine zc ?_ ?_ ?_ ?_) | (with_reducible first | exact qaab | exact qaad) | ((with_reducible first | refine zga ?_ | refine zgb ?_); rfl) | ((with_reducible refine zgc ?_); (first | (with_reducible rfl) | rfl | (simp; done))) | ((with_reducible refine zgd ?_); (first | omega | (simp; done))) | (exact Co.refl _) | (exact CoL.refl _) | fail)
   ·cases ko : decide (0 ≤ x.on.h)
    ·have hf := hG.out _ false (by rw [kh, Bool.true_and]) (by rw [kn, ko]; rfl)
     simp only [qabr] at hf
     replace hf := Lib.hid hf
     repeat' (first | (with_reducible first | refine zA ?_ | refine zK ?_) | ((with_reducible first | refine qaac ?_ | refine qaa4 (by rw [hP]; exact qacr) ?_); (try rw [hP]); simp -implicitDefEqProofs [-BitVec.toNat_and, -BitVec.toNat_or, qaba, qabu, qac8, qacn, qabr, *]) | ((with_reducible refine qaaf ?_); (try simp -implicitDefEqProofs [-BitVec.toNat_and, -BitVec.toNat_or, qaba, qabu, qac8, qacn, qabr, *])) | ((with_reducible refine qaaa rfl (fun h => ?_) (fun h => ?_)) <;> have h' := h <;> (try simp at h') <;> (try subst h')) | ((with_reducible refine qabq ?_ ?_); (first | omega | (unfold maxLen; omega)); simp -implicitDefEqProofs [-BitVec.toNat_and, -BitVec.toNat_or, qaba, qabu, qac8, qacn, qabr, *]) | ((first | refine qabv (qaex p _ _ _ l _ _ _ _ (by simp)) ⟨rfl, rfl, trivial⟩ ⟨rfl, rfl, trivial⟩ ?_ | refine qaay (hcs.out _) ?_ | refine qaay (hbh.out _) ?_); simp -implicitDefEqProofs [-BitVec.toNat_and, -BitVec.toNat_or, qaba, qabu, qac8, qacn, qabr, *]) | fail)
     refine qacs ?_ (loopL.out _ _ hf.out)
     repeat' (first | ((with_reducible refine qaah [] hm ?_ ?_ ?_ ?_) <;> (try simp only [zT, puth, Nat.reduceEqDiff, reduceIte, Nat.reduceAdd])) | (with_reducible first | refine za ?_ ?_ | refine zb ?_ ?_ ?_ ?_ | refine zc ?_ ?_ ?_ ?_) | (with_reducible first | exact qaab | exact qaad) | ((with_reducible first | refine zga ?_ | refine zgb ?_); rfl) | ((with_reducible refine zgc ?_); (first | (with_reducible rfl) | rfl | (simp; done))) | ((with_reducible refine zgd ?_); (first | omega | (simp; done))) | (exact Co.refl _) | (exact CoL.refl _) | fail)
    ·have hoh := hok2.out (by have := of_decide_eq_true kc; omega)
     have ho0 := of_decide_eq_true ko
     have hf := hG.out _ _ (by rw [kh, Bool.true_and]) (by rw [kn, ko, Bool.true_and, Bool.true_and, ← hgeq.out _ ho0 (by omega)])
     have hbt := fun q => qbi7 x.on.h ho0 (by omega) q
     replace hf := Lib.hid hf
     replace hbt := Lib.hid hbt
     repeat' (first | (with_reducible first | refine zA ?_ | refine zK ?_) | ((with_reducible first | refine qaac ?_ | refine qaa4 (by rw [hP]; exact qacr) ?_); (try rw [hP]); simp -implicitDefEqProofs [-BitVec.toNat_and, -BitVec.toNat_or, qaba, qabu, qac8, qacn, *]) | ((with_reducible refine qaaf ?_); (try simp -implicitDefEqProofs [-BitVec.toNat_and, -BitVec.toNat_or, qaba, qabu, qac8, qacn, *])) | ((with_reducible refine qaaa rfl (fun h => ?_) (fun h => ?_)) <;> have h' := h <;> (try simp at h') <;> (try subst h')) | ((with_reducible refine qabq ?_ ?_); (first | omega | (unfold maxLen; omega)); simp -implicitDefEqProofs [-BitVec.toNat_and, -BitVec.toNat_or, qaba, qabu, qac8, qacn, *]) | ((first | refine qabv (qaex p _ _ _ l _ _ _ _ (by simp)) ⟨rfl, rfl, trivial⟩ ⟨rfl, rfl, trivial⟩ ?_ | refine qaay (hcs.out _) ?_ | refine qaay (hbh.out _) ?_ | refine qaay (hbt.out _) ?_); simp -implicitDefEqProofs [-BitVec.toNat_and, -BitVec.toNat_or, qaba, qabu, qac8, qacn, *]) | fail)
     refine qacs ?_ (loopL.out _ _ hf.out)
     repeat' (first | ((with_reducible refine qaah [] hm ?_ ?_ ?_ ?_) <;> (try simp only [zT, puth, Nat.reduceEqDiff, reduceIte, Nat.reduceAdd])) | (with_reducible first | refine za ?_ ?_ | refine zb ?_ ?_ ?_ ?_ | refine zc ?_ ?_ ?_ ?_) | (with_reducible first | exact qaab | exact qaad) | ((with_reducible first | refine zga ?_ | refine zgb ?_); rfl) | ((with_reducible refine zgc ?_); (first | (with_reducible rfl) | rfl | (simp; done))) | ((with_reducible refine zgd ?_); (first | omega | (simp; done))) | (exact Co.refl _) | (exact CoL.refl _) | fail)
end Go.Proofs.Yticeaegpkpjjeaa
namespace Go.Proofs.Yticeaegpkpjjeaa
set_option linter.all false
open Go.RowKit
attribute [local simp] qabg qabf qaas qaa3 qaat qaa2 qabd qabe qaan qabo SOp.run SX.ev putd puts argS upds SOp.touch SSt.keep SSt.skip gets geth puth delh idOf SV.cells? setL qac6 qac7 sbin eq0 eq1 eqL qac1 qab1 qab2 qaap qabh qaag qabi qabp qaai qaao FrzOk qaa7 qaa0 qaa5 qaa6 qaau qaaz qabl qaa1 qaaw qaa8 qaav frzS frzH frz frz1 frz0 SlotsM ObjsM ObjM rn ren ren1 ren0 qabt qab6 qab9 qabs qabm qaca qab8 CoL qaa9 qacb dels adds idsH qabx
attribute [local simp] qadr refc qael qaed qab7 opc actc tabc qady qacl nums setc
theorem qafk {X : Cx} {sl : Sl} {hp : Hp} {t u nx id n : Nat} {ty : TypeId} {cs ds : List SV} {v v' r : SV} (hm : X.m = 0) (hne : t ≠ u) (hv : gets sl t = v') (hvv : Co v' v) (hN : NoN v) (hu : gets sl u = .ptr id 0) (h : geth hp id = some (.cells ty cs)) (ha : qah8 X.P ty = some true) (hn : qacd X.P ty = some n) (hl : ds.length = n) (e : CoL cs ds) (hr : r = .tup [v, .agg ds]) (hd : ∀ σ, ds.map (Go.Proofs.Yticeaegpkpjjeaa.ren σ) = ds) : QFun X [.tmp t, .cell u ty] 0 r [] .ret ⟨sl, hp, nx⟩ := by
 subst hr hl
 have hw : Wk X ⟨sl, hp, nx⟩ ⟨[(t, v), (u, .ptr 0 0)], [(0, .cells ty ds)], 1⟩ := by
  refine qaah [(0, id)] hm ⟨?_, ?_, trivial⟩ ⟨⟨_, h, rfl, by rw [hd]; exact e⟩, trivial⟩ rfl (by simp)
  ·rw [hv, hN]; exact hvv
  ·rw [hu]; exact Co.refl _
 refine ⟨_, hw, ?_, trivial, by simp⟩
 simp [qar3, resL, resV, one_, gets, ha, hn, SOp.run, SX.ev, geth, hne]
def wcR (p : PlanD) (R n : Nat) (a b : Int) : List SV := qacl p ++ [.own R n, .int .i64 a, .int .i64 b]
attribute [local simp] wcR
theorem qat0 (p : PlanD) (hp : PlOk p) (hk : qafw p) (i : Nat) (hi : i < p.states.length) (a b : Int) (W R q : Nat) (hWR : W ≠ R) (hW : W < q) (hR : R < q) :
  SCalls Try.prog 45 [.ptr W 0, .int .i64 i] [(W, .cells 119 (wcR p R (p.states.length + 1) a b)), (R, qah9 (qadl p i))] q (.tup []) [(W, .cells 119 (wcR p R (p.states.length + 1) (orF (a, b) (refC p.states[i] (setAt p i), 3000 + i)).1 (orF (a, b) (refC p.states[i] (setAt p i), 3000 + i)).2)), (R, qah9 (qadl p (i + 1)))] := by
 have e : setAt p i = (qadl p i).getD i qaef := qata hp (by omega) (Nat.le_refl _)
 rw [e, qage p hi]
 exact qahk (qbi3 p hp hk i hi a b (qadl p i) (qacw p i) (qbfd hp (by omega) (by omega))) W R q hWR hW hR rfl rfl rfl rfl
theorem qanu (p : PlanD) : orF (0, 0) (qafo p) = qafo p := by
 by_cases h : (qafo p).1 = 0
 ·have : qafo p = (0, 0) := qaf2 h
  rw [this]; rfl
 ·unfold orF; simp [h]
theorem qbjg (p : PlanD) : (List.replicate (p.states.length + 1) [SV.int .u64 0, .int .u64 0, .int .i64 0, .int .i64 0, .bool false]).set 0 [SV.int .u64 0, .int .u64 0, .int .i64 0, .int .i64 0, .bool true] = (qadl p 0).map setc := by
 unfold qadl
 rw [List.map_set, List.map_replicate]; rfl
set_option maxHeartbeats 4000000 in
theorem walk_s (p : PlanD) (hs : SmallP p) (hk : qafw p) (q : Nat) : SCalls Try.prog 10 [.agg (qacl p)] [] q (.tup [.view 5 ((qam7 p).map setc), .agg [.int .i64 (qaf0 p).1, .int .i64 (qaf0 p).2]]) [] := by
 refine qabj ?_ (fun _ => rfl) (fun _ => rfl) rfl q
 refine qaax (N := 52) Try.func10 rfl rfl (by kernel_rfl) qatp (by simp) (by repeat' (first | exact trivial | refine And.intro ?_ ?_ | rfl | decide | exact PureR.ren _)) (by repeat' (first | exact trivial | refine And.intro ?_ ?_ | rfl | decide | exact PureR.ren _)) ?_
 rintro X hP hN hm
 unfold c_walk
 have hc := fun q => qbjr p hs hk q
 have hns := hs.states
 by_cases h0 : (qafi p).1 = 0
 ·have hp := qbfm h0
  have hF : qaf0 p = qafo p := by unfold qaf0; rw [if_neg (by simpa using h0)]
  have hL : qam7 p = if (qafo p).1 ≠ 0 then [] else qafx p := by unfold qam7; rw [hF]
  rw [hF, hL]
  have hF0 : qafo p = orF (0, 0) (rowF (fun i s => refC s (setAt p i)) 3000 0 p.states) := (qanu p).symm
  have hz0 : (qafo p).1 = 0 → qafo p = (0, 0) := fun h => qaf2 h
  generalize qafo p = F at hF0 hz0
  replace hz0 := Lib.hid hz0
  have kc : ((qafi p).1 != 0) = false := by simpa using h0
  generalize qafi p = C at hc kc
  have hn1 : p.states.length ≤ 8 := hp.states.2
  have wn : IntKind.i64.wrap ((p.states.length : Int) + 1) = (p.states.length : Int) + 1 := qaaq (by omega) (by omega)
  have hmx : p.states.length + 1 ≤ maxLen := by unfold maxLen; omega
  have hset0 := qbjg p
  replace hF0 := Lib.hid hF0
  replace hc := Lib.hid hc
  replace hset0 := Lib.hid hset0
  clear hF hL h0
  repeat' (first | (with_reducible first | refine zA ?_ | refine zK ?_) | ((with_reducible first | refine qaac ?_ | refine qaa4 (by rw [hP]; exact qacr) ?_); (try rw [hP]); simp -implicitDefEqProofs [*]) | ((with_reducible refine qaaf ?_); (try simp -implicitDefEqProofs [*])) | ((with_reducible refine qaaa rfl (fun h => ?_) (fun h => ?_)) <;> have h' := h <;> (try simp at h') <;> (try subst h')) | ((with_reducible refine qabq ?_ ?_); (first | omega | (unfold maxLen; omega)); simp -implicitDefEqProofs [*]) | (refine qaay (hc.out _) ?_; simp -implicitDefEqProofs [*]) | fail)
  refine qaal (qabb (fun s (z : Nat × Int × Int) => s.turn [(30, .int .i64 z.1)] [(24, .cells 119 (wcR p 22 (p.states.length + 1) z.2.1 z.2.2)), (22, qah9 (qadl p z.1))]) (fun z => z.1 ≤ p.states.length ∧ F = orF (z.2.1, z.2.2) (rowF (fun i s => refC s (setAt p i)) 3000 z.1 (p.states.drop z.1))) (fun z => p.states.length - z.1) (0, 0, 0) ?_ ⟨by simp, hF0.out⟩ ?_)
  ·repeat' (first | ((with_reducible refine qaah [] hm ?_ ?_ ?_ ?_) <;> (try simp only [zT, puth, Nat.reduceEqDiff, reduceIte, Nat.reduceAdd])) | (with_reducible first | refine za ?_ ?_ | refine zb ?_ ?_ ?_ ?_ | refine zc ?_ ?_ ?_ ?_) | (with_reducible first | exact qaab | exact qaad) | ((with_reducible first | refine zga ?_ | refine zgb ?_); rfl) | ((with_reducible refine zgd ?_); (first | omega | (simp; done))) | (exact Co.refl _) | (exact CoL.refl _) | fail)
   all_goals (exact hset0.out)
  rintro J hJ ⟨i, e, g⟩ ⟨h1, h2⟩
  unfold qasu
  simp only [zT, puth, Nat.reduceEqDiff, reduceIte, Nat.reduceAdd] at h1 h2 ⊢
  rcases Nat.lt_or_ge i p.states.length with hi | hi
  ·rw [qadf _ _ hi, qaeo] at h2
   have hcs := fun q h1 h2 => qat0 p hp hk i hi e g 24 22 q (by decide) h1 h2
   generalize orF (e, g) (refC p.states[i] (setAt p i), 3000 + (i : Int)) = G at h2 hcs
   have wi : IntKind.i64.wrap ((i : Int) + 1) = (i : Int) + 1 := qaaq (by omega) (by omega)
   replace h2 := Lib.hid h2
   replace hcs := Lib.hid hcs
   replace hp := Lib.hid hp
   repeat' (first | (with_reducible first | refine zA ?_ | refine qaae ?_) | ((with_reducible refine qaac ?_); (try rw [hP]); simp -implicitDefEqProofs [*]) | ((with_reducible refine qaaf ?_); (try simp -implicitDefEqProofs [*])) | ((with_reducible refine qaaa rfl (fun h => ?_) (fun h => ?_)) <;> have h' := h <;> (try simp at h') <;> (try subst h')) | (refine qabv (hcs.out _ (by simp) (by simp)) ⟨rfl, rfl, trivial⟩ ⟨rfl, rfl, trivial⟩ ?_; simp -implicitDefEqProofs [*]) | (with_reducible first | refine za ?_ ?_ | refine zb ?_ ?_ ?_ ?_ | refine zc ?_ ?_ ?_ ?_) | (with_reducible first | exact qaab | exact qaad) | ((with_reducible first | refine zga ?_ | refine zgb ?_); rfl) | ((with_reducible refine zgc ?_); (first | (with_reducible rfl) | rfl | (simp; done))) | ((with_reducible first | refine zgd ?_ | refine zge ?_); (first | omega | (simp; done))) | (exact Co.refl _) | (exact CoL.refl _) | ((refine qaaj hJ (i + 1, ?_, ?_) ?_ ?_ ?_; rotate_left 2; (with_reducible refine qaah [] hm ?_ ?_ ?_ ?_) <;> (try simp only [zT, puth, Nat.reduceEqDiff, reduceIte, Nat.reduceAdd]))) | fail)
   all_goals (try dsimp only)
   all_goals (exact ⟨by omega, h2.out⟩)
  ·obtain rfl : i = p.states.length := by omega
   rw [List.drop_length] at h2
   have h3 : F = (e, g) := by rw [h2]; exact qach _ rfl
   subst h3
   have hlen : ((qadl p p.states.length).map setc).length = p.states.length + 1 := by rw [List.length_map, qacw]
   clear h2 hF0
   replace hp := Lib.hid hp
   by_cases he : e = 0
   ·subst he
    obtain rfl : g = 0 := (Prod.mk.inj (hz0.out rfl)).2
    repeat' (first | ((with_reducible refine qacj (c := .seq (.reg false qala [2, 3]) .ret) ?_)) | (with_reducible refine zA ?_) | ((with_reducible refine qaac ?_); (try rw [hP]); simp -implicitDefEqProofs [*]) | ((with_reducible first | refine qaaf ?_ | refine qaak ?_); (try simp -implicitDefEqProofs [*])) | ((with_reducible refine qaaa rfl (fun h => ?_) (fun h => ?_)) <;> have h' := h <;> (try simp at h') <;> (try subst h')) | fail)
    constructor
    refine qads [22] ?_ ?_
    ·simp only [FrzOk, geth, Nat.reduceEqDiff, reduceIte, qad8, and_true]
    have htk : ((qadl p p.states.length).map setc).take (p.states.length + 1) = (qadl p p.states.length).map setc := List.take_of_length_le (by rw [hlen]; exact Nat.le_refl _)
    simp -implicitDefEqProofs [htk, hlen, Nat.le_refl]
    repeat' (first | (with_reducible refine zA ?_) | ((with_reducible refine qaac ?_); (try rw [hP]); simp -implicitDefEqProofs [*]) | ((with_reducible refine qaam ?_); (try simp only [qaap, qaag, qaai])) | (refine qafk hm (by decide) rfl (Co.refl _) (qadw _ _) rfl rfl (by rw [hP]; exact qabn) (by rw [hP]; exact qabc) rfl (CoL.refl _) ?_ (fun σ => rfl)) | fail)
    all_goals rfl
   ·have ke : (e != 0) = true := by simpa using he
    repeat' (first | (with_reducible first | refine zA ?_ | refine zK ?_) | ((with_reducible first | refine qaac ?_ | refine qaa4 (by rw [hP]; exact qacr) ?_); (try rw [hP]); simp -implicitDefEqProofs [*]) | ((with_reducible refine qaak ?_); (try simp -implicitDefEqProofs [*])) | ((with_reducible refine qaam ?_); (try simp only [qaap, qaag, qaai])) | ((with_reducible refine qaaa rfl (fun h => ?_) (fun h => ?_)) <;> have h' := h <;> (try simp at h') <;> (try subst h')) | (refine qafk hm (by decide) rfl (Co.nilsl 5) (qadw _ _) rfl rfl (by rw [hP]; exact qabn) (by rw [hP]; exact qabc) rfl (CoL.refl _) ?_ (fun σ => rfl)) | fail)
    all_goals rfl
 ·have hF : qaf0 p = qafi p := by unfold qaf0; rw [if_pos h0]
  have hL : qam7 p = [] := by unfold qam7; rw [hF, if_pos h0]
  rw [hF, hL]
  have kc : ((qafi p).1 != 0) = true := by simpa using h0
  generalize qafi p = C at hc kc
  replace hc := Lib.hid hc
  clear hF hL h0
  repeat' (first | (with_reducible first | refine zA ?_ | refine zK ?_) | ((with_reducible first | refine qaac ?_ | refine qaa4 (by rw [hP]; exact qacr) ?_); (try rw [hP]); simp -implicitDefEqProofs [*]) | ((with_reducible refine qaam ?_); (try simp only [qaap, qaag, qaai])) | ((with_reducible refine qaaa rfl (fun h => ?_) (fun h => ?_)) <;> have h' := h <;> (try simp at h') <;> (try subst h')) | (refine qaay (hc.out _) ?_; simp -implicitDefEqProofs [*]) | (refine qafk hm (by decide) rfl (Co.nilsl 5) (qadw _ _) rfl rfl (by rw [hP]; exact qabn) (by rw [hP]; exact qabc) rfl (CoL.refl _) rfl (fun σ => rfl)) | fail)
end Go.Proofs.Yticeaegpkpjjeaa
