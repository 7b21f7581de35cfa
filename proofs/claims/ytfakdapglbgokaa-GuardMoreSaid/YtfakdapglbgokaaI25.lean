/-
  Texts joined: XCgrd. No condition.
-/
import Derived.Test.YtfakdapglbgokaaProg
import Derived.Test.YtfakdapglbgokaaI16
/-
  The plain machine's code of functions (printed by scode.py). No condition.
-/
namespace Go.Proofs.Ytfakdapglbgokaa
set_option linter.all false
open Go.RowKit
abbrev c_kjoin_r1 : List SOper := [⟨(some 2), .box 151 (.t 0), none, none, 0⟩,
  ⟨(some 3), .box 151 (.t 1), none, none, 0⟩,
  ⟨(some 4), .alloc 151 [(.bool false), (.bool false), (.int .u64 0), (.int .i64 0)], none, none, 0⟩]
abbrev c_kjoin_r2 : List SOper := [⟨(some 5), .faddr 0 (.t 2), none, none, 0⟩,
  ⟨(some 6), .load (.t 5), none, none, 0⟩,
  ⟨(some 7), .un .not (.t 6), none, none, 0⟩,
  ⟨(some 8), .mv (.t 7), none, none, 0⟩,
  ⟨(some 9), .faddr 0 (.t 3), none, (some (8, false)), 0⟩,
  ⟨(some 10), .load (.t 9), none, (some (8, false)), 0⟩,
  ⟨(some 11), .un .not (.t 10), none, (some (8, false)), 0⟩,
  ⟨(some 12), .pick (.t 8) (.c (.bool true)) (.t 11), none, none, 0⟩]
abbrev c_kjoin_r3 : List SOper := [⟨(some 13), .build [(.bool false), (.bool false), (.int .u64 0), (.int .i64 0)] [(3, 1, (.c (.int .i64 (-1))))], none, none, 0⟩,
  ⟨none, .store 4 (.t 4) (.t 13), none, none, 0⟩]
abbrev c_kjoin_r4 : List SOper := [⟨(some 14), .faddr 1 (.t 2), none, none, 0⟩,
  ⟨(some 15), .load (.t 14), none, none, 0⟩,
  ⟨(some 16), .mv (.t 15), none, none, 0⟩,
  ⟨(some 17), .faddr 1 (.t 3), none, (some (16, true)), 0⟩,
  ⟨(some 18), .load (.t 17), none, (some (16, true)), 0⟩,
  ⟨(some 19), .pick (.t 16) (.t 18) (.c (.bool false)), none, none, 0⟩,
  ⟨(some 20), .mv (.t 19), none, none, 0⟩,
  ⟨(some 21), .faddr 2 (.t 2), none, (some (20, true)), 0⟩,
  ⟨(some 22), .load (.t 21), none, (some (20, true)), 0⟩,
  ⟨(some 23), .faddr 2 (.t 3), none, (some (20, true)), 0⟩,
  ⟨(some 24), .load (.t 23), none, (some (20, true)), 0⟩,
  ⟨(some 25), .bin .eql (.t 22) (.t 24), none, (some (20, true)), 0⟩,
  ⟨(some 26), .pick (.t 20) (.t 25) (.c (.bool false)), none, none, 0⟩,
  ⟨(some 27), .faddr 1 (.t 2), none, none, 0⟩,
  ⟨none, .store 1 (.t 27) (.t 26), none, none, 0⟩]
abbrev c_kjoin_r5 : List SOper := [⟨(some 28), .faddr 1 (.t 2), none, none, 0⟩,
  ⟨(some 29), .load (.t 28), none, none, 0⟩,
  ⟨(some 30), .un .not (.t 29), none, none, 0⟩]
abbrev c_kjoin_r6 : List SOper := [⟨(some 31), .faddr 2 (.t 2), none, none, 0⟩,
  ⟨none, .store 1 (.t 31) (.c (.int .u64 0)), none, none, 0⟩]
abbrev c_kjoin_r7 : List SOper := [⟨(some 32), .faddr 3 (.t 2), none, none, 0⟩,
  ⟨(some 33), .load (.t 32), none, none, 0⟩,
  ⟨(some 34), .faddr 3 (.t 3), none, none, 0⟩,
  ⟨(some 35), .load (.t 34), none, none, 0⟩,
  ⟨(some 36), .mm false (.t 33) (.t 35), none, none, 0⟩,
  ⟨(some 37), .faddr 3 (.t 2), none, none, 0⟩,
  ⟨none, .store 1 (.t 37) (.t 36), none, none, 0⟩]
abbrev c_kjoin_r8 : List SOper := [⟨(some 38), .loads 4 (.t 2), none, none, 0⟩,
  ⟨none, .store 4 (.t 4) (.t 38), none, none, 0⟩]
def c_kjoin : SCode := (.seq (.reg false c_kjoin_r1 [2, 3, 4]) (.seq (.seq (.reg false c_kjoin_r2 [2, 3, 4, 12]) (.cond (.t 12) (.seq (.reg false c_kjoin_r3 [4]) .ret) .skip)) (.seq (.reg false c_kjoin_r4 [2, 3, 4]) (.seq (.seq (.reg false c_kjoin_r5 [2, 3, 4, 30]) (.cond (.t 30) (.reg false c_kjoin_r6 [2, 3, 4]) .skip)) (.seq (.reg false c_kjoin_r7 [2, 4]) (.seq (.reg false c_kjoin_r8 [4]) .ret))))))
theorem comp_c_kjoin : comp Try.prog 39 ((Try.f145.body).getD .skip) = some c_kjoin.erase := by kernel_rfl
abbrev c_sjoin_r1 : List SOper := [⟨(some 2), .box 155 (.t 0), none, none, 0⟩,
  ⟨(some 3), .box 155 (.t 1), none, none, 0⟩,
  ⟨(some 4), .alloc 155 [(.bool false), (.bool false), (.bool false), (.int .u64 0), (.int .i64 0), (.bool false), (.bool false), (.int .u64 0), (.int .i64 0), (.bool false), (.bool false), (.int .u64 0), (.int .i64 0), (.bool false), (.bool false), (.int .u64 0), (.int .i64 0), (.bool false), (.bool false), (.int .u64 0), (.int .i64 0), (.bool false), (.bool false), (.int .u64 0), (.int .i64 0), (.bool false), (.bool false), (.int .u64 0), (.int .i64 0), (.bool false), (.bool false), (.int .u64 0), (.int .i64 0), (.bool false), (.bool false), (.int .u64 0), (.int .i64 0), (.bool false), (.bool false), (.int .u64 0), (.int .i64 0), (.bool false), (.bool false), (.bool false), (.bool false), (.bool false), (.bool false), (.bool false), (.bool false), (.bool false), (.bool false), (.bool false), (.bool false), (.bool false), (.bool false), (.bool false), (.bool false), (.bool false), (.bool false), (.bool false), (.bool false), (.bool false), (.bool false), (.bool false), (.bool false), (.bool false), (.bool false), (.bool false), (.bool false), (.bool false), (.bool false), (.bool false), (.bool false), (.bool false), (.bool false), (.bool false), (.bool false), (.bool false), (.bool false), (.bool false), (.bool false), (.bool false), (.bool false), (.bool false), (.bool false), (.bool false), (.bool false), (.bool false), (.bool false), (.bool false), (.bool false), (.bool false), (.bool false), (.bool false), (.bool false), (.bool false), (.bool false), (.bool false), (.bool false), (.bool false), (.bool false), (.bool false), (.bool false), (.bool false), (.bool false), (.bool false), (.bool false), (.bool false), (.bool false), (.bool false), (.bool false), (.bool false), (.bool false), (.bool false), (.bool false), (.bool false), (.bool false), (.bool false), (.bool false), (.bool false), (.bool false), (.bool false), (.bool false), (.bool false), (.bool false), (.bool false), (.bool false), (.bool false), (.bool false), (.bool false), (.bool false), (.bool false), (.bool false), (.bool false), (.bool false), (.bool false), (.bool false)], none, none, 0⟩]
abbrev c_sjoin_r2 : List SOper := [⟨(some 7), .faddr 0 (.t 2), none, none, 0⟩,
  ⟨(some 8), .load (.t 7), none, none, 0⟩,
  ⟨(some 9), .un .not (.t 8), none, none, 0⟩]
abbrev c_sjoin_r3 : List SOper := [⟨(some 10), .loads 137 (.t 3), none, none, 0⟩,
  ⟨none, .store 137 (.t 4) (.t 10), none, none, 0⟩]
abbrev c_sjoin_r4 : List SOper := [⟨(some 11), .mv (.c (.int .i64 0)), none, none, 0⟩]
abbrev c_sjoin_r5 : List SOper := [⟨(some 12), .bin .lss (.t 11) (.c (.int .i64 10)), none, none, 0⟩]
abbrev c_sjoin_r6 : List SOper := [⟨(some 13), .mv (.t 11), none, none, 0⟩,
  ⟨(some 5), .mv (.t 13), none, none, 0⟩]
abbrev c_sjoin_r7 : List SOper := [⟨(some 14), .mv (.t 5), none, none, 0⟩,
  ⟨(some 15), .mv (.t 5), none, none, 0⟩,
  ⟨(some 16), .faddr 1 (.t 2), none, none, 0⟩,
  ⟨(some 17), .iarr 10 4 (.t 16) (.t 15), none, none, 6⟩,
  ⟨(some 18), .loads 4 (.t 17), none, none, 14⟩,
  ⟨(some 19), .mv (.t 5), none, none, 0⟩,
  ⟨(some 20), .faddr 1 (.t 3), none, none, 0⟩,
  ⟨(some 21), .iarr 10 4 (.t 20) (.t 19), none, none, 96⟩,
  ⟨(some 22), .loads 4 (.t 21), none, none, 224⟩,
  ⟨(some 23), .mv (.c .any), some ((.c (.fn (.func 145) [] [])), [(.t 18), (.t 22)]), none, 510⟩,
  ⟨(some 24), .faddr 1 (.t 2), none, none, 0⟩,
  ⟨(some 25), .iarr 10 4 (.t 24) (.t 14), none, none, 2047⟩,
  ⟨none, .store 4 (.t 25) (.t 23), none, none, 4095⟩]
abbrev c_sjoin_r8 : List SOper := [⟨(some 26), .bin .add (.t 11) (.c (.int .i64 1)), none, none, 0⟩,
  ⟨(some 11), .mv (.t 26), none, none, 0⟩]
def c_sjoin_l1 : SCode := (.seq (.reg false c_sjoin_r5 [2, 3, 4, 11, 12]) (.seq (.cond (.t 12) .skip (.exit 0)) (.seq (.block 1 (.seq (.reg false c_sjoin_r6 [2, 3, 4, 5, 11]) (.reg true c_sjoin_r7 [2, 3, 4, 11]))) (.reg false c_sjoin_r8 [2, 3, 4, 11]))))
abbrev c_sjoin_r9 : List SOper := [⟨(some 27), .mv (.c (.int .i64 0)), none, none, 0⟩]
abbrev c_sjoin_r10 : List SOper := [⟨(some 28), .bin .lss (.t 27) (.c (.int .i64 96)), none, none, 0⟩]
abbrev c_sjoin_r11 : List SOper := [⟨(some 29), .mv (.t 27), none, none, 0⟩,
  ⟨(some 6), .mv (.t 29), none, none, 0⟩]
abbrev c_sjoin_r12 : List SOper := [⟨(some 30), .mv (.t 6), none, none, 0⟩,
  ⟨(some 31), .mv (.t 6), none, none, 0⟩,
  ⟨(some 32), .faddr 41 (.t 2), none, none, 0⟩,
  ⟨(some 33), .iarr 96 1 (.t 32) (.t 31), none, none, 0⟩,
  ⟨(some 34), .load (.t 33), none, none, 0⟩,
  ⟨(some 35), .mv (.t 34), none, none, 0⟩,
  ⟨(some 36), .mv (.t 6), none, (some (35, true)), 0⟩,
  ⟨(some 37), .faddr 41 (.t 3), none, (some (35, true)), 0⟩,
  ⟨(some 38), .iarr 96 1 (.t 37) (.t 36), none, (some (35, true)), 0⟩,
  ⟨(some 39), .load (.t 38), none, (some (35, true)), 0⟩,
  ⟨(some 40), .pick (.t 35) (.t 39) (.c (.bool false)), none, none, 0⟩,
  ⟨(some 41), .faddr 41 (.t 2), none, none, 0⟩,
  ⟨(some 42), .iarr 96 1 (.t 41) (.t 30), none, none, 0⟩,
  ⟨none, .store 1 (.t 42) (.t 40), none, none, 0⟩]
abbrev c_sjoin_r13 : List SOper := [⟨(some 43), .bin .add (.t 27) (.c (.int .i64 1)), none, none, 0⟩,
  ⟨(some 27), .mv (.t 43), none, none, 0⟩]
def c_sjoin_l2 : SCode := (.seq (.reg false c_sjoin_r10 [2, 3, 4, 27, 28]) (.seq (.cond (.t 28) .skip (.exit 2)) (.seq (.block 3 (.seq (.reg false c_sjoin_r11 [2, 3, 4, 6, 27]) (.reg false c_sjoin_r12 [2, 3, 4, 27]))) (.reg false c_sjoin_r13 [2, 3, 4, 27]))))
abbrev c_sjoin_r14 : List SOper := [⟨(some 44), .loads 137 (.t 2), none, none, 0⟩,
  ⟨none, .store 137 (.t 4) (.t 44), none, none, 0⟩]
def c_sjoin : SCode := (.seq (.reg false c_sjoin_r1 [2, 3, 4]) (.seq (.seq (.reg false c_sjoin_r2 [2, 3, 4, 9]) (.cond (.t 9) (.seq (.reg false c_sjoin_r3 [4]) .ret) .skip)) (.seq (.seq (.reg false c_sjoin_r4 [2, 3, 4, 11]) (.block 0 (.loop c_sjoin_l1))) (.seq (.seq (.reg false c_sjoin_r9 [2, 3, 4, 27]) (.block 2 (.loop c_sjoin_l2))) (.seq (.reg false c_sjoin_r14 [4]) .ret)))))
theorem comp_c_sjoin : comp Try.prog 45 ((Try.f117.body).getD .skip) = some c_sjoin.erase := by kernel_rfl
abbrev c_gsome_r1 : List SOper := [⟨(some 0), .alloc 151 [(.bool false), (.bool false), (.int .u64 0), (.int .i64 0)], none, none, 0⟩]
abbrev c_gsome_r2 : List SOper := [⟨(some 1), .build [(.bool false), (.bool false), (.int .u64 0), (.int .i64 0)] [(0, 1, (.c (.bool true))), (3, 1, (.c (.int .i64 (-1))))], none, none, 0⟩,
  ⟨none, .store 4 (.t 0) (.t 1), none, none, 0⟩]
def c_gsome : SCode := (.seq (.reg false c_gsome_r1 [0]) (.seq (.reg false c_gsome_r2 [0]) .ret))
theorem comp_c_gsome : comp Try.prog 2 ((Try.f143.body).getD .skip) = some c_gsome.erase := by kernel_rfl
abbrev c_uses_r1 : List SOper := [⟨(some 1), .box 56 (.t 0), none, none, 0⟩,
  ⟨(some 2), .mv (.c .nilsl), none, none, 0⟩]
abbrev c_uses_r2 : List SOper := [⟨(some 3), .faddr 0 (.t 1), none, none, 0⟩,
  ⟨(some 4), .load (.t 3), none, none, 0⟩]
abbrev c_uses_r3 : List SOper := [⟨(some 6), .bin .eql (.t 4) (.c (.int .i64 1)), none, none, 0⟩,
  ⟨(some 5), .mv (.t 6), none, none, 0⟩]
abbrev c_uses_r4 : List SOper := [⟨(some 7), .bin .eql (.t 4) (.c (.int .i64 7)), none, none, 0⟩,
  ⟨(some 5), .mv (.t 7), none, none, 0⟩]
abbrev c_uses_r5 : List SOper := [⟨(some 8), .bin .eql (.t 4) (.c (.int .i64 13)), none, none, 0⟩,
  ⟨(some 5), .mv (.t 8), none, none, 0⟩]
abbrev c_uses_r6 : List SOper := [⟨(some 9), .bin .eql (.t 4) (.c (.int .i64 18)), none, none, 0⟩,
  ⟨(some 5), .mv (.t 9), none, none, 0⟩]
abbrev c_uses_r7 : List SOper := [⟨(some 10), .bin .eql (.t 4) (.c (.int .i64 12)), none, none, 0⟩,
  ⟨(some 5), .mv (.t 10), none, none, 0⟩]
abbrev c_uses_r8 : List SOper := [⟨(some 11), .bin .eql (.t 4) (.c (.int .i64 17)), none, none, 0⟩,
  ⟨(some 5), .mv (.t 11), none, none, 0⟩]
abbrev c_uses_r9 : List SOper := [⟨(some 2), .mv (.c .nilsl), none, none, 0⟩]
abbrev c_uses_r10 : List SOper := [⟨(some 13), .bin .eql (.t 4) (.c (.int .i64 2)), none, none, 0⟩,
  ⟨(some 12), .mv (.t 13), none, none, 0⟩]
abbrev c_uses_r11 : List SOper := [⟨(some 14), .bin .eql (.t 4) (.c (.int .i64 6)), none, none, 0⟩,
  ⟨(some 12), .mv (.t 14), none, none, 0⟩]
abbrev c_uses_r12 : List SOper := [⟨(some 15), .faddr 2 (.t 1), none, none, 0⟩,
  ⟨(some 16), .load (.t 15), none, none, 0⟩,
  ⟨(some 17), .mkrow 3 1 1 [(.int .i64 0)] [(0, (.t 16))], none, none, 0⟩,
  ⟨(some 2), .mv (.t 17), none, none, 0⟩]
abbrev c_uses_r13 : List SOper := [⟨(some 19), .bin .eql (.t 4) (.c (.int .i64 3)), none, none, 0⟩,
  ⟨(some 18), .mv (.t 19), none, none, 0⟩]
abbrev c_uses_r14 : List SOper := [⟨(some 20), .bin .eql (.t 4) (.c (.int .i64 5)), none, none, 0⟩,
  ⟨(some 18), .mv (.t 20), none, none, 0⟩]
abbrev c_uses_r15 : List SOper := [⟨(some 21), .bin .eql (.t 4) (.c (.int .i64 10)), none, none, 0⟩,
  ⟨(some 18), .mv (.t 21), none, none, 0⟩]
abbrev c_uses_r16 : List SOper := [⟨(some 22), .bin .eql (.t 4) (.c (.int .i64 11)), none, none, 0⟩,
  ⟨(some 18), .mv (.t 22), none, none, 0⟩]
abbrev c_uses_r17 : List SOper := [⟨(some 23), .faddr 1 (.t 1), none, none, 0⟩,
  ⟨(some 24), .load (.t 23), none, none, 0⟩,
  ⟨(some 25), .faddr 2 (.t 1), none, none, 0⟩,
  ⟨(some 26), .load (.t 25), none, none, 0⟩,
  ⟨(some 27), .mkrow 3 1 2 [(.int .i64 0)] [(0, (.t 24)), (1, (.t 26))], none, none, 0⟩,
  ⟨(some 2), .mv (.t 27), none, none, 0⟩]
abbrev c_uses_r18 : List SOper := [⟨(some 28), .faddr 1 (.t 1), none, none, 0⟩,
  ⟨(some 29), .load (.t 28), none, none, 0⟩,
  ⟨(some 30), .mkrow 3 1 1 [(.int .i64 0)] [(0, (.t 29))], none, none, 0⟩,
  ⟨(some 2), .mv (.t 30), none, none, 0⟩]
def c_uses : SCode := (.seq (.reg false c_uses_r1 [1]) (.seq (.seq (.reg false c_uses_r2 [1, 4]) (.block 0 (.seq (.seq (.reg false c_uses_r3 [1, 4, 5]) (.cond (.t 5) .skip (.seq (.reg false c_uses_r4 [1, 4, 5]) (.cond (.t 5) .skip (.seq (.reg false c_uses_r5 [1, 4, 5]) (.cond (.t 5) .skip (.seq (.reg false c_uses_r6 [1, 4, 5]) (.cond (.t 5) .skip (.seq (.reg false c_uses_r7 [1, 4, 5]) (.cond (.t 5) .skip (.reg false c_uses_r8 [1, 4, 5]))))))))))) (.cond (.t 5) (.seq (.reg false c_uses_r9 [2]) .ret) (.seq (.seq (.reg false c_uses_r10 [1, 4, 12]) (.cond (.t 12) .skip (.reg false c_uses_r11 [1, 4, 12]))) (.cond (.t 12) (.seq (.reg false c_uses_r12 [2]) .ret) (.seq (.seq (.reg false c_uses_r13 [1, 4, 18]) (.cond (.t 18) .skip (.seq (.reg false c_uses_r14 [1, 4, 18]) (.cond (.t 18) .skip (.seq (.reg false c_uses_r15 [1, 4, 18]) (.cond (.t 18) .skip (.reg false c_uses_r16 [1, 18]))))))) (.cond (.t 18) (.seq (.reg false c_uses_r17 [2]) .ret) .skip)))))))) (.seq (.reg false c_uses_r18 [2]) .ret)))
theorem comp_c_uses : comp Try.prog 31 ((Try.f141.body).getD .skip) = some c_uses.erase := by kernel_rfl
abbrev c_gbin_r1 : List SOper := [⟨(some 4), .box 151 (.t 1), none, none, 0⟩,
  ⟨(some 5), .box 151 (.t 2), none, none, 0⟩,
  ⟨(some 6), .alloc 151 [(.bool false), (.bool false), (.int .u64 0), (.int .i64 0)], none, none, 0⟩]
abbrev c_gbin_r2 : List SOper := [⟨(some 8), .mv (.c .any), some ((.c (.fn (.func 143) [] [])), []), none, 0⟩,
  ⟨(some 7), .alloc 151 [(.bool false), (.bool false), (.int .u64 0), (.int .i64 0)], none, none, 0⟩,
  ⟨none, .store 4 (.t 7) (.t 8), none, none, 0⟩]
abbrev c_gbin_r3 : List SOper := [⟨(some 9), .mv (.t 0), none, none, 0⟩,
  ⟨(some 10), .bin .eql (.t 9) (.c (.int .i64 3)), none, none, 0⟩,
  ⟨(some 11), .mv (.t 10), none, none, 0⟩,
  ⟨(some 12), .faddr 1 (.t 5), none, (some (11, true)), 0⟩,
  ⟨(some 13), .load (.t 12), none, (some (11, true)), 0⟩,
  ⟨(some 14), .pick (.t 11) (.t 13) (.c (.bool false)), none, none, 0⟩,
  ⟨(some 15), .mv (.t 14), none, none, 0⟩,
  ⟨(some 16), .faddr 3 (.t 4), none, (some (15, true)), 0⟩,
  ⟨(some 17), .load (.t 16), none, (some (15, true)), 0⟩,
  ⟨(some 18), .bin .geq (.t 17) (.c (.int .i64 0)), none, (some (15, true)), 0⟩,
  ⟨(some 19), .pick (.t 15) (.t 18) (.c (.bool false)), none, none, 0⟩,
  ⟨(some 20), .mv (.t 19), none, none, 0⟩,
  ⟨(some 21), .faddr 2 (.t 5), none, (some (20, true)), 0⟩,
  ⟨(some 22), .load (.t 21), none, (some (20, true)), 0⟩,
  ⟨(some 23), .faddr 3 (.t 4), none, (some (20, true)), 0⟩,
  ⟨(some 24), .load (.t 23), none, (some (20, true)), 0⟩,
  ⟨(some 25), .conv .u64 (.t 24), none, (some (20, true)), 0⟩,
  ⟨(some 26), .bin .leq (.t 22) (.t 25), none, (some (20, true)), 0⟩,
  ⟨(some 27), .pick (.t 20) (.t 26) (.c (.bool false)), none, none, 0⟩]
abbrev c_gbin_r4 : List SOper := [⟨(some 28), .faddr 3 (.t 4), none, none, 0⟩,
  ⟨(some 29), .load (.t 28), none, none, 0⟩,
  ⟨(some 30), .faddr 2 (.t 5), none, none, 0⟩,
  ⟨(some 31), .load (.t 30), none, none, 0⟩,
  ⟨(some 32), .conv .i64 (.t 31), none, none, 0⟩,
  ⟨(some 33), .bin .sub (.t 29) (.t 32), none, none, 0⟩,
  ⟨(some 34), .faddr 3 (.t 7), none, none, 0⟩,
  ⟨none, .store 1 (.t 34) (.t 33), none, none, 0⟩]
abbrev c_gbin_r5 : List SOper := [⟨(some 35), .mv (.t 0), none, none, 0⟩,
  ⟨(some 36), .bin .eql (.t 35) (.c (.int .i64 3)), none, none, 0⟩,
  ⟨(some 37), .mv (.t 36), none, none, 0⟩,
  ⟨(some 38), .faddr 1 (.t 4), none, (some (37, true)), 0⟩,
  ⟨(some 39), .load (.t 38), none, (some (37, true)), 0⟩,
  ⟨(some 40), .pick (.t 37) (.t 39) (.c (.bool false)), none, none, 0⟩,
  ⟨(some 41), .mv (.t 40), none, none, 0⟩,
  ⟨(some 42), .faddr 1 (.t 5), none, (some (41, true)), 0⟩,
  ⟨(some 43), .load (.t 42), none, (some (41, true)), 0⟩,
  ⟨(some 44), .pick (.t 41) (.t 43) (.c (.bool false)), none, none, 0⟩]
abbrev c_gbin_r6 : List SOper := [⟨(some 45), .faddr 2 (.t 4), none, none, 0⟩,
  ⟨(some 46), .load (.t 45), none, none, 1⟩,
  ⟨(some 47), .faddr 2 (.t 5), none, none, 0⟩,
  ⟨(some 48), .load (.t 47), none, none, 4⟩,
  ⟨(some 49), .bin .add (.t 46) (.t 48), none, none, 15⟩,
  ⟨(some 50), .faddr 1 (.t 7), none, none, 0⟩,
  ⟨none, .store 1 (.t 50) (.c (.bool true)), none, none, 32⟩,
  ⟨(some 51), .faddr 2 (.t 7), none, none, 127⟩,
  ⟨none, .store 1 (.t 51) (.t 49), none, none, 255⟩]
abbrev c_gbin_r7 : List SOper := [⟨(some 52), .loads 4 (.t 7), none, none, 0⟩,
  ⟨none, .store 4 (.t 6) (.t 52), none, none, 0⟩]
def c_gbin : SCode := (.seq (.reg false c_gbin_r1 [0, 4, 5, 6]) (.seq (.reg false c_gbin_r2 [0, 4, 5, 6, 7]) (.seq (.seq (.reg false c_gbin_r3 [0, 4, 5, 6, 7, 27]) (.cond (.t 27) (.reg false c_gbin_r4 [0, 4, 5, 6, 7]) .skip)) (.seq (.seq (.reg false c_gbin_r5 [4, 5, 6, 7, 44]) (.cond (.t 44) (.reg true c_gbin_r6 [6, 7]) .skip)) (.seq (.reg false c_gbin_r7 [6]) .ret)))))
theorem comp_c_gbin : comp Try.prog 53 ((Try.f142.body).getD .skip) = some c_gbin.erase := by kernel_rfl
abbrev c_gdoes_r1 : List SOper := [⟨(some 4), .box 56 (.t 1), none, none, 0⟩,
  ⟨(some 5), .box 155 (.t 2), none, none, 0⟩,
  ⟨(some 6), .alloc 155 [(.bool false), (.bool false), (.bool false), (.int .u64 0), (.int .i64 0), (.bool false), (.bool false), (.int .u64 0), (.int .i64 0), (.bool false), (.bool false), (.int .u64 0), (.int .i64 0), (.bool false), (.bool false), (.int .u64 0), (.int .i64 0), (.bool false), (.bool false), (.int .u64 0), (.int .i64 0), (.bool false), (.bool false), (.int .u64 0), (.int .i64 0), (.bool false), (.bool false), (.int .u64 0), (.int .i64 0), (.bool false), (.bool false), (.int .u64 0), (.int .i64 0), (.bool false), (.bool false), (.int .u64 0), (.int .i64 0), (.bool false), (.bool false), (.int .u64 0), (.int .i64 0), (.bool false), (.bool false), (.bool false), (.bool false), (.bool false), (.bool false), (.bool false), (.bool false), (.bool false), (.bool false), (.bool false), (.bool false), (.bool false), (.bool false), (.bool false), (.bool false), (.bool false), (.bool false), (.bool false), (.bool false), (.bool false), (.bool false), (.bool false), (.bool false), (.bool false), (.bool false), (.bool false), (.bool false), (.bool false), (.bool false), (.bool false), (.bool false), (.bool false), (.bool false), (.bool false), (.bool false), (.bool false), (.bool false), (.bool false), (.bool false), (.bool false), (.bool false), (.bool false), (.bool false), (.bool false), (.bool false), (.bool false), (.bool false), (.bool false), (.bool false), (.bool false), (.bool false), (.bool false), (.bool false), (.bool false), (.bool false), (.bool false), (.bool false), (.bool false), (.bool false), (.bool false), (.bool false), (.bool false), (.bool false), (.bool false), (.bool false), (.bool false), (.bool false), (.bool false), (.bool false), (.bool false), (.bool false), (.bool false), (.bool false), (.bool false), (.bool false), (.bool false), (.bool false), (.bool false), (.bool false), (.bool false), (.bool false), (.bool false), (.bool false), (.bool false), (.bool false), (.bool false), (.bool false), (.bool false), (.bool false), (.bool false), (.bool false), (.bool false), (.bool false), (.bool false), (.bool false)], none, none, 0⟩,
  ⟨(some 7), .mv (.c (.int .i64 0)), none, none, 0⟩]
abbrev c_gdoes_r2 : List SOper := [⟨(some 10), .loads 6 (.t 4), none, none, 0⟩,
  ⟨(some 11), .mv (.c .any), some ((.c (.fn (.func 141) [] [])), [(.t 10)]), none, 0⟩,
  ⟨(some 12), .len false (.t 11), none, none, 0⟩,
  ⟨(some 13), .mv (.c (.int .i64 0)), none, none, 0⟩]
abbrev c_gdoes_r3 : List SOper := [⟨(some 14), .bin .lss (.t 13) (.t 12), none, none, 0⟩]
abbrev c_gdoes_r4 : List SOper := [⟨(some 15), .iaddr 1 (.t 11) (.t 13), none, none, 0⟩,
  ⟨(some 16), .load (.t 15), none, none, 0⟩,
  ⟨(some 9), .mv (.t 16), none, none, 0⟩]
abbrev c_gdoes_r5 : List SOper := [⟨(some 17), .mv (.t 9), none, none, 0⟩,
  ⟨(some 18), .faddr 1 (.t 5), none, none, 0⟩,
  ⟨(some 19), .iarr 10 4 (.t 18) (.t 17), none, none, 0⟩,
  ⟨(some 20), .faddr 0 (.t 19), none, none, 0⟩,
  ⟨(some 21), .load (.t 20), none, none, 0⟩,
  ⟨(some 22), .un .not (.t 21), none, none, 0⟩]
abbrev c_gdoes_r6 : List SOper := [⟨(some 23), .loads 137 (.t 5), none, none, 0⟩,
  ⟨none, .store 137 (.t 6) (.t 23), none, none, 0⟩,
  ⟨(some 7), .mv (.c (.int .i64 15)), none, none, 0⟩]
abbrev c_gdoes_r7 : List SOper := [⟨(some 24), .bin .add (.t 13) (.c (.int .i64 1)), none, none, 0⟩,
  ⟨(some 13), .mv (.t 24), none, none, 0⟩]
def c_gdoes_l1 : SCode := (.seq (.reg false c_gdoes_r3 [0, 4, 5, 6, 11, 12, 13, 14]) (.seq (.cond (.t 14) .skip (.exit 0)) (.seq (.block 1 (.seq (.reg false c_gdoes_r4 [0, 4, 5, 6, 9, 11, 12, 13]) (.seq (.reg false c_gdoes_r5 [0, 4, 5, 6, 11, 12, 13, 22]) (.cond (.t 22) (.seq (.reg false c_gdoes_r6 [6, 7]) .ret) .skip)))) (.reg false c_gdoes_r7 [0, 4, 5, 6, 11, 12, 13]))))
abbrev c_gdoes_r8 : List SOper := [⟨(some 25), .faddr 0 (.t 4), none, none, 0⟩,
  ⟨(some 26), .load (.t 25), none, none, 0⟩]
abbrev c_gdoes_r9 : List SOper := [⟨(some 28), .bin .eql (.t 26) (.c (.int .i64 1)), none, none, 0⟩,
  ⟨(some 27), .mv (.t 28), none, none, 0⟩]
abbrev c_gdoes_r10 : List SOper := [⟨(some 29), .faddr 1 (.t 4), none, none, 0⟩,
  ⟨(some 30), .load (.t 29), none, none, 0⟩,
  ⟨(some 31), .faddr 5 (.t 4), none, none, 0⟩,
  ⟨(some 32), .load (.t 31), none, none, 0⟩,
  ⟨(some 33), .build [(.bool false), (.bool false), (.int .u64 0), (.int .i64 0)] [(0, 1, (.c (.bool true))), (1, 1, (.c (.bool true))), (2, 1, (.t 32)), (3, 1, (.c (.int .i64 (-1))))], none, none, 0⟩,
  ⟨(some 34), .faddr 1 (.t 5), none, none, 0⟩,
  ⟨(some 35), .iarr 10 4 (.t 34) (.t 30), none, none, 0⟩,
  ⟨none, .store 4 (.t 35) (.t 33), none, none, 0⟩]
abbrev c_gdoes_r11 : List SOper := [⟨(some 36), .faddr 5 (.t 4), none, none, 0⟩,
  ⟨(some 37), .load (.t 36), none, none, 0⟩,
  ⟨(some 38), .bin .eql (.t 37) (.c (.int .u64 0)), none, none, 0⟩]
abbrev c_gdoes_r12 : List SOper := [⟨(some 39), .faddr 1 (.t 4), none, none, 0⟩,
  ⟨(some 40), .load (.t 39), none, none, 0⟩,
  ⟨(some 41), .faddr 1 (.t 5), none, none, 0⟩,
  ⟨(some 42), .iarr 10 4 (.t 41) (.t 40), none, none, 0⟩,
  ⟨(some 43), .faddr 3 (.t 42), none, none, 0⟩,
  ⟨none, .store 1 (.t 43) (.c (.int .i64 0)), none, none, 0⟩]
abbrev c_gdoes_r13 : List SOper := [⟨(some 45), .bin .eql (.t 26) (.c (.int .i64 2)), none, none, 0⟩,
  ⟨(some 44), .mv (.t 45), none, none, 0⟩]
abbrev c_gdoes_r14 : List SOper := [⟨(some 46), .faddr 1 (.t 4), none, none, 0⟩,
  ⟨(some 47), .load (.t 46), none, none, 1⟩,
  ⟨(some 48), .faddr 2 (.t 4), none, none, 0⟩,
  ⟨(some 49), .load (.t 48), none, none, 4⟩,
  ⟨(some 50), .faddr 1 (.t 5), none, none, 0⟩,
  ⟨(some 51), .iarr 10 4 (.t 50) (.t 49), none, none, 28⟩,
  ⟨(some 52), .loads 4 (.t 51), none, none, 60⟩,
  ⟨(some 53), .faddr 1 (.t 5), none, none, 0⟩,
  ⟨(some 54), .iarr 10 4 (.t 53) (.t 47), none, none, 255⟩,
  ⟨none, .store 4 (.t 54) (.t 52), none, none, 511⟩]
abbrev c_gdoes_r15 : List SOper := [⟨(some 56), .bin .eql (.t 26) (.c (.int .i64 3)), none, none, 0⟩,
  ⟨(some 55), .mv (.t 56), none, none, 0⟩]
abbrev c_gdoes_r16 : List SOper := [⟨(some 57), .faddr 1 (.t 4), none, none, 0⟩,
  ⟨(some 58), .load (.t 57), none, none, 1⟩,
  ⟨(some 59), .faddr 3 (.t 4), none, none, 0⟩,
  ⟨(some 60), .load (.t 59), none, none, 4⟩,
  ⟨(some 61), .faddr 1 (.t 4), none, none, 0⟩,
  ⟨(some 62), .load (.t 61), none, none, 16⟩,
  ⟨(some 63), .faddr 1 (.t 5), none, none, 0⟩,
  ⟨(some 64), .iarr 10 4 (.t 63) (.t 62), none, none, 112⟩,
  ⟨(some 65), .loads 4 (.t 64), none, none, 240⟩,
  ⟨(some 66), .faddr 2 (.t 4), none, none, 0⟩,
  ⟨(some 67), .load (.t 66), none, none, 512⟩,
  ⟨(some 68), .faddr 1 (.t 5), none, none, 0⟩,
  ⟨(some 69), .iarr 10 4 (.t 68) (.t 67), none, none, 3584⟩,
  ⟨(some 70), .loads 4 (.t 69), none, none, 7680⟩,
  ⟨(some 71), .mv (.c .any), some ((.c (.fn (.func 142) [] [])), [(.t 60), (.t 65), (.t 70)]), none, 16380⟩,
  ⟨(some 72), .faddr 1 (.t 5), none, none, 0⟩,
  ⟨(some 73), .iarr 10 4 (.t 72) (.t 58), none, none, 65535⟩,
  ⟨none, .store 4 (.t 73) (.t 71), none, none, 131071⟩]
abbrev c_gdoes_r17 : List SOper := [⟨(some 75), .bin .eql (.t 26) (.c (.int .i64 4)), none, none, 0⟩,
  ⟨(some 74), .mv (.t 75), none, none, 0⟩]
abbrev c_gdoes_r18 : List SOper := [⟨(some 76), .bin .eql (.t 26) (.c (.int .i64 5)), none, none, 0⟩,
  ⟨(some 74), .mv (.t 76), none, none, 0⟩]
abbrev c_gdoes_r19 : List SOper := [⟨(some 77), .bin .eql (.t 26) (.c (.int .i64 18)), none, none, 0⟩,
  ⟨(some 74), .mv (.t 77), none, none, 0⟩]
abbrev c_gdoes_r20 : List SOper := [⟨(some 78), .faddr 1 (.t 4), none, none, 0⟩,
  ⟨(some 79), .load (.t 78), none, none, 1⟩,
  ⟨(some 80), .mv (.c .any), some ((.c (.fn (.func 143) [] [])), []), none, 0⟩,
  ⟨(some 81), .faddr 1 (.t 5), none, none, 0⟩,
  ⟨(some 82), .iarr 10 4 (.t 81) (.t 79), none, none, 15⟩,
  ⟨none, .store 4 (.t 82) (.t 80), none, none, 31⟩]
abbrev c_gdoes_r21 : List SOper := [⟨(some 84), .bin .eql (.t 26) (.c (.int .i64 6)), none, none, 0⟩,
  ⟨(some 83), .mv (.t 84), none, none, 0⟩]
abbrev c_gdoes_r22 : List SOper := [⟨(some 85), .faddr 2 (.t 4), none, none, 0⟩,
  ⟨(some 86), .load (.t 85), none, none, 1⟩,
  ⟨(some 87), .faddr 1 (.t 5), none, none, 0⟩,
  ⟨(some 88), .iarr 10 4 (.t 87) (.t 86), none, none, 7⟩,
  ⟨(some 89), .faddr 3 (.t 88), none, none, 15⟩,
  ⟨(some 90), .load (.t 89), none, none, 31⟩,
  ⟨(some 91), .faddr 5 (.t 4), none, none, 0⟩,
  ⟨(some 92), .load (.t 91), none, none, 64⟩,
  ⟨(some 93), .conv .i64 (.t 92), none, none, 192⟩,
  ⟨(some 94), .faddr 3 (.t 4), none, none, 0⟩,
  ⟨(some 95), .load (.t 94), none, none, 512⟩,
  ⟨(some 96), .bin .add (.t 93) (.t 95), none, none, 1984⟩,
  ⟨(some 97), .bin .lss (.t 90) (.t 96), none, none, 4095⟩]
abbrev c_gdoes_r23 : List SOper := [⟨(some 98), .loads 137 (.t 5), none, none, 0⟩,
  ⟨none, .store 137 (.t 6) (.t 98), none, none, 0⟩,
  ⟨(some 7), .mv (.c (.int .i64 16)), none, none, 0⟩]
abbrev c_gdoes_r24 : List SOper := [⟨(some 99), .faddr 1 (.t 4), none, none, 0⟩,
  ⟨(some 100), .load (.t 99), none, none, 1⟩,
  ⟨(some 101), .mv (.c .any), some ((.c (.fn (.func 143) [] [])), []), none, 0⟩,
  ⟨(some 102), .faddr 1 (.t 5), none, none, 0⟩,
  ⟨(some 103), .iarr 10 4 (.t 102) (.t 100), none, none, 15⟩,
  ⟨none, .store 4 (.t 103) (.t 101), none, none, 31⟩]
abbrev c_gdoes_r25 : List SOper := [⟨(some 105), .bin .eql (.t 26) (.c (.int .i64 7)), none, none, 0⟩,
  ⟨(some 104), .mv (.t 105), none, none, 0⟩]
abbrev c_gdoes_r26 : List SOper := [⟨(some 106), .faddr 5 (.t 4), none, none, 0⟩,
  ⟨(some 107), .load (.t 106), none, none, 0⟩,
  ⟨(some 108), .faddr 41 (.t 5), none, none, 0⟩,
  ⟨(some 109), .iarr 96 1 (.t 108) (.t 107), none, none, 0⟩,
  ⟨(some 110), .load (.t 109), none, none, 0⟩,
  ⟨(some 111), .un .not (.t 110), none, none, 0⟩]
abbrev c_gdoes_r27 : List SOper := [⟨(some 112), .loads 137 (.t 5), none, none, 0⟩,
  ⟨none, .store 137 (.t 6) (.t 112), none, none, 0⟩,
  ⟨(some 7), .mv (.c (.int .i64 15)), none, none, 0⟩]
abbrev c_gdoes_r28 : List SOper := [⟨(some 113), .faddr 1 (.t 4), none, none, 0⟩,
  ⟨(some 114), .load (.t 113), none, none, 1⟩,
  ⟨(some 115), .mv (.c .any), some ((.c (.fn (.func 143) [] [])), []), none, 0⟩,
  ⟨(some 116), .faddr 1 (.t 5), none, none, 0⟩,
  ⟨(some 117), .iarr 10 4 (.t 116) (.t 114), none, none, 15⟩,
  ⟨none, .store 4 (.t 117) (.t 115), none, none, 31⟩]
abbrev c_gdoes_r29 : List SOper := [⟨(some 119), .bin .eql (.t 26) (.c (.int .i64 8)), none, none, 0⟩,
  ⟨(some 118), .mv (.t 119), none, none, 0⟩]
abbrev c_gdoes_r30 : List SOper := [⟨(some 120), .faddr 5 (.t 4), none, none, 0⟩,
  ⟨(some 121), .load (.t 120), none, none, 0⟩,
  ⟨(some 122), .faddr 41 (.t 5), none, none, 0⟩,
  ⟨(some 123), .iarr 96 1 (.t 122) (.t 121), none, none, 0⟩,
  ⟨none, .store 1 (.t 123) (.c (.bool true)), none, none, 0⟩]
abbrev c_gdoes_r31 : List SOper := [⟨(some 125), .bin .eql (.t 26) (.c (.int .i64 13)), none, none, 0⟩,
  ⟨(some 124), .mv (.t 125), none, none, 0⟩]
abbrev c_gdoes_r32 : List SOper := [⟨(some 126), .mv (.t 0), none, none, 0⟩,
  ⟨(some 127), .loads 6 (.t 4), none, none, 0⟩,
  ⟨(some 128), .loads 137 (.t 5), none, none, 0⟩,
  ⟨(some 129), .mv (.c .any), some ((.c (.fn (.func 144) [] [])), [(.t 126), (.t 127), (.t 128)]), none, 0⟩,
  ⟨(some 130), .extr (.t 129) 0, none, none, 0⟩,
  ⟨(some 131), .extr (.t 129) 1, none, none, 0⟩,
  ⟨none, .store 137 (.t 6) (.t 130), none, none, 0⟩,
  ⟨(some 7), .mv (.t 131), none, none, 0⟩]
abbrev c_gdoes_r33 : List SOper := [⟨(some 133), .bin .eql (.t 26) (.c (.int .i64 15)), none, none, 0⟩,
  ⟨(some 132), .mv (.t 133), none, none, 0⟩]
abbrev c_gdoes_r34 : List SOper := [⟨(some 134), .faddr 1 (.t 4), none, none, 0⟩,
  ⟨(some 135), .load (.t 134), none, none, 0⟩,
  ⟨(some 136), .faddr 1 (.t 5), none, none, 0⟩,
  ⟨(some 137), .iarr 10 4 (.t 136) (.t 135), none, none, 0⟩,
  ⟨(some 138), .faddr 3 (.t 137), none, none, 0⟩,
  ⟨(some 139), .load (.t 138), none, none, 0⟩,
  ⟨(some 140), .bin .lss (.t 139) (.c (.int .i64 0)), none, none, 0⟩]
abbrev c_gdoes_r35 : List SOper := [⟨(some 141), .loads 137 (.t 5), none, none, 0⟩,
  ⟨none, .store 137 (.t 6) (.t 141), none, none, 0⟩,
  ⟨(some 7), .mv (.c (.int .i64 16)), none, none, 0⟩]
abbrev c_gdoes_r36 : List SOper := [⟨(some 142), .loads 137 (.t 5), none, none, 0⟩,
  ⟨none, .store 137 (.t 6) (.t 142), none, none, 0⟩,
  ⟨(some 7), .mv (.c (.int .i64 0)), none, none, 0⟩]
def c_gdoes : SCode := (.seq (.reg false c_gdoes_r1 [0, 4, 5, 6]) (.seq (.seq (.reg false c_gdoes_r2 [0, 4, 5, 6, 11, 12, 13]) (.block 0 (.loop c_gdoes_l1))) (.seq (.seq (.reg false c_gdoes_r8 [0, 4, 5, 6, 26]) (.block 2 (.seq (.reg false c_gdoes_r9 [0, 4, 5, 6, 26, 27]) (.cond (.t 27) (.seq (.reg false c_gdoes_r10 [4, 5, 6]) (.seq (.reg false c_gdoes_r11 [4, 5, 6, 38]) (.cond (.t 38) (.reg false c_gdoes_r12 [5, 6]) .skip))) (.seq (.reg false c_gdoes_r13 [0, 4, 5, 6, 26, 44]) (.cond (.t 44) (.reg true c_gdoes_r14 [5, 6]) (.seq (.reg false c_gdoes_r15 [0, 4, 5, 6, 26, 55]) (.cond (.t 55) (.reg true c_gdoes_r16 [5, 6]) (.seq (.seq (.reg false c_gdoes_r17 [0, 4, 5, 6, 26, 74]) (.cond (.t 74) .skip (.seq (.reg false c_gdoes_r18 [0, 4, 5, 6, 26, 74]) (.cond (.t 74) .skip (.reg false c_gdoes_r19 [0, 4, 5, 6, 26, 74]))))) (.cond (.t 74) (.reg true c_gdoes_r20 [5, 6]) (.seq (.reg false c_gdoes_r21 [0, 4, 5, 6, 26, 83]) (.cond (.t 83) (.seq (.seq (.reg true c_gdoes_r22 [4, 5, 6, 97]) (.cond (.t 97) (.seq (.reg false c_gdoes_r23 [6, 7]) .ret) .skip)) (.reg true c_gdoes_r24 [5, 6])) (.seq (.reg false c_gdoes_r25 [0, 4, 5, 6, 26, 104]) (.cond (.t 104) (.seq (.seq (.reg false c_gdoes_r26 [4, 5, 6, 111]) (.cond (.t 111) (.seq (.reg false c_gdoes_r27 [6, 7]) .ret) .skip)) (.reg true c_gdoes_r28 [5, 6])) (.seq (.reg false c_gdoes_r29 [0, 4, 5, 6, 26, 118]) (.cond (.t 118) (.reg false c_gdoes_r30 [5, 6]) (.seq (.reg false c_gdoes_r31 [0, 4, 5, 6, 26, 124]) (.cond (.t 124) (.seq (.reg false c_gdoes_r32 [6, 7]) .ret) (.seq (.reg false c_gdoes_r33 [4, 5, 6, 132]) (.cond (.t 132) (.seq (.reg false c_gdoes_r34 [5, 6, 140]) (.cond (.t 140) (.seq (.reg false c_gdoes_r35 [6, 7]) .ret) .skip)) .skip)))))))))))))))))))) (.seq (.reg false c_gdoes_r36 [6, 7]) .ret))))
theorem comp_c_gdoes : comp Try.prog 143 ((Try.f116.body).getD .skip) = some c_gdoes.erase := by kernel_rfl
abbrev c_gcall_r1 : List SOper := [⟨(some 4), .box 56 (.t 1), none, none, 0⟩,
  ⟨(some 5), .box 155 (.t 2), none, none, 0⟩,
  ⟨(some 6), .alloc 155 [(.bool false), (.bool false), (.bool false), (.int .u64 0), (.int .i64 0), (.bool false), (.bool false), (.int .u64 0), (.int .i64 0), (.bool false), (.bool false), (.int .u64 0), (.int .i64 0), (.bool false), (.bool false), (.int .u64 0), (.int .i64 0), (.bool false), (.bool false), (.int .u64 0), (.int .i64 0), (.bool false), (.bool false), (.int .u64 0), (.int .i64 0), (.bool false), (.bool false), (.int .u64 0), (.int .i64 0), (.bool false), (.bool false), (.int .u64 0), (.int .i64 0), (.bool false), (.bool false), (.int .u64 0), (.int .i64 0), (.bool false), (.bool false), (.int .u64 0), (.int .i64 0), (.bool false), (.bool false), (.bool false), (.bool false), (.bool false), (.bool false), (.bool false), (.bool false), (.bool false), (.bool false), (.bool false), (.bool false), (.bool false), (.bool false), (.bool false), (.bool false), (.bool false), (.bool false), (.bool false), (.bool false), (.bool false), (.bool false), (.bool false), (.bool false), (.bool false), (.bool false), (.bool false), (.bool false), (.bool false), (.bool false), (.bool false), (.bool false), (.bool false), (.bool false), (.bool false), (.bool false), (.bool false), (.bool false), (.bool false), (.bool false), (.bool false), (.bool false), (.bool false), (.bool false), (.bool false), (.bool false), (.bool false), (.bool false), (.bool false), (.bool false), (.bool false), (.bool false), (.bool false), (.bool false), (.bool false), (.bool false), (.bool false), (.bool false), (.bool false), (.bool false), (.bool false), (.bool false), (.bool false), (.bool false), (.bool false), (.bool false), (.bool false), (.bool false), (.bool false), (.bool false), (.bool false), (.bool false), (.bool false), (.bool false), (.bool false), (.bool false), (.bool false), (.bool false), (.bool false), (.bool false), (.bool false), (.bool false), (.bool false), (.bool false), (.bool false), (.bool false), (.bool false), (.bool false), (.bool false), (.bool false), (.bool false), (.bool false), (.bool false), (.bool false), (.bool false), (.bool false)], none, none, 0⟩,
  ⟨(some 7), .mv (.c (.int .i64 0)), none, none, 0⟩]
abbrev c_gcall_r2 : List SOper := [⟨(some 11), .mv (.t 0), none, none, 0⟩,
  ⟨(some 12), .nilc (.t 11), none, none, 1⟩,
  ⟨(some 13), .faddr 0 (.t 12), none, none, 3⟩,
  ⟨(some 14), .faddr 1 (.t 13), none, none, 7⟩,
  ⟨(some 15), .load (.t 14), none, none, 15⟩,
  ⟨(some 16), .faddr 5 (.t 4), none, none, 0⟩,
  ⟨(some 17), .load (.t 16), none, none, 32⟩,
  ⟨(some 18), .iaddr 3 (.t 15) (.t 17), none, none, 127⟩,
  ⟨(some 19), .loads 3 (.t 18), none, none, 255⟩,
  ⟨(some 8), .alloc 123 [(.int .i64 0), (.int .i64 0), (.int .i64 0)], none, none, 0⟩,
  ⟨none, .store 3 (.t 8) (.t 19), none, none, 1023⟩]
abbrev c_gcall_r3 : List SOper := [⟨(some 20), .faddr 0 (.t 8), none, none, 0⟩,
  ⟨(some 21), .load (.t 20), none, none, 0⟩,
  ⟨(some 22), .mv (.c (.int .i64 0)), none, none, 0⟩]
abbrev c_gcall_r4 : List SOper := [⟨(some 23), .bin .lss (.t 22) (.t 21), none, none, 0⟩]
abbrev c_gcall_r5 : List SOper := [⟨(some 24), .mv (.t 22), none, none, 0⟩,
  ⟨(some 9), .mv (.t 24), none, none, 0⟩]
abbrev c_gcall_r6 : List SOper := [⟨(some 25), .faddr 2 (.t 4), none, none, 0⟩,
  ⟨(some 26), .load (.t 25), none, none, 0⟩,
  ⟨(some 27), .mv (.t 9), none, none, 0⟩,
  ⟨(some 28), .bin .add (.t 26) (.t 27), none, none, 0⟩,
  ⟨(some 29), .faddr 41 (.t 5), none, none, 0⟩,
  ⟨(some 30), .iarr 96 1 (.t 29) (.t 28), none, none, 0⟩,
  ⟨(some 31), .load (.t 30), none, none, 0⟩,
  ⟨(some 32), .un .not (.t 31), none, none, 0⟩]
abbrev c_gcall_r7 : List SOper := [⟨(some 33), .loads 137 (.t 5), none, none, 0⟩,
  ⟨none, .store 137 (.t 6) (.t 33), none, none, 0⟩,
  ⟨(some 7), .mv (.c (.int .i64 15)), none, none, 0⟩]
abbrev c_gcall_r8 : List SOper := [⟨(some 34), .bin .add (.t 22) (.c (.int .i64 1)), none, none, 0⟩,
  ⟨(some 22), .mv (.t 34), none, none, 0⟩]
def c_gcall_l1 : SCode := (.seq (.reg false c_gcall_r4 [4, 5, 6, 8, 21, 22, 23]) (.seq (.cond (.t 23) .skip (.exit 0)) (.seq (.block 1 (.seq (.reg false c_gcall_r5 [4, 5, 6, 8, 9, 21, 22]) (.seq (.reg false c_gcall_r6 [4, 5, 6, 8, 21, 22, 32]) (.cond (.t 32) (.seq (.reg false c_gcall_r7 [6, 7]) .ret) .skip)))) (.reg false c_gcall_r8 [4, 5, 6, 8, 21, 22]))))
abbrev c_gcall_r9 : List SOper := [⟨(some 35), .faddr 2 (.t 8), none, none, 0⟩,
  ⟨(some 36), .load (.t 35), none, none, 0⟩,
  ⟨(some 37), .mv (.c (.int .i64 0)), none, none, 0⟩]
abbrev c_gcall_r10 : List SOper := [⟨(some 38), .bin .lss (.t 37) (.t 36), none, none, 0⟩]
abbrev c_gcall_r11 : List SOper := [⟨(some 39), .mv (.t 37), none, none, 0⟩,
  ⟨(some 10), .mv (.t 39), none, none, 0⟩]
abbrev c_gcall_r12 : List SOper := [⟨(some 40), .faddr 3 (.t 4), none, none, 0⟩,
  ⟨(some 41), .load (.t 40), none, none, 0⟩,
  ⟨(some 42), .mv (.t 10), none, none, 0⟩,
  ⟨(some 43), .bin .add (.t 41) (.t 42), none, none, 0⟩,
  ⟨(some 44), .faddr 41 (.t 5), none, none, 0⟩,
  ⟨(some 45), .iarr 96 1 (.t 44) (.t 43), none, none, 0⟩,
  ⟨none, .store 1 (.t 45) (.c (.bool true)), none, none, 0⟩]
abbrev c_gcall_r13 : List SOper := [⟨(some 46), .bin .add (.t 37) (.c (.int .i64 1)), none, none, 0⟩,
  ⟨(some 37), .mv (.t 46), none, none, 0⟩]
def c_gcall_l2 : SCode := (.seq (.reg false c_gcall_r10 [4, 5, 6, 36, 37, 38]) (.seq (.cond (.t 38) .skip (.exit 2)) (.seq (.block 3 (.seq (.reg false c_gcall_r11 [4, 5, 6, 10, 36, 37]) (.reg false c_gcall_r12 [4, 5, 6, 36, 37]))) (.reg false c_gcall_r13 [4, 5, 6, 36, 37]))))
abbrev c_gcall_r14 : List SOper := [⟨(some 47), .faddr 1 (.t 4), none, none, 0⟩,
  ⟨(some 48), .load (.t 47), none, none, 1⟩,
  ⟨(some 49), .mv (.c .any), some ((.c (.fn (.func 143) [] [])), []), none, 0⟩,
  ⟨(some 50), .faddr 1 (.t 5), none, none, 0⟩,
  ⟨(some 51), .iarr 10 4 (.t 50) (.t 48), none, none, 15⟩,
  ⟨none, .store 4 (.t 51) (.t 49), none, none, 31⟩]
abbrev c_gcall_r15 : List SOper := [⟨(some 52), .loads 137 (.t 5), none, none, 0⟩,
  ⟨none, .store 137 (.t 6) (.t 52), none, none, 0⟩,
  ⟨(some 7), .mv (.c (.int .i64 0)), none, none, 0⟩]
def c_gcall : SCode := (.seq (.reg false c_gcall_r1 [0, 4, 5, 6]) (.seq (.reg true c_gcall_r2 [4, 5, 6, 8]) (.seq (.seq (.reg false c_gcall_r3 [4, 5, 6, 8, 21, 22]) (.block 0 (.loop c_gcall_l1))) (.seq (.seq (.reg false c_gcall_r9 [4, 5, 6, 36, 37]) (.block 2 (.loop c_gcall_l2))) (.seq (.reg true c_gcall_r14 [5, 6]) (.seq (.reg false c_gcall_r15 [6, 7]) .ret))))))
theorem comp_c_gcall : comp Try.prog 53 ((Try.f144.body).getD .skip) = some c_gcall.erase := by kernel_rfl
abbrev c_gchk_r1 : List SOper := [⟨(some 1), .box 63 (.t 0), none, none, 0⟩,
  ⟨(some 2), .alloc 65 [(.int .i64 0), (.int .i64 0)], none, none, 0⟩]
abbrev c_gchk_r2 : List SOper := [⟨(some 10), .loads 3 (.t 1), none, none, 0⟩,
  ⟨(some 11), .mv (.c .any), some ((.c (.fn (.func 52) [] [])), [(.t 10)]), none, 0⟩,
  ⟨(some 3), .alloc 65 [(.int .i64 0), (.int .i64 0)], none, none, 0⟩,
  ⟨none, .store 2 (.t 3) (.t 11), none, none, 0⟩]
abbrev c_gchk_r3 : List SOper := [⟨(some 12), .faddr 0 (.t 3), none, none, 0⟩,
  ⟨(some 13), .load (.t 12), none, none, 0⟩,
  ⟨(some 14), .bin .neq (.t 13) (.c (.int .i64 0)), none, none, 0⟩]
abbrev c_gchk_r4 : List SOper := [⟨(some 15), .loads 2 (.t 3), none, none, 0⟩,
  ⟨none, .store 2 (.t 2) (.t 15), none, none, 0⟩]
abbrev c_gchk_r5 : List SOper := [⟨(some 16), .loads 3 (.t 1), none, none, 0⟩,
  ⟨(some 17), .faddr 2 (.t 1), none, none, 0⟩,
  ⟨(some 18), .load (.t 17), none, none, 2⟩,
  ⟨(some 19), .len false (.t 18), none, none, 6⟩,
  ⟨(some 20), .bin .add (.t 19) (.c (.int .i64 1)), none, none, 14⟩,
  ⟨(some 21), .mkslice 155 137 344 [(.bool false), (.bool false), (.bool false), (.int .u64 0), (.int .i64 0), (.bool false), (.bool false), (.int .u64 0), (.int .i64 0), (.bool false), (.bool false), (.int .u64 0), (.int .i64 0), (.bool false), (.bool false), (.int .u64 0), (.int .i64 0), (.bool false), (.bool false), (.int .u64 0), (.int .i64 0), (.bool false), (.bool false), (.int .u64 0), (.int .i64 0), (.bool false), (.bool false), (.int .u64 0), (.int .i64 0), (.bool false), (.bool false), (.int .u64 0), (.int .i64 0), (.bool false), (.bool false), (.int .u64 0), (.int .i64 0), (.bool false), (.bool false), (.int .u64 0), (.int .i64 0), (.bool false), (.bool false), (.bool false), (.bool false), (.bool false), (.bool false), (.bool false), (.bool false), (.bool false), (.bool false), (.bool false), (.bool false), (.bool false), (.bool false), (.bool false), (.bool false), (.bool false), (.bool false), (.bool false), (.bool false), (.bool false), (.bool false), (.bool false), (.bool false), (.bool false), (.bool false), (.bool false), (.bool false), (.bool false), (.bool false), (.bool false), (.bool false), (.bool false), (.bool false), (.bool false), (.bool false), (.bool false), (.bool false), (.bool false), (.bool false), (.bool false), (.bool false), (.bool false), (.bool false), (.bool false), (.bool false), (.bool false), (.bool false), (.bool false), (.bool false), (.bool false), (.bool false), (.bool false), (.bool false), (.bool false), (.bool false), (.bool false), (.bool false), (.bool false), (.bool false), (.bool false), (.bool false), (.bool false), (.bool false), (.bool false), (.bool false), (.bool false), (.bool false), (.bool false), (.bool false), (.bool false), (.bool false), (.bool false), (.bool false), (.bool false), (.bool false), (.bool false), (.bool false), (.bool false), (.bool false), (.bool false), (.bool false), (.bool false), (.bool false), (.bool false), (.bool false), (.bool false), (.bool false), (.bool false), (.bool false), (.bool false), (.bool false), (.bool false), (.bool false), (.bool false), (.bool false)] (.t 20) (.t 20), none, none, 30⟩,
  ⟨(some 22), .build [(.int .i64 0), .nilsl, .nilsl, .nilsl] [(0, 3, (.t 16)), (3, 1, (.t 21))], none, none, 63⟩,
  ⟨(some 23), .box 149 (.t 22), none, none, 127⟩,
  ⟨(some 4), .mv (.t 23), none, none, 255⟩]
abbrev c_gchk_r6 : List SOper := [⟨(some 24), .mv (.t 4), none, none, 0⟩,
  ⟨(some 25), .nilc (.t 24), none, none, 0⟩,
  ⟨(some 26), .faddr 3 (.t 25), none, none, 0⟩,
  ⟨(some 27), .load (.t 26), none, none, 0⟩,
  ⟨(some 28), .iaddr 137 (.t 27) (.c (.int .i64 0)), none, none, 0⟩,
  ⟨(some 29), .faddr 0 (.t 28), none, none, 0⟩,
  ⟨none, .store 1 (.t 29) (.c (.bool true)), none, none, 0⟩]
abbrev c_gchk_r7 : List SOper := [⟨(some 30), .mv (.c (.int .i64 0)), none, none, 0⟩]
abbrev c_gchk_r8 : List SOper := [⟨(some 31), .bin .lss (.t 30) (.c (.int .i64 10)), none, none, 0⟩]
abbrev c_gchk_r9 : List SOper := [⟨(some 32), .mv (.t 30), none, none, 0⟩,
  ⟨(some 5), .mv (.t 32), none, none, 0⟩]
abbrev c_gchk_r10 : List SOper := [⟨(some 33), .mv (.t 4), none, none, 0⟩,
  ⟨(some 34), .nilc (.t 33), none, none, 0⟩,
  ⟨(some 35), .faddr 3 (.t 34), none, none, 0⟩,
  ⟨(some 36), .load (.t 35), none, none, 0⟩,
  ⟨(some 37), .mv (.t 5), none, none, 0⟩,
  ⟨(some 38), .iaddr 137 (.t 36) (.c (.int .i64 0)), none, none, 0⟩,
  ⟨(some 39), .faddr 1 (.t 38), none, none, 0⟩,
  ⟨(some 40), .iarr 10 4 (.t 39) (.t 37), none, none, 0⟩,
  ⟨(some 41), .faddr 3 (.t 40), none, none, 0⟩,
  ⟨none, .store 1 (.t 41) (.c (.int .i64 (-1))), none, none, 0⟩]
abbrev c_gchk_r11 : List SOper := [⟨(some 42), .bin .add (.t 30) (.c (.int .i64 1)), none, none, 0⟩,
  ⟨(some 30), .mv (.t 42), none, none, 0⟩]
def c_gchk_l1 : SCode := (.seq (.reg false c_gchk_r8 [1, 2, 4, 30, 31]) (.seq (.cond (.t 31) .skip (.exit 0)) (.seq (.block 1 (.seq (.reg false c_gchk_r9 [1, 2, 4, 5, 30]) (.reg false c_gchk_r10 [1, 2, 4, 30]))) (.reg false c_gchk_r11 [1, 2, 4, 30]))))
abbrev c_gchk_r12 : List SOper := [⟨(some 43), .faddr 2 (.t 1), none, none, 0⟩,
  ⟨(some 44), .load (.t 43), none, none, 0⟩,
  ⟨(some 45), .len false (.t 44), none, none, 0⟩,
  ⟨(some 46), .mv (.c (.int .i64 0)), none, none, 0⟩]
abbrev c_gchk_r13 : List SOper := [⟨(some 47), .bin .lss (.t 46) (.t 45), none, none, 0⟩]
abbrev c_gchk_r14 : List SOper := [⟨(some 48), .mv (.t 46), none, none, 0⟩,
  ⟨(some 49), .iaddr 6 (.t 44) (.t 46), none, none, 0⟩,
  ⟨(some 50), .loads 6 (.t 49), none, none, 0⟩,
  ⟨(some 7), .alloc 56 [(.int .i64 0), (.int .i64 0), (.int .i64 0), (.int .i64 0), (.int .i64 0), (.int .u64 0)], none, none, 0⟩,
  ⟨(some 6), .mv (.t 48), none, none, 0⟩,
  ⟨none, .store 6 (.t 7) (.t 50), none, none, 0⟩]
abbrev c_gchk_r15 : List SOper := [⟨(some 51), .mv (.t 4), none, none, 0⟩,
  ⟨(some 52), .nilc (.t 51), none, none, 0⟩,
  ⟨(some 53), .faddr 3 (.t 52), none, none, 0⟩,
  ⟨(some 54), .load (.t 53), none, none, 0⟩,
  ⟨(some 55), .mv (.t 6), none, none, 0⟩,
  ⟨(some 56), .iaddr 137 (.t 54) (.t 55), none, none, 0⟩,
  ⟨(some 57), .faddr 0 (.t 56), none, none, 0⟩,
  ⟨(some 58), .load (.t 57), none, none, 0⟩,
  ⟨(some 59), .un .not (.t 58), none, none, 0⟩]
abbrev c_gchk_r16 : List SOper := [⟨(some 61), .mv (.t 4), none, none, 0⟩,
  ⟨(some 62), .loads 6 (.t 7), none, none, 0⟩,
  ⟨(some 63), .mv (.t 4), none, none, 0⟩,
  ⟨(some 64), .nilc (.t 63), none, none, 4⟩,
  ⟨(some 65), .faddr 3 (.t 64), none, none, 12⟩,
  ⟨(some 66), .load (.t 65), none, none, 28⟩,
  ⟨(some 67), .mv (.t 6), none, none, 0⟩,
  ⟨(some 68), .iaddr 137 (.t 66) (.t 67), none, none, 124⟩,
  ⟨(some 69), .loads 137 (.t 68), none, none, 252⟩,
  ⟨(some 70), .mv (.c .any), some ((.c (.fn (.func 116) [] [])), [(.t 61), (.t 62), (.t 69)]), none, 511⟩,
  ⟨(some 60), .mv (.t 70), none, none, 1023⟩,
  ⟨(some 71), .extr (.t 60) 0, none, none, 2047⟩,
  ⟨(some 72), .extr (.t 60) 1, none, none, 2047⟩,
  ⟨(some 8), .alloc 155 [(.bool false), (.bool false), (.bool false), (.int .u64 0), (.int .i64 0), (.bool false), (.bool false), (.int .u64 0), (.int .i64 0), (.bool false), (.bool false), (.int .u64 0), (.int .i64 0), (.bool false), (.bool false), (.int .u64 0), (.int .i64 0), (.bool false), (.bool false), (.int .u64 0), (.int .i64 0), (.bool false), (.bool false), (.int .u64 0), (.int .i64 0), (.bool false), (.bool false), (.int .u64 0), (.int .i64 0), (.bool false), (.bool false), (.int .u64 0), (.int .i64 0), (.bool false), (.bool false), (.int .u64 0), (.int .i64 0), (.bool false), (.bool false), (.int .u64 0), (.int .i64 0), (.bool false), (.bool false), (.bool false), (.bool false), (.bool false), (.bool false), (.bool false), (.bool false), (.bool false), (.bool false), (.bool false), (.bool false), (.bool false), (.bool false), (.bool false), (.bool false), (.bool false), (.bool false), (.bool false), (.bool false), (.bool false), (.bool false), (.bool false), (.bool false), (.bool false), (.bool false), (.bool false), (.bool false), (.bool false), (.bool false), (.bool false), (.bool false), (.bool false), (.bool false), (.bool false), (.bool false), (.bool false), (.bool false), (.bool false), (.bool false), (.bool false), (.bool false), (.bool false), (.bool false), (.bool false), (.bool false), (.bool false), (.bool false), (.bool false), (.bool false), (.bool false), (.bool false), (.bool false), (.bool false), (.bool false), (.bool false), (.bool false), (.bool false), (.bool false), (.bool false), (.bool false), (.bool false), (.bool false), (.bool false), (.bool false), (.bool false), (.bool false), (.bool false), (.bool false), (.bool false), (.bool false), (.bool false), (.bool false), (.bool false), (.bool false), (.bool false), (.bool false), (.bool false), (.bool false), (.bool false), (.bool false), (.bool false), (.bool false), (.bool false), (.bool false), (.bool false), (.bool false), (.bool false), (.bool false), (.bool false), (.bool false), (.bool false), (.bool false), (.bool false), (.bool false), (.bool false)], none, none, 0⟩,
  ⟨none, .store 137 (.t 8) (.t 71), none, none, 12287⟩,
  ⟨(some 9), .mv (.t 72), none, none, 32767⟩]
abbrev c_gchk_r17 : List SOper := [⟨(some 73), .mv (.t 9), none, none, 0⟩,
  ⟨(some 74), .bin .neq (.t 73) (.c (.int .i64 0)), none, none, 0⟩]
abbrev c_gchk_r18 : List SOper := [⟨(some 75), .mv (.t 9), none, none, 0⟩,
  ⟨(some 76), .mv (.t 6), none, none, 0⟩,
  ⟨(some 77), .build [(.int .i64 0), (.int .i64 0)] [(0, 1, (.t 75)), (1, 1, (.t 76))], none, none, 0⟩,
  ⟨none, .store 2 (.t 2) (.t 77), none, none, 0⟩]
abbrev c_gchk_r19 : List SOper := [⟨(some 78), .faddr 0 (.t 7), none, none, 0⟩,
  ⟨(some 79), .load (.t 78), none, none, 0⟩]
abbrev c_gchk_r20 : List SOper := [⟨(some 81), .bin .eql (.t 79) (.c (.int .i64 12)), none, none, 0⟩,
  ⟨(some 80), .mv (.t 81), none, none, 0⟩]
abbrev c_gchk_r21 : List SOper := [⟨(some 82), .bin .eql (.t 79) (.c (.int .i64 9)), none, none, 0⟩,
  ⟨(some 80), .mv (.t 82), none, none, 0⟩]
abbrev c_gchk_r22 : List SOper := [⟨(some 83), .bin .eql (.t 79) (.c (.int .i64 10)), none, none, 0⟩,
  ⟨(some 80), .mv (.t 83), none, none, 0⟩]
abbrev c_gchk_r23 : List SOper := [⟨(some 84), .bin .eql (.t 79) (.c (.int .i64 11)), none, none, 0⟩,
  ⟨(some 80), .mv (.t 84), none, none, 0⟩]
abbrev c_gchk_r24 : List SOper := [⟨(some 85), .mv (.t 4), none, none, 0⟩,
  ⟨(some 86), .nilc (.t 85), none, none, 1⟩,
  ⟨(some 87), .faddr 3 (.t 86), none, none, 3⟩,
  ⟨(some 88), .load (.t 87), none, none, 7⟩,
  ⟨(some 89), .mv (.t 6), none, none, 0⟩,
  ⟨(some 90), .bin .add (.t 89) (.c (.int .i64 1)), none, none, 16⟩,
  ⟨(some 91), .faddr 4 (.t 7), none, none, 0⟩,
  ⟨(some 92), .load (.t 91), none, none, 64⟩,
  ⟨(some 93), .bin .add (.t 90) (.t 92), none, none, 240⟩,
  ⟨(some 94), .mv (.t 4), none, none, 0⟩,
  ⟨(some 95), .nilc (.t 94), none, none, 512⟩,
  ⟨(some 96), .faddr 3 (.t 95), none, none, 1536⟩,
  ⟨(some 97), .load (.t 96), none, none, 3584⟩,
  ⟨(some 98), .mv (.t 6), none, none, 0⟩,
  ⟨(some 99), .bin .add (.t 98) (.c (.int .i64 1)), none, none, 8192⟩,
  ⟨(some 100), .faddr 4 (.t 7), none, none, 0⟩,
  ⟨(some 101), .load (.t 100), none, none, 32768⟩,
  ⟨(some 102), .bin .add (.t 99) (.t 101), none, none, 122880⟩,
  ⟨(some 103), .iaddr 137 (.t 97) (.t 102), none, none, 261632⟩,
  ⟨(some 104), .loads 137 (.t 103), none, none, 523776⟩,
  ⟨(some 105), .loads 137 (.t 8), none, none, 0⟩,
  ⟨(some 106), .mv (.c .any), some ((.c (.fn (.func 117) [] [])), [(.t 104), (.t 105)]), none, 2096640⟩,
  ⟨(some 107), .iaddr 137 (.t 88) (.t 93), none, none, 4194303⟩,
  ⟨none, .store 137 (.t 107) (.t 106), none, none, 8388607⟩]
abbrev c_gchk_r25 : List SOper := [⟨(some 108), .faddr 0 (.t 7), none, none, 0⟩,
  ⟨(some 109), .load (.t 108), none, none, 0⟩,
  ⟨(some 110), .bin .eql (.t 109) (.c (.int .i64 9)), none, none, 0⟩]
abbrev c_gchk_r26 : List SOper := [⟨(some 111), .faddr 1 (.t 7), none, none, 0⟩,
  ⟨(some 112), .load (.t 111), none, none, 1⟩,
  ⟨(some 113), .faddr 1 (.t 7), none, none, 0⟩,
  ⟨(some 114), .load (.t 113), none, none, 4⟩,
  ⟨(some 115), .faddr 1 (.t 8), none, none, 0⟩,
  ⟨(some 116), .iarr 10 4 (.t 115) (.t 114), none, none, 28⟩,
  ⟨(some 117), .faddr 3 (.t 116), none, none, 60⟩,
  ⟨(some 118), .load (.t 117), none, none, 124⟩,
  ⟨(some 119), .faddr 5 (.t 7), none, none, 0⟩,
  ⟨(some 120), .load (.t 119), none, none, 256⟩,
  ⟨(some 121), .conv .i64 (.t 120), none, none, 768⟩,
  ⟨(some 122), .mm true (.t 118) (.t 121), none, none, 2044⟩,
  ⟨(some 123), .faddr 1 (.t 8), none, none, 0⟩,
  ⟨(some 124), .iarr 10 4 (.t 123) (.t 112), none, none, 8191⟩,
  ⟨(some 125), .faddr 3 (.t 124), none, none, 16383⟩,
  ⟨none, .store 1 (.t 125) (.t 122), none, none, 32767⟩]
abbrev c_gchk_r27 : List SOper := [⟨(some 126), .faddr 0 (.t 7), none, none, 0⟩,
  ⟨(some 127), .load (.t 126), none, none, 0⟩,
  ⟨(some 128), .bin .neq (.t 127) (.c (.int .i64 12)), none, none, 0⟩,
  ⟨(some 129), .mv (.t 128), none, none, 0⟩,
  ⟨(some 130), .faddr 0 (.t 7), none, (some (129, true)), 0⟩,
  ⟨(some 131), .load (.t 130), none, (some (129, true)), 0⟩,
  ⟨(some 132), .mv (.c .any), some ((.c (.fn (.func 54) [] [])), [(.t 131)]), (some (129, true)), 0⟩,
  ⟨(some 133), .un .not (.t 132), none, (some (129, true)), 0⟩,
  ⟨(some 134), .pick (.t 129) (.t 133) (.c (.bool false)), none, none, 0⟩]
abbrev c_gchk_r28 : List SOper := [⟨(some 135), .mv (.t 4), none, none, 0⟩,
  ⟨(some 136), .nilc (.t 135), none, none, 1⟩,
  ⟨(some 137), .faddr 3 (.t 136), none, none, 3⟩,
  ⟨(some 138), .load (.t 137), none, none, 7⟩,
  ⟨(some 139), .mv (.t 6), none, none, 0⟩,
  ⟨(some 140), .bin .add (.t 139) (.c (.int .i64 1)), none, none, 16⟩,
  ⟨(some 141), .mv (.t 4), none, none, 0⟩,
  ⟨(some 142), .nilc (.t 141), none, none, 64⟩,
  ⟨(some 143), .faddr 3 (.t 142), none, none, 192⟩,
  ⟨(some 144), .load (.t 143), none, none, 448⟩,
  ⟨(some 145), .mv (.t 6), none, none, 0⟩,
  ⟨(some 146), .bin .add (.t 145) (.c (.int .i64 1)), none, none, 1024⟩,
  ⟨(some 147), .iaddr 137 (.t 144) (.t 146), none, none, 4032⟩,
  ⟨(some 148), .loads 137 (.t 147), none, none, 8128⟩,
  ⟨(some 149), .loads 137 (.t 8), none, none, 0⟩,
  ⟨(some 150), .mv (.c .any), some ((.c (.fn (.func 117) [] [])), [(.t 148), (.t 149)]), none, 32704⟩,
  ⟨(some 151), .iaddr 137 (.t 138) (.t 140), none, none, 65535⟩,
  ⟨none, .store 137 (.t 151) (.t 150), none, none, 131071⟩]
abbrev c_gchk_r29 : List SOper := [⟨(some 152), .bin .add (.t 46) (.c (.int .i64 1)), none, none, 0⟩,
  ⟨(some 46), .mv (.t 152), none, none, 0⟩]
def c_gchk_l2 : SCode := (.seq (.reg false c_gchk_r13 [2, 4, 44, 45, 46, 47]) (.seq (.cond (.t 47) .skip (.exit 2)) (.seq (.block 3 (.seq (.reg false c_gchk_r14 [2, 4, 6, 7, 44, 45, 46]) (.seq (.seq (.reg false c_gchk_r15 [2, 4, 6, 7, 44, 45, 46, 59]) (.cond (.t 59) (.exit 3) .skip)) (.seq (.reg true c_gchk_r16 [2, 4, 6, 7, 8, 9, 44, 45, 46]) (.seq (.seq (.reg false c_gchk_r17 [2, 4, 6, 7, 8, 9, 44, 45, 46, 74]) (.cond (.t 74) (.seq (.reg false c_gchk_r18 [2]) .ret) .skip)) (.seq (.seq (.reg false c_gchk_r19 [2, 4, 6, 7, 8, 44, 45, 46, 79]) (.block 4 (.seq (.seq (.reg false c_gchk_r20 [2, 4, 6, 7, 8, 44, 45, 46, 79, 80]) (.cond (.t 80) .skip (.seq (.reg false c_gchk_r21 [2, 4, 6, 7, 8, 44, 45, 46, 79, 80]) (.cond (.t 80) .skip (.seq (.reg false c_gchk_r22 [2, 4, 6, 7, 8, 44, 45, 46, 79, 80]) (.cond (.t 80) .skip (.reg false c_gchk_r23 [2, 4, 6, 7, 8, 44, 45, 46, 80]))))))) (.cond (.t 80) (.reg true c_gchk_r24 [2, 4, 6, 7, 8, 44, 45, 46]) .skip)))) (.seq (.seq (.reg false c_gchk_r25 [2, 4, 6, 7, 8, 44, 45, 46, 110]) (.cond (.t 110) (.reg true c_gchk_r26 [2, 4, 6, 7, 8, 44, 45, 46]) .skip)) (.seq (.reg false c_gchk_r27 [2, 4, 6, 8, 44, 45, 46, 134]) (.cond (.t 134) (.reg true c_gchk_r28 [2, 4, 44, 45, 46]) .skip))))))))) (.reg false c_gchk_r29 [2, 4, 44, 45, 46]))))
abbrev c_gchk_r30 : List SOper := [⟨(some 153), .build [(.int .i64 0), (.int .i64 0)] [], none, none, 0⟩,
  ⟨none, .store 2 (.t 2) (.t 153), none, none, 0⟩]
def c_gchk : SCode := (.seq (.reg false c_gchk_r1 [1, 2]) (.seq (.seq (.reg false c_gchk_r2 [1, 2, 3]) (.seq (.reg false c_gchk_r3 [1, 2, 3, 14]) (.cond (.t 14) (.seq (.reg false c_gchk_r4 [2]) .ret) .skip))) (.seq (.reg true c_gchk_r5 [1, 2, 4]) (.seq (.reg false c_gchk_r6 [1, 2, 4]) (.seq (.seq (.reg false c_gchk_r7 [1, 2, 4, 30]) (.block 0 (.loop c_gchk_l1))) (.seq (.seq (.reg false c_gchk_r12 [2, 4, 44, 45, 46]) (.block 2 (.loop c_gchk_l2))) (.seq (.reg false c_gchk_r30 [2]) .ret)))))))
theorem comp_c_gchk : comp Try.prog 154 ((Try.f68.body).getD .skip) = some c_gchk.erase := by kernel_rfl
abbrev c_nothing_r1 : List SOper := [⟨(some 2), .alloc 162 [(.bool false), .nilsl, .nilsl, .nilsl, .nilsl, .nilsl], none, none, 0⟩]
abbrev c_nothing_r2 : List SOper := [⟨(some 5), .mkslice 4 1 1 [(.bool false)] (.c (.int .i64 10)) (.c (.int .i64 10)), none, none, 0⟩,
  ⟨(some 6), .mkslice 4 1 1 [(.bool false)] (.c (.int .i64 10)) (.c (.int .i64 10)), none, none, 0⟩,
  ⟨(some 7), .mkslice 23 1 8 [(.int .u64 0)] (.c (.int .i64 10)) (.c (.int .i64 10)), none, none, 0⟩,
  ⟨(some 8), .mv (.t 0), none, none, 0⟩,
  ⟨(some 9), .mkslice 4 1 1 [(.bool false)] (.t 8) (.t 8), none, none, 8⟩,
  ⟨(some 10), .build [(.bool false), .nilsl, .nilsl, .nilsl, .nilsl, .nilsl] [(0, 1, (.c (.bool true))), (1, 1, (.t 5)), (2, 1, (.t 6)), (3, 1, (.t 7)), (5, 1, (.t 9))], none, none, 31⟩,
  ⟨(some 3), .alloc 162 [(.bool false), .nilsl, .nilsl, .nilsl, .nilsl, .nilsl], none, none, 0⟩,
  ⟨none, .store 6 (.t 3) (.t 10), none, none, 127⟩]
abbrev c_nothing_r3 : List SOper := [⟨(some 4), .mv (.c (.int .i64 0)), none, none, 0⟩]
abbrev c_nothing_r4 : List SOper := [⟨(some 11), .mv (.t 4), none, none, 0⟩,
  ⟨(some 12), .bin .lss (.t 11) (.c (.int .i64 10)), none, none, 0⟩]
abbrev c_nothing_r5 : List SOper := [⟨(some 15), .faddr 4 (.t 3), none, none, 0⟩,
  ⟨(some 16), .load (.t 15), none, none, 0⟩,
  ⟨(some 17), .mkrow 3 1 1 [(.int .i64 0)] [(0, (.c (.int .i64 (-1))))], none, none, 0⟩,
  ⟨(some 18), .app 3 1 8 (.t 16) (.t 17), none, none, 0⟩,
  ⟨(some 19), .faddr 4 (.t 3), none, none, 0⟩,
  ⟨none, .store 1 (.t 19) (.t 18), none, none, 0⟩]
abbrev c_nothing_r6 : List SOper := [⟨(some 13), .mv (.t 4), none, none, 0⟩,
  ⟨(some 14), .bin .add (.t 13) (.c (.int .i64 1)), none, none, 0⟩,
  ⟨(some 4), .mv (.t 14), none, none, 0⟩]
def c_nothing_l1 : SCode := (.seq (.seq (.reg false c_nothing_r4 [2, 3, 4, 12]) (.cond (.t 12) .skip (.exit 0))) (.seq (.block 1 (.reg false c_nothing_r5 [2, 3, 4])) (.reg false c_nothing_r6 [2, 3, 4])))
abbrev c_nothing_r7 : List SOper := [⟨(some 20), .loads 6 (.t 3), none, none, 0⟩,
  ⟨none, .store 6 (.t 2) (.t 20), none, none, 0⟩]
def c_nothing : SCode := (.seq (.reg false c_nothing_r1 [0, 2]) (.seq (.reg true c_nothing_r2 [2, 3]) (.seq (.seq (.reg false c_nothing_r3 [2, 3, 4]) (.block 0 (.loop c_nothing_l1))) (.seq (.reg false c_nothing_r7 [2]) .ret))))
theorem comp_c_nothing : comp Try.prog 21 ((Try.f118.body).getD .skip) = some c_nothing.erase := by kernel_rfl
abbrev c_okn_r1 : List SOper := [⟨(some 1), .box 162 (.t 0), none, none, 0⟩,
  ⟨(some 2), .alloc 162 [(.bool false), .nilsl, .nilsl, .nilsl, .nilsl, .nilsl], none, none, 0⟩]
abbrev c_okn_r2 : List SOper := [⟨(some 3), .mv (.c .nilsl), none, none, 0⟩,
  ⟨(some 4), .mv (.c .nilsl), none, none, 0⟩,
  ⟨(some 5), .mv (.c .nilsl), none, none, 0⟩]
abbrev c_okn_r3 : List SOper := [⟨(some 6), .mv (.c .nilsl), none, none, 0⟩]
abbrev c_okn_r4 : List SOper := [⟨(some 7), .mv (.c .nilsl), none, none, 0⟩]
abbrev c_okn_r5 : List SOper := [⟨(some 8), .faddr 0 (.t 1), none, none, 0⟩,
  ⟨(some 9), .load (.t 8), none, none, 1⟩,
  ⟨(some 10), .mv (.t 3), none, none, 0⟩,
  ⟨(some 11), .faddr 1 (.t 1), none, none, 0⟩,
  ⟨(some 12), .load (.t 11), none, none, 8⟩,
  ⟨(some 13), .app 4 1 1 (.t 10) (.t 12), none, none, 28⟩,
  ⟨(some 14), .mv (.t 4), none, none, 0⟩,
  ⟨(some 15), .faddr 2 (.t 1), none, none, 0⟩,
  ⟨(some 16), .load (.t 15), none, none, 128⟩,
  ⟨(some 17), .app 4 1 1 (.t 14) (.t 16), none, none, 508⟩,
  ⟨(some 18), .mv (.t 6), none, none, 0⟩,
  ⟨(some 19), .faddr 3 (.t 1), none, none, 0⟩,
  ⟨(some 20), .load (.t 19), none, none, 2048⟩,
  ⟨(some 21), .app 23 1 8 (.t 18) (.t 20), none, none, 8188⟩,
  ⟨(some 22), .mv (.t 7), none, none, 0⟩,
  ⟨(some 23), .faddr 4 (.t 1), none, none, 0⟩,
  ⟨(some 24), .load (.t 23), none, none, 32768⟩,
  ⟨(some 25), .app 3 1 8 (.t 22) (.t 24), none, none, 131068⟩,
  ⟨(some 26), .mv (.t 5), none, none, 0⟩,
  ⟨(some 27), .faddr 5 (.t 1), none, none, 0⟩,
  ⟨(some 28), .load (.t 27), none, none, 524288⟩,
  ⟨(some 29), .app 4 1 1 (.t 26) (.t 28), none, none, 2097148⟩,
  ⟨(some 30), .build [(.bool false), .nilsl, .nilsl, .nilsl, .nilsl, .nilsl] [(0, 1, (.t 9)), (1, 1, (.t 13)), (2, 1, (.t 17)), (3, 1, (.t 21)), (4, 1, (.t 25)), (5, 1, (.t 29))], none, none, 4194303⟩,
  ⟨none, .store 6 (.t 2) (.t 30), none, none, 8388607⟩]
def c_okn : SCode := (.seq (.reg false c_okn_r1 [1, 2]) (.seq (.reg false c_okn_r2 [1, 2, 3, 4, 5]) (.seq (.reg false c_okn_r3 [1, 2, 3, 4, 5, 6]) (.seq (.reg false c_okn_r4 [1, 2, 3, 4, 5, 6, 7]) (.seq (.reg true c_okn_r5 [2]) .ret)))))
theorem comp_c_okn : comp Try.prog 31 ((Try.f147.body).getD .skip) = some c_okn.erase := by kernel_rfl
abbrev c_meet_r1 : List SOper := [⟨(some 2), .box 162 (.t 0), none, none, 0⟩,
  ⟨(some 3), .box 162 (.t 1), none, none, 0⟩,
  ⟨(some 4), .alloc 162 [(.bool false), .nilsl, .nilsl, .nilsl, .nilsl, .nilsl], none, none, 0⟩]
abbrev c_meet_r2 : List SOper := [⟨(some 8), .faddr 0 (.t 2), none, none, 0⟩,
  ⟨(some 9), .load (.t 8), none, none, 0⟩,
  ⟨(some 10), .un .not (.t 9), none, none, 0⟩]
abbrev c_meet_r3 : List SOper := [⟨(some 11), .loads 6 (.t 3), none, none, 0⟩,
  ⟨(some 12), .mv (.c .any), some ((.c (.fn (.func 147) [] [])), [(.t 11)]), none, 0⟩,
  ⟨none, .store 6 (.t 4) (.t 12), none, none, 0⟩]
abbrev c_meet_r4 : List SOper := [⟨(some 13), .loads 6 (.t 2), none, none, 0⟩,
  ⟨(some 14), .mv (.c .any), some ((.c (.fn (.func 147) [] [])), [(.t 13)]), none, 0⟩,
  ⟨(some 5), .alloc 162 [(.bool false), .nilsl, .nilsl, .nilsl, .nilsl, .nilsl], none, none, 0⟩,
  ⟨none, .store 6 (.t 5) (.t 14), none, none, 0⟩]
abbrev c_meet_r5 : List SOper := [⟨(some 6), .mv (.c (.int .i64 0)), none, none, 0⟩]
abbrev c_meet_r6 : List SOper := [⟨(some 15), .mv (.t 6), none, none, 0⟩,
  ⟨(some 16), .bin .lss (.t 15) (.c (.int .i64 10)), none, none, 0⟩]
abbrev c_meet_r7 : List SOper := [⟨(some 19), .faddr 1 (.t 5), none, none, 0⟩,
  ⟨(some 20), .load (.t 19), none, none, 1⟩,
  ⟨(some 21), .mv (.t 6), none, none, 0⟩,
  ⟨(some 22), .faddr 1 (.t 2), none, none, 0⟩,
  ⟨(some 23), .load (.t 22), none, none, 8⟩,
  ⟨(some 24), .mv (.t 6), none, none, 0⟩,
  ⟨(some 25), .iaddr 1 (.t 23) (.t 24), none, none, 56⟩,
  ⟨(some 26), .load (.t 25), none, none, 120⟩,
  ⟨(some 27), .mv (.t 26), none, none, 248⟩,
  ⟨(some 28), .faddr 1 (.t 3), none, (some (27, true)), 504⟩,
  ⟨(some 29), .load (.t 28), none, (some (27, true)), 1016⟩,
  ⟨(some 30), .mv (.t 6), none, (some (27, true)), 504⟩,
  ⟨(some 31), .iaddr 1 (.t 29) (.t 30), none, (some (27, true)), 4088⟩,
  ⟨(some 32), .load (.t 31), none, (some (27, true)), 8184⟩,
  ⟨(some 33), .pick (.t 27) (.t 32) (.c (.bool false)), none, none, 16376⟩,
  ⟨(some 34), .iaddr 1 (.t 20) (.t 21), none, none, 32767⟩,
  ⟨none, .store 1 (.t 34) (.t 33), none, none, 65535⟩]
abbrev c_meet_r8 : List SOper := [⟨(some 35), .faddr 2 (.t 5), none, none, 0⟩,
  ⟨(some 36), .load (.t 35), none, none, 1⟩,
  ⟨(some 37), .mv (.t 6), none, none, 0⟩,
  ⟨(some 38), .faddr 1 (.t 5), none, none, 0⟩,
  ⟨(some 39), .load (.t 38), none, none, 8⟩,
  ⟨(some 40), .mv (.t 6), none, none, 0⟩,
  ⟨(some 41), .iaddr 1 (.t 39) (.t 40), none, none, 56⟩,
  ⟨(some 42), .load (.t 41), none, none, 120⟩,
  ⟨(some 43), .mv (.t 42), none, none, 248⟩,
  ⟨(some 44), .faddr 2 (.t 2), none, (some (43, true)), 504⟩,
  ⟨(some 45), .load (.t 44), none, (some (43, true)), 1016⟩,
  ⟨(some 46), .mv (.t 6), none, (some (43, true)), 504⟩,
  ⟨(some 47), .iaddr 1 (.t 45) (.t 46), none, (some (43, true)), 4088⟩,
  ⟨(some 48), .load (.t 47), none, (some (43, true)), 8184⟩,
  ⟨(some 49), .pick (.t 43) (.t 48) (.c (.bool false)), none, none, 16376⟩,
  ⟨(some 50), .mv (.t 49), none, none, 32760⟩,
  ⟨(some 51), .faddr 2 (.t 3), none, (some (50, true)), 65528⟩,
  ⟨(some 52), .load (.t 51), none, (some (50, true)), 131064⟩,
  ⟨(some 53), .mv (.t 6), none, (some (50, true)), 65528⟩,
  ⟨(some 54), .iaddr 1 (.t 52) (.t 53), none, (some (50, true)), 524280⟩,
  ⟨(some 55), .load (.t 54), none, (some (50, true)), 1048568⟩,
  ⟨(some 56), .pick (.t 50) (.t 55) (.c (.bool false)), none, none, 2097144⟩,
  ⟨(some 57), .mv (.t 56), none, none, 4194296⟩,
  ⟨(some 58), .faddr 3 (.t 2), none, (some (57, true)), 8388600⟩,
  ⟨(some 59), .load (.t 58), none, (some (57, true)), 16777208⟩,
  ⟨(some 60), .mv (.t 6), none, (some (57, true)), 8388600⟩,
  ⟨(some 61), .iaddr 1 (.t 59) (.t 60), none, (some (57, true)), 67108856⟩,
  ⟨(some 62), .load (.t 61), none, (some (57, true)), 134217720⟩,
  ⟨(some 63), .faddr 3 (.t 3), none, (some (57, true)), 8388600⟩,
  ⟨(some 64), .load (.t 63), none, (some (57, true)), 276824056⟩,
  ⟨(some 65), .mv (.t 6), none, (some (57, true)), 8388600⟩,
  ⟨(some 66), .iaddr 1 (.t 64) (.t 65), none, (some (57, true)), 1887436792⟩,
  ⟨(some 67), .load (.t 66), none, (some (57, true)), 4034920440⟩,
  ⟨(some 68), .bin .eql (.t 62) (.t 67), none, (some (57, true)), 8589934584⟩,
  ⟨(some 69), .pick (.t 57) (.t 68) (.c (.bool false)), none, none, 17179869176⟩,
  ⟨(some 70), .iaddr 1 (.t 36) (.t 37), none, none, 34359738367⟩,
  ⟨none, .store 1 (.t 70) (.t 69), none, none, 68719476735⟩]
abbrev c_meet_r9 : List SOper := [⟨(some 71), .faddr 4 (.t 3), none, none, 0⟩,
  ⟨(some 72), .load (.t 71), none, none, 1⟩,
  ⟨(some 73), .mv (.t 6), none, none, 0⟩,
  ⟨(some 74), .iaddr 1 (.t 72) (.t 73), none, none, 7⟩,
  ⟨(some 75), .load (.t 74), none, none, 15⟩,
  ⟨(some 76), .faddr 4 (.t 5), none, none, 0⟩,
  ⟨(some 77), .load (.t 76), none, none, 32⟩,
  ⟨(some 78), .mv (.t 6), none, none, 0⟩,
  ⟨(some 79), .iaddr 1 (.t 77) (.t 78), none, none, 224⟩,
  ⟨(some 80), .load (.t 79), none, none, 480⟩,
  ⟨(some 81), .bin .lss (.t 75) (.t 80), none, none, 1023⟩]
abbrev c_meet_r10 : List SOper := [⟨(some 82), .faddr 4 (.t 5), none, none, 0⟩,
  ⟨(some 83), .load (.t 82), none, none, 1⟩,
  ⟨(some 84), .mv (.t 6), none, none, 0⟩,
  ⟨(some 85), .faddr 4 (.t 3), none, none, 0⟩,
  ⟨(some 86), .load (.t 85), none, none, 8⟩,
  ⟨(some 87), .mv (.t 6), none, none, 0⟩,
  ⟨(some 88), .iaddr 1 (.t 86) (.t 87), none, none, 56⟩,
  ⟨(some 89), .load (.t 88), none, none, 120⟩,
  ⟨(some 90), .iaddr 1 (.t 83) (.t 84), none, none, 255⟩,
  ⟨none, .store 1 (.t 90) (.t 89), none, none, 511⟩]
abbrev c_meet_r11 : List SOper := [⟨(some 91), .faddr 1 (.t 5), none, none, 0⟩,
  ⟨(some 92), .load (.t 91), none, none, 0⟩,
  ⟨(some 93), .mv (.t 6), none, none, 0⟩,
  ⟨(some 94), .iaddr 1 (.t 92) (.t 93), none, none, 0⟩,
  ⟨(some 95), .load (.t 94), none, none, 0⟩,
  ⟨(some 96), .un .not (.t 95), none, none, 0⟩]
abbrev c_meet_r12 : List SOper := [⟨(some 97), .faddr 4 (.t 5), none, none, 0⟩,
  ⟨(some 98), .load (.t 97), none, none, 0⟩,
  ⟨(some 99), .mv (.t 6), none, none, 0⟩,
  ⟨(some 100), .iaddr 1 (.t 98) (.t 99), none, none, 0⟩,
  ⟨none, .store 1 (.t 100) (.c (.int .i64 (-1))), none, none, 0⟩]
abbrev c_meet_r13 : List SOper := [⟨(some 17), .mv (.t 6), none, none, 0⟩,
  ⟨(some 18), .bin .add (.t 17) (.c (.int .i64 1)), none, none, 0⟩,
  ⟨(some 6), .mv (.t 18), none, none, 0⟩]
def c_meet_l1 : SCode := (.seq (.seq (.reg false c_meet_r6 [2, 3, 4, 5, 6, 16]) (.cond (.t 16) .skip (.exit 0))) (.seq (.block 1 (.seq (.reg true c_meet_r7 [2, 3, 4, 5, 6]) (.seq (.reg true c_meet_r8 [2, 3, 4, 5, 6]) (.seq (.seq (.reg true c_meet_r9 [2, 3, 4, 5, 6, 81]) (.cond (.t 81) (.reg true c_meet_r10 [2, 3, 4, 5, 6]) .skip)) (.seq (.reg false c_meet_r11 [2, 3, 4, 5, 6, 96]) (.cond (.t 96) (.reg false c_meet_r12 [2, 3, 4, 5, 6]) .skip)))))) (.reg false c_meet_r13 [2, 3, 4, 5, 6])))
abbrev c_meet_r14 : List SOper := [⟨(some 7), .mv (.c (.int .i64 0)), none, none, 0⟩]
abbrev c_meet_r15 : List SOper := [⟨(some 101), .mv (.t 7), none, none, 0⟩,
  ⟨(some 102), .faddr 5 (.t 5), none, none, 0⟩,
  ⟨(some 103), .load (.t 102), none, none, 0⟩,
  ⟨(some 104), .len false (.t 103), none, none, 0⟩,
  ⟨(some 105), .bin .lss (.t 101) (.t 104), none, none, 0⟩]
abbrev c_meet_r16 : List SOper := [⟨(some 108), .faddr 5 (.t 5), none, none, 0⟩,
  ⟨(some 109), .load (.t 108), none, none, 1⟩,
  ⟨(some 110), .mv (.t 7), none, none, 0⟩,
  ⟨(some 111), .faddr 5 (.t 2), none, none, 0⟩,
  ⟨(some 112), .load (.t 111), none, none, 8⟩,
  ⟨(some 113), .mv (.t 7), none, none, 0⟩,
  ⟨(some 114), .iaddr 1 (.t 112) (.t 113), none, none, 56⟩,
  ⟨(some 115), .load (.t 114), none, none, 120⟩,
  ⟨(some 116), .mv (.t 115), none, none, 248⟩,
  ⟨(some 117), .faddr 5 (.t 3), none, (some (116, true)), 504⟩,
  ⟨(some 118), .load (.t 117), none, (some (116, true)), 1016⟩,
  ⟨(some 119), .mv (.t 7), none, (some (116, true)), 504⟩,
  ⟨(some 120), .iaddr 1 (.t 118) (.t 119), none, (some (116, true)), 4088⟩,
  ⟨(some 121), .load (.t 120), none, (some (116, true)), 8184⟩,
  ⟨(some 122), .pick (.t 116) (.t 121) (.c (.bool false)), none, none, 16376⟩,
  ⟨(some 123), .iaddr 1 (.t 109) (.t 110), none, none, 32767⟩,
  ⟨none, .store 1 (.t 123) (.t 122), none, none, 65535⟩]
abbrev c_meet_r17 : List SOper := [⟨(some 106), .mv (.t 7), none, none, 0⟩,
  ⟨(some 107), .bin .add (.t 106) (.c (.int .i64 1)), none, none, 0⟩,
  ⟨(some 7), .mv (.t 107), none, none, 0⟩]
def c_meet_l2 : SCode := (.seq (.seq (.reg false c_meet_r15 [2, 3, 4, 5, 7, 105]) (.cond (.t 105) .skip (.exit 2))) (.seq (.block 3 (.reg true c_meet_r16 [2, 3, 4, 5, 7])) (.reg false c_meet_r17 [2, 3, 4, 5, 7])))
abbrev c_meet_r18 : List SOper := [⟨(some 124), .loads 6 (.t 5), none, none, 0⟩,
  ⟨none, .store 6 (.t 4) (.t 124), none, none, 0⟩]
def c_meet : SCode := (.seq (.reg false c_meet_r1 [2, 3, 4]) (.seq (.seq (.reg false c_meet_r2 [2, 3, 4, 10]) (.cond (.t 10) (.seq (.reg false c_meet_r3 [4]) .ret) .skip)) (.seq (.reg false c_meet_r4 [2, 3, 4, 5]) (.seq (.seq (.reg false c_meet_r5 [2, 3, 4, 5, 6]) (.block 0 (.loop c_meet_l1))) (.seq (.seq (.reg false c_meet_r14 [2, 3, 4, 5, 7]) (.block 2 (.loop c_meet_l2))) (.seq (.reg false c_meet_r18 [4]) .ret))))))
theorem comp_c_meet : comp Try.prog 125 ((Try.f120.body).getD .skip) = some c_meet.erase := by kernel_rfl
abbrev c_rsome_r1 : List SOper := [⟨(some 2), .box 162 (.t 0), none, none, 0⟩,
  ⟨(some 4), .alloc 162 [(.bool false), .nilsl, .nilsl, .nilsl, .nilsl, .nilsl], none, none, 0⟩]
abbrev c_rsome_r2 : List SOper := [⟨(some 5), .faddr 1 (.t 2), none, none, 0⟩,
  ⟨(some 6), .load (.t 5), none, none, 1⟩,
  ⟨(some 7), .mv (.t 1), none, none, 0⟩,
  ⟨(some 8), .faddr 2 (.t 2), none, none, 0⟩,
  ⟨(some 9), .load (.t 8), none, none, 8⟩,
  ⟨(some 10), .mv (.t 1), none, none, 0⟩,
  ⟨(some 11), .faddr 3 (.t 2), none, none, 0⟩,
  ⟨(some 12), .load (.t 11), none, none, 64⟩,
  ⟨(some 13), .mv (.t 1), none, none, 0⟩,
  ⟨(some 14), .faddr 4 (.t 2), none, none, 0⟩,
  ⟨(some 15), .load (.t 14), none, none, 512⟩,
  ⟨(some 16), .mv (.t 1), none, none, 0⟩,
  ⟨(some 17), .iaddr 1 (.t 6) (.t 7), none, none, 7⟩,
  ⟨none, .store 1 (.t 17) (.c (.bool true)), none, none, 4103⟩,
  ⟨(some 18), .iaddr 1 (.t 9) (.t 10), none, none, 12351⟩,
  ⟨none, .store 1 (.t 18) (.c (.bool false)), none, none, 28735⟩,
  ⟨(some 19), .iaddr 1 (.t 12) (.t 13), none, none, 61951⟩,
  ⟨none, .store 1 (.t 19) (.c (.int .u64 0)), none, none, 127487⟩,
  ⟨(some 20), .iaddr 1 (.t 15) (.t 16), none, none, 262143⟩,
  ⟨none, .store 1 (.t 20) (.c (.int .i64 (-1))), none, none, 524287⟩]
abbrev c_rsome_r3 : List SOper := [⟨(some 21), .loads 6 (.t 2), none, none, 0⟩,
  ⟨none, .store 6 (.t 4) (.t 21), none, none, 0⟩]
def c_rsome : SCode := (.seq (.reg false c_rsome_r1 [1, 2, 4]) (.seq (.reg true c_rsome_r2 [2, 4]) (.seq (.reg false c_rsome_r3 [4]) .ret)))
theorem comp_c_rsome : comp Try.prog 22 ((Try.f148.body).getD .skip) = some c_rsome.erase := by kernel_rfl
abbrev c_behind_r1 : List SOper := [⟨(some 3), .box 63 (.t 0), none, none, 0⟩,
  ⟨(some 4), .box 56 (.t 1), none, none, 0⟩,
  ⟨(some 5), .box 162 (.t 2), none, none, 0⟩,
  ⟨(some 6), .alloc 162 [(.bool false), .nilsl, .nilsl, .nilsl, .nilsl, .nilsl], none, none, 0⟩,
  ⟨(some 7), .mv (.c (.int .i64 0)), none, none, 0⟩]
abbrev c_behind_r2 : List SOper := [⟨(some 18), .loads 6 (.t 4), none, none, 0⟩,
  ⟨(some 19), .mv (.c .any), some ((.c (.fn (.func 146) [] [])), [(.t 18)]), none, 0⟩,
  ⟨(some 8), .mv (.t 19), none, none, 0⟩]
abbrev c_behind_r3 : List SOper := [⟨(some 9), .mv (.c (.int .i64 0)), none, none, 0⟩]
abbrev c_behind_r4 : List SOper := [⟨(some 20), .mv (.t 9), none, none, 0⟩,
  ⟨(some 21), .mv (.t 8), none, none, 0⟩,
  ⟨(some 22), .len false (.t 21), none, none, 0⟩,
  ⟨(some 23), .bin .lss (.t 20) (.t 22), none, none, 0⟩]
abbrev c_behind_r5 : List SOper := [⟨(some 26), .faddr 1 (.t 5), none, none, 0⟩,
  ⟨(some 27), .load (.t 26), none, none, 1⟩,
  ⟨(some 28), .mv (.t 8), none, none, 0⟩,
  ⟨(some 29), .mv (.t 9), none, none, 0⟩,
  ⟨(some 30), .iaddr 1 (.t 28) (.t 29), none, none, 12⟩,
  ⟨(some 31), .load (.t 30), none, none, 28⟩,
  ⟨(some 32), .iaddr 1 (.t 27) (.t 31), none, none, 63⟩,
  ⟨(some 33), .load (.t 32), none, none, 127⟩,
  ⟨(some 34), .un .not (.t 33), none, none, 255⟩]
abbrev c_behind_r6 : List SOper := [⟨(some 35), .loads 6 (.t 5), none, none, 0⟩,
  ⟨none, .store 6 (.t 6) (.t 35), none, none, 0⟩,
  ⟨(some 7), .mv (.c (.int .i64 15)), none, none, 0⟩]
abbrev c_behind_r7 : List SOper := [⟨(some 24), .mv (.t 9), none, none, 0⟩,
  ⟨(some 25), .bin .add (.t 24) (.c (.int .i64 1)), none, none, 0⟩,
  ⟨(some 9), .mv (.t 25), none, none, 0⟩]
def c_behind_l1 : SCode := (.seq (.seq (.reg false c_behind_r4 [3, 4, 5, 6, 8, 9, 23]) (.cond (.t 23) .skip (.exit 0))) (.seq (.block 1 (.seq (.reg true c_behind_r5 [3, 4, 5, 6, 8, 9, 34]) (.cond (.t 34) (.seq (.reg false c_behind_r6 [6, 7]) .ret) .skip))) (.reg false c_behind_r7 [3, 4, 5, 6, 8, 9])))
abbrev c_behind_r8 : List SOper := [⟨(some 36), .loads 6 (.t 5), none, none, 0⟩,
  ⟨(some 37), .mv (.c .any), some ((.c (.fn (.func 147) [] [])), [(.t 36)]), none, 0⟩,
  ⟨none, .store 6 (.t 5) (.t 37), none, none, 0⟩]
abbrev c_behind_r9 : List SOper := [⟨(some 38), .faddr 0 (.t 4), none, none, 0⟩,
  ⟨(some 39), .load (.t 38), none, none, 0⟩]
abbrev c_behind_r10 : List SOper := [⟨(some 41), .bin .eql (.t 39) (.c (.int .i64 1)), none, none, 0⟩,
  ⟨(some 40), .mv (.t 41), none, none, 0⟩]
abbrev c_behind_r11 : List SOper := [⟨(some 42), .loads 6 (.t 5), none, none, 0⟩,
  ⟨(some 43), .faddr 1 (.t 4), none, none, 0⟩,
  ⟨(some 44), .load (.t 43), none, none, 0⟩,
  ⟨(some 45), .mv (.c .any), some ((.c (.fn (.func 148) [] [])), [(.t 42), (.t 44)]), none, 0⟩,
  ⟨none, .store 6 (.t 5) (.t 45), none, none, 0⟩]
abbrev c_behind_r12 : List SOper := [⟨(some 46), .faddr 2 (.t 5), none, none, 0⟩,
  ⟨(some 47), .load (.t 46), none, none, 1⟩,
  ⟨(some 48), .faddr 1 (.t 4), none, none, 0⟩,
  ⟨(some 49), .load (.t 48), none, none, 4⟩,
  ⟨(some 50), .faddr 3 (.t 5), none, none, 0⟩,
  ⟨(some 51), .load (.t 50), none, none, 16⟩,
  ⟨(some 52), .faddr 1 (.t 4), none, none, 0⟩,
  ⟨(some 53), .load (.t 52), none, none, 64⟩,
  ⟨(some 54), .faddr 5 (.t 4), none, none, 0⟩,
  ⟨(some 55), .load (.t 54), none, none, 256⟩,
  ⟨(some 56), .iaddr 1 (.t 47) (.t 49), none, none, 15⟩,
  ⟨none, .store 1 (.t 56) (.c (.bool true)), none, none, 1039⟩,
  ⟨(some 57), .iaddr 1 (.t 51) (.t 53), none, none, 4095⟩,
  ⟨none, .store 1 (.t 57) (.t 55), none, none, 8191⟩]
abbrev c_behind_r13 : List SOper := [⟨(some 58), .faddr 5 (.t 4), none, none, 0⟩,
  ⟨(some 59), .load (.t 58), none, none, 0⟩,
  ⟨(some 60), .bin .eql (.t 59) (.c (.int .u64 0)), none, none, 0⟩]
abbrev c_behind_r14 : List SOper := [⟨(some 61), .faddr 4 (.t 5), none, none, 0⟩,
  ⟨(some 62), .load (.t 61), none, none, 0⟩,
  ⟨(some 63), .faddr 1 (.t 4), none, none, 0⟩,
  ⟨(some 64), .load (.t 63), none, none, 0⟩,
  ⟨(some 65), .iaddr 1 (.t 62) (.t 64), none, none, 0⟩,
  ⟨none, .store 1 (.t 65) (.c (.int .i64 0)), none, none, 0⟩]
abbrev c_behind_r15 : List SOper := [⟨(some 67), .bin .eql (.t 39) (.c (.int .i64 2)), none, none, 0⟩,
  ⟨(some 66), .mv (.t 67), none, none, 0⟩]
abbrev c_behind_r16 : List SOper := [⟨(some 68), .faddr 1 (.t 5), none, none, 0⟩,
  ⟨(some 69), .load (.t 68), none, none, 1⟩,
  ⟨(some 70), .faddr 1 (.t 4), none, none, 0⟩,
  ⟨(some 71), .load (.t 70), none, none, 4⟩,
  ⟨(some 72), .faddr 2 (.t 5), none, none, 0⟩,
  ⟨(some 73), .load (.t 72), none, none, 16⟩,
  ⟨(some 74), .faddr 1 (.t 4), none, none, 0⟩,
  ⟨(some 75), .load (.t 74), none, none, 64⟩,
  ⟨(some 76), .faddr 3 (.t 5), none, none, 0⟩,
  ⟨(some 77), .load (.t 76), none, none, 256⟩,
  ⟨(some 78), .faddr 1 (.t 4), none, none, 0⟩,
  ⟨(some 79), .load (.t 78), none, none, 1024⟩,
  ⟨(some 80), .faddr 4 (.t 5), none, none, 0⟩,
  ⟨(some 81), .load (.t 80), none, none, 4096⟩,
  ⟨(some 82), .faddr 1 (.t 4), none, none, 0⟩,
  ⟨(some 83), .load (.t 82), none, none, 16384⟩,
  ⟨(some 84), .faddr 2 (.t 5), none, none, 0⟩,
  ⟨(some 85), .load (.t 84), none, none, 65536⟩,
  ⟨(some 86), .faddr 2 (.t 4), none, none, 0⟩,
  ⟨(some 87), .load (.t 86), none, none, 262144⟩,
  ⟨(some 88), .iaddr 1 (.t 85) (.t 87), none, none, 983040⟩,
  ⟨(some 89), .load (.t 88), none, none, 2031616⟩,
  ⟨(some 90), .faddr 3 (.t 5), none, none, 0⟩,
  ⟨(some 91), .load (.t 90), none, none, 4194304⟩,
  ⟨(some 92), .faddr 2 (.t 4), none, none, 0⟩,
  ⟨(some 93), .load (.t 92), none, none, 16777216⟩,
  ⟨(some 94), .iaddr 1 (.t 91) (.t 93), none, none, 62914560⟩,
  ⟨(some 95), .load (.t 94), none, none, 130023424⟩,
  ⟨(some 96), .faddr 4 (.t 5), none, none, 0⟩,
  ⟨(some 97), .load (.t 96), none, none, 268435456⟩,
  ⟨(some 98), .faddr 2 (.t 4), none, none, 0⟩,
  ⟨(some 99), .load (.t 98), none, none, 1073741824⟩,
  ⟨(some 100), .iaddr 1 (.t 97) (.t 99), none, none, 4026531840⟩,
  ⟨(some 101), .load (.t 100), none, none, 8321499136⟩,
  ⟨(some 102), .iaddr 1 (.t 69) (.t 71), none, none, 17179803663⟩,
  ⟨none, .store 1 (.t 102) (.c (.bool true)), none, none, 34359672847⟩,
  ⟨(some 103), .iaddr 1 (.t 73) (.t 75), none, none, 68719411455⟩,
  ⟨none, .store 1 (.t 103) (.t 89), none, none, 137438888191⟩,
  ⟨(some 104), .iaddr 1 (.t 77) (.t 79), none, none, 274877845503⟩,
  ⟨none, .store 1 (.t 104) (.t 95), none, none, 549755752447⟩,
  ⟨(some 105), .iaddr 1 (.t 81) (.t 83), none, none, 1099511627775⟩,
  ⟨none, .store 1 (.t 105) (.t 101), none, none, 2199023255551⟩]
abbrev c_behind_r17 : List SOper := [⟨(some 107), .bin .eql (.t 39) (.c (.int .i64 3)), none, none, 0⟩,
  ⟨(some 106), .mv (.t 107), none, none, 0⟩]
abbrev c_behind_r18 : List SOper := [⟨(some 108), .faddr 4 (.t 5), none, none, 0⟩,
  ⟨(some 109), .load (.t 108), none, none, 1⟩,
  ⟨(some 110), .faddr 1 (.t 4), none, none, 0⟩,
  ⟨(some 111), .load (.t 110), none, none, 4⟩,
  ⟨(some 112), .iaddr 1 (.t 109) (.t 111), none, none, 15⟩,
  ⟨(some 113), .load (.t 112), none, none, 31⟩,
  ⟨(some 114), .faddr 2 (.t 5), none, none, 0⟩,
  ⟨(some 115), .load (.t 114), none, none, 64⟩,
  ⟨(some 116), .faddr 1 (.t 4), none, none, 0⟩,
  ⟨(some 117), .load (.t 116), none, none, 256⟩,
  ⟨(some 118), .iaddr 1 (.t 115) (.t 117), none, none, 960⟩,
  ⟨(some 119), .load (.t 118), none, none, 1984⟩,
  ⟨(some 120), .mv (.t 119), none, none, 4032⟩,
  ⟨(some 121), .faddr 2 (.t 5), none, (some (120, true)), 8128⟩,
  ⟨(some 122), .load (.t 121), none, (some (120, true)), 16320⟩,
  ⟨(some 123), .faddr 2 (.t 4), none, (some (120, true)), 8128⟩,
  ⟨(some 124), .load (.t 123), none, (some (120, true)), 40896⟩,
  ⟨(some 125), .iaddr 1 (.t 122) (.t 124), none, (some (120, true)), 131008⟩,
  ⟨(some 126), .load (.t 125), none, (some (120, true)), 262080⟩,
  ⟨(some 127), .pick (.t 120) (.t 126) (.c (.bool false)), none, none, 524224⟩,
  ⟨(some 128), .faddr 3 (.t 5), none, none, 0⟩,
  ⟨(some 129), .load (.t 128), none, none, 1048576⟩,
  ⟨(some 130), .faddr 1 (.t 4), none, none, 0⟩,
  ⟨(some 131), .load (.t 130), none, none, 4194304⟩,
  ⟨(some 132), .iaddr 1 (.t 129) (.t 131), none, none, 15728640⟩,
  ⟨(some 133), .load (.t 132), none, none, 32505856⟩,
  ⟨(some 134), .faddr 3 (.t 5), none, none, 0⟩,
  ⟨(some 135), .load (.t 134), none, none, 67108864⟩,
  ⟨(some 136), .faddr 2 (.t 4), none, none, 0⟩,
  ⟨(some 137), .load (.t 136), none, none, 268435456⟩,
  ⟨(some 138), .iaddr 1 (.t 135) (.t 137), none, none, 1006632960⟩,
  ⟨(some 139), .load (.t 138), none, none, 2080374784⟩,
  ⟨(some 140), .bin .add (.t 133) (.t 139), none, none, 4293918720⟩,
  ⟨(some 10), .mv (.t 113), none, none, 8191⟩,
  ⟨(some 11), .mv (.t 127), none, none, 8590983167⟩,
  ⟨(some 12), .mv (.t 140), none, none, 34359738367⟩]
abbrev c_behind_r19 : List SOper := [⟨(some 141), .faddr 2 (.t 5), none, none, 0⟩,
  ⟨(some 142), .load (.t 141), none, none, 0⟩,
  ⟨(some 143), .faddr 2 (.t 4), none, none, 0⟩,
  ⟨(some 144), .load (.t 143), none, none, 0⟩,
  ⟨(some 145), .iaddr 1 (.t 142) (.t 144), none, none, 0⟩,
  ⟨(some 146), .load (.t 145), none, none, 0⟩,
  ⟨(some 147), .mv (.t 146), none, none, 0⟩,
  ⟨(some 148), .mv (.t 10), none, (some (147, true)), 0⟩,
  ⟨(some 149), .bin .geq (.t 148) (.c (.int .i64 0)), none, (some (147, true)), 0⟩,
  ⟨(some 150), .pick (.t 147) (.t 149) (.c (.bool false)), none, none, 0⟩,
  ⟨(some 151), .mv (.t 150), none, none, 0⟩,
  ⟨(some 152), .faddr 3 (.t 5), none, (some (151, true)), 0⟩,
  ⟨(some 153), .load (.t 152), none, (some (151, true)), 0⟩,
  ⟨(some 154), .faddr 2 (.t 4), none, (some (151, true)), 0⟩,
  ⟨(some 155), .load (.t 154), none, (some (151, true)), 0⟩,
  ⟨(some 156), .iaddr 1 (.t 153) (.t 155), none, (some (151, true)), 0⟩,
  ⟨(some 157), .load (.t 156), none, (some (151, true)), 0⟩,
  ⟨(some 158), .mv (.t 10), none, (some (151, true)), 0⟩,
  ⟨(some 159), .conv .u64 (.t 158), none, (some (151, true)), 0⟩,
  ⟨(some 160), .bin .leq (.t 157) (.t 159), none, (some (151, true)), 0⟩,
  ⟨(some 161), .pick (.t 151) (.t 160) (.c (.bool false)), none, none, 0⟩,
  ⟨(some 13), .mv (.t 161), none, none, 0⟩]
abbrev c_behind_r20 : List SOper := [⟨(some 162), .faddr 3 (.t 5), none, none, 0⟩,
  ⟨(some 163), .load (.t 162), none, none, 0⟩,
  ⟨(some 164), .faddr 2 (.t 4), none, none, 0⟩,
  ⟨(some 165), .load (.t 164), none, none, 0⟩,
  ⟨(some 166), .iaddr 1 (.t 163) (.t 165), none, none, 0⟩,
  ⟨(some 167), .load (.t 166), none, none, 0⟩,
  ⟨(some 14), .mv (.t 167), none, none, 0⟩]
abbrev c_behind_r21 : List SOper := [⟨(some 168), .loads 6 (.t 5), none, none, 0⟩,
  ⟨(some 169), .faddr 1 (.t 4), none, none, 0⟩,
  ⟨(some 170), .load (.t 169), none, none, 0⟩,
  ⟨(some 171), .mv (.c .any), some ((.c (.fn (.func 148) [] [])), [(.t 168), (.t 170)]), none, 0⟩,
  ⟨none, .store 6 (.t 5) (.t 171), none, none, 0⟩]
abbrev c_behind_r22 : List SOper := [⟨(some 172), .faddr 3 (.t 4), none, none, 0⟩,
  ⟨(some 173), .load (.t 172), none, none, 0⟩,
  ⟨(some 174), .bin .eql (.t 173) (.c (.int .i64 3)), none, none, 0⟩,
  ⟨(some 175), .mv (.t 174), none, none, 0⟩,
  ⟨(some 176), .mv (.t 13), none, (some (175, true)), 0⟩,
  ⟨(some 177), .pick (.t 175) (.t 176) (.c (.bool false)), none, none, 0⟩]
abbrev c_behind_r23 : List SOper := [⟨(some 178), .faddr 4 (.t 5), none, none, 0⟩,
  ⟨(some 179), .load (.t 178), none, none, 0⟩,
  ⟨(some 180), .faddr 1 (.t 4), none, none, 0⟩,
  ⟨(some 181), .load (.t 180), none, none, 0⟩,
  ⟨(some 182), .mv (.t 10), none, none, 0⟩,
  ⟨(some 183), .mv (.t 14), none, none, 0⟩,
  ⟨(some 184), .conv .i64 (.t 183), none, none, 0⟩,
  ⟨(some 185), .bin .sub (.t 182) (.t 184), none, none, 0⟩,
  ⟨(some 186), .iaddr 1 (.t 179) (.t 181), none, none, 0⟩,
  ⟨none, .store 1 (.t 186) (.t 185), none, none, 0⟩]
abbrev c_behind_r24 : List SOper := [⟨(some 187), .faddr 3 (.t 4), none, none, 0⟩,
  ⟨(some 188), .load (.t 187), none, none, 0⟩,
  ⟨(some 189), .bin .eql (.t 188) (.c (.int .i64 3)), none, none, 0⟩,
  ⟨(some 190), .mv (.t 189), none, none, 0⟩,
  ⟨(some 191), .mv (.t 11), none, (some (190, true)), 0⟩,
  ⟨(some 192), .pick (.t 190) (.t 191) (.c (.bool false)), none, none, 0⟩]
abbrev c_behind_r25 : List SOper := [⟨(some 193), .faddr 2 (.t 5), none, none, 0⟩,
  ⟨(some 194), .load (.t 193), none, none, 1⟩,
  ⟨(some 195), .faddr 1 (.t 4), none, none, 0⟩,
  ⟨(some 196), .load (.t 195), none, none, 4⟩,
  ⟨(some 197), .faddr 3 (.t 5), none, none, 0⟩,
  ⟨(some 198), .load (.t 197), none, none, 16⟩,
  ⟨(some 199), .faddr 1 (.t 4), none, none, 0⟩,
  ⟨(some 200), .load (.t 199), none, none, 64⟩,
  ⟨(some 201), .mv (.t 12), none, none, 0⟩,
  ⟨(some 202), .iaddr 1 (.t 194) (.t 196), none, none, 15⟩,
  ⟨none, .store 1 (.t 202) (.c (.bool true)), none, none, 527⟩,
  ⟨(some 203), .iaddr 1 (.t 198) (.t 200), none, none, 2047⟩,
  ⟨none, .store 1 (.t 203) (.t 201), none, none, 4095⟩]
abbrev c_behind_r26 : List SOper := [⟨(some 205), .bin .eql (.t 39) (.c (.int .i64 4)), none, none, 0⟩,
  ⟨(some 204), .mv (.t 205), none, none, 0⟩]
abbrev c_behind_r27 : List SOper := [⟨(some 206), .bin .eql (.t 39) (.c (.int .i64 5)), none, none, 0⟩,
  ⟨(some 204), .mv (.t 206), none, none, 0⟩]
abbrev c_behind_r28 : List SOper := [⟨(some 207), .bin .eql (.t 39) (.c (.int .i64 18)), none, none, 0⟩,
  ⟨(some 204), .mv (.t 207), none, none, 0⟩]
abbrev c_behind_r29 : List SOper := [⟨(some 208), .loads 6 (.t 5), none, none, 0⟩,
  ⟨(some 209), .faddr 1 (.t 4), none, none, 0⟩,
  ⟨(some 210), .load (.t 209), none, none, 0⟩,
  ⟨(some 211), .mv (.c .any), some ((.c (.fn (.func 148) [] [])), [(.t 208), (.t 210)]), none, 0⟩,
  ⟨none, .store 6 (.t 5) (.t 211), none, none, 0⟩]
abbrev c_behind_r30 : List SOper := [⟨(some 213), .bin .eql (.t 39) (.c (.int .i64 6)), none, none, 0⟩,
  ⟨(some 212), .mv (.t 213), none, none, 0⟩]
abbrev c_behind_r31 : List SOper := [⟨(some 214), .faddr 4 (.t 5), none, none, 0⟩,
  ⟨(some 215), .load (.t 214), none, none, 1⟩,
  ⟨(some 216), .faddr 2 (.t 4), none, none, 0⟩,
  ⟨(some 217), .load (.t 216), none, none, 4⟩,
  ⟨(some 218), .iaddr 1 (.t 215) (.t 217), none, none, 15⟩,
  ⟨(some 219), .load (.t 218), none, none, 31⟩,
  ⟨(some 220), .faddr 5 (.t 4), none, none, 0⟩,
  ⟨(some 221), .load (.t 220), none, none, 64⟩,
  ⟨(some 222), .conv .i64 (.t 221), none, none, 192⟩,
  ⟨(some 223), .faddr 3 (.t 4), none, none, 0⟩,
  ⟨(some 224), .load (.t 223), none, none, 512⟩,
  ⟨(some 225), .bin .add (.t 222) (.t 224), none, none, 1984⟩,
  ⟨(some 226), .bin .lss (.t 219) (.t 225), none, none, 4095⟩]
abbrev c_behind_r32 : List SOper := [⟨(some 227), .loads 6 (.t 5), none, none, 0⟩,
  ⟨none, .store 6 (.t 6) (.t 227), none, none, 0⟩,
  ⟨(some 7), .mv (.c (.int .i64 16)), none, none, 0⟩]
abbrev c_behind_r33 : List SOper := [⟨(some 228), .loads 6 (.t 5), none, none, 0⟩,
  ⟨(some 229), .faddr 1 (.t 4), none, none, 0⟩,
  ⟨(some 230), .load (.t 229), none, none, 0⟩,
  ⟨(some 231), .mv (.c .any), some ((.c (.fn (.func 148) [] [])), [(.t 228), (.t 230)]), none, 0⟩,
  ⟨none, .store 6 (.t 5) (.t 231), none, none, 0⟩]
abbrev c_behind_r34 : List SOper := [⟨(some 233), .bin .eql (.t 39) (.c (.int .i64 7)), none, none, 0⟩,
  ⟨(some 232), .mv (.t 233), none, none, 0⟩]
abbrev c_behind_r35 : List SOper := [⟨(some 234), .faddr 5 (.t 5), none, none, 0⟩,
  ⟨(some 235), .load (.t 234), none, none, 0⟩,
  ⟨(some 236), .faddr 5 (.t 4), none, none, 0⟩,
  ⟨(some 237), .load (.t 236), none, none, 0⟩,
  ⟨(some 238), .iaddr 1 (.t 235) (.t 237), none, none, 0⟩,
  ⟨(some 239), .load (.t 238), none, none, 0⟩,
  ⟨(some 240), .un .not (.t 239), none, none, 0⟩]
abbrev c_behind_r36 : List SOper := [⟨(some 241), .loads 6 (.t 5), none, none, 0⟩,
  ⟨none, .store 6 (.t 6) (.t 241), none, none, 0⟩,
  ⟨(some 7), .mv (.c (.int .i64 15)), none, none, 0⟩]
abbrev c_behind_r37 : List SOper := [⟨(some 242), .loads 6 (.t 5), none, none, 0⟩,
  ⟨(some 243), .faddr 1 (.t 4), none, none, 0⟩,
  ⟨(some 244), .load (.t 243), none, none, 0⟩,
  ⟨(some 245), .mv (.c .any), some ((.c (.fn (.func 148) [] [])), [(.t 242), (.t 244)]), none, 0⟩,
  ⟨none, .store 6 (.t 5) (.t 245), none, none, 0⟩]
abbrev c_behind_r38 : List SOper := [⟨(some 247), .bin .eql (.t 39) (.c (.int .i64 8)), none, none, 0⟩,
  ⟨(some 246), .mv (.t 247), none, none, 0⟩]
abbrev c_behind_r39 : List SOper := [⟨(some 248), .faddr 5 (.t 5), none, none, 0⟩,
  ⟨(some 249), .load (.t 248), none, none, 0⟩,
  ⟨(some 250), .faddr 5 (.t 4), none, none, 0⟩,
  ⟨(some 251), .load (.t 250), none, none, 0⟩,
  ⟨(some 252), .iaddr 1 (.t 249) (.t 251), none, none, 0⟩,
  ⟨none, .store 1 (.t 252) (.c (.bool true)), none, none, 0⟩]
abbrev c_behind_r40 : List SOper := [⟨(some 254), .bin .eql (.t 39) (.c (.int .i64 15)), none, none, 0⟩,
  ⟨(some 253), .mv (.t 254), none, none, 0⟩]
abbrev c_behind_r41 : List SOper := [⟨(some 255), .faddr 4 (.t 5), none, none, 0⟩,
  ⟨(some 256), .load (.t 255), none, none, 0⟩,
  ⟨(some 257), .faddr 1 (.t 4), none, none, 0⟩,
  ⟨(some 258), .load (.t 257), none, none, 0⟩,
  ⟨(some 259), .iaddr 1 (.t 256) (.t 258), none, none, 0⟩,
  ⟨(some 260), .load (.t 259), none, none, 0⟩,
  ⟨(some 261), .bin .lss (.t 260) (.c (.int .i64 0)), none, none, 0⟩]
abbrev c_behind_r42 : List SOper := [⟨(some 262), .loads 6 (.t 5), none, none, 0⟩,
  ⟨none, .store 6 (.t 6) (.t 262), none, none, 0⟩,
  ⟨(some 7), .mv (.c (.int .i64 16)), none, none, 0⟩]
abbrev c_behind_r43 : List SOper := [⟨(some 264), .bin .eql (.t 39) (.c (.int .i64 13)), none, none, 0⟩,
  ⟨(some 263), .mv (.t 264), none, none, 0⟩]
abbrev c_behind_r44 : List SOper := [⟨(some 265), .faddr 1 (.t 3), none, none, 0⟩,
  ⟨(some 266), .load (.t 265), none, none, 0⟩,
  ⟨(some 267), .faddr 5 (.t 4), none, none, 0⟩,
  ⟨(some 268), .load (.t 267), none, none, 0⟩,
  ⟨(some 269), .iaddr 3 (.t 266) (.t 268), none, none, 0⟩,
  ⟨(some 270), .loads 3 (.t 269), none, none, 0⟩,
  ⟨(some 15), .alloc 123 [(.int .i64 0), (.int .i64 0), (.int .i64 0)], none, none, 0⟩,
  ⟨none, .store 3 (.t 15) (.t 270), none, none, 0⟩]
abbrev c_behind_r45 : List SOper := [⟨(some 16), .mv (.c (.int .i64 0)), none, none, 0⟩]
abbrev c_behind_r46 : List SOper := [⟨(some 271), .mv (.t 16), none, none, 0⟩,
  ⟨(some 272), .faddr 0 (.t 15), none, none, 0⟩,
  ⟨(some 273), .load (.t 272), none, none, 0⟩,
  ⟨(some 274), .bin .lss (.t 271) (.t 273), none, none, 0⟩]
abbrev c_behind_r47 : List SOper := [⟨(some 277), .faddr 5 (.t 5), none, none, 0⟩,
  ⟨(some 278), .load (.t 277), none, none, 0⟩,
  ⟨(some 279), .faddr 2 (.t 4), none, none, 0⟩,
  ⟨(some 280), .load (.t 279), none, none, 0⟩,
  ⟨(some 281), .mv (.t 16), none, none, 0⟩,
  ⟨(some 282), .bin .add (.t 280) (.t 281), none, none, 0⟩,
  ⟨(some 283), .iaddr 1 (.t 278) (.t 282), none, none, 0⟩,
  ⟨(some 284), .load (.t 283), none, none, 0⟩,
  ⟨(some 285), .un .not (.t 284), none, none, 0⟩]
abbrev c_behind_r48 : List SOper := [⟨(some 286), .loads 6 (.t 5), none, none, 0⟩,
  ⟨none, .store 6 (.t 6) (.t 286), none, none, 0⟩,
  ⟨(some 7), .mv (.c (.int .i64 15)), none, none, 0⟩]
abbrev c_behind_r49 : List SOper := [⟨(some 275), .mv (.t 16), none, none, 0⟩,
  ⟨(some 276), .bin .add (.t 275) (.c (.int .i64 1)), none, none, 0⟩,
  ⟨(some 16), .mv (.t 276), none, none, 0⟩]
def c_behind_l2 : SCode := (.seq (.seq (.reg false c_behind_r46 [4, 5, 6, 15, 16, 274]) (.cond (.t 274) .skip (.exit 3))) (.seq (.block 4 (.seq (.reg false c_behind_r47 [4, 5, 6, 15, 16, 285]) (.cond (.t 285) (.seq (.reg false c_behind_r48 [6, 7]) .ret) .skip))) (.reg false c_behind_r49 [4, 5, 6, 15, 16])))
abbrev c_behind_r50 : List SOper := [⟨(some 17), .mv (.c (.int .i64 0)), none, none, 0⟩]
abbrev c_behind_r51 : List SOper := [⟨(some 287), .mv (.t 17), none, none, 0⟩,
  ⟨(some 288), .faddr 2 (.t 15), none, none, 0⟩,
  ⟨(some 289), .load (.t 288), none, none, 0⟩,
  ⟨(some 290), .bin .lss (.t 287) (.t 289), none, none, 0⟩]
abbrev c_behind_r52 : List SOper := [⟨(some 293), .faddr 5 (.t 5), none, none, 0⟩,
  ⟨(some 294), .load (.t 293), none, none, 0⟩,
  ⟨(some 295), .faddr 3 (.t 4), none, none, 0⟩,
  ⟨(some 296), .load (.t 295), none, none, 0⟩,
  ⟨(some 297), .mv (.t 17), none, none, 0⟩,
  ⟨(some 298), .bin .add (.t 296) (.t 297), none, none, 0⟩,
  ⟨(some 299), .iaddr 1 (.t 294) (.t 298), none, none, 0⟩,
  ⟨none, .store 1 (.t 299) (.c (.bool true)), none, none, 0⟩]
abbrev c_behind_r53 : List SOper := [⟨(some 291), .mv (.t 17), none, none, 0⟩,
  ⟨(some 292), .bin .add (.t 291) (.c (.int .i64 1)), none, none, 0⟩,
  ⟨(some 17), .mv (.t 292), none, none, 0⟩]
def c_behind_l3 : SCode := (.seq (.seq (.reg false c_behind_r51 [4, 5, 6, 15, 17, 290]) (.cond (.t 290) .skip (.exit 5))) (.seq (.block 6 (.reg false c_behind_r52 [4, 5, 6, 15, 17])) (.reg false c_behind_r53 [4, 5, 6, 15, 17])))
abbrev c_behind_r54 : List SOper := [⟨(some 300), .loads 6 (.t 5), none, none, 0⟩,
  ⟨(some 301), .faddr 1 (.t 4), none, none, 0⟩,
  ⟨(some 302), .load (.t 301), none, none, 0⟩,
  ⟨(some 303), .mv (.c .any), some ((.c (.fn (.func 148) [] [])), [(.t 300), (.t 302)]), none, 0⟩,
  ⟨none, .store 6 (.t 5) (.t 303), none, none, 0⟩]
abbrev c_behind_r55 : List SOper := [⟨(some 304), .loads 6 (.t 5), none, none, 0⟩,
  ⟨none, .store 6 (.t 6) (.t 304), none, none, 0⟩,
  ⟨(some 7), .mv (.c (.int .i64 0)), none, none, 0⟩]
def c_behind : SCode := (.seq (.reg false c_behind_r1 [3, 4, 5, 6]) (.seq (.reg false c_behind_r2 [3, 4, 5, 6, 8]) (.seq (.seq (.reg false c_behind_r3 [3, 4, 5, 6, 8, 9]) (.block 0 (.loop c_behind_l1))) (.seq (.reg false c_behind_r8 [3, 4, 5, 6]) (.seq (.seq (.reg false c_behind_r9 [3, 4, 5, 6, 39]) (.block 2 (.seq (.reg false c_behind_r10 [3, 4, 5, 6, 39, 40]) (.cond (.t 40) (.seq (.reg false c_behind_r11 [4, 5, 6]) (.seq (.reg true c_behind_r12 [4, 5, 6]) (.seq (.reg false c_behind_r13 [4, 5, 6, 60]) (.cond (.t 60) (.reg false c_behind_r14 [5, 6]) .skip)))) (.seq (.reg false c_behind_r15 [3, 4, 5, 6, 39, 66]) (.cond (.t 66) (.reg true c_behind_r16 [5, 6]) (.seq (.reg false c_behind_r17 [3, 4, 5, 6, 39, 106]) (.cond (.t 106) (.seq (.reg true c_behind_r18 [4, 5, 6, 10, 11, 12]) (.seq (.reg false c_behind_r19 [4, 5, 6, 10, 11, 12, 13]) (.seq (.reg false c_behind_r20 [4, 5, 6, 10, 11, 12, 13, 14]) (.seq (.reg false c_behind_r21 [4, 5, 6, 10, 11, 12, 13, 14]) (.seq (.seq (.reg false c_behind_r22 [4, 5, 6, 10, 11, 12, 14, 177]) (.cond (.t 177) (.reg false c_behind_r23 [4, 5, 6, 11, 12]) .skip)) (.seq (.reg false c_behind_r24 [4, 5, 6, 12, 192]) (.cond (.t 192) (.reg true c_behind_r25 [5, 6]) .skip))))))) (.seq (.seq (.reg false c_behind_r26 [3, 4, 5, 6, 39, 204]) (.cond (.t 204) .skip (.seq (.reg false c_behind_r27 [3, 4, 5, 6, 39, 204]) (.cond (.t 204) .skip (.reg false c_behind_r28 [3, 4, 5, 6, 39, 204]))))) (.cond (.t 204) (.reg false c_behind_r29 [5, 6]) (.seq (.reg false c_behind_r30 [3, 4, 5, 6, 39, 212]) (.cond (.t 212) (.seq (.seq (.reg true c_behind_r31 [4, 5, 6, 226]) (.cond (.t 226) (.seq (.reg false c_behind_r32 [6, 7]) .ret) .skip)) (.reg false c_behind_r33 [5, 6])) (.seq (.reg false c_behind_r34 [3, 4, 5, 6, 39, 232]) (.cond (.t 232) (.seq (.seq (.reg false c_behind_r35 [4, 5, 6, 240]) (.cond (.t 240) (.seq (.reg false c_behind_r36 [6, 7]) .ret) .skip)) (.reg false c_behind_r37 [5, 6])) (.seq (.reg false c_behind_r38 [3, 4, 5, 6, 39, 246]) (.cond (.t 246) (.reg false c_behind_r39 [5, 6]) (.seq (.reg false c_behind_r40 [3, 4, 5, 6, 39, 253]) (.cond (.t 253) (.seq (.reg false c_behind_r41 [5, 6, 261]) (.cond (.t 261) (.seq (.reg false c_behind_r42 [6, 7]) .ret) .skip)) (.seq (.reg false c_behind_r43 [3, 4, 5, 6, 263]) (.cond (.t 263) (.seq (.reg false c_behind_r44 [4, 5, 6, 15]) (.seq (.seq (.reg false c_behind_r45 [4, 5, 6, 15, 16]) (.block 3 (.loop c_behind_l2))) (.seq (.seq (.reg false c_behind_r50 [4, 5, 6, 15, 17]) (.block 5 (.loop c_behind_l3))) (.reg false c_behind_r54 [5, 6])))) .skip)))))))))))))))))))) (.seq (.reg false c_behind_r55 [6, 7]) .ret))))))
theorem comp_c_behind : comp Try.prog 305 ((Try.f119.body).getD .skip) = some c_behind.erase := by kernel_rfl
abbrev c_needs_r1 : List SOper := [⟨(some 1), .box 56 (.t 0), none, none, 0⟩,
  ⟨(some 2), .mv (.c .nilsl), none, none, 0⟩]
abbrev c_needs_r2 : List SOper := [⟨(some 3), .faddr 0 (.t 1), none, none, 0⟩,
  ⟨(some 4), .load (.t 3), none, none, 0⟩]
abbrev c_needs_r3 : List SOper := [⟨(some 6), .bin .eql (.t 4) (.c (.int .i64 2)), none, none, 0⟩,
  ⟨(some 5), .mv (.t 6), none, none, 0⟩]
abbrev c_needs_r4 : List SOper := [⟨(some 7), .bin .eql (.t 4) (.c (.int .i64 6)), none, none, 0⟩,
  ⟨(some 5), .mv (.t 7), none, none, 0⟩]
abbrev c_needs_r5 : List SOper := [⟨(some 8), .faddr 2 (.t 1), none, none, 0⟩,
  ⟨(some 9), .load (.t 8), none, none, 0⟩,
  ⟨(some 10), .mkrow 3 1 1 [(.int .i64 0)] [(0, (.t 9))], none, none, 0⟩,
  ⟨(some 2), .mv (.t 10), none, none, 0⟩]
abbrev c_needs_r6 : List SOper := [⟨(some 12), .bin .eql (.t 4) (.c (.int .i64 3)), none, none, 0⟩,
  ⟨(some 11), .mv (.t 12), none, none, 0⟩]
abbrev c_needs_r7 : List SOper := [⟨(some 13), .bin .eql (.t 4) (.c (.int .i64 5)), none, none, 0⟩,
  ⟨(some 11), .mv (.t 13), none, none, 0⟩]
abbrev c_needs_r8 : List SOper := [⟨(some 14), .bin .eql (.t 4) (.c (.int .i64 10)), none, none, 0⟩,
  ⟨(some 11), .mv (.t 14), none, none, 0⟩]
abbrev c_needs_r9 : List SOper := [⟨(some 15), .bin .eql (.t 4) (.c (.int .i64 11)), none, none, 0⟩,
  ⟨(some 11), .mv (.t 15), none, none, 0⟩]
abbrev c_needs_r10 : List SOper := [⟨(some 16), .faddr 1 (.t 1), none, none, 0⟩,
  ⟨(some 17), .load (.t 16), none, none, 0⟩,
  ⟨(some 18), .faddr 2 (.t 1), none, none, 0⟩,
  ⟨(some 19), .load (.t 18), none, none, 0⟩,
  ⟨(some 20), .mkrow 3 1 2 [(.int .i64 0)] [(0, (.t 17)), (1, (.t 19))], none, none, 0⟩,
  ⟨(some 2), .mv (.t 20), none, none, 0⟩]
abbrev c_needs_r11 : List SOper := [⟨(some 22), .bin .eql (.t 4) (.c (.int .i64 4)), none, none, 0⟩,
  ⟨(some 21), .mv (.t 22), none, none, 0⟩]
abbrev c_needs_r12 : List SOper := [⟨(some 23), .bin .eql (.t 4) (.c (.int .i64 8)), none, none, 0⟩,
  ⟨(some 21), .mv (.t 23), none, none, 0⟩]
abbrev c_needs_r13 : List SOper := [⟨(some 24), .bin .eql (.t 4) (.c (.int .i64 9)), none, none, 0⟩,
  ⟨(some 21), .mv (.t 24), none, none, 0⟩]
abbrev c_needs_r14 : List SOper := [⟨(some 25), .bin .eql (.t 4) (.c (.int .i64 14)), none, none, 0⟩,
  ⟨(some 21), .mv (.t 25), none, none, 0⟩]
abbrev c_needs_r15 : List SOper := [⟨(some 26), .bin .eql (.t 4) (.c (.int .i64 15)), none, none, 0⟩,
  ⟨(some 21), .mv (.t 26), none, none, 0⟩]
abbrev c_needs_r16 : List SOper := [⟨(some 27), .bin .eql (.t 4) (.c (.int .i64 16)), none, none, 0⟩,
  ⟨(some 21), .mv (.t 27), none, none, 0⟩]
abbrev c_needs_r17 : List SOper := [⟨(some 28), .faddr 1 (.t 1), none, none, 0⟩,
  ⟨(some 29), .load (.t 28), none, none, 0⟩,
  ⟨(some 30), .mkrow 3 1 1 [(.int .i64 0)] [(0, (.t 29))], none, none, 0⟩,
  ⟨(some 2), .mv (.t 30), none, none, 0⟩]
abbrev c_needs_r18 : List SOper := [⟨(some 2), .mv (.c .nilsl), none, none, 0⟩]
def c_needs : SCode := (.seq (.reg false c_needs_r1 [1]) (.seq (.seq (.reg false c_needs_r2 [1, 4]) (.block 0 (.seq (.seq (.reg false c_needs_r3 [1, 4, 5]) (.cond (.t 5) .skip (.reg false c_needs_r4 [1, 4, 5]))) (.cond (.t 5) (.seq (.reg false c_needs_r5 [2]) .ret) (.seq (.seq (.reg false c_needs_r6 [1, 4, 11]) (.cond (.t 11) .skip (.seq (.reg false c_needs_r7 [1, 4, 11]) (.cond (.t 11) .skip (.seq (.reg false c_needs_r8 [1, 4, 11]) (.cond (.t 11) .skip (.reg false c_needs_r9 [1, 4, 11]))))))) (.cond (.t 11) (.seq (.reg false c_needs_r10 [2]) .ret) (.seq (.seq (.reg false c_needs_r11 [1, 4, 21]) (.cond (.t 21) .skip (.seq (.reg false c_needs_r12 [1, 4, 21]) (.cond (.t 21) .skip (.seq (.reg false c_needs_r13 [1, 4, 21]) (.cond (.t 21) .skip (.seq (.reg false c_needs_r14 [1, 4, 21]) (.cond (.t 21) .skip (.seq (.reg false c_needs_r15 [1, 4, 21]) (.cond (.t 21) .skip (.reg false c_needs_r16 [1, 21]))))))))))) (.cond (.t 21) (.seq (.reg false c_needs_r17 [2]) .ret) .skip)))))))) (.seq (.reg false c_needs_r18 [2]) .ret)))
theorem comp_c_needs : comp Try.prog 31 ((Try.f146.body).getD .skip) = some c_needs.erase := by kernel_rfl
abbrev c_fieldsOf_r1 : List SOper := [⟨(some 2), .alloc 125 [(.bool false), (.bool false), (.bool false), (.bool false), (.bool false)], none, none, 0⟩,
  ⟨(some 3), .mv (.c (.bool false)), none, none, 0⟩]
abbrev c_fieldsOf_r2 : List SOper := [⟨(some 4), .mv (.c (.bool false)), none, none, 0⟩,
  ⟨(some 5), .mv (.c (.bool false)), none, none, 0⟩,
  ⟨(some 6), .mv (.c (.bool false)), none, none, 0⟩,
  ⟨(some 7), .mv (.c (.bool false)), none, none, 0⟩,
  ⟨(some 8), .mv (.c (.bool false)), none, none, 0⟩]
abbrev c_fieldsOf_r3 : List SOper := [⟨(some 9), .mv (.t 0), none, none, 0⟩]
abbrev c_fieldsOf_r4 : List SOper := [⟨(some 12), .bin .eql (.t 9) (.c (.int .i64 1)), none, none, 0⟩,
  ⟨(some 11), .mv (.t 12), none, none, 0⟩]
abbrev c_fieldsOf_r5 : List SOper := [⟨(some 13), .bin .eql (.t 9) (.c (.int .i64 7)), none, none, 0⟩,
  ⟨(some 11), .mv (.t 13), none, none, 0⟩]
abbrev c_fieldsOf_r6 : List SOper := [⟨(some 14), .bin .eql (.t 9) (.c (.int .i64 8)), none, none, 0⟩,
  ⟨(some 11), .mv (.t 14), none, none, 0⟩]
abbrev c_fieldsOf_r7 : List SOper := [⟨(some 4), .mv (.c (.bool true)), none, none, 0⟩,
  ⟨(some 8), .mv (.c (.bool true)), none, none, 0⟩]
abbrev c_fieldsOf_r8 : List SOper := [⟨(some 16), .bin .eql (.t 9) (.c (.int .i64 2)), none, none, 0⟩,
  ⟨(some 15), .mv (.t 16), none, none, 0⟩]
abbrev c_fieldsOf_r9 : List SOper := [⟨(some 17), .bin .eql (.t 9) (.c (.int .i64 5)), none, none, 0⟩,
  ⟨(some 15), .mv (.t 17), none, none, 0⟩]
abbrev c_fieldsOf_r10 : List SOper := [⟨(some 4), .mv (.c (.bool true)), none, none, 0⟩,
  ⟨(some 5), .mv (.c (.bool true)), none, none, 0⟩]
abbrev c_fieldsOf_r11 : List SOper := [⟨(some 19), .bin .eql (.t 9) (.c (.int .i64 3)), none, none, 0⟩,
  ⟨(some 18), .mv (.t 19), none, none, 0⟩]
abbrev c_fieldsOf_r12 : List SOper := [⟨(some 4), .mv (.c (.bool true)), none, none, 0⟩,
  ⟨(some 5), .mv (.c (.bool true)), none, none, 0⟩,
  ⟨(some 6), .mv (.c (.bool true)), none, none, 0⟩]
abbrev c_fieldsOf_r13 : List SOper := [⟨(some 21), .bin .eql (.t 9) (.c (.int .i64 4)), none, none, 0⟩,
  ⟨(some 20), .mv (.t 21), none, none, 0⟩]
abbrev c_fieldsOf_r14 : List SOper := [⟨(some 22), .bin .eql (.t 9) (.c (.int .i64 15)), none, none, 0⟩,
  ⟨(some 20), .mv (.t 22), none, none, 0⟩]
abbrev c_fieldsOf_r15 : List SOper := [⟨(some 23), .bin .eql (.t 9) (.c (.int .i64 16)), none, none, 0⟩,
  ⟨(some 20), .mv (.t 23), none, none, 0⟩]
abbrev c_fieldsOf_r16 : List SOper := [⟨(some 24), .bin .eql (.t 9) (.c (.int .i64 18)), none, none, 0⟩,
  ⟨(some 20), .mv (.t 24), none, none, 0⟩]
abbrev c_fieldsOf_r17 : List SOper := [⟨(some 4), .mv (.c (.bool true)), none, none, 0⟩]
abbrev c_fieldsOf_r18 : List SOper := [⟨(some 26), .bin .eql (.t 9) (.c (.int .i64 6)), none, none, 0⟩,
  ⟨(some 25), .mv (.t 26), none, none, 0⟩]
abbrev c_fieldsOf_r19 : List SOper := [⟨(some 27), .bin .eql (.t 9) (.c (.int .i64 13)), none, none, 0⟩,
  ⟨(some 25), .mv (.t 27), none, none, 0⟩]
abbrev c_fieldsOf_r20 : List SOper := [⟨(some 4), .mv (.c (.bool true)), none, none, 0⟩,
  ⟨(some 5), .mv (.c (.bool true)), none, none, 0⟩,
  ⟨(some 6), .mv (.c (.bool true)), none, none, 0⟩,
  ⟨(some 8), .mv (.c (.bool true)), none, none, 0⟩]
abbrev c_fieldsOf_r21 : List SOper := [⟨(some 29), .bin .eql (.t 9) (.c (.int .i64 9)), none, none, 0⟩,
  ⟨(some 28), .mv (.t 29), none, none, 0⟩]
abbrev c_fieldsOf_r22 : List SOper := [⟨(some 4), .mv (.c (.bool true)), none, none, 0⟩,
  ⟨(some 7), .mv (.c (.bool true)), none, none, 0⟩,
  ⟨(some 8), .mv (.c (.bool true)), none, none, 0⟩]
abbrev c_fieldsOf_r23 : List SOper := [⟨(some 31), .bin .eql (.t 9) (.c (.int .i64 10)), none, none, 0⟩,
  ⟨(some 30), .mv (.t 31), none, none, 0⟩]
abbrev c_fieldsOf_r24 : List SOper := [⟨(some 32), .bin .eql (.t 9) (.c (.int .i64 11)), none, none, 0⟩,
  ⟨(some 30), .mv (.t 32), none, none, 0⟩]
abbrev c_fieldsOf_r25 : List SOper := [⟨(some 4), .mv (.c (.bool true)), none, none, 0⟩,
  ⟨(some 5), .mv (.c (.bool true)), none, none, 0⟩,
  ⟨(some 7), .mv (.c (.bool true)), none, none, 0⟩]
abbrev c_fieldsOf_r26 : List SOper := [⟨(some 34), .bin .eql (.t 9) (.c (.int .i64 12)), none, none, 0⟩,
  ⟨(some 33), .mv (.t 34), none, none, 0⟩]
abbrev c_fieldsOf_r27 : List SOper := [⟨(some 7), .mv (.c (.bool true)), none, none, 0⟩]
abbrev c_fieldsOf_r28 : List SOper := [⟨(some 36), .bin .eql (.t 9) (.c (.int .i64 14)), none, none, 0⟩,
  ⟨(some 35), .mv (.t 36), none, none, 0⟩]
abbrev c_fieldsOf_r29 : List SOper := [⟨(some 4), .mv (.c (.bool true)), none, none, 0⟩,
  ⟨(some 6), .mv (.c (.bool true)), none, none, 0⟩]
abbrev c_fieldsOf_r30 : List SOper := [⟨(some 38), .bin .eql (.t 9) (.c (.int .i64 17)), none, none, 0⟩,
  ⟨(some 37), .mv (.t 38), none, none, 0⟩]
abbrev c_fieldsOf_r31 : List SOper := [⟨(some 10), .build [(.bool false), (.bool false), (.bool false), (.bool false), (.bool false)] [], none, none, 0⟩,
  ⟨none, .store 5 (.t 2) (.t 10), none, none, 0⟩,
  ⟨(some 3), .mv (.c (.bool false)), none, none, 0⟩]
abbrev c_fieldsOf_r32 : List SOper := [⟨(some 39), .mv (.t 4), none, none, 0⟩,
  ⟨(some 40), .mv (.t 5), none, none, 0⟩,
  ⟨(some 41), .mv (.t 6), none, none, 0⟩,
  ⟨(some 42), .mv (.t 7), none, none, 0⟩,
  ⟨(some 43), .mv (.t 8), none, none, 0⟩,
  ⟨(some 44), .build [(.bool false), (.bool false), (.bool false), (.bool false), (.bool false)] [(0, 1, (.t 39)), (1, 1, (.t 40)), (2, 1, (.t 41)), (3, 1, (.t 42)), (4, 1, (.t 43))], none, none, 0⟩,
  ⟨none, .store 5 (.t 2) (.t 44), none, none, 0⟩,
  ⟨(some 3), .mv (.c (.bool true)), none, none, 0⟩]
def c_fieldsOf : SCode := (.seq (.reg false c_fieldsOf_r1 [0, 2]) (.seq (.reg false c_fieldsOf_r2 [0, 2, 4, 5, 6, 7, 8]) (.seq (.seq (.reg false c_fieldsOf_r3 [2, 4, 5, 6, 7, 8, 9]) (.block 0 (.seq (.seq (.reg false c_fieldsOf_r4 [2, 4, 5, 6, 7, 8, 9, 11]) (.cond (.t 11) .skip (.seq (.reg false c_fieldsOf_r5 [2, 4, 5, 6, 7, 8, 9, 11]) (.cond (.t 11) .skip (.reg false c_fieldsOf_r6 [2, 4, 5, 6, 7, 8, 9, 11]))))) (.cond (.t 11) (.reg false c_fieldsOf_r7 [2, 4, 5, 6, 7, 8]) (.seq (.seq (.reg false c_fieldsOf_r8 [2, 4, 5, 6, 7, 8, 9, 15]) (.cond (.t 15) .skip (.reg false c_fieldsOf_r9 [2, 4, 5, 6, 7, 8, 9, 15]))) (.cond (.t 15) (.reg false c_fieldsOf_r10 [2, 4, 5, 6, 7, 8]) (.seq (.reg false c_fieldsOf_r11 [2, 4, 5, 6, 7, 8, 9, 18]) (.cond (.t 18) (.reg false c_fieldsOf_r12 [2, 4, 5, 6, 7, 8]) (.seq (.seq (.reg false c_fieldsOf_r13 [2, 4, 5, 6, 7, 8, 9, 20]) (.cond (.t 20) .skip (.seq (.reg false c_fieldsOf_r14 [2, 4, 5, 6, 7, 8, 9, 20]) (.cond (.t 20) .skip (.seq (.reg false c_fieldsOf_r15 [2, 4, 5, 6, 7, 8, 9, 20]) (.cond (.t 20) .skip (.reg false c_fieldsOf_r16 [2, 4, 5, 6, 7, 8, 9, 20]))))))) (.cond (.t 20) (.reg false c_fieldsOf_r17 [2, 4, 5, 6, 7, 8]) (.seq (.seq (.reg false c_fieldsOf_r18 [2, 4, 5, 6, 7, 8, 9, 25]) (.cond (.t 25) .skip (.reg false c_fieldsOf_r19 [2, 4, 5, 6, 7, 8, 9, 25]))) (.cond (.t 25) (.reg false c_fieldsOf_r20 [2, 4, 5, 6, 7, 8]) (.seq (.reg false c_fieldsOf_r21 [2, 4, 5, 6, 7, 8, 9, 28]) (.cond (.t 28) (.reg false c_fieldsOf_r22 [2, 4, 5, 6, 7, 8]) (.seq (.seq (.reg false c_fieldsOf_r23 [2, 4, 5, 6, 7, 8, 9, 30]) (.cond (.t 30) .skip (.reg false c_fieldsOf_r24 [2, 4, 5, 6, 7, 8, 9, 30]))) (.cond (.t 30) (.reg false c_fieldsOf_r25 [2, 4, 5, 6, 7, 8]) (.seq (.reg false c_fieldsOf_r26 [2, 4, 5, 6, 7, 8, 9, 33]) (.cond (.t 33) (.reg false c_fieldsOf_r27 [2, 4, 5, 6, 7, 8]) (.seq (.reg false c_fieldsOf_r28 [2, 4, 5, 6, 7, 8, 9, 35]) (.cond (.t 35) (.reg false c_fieldsOf_r29 [2, 4, 5, 6, 7, 8]) (.seq (.reg false c_fieldsOf_r30 [2, 4, 5, 6, 7, 8, 37]) (.cond (.t 37) .skip (.seq (.reg false c_fieldsOf_r31 [2, 3]) .ret))))))))))))))))))))))) (.seq (.reg false c_fieldsOf_r32 [2, 3]) .ret))))
theorem comp_c_fieldsOf : comp Try.prog 45 ((Try.f89.body).getD .skip) = some c_fieldsOf.erase := by kernel_rfl
abbrev c_gfault_r1 : List SOper := [⟨(some 1), .box 63 (.t 0), none, none, 0⟩,
  ⟨(some 2), .alloc 65 [(.int .i64 0), (.int .i64 0)], none, none, 0⟩]
abbrev c_gfault_r2 : List SOper := [⟨(some 11), .loads 3 (.t 1), none, none, 0⟩,
  ⟨(some 12), .mv (.c .any), some ((.c (.fn (.func 48) [] [])), [(.t 11)]), none, 0⟩,
  ⟨(some 3), .alloc 65 [(.int .i64 0), (.int .i64 0)], none, none, 0⟩,
  ⟨none, .store 2 (.t 3) (.t 12), none, none, 0⟩]
abbrev c_gfault_r3 : List SOper := [⟨(some 13), .faddr 0 (.t 3), none, none, 0⟩,
  ⟨(some 14), .load (.t 13), none, none, 0⟩,
  ⟨(some 15), .bin .neq (.t 14) (.c (.int .i64 0)), none, none, 0⟩]
abbrev c_gfault_r4 : List SOper := [⟨(some 16), .loads 2 (.t 3), none, none, 0⟩,
  ⟨none, .store 2 (.t 2) (.t 16), none, none, 0⟩]
abbrev c_gfault_r5 : List SOper := [⟨(some 17), .faddr 2 (.t 1), none, none, 0⟩,
  ⟨(some 18), .load (.t 17), none, none, 0⟩,
  ⟨(some 19), .len false (.t 18), none, none, 0⟩,
  ⟨(some 20), .bin .add (.t 19) (.c (.int .i64 1)), none, none, 0⟩,
  ⟨(some 21), .mkslice 162 6 128 [(.bool false), .nilsl, .nilsl, .nilsl, .nilsl, .nilsl] (.t 20) (.t 20), none, none, 0⟩,
  ⟨(some 4), .mv (.t 21), none, none, 0⟩]
abbrev c_gfault_r6 : List SOper := [⟨(some 22), .mv (.t 4), none, none, 0⟩,
  ⟨(some 23), .faddr 0 (.t 1), none, none, 0⟩,
  ⟨(some 24), .load (.t 23), none, none, 0⟩,
  ⟨(some 25), .mv (.c .any), some ((.c (.fn (.func 118) [] [])), [(.t 24)]), none, 0⟩,
  ⟨(some 26), .iaddr 6 (.t 22) (.c (.int .i64 0)), none, none, 0⟩,
  ⟨none, .store 6 (.t 26) (.t 25), none, none, 0⟩]
abbrev c_gfault_r7 : List SOper := [⟨(some 5), .mv (.c (.int .i64 0)), none, none, 0⟩]
abbrev c_gfault_r8 : List SOper := [⟨(some 27), .mv (.t 5), none, none, 0⟩,
  ⟨(some 28), .faddr 2 (.t 1), none, none, 0⟩,
  ⟨(some 29), .load (.t 28), none, none, 0⟩,
  ⟨(some 30), .len false (.t 29), none, none, 0⟩,
  ⟨(some 31), .bin .lss (.t 27) (.t 30), none, none, 0⟩]
abbrev c_gfault_r9 : List SOper := [⟨(some 34), .mv (.t 4), none, none, 0⟩,
  ⟨(some 35), .mv (.t 5), none, none, 0⟩,
  ⟨(some 36), .iaddr 6 (.t 34) (.t 35), none, none, 0⟩,
  ⟨(some 37), .faddr 0 (.t 36), none, none, 0⟩,
  ⟨(some 38), .load (.t 37), none, none, 0⟩,
  ⟨(some 39), .un .not (.t 38), none, none, 0⟩]
abbrev c_gfault_r10 : List SOper := [⟨(some 40), .faddr 2 (.t 1), none, none, 0⟩,
  ⟨(some 41), .load (.t 40), none, none, 0⟩,
  ⟨(some 42), .mv (.t 5), none, none, 0⟩,
  ⟨(some 43), .iaddr 6 (.t 41) (.t 42), none, none, 0⟩,
  ⟨(some 44), .loads 6 (.t 43), none, none, 0⟩,
  ⟨(some 6), .alloc 56 [(.int .i64 0), (.int .i64 0), (.int .i64 0), (.int .i64 0), (.int .i64 0), (.int .u64 0)], none, none, 0⟩,
  ⟨none, .store 6 (.t 6) (.t 44), none, none, 0⟩]
abbrev c_gfault_r11 : List SOper := [⟨(some 46), .loads 3 (.t 1), none, none, 0⟩,
  ⟨(some 47), .loads 6 (.t 6), none, none, 0⟩,
  ⟨(some 48), .mv (.t 4), none, none, 0⟩,
  ⟨(some 49), .mv (.t 5), none, none, 0⟩,
  ⟨(some 50), .iaddr 6 (.t 48) (.t 49), none, none, 12⟩,
  ⟨(some 51), .loads 6 (.t 50), none, none, 28⟩,
  ⟨(some 52), .mv (.c .any), some ((.c (.fn (.func 119) [] [])), [(.t 46), (.t 47), (.t 51)]), none, 63⟩,
  ⟨(some 45), .mv (.t 52), none, none, 127⟩,
  ⟨(some 53), .extr (.t 45) 0, none, none, 255⟩,
  ⟨(some 54), .extr (.t 45) 1, none, none, 255⟩,
  ⟨(some 7), .alloc 162 [(.bool false), .nilsl, .nilsl, .nilsl, .nilsl, .nilsl], none, none, 0⟩,
  ⟨none, .store 6 (.t 7) (.t 53), none, none, 1535⟩,
  ⟨(some 8), .mv (.t 54), none, none, 4095⟩]
abbrev c_gfault_r12 : List SOper := [⟨(some 55), .mv (.t 4), none, none, 0⟩,
  ⟨(some 56), .mv (.t 5), none, none, 0⟩,
  ⟨(some 57), .build [(.bool false), .nilsl, .nilsl, .nilsl, .nilsl, .nilsl] [], none, none, 0⟩,
  ⟨(some 58), .iaddr 6 (.t 55) (.t 56), none, none, 0⟩,
  ⟨none, .store 6 (.t 58) (.t 57), none, none, 0⟩]
abbrev c_gfault_r13 : List SOper := [⟨(some 59), .mv (.t 8), none, none, 0⟩,
  ⟨(some 60), .bin .neq (.t 59) (.c (.int .i64 0)), none, none, 0⟩]
abbrev c_gfault_r14 : List SOper := [⟨(some 61), .mv (.t 8), none, none, 0⟩,
  ⟨(some 62), .mv (.t 5), none, none, 0⟩,
  ⟨(some 63), .mv (.c .any), some ((.c (.fn (.func 90) [] [])), [(.t 61), (.t 62)]), none, 0⟩,
  ⟨none, .store 2 (.t 2) (.t 63), none, none, 0⟩]
abbrev c_gfault_r15 : List SOper := [⟨(some 65), .faddr 0 (.t 6), none, none, 0⟩,
  ⟨(some 66), .load (.t 65), none, none, 0⟩,
  ⟨(some 67), .mv (.c .any), some ((.c (.fn (.func 89) [] [])), [(.t 66)]), none, 0⟩,
  ⟨(some 64), .mv (.t 67), none, none, 0⟩,
  ⟨(some 68), .extr (.t 64) 0, none, none, 0⟩,
  ⟨(some 69), .extr (.t 64) 1, none, none, 0⟩,
  ⟨(some 9), .alloc 125 [(.bool false), (.bool false), (.bool false), (.bool false), (.bool false)], none, none, 0⟩,
  ⟨none, .store 5 (.t 9) (.t 68), none, none, 0⟩,
  ⟨(some 10), .mv (.t 69), none, none, 0⟩]
abbrev c_gfault_r16 : List SOper := [⟨(some 70), .iarr 5 1 (.t 9) (.c (.int .i64 3)), none, none, 0⟩,
  ⟨(some 71), .load (.t 70), none, none, 0⟩]
abbrev c_gfault_r17 : List SOper := [⟨(some 72), .mv (.t 4), none, none, 0⟩,
  ⟨(some 73), .mv (.t 5), none, none, 0⟩,
  ⟨(some 74), .bin .add (.t 73) (.c (.int .i64 1)), none, none, 2⟩,
  ⟨(some 75), .faddr 4 (.t 6), none, none, 0⟩,
  ⟨(some 76), .load (.t 75), none, none, 8⟩,
  ⟨(some 77), .bin .add (.t 74) (.t 76), none, none, 30⟩,
  ⟨(some 78), .mv (.t 4), none, none, 0⟩,
  ⟨(some 79), .mv (.t 5), none, none, 0⟩,
  ⟨(some 80), .bin .add (.t 79) (.c (.int .i64 1)), none, none, 128⟩,
  ⟨(some 81), .faddr 4 (.t 6), none, none, 0⟩,
  ⟨(some 82), .load (.t 81), none, none, 512⟩,
  ⟨(some 83), .bin .add (.t 80) (.t 82), none, none, 1920⟩,
  ⟨(some 84), .iaddr 6 (.t 78) (.t 83), none, none, 4032⟩,
  ⟨(some 85), .loads 6 (.t 84), none, none, 8128⟩,
  ⟨(some 86), .loads 6 (.t 7), none, none, 0⟩,
  ⟨(some 87), .mv (.c .any), some ((.c (.fn (.func 120) [] [])), [(.t 85), (.t 86)]), none, 32704⟩,
  ⟨(some 88), .iaddr 6 (.t 72) (.t 77), none, none, 65535⟩,
  ⟨none, .store 6 (.t 88) (.t 87), none, none, 131071⟩]
abbrev c_gfault_r18 : List SOper := [⟨(some 89), .faddr 0 (.t 6), none, none, 0⟩,
  ⟨(some 90), .load (.t 89), none, none, 0⟩,
  ⟨(some 91), .bin .eql (.t 90) (.c (.int .i64 12)), none, none, 0⟩,
  ⟨(some 92), .mv (.t 91), none, none, 0⟩,
  ⟨(some 93), .faddr 0 (.t 6), none, (some (92, false)), 0⟩,
  ⟨(some 94), .load (.t 93), none, (some (92, false)), 0⟩,
  ⟨(some 95), .bin .eql (.t 94) (.c (.int .i64 16)), none, (some (92, false)), 0⟩,
  ⟨(some 96), .pick (.t 92) (.c (.bool true)) (.t 95), none, none, 0⟩,
  ⟨(some 97), .mv (.t 96), none, none, 0⟩,
  ⟨(some 98), .faddr 0 (.t 6), none, (some (97, false)), 0⟩,
  ⟨(some 99), .load (.t 98), none, (some (97, false)), 0⟩,
  ⟨(some 100), .bin .eql (.t 99) (.c (.int .i64 17)), none, (some (97, false)), 0⟩,
  ⟨(some 101), .pick (.t 97) (.c (.bool true)) (.t 100), none, none, 0⟩]
abbrev c_gfault_r19 : List SOper := [⟨(some 102), .faddr 0 (.t 6), none, none, 0⟩,
  ⟨(some 103), .load (.t 102), none, none, 1⟩,
  ⟨(some 104), .bin .eql (.t 103) (.c (.int .i64 9)), none, none, 3⟩,
  ⟨(some 105), .mv (.t 104), none, none, 7⟩,
  ⟨(some 106), .faddr 4 (.t 7), none, (some (105, true)), 15⟩,
  ⟨(some 107), .load (.t 106), none, (some (105, true)), 31⟩,
  ⟨(some 108), .faddr 1 (.t 6), none, (some (105, true)), 15⟩,
  ⟨(some 109), .load (.t 108), none, (some (105, true)), 79⟩,
  ⟨(some 110), .iaddr 1 (.t 107) (.t 109), none, (some (105, true)), 255⟩,
  ⟨(some 111), .load (.t 110), none, (some (105, true)), 511⟩,
  ⟨(some 112), .faddr 5 (.t 6), none, (some (105, true)), 15⟩,
  ⟨(some 113), .load (.t 112), none, (some (105, true)), 1039⟩,
  ⟨(some 114), .conv .i64 (.t 113), none, (some (105, true)), 3087⟩,
  ⟨(some 115), .bin .lss (.t 111) (.t 114), none, (some (105, true)), 8191⟩,
  ⟨(some 116), .pick (.t 105) (.t 115) (.c (.bool false)), none, none, 16383⟩]
abbrev c_gfault_r20 : List SOper := [⟨(some 117), .faddr 4 (.t 7), none, none, 0⟩,
  ⟨(some 118), .load (.t 117), none, none, 0⟩,
  ⟨(some 119), .faddr 1 (.t 6), none, none, 0⟩,
  ⟨(some 120), .load (.t 119), none, none, 0⟩,
  ⟨(some 121), .faddr 5 (.t 6), none, none, 0⟩,
  ⟨(some 122), .load (.t 121), none, none, 0⟩,
  ⟨(some 123), .conv .i64 (.t 122), none, none, 0⟩,
  ⟨(some 124), .iaddr 1 (.t 118) (.t 120), none, none, 0⟩,
  ⟨none, .store 1 (.t 124) (.t 123), none, none, 0⟩]
abbrev c_gfault_r21 : List SOper := [⟨(some 125), .mv (.t 4), none, none, 0⟩,
  ⟨(some 126), .mv (.t 5), none, none, 0⟩,
  ⟨(some 127), .bin .add (.t 126) (.c (.int .i64 1)), none, none, 2⟩,
  ⟨(some 128), .mv (.t 4), none, none, 0⟩,
  ⟨(some 129), .mv (.t 5), none, none, 0⟩,
  ⟨(some 130), .bin .add (.t 129) (.c (.int .i64 1)), none, none, 16⟩,
  ⟨(some 131), .iaddr 6 (.t 128) (.t 130), none, none, 56⟩,
  ⟨(some 132), .loads 6 (.t 131), none, none, 120⟩,
  ⟨(some 133), .loads 6 (.t 7), none, none, 0⟩,
  ⟨(some 134), .mv (.c .any), some ((.c (.fn (.func 120) [] [])), [(.t 132), (.t 133)]), none, 504⟩,
  ⟨(some 135), .iaddr 6 (.t 125) (.t 127), none, none, 1023⟩,
  ⟨none, .store 6 (.t 135) (.t 134), none, none, 2047⟩]
abbrev c_gfault_r22 : List SOper := [⟨(some 32), .mv (.t 5), none, none, 0⟩,
  ⟨(some 33), .bin .add (.t 32) (.c (.int .i64 1)), none, none, 0⟩,
  ⟨(some 5), .mv (.t 33), none, none, 0⟩]
def c_gfault_l1 : SCode := (.seq (.seq (.reg false c_gfault_r8 [1, 2, 4, 5, 31]) (.cond (.t 31) .skip (.exit 0))) (.seq (.block 1 (.seq (.seq (.reg false c_gfault_r9 [1, 2, 4, 5, 39]) (.cond (.t 39) (.exit 1) .skip)) (.seq (.reg false c_gfault_r10 [1, 2, 4, 5, 6]) (.seq (.reg true c_gfault_r11 [1, 2, 4, 5, 6, 7, 8]) (.seq (.reg false c_gfault_r12 [1, 2, 4, 5, 6, 7, 8]) (.seq (.seq (.reg false c_gfault_r13 [1, 2, 4, 5, 6, 7, 8, 60]) (.cond (.t 60) (.seq (.reg false c_gfault_r14 [2]) .ret) .skip)) (.seq (.reg false c_gfault_r15 [1, 2, 4, 5, 6, 7, 9]) (.seq (.seq (.reg false c_gfault_r16 [1, 2, 4, 5, 6, 7, 71]) (.cond (.t 71) (.reg true c_gfault_r17 [1, 2, 4, 5, 6, 7]) .skip)) (.seq (.seq (.reg false c_gfault_r18 [1, 2, 4, 5, 6, 7, 101]) (.cond (.t 101) (.exit 1) .skip)) (.seq (.seq (.reg true c_gfault_r19 [1, 2, 4, 5, 6, 7, 116]) (.cond (.t 116) (.reg false c_gfault_r20 [1, 2, 4, 5, 7]) .skip)) (.reg true c_gfault_r21 [1, 2, 4, 5]))))))))))) (.reg false c_gfault_r22 [1, 2, 4, 5])))
abbrev c_gfault_r23 : List SOper := [⟨(some 136), .build [(.int .i64 0), (.int .i64 0)] [], none, none, 0⟩,
  ⟨none, .store 2 (.t 2) (.t 136), none, none, 0⟩]
def c_gfault : SCode := (.seq (.reg false c_gfault_r1 [1, 2]) (.seq (.seq (.reg false c_gfault_r2 [1, 2, 3]) (.seq (.reg false c_gfault_r3 [1, 2, 3, 15]) (.cond (.t 15) (.seq (.reg false c_gfault_r4 [2]) .ret) .skip))) (.seq (.reg false c_gfault_r5 [1, 2, 4]) (.seq (.reg false c_gfault_r6 [1, 2, 4]) (.seq (.seq (.reg false c_gfault_r7 [1, 2, 4, 5]) (.block 0 (.loop c_gfault_l1))) (.seq (.reg false c_gfault_r23 [2]) .ret))))))
theorem comp_c_gfault : comp Try.prog 137 ((Try.f69.body).getD .skip) = some c_gfault.erase := by kernel_rfl
abbrev c_gbegun_r1 : List SOper := [⟨(some 0), .mv (.c (.bool false)), none, none, 0⟩]
abbrev c_gbegun_r2 : List SOper := [⟨(some 3), .build [(.int .i64 0), (.int .i64 0), (.int .i64 0), (.int .i64 0), (.int .i64 0), (.int .u64 0)] [(0, 1, (.c (.int .i64 1)))], none, none, 0⟩,
  ⟨(some 4), .build [(.int .i64 0), (.int .i64 0), (.int .i64 0), (.int .i64 0), (.int .i64 0), (.int .u64 0)] [(0, 1, (.c (.int .i64 9))), (5, 1, (.c (.int .u64 1))), (4, 1, (.c (.int .i64 1)))], none, none, 0⟩,
  ⟨(some 5), .build [(.int .i64 0), (.int .i64 0), (.int .i64 0), (.int .i64 0), (.int .i64 0), (.int .u64 0)] [(0, 1, (.c (.int .i64 6))), (1, 1, (.c (.int .i64 1))), (3, 1, (.c (.int .i64 1)))], none, none, 0⟩,
  ⟨(some 6), .build [(.int .i64 0), (.int .i64 0), (.int .i64 0), (.int .i64 0), (.int .i64 0), (.int .u64 0)] [(0, 1, (.c (.int .i64 17)))], none, none, 0⟩,
  ⟨(some 7), .mkrow 56 6 4 [(.int .i64 0), (.int .i64 0), (.int .i64 0), (.int .i64 0), (.int .i64 0), (.int .u64 0)] [(0, (.t 3)), (1, (.t 4)), (2, (.t 5)), (3, (.t 6))], none, none, 0⟩,
  ⟨(some 8), .build [(.int .i64 0), .nilsl, .nilsl] [(2, 1, (.t 7))], none, none, 0⟩,
  ⟨(some 1), .alloc 63 [(.int .i64 0), .nilsl, .nilsl], none, none, 0⟩,
  ⟨none, .store 3 (.t 1) (.t 8), none, none, 0⟩]
abbrev c_gbegun_r3 : List SOper := [⟨(some 9), .loads 3 (.t 1), none, none, 0⟩,
  ⟨(some 10), .mv (.c .any), some ((.c (.fn (.func 68) [] [])), [(.t 9)]), none, 0⟩,
  ⟨(some 2), .alloc 65 [(.int .i64 0), (.int .i64 0)], none, none, 0⟩,
  ⟨none, .store 2 (.t 2) (.t 10), none, none, 0⟩]
abbrev c_gbegun_r4 : List SOper := [⟨(some 11), .faddr 2 (.t 1), none, none, 0⟩,
  ⟨(some 12), .load (.t 11), none, none, 0⟩,
  ⟨(some 13), .build [(.int .i64 0), (.int .i64 0), (.int .i64 0), (.int .i64 0), (.int .i64 0), (.int .u64 0)] [(0, 1, (.c (.int .i64 1))), (1, 1, (.c (.int .i64 2)))], none, none, 0⟩,
  ⟨(some 14), .iaddr 6 (.t 12) (.c (.int .i64 1)), none, none, 0⟩,
  ⟨none, .store 6 (.t 14) (.t 13), none, none, 0⟩]
abbrev c_gbegun_r5 : List SOper := [⟨(some 15), .faddr 0 (.t 2), none, none, 0⟩,
  ⟨(some 16), .load (.t 15), none, none, 0⟩,
  ⟨(some 17), .bin .eql (.t 16) (.c (.int .i64 0)), none, none, 0⟩,
  ⟨(some 18), .mv (.t 17), none, none, 0⟩,
  ⟨(some 19), .loads 3 (.t 1), none, (some (18, true)), 0⟩,
  ⟨(some 20), .mv (.c .any), some ((.c (.fn (.func 68) [] [])), [(.t 19)]), (some (18, true)), 0⟩,
  ⟨(some 21), .build [(.int .i64 0), (.int .i64 0)] [(0, 1, (.c (.int .i64 16))), (1, 1, (.c (.int .i64 2)))], none, (some (18, true)), 0⟩,
  ⟨(some 22), .eqs [1, 1] false (.t 20) (.t 21), none, (some (18, true)), 0⟩,
  ⟨(some 23), .pick (.t 18) (.t 22) (.c (.bool false)), none, none, 0⟩,
  ⟨(some 0), .mv (.t 23), none, none, 0⟩]
def c_gbegun : SCode := (.seq (.reg false c_gbegun_r1 []) (.seq (.reg false c_gbegun_r2 [1]) (.seq (.reg false c_gbegun_r3 [1, 2]) (.seq (.reg false c_gbegun_r4 [1, 2]) (.seq (.reg false c_gbegun_r5 [0]) .ret)))))
theorem comp_c_gbegun : comp Try.prog 24 ((Try.f67.body).getD .skip) = some c_gbegun.erase := by kernel_rfl
abbrev c_gdoesL_r1 : List SOper := [⟨(some 1), .box 63 (.t 0), none, none, 0⟩,
  ⟨(some 2), .mv (.c (.bool false)), none, none, 0⟩]
abbrev c_gdoesL_r2 : List SOper := [⟨(some 4), .mv (.c .any), some ((.c (.fn (.func 67) [] [])), []), none, 0⟩,
  ⟨(some 5), .un .not (.t 4), none, none, 0⟩]
abbrev c_gdoesL_r3 : List SOper := [⟨(some 2), .mv (.c (.bool false)), none, none, 0⟩]
abbrev c_gdoesL_r4 : List SOper := [⟨(some 6), .loads 3 (.t 1), none, none, 0⟩,
  ⟨(some 7), .mv (.c .any), some ((.c (.fn (.func 46) [] [])), [(.t 6)]), none, 0⟩]
abbrev c_gdoesL_r5 : List SOper := [⟨(some 2), .mv (.c (.bool true)), none, none, 0⟩]
abbrev c_gdoesL_r6 : List SOper := [⟨(some 8), .loads 3 (.t 1), none, none, 0⟩,
  ⟨(some 9), .mv (.c .any), some ((.c (.fn (.func 47) [] [])), [(.t 8)]), none, 0⟩,
  ⟨(some 3), .alloc 63 [(.int .i64 0), .nilsl, .nilsl], none, none, 0⟩,
  ⟨none, .store 3 (.t 3) (.t 9), none, none, 0⟩]
abbrev c_gdoesL_r7 : List SOper := [⟨(some 10), .loads 3 (.t 3), none, none, 0⟩,
  ⟨(some 11), .mv (.c .any), some ((.c (.fn (.func 68) [] [])), [(.t 10)]), none, 1⟩,
  ⟨(some 12), .loads 3 (.t 1), none, none, 0⟩,
  ⟨(some 13), .mv (.c .any), some ((.c (.fn (.func 69) [] [])), [(.t 12)]), none, 7⟩,
  ⟨(some 14), .eqs [1, 1] false (.t 11) (.t 13), none, none, 15⟩,
  ⟨(some 15), .mv (.t 14), none, none, 31⟩,
  ⟨(some 16), .loads 3 (.t 3), none, (some (15, true)), 63⟩,
  ⟨(some 17), .loads 3 (.t 1), none, (some (15, true)), 63⟩,
  ⟨(some 18), .mv (.c .any), some ((.c (.fn (.func 35) [] [])), [(.t 16), (.t 17)]), (some (15, true)), 255⟩,
  ⟨(some 19), .pick (.t 15) (.t 18) (.c (.bool false)), none, none, 511⟩,
  ⟨(some 2), .mv (.t 19), none, none, 1023⟩]
def c_gdoesL : SCode := (.seq (.reg false c_gdoesL_r1 [1]) (.seq (.seq (.reg false c_gdoesL_r2 [1, 5]) (.cond (.t 5) (.seq (.reg false c_gdoesL_r3 [2]) .ret) .skip)) (.seq (.seq (.reg false c_gdoesL_r4 [1, 7]) (.cond (.t 7) (.seq (.reg false c_gdoesL_r5 [2]) .ret) .skip)) (.seq (.reg false c_gdoesL_r6 [1, 3]) (.seq (.reg true c_gdoesL_r7 [2]) .ret)))))
theorem comp_c_gdoesL : comp Try.prog 20 ((Try.f11.body).getD .skip) = some c_gdoesL.erase := by kernel_rfl
abbrev c_gmore_r1 : List SOper := [⟨(some 2), .box 63 (.t 0), none, none, 0⟩,
  ⟨(some 4), .mv (.c (.bool false)), none, none, 0⟩]
abbrev c_gmore_r2 : List SOper := [⟨(some 8), .mv (.c .any), some ((.c (.fn (.func 67) [] [])), []), none, 0⟩,
  ⟨(some 9), .un .not (.t 8), none, none, 0⟩]
abbrev c_gmore_r3 : List SOper := [⟨(some 4), .mv (.c (.bool false)), none, none, 0⟩]
abbrev c_gmore_r4 : List SOper := [⟨(some 10), .loads 3 (.t 2), none, none, 0⟩,
  ⟨(some 11), .mv (.c .any), some ((.c (.fn (.func 46) [] [])), [(.t 10)]), none, 0⟩]
abbrev c_gmore_r5 : List SOper := [⟨(some 4), .mv (.c (.bool true)), none, none, 0⟩]
abbrev c_gmore_r6 : List SOper := [⟨(some 12), .loads 3 (.t 2), none, none, 0⟩,
  ⟨(some 13), .mv (.c .any), some ((.c (.fn (.func 68) [] [])), [(.t 12)]), none, 0⟩,
  ⟨(some 14), .field 0 none (.t 13), none, none, 0⟩,
  ⟨(some 15), .bin .neq (.t 14) (.c (.int .i64 0)), none, none, 0⟩]
abbrev c_gmore_r7 : List SOper := [⟨(some 4), .mv (.c (.bool true)), none, none, 0⟩]
abbrev c_gmore_r8 : List SOper := [⟨(some 16), .mv (.t 1), none, none, 0⟩,
  ⟨(some 17), .conv .u64 (.t 16), none, none, 0⟩,
  ⟨(some 18), .bin .rem (.t 17) (.c (.int .u64 700)), none, none, 0⟩,
  ⟨(some 5), .mv (.t 18), none, none, 0⟩]
abbrev c_gmore_r9 : List SOper := [⟨(some 19), .loads 3 (.t 2), none, none, 0⟩,
  ⟨(some 20), .mv (.c .any), some ((.c (.fn (.func 47) [] [])), [(.t 19)]), none, 0⟩,
  ⟨(some 6), .alloc 63 [(.int .i64 0), .nilsl, .nilsl], none, none, 0⟩,
  ⟨none, .store 3 (.t 6) (.t 20), none, none, 0⟩]
abbrev c_gmore_r10 : List SOper := [⟨(some 7), .mv (.c (.int .i64 0)), none, none, 0⟩]
abbrev c_gmore_r11 : List SOper := [⟨(some 21), .mv (.t 7), none, none, 0⟩,
  ⟨(some 22), .faddr 2 (.t 6), none, none, 0⟩,
  ⟨(some 23), .load (.t 22), none, none, 0⟩,
  ⟨(some 24), .len false (.t 23), none, none, 0⟩,
  ⟨(some 25), .bin .lss (.t 21) (.t 24), none, none, 0⟩]
abbrev c_gmore_r12 : List SOper := [⟨(some 28), .faddr 2 (.t 6), none, none, 0⟩,
  ⟨(some 29), .load (.t 28), none, none, 0⟩,
  ⟨(some 30), .mv (.t 7), none, none, 0⟩,
  ⟨(some 31), .iaddr 6 (.t 29) (.t 30), none, none, 0⟩,
  ⟨(some 32), .faddr 0 (.t 31), none, none, 0⟩,
  ⟨(some 33), .load (.t 32), none, none, 0⟩,
  ⟨(some 34), .bin .eql (.t 33) (.c (.int .i64 9)), none, none, 0⟩]
abbrev c_gmore_r13 : List SOper := [⟨(some 35), .faddr 2 (.t 6), none, none, 0⟩,
  ⟨(some 36), .load (.t 35), none, none, 1⟩,
  ⟨(some 37), .mv (.t 7), none, none, 0⟩,
  ⟨(some 38), .faddr 2 (.t 6), none, none, 0⟩,
  ⟨(some 39), .load (.t 38), none, none, 8⟩,
  ⟨(some 40), .mv (.t 7), none, none, 0⟩,
  ⟨(some 41), .iaddr 6 (.t 39) (.t 40), none, none, 56⟩,
  ⟨(some 42), .faddr 5 (.t 41), none, none, 120⟩,
  ⟨(some 43), .load (.t 42), none, none, 248⟩,
  ⟨(some 44), .mv (.t 5), none, none, 0⟩,
  ⟨(some 45), .bin .add (.t 43) (.t 44), none, none, 1016⟩,
  ⟨(some 46), .mm false (.t 45) (.c (.int .u64 600)), none, none, 2040⟩,
  ⟨(some 47), .iaddr 6 (.t 36) (.t 37), none, none, 4095⟩,
  ⟨(some 48), .faddr 5 (.t 47), none, none, 8191⟩,
  ⟨none, .store 1 (.t 48) (.t 46), none, none, 16383⟩]
abbrev c_gmore_r14 : List SOper := [⟨(some 26), .mv (.t 7), none, none, 0⟩,
  ⟨(some 27), .bin .add (.t 26) (.c (.int .i64 1)), none, none, 0⟩,
  ⟨(some 7), .mv (.t 27), none, none, 0⟩]
def c_gmore_l1 : SCode := (.seq (.seq (.reg false c_gmore_r11 [5, 6, 7, 25]) (.cond (.t 25) .skip (.exit 0))) (.seq (.block 1 (.seq (.reg false c_gmore_r12 [5, 6, 7, 34]) (.cond (.t 34) (.reg true c_gmore_r13 [5, 6, 7]) .skip))) (.reg false c_gmore_r14 [5, 6, 7])))
abbrev c_gmore_r15 : List SOper := [⟨(some 49), .faddr 0 (.t 6), none, none, 0⟩,
  ⟨(some 50), .load (.t 49), none, none, 0⟩,
  ⟨(some 51), .mv (.t 5), none, none, 0⟩,
  ⟨(some 52), .conv .i64 (.t 51), none, none, 0⟩,
  ⟨(some 53), .bin .add (.t 50) (.t 52), none, none, 0⟩,
  ⟨(some 54), .mm false (.t 53) (.c (.int .i64 96)), none, none, 0⟩,
  ⟨(some 55), .faddr 0 (.t 6), none, none, 0⟩,
  ⟨none, .store 1 (.t 55) (.t 54), none, none, 0⟩]
abbrev c_gmore_r16 : List SOper := [⟨(some 56), .loads 3 (.t 6), none, none, 0⟩,
  ⟨(some 57), .mv (.c .any), some ((.c (.fn (.func 68) [] [])), [(.t 56)]), none, 0⟩,
  ⟨(some 58), .field 0 none (.t 57), none, none, 0⟩,
  ⟨(some 59), .bin .eql (.t 58) (.c (.int .i64 0)), none, none, 0⟩,
  ⟨(some 4), .mv (.t 59), none, none, 0⟩]
def c_gmore : SCode := (.seq (.reg false c_gmore_r1 [1, 2]) (.seq (.seq (.reg false c_gmore_r2 [1, 2, 9]) (.cond (.t 9) (.seq (.reg false c_gmore_r3 [4]) .ret) .skip)) (.seq (.seq (.reg false c_gmore_r4 [1, 2, 11]) (.cond (.t 11) (.seq (.reg false c_gmore_r5 [4]) .ret) .skip)) (.seq (.seq (.reg false c_gmore_r6 [1, 2, 15]) (.cond (.t 15) (.seq (.reg false c_gmore_r7 [4]) .ret) .skip)) (.seq (.reg false c_gmore_r8 [2, 5]) (.seq (.reg false c_gmore_r9 [5, 6]) (.seq (.seq (.reg false c_gmore_r10 [5, 6, 7]) (.block 0 (.loop c_gmore_l1))) (.seq (.reg false c_gmore_r15 [6]) (.seq (.reg false c_gmore_r16 [4]) .ret)))))))))
theorem comp_c_gmore : comp Try.prog 60 ((Try.f12.body).getD .skip) = some c_gmore.erase := by kernel_rfl
end Go.Proofs.Ytfakdapglbgokaa
