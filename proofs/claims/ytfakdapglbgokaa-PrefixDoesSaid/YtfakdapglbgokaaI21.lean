/-
  Texts joined: XCrow. No condition.
-/
import Derived.Test.YtfakdapglbgokaaProg
import Derived.Test.YtfakdapglbgokaaI16
/-
  The plain machine's code of functions (printed by scode.py). No condition.
-/
namespace Go.Proofs.Ytfakdapglbgokaa
set_option linter.all false
open Go.RowKit
abbrev c_less_r1 : List SOper := [⟨(some 4), .mv (.c (.int .i64 0)), none, none, 0⟩]
abbrev c_less_r2 : List SOper := [⟨(some 5), .mv (.c (.int .i64 0)), none, none, 0⟩]
abbrev c_less_r3 : List SOper := [⟨(some 6), .mv (.t 5), none, none, 0⟩,
  ⟨(some 7), .mv (.t 0), none, none, 0⟩,
  ⟨(some 8), .len false (.t 7), none, none, 0⟩,
  ⟨(some 9), .bin .lss (.t 6) (.t 8), none, none, 0⟩,
  ⟨(some 10), .mv (.t 9), none, none, 0⟩,
  ⟨(some 11), .mv (.t 5), none, (some (10, true)), 0⟩,
  ⟨(some 12), .mv (.t 1), none, (some (10, true)), 0⟩,
  ⟨(some 13), .len false (.t 12), none, (some (10, true)), 0⟩,
  ⟨(some 14), .bin .lss (.t 11) (.t 13), none, (some (10, true)), 0⟩,
  ⟨(some 15), .pick (.t 10) (.t 14) (.c (.bool false)), none, none, 0⟩]
abbrev c_less_r4 : List SOper := [⟨(some 18), .mv (.t 0), none, none, 0⟩,
  ⟨(some 19), .mv (.t 5), none, none, 0⟩,
  ⟨(some 20), .iaddr 1 (.t 18) (.t 19), none, none, 3⟩,
  ⟨(some 21), .load (.t 20), none, none, 7⟩,
  ⟨(some 22), .mv (.t 1), none, none, 0⟩,
  ⟨(some 23), .mv (.t 5), none, none, 0⟩,
  ⟨(some 24), .iaddr 1 (.t 22) (.t 23), none, none, 48⟩,
  ⟨(some 25), .load (.t 24), none, none, 112⟩,
  ⟨(some 26), .bin .lss (.t 21) (.t 25), none, none, 255⟩]
abbrev c_less_r5 : List SOper := [⟨(some 4), .mv (.c (.int .i64 (-1))), none, none, 0⟩]
abbrev c_less_r6 : List SOper := [⟨(some 27), .mv (.t 0), none, none, 0⟩,
  ⟨(some 28), .mv (.t 5), none, none, 0⟩,
  ⟨(some 29), .iaddr 1 (.t 27) (.t 28), none, none, 3⟩,
  ⟨(some 30), .load (.t 29), none, none, 7⟩,
  ⟨(some 31), .mv (.t 1), none, none, 0⟩,
  ⟨(some 32), .mv (.t 5), none, none, 0⟩,
  ⟨(some 33), .iaddr 1 (.t 31) (.t 32), none, none, 48⟩,
  ⟨(some 34), .load (.t 33), none, none, 112⟩,
  ⟨(some 35), .bin .gtr (.t 30) (.t 34), none, none, 255⟩]
abbrev c_less_r7 : List SOper := [⟨(some 4), .mv (.c (.int .i64 1)), none, none, 0⟩]
abbrev c_less_r8 : List SOper := [⟨(some 16), .mv (.t 5), none, none, 0⟩,
  ⟨(some 17), .bin .add (.t 16) (.c (.int .i64 1)), none, none, 0⟩,
  ⟨(some 5), .mv (.t 17), none, none, 0⟩]
def c_less_l1 : SCode := (.seq (.seq (.reg false c_less_r3 [0, 1, 5, 15]) (.cond (.t 15) .skip (.exit 0))) (.seq (.block 1 (.seq (.seq (.reg true c_less_r4 [0, 1, 5, 26]) (.cond (.t 26) (.seq (.reg false c_less_r5 [4]) .ret) .skip)) (.seq (.reg true c_less_r6 [0, 1, 5, 35]) (.cond (.t 35) (.seq (.reg false c_less_r7 [4]) .ret) .skip)))) (.reg false c_less_r8 [0, 1, 5])))
abbrev c_less_r9 : List SOper := [⟨(some 36), .mv (.t 0), none, none, 0⟩,
  ⟨(some 37), .len false (.t 36), none, none, 0⟩,
  ⟨(some 38), .mv (.t 1), none, none, 0⟩,
  ⟨(some 39), .len false (.t 38), none, none, 0⟩,
  ⟨(some 40), .bin .lss (.t 37) (.t 39), none, none, 0⟩]
abbrev c_less_r10 : List SOper := [⟨(some 4), .mv (.c (.int .i64 (-1))), none, none, 0⟩]
abbrev c_less_r11 : List SOper := [⟨(some 41), .mv (.t 0), none, none, 0⟩,
  ⟨(some 42), .len false (.t 41), none, none, 0⟩,
  ⟨(some 43), .mv (.t 1), none, none, 0⟩,
  ⟨(some 44), .len false (.t 43), none, none, 0⟩,
  ⟨(some 45), .bin .gtr (.t 42) (.t 44), none, none, 0⟩]
abbrev c_less_r12 : List SOper := [⟨(some 4), .mv (.c (.int .i64 1)), none, none, 0⟩]
abbrev c_less_r13 : List SOper := [⟨(some 4), .mv (.c (.int .i64 0)), none, none, 0⟩]
def c_less : SCode := (.seq (.reg false c_less_r1 [0, 1]) (.seq (.seq (.reg false c_less_r2 [0, 1, 5]) (.block 0 (.loop c_less_l1))) (.seq (.seq (.reg false c_less_r9 [0, 1, 40]) (.cond (.t 40) (.seq (.reg false c_less_r10 [4]) .ret) .skip)) (.seq (.seq (.reg false c_less_r11 [45]) (.cond (.t 45) (.seq (.reg false c_less_r12 [4]) .ret) .skip)) (.seq (.reg false c_less_r13 [4]) .ret)))))
theorem comp_c_less : comp Try.prog 46 ((Try.f132.body).getD .skip) = some c_less.erase := by kernel_rfl
abbrev c_may_r1 : List SOper := [⟨(some 3), .box 30 (.t 1), none, none, 0⟩,
  ⟨(some 4), .mv (.c (.int .i64 0)), none, none, 0⟩]
abbrev c_may_r2 : List SOper := [⟨(some 7), .mv (.t 0), none, none, 0⟩,
  ⟨(some 8), .nilc (.t 7), none, none, 0⟩,
  ⟨(some 9), .faddr 0 (.t 8), none, none, 0⟩,
  ⟨(some 10), .load (.t 9), none, none, 0⟩]
abbrev c_may_r3 : List SOper := [⟨(some 12), .bin .eql (.t 10) (.c (.int .i64 1)), none, none, 0⟩,
  ⟨(some 11), .mv (.t 12), none, none, 0⟩]
abbrev c_may_r4 : List SOper := [⟨(some 13), .faddr 0 (.t 3), none, none, 0⟩,
  ⟨(some 14), .load (.t 13), none, none, 1⟩,
  ⟨(some 15), .len false (.t 14), none, none, 3⟩,
  ⟨(some 16), .mv (.t 0), none, none, 0⟩,
  ⟨(some 17), .nilc (.t 16), none, none, 8⟩,
  ⟨(some 18), .faddr 1 (.t 17), none, none, 24⟩,
  ⟨(some 19), .load (.t 18), none, none, 56⟩,
  ⟨(some 20), .bin .neq (.t 15) (.t 19), none, none, 127⟩]
abbrev c_may_r5 : List SOper := [⟨(some 4), .mv (.c (.int .i64 2)), none, none, 0⟩]
abbrev c_may_r6 : List SOper := [⟨(some 22), .bin .eql (.t 10) (.c (.int .i64 2)), none, none, 0⟩,
  ⟨(some 21), .mv (.t 22), none, none, 0⟩]
abbrev c_may_r7 : List SOper := [⟨(some 23), .faddr 0 (.t 3), none, none, 0⟩,
  ⟨(some 24), .load (.t 23), none, none, 1⟩,
  ⟨(some 25), .len false (.t 24), none, none, 3⟩,
  ⟨(some 26), .bin .neq (.t 25) (.c (.int .i64 1)), none, none, 7⟩,
  ⟨(some 27), .mv (.t 26), none, none, 15⟩,
  ⟨(some 28), .mv (.t 0), none, (some (27, false)), 31⟩,
  ⟨(some 29), .nilc (.t 28), none, (some (27, false)), 63⟩,
  ⟨(some 30), .faddr 2 (.t 29), none, (some (27, false)), 127⟩,
  ⟨(some 31), .load (.t 30), none, (some (27, false)), 255⟩,
  ⟨(some 32), .bin .lss (.t 31) (.c (.int .i64 1)), none, (some (27, false)), 511⟩,
  ⟨(some 33), .pick (.t 27) (.c (.bool true)) (.t 32), none, none, 1023⟩,
  ⟨(some 34), .mv (.t 33), none, none, 2047⟩,
  ⟨(some 35), .mv (.t 0), none, (some (34, false)), 4095⟩,
  ⟨(some 36), .nilc (.t 35), none, (some (34, false)), 8191⟩,
  ⟨(some 37), .faddr 2 (.t 36), none, (some (34, false)), 16383⟩,
  ⟨(some 38), .load (.t 37), none, (some (34, false)), 32767⟩,
  ⟨(some 39), .bin .gtr (.t 38) (.c (.int .i64 64)), none, (some (34, false)), 65535⟩,
  ⟨(some 40), .pick (.t 34) (.c (.bool true)) (.t 39), none, none, 131071⟩,
  ⟨(some 41), .mv (.t 40), none, none, 262143⟩,
  ⟨(some 42), .faddr 2 (.t 3), none, (some (41, false)), 524287⟩,
  ⟨(some 43), .load (.t 42), none, (some (41, false)), 1048575⟩,
  ⟨(some 44), .bin .lss (.t 43) (.c (.int .i64 0)), none, (some (41, false)), 2097151⟩,
  ⟨(some 45), .pick (.t 41) (.c (.bool true)) (.t 44), none, none, 4194303⟩,
  ⟨(some 46), .mv (.t 45), none, none, 8388607⟩,
  ⟨(some 47), .faddr 2 (.t 3), none, (some (46, false)), 16777215⟩,
  ⟨(some 48), .load (.t 47), none, (some (46, false)), 33554431⟩,
  ⟨(some 49), .mv (.t 0), none, (some (46, false)), 16777215⟩,
  ⟨(some 50), .nilc (.t 49), none, (some (46, false)), 83886079⟩,
  ⟨(some 51), .faddr 2 (.t 50), none, (some (46, false)), 218103807⟩,
  ⟨(some 52), .load (.t 51), none, (some (46, false)), 486539263⟩,
  ⟨(some 53), .bin .gtr (.t 48) (.t 52), none, (some (46, false)), 1073741823⟩,
  ⟨(some 54), .pick (.t 46) (.c (.bool true)) (.t 53), none, none, 2147483647⟩,
  ⟨(some 55), .mv (.t 54), none, none, 4294967295⟩,
  ⟨(some 56), .faddr 0 (.t 3), none, (some (55, false)), 8589934591⟩,
  ⟨(some 57), .load (.t 56), none, (some (55, false)), 17179869183⟩,
  ⟨(some 58), .iaddr 1 (.t 57) (.c (.int .i64 0)), none, (some (55, false)), 34359738367⟩,
  ⟨(some 59), .load (.t 58), none, (some (55, false)), 68719476735⟩,
  ⟨(some 60), .mv (.t 0), none, (some (55, false)), 8589934591⟩,
  ⟨(some 61), .nilc (.t 60), none, (some (55, false)), 146028888063⟩,
  ⟨(some 62), .faddr 2 (.t 61), none, (some (55, false)), 420906795007⟩,
  ⟨(some 63), .load (.t 62), none, (some (55, false)), 970662608895⟩,
  ⟨(some 64), .mv (.c .any), some ((.c (.fn (.func 94) [] [])), [(.t 59), (.t 63)]), (some (55, false)), 2199023255551⟩,
  ⟨(some 65), .pick (.t 55) (.c (.bool true)) (.t 64), none, none, 4398046511103⟩]
abbrev c_may_r8 : List SOper := [⟨(some 4), .mv (.c (.int .i64 6)), none, none, 0⟩]
abbrev c_may_r9 : List SOper := [⟨(some 66), .mv (.t 0), none, none, 0⟩,
  ⟨(some 67), .nilc (.t 66), none, none, 1⟩,
  ⟨(some 68), .faddr 2 (.t 67), none, none, 3⟩,
  ⟨(some 69), .load (.t 68), none, none, 7⟩,
  ⟨(some 70), .faddr 2 (.t 3), none, none, 0⟩,
  ⟨(some 71), .load (.t 70), none, none, 16⟩,
  ⟨(some 72), .bin .sub (.t 69) (.t 71), none, none, 63⟩,
  ⟨(some 73), .mv (.c .any), some ((.c (.fn (.func 22) [] [])), [(.t 72)]), none, 127⟩,
  ⟨(some 5), .mv (.t 73), none, none, 255⟩]
abbrev c_may_r10 : List SOper := [⟨(some 74), .faddr 0 (.t 3), none, none, 0⟩,
  ⟨(some 75), .load (.t 74), none, none, 0⟩,
  ⟨(some 76), .iaddr 1 (.t 75) (.c (.int .i64 0)), none, none, 0⟩,
  ⟨(some 77), .load (.t 76), none, none, 0⟩,
  ⟨(some 78), .mv (.t 5), none, none, 0⟩,
  ⟨(some 79), .bin .and (.t 77) (.t 78), none, none, 0⟩,
  ⟨(some 80), .bin .neq (.t 79) (.c (.int .u64 0)), none, none, 0⟩]
abbrev c_may_r11 : List SOper := [⟨(some 4), .mv (.c (.int .i64 6)), none, none, 0⟩]
abbrev c_may_r12 : List SOper := [⟨(some 82), .bin .eql (.t 10) (.c (.int .i64 3)), none, none, 0⟩,
  ⟨(some 81), .mv (.t 82), none, none, 0⟩]
abbrev c_may_r13 : List SOper := [⟨(some 83), .faddr 0 (.t 3), none, none, 0⟩,
  ⟨(some 84), .load (.t 83), none, none, 1⟩,
  ⟨(some 85), .len false (.t 84), none, none, 3⟩,
  ⟨(some 86), .mv (.t 0), none, none, 0⟩,
  ⟨(some 87), .nilc (.t 86), none, none, 8⟩,
  ⟨(some 88), .faddr 1 (.t 87), none, none, 24⟩,
  ⟨(some 89), .load (.t 88), none, none, 56⟩,
  ⟨(some 90), .bin .neq (.t 85) (.t 89), none, none, 127⟩,
  ⟨(some 91), .mv (.t 90), none, none, 255⟩,
  ⟨(some 92), .faddr 1 (.t 3), none, (some (91, false)), 511⟩,
  ⟨(some 93), .load (.t 92), none, (some (91, false)), 1023⟩,
  ⟨(some 94), .len false (.t 93), none, (some (91, false)), 2047⟩,
  ⟨(some 95), .mv (.t 0), none, (some (91, false)), 511⟩,
  ⟨(some 96), .nilc (.t 95), none, (some (91, false)), 4607⟩,
  ⟨(some 97), .faddr 1 (.t 96), none, (some (91, false)), 12799⟩,
  ⟨(some 98), .load (.t 97), none, (some (91, false)), 29183⟩,
  ⟨(some 99), .bin .neq (.t 94) (.t 98), none, (some (91, false)), 65535⟩,
  ⟨(some 100), .pick (.t 91) (.c (.bool true)) (.t 99), none, none, 131071⟩,
  ⟨(some 101), .mv (.t 100), none, none, 262143⟩,
  ⟨(some 102), .faddr 3 (.t 3), none, (some (101, false)), 524287⟩,
  ⟨(some 103), .load (.t 102), none, (some (101, false)), 1048575⟩,
  ⟨(some 104), .bin .lss (.t 103) (.c (.int .i64 0)), none, (some (101, false)), 2097151⟩,
  ⟨(some 105), .pick (.t 101) (.c (.bool true)) (.t 104), none, none, 4194303⟩,
  ⟨(some 106), .mv (.t 105), none, none, 8388607⟩,
  ⟨(some 107), .faddr 3 (.t 3), none, (some (106, false)), 16777215⟩,
  ⟨(some 108), .load (.t 107), none, (some (106, false)), 33554431⟩,
  ⟨(some 109), .bin .gtr (.t 108) (.c (.int .i64 1000)), none, (some (106, false)), 67108863⟩,
  ⟨(some 110), .pick (.t 106) (.c (.bool true)) (.t 109), none, none, 134217727⟩]
abbrev c_may_r14 : List SOper := [⟨(some 4), .mv (.c (.int .i64 6)), none, none, 0⟩]
abbrev c_may_r15 : List SOper := [⟨(some 6), .mv (.c (.int .i64 0)), none, none, 0⟩]
abbrev c_may_r16 : List SOper := [⟨(some 111), .mv (.t 6), none, none, 0⟩,
  ⟨(some 112), .mv (.t 0), none, none, 0⟩,
  ⟨(some 113), .nilc (.t 112), none, none, 0⟩,
  ⟨(some 114), .faddr 1 (.t 113), none, none, 0⟩,
  ⟨(some 115), .load (.t 114), none, none, 0⟩,
  ⟨(some 116), .bin .lss (.t 111) (.t 115), none, none, 0⟩]
abbrev c_may_r17 : List SOper := [⟨(some 119), .faddr 0 (.t 3), none, none, 0⟩,
  ⟨(some 120), .load (.t 119), none, none, 1⟩,
  ⟨(some 121), .mv (.t 6), none, none, 0⟩,
  ⟨(some 122), .iaddr 1 (.t 120) (.t 121), none, none, 7⟩,
  ⟨(some 123), .load (.t 122), none, none, 15⟩,
  ⟨(some 124), .faddr 1 (.t 3), none, none, 0⟩,
  ⟨(some 125), .load (.t 124), none, none, 32⟩,
  ⟨(some 126), .mv (.t 6), none, none, 0⟩,
  ⟨(some 127), .iaddr 1 (.t 125) (.t 126), none, none, 224⟩,
  ⟨(some 128), .load (.t 127), none, none, 480⟩,
  ⟨(some 129), .bin .and (.t 123) (.t 128), none, none, 1023⟩,
  ⟨(some 130), .faddr 0 (.t 3), none, none, 0⟩,
  ⟨(some 131), .load (.t 130), none, none, 2048⟩,
  ⟨(some 132), .mv (.t 6), none, none, 0⟩,
  ⟨(some 133), .iaddr 1 (.t 131) (.t 132), none, none, 14336⟩,
  ⟨(some 134), .load (.t 133), none, none, 30720⟩,
  ⟨(some 135), .bin .neq (.t 129) (.t 134), none, none, 65535⟩]
abbrev c_may_r18 : List SOper := [⟨(some 4), .mv (.c (.int .i64 6)), none, none, 0⟩]
abbrev c_may_r19 : List SOper := [⟨(some 117), .mv (.t 6), none, none, 0⟩,
  ⟨(some 118), .bin .add (.t 117) (.c (.int .i64 1)), none, none, 0⟩,
  ⟨(some 6), .mv (.t 118), none, none, 0⟩]
def c_may_l1 : SCode := (.seq (.seq (.reg false c_may_r16 [0, 3, 6, 116]) (.cond (.t 116) .skip (.exit 1))) (.seq (.block 2 (.seq (.reg true c_may_r17 [0, 3, 6, 135]) (.cond (.t 135) (.seq (.reg false c_may_r18 [4]) .ret) .skip))) (.reg false c_may_r19 [0, 3, 6])))
abbrev c_may_r20 : List SOper := [⟨(some 4), .mv (.c (.int .i64 0)), none, none, 0⟩]
def c_may : SCode := (.seq (.reg false c_may_r1 [0, 3]) (.seq (.seq (.reg false c_may_r2 [0, 3, 10]) (.block 0 (.seq (.reg false c_may_r3 [0, 3, 10, 11]) (.cond (.t 11) (.seq (.reg true c_may_r4 [20]) (.cond (.t 20) (.seq (.reg false c_may_r5 [4]) .ret) .skip)) (.seq (.reg false c_may_r6 [0, 3, 10, 21]) (.cond (.t 21) (.seq (.seq (.reg true c_may_r7 [0, 3, 65]) (.cond (.t 65) (.seq (.reg false c_may_r8 [4]) .ret) .skip)) (.seq (.reg true c_may_r9 [3, 5]) (.seq (.reg false c_may_r10 [80]) (.cond (.t 80) (.seq (.reg false c_may_r11 [4]) .ret) .skip)))) (.seq (.reg false c_may_r12 [0, 3, 81]) (.cond (.t 81) (.seq (.seq (.reg true c_may_r13 [0, 3, 110]) (.cond (.t 110) (.seq (.reg false c_may_r14 [4]) .ret) .skip)) (.seq (.reg false c_may_r15 [0, 3, 6]) (.block 1 (.loop c_may_l1)))) .skip)))))))) (.seq (.reg false c_may_r20 [4]) .ret)))
theorem comp_c_may : comp Try.prog 136 ((Try.f91.body).getD .skip) = some c_may.erase := by kernel_rfl
abbrev c_rone_r1 : List SOper := [⟨(some 4), .box 30 (.t 1), none, none, 0⟩,
  ⟨(some 5), .box 30 (.t 2), none, none, 0⟩,
  ⟨(some 6), .mv (.c (.bool false)), none, none, 0⟩]
abbrev c_rone_r2 : List SOper := [⟨(some 7), .mv (.t 0), none, none, 0⟩,
  ⟨(some 8), .nilc (.t 7), none, none, 0⟩,
  ⟨(some 9), .faddr 0 (.t 8), none, none, 0⟩,
  ⟨(some 10), .load (.t 9), none, none, 0⟩,
  ⟨(some 11), .bin .eql (.t 10) (.c (.int .i64 3)), none, none, 0⟩,
  ⟨(some 12), .mv (.t 11), none, none, 0⟩,
  ⟨(some 13), .faddr 3 (.t 4), none, (some (12, true)), 0⟩,
  ⟨(some 14), .load (.t 13), none, (some (12, true)), 0⟩,
  ⟨(some 15), .faddr 3 (.t 5), none, (some (12, true)), 0⟩,
  ⟨(some 16), .load (.t 15), none, (some (12, true)), 0⟩,
  ⟨(some 17), .bin .neq (.t 14) (.t 16), none, (some (12, true)), 0⟩,
  ⟨(some 18), .mv (.t 17), none, (some (12, true)), 0⟩,
  ⟨(some 19), .faddr 1 (.t 4), none, (some (18, false)), 0⟩,
  ⟨(some 20), .load (.t 19), none, (some (18, false)), 0⟩,
  ⟨(some 21), .faddr 1 (.t 5), none, (some (18, false)), 0⟩,
  ⟨(some 22), .load (.t 21), none, (some (18, false)), 0⟩,
  ⟨(some 23), .mv (.c .any), some ((.c (.fn (.func 61) [] [])), [(.t 20), (.t 22)]), (some (18, false)), 0⟩,
  ⟨(some 24), .un .not (.t 23), none, (some (18, false)), 0⟩,
  ⟨(some 25), .pick (.t 18) (.c (.bool true)) (.t 24), none, (some (12, true)), 0⟩,
  ⟨(some 26), .pick (.t 12) (.t 25) (.c (.bool false)), none, none, 0⟩,
  ⟨(some 27), .mv (.t 26), none, none, 0⟩,
  ⟨(some 28), .mv (.t 0), none, (some (27, false)), 0⟩,
  ⟨(some 29), .nilc (.t 28), none, (some (27, false)), 0⟩,
  ⟨(some 30), .faddr 0 (.t 29), none, (some (27, false)), 0⟩,
  ⟨(some 31), .load (.t 30), none, (some (27, false)), 0⟩,
  ⟨(some 32), .bin .eql (.t 31) (.c (.int .i64 2)), none, (some (27, false)), 0⟩,
  ⟨(some 33), .mv (.t 32), none, (some (27, false)), 0⟩,
  ⟨(some 34), .faddr 2 (.t 4), none, (some (33, true)), 0⟩,
  ⟨(some 35), .load (.t 34), none, (some (33, true)), 0⟩,
  ⟨(some 36), .faddr 2 (.t 5), none, (some (33, true)), 0⟩,
  ⟨(some 37), .load (.t 36), none, (some (33, true)), 0⟩,
  ⟨(some 38), .bin .neq (.t 35) (.t 37), none, (some (33, true)), 0⟩,
  ⟨(some 39), .pick (.t 33) (.t 38) (.c (.bool false)), none, (some (27, false)), 0⟩,
  ⟨(some 40), .pick (.t 27) (.c (.bool true)) (.t 39), none, none, 0⟩]
abbrev c_rone_r3 : List SOper := [⟨(some 6), .mv (.c (.bool false)), none, none, 0⟩]
abbrev c_rone_r4 : List SOper := [⟨(some 41), .faddr 0 (.t 4), none, none, 0⟩,
  ⟨(some 42), .load (.t 41), none, none, 0⟩,
  ⟨(some 43), .faddr 0 (.t 5), none, none, 0⟩,
  ⟨(some 44), .load (.t 43), none, none, 0⟩,
  ⟨(some 45), .mv (.c .any), some ((.c (.fn (.func 61) [] [])), [(.t 42), (.t 44)]), none, 0⟩,
  ⟨(some 6), .mv (.t 45), none, none, 0⟩]
def c_rone : SCode := (.seq (.reg false c_rone_r1 [0, 4, 5]) (.seq (.seq (.reg false c_rone_r2 [4, 5, 40]) (.cond (.t 40) (.seq (.reg false c_rone_r3 [6]) .ret) .skip)) (.seq (.reg false c_rone_r4 [6]) .ret)))
theorem comp_c_rone : comp Try.prog 46 ((Try.f131.body).getD .skip) = some c_rone.erase := by kernel_rfl
abbrev c_rat_r1 : List SOper := [⟨(some 3), .box 30 (.t 1), none, none, 0⟩,
  ⟨(some 4), .mv (.c (.int .i64 0)), none, none, 0⟩]
abbrev c_rat_r2 : List SOper := [⟨(some 5), .mv (.c (.int .i64 0)), none, none, 0⟩]
abbrev c_rat_r3 : List SOper := [⟨(some 6), .mv (.t 5), none, none, 0⟩,
  ⟨(some 7), .mv (.t 0), none, none, 0⟩,
  ⟨(some 8), .nilc (.t 7), none, none, 0⟩,
  ⟨(some 9), .faddr 4 (.t 8), none, none, 0⟩,
  ⟨(some 10), .load (.t 9), none, none, 0⟩,
  ⟨(some 11), .len false (.t 10), none, none, 0⟩,
  ⟨(some 12), .bin .lss (.t 6) (.t 11), none, none, 0⟩]
abbrev c_rat_r4 : List SOper := [⟨(some 15), .mv (.t 0), none, none, 0⟩,
  ⟨(some 16), .mv (.t 0), none, none, 0⟩,
  ⟨(some 17), .nilc (.t 16), none, none, 2⟩,
  ⟨(some 18), .faddr 4 (.t 17), none, none, 6⟩,
  ⟨(some 19), .load (.t 18), none, none, 14⟩,
  ⟨(some 20), .mv (.t 5), none, none, 0⟩,
  ⟨(some 21), .iaddr 6 (.t 19) (.t 20), none, none, 62⟩,
  ⟨(some 22), .loads 6 (.t 21), none, none, 126⟩,
  ⟨(some 23), .loads 6 (.t 3), none, none, 0⟩,
  ⟨(some 24), .mv (.c .any), some ((.c (.fn (.func 131) [] [])), [(.t 15), (.t 22), (.t 23)]), none, 511⟩]
abbrev c_rat_r5 : List SOper := [⟨(some 25), .mv (.t 5), none, none, 0⟩,
  ⟨(some 4), .mv (.t 25), none, none, 0⟩]
abbrev c_rat_r6 : List SOper := [⟨(some 13), .mv (.t 5), none, none, 0⟩,
  ⟨(some 14), .bin .add (.t 13) (.c (.int .i64 1)), none, none, 0⟩,
  ⟨(some 5), .mv (.t 14), none, none, 0⟩]
def c_rat_l1 : SCode := (.seq (.seq (.reg false c_rat_r3 [0, 3, 5, 12]) (.cond (.t 12) .skip (.exit 0))) (.seq (.block 1 (.seq (.reg true c_rat_r4 [0, 3, 5, 24]) (.cond (.t 24) (.seq (.reg false c_rat_r5 [4]) .ret) .skip))) (.reg false c_rat_r6 [0, 3, 5])))
abbrev c_rat_r7 : List SOper := [⟨(some 4), .mv (.c (.int .i64 (-1))), none, none, 0⟩]
def c_rat : SCode := (.seq (.reg false c_rat_r1 [0, 3]) (.seq (.seq (.reg false c_rat_r2 [0, 3, 5]) (.block 0 (.loop c_rat_l1))) (.seq (.reg false c_rat_r7 [4]) .ret)))
theorem comp_c_rat : comp Try.prog 26 ((Try.f92.body).getD .skip) = some c_rat.erase := by kernel_rfl
abbrev c_kept_r1 : List SOper := [⟨(some 3), .box 30 (.t 1), none, none, 0⟩,
  ⟨(some 4), .alloc 30 [.nilsl, .nilsl, (.int .i64 0), (.int .i64 0), (.int .i64 0), .nilsl], none, none, 0⟩]
abbrev c_kept_r2 : List SOper := [⟨(some 5), .loads 6 (.t 3), none, none, 0⟩,
  ⟨(some 6), .mv (.c .any), some ((.c (.fn (.func 96) [] [])), [(.t 5)]), none, 0⟩,
  ⟨none, .store 6 (.t 3) (.t 6), none, none, 0⟩]
abbrev c_kept_r3 : List SOper := [⟨(some 7), .mv (.t 0), none, none, 0⟩,
  ⟨(some 8), .nilc (.t 7), none, none, 0⟩,
  ⟨(some 9), .faddr 0 (.t 8), none, none, 0⟩,
  ⟨(some 10), .load (.t 9), none, none, 0⟩,
  ⟨(some 11), .bin .neq (.t 10) (.c (.int .i64 3)), none, none, 0⟩]
abbrev c_kept_r4 : List SOper := [⟨(some 12), .faddr 1 (.t 3), none, none, 0⟩,
  ⟨none, .store 1 (.t 12) (.c .nilsl), none, none, 0⟩,
  ⟨(some 13), .faddr 3 (.t 3), none, none, 0⟩,
  ⟨none, .store 1 (.t 13) (.c (.int .i64 0)), none, none, 0⟩]
abbrev c_kept_r5 : List SOper := [⟨(some 14), .mv (.t 0), none, none, 0⟩,
  ⟨(some 15), .nilc (.t 14), none, none, 0⟩,
  ⟨(some 16), .faddr 0 (.t 15), none, none, 0⟩,
  ⟨(some 17), .load (.t 16), none, none, 0⟩,
  ⟨(some 18), .bin .neq (.t 17) (.c (.int .i64 2)), none, none, 0⟩]
abbrev c_kept_r6 : List SOper := [⟨(some 19), .faddr 2 (.t 3), none, none, 0⟩,
  ⟨none, .store 1 (.t 19) (.c (.int .i64 0)), none, none, 0⟩]
abbrev c_kept_r7 : List SOper := [⟨(some 20), .loads 6 (.t 3), none, none, 0⟩,
  ⟨none, .store 6 (.t 4) (.t 20), none, none, 0⟩]
def c_kept : SCode := (.seq (.reg false c_kept_r1 [0, 3, 4]) (.seq (.reg false c_kept_r2 [0, 3, 4]) (.seq (.seq (.reg false c_kept_r3 [0, 3, 4, 11]) (.cond (.t 11) (.reg false c_kept_r4 [0, 3, 4]) .skip)) (.seq (.seq (.reg false c_kept_r5 [3, 4, 18]) (.cond (.t 18) (.reg false c_kept_r6 [3, 4]) .skip)) (.seq (.reg false c_kept_r7 [4]) .ret)))))
theorem comp_c_kept : comp Try.prog 21 ((Try.f93.body).getD .skip) = some c_kept.erase := by kernel_rfl
abbrev c_radd_r1 : List SOper := [⟨(some 3), .box 30 (.t 1), none, none, 0⟩,
  ⟨(some 4), .mv (.c (.int .i64 0)), none, none, 0⟩]
abbrev c_radd_r2 : List SOper := [⟨(some 10), .mv (.t 0), none, none, 0⟩,
  ⟨(some 11), .loads 6 (.t 3), none, none, 0⟩,
  ⟨(some 12), .mv (.c .any), some ((.c (.fn (.func 91) [] [])), [(.t 10), (.t 11)]), none, 0⟩,
  ⟨(some 5), .mv (.t 12), none, none, 0⟩]
abbrev c_radd_r3 : List SOper := [⟨(some 13), .mv (.t 5), none, none, 0⟩,
  ⟨(some 14), .bin .neq (.t 13) (.c (.int .i64 0)), none, none, 0⟩]
abbrev c_radd_r4 : List SOper := [⟨(some 15), .mv (.t 5), none, none, 0⟩,
  ⟨(some 4), .mv (.t 15), none, none, 0⟩]
abbrev c_radd_r5 : List SOper := [⟨(some 16), .mv (.t 0), none, none, 0⟩,
  ⟨(some 17), .loads 6 (.t 3), none, none, 0⟩,
  ⟨(some 18), .mv (.c .any), some ((.c (.fn (.func 92) [] [])), [(.t 16), (.t 17)]), none, 0⟩,
  ⟨(some 19), .bin .geq (.t 18) (.c (.int .i64 0)), none, none, 0⟩]
abbrev c_radd_r6 : List SOper := [⟨(some 4), .mv (.c (.int .i64 7)), none, none, 0⟩]
abbrev c_radd_r7 : List SOper := [⟨(some 6), .mv (.c (.int .i64 0)), none, none, 0⟩]
abbrev c_radd_r8 : List SOper := [⟨(some 20), .mv (.t 6), none, none, 0⟩,
  ⟨(some 21), .mv (.t 0), none, none, 0⟩,
  ⟨(some 22), .nilc (.t 21), none, none, 0⟩,
  ⟨(some 23), .faddr 4 (.t 22), none, none, 0⟩,
  ⟨(some 24), .load (.t 23), none, none, 0⟩,
  ⟨(some 25), .len false (.t 24), none, none, 0⟩,
  ⟨(some 26), .bin .lss (.t 20) (.t 25), none, none, 0⟩,
  ⟨(some 27), .mv (.t 26), none, none, 0⟩,
  ⟨(some 28), .mv (.t 0), none, (some (27, true)), 0⟩,
  ⟨(some 29), .nilc (.t 28), none, (some (27, true)), 0⟩,
  ⟨(some 30), .faddr 0 (.t 29), none, (some (27, true)), 0⟩,
  ⟨(some 31), .load (.t 30), none, (some (27, true)), 0⟩,
  ⟨(some 32), .bin .eql (.t 31) (.c (.int .i64 3)), none, (some (27, true)), 0⟩,
  ⟨(some 33), .pick (.t 27) (.t 32) (.c (.bool false)), none, none, 0⟩]
abbrev c_radd_r9 : List SOper := [⟨(some 36), .mv (.t 0), none, none, 0⟩,
  ⟨(some 37), .nilc (.t 36), none, none, 1⟩,
  ⟨(some 38), .faddr 4 (.t 37), none, none, 3⟩,
  ⟨(some 39), .load (.t 38), none, none, 7⟩,
  ⟨(some 40), .mv (.t 6), none, none, 0⟩,
  ⟨(some 41), .iaddr 6 (.t 39) (.t 40), none, none, 31⟩,
  ⟨(some 42), .faddr 3 (.t 41), none, none, 63⟩,
  ⟨(some 43), .load (.t 42), none, none, 127⟩,
  ⟨(some 44), .faddr 3 (.t 3), none, none, 0⟩,
  ⟨(some 45), .load (.t 44), none, none, 256⟩,
  ⟨(some 46), .bin .eql (.t 43) (.t 45), none, none, 1023⟩,
  ⟨(some 7), .mv (.t 46), none, none, 2047⟩]
abbrev c_radd_r10 : List SOper := [⟨(some 8), .mv (.c (.int .i64 0)), none, none, 0⟩]
abbrev c_radd_r11 : List SOper := [⟨(some 47), .mv (.t 8), none, none, 0⟩,
  ⟨(some 48), .mv (.t 0), none, none, 0⟩,
  ⟨(some 49), .nilc (.t 48), none, none, 0⟩,
  ⟨(some 50), .faddr 1 (.t 49), none, none, 0⟩,
  ⟨(some 51), .load (.t 50), none, none, 0⟩,
  ⟨(some 52), .bin .lss (.t 47) (.t 51), none, none, 0⟩]
abbrev c_radd_r12 : List SOper := [⟨(some 55), .faddr 1 (.t 3), none, none, 0⟩,
  ⟨(some 56), .load (.t 55), none, none, 1⟩,
  ⟨(some 57), .mv (.t 8), none, none, 0⟩,
  ⟨(some 58), .iaddr 1 (.t 56) (.t 57), none, none, 7⟩,
  ⟨(some 59), .load (.t 58), none, none, 15⟩,
  ⟨(some 60), .mv (.t 0), none, none, 0⟩,
  ⟨(some 61), .nilc (.t 60), none, none, 32⟩,
  ⟨(some 62), .faddr 4 (.t 61), none, none, 96⟩,
  ⟨(some 63), .load (.t 62), none, none, 224⟩,
  ⟨(some 64), .mv (.t 6), none, none, 0⟩,
  ⟨(some 65), .iaddr 6 (.t 63) (.t 64), none, none, 992⟩,
  ⟨(some 66), .faddr 1 (.t 65), none, none, 2016⟩,
  ⟨(some 67), .load (.t 66), none, none, 4064⟩,
  ⟨(some 68), .mv (.t 8), none, none, 0⟩,
  ⟨(some 69), .iaddr 1 (.t 67) (.t 68), none, none, 16352⟩,
  ⟨(some 70), .load (.t 69), none, none, 32736⟩,
  ⟨(some 71), .bin .and (.t 59) (.t 70), none, none, 65535⟩,
  ⟨(some 9), .mv (.t 71), none, none, 131071⟩]
abbrev c_radd_r13 : List SOper := [⟨(some 72), .faddr 0 (.t 3), none, none, 0⟩,
  ⟨(some 73), .load (.t 72), none, none, 1⟩,
  ⟨(some 74), .mv (.t 8), none, none, 0⟩,
  ⟨(some 75), .iaddr 1 (.t 73) (.t 74), none, none, 7⟩,
  ⟨(some 76), .load (.t 75), none, none, 15⟩,
  ⟨(some 77), .mv (.t 9), none, none, 0⟩,
  ⟨(some 78), .bin .and (.t 76) (.t 77), none, none, 63⟩,
  ⟨(some 79), .mv (.t 0), none, none, 0⟩,
  ⟨(some 80), .nilc (.t 79), none, none, 128⟩,
  ⟨(some 81), .faddr 4 (.t 80), none, none, 384⟩,
  ⟨(some 82), .load (.t 81), none, none, 896⟩,
  ⟨(some 83), .mv (.t 6), none, none, 0⟩,
  ⟨(some 84), .iaddr 6 (.t 82) (.t 83), none, none, 3968⟩,
  ⟨(some 85), .faddr 0 (.t 84), none, none, 8064⟩,
  ⟨(some 86), .load (.t 85), none, none, 16256⟩,
  ⟨(some 87), .mv (.t 8), none, none, 0⟩,
  ⟨(some 88), .iaddr 1 (.t 86) (.t 87), none, none, 65408⟩,
  ⟨(some 89), .load (.t 88), none, none, 130944⟩,
  ⟨(some 90), .mv (.t 9), none, none, 0⟩,
  ⟨(some 91), .bin .and (.t 89) (.t 90), none, none, 524160⟩,
  ⟨(some 92), .bin .neq (.t 78) (.t 91), none, none, 1048575⟩]
abbrev c_radd_r14 : List SOper := [⟨(some 7), .mv (.c (.bool false)), none, none, 0⟩]
abbrev c_radd_r15 : List SOper := [⟨(some 53), .mv (.t 8), none, none, 0⟩,
  ⟨(some 54), .bin .add (.t 53) (.c (.int .i64 1)), none, none, 0⟩,
  ⟨(some 8), .mv (.t 54), none, none, 0⟩]
def c_radd_l1 : SCode := (.seq (.seq (.reg false c_radd_r11 [0, 3, 6, 7, 8, 52]) (.cond (.t 52) .skip (.exit 2))) (.seq (.block 3 (.seq (.reg true c_radd_r12 [0, 3, 6, 7, 8, 9]) (.seq (.reg true c_radd_r13 [0, 3, 6, 7, 8, 92]) (.cond (.t 92) (.reg false c_radd_r14 [0, 3, 6, 7, 8]) .skip)))) (.reg false c_radd_r15 [0, 3, 6, 7, 8])))
abbrev c_radd_r16 : List SOper := [⟨(some 93), .mv (.t 7), none, none, 0⟩]
abbrev c_radd_r17 : List SOper := [⟨(some 4), .mv (.c (.int .i64 8)), none, none, 0⟩]
abbrev c_radd_r18 : List SOper := [⟨(some 34), .mv (.t 6), none, none, 0⟩,
  ⟨(some 35), .bin .add (.t 34) (.c (.int .i64 1)), none, none, 0⟩,
  ⟨(some 6), .mv (.t 35), none, none, 0⟩]
def c_radd_l2 : SCode := (.seq (.seq (.reg false c_radd_r8 [0, 3, 6, 33]) (.cond (.t 33) .skip (.exit 0))) (.seq (.block 1 (.seq (.reg true c_radd_r9 [0, 3, 6, 7]) (.seq (.seq (.reg false c_radd_r10 [0, 3, 6, 7, 8]) (.block 2 (.loop c_radd_l1))) (.seq (.reg false c_radd_r16 [0, 3, 6, 93]) (.cond (.t 93) (.seq (.reg false c_radd_r17 [4]) .ret) .skip))))) (.reg false c_radd_r18 [0, 3, 6])))
abbrev c_radd_r19 : List SOper := [⟨(some 94), .mv (.t 0), none, none, 0⟩,
  ⟨(some 95), .nilc (.t 94), none, none, 1⟩,
  ⟨(some 96), .faddr 4 (.t 95), none, none, 3⟩,
  ⟨(some 97), .load (.t 96), none, none, 7⟩,
  ⟨(some 98), .len false (.t 97), none, none, 15⟩,
  ⟨(some 99), .mv (.t 0), none, none, 0⟩,
  ⟨(some 100), .nilc (.t 99), none, none, 32⟩,
  ⟨(some 101), .faddr 3 (.t 100), none, none, 96⟩,
  ⟨(some 102), .load (.t 101), none, none, 224⟩,
  ⟨(some 103), .bin .geq (.t 98) (.t 102), none, none, 511⟩]
abbrev c_radd_r20 : List SOper := [⟨(some 4), .mv (.c (.int .i64 10)), none, none, 0⟩]
abbrev c_radd_r21 : List SOper := [⟨(some 104), .mv (.t 0), none, none, 0⟩,
  ⟨(some 105), .mv (.t 0), none, none, 0⟩,
  ⟨(some 106), .nilc (.t 105), none, none, 2⟩,
  ⟨(some 107), .faddr 4 (.t 106), none, none, 6⟩,
  ⟨(some 108), .load (.t 107), none, none, 14⟩,
  ⟨(some 109), .mv (.t 0), none, none, 0⟩,
  ⟨(some 110), .loads 6 (.t 3), none, none, 0⟩,
  ⟨(some 111), .mv (.c .any), some ((.c (.fn (.func 93) [] [])), [(.t 109), (.t 110)]), none, 96⟩,
  ⟨(some 112), .mkrow 30 6 1 [.nilsl, .nilsl, (.int .i64 0), (.int .i64 0), (.int .i64 0), .nilsl] [(0, (.t 111))], none, none, 224⟩,
  ⟨(some 113), .app 30 6 96 (.t 108) (.t 112), none, none, 510⟩,
  ⟨(some 114), .nilc (.t 104), none, none, 1023⟩,
  ⟨(some 115), .faddr 4 (.t 114), none, none, 2047⟩,
  ⟨none, .store 1 (.t 115) (.t 113), none, none, 4095⟩]
abbrev c_radd_r22 : List SOper := [⟨(some 4), .mv (.c (.int .i64 0)), none, none, 0⟩]
def c_radd : SCode := (.seq (.reg false c_radd_r1 [0, 3]) (.seq (.seq (.reg false c_radd_r2 [0, 3, 5]) (.seq (.reg false c_radd_r3 [0, 3, 5, 14]) (.cond (.t 14) (.seq (.reg false c_radd_r4 [4]) .ret) .skip))) (.seq (.seq (.reg false c_radd_r5 [0, 3, 19]) (.cond (.t 19) (.seq (.reg false c_radd_r6 [4]) .ret) .skip)) (.seq (.seq (.reg false c_radd_r7 [0, 3, 6]) (.block 0 (.loop c_radd_l2))) (.seq (.seq (.reg true c_radd_r19 [0, 3, 103]) (.cond (.t 103) (.seq (.reg false c_radd_r20 [4]) .ret) .skip)) (.seq (.reg true c_radd_r21 []) (.seq (.reg false c_radd_r22 [4]) .ret)))))))
theorem comp_c_radd : comp Try.prog 116 ((Try.f37.body).getD .skip) = some c_radd.erase := by kernel_rfl
abbrev c_rchg_r1 : List SOper := [⟨(some 3), .box 30 (.t 1), none, none, 0⟩,
  ⟨(some 4), .mv (.c (.int .i64 0)), none, none, 0⟩]
abbrev c_rchg_r2 : List SOper := [⟨(some 7), .mv (.t 0), none, none, 0⟩,
  ⟨(some 8), .loads 6 (.t 3), none, none, 0⟩,
  ⟨(some 9), .mv (.c .any), some ((.c (.fn (.func 91) [] [])), [(.t 7), (.t 8)]), none, 0⟩,
  ⟨(some 5), .mv (.t 9), none, none, 0⟩]
abbrev c_rchg_r3 : List SOper := [⟨(some 10), .mv (.t 5), none, none, 0⟩,
  ⟨(some 11), .bin .neq (.t 10) (.c (.int .i64 0)), none, none, 0⟩]
abbrev c_rchg_r4 : List SOper := [⟨(some 12), .mv (.t 5), none, none, 0⟩,
  ⟨(some 4), .mv (.t 12), none, none, 0⟩]
abbrev c_rchg_r5 : List SOper := [⟨(some 13), .mv (.t 0), none, none, 0⟩,
  ⟨(some 14), .loads 6 (.t 3), none, none, 0⟩,
  ⟨(some 15), .mv (.c .any), some ((.c (.fn (.func 92) [] [])), [(.t 13), (.t 14)]), none, 0⟩,
  ⟨(some 6), .mv (.t 15), none, none, 0⟩]
abbrev c_rchg_r6 : List SOper := [⟨(some 16), .mv (.t 6), none, none, 0⟩,
  ⟨(some 17), .bin .lss (.t 16) (.c (.int .i64 0)), none, none, 0⟩]
abbrev c_rchg_r7 : List SOper := [⟨(some 4), .mv (.c (.int .i64 9)), none, none, 0⟩]
abbrev c_rchg_r8 : List SOper := [⟨(some 18), .mv (.t 0), none, none, 0⟩,
  ⟨(some 19), .nilc (.t 18), none, none, 1⟩,
  ⟨(some 20), .faddr 4 (.t 19), none, none, 3⟩,
  ⟨(some 21), .load (.t 20), none, none, 7⟩,
  ⟨(some 22), .mv (.t 6), none, none, 0⟩,
  ⟨(some 23), .mv (.t 0), none, none, 0⟩,
  ⟨(some 24), .loads 6 (.t 3), none, none, 0⟩,
  ⟨(some 25), .mv (.c .any), some ((.c (.fn (.func 93) [] [])), [(.t 23), (.t 24)]), none, 96⟩,
  ⟨(some 26), .iaddr 6 (.t 21) (.t 22), none, none, 255⟩,
  ⟨none, .store 6 (.t 26) (.t 25), none, none, 511⟩]
abbrev c_rchg_r9 : List SOper := [⟨(some 4), .mv (.c (.int .i64 0)), none, none, 0⟩]
def c_rchg : SCode := (.seq (.reg false c_rchg_r1 [0, 3]) (.seq (.seq (.reg false c_rchg_r2 [0, 3, 5]) (.seq (.reg false c_rchg_r3 [0, 3, 5, 11]) (.cond (.t 11) (.seq (.reg false c_rchg_r4 [4]) .ret) .skip))) (.seq (.reg false c_rchg_r5 [0, 3, 6]) (.seq (.seq (.reg false c_rchg_r6 [0, 3, 6, 17]) (.cond (.t 17) (.seq (.reg false c_rchg_r7 [4]) .ret) .skip)) (.seq (.reg true c_rchg_r8 []) (.seq (.reg false c_rchg_r9 [4]) .ret))))))
theorem comp_c_rchg : comp Try.prog 27 ((Try.f39.body).getD .skip) = some c_rchg.erase := by kernel_rfl
abbrev c_rdrop_r1 : List SOper := [⟨(some 3), .box 30 (.t 1), none, none, 0⟩,
  ⟨(some 4), .mv (.c (.int .i64 0)), none, none, 0⟩]
abbrev c_rdrop_r2 : List SOper := [⟨(some 8), .mv (.t 0), none, none, 0⟩,
  ⟨(some 9), .loads 6 (.t 3), none, none, 0⟩,
  ⟨(some 10), .mv (.c .any), some ((.c (.fn (.func 91) [] [])), [(.t 8), (.t 9)]), none, 0⟩,
  ⟨(some 5), .mv (.t 10), none, none, 0⟩]
abbrev c_rdrop_r3 : List SOper := [⟨(some 11), .mv (.t 5), none, none, 0⟩,
  ⟨(some 12), .bin .neq (.t 11) (.c (.int .i64 0)), none, none, 0⟩]
abbrev c_rdrop_r4 : List SOper := [⟨(some 13), .mv (.t 5), none, none, 0⟩,
  ⟨(some 4), .mv (.t 13), none, none, 0⟩]
abbrev c_rdrop_r5 : List SOper := [⟨(some 14), .mv (.t 0), none, none, 0⟩,
  ⟨(some 15), .loads 6 (.t 3), none, none, 0⟩,
  ⟨(some 16), .mv (.c .any), some ((.c (.fn (.func 92) [] [])), [(.t 14), (.t 15)]), none, 0⟩,
  ⟨(some 6), .mv (.t 16), none, none, 0⟩]
abbrev c_rdrop_r6 : List SOper := [⟨(some 17), .mv (.t 6), none, none, 0⟩,
  ⟨(some 18), .bin .lss (.t 17) (.c (.int .i64 0)), none, none, 0⟩]
abbrev c_rdrop_r7 : List SOper := [⟨(some 4), .mv (.c (.int .i64 9)), none, none, 0⟩]
abbrev c_rdrop_r8 : List SOper := [⟨(some 7), .mv (.c .nilsl), none, none, 0⟩]
abbrev c_rdrop_r9 : List SOper := [⟨(some 19), .mv (.t 0), none, none, 0⟩,
  ⟨(some 20), .mv (.t 7), none, none, 0⟩,
  ⟨(some 21), .mv (.t 0), none, none, 0⟩,
  ⟨(some 22), .nilc (.t 21), none, none, 4⟩,
  ⟨(some 23), .faddr 4 (.t 22), none, none, 12⟩,
  ⟨(some 24), .load (.t 23), none, none, 28⟩,
  ⟨(some 25), .mv (.t 6), none, none, 0⟩,
  ⟨(some 26), .slice 6 (.t 24) none (some (.t 25)), none, none, 124⟩,
  ⟨(some 27), .app 30 6 96 (.t 20) (.t 26), none, none, 254⟩,
  ⟨(some 28), .mv (.t 0), none, none, 0⟩,
  ⟨(some 29), .nilc (.t 28), none, none, 512⟩,
  ⟨(some 30), .faddr 4 (.t 29), none, none, 1536⟩,
  ⟨(some 31), .load (.t 30), none, none, 3584⟩,
  ⟨(some 32), .mv (.t 6), none, none, 0⟩,
  ⟨(some 33), .bin .add (.t 32) (.c (.int .i64 1)), none, none, 8192⟩,
  ⟨(some 34), .slice 6 (.t 31) (some (.t 33)) none, none, none, 32256⟩,
  ⟨(some 35), .app 30 6 96 (.t 27) (.t 34), none, none, 65534⟩,
  ⟨(some 36), .nilc (.t 19), none, none, 131071⟩,
  ⟨(some 37), .faddr 4 (.t 36), none, none, 262143⟩,
  ⟨none, .store 1 (.t 37) (.t 35), none, none, 524287⟩]
abbrev c_rdrop_r10 : List SOper := [⟨(some 4), .mv (.c (.int .i64 0)), none, none, 0⟩]
def c_rdrop : SCode := (.seq (.reg false c_rdrop_r1 [0, 3]) (.seq (.seq (.reg false c_rdrop_r2 [0, 3, 5]) (.seq (.reg false c_rdrop_r3 [0, 3, 5, 12]) (.cond (.t 12) (.seq (.reg false c_rdrop_r4 [4]) .ret) .skip))) (.seq (.reg false c_rdrop_r5 [0, 6]) (.seq (.seq (.reg false c_rdrop_r6 [0, 6, 18]) (.cond (.t 18) (.seq (.reg false c_rdrop_r7 [4]) .ret) .skip)) (.seq (.reg false c_rdrop_r8 [0, 6, 7]) (.seq (.reg true c_rdrop_r9 []) (.seq (.reg false c_rdrop_r10 [4]) .ret)))))))
theorem comp_c_rdrop : comp Try.prog 38 ((Try.f40.body).getD .skip) = some c_rdrop.erase := by kernel_rfl
abbrev c_rfits_r1 : List SOper := [⟨(some 4), .box 30 (.t 1), none, none, 0⟩,
  ⟨(some 6), .mv (.c (.bool false)), none, none, 0⟩]
abbrev c_rfits_r2 : List SOper := [⟨(some 9), .mv (.t 0), none, none, 0⟩,
  ⟨(some 10), .nilc (.t 9), none, none, 0⟩,
  ⟨(some 11), .faddr 0 (.t 10), none, none, 0⟩,
  ⟨(some 12), .load (.t 11), none, none, 0⟩]
abbrev c_rfits_r3 : List SOper := [⟨(some 14), .bin .eql (.t 12) (.c (.int .i64 1)), none, none, 0⟩,
  ⟨(some 13), .mv (.t 14), none, none, 0⟩]
abbrev c_rfits_r4 : List SOper := [⟨(some 15), .faddr 0 (.t 4), none, none, 0⟩,
  ⟨(some 16), .load (.t 15), none, none, 0⟩,
  ⟨(some 17), .mv (.t 2), none, none, 0⟩,
  ⟨(some 18), .mv (.c .any), some ((.c (.fn (.func 61) [] [])), [(.t 16), (.t 17)]), none, 0⟩,
  ⟨(some 6), .mv (.t 18), none, none, 0⟩]
abbrev c_rfits_r5 : List SOper := [⟨(some 20), .bin .eql (.t 12) (.c (.int .i64 2)), none, none, 0⟩,
  ⟨(some 19), .mv (.t 20), none, none, 0⟩]
abbrev c_rfits_r6 : List SOper := [⟨(some 21), .mv (.t 0), none, none, 0⟩,
  ⟨(some 22), .nilc (.t 21), none, none, 1⟩,
  ⟨(some 23), .faddr 2 (.t 22), none, none, 3⟩,
  ⟨(some 24), .load (.t 23), none, none, 7⟩,
  ⟨(some 25), .mv (.c .any), some ((.c (.fn (.func 22) [] [])), [(.t 24)]), none, 15⟩,
  ⟨(some 26), .mv (.t 0), none, none, 0⟩,
  ⟨(some 27), .nilc (.t 26), none, none, 32⟩,
  ⟨(some 28), .faddr 2 (.t 27), none, none, 96⟩,
  ⟨(some 29), .load (.t 28), none, none, 224⟩,
  ⟨(some 30), .faddr 2 (.t 4), none, none, 0⟩,
  ⟨(some 31), .load (.t 30), none, none, 512⟩,
  ⟨(some 32), .bin .sub (.t 29) (.t 31), none, none, 2016⟩,
  ⟨(some 33), .mv (.c .any), some ((.c (.fn (.func 22) [] [])), [(.t 32)]), none, 4095⟩,
  ⟨(some 34), .bin .sub (.t 25) (.t 33), none, none, 8191⟩,
  ⟨(some 7), .mv (.t 34), none, none, 16383⟩]
abbrev c_rfits_r7 : List SOper := [⟨(some 35), .mv (.t 2), none, none, 0⟩,
  ⟨(some 36), .iaddr 1 (.t 35) (.c (.int .i64 0)), none, none, 1⟩,
  ⟨(some 37), .load (.t 36), none, none, 3⟩,
  ⟨(some 38), .mv (.t 7), none, none, 0⟩,
  ⟨(some 39), .bin .and (.t 37) (.t 38), none, none, 15⟩,
  ⟨(some 40), .faddr 0 (.t 4), none, none, 0⟩,
  ⟨(some 41), .load (.t 40), none, none, 32⟩,
  ⟨(some 42), .iaddr 1 (.t 41) (.c (.int .i64 0)), none, none, 96⟩,
  ⟨(some 43), .load (.t 42), none, none, 224⟩,
  ⟨(some 44), .bin .eql (.t 39) (.t 43), none, none, 511⟩,
  ⟨(some 6), .mv (.t 44), none, none, 1023⟩]
abbrev c_rfits_r8 : List SOper := [⟨(some 8), .mv (.c (.int .i64 0)), none, none, 0⟩]
abbrev c_rfits_r9 : List SOper := [⟨(some 45), .mv (.t 8), none, none, 0⟩,
  ⟨(some 46), .mv (.t 2), none, none, 0⟩,
  ⟨(some 47), .len false (.t 46), none, none, 0⟩,
  ⟨(some 48), .bin .lss (.t 45) (.t 47), none, none, 0⟩]
abbrev c_rfits_r10 : List SOper := [⟨(some 51), .mv (.t 2), none, none, 0⟩,
  ⟨(some 52), .mv (.t 8), none, none, 0⟩,
  ⟨(some 53), .iaddr 1 (.t 51) (.t 52), none, none, 3⟩,
  ⟨(some 54), .load (.t 53), none, none, 7⟩,
  ⟨(some 55), .faddr 1 (.t 4), none, none, 0⟩,
  ⟨(some 56), .load (.t 55), none, none, 16⟩,
  ⟨(some 57), .mv (.t 8), none, none, 0⟩,
  ⟨(some 58), .iaddr 1 (.t 56) (.t 57), none, none, 112⟩,
  ⟨(some 59), .load (.t 58), none, none, 240⟩,
  ⟨(some 60), .bin .and (.t 54) (.t 59), none, none, 511⟩,
  ⟨(some 61), .faddr 0 (.t 4), none, none, 0⟩,
  ⟨(some 62), .load (.t 61), none, none, 1024⟩,
  ⟨(some 63), .mv (.t 8), none, none, 0⟩,
  ⟨(some 64), .iaddr 1 (.t 62) (.t 63), none, none, 7168⟩,
  ⟨(some 65), .load (.t 64), none, none, 15360⟩,
  ⟨(some 66), .bin .neq (.t 60) (.t 65), none, none, 32767⟩]
abbrev c_rfits_r11 : List SOper := [⟨(some 6), .mv (.c (.bool false)), none, none, 0⟩]
abbrev c_rfits_r12 : List SOper := [⟨(some 49), .mv (.t 8), none, none, 0⟩,
  ⟨(some 50), .bin .add (.t 49) (.c (.int .i64 1)), none, none, 0⟩,
  ⟨(some 8), .mv (.t 50), none, none, 0⟩]
def c_rfits_l1 : SCode := (.seq (.seq (.reg false c_rfits_r9 [2, 4, 8, 48]) (.cond (.t 48) .skip (.exit 1))) (.seq (.block 2 (.seq (.reg true c_rfits_r10 [2, 4, 8, 66]) (.cond (.t 66) (.seq (.reg false c_rfits_r11 [6]) .ret) .skip))) (.reg false c_rfits_r12 [2, 4, 8])))
abbrev c_rfits_r13 : List SOper := [⟨(some 6), .mv (.c (.bool true)), none, none, 0⟩]
def c_rfits : SCode := (.seq (.reg false c_rfits_r1 [0, 2, 4]) (.seq (.seq (.reg false c_rfits_r2 [0, 2, 4, 12]) (.block 0 (.seq (.reg false c_rfits_r3 [0, 2, 4, 12, 13]) (.cond (.t 13) (.seq (.reg false c_rfits_r4 [6]) .ret) (.seq (.reg false c_rfits_r5 [0, 2, 4, 19]) (.cond (.t 19) (.seq (.reg true c_rfits_r6 [2, 4, 7]) (.seq (.reg true c_rfits_r7 [6]) .ret)) .skip)))))) (.seq (.seq (.reg false c_rfits_r8 [2, 4, 8]) (.block 1 (.loop c_rfits_l1))) (.seq (.reg false c_rfits_r13 [6]) .ret))))
theorem comp_c_rfits : comp Try.prog 67 ((Try.f95.body).getD .skip) = some c_rfits.erase := by kernel_rfl
abbrev c_rfind_r1 : List SOper := [⟨(some 4), .alloc 37 [(.int .i64 0), .nilsl], none, none, 0⟩,
  ⟨(some 5), .mv (.c (.int .i64 0)), none, none, 0⟩,
  ⟨(some 6), .mv (.c (.bool false)), none, none, 0⟩]
abbrev c_rfind_r2 : List SOper := [⟨(some 10), .mv (.t 1), none, none, 0⟩,
  ⟨(some 11), .len false (.t 10), none, none, 1⟩,
  ⟨(some 12), .mv (.t 0), none, none, 0⟩,
  ⟨(some 13), .nilc (.t 12), none, none, 4⟩,
  ⟨(some 14), .faddr 1 (.t 13), none, none, 12⟩,
  ⟨(some 15), .load (.t 14), none, none, 28⟩,
  ⟨(some 16), .bin .neq (.t 11) (.t 15), none, none, 63⟩,
  ⟨(some 17), .mv (.t 16), none, none, 127⟩,
  ⟨(some 18), .mv (.t 0), none, (some (17, false)), 255⟩,
  ⟨(some 19), .nilc (.t 18), none, (some (17, false)), 511⟩,
  ⟨(some 20), .faddr 0 (.t 19), none, (some (17, false)), 1023⟩,
  ⟨(some 21), .load (.t 20), none, (some (17, false)), 2047⟩,
  ⟨(some 22), .bin .eql (.t 21) (.c (.int .i64 2)), none, (some (17, false)), 4095⟩,
  ⟨(some 23), .mv (.t 22), none, (some (17, false)), 8191⟩,
  ⟨(some 24), .mv (.t 0), none, (some (23, true)), 16383⟩,
  ⟨(some 25), .nilc (.t 24), none, (some (23, true)), 32767⟩,
  ⟨(some 26), .faddr 2 (.t 25), none, (some (23, true)), 65535⟩,
  ⟨(some 27), .load (.t 26), none, (some (23, true)), 131071⟩,
  ⟨(some 28), .bin .lss (.t 27) (.c (.int .i64 1)), none, (some (23, true)), 262143⟩,
  ⟨(some 29), .mv (.t 28), none, (some (23, true)), 524287⟩,
  ⟨(some 30), .mv (.t 0), none, (some (29, false)), 1048575⟩,
  ⟨(some 31), .nilc (.t 30), none, (some (29, false)), 2097151⟩,
  ⟨(some 32), .faddr 2 (.t 31), none, (some (29, false)), 4194303⟩,
  ⟨(some 33), .load (.t 32), none, (some (29, false)), 8388607⟩,
  ⟨(some 34), .bin .gtr (.t 33) (.c (.int .i64 64)), none, (some (29, false)), 16777215⟩,
  ⟨(some 35), .pick (.t 29) (.c (.bool true)) (.t 34), none, (some (23, true)), 33554431⟩,
  ⟨(some 36), .mv (.t 35), none, (some (23, true)), 67108863⟩,
  ⟨(some 37), .mv (.t 1), none, (some (36, false)), 134217727⟩,
  ⟨(some 38), .iaddr 1 (.t 37) (.c (.int .i64 0)), none, (some (36, false)), 268435455⟩,
  ⟨(some 39), .load (.t 38), none, (some (36, false)), 536870911⟩,
  ⟨(some 40), .mv (.t 0), none, (some (36, false)), 134217727⟩,
  ⟨(some 41), .nilc (.t 40), none, (some (36, false)), 1207959551⟩,
  ⟨(some 42), .faddr 2 (.t 41), none, (some (36, false)), 3355443199⟩,
  ⟨(some 43), .load (.t 42), none, (some (36, false)), 7650410495⟩,
  ⟨(some 44), .mv (.c .any), some ((.c (.fn (.func 94) [] [])), [(.t 39), (.t 43)]), (some (36, false)), 17179869183⟩,
  ⟨(some 45), .pick (.t 36) (.c (.bool true)) (.t 44), none, (some (23, true)), 34359738367⟩,
  ⟨(some 46), .pick (.t 23) (.t 45) (.c (.bool false)), none, (some (17, false)), 68719476735⟩,
  ⟨(some 47), .pick (.t 17) (.c (.bool true)) (.t 46), none, none, 137438953471⟩]
abbrev c_rfind_r3 : List SOper := [⟨(some 48), .build [(.int .i64 0), .nilsl] [], none, none, 0⟩,
  ⟨none, .store 2 (.t 4) (.t 48), none, none, 0⟩,
  ⟨(some 5), .mv (.c (.int .i64 0)), none, none, 0⟩,
  ⟨(some 6), .mv (.c (.bool false)), none, none, 0⟩]
abbrev c_rfind_r4 : List SOper := [⟨(some 7), .mv (.c (.int .i64 (-1))), none, none, 0⟩]
abbrev c_rfind_r5 : List SOper := [⟨(some 8), .mv (.c (.int .i64 0)), none, none, 0⟩]
abbrev c_rfind_r6 : List SOper := [⟨(some 49), .mv (.t 8), none, none, 0⟩,
  ⟨(some 50), .mv (.t 0), none, none, 0⟩,
  ⟨(some 51), .nilc (.t 50), none, none, 0⟩,
  ⟨(some 52), .faddr 4 (.t 51), none, none, 0⟩,
  ⟨(some 53), .load (.t 52), none, none, 0⟩,
  ⟨(some 54), .len false (.t 53), none, none, 0⟩,
  ⟨(some 55), .bin .lss (.t 49) (.t 54), none, none, 0⟩]
abbrev c_rfind_r7 : List SOper := [⟨(some 58), .mv (.t 0), none, none, 0⟩,
  ⟨(some 59), .mv (.t 0), none, none, 0⟩,
  ⟨(some 60), .nilc (.t 59), none, none, 2⟩,
  ⟨(some 61), .faddr 4 (.t 60), none, none, 6⟩,
  ⟨(some 62), .load (.t 61), none, none, 14⟩,
  ⟨(some 63), .mv (.t 8), none, none, 0⟩,
  ⟨(some 64), .iaddr 6 (.t 62) (.t 63), none, none, 62⟩,
  ⟨(some 65), .loads 6 (.t 64), none, none, 126⟩,
  ⟨(some 66), .mv (.t 1), none, none, 0⟩,
  ⟨(some 67), .mv (.c .any), some ((.c (.fn (.func 95) [] [])), [(.t 58), (.t 65), (.t 66)]), none, 511⟩,
  ⟨(some 68), .mv (.t 67), none, none, 1023⟩,
  ⟨(some 69), .mv (.t 7), none, (some (68, true)), 2047⟩,
  ⟨(some 70), .bin .lss (.t 69) (.c (.int .i64 0)), none, (some (68, true)), 4095⟩,
  ⟨(some 71), .mv (.t 70), none, (some (68, true)), 8191⟩,
  ⟨(some 72), .mv (.t 0), none, (some (71, false)), 16383⟩,
  ⟨(some 73), .nilc (.t 72), none, (some (71, false)), 32767⟩,
  ⟨(some 74), .faddr 4 (.t 73), none, (some (71, false)), 65535⟩,
  ⟨(some 75), .load (.t 74), none, (some (71, false)), 131071⟩,
  ⟨(some 76), .mv (.t 8), none, (some (71, false)), 16383⟩,
  ⟨(some 77), .iaddr 6 (.t 75) (.t 76), none, (some (71, false)), 524287⟩,
  ⟨(some 78), .faddr 2 (.t 77), none, (some (71, false)), 1048575⟩,
  ⟨(some 79), .load (.t 78), none, (some (71, false)), 2097151⟩,
  ⟨(some 80), .mv (.t 0), none, (some (71, false)), 16383⟩,
  ⟨(some 81), .nilc (.t 80), none, (some (71, false)), 4210687⟩,
  ⟨(some 82), .faddr 4 (.t 81), none, (some (71, false)), 12599295⟩,
  ⟨(some 83), .load (.t 82), none, (some (71, false)), 29376511⟩,
  ⟨(some 84), .mv (.t 7), none, (some (71, false)), 16383⟩,
  ⟨(some 85), .iaddr 6 (.t 83) (.t 84), none, (some (71, false)), 130039807⟩,
  ⟨(some 86), .faddr 2 (.t 85), none, (some (71, false)), 264257535⟩,
  ⟨(some 87), .load (.t 86), none, (some (71, false)), 532692991⟩,
  ⟨(some 88), .bin .gtr (.t 79) (.t 87), none, (some (71, false)), 1073741823⟩,
  ⟨(some 89), .pick (.t 71) (.c (.bool true)) (.t 88), none, (some (68, true)), 2147483647⟩,
  ⟨(some 90), .mv (.t 89), none, (some (68, true)), 4294967295⟩,
  ⟨(some 91), .mv (.t 0), none, (some (90, false)), 8589934591⟩,
  ⟨(some 92), .nilc (.t 91), none, (some (90, false)), 17179869183⟩,
  ⟨(some 93), .faddr 4 (.t 92), none, (some (90, false)), 34359738367⟩,
  ⟨(some 94), .load (.t 93), none, (some (90, false)), 68719476735⟩,
  ⟨(some 95), .mv (.t 8), none, (some (90, false)), 8589934591⟩,
  ⟨(some 96), .iaddr 6 (.t 94) (.t 95), none, (some (90, false)), 274877906943⟩,
  ⟨(some 97), .faddr 3 (.t 96), none, (some (90, false)), 549755813887⟩,
  ⟨(some 98), .load (.t 97), none, (some (90, false)), 1099511627775⟩,
  ⟨(some 99), .mv (.t 0), none, (some (90, false)), 8589934591⟩,
  ⟨(some 100), .nilc (.t 99), none, (some (90, false)), 2207613190143⟩,
  ⟨(some 101), .faddr 4 (.t 100), none, (some (90, false)), 6605659701247⟩,
  ⟨(some 102), .load (.t 101), none, (some (90, false)), 15401752723455⟩,
  ⟨(some 103), .mv (.t 7), none, (some (90, false)), 8589934591⟩,
  ⟨(some 104), .iaddr 6 (.t 102) (.t 103), none, (some (90, false)), 68178310856703⟩,
  ⟨(some 105), .faddr 3 (.t 104), none, (some (90, false)), 138547055034367⟩,
  ⟨(some 106), .load (.t 105), none, (some (90, false)), 279284543389695⟩,
  ⟨(some 107), .bin .lss (.t 98) (.t 106), none, (some (90, false)), 562949953421311⟩,
  ⟨(some 108), .pick (.t 90) (.c (.bool true)) (.t 107), none, (some (68, true)), 1125899906842623⟩,
  ⟨(some 109), .pick (.t 68) (.t 108) (.c (.bool false)), none, none, 2251799813685247⟩]
abbrev c_rfind_r8 : List SOper := [⟨(some 110), .mv (.t 8), none, none, 0⟩,
  ⟨(some 7), .mv (.t 110), none, none, 0⟩]
abbrev c_rfind_r9 : List SOper := [⟨(some 56), .mv (.t 8), none, none, 0⟩,
  ⟨(some 57), .bin .add (.t 56) (.c (.int .i64 1)), none, none, 0⟩,
  ⟨(some 8), .mv (.t 57), none, none, 0⟩]
def c_rfind_l1 : SCode := (.seq (.seq (.reg false c_rfind_r6 [0, 1, 4, 7, 8, 55]) (.cond (.t 55) .skip (.exit 0))) (.seq (.block 1 (.seq (.reg true c_rfind_r7 [0, 1, 4, 7, 8, 109]) (.cond (.t 109) (.reg false c_rfind_r8 [0, 1, 4, 7, 8]) .skip))) (.reg false c_rfind_r9 [0, 1, 4, 7, 8])))
abbrev c_rfind_r10 : List SOper := [⟨(some 111), .mv (.t 7), none, none, 0⟩,
  ⟨(some 112), .bin .lss (.t 111) (.c (.int .i64 0)), none, none, 0⟩]
abbrev c_rfind_r11 : List SOper := [⟨(some 113), .build [(.int .i64 0), .nilsl] [], none, none, 0⟩,
  ⟨none, .store 2 (.t 4) (.t 113), none, none, 0⟩,
  ⟨(some 5), .mv (.c (.int .i64 0)), none, none, 0⟩,
  ⟨(some 6), .mv (.c (.bool false)), none, none, 0⟩]
abbrev c_rfind_r12 : List SOper := [⟨(some 114), .mv (.t 0), none, none, 0⟩,
  ⟨(some 115), .nilc (.t 114), none, none, 0⟩,
  ⟨(some 116), .faddr 4 (.t 115), none, none, 0⟩,
  ⟨(some 117), .load (.t 116), none, none, 0⟩,
  ⟨(some 118), .mv (.t 7), none, none, 0⟩,
  ⟨(some 119), .iaddr 6 (.t 117) (.t 118), none, none, 0⟩,
  ⟨(some 120), .loads 6 (.t 119), none, none, 0⟩,
  ⟨(some 121), .mv (.c .any), some ((.c (.fn (.func 96) [] [])), [(.t 120)]), none, 0⟩,
  ⟨(some 9), .alloc 30 [.nilsl, .nilsl, (.int .i64 0), (.int .i64 0), (.int .i64 0), .nilsl], none, none, 0⟩,
  ⟨none, .store 6 (.t 9) (.t 121), none, none, 0⟩]
abbrev c_rfind_r13 : List SOper := [⟨(some 122), .faddr 4 (.t 9), none, none, 0⟩,
  ⟨(some 123), .load (.t 122), none, none, 1⟩,
  ⟨(some 124), .faddr 5 (.t 9), none, none, 0⟩,
  ⟨(some 125), .load (.t 124), none, none, 4⟩,
  ⟨(some 126), .build [(.int .i64 0), .nilsl] [(0, 1, (.t 123)), (1, 1, (.t 125))], none, none, 15⟩,
  ⟨(some 127), .faddr 2 (.t 9), none, none, 0⟩,
  ⟨(some 128), .load (.t 127), none, none, 32⟩,
  ⟨none, .store 2 (.t 4) (.t 126), none, none, 31⟩,
  ⟨(some 5), .mv (.t 128), none, none, 255⟩,
  ⟨(some 6), .mv (.c (.bool true)), none, none, 511⟩]
def c_rfind : SCode := (.seq (.reg false c_rfind_r1 [0, 1, 4]) (.seq (.seq (.reg true c_rfind_r2 [0, 1, 4, 47]) (.cond (.t 47) (.seq (.reg false c_rfind_r3 [4, 5, 6]) .ret) .skip)) (.seq (.reg false c_rfind_r4 [0, 1, 4, 7]) (.seq (.seq (.reg false c_rfind_r5 [0, 1, 4, 7, 8]) (.block 0 (.loop c_rfind_l1))) (.seq (.seq (.reg false c_rfind_r10 [0, 4, 7, 112]) (.cond (.t 112) (.seq (.reg false c_rfind_r11 [4, 5, 6]) .ret) .skip)) (.seq (.reg false c_rfind_r12 [4, 9]) (.seq (.reg true c_rfind_r13 [4, 5, 6]) .ret)))))))
theorem comp_c_rfind : comp Try.prog 129 ((Try.f41.body).getD .skip) = some c_rfind.erase := by kernel_rfl
abbrev c_ahead_r1 : List SOper := [⟨(some 2), .box 30 (.t 0), none, none, 0⟩,
  ⟨(some 3), .box 30 (.t 1), none, none, 0⟩,
  ⟨(some 4), .mv (.c (.bool false)), none, none, 0⟩]
abbrev c_ahead_r2 : List SOper := [⟨(some 6), .faddr 3 (.t 2), none, none, 0⟩,
  ⟨(some 7), .load (.t 6), none, none, 0⟩,
  ⟨(some 8), .faddr 3 (.t 3), none, none, 0⟩,
  ⟨(some 9), .load (.t 8), none, none, 0⟩,
  ⟨(some 10), .bin .neq (.t 7) (.t 9), none, none, 0⟩]
abbrev c_ahead_r3 : List SOper := [⟨(some 11), .faddr 3 (.t 2), none, none, 0⟩,
  ⟨(some 12), .load (.t 11), none, none, 0⟩,
  ⟨(some 13), .faddr 3 (.t 3), none, none, 0⟩,
  ⟨(some 14), .load (.t 13), none, none, 0⟩,
  ⟨(some 15), .bin .lss (.t 12) (.t 14), none, none, 0⟩,
  ⟨(some 4), .mv (.t 15), none, none, 0⟩]
abbrev c_ahead_r4 : List SOper := [⟨(some 16), .faddr 0 (.t 2), none, none, 0⟩,
  ⟨(some 17), .load (.t 16), none, none, 0⟩,
  ⟨(some 18), .faddr 0 (.t 3), none, none, 0⟩,
  ⟨(some 19), .load (.t 18), none, none, 0⟩,
  ⟨(some 20), .mv (.c .any), some ((.c (.fn (.func 132) [] [])), [(.t 17), (.t 19)]), none, 0⟩,
  ⟨(some 5), .mv (.t 20), none, none, 0⟩]
abbrev c_ahead_r5 : List SOper := [⟨(some 21), .mv (.t 5), none, none, 0⟩,
  ⟨(some 22), .bin .neq (.t 21) (.c (.int .i64 0)), none, none, 0⟩]
abbrev c_ahead_r6 : List SOper := [⟨(some 23), .mv (.t 5), none, none, 0⟩,
  ⟨(some 24), .bin .lss (.t 23) (.c (.int .i64 0)), none, none, 0⟩,
  ⟨(some 4), .mv (.t 24), none, none, 0⟩]
abbrev c_ahead_r7 : List SOper := [⟨(some 25), .faddr 2 (.t 2), none, none, 0⟩,
  ⟨(some 26), .load (.t 25), none, none, 0⟩,
  ⟨(some 27), .faddr 2 (.t 3), none, none, 0⟩,
  ⟨(some 28), .load (.t 27), none, none, 0⟩,
  ⟨(some 29), .bin .neq (.t 26) (.t 28), none, none, 0⟩]
abbrev c_ahead_r8 : List SOper := [⟨(some 30), .faddr 2 (.t 2), none, none, 0⟩,
  ⟨(some 31), .load (.t 30), none, none, 0⟩,
  ⟨(some 32), .faddr 2 (.t 3), none, none, 0⟩,
  ⟨(some 33), .load (.t 32), none, none, 0⟩,
  ⟨(some 34), .bin .lss (.t 31) (.t 33), none, none, 0⟩,
  ⟨(some 4), .mv (.t 34), none, none, 0⟩]
abbrev c_ahead_r9 : List SOper := [⟨(some 35), .faddr 1 (.t 2), none, none, 0⟩,
  ⟨(some 36), .load (.t 35), none, none, 0⟩,
  ⟨(some 37), .faddr 1 (.t 3), none, none, 0⟩,
  ⟨(some 38), .load (.t 37), none, none, 0⟩,
  ⟨(some 39), .mv (.c .any), some ((.c (.fn (.func 132) [] [])), [(.t 36), (.t 38)]), none, 0⟩,
  ⟨(some 40), .bin .lss (.t 39) (.c (.int .i64 0)), none, none, 0⟩,
  ⟨(some 4), .mv (.t 40), none, none, 0⟩]
def c_ahead : SCode := (.seq (.reg false c_ahead_r1 [2, 3]) (.seq (.seq (.reg false c_ahead_r2 [2, 3, 10]) (.cond (.t 10) (.seq (.reg false c_ahead_r3 [4]) .ret) .skip)) (.seq (.reg false c_ahead_r4 [2, 3, 5]) (.seq (.seq (.reg false c_ahead_r5 [2, 3, 5, 22]) (.cond (.t 22) (.seq (.reg false c_ahead_r6 [4]) .ret) .skip)) (.seq (.seq (.reg false c_ahead_r7 [2, 3, 29]) (.cond (.t 29) (.seq (.reg false c_ahead_r8 [4]) .ret) .skip)) (.seq (.reg false c_ahead_r9 [4]) .ret))))))
theorem comp_c_ahead : comp Try.prog 41 ((Try.f97.body).getD .skip) = some c_ahead.erase := by kernel_rfl
abbrev c_rall_r1 : List SOper := [⟨(some 2), .mv (.c .nilsl), none, none, 0⟩]
abbrev c_rall_r2 : List SOper := [⟨(some 3), .mv (.c .nilsl), none, none, 0⟩]
abbrev c_rall_r3 : List SOper := [⟨(some 6), .mv (.t 3), none, none, 0⟩,
  ⟨(some 7), .len false (.t 6), none, none, 0⟩,
  ⟨(some 8), .mv (.t 0), none, none, 0⟩,
  ⟨(some 9), .nilc (.t 8), none, none, 0⟩,
  ⟨(some 10), .faddr 4 (.t 9), none, none, 0⟩,
  ⟨(some 11), .load (.t 10), none, none, 0⟩,
  ⟨(some 12), .len false (.t 11), none, none, 0⟩,
  ⟨(some 13), .bin .lss (.t 7) (.t 12), none, none, 0⟩]
abbrev c_rall_r4 : List SOper := [⟨(some 4), .mv (.c (.int .i64 (-1))), none, none, 0⟩]
abbrev c_rall_r5 : List SOper := [⟨(some 5), .mv (.c (.int .i64 0)), none, none, 0⟩]
abbrev c_rall_r6 : List SOper := [⟨(some 14), .mv (.t 5), none, none, 0⟩,
  ⟨(some 15), .mv (.t 0), none, none, 0⟩,
  ⟨(some 16), .nilc (.t 15), none, none, 0⟩,
  ⟨(some 17), .faddr 4 (.t 16), none, none, 0⟩,
  ⟨(some 18), .load (.t 17), none, none, 0⟩,
  ⟨(some 19), .len false (.t 18), none, none, 0⟩,
  ⟨(some 20), .bin .lss (.t 14) (.t 19), none, none, 0⟩]
abbrev c_rall_r7 : List SOper := [⟨(some 23), .mv (.t 3), none, none, 0⟩,
  ⟨(some 24), .len false (.t 23), none, none, 1⟩,
  ⟨(some 25), .bin .gtr (.t 24) (.c (.int .i64 0)), none, none, 3⟩,
  ⟨(some 26), .mv (.t 25), none, none, 7⟩,
  ⟨(some 27), .mv (.t 3), none, (some (26, true)), 15⟩,
  ⟨(some 28), .mv (.t 3), none, (some (26, true)), 15⟩,
  ⟨(some 29), .len false (.t 28), none, (some (26, true)), 47⟩,
  ⟨(some 30), .bin .sub (.t 29) (.c (.int .i64 1)), none, (some (26, true)), 111⟩,
  ⟨(some 31), .iaddr 6 (.t 27) (.t 30), none, (some (26, true)), 255⟩,
  ⟨(some 32), .loads 6 (.t 31), none, (some (26, true)), 511⟩,
  ⟨(some 33), .mv (.t 0), none, (some (26, true)), 15⟩,
  ⟨(some 34), .nilc (.t 33), none, (some (26, true)), 1039⟩,
  ⟨(some 35), .faddr 4 (.t 34), none, (some (26, true)), 3087⟩,
  ⟨(some 36), .load (.t 35), none, (some (26, true)), 7183⟩,
  ⟨(some 37), .mv (.t 5), none, (some (26, true)), 15⟩,
  ⟨(some 38), .iaddr 6 (.t 36) (.t 37), none, (some (26, true)), 31759⟩,
  ⟨(some 39), .loads 6 (.t 38), none, (some (26, true)), 64527⟩,
  ⟨(some 40), .mv (.c .any), some ((.c (.fn (.func 97) [] [])), [(.t 32), (.t 39)]), (some (26, true)), 131071⟩,
  ⟨(some 41), .un .not (.t 40), none, (some (26, true)), 262143⟩,
  ⟨(some 42), .pick (.t 26) (.t 41) (.c (.bool false)), none, none, 524287⟩]
abbrev c_rall_r8 : List SOper := [⟨(some 43), .mv (.t 4), none, none, 0⟩,
  ⟨(some 44), .bin .lss (.t 43) (.c (.int .i64 0)), none, none, 1⟩,
  ⟨(some 45), .mv (.t 44), none, none, 3⟩,
  ⟨(some 46), .mv (.t 0), none, (some (45, false)), 7⟩,
  ⟨(some 47), .nilc (.t 46), none, (some (45, false)), 15⟩,
  ⟨(some 48), .faddr 4 (.t 47), none, (some (45, false)), 31⟩,
  ⟨(some 49), .load (.t 48), none, (some (45, false)), 63⟩,
  ⟨(some 50), .mv (.t 5), none, (some (45, false)), 7⟩,
  ⟨(some 51), .iaddr 6 (.t 49) (.t 50), none, (some (45, false)), 255⟩,
  ⟨(some 52), .loads 6 (.t 51), none, (some (45, false)), 511⟩,
  ⟨(some 53), .mv (.t 0), none, (some (45, false)), 7⟩,
  ⟨(some 54), .nilc (.t 53), none, (some (45, false)), 1031⟩,
  ⟨(some 55), .faddr 4 (.t 54), none, (some (45, false)), 3079⟩,
  ⟨(some 56), .load (.t 55), none, (some (45, false)), 7175⟩,
  ⟨(some 57), .mv (.t 4), none, (some (45, false)), 7⟩,
  ⟨(some 58), .iaddr 6 (.t 56) (.t 57), none, (some (45, false)), 31751⟩,
  ⟨(some 59), .loads 6 (.t 58), none, (some (45, false)), 64519⟩,
  ⟨(some 60), .mv (.c .any), some ((.c (.fn (.func 97) [] [])), [(.t 52), (.t 59)]), (some (45, false)), 131071⟩,
  ⟨(some 61), .pick (.t 45) (.c (.bool true)) (.t 60), none, none, 262143⟩]
abbrev c_rall_r9 : List SOper := [⟨(some 62), .mv (.t 5), none, none, 0⟩,
  ⟨(some 4), .mv (.t 62), none, none, 0⟩]
abbrev c_rall_r10 : List SOper := [⟨(some 21), .mv (.t 5), none, none, 0⟩,
  ⟨(some 22), .bin .add (.t 21) (.c (.int .i64 1)), none, none, 0⟩,
  ⟨(some 5), .mv (.t 22), none, none, 0⟩]
def c_rall_l1 : SCode := (.seq (.seq (.reg false c_rall_r6 [0, 3, 4, 5, 20]) (.cond (.t 20) .skip (.exit 2))) (.seq (.block 3 (.seq (.seq (.reg true c_rall_r7 [0, 3, 4, 5, 42]) (.cond (.t 42) (.exit 3) .skip)) (.seq (.reg true c_rall_r8 [0, 3, 4, 5, 61]) (.cond (.t 61) (.reg false c_rall_r9 [0, 3, 4, 5]) .skip)))) (.reg false c_rall_r10 [0, 3, 4, 5])))
abbrev c_rall_r11 : List SOper := [⟨(some 63), .mv (.t 3), none, none, 0⟩,
  ⟨(some 64), .mv (.t 0), none, none, 0⟩,
  ⟨(some 65), .nilc (.t 64), none, none, 0⟩,
  ⟨(some 66), .faddr 4 (.t 65), none, none, 0⟩,
  ⟨(some 67), .load (.t 66), none, none, 0⟩,
  ⟨(some 68), .mv (.t 4), none, none, 0⟩,
  ⟨(some 69), .iaddr 6 (.t 67) (.t 68), none, none, 0⟩,
  ⟨(some 70), .loads 6 (.t 69), none, none, 0⟩,
  ⟨(some 71), .mv (.c .any), some ((.c (.fn (.func 96) [] [])), [(.t 70)]), none, 0⟩,
  ⟨(some 72), .mkrow 30 6 1 [.nilsl, .nilsl, (.int .i64 0), (.int .i64 0), (.int .i64 0), .nilsl] [(0, (.t 71))], none, none, 0⟩,
  ⟨(some 73), .app 30 6 96 (.t 63) (.t 72), none, none, 0⟩,
  ⟨(some 3), .mv (.t 73), none, none, 0⟩]
def c_rall_l2 : SCode := (.seq (.seq (.reg false c_rall_r3 [0, 3, 13]) (.cond (.t 13) .skip (.exit 0))) (.block 1 (.seq (.reg false c_rall_r4 [0, 3, 4]) (.seq (.seq (.reg false c_rall_r5 [0, 3, 4, 5]) (.block 2 (.loop c_rall_l1))) (.reg false c_rall_r11 [0, 3])))))
abbrev c_rall_r12 : List SOper := [⟨(some 74), .mv (.t 3), none, none, 0⟩,
  ⟨(some 2), .mv (.t 74), none, none, 0⟩]
def c_rall : SCode := (.seq (.reg false c_rall_r1 [0]) (.seq (.reg false c_rall_r2 [0, 3]) (.seq (.block 0 (.loop c_rall_l2)) (.seq (.reg false c_rall_r12 [2]) .ret))))
theorem comp_c_rall : comp Try.prog 75 ((Try.f44.body).getD .skip) = some c_rall.erase := by kernel_rfl
abbrev c_pdoes_r1 : List SOper := [⟨(some 6), .mv (.c (.bool false)), none, none, 0⟩]
abbrev c_pdoes_r2 : List SOper := [⟨(some 19), .mv (.c .any), some ((.c (.fn (.func 15) [] [])), []), none, 0⟩,
  ⟨(some 20), .un .not (.t 19), none, none, 0⟩]
abbrev c_pdoes_r3 : List SOper := [⟨(some 6), .mv (.c (.bool false)), none, none, 0⟩]
abbrev c_pdoes_r4 : List SOper := [⟨(some 21), .mv (.t 2), none, none, 0⟩,
  ⟨(some 22), .mv (.c .any), some ((.c (.fn (.func 16) [] [])), [(.t 21)]), none, 0⟩]
abbrev c_pdoes_r5 : List SOper := [⟨(some 6), .mv (.c (.bool true)), none, none, 0⟩]
abbrev c_pdoes_r6 : List SOper := [⟨(some 23), .mv (.t 0), none, none, 0⟩,
  ⟨(some 24), .mv (.t 1), none, none, 0⟩,
  ⟨(some 25), .mv (.c .any), some ((.c (.fn (.func 17) [] [])), [(.t 23), (.t 24)]), none, 0⟩,
  ⟨(some 7), .mv (.t 25), none, none, 0⟩]
abbrev c_pdoes_r7 : List SOper := [⟨(some 26), .mv (.t 0), none, none, 0⟩,
  ⟨(some 27), .mv (.t 1), none, none, 0⟩,
  ⟨(some 28), .build [(.int .i64 0), (.int .i64 0), (.int .i64 0), (.int .i64 0), .nilsl] [(0, 1, (.c (.int .i64 2))), (1, 1, (.c (.int .i64 1))), (2, 1, (.t 26)), (3, 1, (.t 27))], none, none, 0⟩,
  ⟨(some 29), .box 72 (.t 28), none, none, 0⟩,
  ⟨(some 8), .mv (.t 29), none, none, 0⟩]
abbrev c_pdoes_r8 : List SOper := [⟨(some 9), .mv (.c (.int .i64 0)), none, none, 0⟩]
abbrev c_pdoes_r9 : List SOper := [⟨(some 30), .mv (.t 9), none, none, 0⟩,
  ⟨(some 31), .mv (.t 2), none, none, 0⟩,
  ⟨(some 32), .len false (.t 31), none, none, 0⟩,
  ⟨(some 33), .bin .lss (.t 30) (.t 32), none, none, 0⟩]
abbrev c_pdoes_r10 : List SOper := [⟨(some 36), .mv (.t 2), none, none, 0⟩,
  ⟨(some 37), .mv (.t 9), none, none, 0⟩,
  ⟨(some 38), .iaddr 7 (.t 36) (.t 37), none, none, 0⟩,
  ⟨(some 39), .faddr 1 (.t 38), none, none, 0⟩,
  ⟨(some 40), .loads 6 (.t 39), none, none, 0⟩,
  ⟨(some 41), .mv (.c .any), some ((.c (.fn (.func 18) [] [])), [(.t 40)]), none, 0⟩,
  ⟨(some 10), .alloc 30 [.nilsl, .nilsl, (.int .i64 0), (.int .i64 0), (.int .i64 0), .nilsl], none, none, 0⟩,
  ⟨none, .store 6 (.t 10) (.t 41), none, none, 0⟩]
abbrev c_pdoes_r11 : List SOper := [⟨(some 11), .mv (.c (.int .i64 0)), none, none, 0⟩,
  ⟨(some 12), .mv (.c (.int .i64 0)), none, none, 0⟩]
abbrev c_pdoes_r12 : List SOper := [⟨(some 42), .mv (.t 2), none, none, 0⟩,
  ⟨(some 43), .mv (.t 9), none, none, 0⟩,
  ⟨(some 44), .iaddr 7 (.t 42) (.t 43), none, none, 0⟩,
  ⟨(some 45), .faddr 0 (.t 44), none, none, 0⟩,
  ⟨(some 46), .load (.t 45), none, none, 0⟩]
abbrev c_pdoes_r13 : List SOper := [⟨(some 48), .bin .eql (.t 46) (.c (.int .i64 0)), none, none, 0⟩,
  ⟨(some 47), .mv (.t 48), none, none, 0⟩]
abbrev c_pdoes_r14 : List SOper := [⟨(some 49), .mv (.t 7), none, none, 0⟩,
  ⟨(some 50), .faddr 0 (.t 10), none, none, 0⟩,
  ⟨(some 51), .load (.t 50), none, none, 2⟩,
  ⟨(some 52), .iaddr 1 (.t 51) (.c (.int .i64 0)), none, none, 6⟩,
  ⟨(some 53), .load (.t 52), none, none, 14⟩,
  ⟨(some 54), .faddr 2 (.t 10), none, none, 0⟩,
  ⟨(some 55), .load (.t 54), none, none, 32⟩,
  ⟨(some 56), .loads 6 (.t 10), none, none, 0⟩,
  ⟨(some 57), .mv (.c .any), some ((.c (.fn (.func 21) [] [])), [(.t 56)]), none, 128⟩,
  ⟨(some 58), .mv (.c .any), some ((.c (.fn (.func 20) [] [])), [(.t 49), (.t 53), (.t 55), (.t 57)]), none, 511⟩,
  ⟨(some 59), .mv (.t 8), none, none, 0⟩,
  ⟨(some 60), .loads 6 (.t 10), none, none, 0⟩,
  ⟨(some 61), .mv (.c .any), some ((.c (.fn (.func 37) [] [])), [(.t 59), (.t 60)]), none, 4095⟩,
  ⟨(some 11), .mv (.t 58), none, none, 8191⟩,
  ⟨(some 12), .mv (.t 61), none, none, 16383⟩]
abbrev c_pdoes_r15 : List SOper := [⟨(some 63), .bin .eql (.t 46) (.c (.int .i64 1)), none, none, 0⟩,
  ⟨(some 62), .mv (.t 63), none, none, 0⟩]
abbrev c_pdoes_r16 : List SOper := [⟨(some 64), .mv (.t 7), none, none, 0⟩,
  ⟨(some 65), .faddr 0 (.t 10), none, none, 0⟩,
  ⟨(some 66), .load (.t 65), none, none, 2⟩,
  ⟨(some 67), .iaddr 1 (.t 66) (.c (.int .i64 0)), none, none, 6⟩,
  ⟨(some 68), .load (.t 67), none, none, 14⟩,
  ⟨(some 69), .faddr 2 (.t 10), none, none, 0⟩,
  ⟨(some 70), .load (.t 69), none, none, 32⟩,
  ⟨(some 71), .loads 6 (.t 10), none, none, 0⟩,
  ⟨(some 72), .mv (.c .any), some ((.c (.fn (.func 21) [] [])), [(.t 71)]), none, 128⟩,
  ⟨(some 73), .mv (.c .any), some ((.c (.fn (.func 38) [] [])), [(.t 64), (.t 68), (.t 70), (.t 72)]), none, 511⟩,
  ⟨(some 74), .mv (.t 8), none, none, 0⟩,
  ⟨(some 75), .loads 6 (.t 10), none, none, 0⟩,
  ⟨(some 76), .mv (.c .any), some ((.c (.fn (.func 39) [] [])), [(.t 74), (.t 75)]), none, 4095⟩,
  ⟨(some 11), .mv (.t 73), none, none, 8191⟩,
  ⟨(some 12), .mv (.t 76), none, none, 16383⟩]
abbrev c_pdoes_r17 : List SOper := [⟨(some 78), .bin .eql (.t 46) (.c (.int .i64 2)), none, none, 0⟩,
  ⟨(some 77), .mv (.t 78), none, none, 0⟩]
abbrev c_pdoes_r18 : List SOper := [⟨(some 79), .mv (.t 7), none, none, 0⟩,
  ⟨(some 80), .faddr 0 (.t 10), none, none, 0⟩,
  ⟨(some 81), .load (.t 80), none, none, 2⟩,
  ⟨(some 82), .iaddr 1 (.t 81) (.c (.int .i64 0)), none, none, 6⟩,
  ⟨(some 83), .load (.t 82), none, none, 14⟩,
  ⟨(some 84), .faddr 2 (.t 10), none, none, 0⟩,
  ⟨(some 85), .load (.t 84), none, none, 32⟩,
  ⟨(some 86), .mv (.c .any), some ((.c (.fn (.func 19) [] [])), [(.t 79), (.t 83), (.t 85)]), none, 127⟩,
  ⟨(some 87), .mv (.t 8), none, none, 0⟩,
  ⟨(some 88), .loads 6 (.t 10), none, none, 0⟩,
  ⟨(some 89), .mv (.c .any), some ((.c (.fn (.func 40) [] [])), [(.t 87), (.t 88)]), none, 1023⟩,
  ⟨(some 11), .mv (.t 86), none, none, 2047⟩,
  ⟨(some 12), .mv (.t 89), none, none, 4095⟩]
abbrev c_pdoes_r19 : List SOper := [⟨(some 91), .mv (.t 7), none, none, 0⟩,
  ⟨(some 92), .faddr 0 (.t 10), none, none, 0⟩,
  ⟨(some 93), .load (.t 92), none, none, 0⟩,
  ⟨(some 94), .iaddr 1 (.t 93) (.c (.int .i64 0)), none, none, 0⟩,
  ⟨(some 95), .load (.t 94), none, none, 0⟩,
  ⟨(some 96), .mv (.c .any), some ((.c (.fn (.func 23) [] [])), [(.t 91), (.t 95)]), none, 0⟩,
  ⟨(some 90), .mv (.t 96), none, none, 0⟩,
  ⟨(some 97), .extr (.t 90) 0, none, none, 0⟩,
  ⟨(some 98), .extr (.t 90) 1, none, none, 0⟩,
  ⟨(some 99), .extr (.t 90) 2, none, none, 0⟩,
  ⟨(some 13), .alloc 37 [(.int .i64 0), .nilsl], none, none, 0⟩,
  ⟨none, .store 2 (.t 13) (.t 97), none, none, 0⟩,
  ⟨(some 14), .mv (.t 98), none, none, 0⟩,
  ⟨(some 15), .mv (.t 99), none, none, 0⟩]
abbrev c_pdoes_r20 : List SOper := [⟨(some 101), .mv (.t 8), none, none, 0⟩,
  ⟨(some 102), .faddr 0 (.t 10), none, none, 0⟩,
  ⟨(some 103), .load (.t 102), none, none, 0⟩,
  ⟨(some 104), .mv (.c .any), some ((.c (.fn (.func 41) [] [])), [(.t 101), (.t 103)]), none, 0⟩,
  ⟨(some 100), .mv (.t 104), none, none, 0⟩,
  ⟨(some 105), .extr (.t 100) 0, none, none, 0⟩,
  ⟨(some 106), .extr (.t 100) 1, none, none, 0⟩,
  ⟨(some 107), .extr (.t 100) 2, none, none, 0⟩,
  ⟨(some 16), .alloc 37 [(.int .i64 0), .nilsl], none, none, 0⟩,
  ⟨none, .store 2 (.t 16) (.t 105), none, none, 0⟩,
  ⟨(some 17), .mv (.t 106), none, none, 0⟩,
  ⟨(some 18), .mv (.t 107), none, none, 0⟩]
abbrev c_pdoes_r21 : List SOper := [⟨(some 108), .mv (.t 11), none, none, 0⟩,
  ⟨(some 109), .mv (.t 12), none, none, 0⟩,
  ⟨(some 110), .bin .neq (.t 108) (.t 109), none, none, 3⟩,
  ⟨(some 111), .mv (.t 110), none, none, 7⟩,
  ⟨(some 112), .mv (.t 15), none, (some (111, false)), 15⟩,
  ⟨(some 113), .mv (.t 18), none, (some (111, false)), 15⟩,
  ⟨(some 114), .eq 0 true (.t 112) (.t 113), none, (some (111, false)), 63⟩,
  ⟨(some 115), .pick (.t 111) (.c (.bool true)) (.t 114), none, none, 127⟩,
  ⟨(some 116), .mv (.t 115), none, none, 255⟩,
  ⟨(some 117), .mv (.t 14), none, (some (116, false)), 511⟩,
  ⟨(some 118), .mv (.t 17), none, (some (116, false)), 511⟩,
  ⟨(some 119), .bin .neq (.t 117) (.t 118), none, (some (116, false)), 2047⟩,
  ⟨(some 120), .pick (.t 116) (.c (.bool true)) (.t 119), none, none, 4095⟩,
  ⟨(some 121), .mv (.t 120), none, none, 8191⟩,
  ⟨(some 122), .loads 2 (.t 13), none, (some (121, false)), 16383⟩,
  ⟨(some 123), .loads 2 (.t 16), none, (some (121, false)), 16383⟩,
  ⟨(some 124), .mv (.c .any), some ((.c (.fn (.func 25) [] [])), [(.t 122), (.t 123)]), (some (121, false)), 65535⟩,
  ⟨(some 125), .un .not (.t 124), none, (some (121, false)), 131071⟩,
  ⟨(some 126), .pick (.t 121) (.c (.bool true)) (.t 125), none, none, 262143⟩,
  ⟨(some 127), .mv (.t 126), none, none, 524287⟩,
  ⟨(some 128), .mv (.t 7), none, (some (127, false)), 1048575⟩,
  ⟨(some 129), .mv (.c .any), some ((.c (.fn (.func 42) [] [])), [(.t 128)]), (some (127, false)), 2097151⟩,
  ⟨(some 130), .mv (.t 8), none, (some (127, false)), 1048575⟩,
  ⟨(some 131), .nilc (.t 130), none, (some (127, false)), 5242879⟩,
  ⟨(some 132), .faddr 4 (.t 131), none, (some (127, false)), 13631487⟩,
  ⟨(some 133), .load (.t 132), none, (some (127, false)), 30408703⟩,
  ⟨(some 134), .len false (.t 133), none, (some (127, false)), 63963135⟩,
  ⟨(some 135), .bin .neq (.t 129) (.t 134), none, (some (127, false)), 134217727⟩,
  ⟨(some 136), .pick (.t 127) (.c (.bool true)) (.t 135), none, none, 268435455⟩]
abbrev c_pdoes_r22 : List SOper := [⟨(some 6), .mv (.c (.bool false)), none, none, 0⟩]
abbrev c_pdoes_r23 : List SOper := [⟨(some 34), .mv (.t 9), none, none, 0⟩,
  ⟨(some 35), .bin .add (.t 34) (.c (.int .i64 1)), none, none, 0⟩,
  ⟨(some 9), .mv (.t 35), none, none, 0⟩]
def c_pdoes_l1 : SCode := (.seq (.seq (.reg false c_pdoes_r9 [2, 7, 8, 9, 33]) (.cond (.t 33) .skip (.exit 0))) (.seq (.block 1 (.seq (.reg false c_pdoes_r10 [2, 7, 8, 9, 10]) (.seq (.reg false c_pdoes_r11 [2, 7, 8, 9, 10, 11, 12]) (.seq (.seq (.reg false c_pdoes_r12 [2, 7, 8, 9, 10, 11, 12, 46]) (.block 2 (.seq (.reg false c_pdoes_r13 [2, 7, 8, 9, 10, 11, 12, 46, 47]) (.cond (.t 47) (.reg true c_pdoes_r14 [2, 7, 8, 9, 10, 11, 12]) (.seq (.reg false c_pdoes_r15 [2, 7, 8, 9, 10, 11, 12, 46, 62]) (.cond (.t 62) (.reg true c_pdoes_r16 [2, 7, 8, 9, 10, 11, 12]) (.seq (.reg false c_pdoes_r17 [2, 7, 8, 9, 10, 11, 12, 77]) (.cond (.t 77) (.reg true c_pdoes_r18 [2, 7, 8, 9, 10, 11, 12]) .skip)))))))) (.seq (.reg false c_pdoes_r19 [2, 7, 8, 9, 10, 11, 12, 13, 14, 15]) (.seq (.reg false c_pdoes_r20 [2, 7, 8, 9, 11, 12, 13, 14, 15, 16, 17, 18]) (.seq (.reg true c_pdoes_r21 [2, 7, 8, 9, 136]) (.cond (.t 136) (.seq (.reg false c_pdoes_r22 [6]) .ret) .skip)))))))) (.reg false c_pdoes_r23 [2, 7, 8, 9])))
abbrev c_pdoes_r24 : List SOper := [⟨(some 137), .mv (.t 7), none, none, 0⟩,
  ⟨(some 138), .mv (.c .any), some ((.c (.fn (.func 24) [] [])), [(.t 137)]), none, 0⟩,
  ⟨(some 139), .mv (.t 8), none, none, 0⟩,
  ⟨(some 140), .mv (.c .any), some ((.c (.fn (.func 44) [] [])), [(.t 139)]), none, 0⟩,
  ⟨(some 141), .mv (.c .any), some ((.c (.fn (.func 43) [] [])), [(.t 138), (.t 140)]), none, 0⟩,
  ⟨(some 6), .mv (.t 141), none, none, 0⟩]
def c_pdoes : SCode := (.seq (.reg false c_pdoes_r1 [0, 1, 2]) (.seq (.seq (.reg false c_pdoes_r2 [0, 1, 2, 20]) (.cond (.t 20) (.seq (.reg false c_pdoes_r3 [6]) .ret) .skip)) (.seq (.seq (.reg false c_pdoes_r4 [0, 1, 2, 22]) (.cond (.t 22) (.seq (.reg false c_pdoes_r5 [6]) .ret) .skip)) (.seq (.reg false c_pdoes_r6 [0, 1, 2, 7]) (.seq (.reg false c_pdoes_r7 [2, 7, 8]) (.seq (.seq (.reg false c_pdoes_r8 [2, 7, 8, 9]) (.block 0 (.loop c_pdoes_l1))) (.seq (.reg false c_pdoes_r24 [6]) .ret)))))))
theorem comp_c_pdoes : comp Try.prog 142 ((Try.f5.body).getD .skip) = some c_pdoes.erase := by kernel_rfl
end Go.Proofs.Ytfakdapglbgokaa
