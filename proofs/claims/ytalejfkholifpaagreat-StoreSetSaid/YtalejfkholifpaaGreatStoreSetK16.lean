/-
  Texts joined: XCstb. No condition.
-/
import Derived.WalkSpells
import Derived.RegionTactic
import Derived.BigRegion
import Derived.Deep.RegionLaw
import Derived.Test.YtalejfkholifpaaGreatProg
import Derived.Test.YtalejfkholifpaaGreatStoreSetK15
namespace Go.Proofs.YtalejfkholifpaaGreat
set_option linter.all false
open Go.RowKit
abbrev qa8x : List SOper := [Oa 3 (.box 26 (.t 0)), Oa 6 (.mv (.c .nil)), Oa 7 (.alloc 34 [(.int .i64 0), (.int .i64 0)])]
abbrev qa8w : List SOper := [Sa 12 6 3, Ma 13 1, Ma 14 2, Qc 15 22 [12, 13, 14], Ma 8 15]
abbrev qa8v : List SOper := [Ma 16 8, Ca 17 .neq 16 0]
abbrev qa8u : List SOper := [Ma 18 8, Oa 19 (.build [(.int .i64 0), (.int .i64 0)] [(0, 1, (.t 18)), (1, 1, (.c (.int .i64 (-1))))]), Oa 6 (.mv (.c .nil)), Va 2 7 19]
abbrev qa8t : List SOper := [Ma 20 1, Qh 21 31 [20] 1, Fa 22 4 3, Od 23 (Pa 22) 4, Fa 24 5 3, Od 25 (Pa 24) 16, Qh 26 32 [25] 51, Od 27 (.build [(.int .i64 0), .nilsl] [(0, 1, (.t 23)), (1, 1, (.t 26))]) 127, Od 28 (.build [.niliface, (.int .i64 0), .nilsl, .nilsl, (.int .i64 0), (.int .i64 0), .nilsl, .nilsl, .nilsl, (.int .i64 0), .nilsl] [(7, 1, (.t 21)), (9, 2, (.t 27))]) 255, Od 29 (.box 76 (.t 28)) 511, Od 9 (Pm 29) 1023]
abbrev qa8s : List SOper := [Ma 30 9, Sa 31 6 3, Oa 32 (.nilc (.t 30)), Fa 33 1 32, Va 6 33 31]
abbrev qa8r : List SOper := [Ma 34 9, Fa 35 2 3, La 36 35, Qc 37 31 [36], Oa 38 (.nilc (.t 34)), Fa 39 1 38, Fa 40 2 39, Va 1 40 37]
abbrev qa8q : List SOper := [Ma 41 2, Na 42 41, Ka 43 0]
abbrev qa8p : List SOper := [Ba 44 .lss 43 42]
abbrev qa1x : List SOper := [Ia 45 2 41 43, Sa 46 2 45, Oa 11 (.alloc 69 [.nilsl, .nilsl]), Va 2 11 46]
abbrev qa1w : List SOper := [Ma 47 9, Ma 48 9, Od 49 (.nilc (.t 48)) 2, Od 50 (Pf 8 49) 6, Od 51 (Pa 50) 14, Fa 52 0 11, Od 53 (Pa 52) 32, Qh 54 31 [53] 96, Od 55 (.build [.nilsl, .nilsl] [(0, 1, (.t 54))]) 224, Od 56 (.mkrow 69 2 1 [.nilsl, .nilsl] [(0, (.t 55))]) 480, Od 57 (.app 69 2 48 (.t 51) (.t 56)) 1022, Od 58 (.nilc (.t 47)) 2047, Od 59 (Pf 8 58) 4095, Og (.store 1 (.t 59) (.t 57)) 8191]
abbrev qa1v : List SOper := [Ca 60 .add 43 1, Ma 43 60]
def qar2 : SCode := (Sf qa8p [1, 3, 7, 9, 41, 42, 43, 44] (.seq (Ce 44 0) (.seq (.block 1 (Sf qa1x [1, 3, 7, 9, 11, 41, 42, 43] (Rt qa1w [1, 3, 7, 9, 41, 42, 43]))) (Rf qa1v [1, 3, 7, 9, 41, 42, 43]))))
abbrev qand : List SOper := [Fa 61 0 3, La 62 61]
abbrev qa1u : List SOper := [Ca 74 .eql 62 1, Ma 73 74]
abbrev qa1t : List SOper := [Ma 75 9, Ma 76 1, Na 77 76, Fa 78 3 3, La 79 78, Qc 80 33 [77, 79], Oa 81 (.build [.nil] [(0, 1, (.t 80))]), Oa 82 (.mkifc 80 (.t 81)), Oa 83 (.nilc (.t 75)), Fa 84 0 83, Va 1 84 82]
abbrev qa1s : List SOper := [Ca 86 .eql 62 2, Ma 85 86]
abbrev qa1r : List SOper := [Ma 87 9, Ma 88 1, Od 89 (.iaddr 1 (.t 88) (.c (.int .i64 0))) 2, Od 90 (Pa 89) 6, Fa 91 3 3, Od 92 (Pa 91) 16, Qh 93 34 [90, 92] 62, Od 94 (.build [.nil] [(0, 1, (.t 93))]) 126, Od 95 (.mkifc 84 (.t 94)) 254, Od 96 (.nilc (.t 87)) 511, Od 97 (Pf 0 96) 1023, Og (.store 1 (.t 97) (.t 95)) 2047]
abbrev qa1q : List SOper := [Ma 63 9, Ma 64 1, Na 65 64, Fa 66 3 3, La 67 66, Qc 68 35 [65, 67], Oa 69 (.build [.nil] [(0, 1, (.t 68))]), Oa 70 (.mkifc 88 (.t 69)), Oa 71 (.nilc (.t 63)), Fa 72 0 71, Va 1 72 70]
abbrev qa1p : List SOper := [Ma 98 9, Oa 99 (.build [(.int .i64 0), (.int .i64 0)] []), Ma 6 98, Va 2 7 99]
def c_snew : SCode := (Sf qa8x [1, 2, 3, 7] (.seq (Sf qa8w [1, 2, 3, 7, 8] (Sf qa8v [1, 2, 3, 7, 8, 17] (Cn 17 (Sf qa8u [6, 7] .ret) .skip))) (.seq (Rt qa8t [1, 2, 3, 7, 9]) (Sf qa8s [1, 2, 3, 7, 9] (Sf qa8r [1, 2, 3, 7, 9] (.seq (Sf qa8q [1, 3, 7, 9, 41, 42, 43] (Bl 0 qar2)) (.seq (Sf qand [1, 3, 7, 9, 62] (.block 2 (Sf qa1u [1, 3, 7, 9, 62, 73] (Cn 73 (Rf qa1t [7, 9]) (Sf qa1s [1, 3, 7, 9, 85] (Cn 85 (Rt qa1r [7, 9]) (Rf qa1q [7, 9]))))))) (Sf qa1p [6, 7] .ret))))))))
theorem qaj3 : comp Tryz.prog 100 ((Tryz.f9.body).getD .skip) = some c_snew.erase := by kernel_rfl
abbrev qa2o : List SOper := [Oa 4 (.mv (.c (.bool false)))]
abbrev qa2n : List SOper := [Ma 7 1, Na 8 7, Ka 9 0]
abbrev qa2m : List SOper := [Ba 10 .lss 9 8]
abbrev qa2l : List SOper := [Ma 11 9, Ia 12 1 7 9, La 13 12, Ma 5 11, Ma 6 13]
abbrev qa2k : List SOper := [Ma 14 6, Ma 15 0, Oa 16 (.nilc (.t 15)), Fa 17 7 16, La 18 17, Ma 19 5, Ia 20 1 18 19, La 21 20, Qc 22 49 [21], Ba 23 .gtr 14 22]
abbrev qa2j : List SOper := [Oa 4 (.mv (.c (.bool false)))]
abbrev qa2i : List SOper := [Ca 24 .add 9 1, Ma 9 24]
def qanf : SCode := (Sf qa2m [0, 7, 8, 9, 10] (.seq (Ce 10 0) (.seq (.block 1 (Sf qa2l [0, 5, 6, 7, 8, 9] (Sf qa2k [0, 7, 8, 9, 23] (Cn 23 (Sf qa2j [4] .ret) .skip)))) (Rf qa2i [0, 7, 8, 9]))))
abbrev qa2h : List SOper := [Oa 4 (.mv (.c (.bool true)))]
def c_sfits : SCode := (Sf qa2o [0, 1] (.seq (Sf qa2n [0, 7, 8, 9] (Bl 0 qanf)) (Sf qa2h [4] .ret)))
theorem qap0 : comp Tryz.prog 25 ((Tryz.f38.body).getD .skip) = some c_sfits.erase := by kernel_rfl
abbrev qa2g : List SOper := [Oa 3 (.box 38 (.t 1)), Ka 4 0]
abbrev qa2f : List SOper := [Ma 6 0, Oa 7 (.nilc (.t 6)), Fa 8 1 7, Fa 9 0 8, La 10 9, Ca 11 .eql 10 3, Ma 5 11]
abbrev qa2e : List SOper := [Fa 13 0 3, Od 14 (Pa 13) 1, Od 15 (Pn 14) 3, Ma 16 0, Od 17 (.nilc (.t 16)) 8, Od 18 (Pf 7 17) 24, Od 19 (Pa 18) 56, Od 20 (Pn 19) 120, Od 21 (Pb .neq 15 20) 255, Od 22 (Pm 21) 511, Of 23 (Pm 5) 22 false 1023, Of 24 (Pm 23) 22 false 2047, Of 25 (Pf 1 3) 24 true 4095, Of 26 (Pa 25) 24 true 8191, Of 27 (Pn 26) 24 true 16383, Of 28 (Pm 0) 24 true 4095, Of 29 (.nilc (.t 28)) 24 true 36863, Of 30 (Pf 7 29) 24 true 102399, Of 31 (Pa 30) 24 true 233471, Of 32 (Pn 31) 24 true 495615, Of 33 (Pb .neq 27 32) 24 true 1048575, Of 34 (Pu 24 33) 22 false 2097151, Od 35 (Pt 22 34) 4194303, Od 12 (Pm 35) 8388607]
abbrev qa2d : List SOper := [Ka 4 2]
abbrev qa2c : List SOper := [Ma 37 5, Oa 38 (.un .not (.t 37)), Ma 39 38, Oe 40 (Pf 1 3) 39 true, Oe 41 (Pa 40) 39 true, Oe 42 (Pn 41) 39 true, Oe 43 (Pc .gtr 42 0) 39 true, Oe 44 (Pm 43) 39 true, Oe 45 (Pf 3 3) 44 false, Oe 46 (Pa 45) 44 false, Oe 47 (Pc .neq 46 0) 44 false, Oe 48 (Pt 44 47) 39 true, Ua 49 39 48, Ma 50 49, Oe 51 (Pm 0) 50 false, Oe 52 (.nilc (.t 51)) 50 false, Oe 53 (Pf 1 52) 50 false, Oe 54 (Pf 0 53) 50 false, Oe 55 (Pa 54) 50 false, Oe 56 (Pc .neq 55 2) 50 false, Oe 57 (Pm 56) 50 false, Oe 58 (Pf 2 3) 57 true, Oe 59 (Pa 58) 57 true, Oe 60 (Pc .neq 59 0) 57 true, Oe 61 (Pu 57 60) 50 false, Ta 62 50 61, Ma 36 62]
abbrev qa2b : List SOper := [Ka 4 4]
abbrev qa2a : List SOper := [Ma 64 0, Fa 65 0 3, La 66 65, Qc 67 38 [64, 66], Oa 68 (.un .not (.t 67)), Ma 69 68, Oe 70 (Pm 5) 69 false, Oe 71 (Pm 70) 69 false, Oe 72 (Pm 0) 71 true, Oe 73 (Pf 1 3) 71 true, Oe 74 (Pa 73) 71 true, Qi 75 38 [72, 74] 71 true 0, Oe 76 (.un .not (.t 75)) 71 true, Oe 77 (Pu 71 76) 69 false, Ta 78 69 77, Ma 63 78]
abbrev qa19 : List SOper := [Ka 4 6]
abbrev qa18 : List SOper := [Ka 4 0]
def c_skeys : SCode := (Sf qa2g [0, 3] (Sf qa2f [0, 3, 5] (.seq (.block 0 (.seq (Rt qa2e [0, 3, 5, 12]) (Cn 12 (Sf qa2d [4] .ret) (Sf qa2c [0, 3, 5, 36] (Cn 36 (Sf qa2b [4] .ret) (Sf qa2a [63] (Cn 63 (Sf qa19 [4] .ret) .skip))))))) (Sf qa18 [4] .ret))))
theorem qapz : comp Tryz.prog 79 ((Tryz.f36.body).getD .skip) = some c_skeys.erase := by kernel_rfl
abbrev qa9z : List SOper := [Oa 3 (.box 38 (.t 1)), Ka 4 0]
abbrev qa9y : List SOper := [Ma 7 0, Sa 8 6 3, Qc 9 36 [7, 8], Ma 5 9]
abbrev qa9x : List SOper := [Ma 10 5, Ca 11 .neq 10 0]
abbrev qa9w : List SOper := [Ma 12 5, Ma 4 12]
abbrev qa9v : List SOper := [Ma 13 0, Od 14 (.nilc (.t 13)) 1, Od 15 (Pf 1 14) 3, Od 16 (Ps 6 15) 7, Ma 17 0, Od 18 (.nilc (.t 17)) 16, Od 19 (Pf 8 18) 48, Od 20 (Pa 19) 112, Fa 21 4 3, Od 22 (Pa 21) 256, Fa 23 5 3, Od 24 (Pa 23) 1024, Qh 25 37 [16, 20, 22, 24] 4095, Od 6 (Pm 25) 8191]
abbrev qa9u : List SOper := [Ma 26 6, Ca 27 .neq 26 0]
abbrev qa9t : List SOper := [Ma 28 6, Ma 4 28]
abbrev qa9s : List SOper := [Ma 29 0, Od 30 (.nilc (.t 29)) 1, Od 31 (Pf 0 30) 3, Od 32 (Pa 31) 7, Sa 33 6 3, ⟨(some 34), .mv (.c .any), some ((.c (.fn (.method "shuntyard/store.add") [] [])), [(.t 32), (.t 33)]), none, 31⟩, Od 4 (Pm 34) 63]
def c_sadd : SCode := (Sf qa9z [0, 3] (.seq (Sf qa9y [0, 3, 5] (Sf qa9x [0, 3, 5, 11] (Cn 11 (Sf qa9w [4] .ret) .skip))) (.seq (.seq (Rt qa9v [0, 3, 6]) (Sf qa9u [0, 3, 6, 27] (Cn 27 (Sf qa9t [4] .ret) .skip))) (.seq (Rt qa9s [4]) .ret))))
theorem qatr : comp Tryz.prog 35 ((Tryz.f10.body).getD .skip) = some c_sadd.erase := by kernel_rfl
abbrev qa9g : List SOper := [Oa 3 (.box 38 (.t 1)), Ka 4 0]
abbrev qa9f : List SOper := [Ma 7 0, Sa 8 6 3, Qc 9 36 [7, 8], Ma 5 9]
abbrev qa9e : List SOper := [Ma 10 5, Ca 11 .neq 10 0]
abbrev qa9d : List SOper := [Ma 12 5, Ma 4 12]
abbrev qa9c : List SOper := [Ma 13 0, Od 14 (.nilc (.t 13)) 1, Od 15 (Pf 1 14) 3, Od 16 (Ps 6 15) 7, Ma 17 0, Od 18 (.nilc (.t 17)) 16, Od 19 (Pf 8 18) 48, Od 20 (Pa 19) 112, Fa 21 4 3, Od 22 (Pa 21) 256, Fa 23 5 3, Od 24 (Pa 23) 1024, Qh 25 37 [16, 20, 22, 24] 4095, Od 6 (Pm 25) 8191]
abbrev qa9b : List SOper := [Ma 26 6, Ca 27 .neq 26 0]
abbrev qa9a : List SOper := [Ma 28 6, Ma 4 28]
abbrev qa89 : List SOper := [Ma 29 0, Od 30 (.nilc (.t 29)) 1, Od 31 (Pf 0 30) 3, Od 32 (Pa 31) 7, Sa 33 6 3, ⟨(some 34), .mv (.c .any), some ((.c (.fn (.method "shuntyard/store.change") [] [])), [(.t 32), (.t 33)]), none, 31⟩, Od 4 (Pm 34) 63]
def c_schg : SCode := (Sf qa9g [0, 3] (.seq (Sf qa9f [0, 3, 5] (Sf qa9e [0, 3, 5, 11] (Cn 11 (Sf qa9d [4] .ret) .skip))) (.seq (.seq (Rt qa9c [0, 3, 6]) (Sf qa9b [0, 3, 6, 27] (Cn 27 (Sf qa9a [4] .ret) .skip))) (.seq (Rt qa89 [4]) .ret))))
theorem qato : comp Tryz.prog 35 ((Tryz.f11.body).getD .skip) = some c_schg.erase := by kernel_rfl
abbrev qa2z : List SOper := [Oa 3 (.box 38 (.t 1)), Ka 4 0]
abbrev qa2y : List SOper := [Ma 6 0, Sa 7 6 3, Qc 8 36 [6, 7], Ma 5 8]
abbrev qa2x : List SOper := [Ma 9 5, Ca 10 .neq 9 0]
abbrev qa2w : List SOper := [Ma 11 5, Ma 4 11]
abbrev qa2v : List SOper := [Ma 12 0, Od 13 (.nilc (.t 12)) 1, Od 14 (Pf 0 13) 3, Od 15 (Pa 14) 7, Sa 16 6 3, ⟨(some 17), .mv (.c .any), some ((.c (.fn (.method "shuntyard/store.drop") [] [])), [(.t 15), (.t 16)]), none, 31⟩, Od 4 (Pm 17) 63]
def c_sdrop : SCode := (Sf qa2z [0, 3] (.seq (Sf qa2y [0, 3, 5] (Sf qa2x [0, 3, 5, 10] (Cn 10 (Sf qa2w [4] .ret) .skip))) (.seq (Rt qa2v [4]) .ret)))
theorem qap3 : comp Tryz.prog 18 ((Tryz.f12.body).getD .skip) = some c_sdrop.erase := by kernel_rfl
abbrev qa2u : List SOper := [Oa 4 (.alloc 46 [(.int .i64 0), .nilsl]), Oa 5 (.mv (.c (.bool false)))]
abbrev qa2t : List SOper := [Ma 8 1, Na 9 8, Ma 10 0, Oa 11 (.nilc (.t 10)), Fa 12 7 11, La 13 12, Na 14 13, Ba 15 .eql 9 14, Ma 16 15, Oe 17 (Pm 0) 16 true, Oe 18 (Pm 1) 16 true, Qi 19 38 [17, 18] 16 true 0, Ua 20 16 19]
abbrev qa2s : List SOper := [Ma 22 0, Oa 23 (.nilc (.t 22)), Fa 24 0 23, La 25 24, Ma 26 1, ⟨(some 27), .mv (.c .any), some ((.c (.fn (.method "shuntyard/store.find") [] [])), [(.t 25), (.t 26)]), none, 0⟩, Ma 21 27, Oa 28 (.extr (.t 21) 0), Oa 29 (.extr (.t 21) 1), Oa 6 (.alloc 46 [(.int .i64 0), .nilsl]), Va 2 6 28, Ma 7 29]
abbrev qa2r : List SOper := [Ma 30 7]
abbrev qa2q : List SOper := [Sa 31 2 6, Va 2 4 31, Oa 5 (.mv (.c (.bool true)))]
abbrev qa2p : List SOper := [Ma 32 0, Od 33 (.nilc (.t 32)) 1, Od 34 (Pf 9 33) 3, Od 35 (Pf 0 34) 7, Od 36 (Pa 35) 15, Ma 37 0, Od 38 (.nilc (.t 37)) 32, Od 39 (Pf 9 38) 96, Od 40 (Pf 1 39) 224, Od 41 (Pa 40) 480, Qh 42 32 [41] 992, Od 43 (.build [(.int .i64 0), .nilsl] [(0, 1, (.t 36)), (1, 1, (.t 42))]) 2047, Og (.store 2 (.t 4) (.t 43)) 4095, Od 5 (.mv (.c (.bool false))) 8191]
def c_sfind : SCode := (Sf qa2u [0, 1, 4] (.seq (Sf qa2t [0, 1, 4, 20] (Cn 20 (Sf qa2s [0, 4, 6, 7] (Sf qa2r [0, 4, 6, 30] (Cn 30 (Sf qa2q [4, 5] .ret) .skip))) .skip)) (.seq (Rt qa2p [4, 5]) .ret)))
theorem qap1 : comp Tryz.prog 44 ((Tryz.f14.body).getD .skip) = some c_sfind.erase := by kernel_rfl
abbrev qa9r : List SOper := [Oa 2 (.mv (.c .nilsl))]
abbrev qa9q : List SOper := [Ma 3 0, Oa 4 (.nilc (.t 3)), Fa 5 0 4, La 6 5, ⟨(some 7), .mv (.c .any), some ((.c (.fn (.method "shuntyard/store.all") [] [])), [(.t 6)]), none, 0⟩, Ma 2 7]
def c_sall : SCode := (Sf qa9r [0] (Sf qa9q [2] .ret))
theorem qatq : comp Tryz.prog 8 ((Tryz.f13.body).getD .skip) = some c_sall.erase := by kernel_rfl
abbrev qa88 : List SOper := [Ka 2 0]
abbrev qa87 : List SOper := [Ma 3 0, Oa 4 (.nilc (.t 3)), Fa 5 0 4, La 6 5, ⟨(some 7), .mv (.c .any), some ((.c (.fn (.method "shuntyard/store.count") [] [])), [(.t 6)]), none, 0⟩, Ma 2 7]
def c_slen : SCode := (Sf qa88 [0] (Sf qa87 [2] .ret))
theorem qatl : comp Tryz.prog 8 ((Tryz.f17.body).getD .skip) = some c_slen.erase := by kernel_rfl
end Go.Proofs.YtalejfkholifpaaGreat
