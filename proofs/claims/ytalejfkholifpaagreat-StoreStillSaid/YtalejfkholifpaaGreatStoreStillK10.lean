/-
  Texts joined: XCsta. No condition.
-/
import Derived.WalkSpells
import Derived.RegionTactic
import Derived.BigRegion
import Derived.Deep.RegionLaw
import Derived.Test.YtalejfkholifpaaGreatProg
import Derived.Test.YtalejfkholifpaaGreatStoreStillK9
namespace Go.Proofs.YtalejfkholifpaaGreat
set_option linter.all false
open Go.RowKit
abbrev qay3 : List SOper := [Oa 1 (.box 38 (.t 0)), Oa 2 (.alloc 46 [(.int .i64 0), .nilsl])]
abbrev qay2 : List SOper := [Fa 3 4 1, La 4 3, Fa 5 5 1, La 6 5, Oa 7 (.build [(.int .i64 0), .nilsl] [(0, 1, (.t 4)), (1, 1, (.t 6))]), Va 2 2 7]
def c_sthit : SCode := (Sf qay3 [1, 2] (Sf qay2 [2] .ret))
theorem qan6 : comp Tryz.prog 8 ((Tryz.f83.body).getD .skip) = some c_sthit.erase := by kernel_rfl
abbrev qbch : List SOper := [Oa 2 (.box 80 (.t 0)), Oa 3 (.box 38 (.t 1)), Ka 4 0]
abbrev qbcg : List SOper := [Fa 5 0 2, Od 6 (Pa 5) 1, Fa 7 0 3, Od 8 (Pa 7) 4, Sa 9 6 3, Qh 10 83 [9] 16, Qh 11 82 [6, 8, 10] 63, Od 4 (Pm 11) 127]
def c_sxa : SCode := (Sf qbch [2, 3] (.seq (Rt qbcg [4]) .ret))
theorem qaw6 : comp Tryz.prog 12 ((Tryz.f76.body).getD .skip) = some c_sxa.erase := by kernel_rfl
abbrev qbcf : List SOper := [Oa 2 (.box 80 (.t 0)), Oa 3 (.box 38 (.t 1)), Ka 4 0]
abbrev qbce : List SOper := [Fa 5 0 2, Od 6 (Pa 5) 1, Fa 7 0 3, Od 8 (Pa 7) 4, Sa 9 6 3, Qh 10 83 [9] 16, Qh 11 85 [6, 8, 10] 63, Od 4 (Pm 11) 127]
def c_sxc : SCode := (Sf qbcf [2, 3] (.seq (Rt qbce [4]) .ret))
theorem qaw5 : comp Tryz.prog 12 ((Tryz.f78.body).getD .skip) = some c_sxc.erase := by kernel_rfl
abbrev qbcd : List SOper := [Oa 2 (.box 80 (.t 0)), Oa 3 (.box 38 (.t 1)), Ka 4 0]
abbrev qbcc : List SOper := [Fa 5 0 2, La 6 5, Fa 7 0 3, La 8 7, Qc 9 86 [6, 8], Ma 4 9]
def c_sxd : SCode := (Sf qbcd [2, 3] (Sf qbcc [4] .ret))
theorem qaw4 : comp Tryz.prog 10 ((Tryz.f80.body).getD .skip) = some c_sxd.erase := by kernel_rfl
abbrev qbcb : List SOper := [Oa 1 (.box 80 (.t 0)), Oa 2 (.mv (.c .nilsl))]
abbrev qbca : List SOper := [Fa 3 0 1, La 4 3, Qc 5 84 [4], Ma 2 5]
def c_sxl : SCode := (Sf qbcb [1] (Sf qbca [2] .ret))
theorem qaw3 : comp Tryz.prog 6 ((Tryz.f77.body).getD .skip) = some c_sxl.erase := by kernel_rfl
abbrev qbb9 : List SOper := [Oa 1 (.box 80 (.t 0)), Ka 2 0]
abbrev qbb8 : List SOper := [Fa 3 0 1, La 4 3, Qc 5 75 [4], Ma 2 5]
def c_sxn : SCode := (Sf qbb9 [1] (Sf qbb8 [2] .ret))
theorem qaw2 : comp Tryz.prog 6 ((Tryz.f79.body).getD .skip) = some c_sxn.erase := by kernel_rfl
abbrev qbc1 : List SOper := [Oa 2 (.box 84 (.t 0)), Oa 3 (.box 38 (.t 1)), Ka 4 0]
abbrev qbc0 : List SOper := [Fa 5 0 2, Od 6 (Pa 5) 1, Fa 7 0 3, Od 8 (Pa 7) 4, Od 9 (.iaddr 1 (.t 8) (.c (.int .i64 0))) 12, Od 10 (Pa 9) 28, Fa 11 2 3, Od 12 (Pa 11) 64, Sa 13 6 3, Qh 14 83 [13] 256, Qh 15 122 [6, 10, 12, 14] 1023, Od 4 (Pm 15) 2047]
def c_spa : SCode := (Sf qbc1 [2, 3] (.seq (Rt qbc0 [4]) .ret))
theorem qaxg : comp Tryz.prog 16 ((Tryz.f116.body).getD .skip) = some c_spa.erase := by kernel_rfl
abbrev qbcz : List SOper := [Oa 2 (.box 84 (.t 0)), Oa 3 (.box 38 (.t 1)), Ka 4 0]
abbrev qbcy : List SOper := [Fa 5 0 2, Od 6 (Pa 5) 1, Fa 7 0 3, Od 8 (Pa 7) 4, Od 9 (.iaddr 1 (.t 8) (.c (.int .i64 0))) 12, Od 10 (Pa 9) 28, Fa 11 2 3, Od 12 (Pa 11) 64, Sa 13 6 3, Qh 14 83 [13] 256, Qh 15 124 [6, 10, 12, 14] 1023, Od 4 (Pm 15) 2047]
def c_spc : SCode := (Sf qbcz [2, 3] (.seq (Rt qbcy [4]) .ret))
theorem qaxf : comp Tryz.prog 16 ((Tryz.f118.body).getD .skip) = some c_spc.erase := by kernel_rfl
abbrev qbcx : List SOper := [Oa 2 (.box 84 (.t 0)), Oa 3 (.box 38 (.t 1)), Ka 4 0]
abbrev qbcw : List SOper := [Fa 5 0 2, Od 6 (Pa 5) 1, Fa 7 0 3, Od 8 (Pa 7) 4, Od 9 (.iaddr 1 (.t 8) (.c (.int .i64 0))) 12, Od 10 (Pa 9) 28, Fa 11 2 3, Od 12 (Pa 11) 64, Qh 13 125 [6, 10, 12] 255, Od 4 (Pm 13) 511]
def c_spd : SCode := (Sf qbcx [2, 3] (.seq (Rt qbcw [4]) .ret))
theorem qaxe : comp Tryz.prog 14 ((Tryz.f120.body).getD .skip) = some c_spd.erase := by kernel_rfl
abbrev qbcv : List SOper := [Oa 1 (.box 84 (.t 0)), Oa 2 (.mv (.c .nilsl))]
abbrev qbcu : List SOper := [Fa 3 0 1, La 4 3, Qc 5 123 [4], Ma 2 5]
def c_spl : SCode := (Sf qbcv [1] (Sf qbcu [2] .ret))
theorem qaxd : comp Tryz.prog 6 ((Tryz.f117.body).getD .skip) = some c_spl.erase := by kernel_rfl
abbrev qbct : List SOper := [Oa 1 (.box 84 (.t 0)), Ka 2 0]
abbrev qbcs : List SOper := [Fa 3 0 1, La 4 3, Qc 5 115 [4], Ma 2 5]
def c_spn : SCode := (Sf qbct [1] (Sf qbcs [2] .ret))
theorem qaxc : comp Tryz.prog 6 ((Tryz.f119.body).getD .skip) = some c_spn.erase := by kernel_rfl
abbrev qbcr : List SOper := [Oa 2 (.box 88 (.t 0)), Oa 3 (.box 38 (.t 1)), Ka 4 0]
abbrev qbcq : List SOper := [Fa 5 0 2, La 6 5, Sa 7 6 3, Qc 8 139 [6, 7], Ma 4 8]
def c_sta : SCode := (Sf qbcr [2, 3] (Sf qbcq [4] .ret))
theorem qaxb : comp Tryz.prog 9 ((Tryz.f133.body).getD .skip) = some c_sta.erase := by kernel_rfl
abbrev qbcp : List SOper := [Oa 2 (.box 88 (.t 0)), Oa 3 (.box 38 (.t 1)), Ka 4 0]
abbrev qbco : List SOper := [Fa 5 0 2, La 6 5, Sa 7 6 3, Qc 8 141 [6, 7], Ma 4 8]
def c_stc : SCode := (Sf qbcp [2, 3] (Sf qbco [4] .ret))
theorem qaxa : comp Tryz.prog 9 ((Tryz.f135.body).getD .skip) = some c_stc.erase := by kernel_rfl
abbrev qbcn : List SOper := [Oa 2 (.box 88 (.t 0)), Oa 3 (.box 38 (.t 1)), Ka 4 0]
abbrev qbcm : List SOper := [Fa 5 0 2, La 6 5, Sa 7 6 3, Qc 8 142 [6, 7], Ma 4 8]
def c_std : SCode := (Sf qbcn [2, 3] (Sf qbcm [4] .ret))
theorem qaw9 : comp Tryz.prog 9 ((Tryz.f137.body).getD .skip) = some c_std.erase := by kernel_rfl
abbrev qbcl : List SOper := [Oa 1 (.box 88 (.t 0)), Oa 2 (.mv (.c .nilsl))]
abbrev qbck : List SOper := [Fa 3 0 1, La 4 3, Qc 5 140 [4], Ma 2 5]
def c_stl : SCode := (Sf qbcl [1] (Sf qbck [2] .ret))
theorem qaw8 : comp Tryz.prog 6 ((Tryz.f134.body).getD .skip) = some c_stl.erase := by kernel_rfl
abbrev qbcj : List SOper := [Oa 1 (.box 88 (.t 0)), Ka 2 0]
abbrev qbci : List SOper := [Fa 3 0 1, La 4 3, Qc 5 132 [4], Ma 2 5]
def c_stn : SCode := (Sf qbcj [1] (Sf qbci [2] .ret))
theorem qaw7 : comp Tryz.prog 6 ((Tryz.f136.body).getD .skip) = some c_stn.erase := by kernel_rfl
end Go.Proofs.YtalejfkholifpaaGreat
