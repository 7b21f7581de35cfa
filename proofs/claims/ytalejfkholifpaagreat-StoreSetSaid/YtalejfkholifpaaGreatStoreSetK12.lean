/-
  Texts joined: XCsta. No condition.
-/
import Derived.WalkSpells
import Derived.RegionTactic
import Derived.BigRegion
import Derived.Deep.RegionLaw
import Derived.Test.YtalejfkholifpaaGreatProg
import Derived.Test.YtalejfkholifpaaGreatStoreSetK11
namespace Go.Proofs.YtalejfkholifpaaGreat
set_option linter.all false
open Go.RowKit
abbrev qa0z : List SOper := [Oa 1 (.box 38 (.t 0)), Oa 2 (.alloc 46 [(.int .i64 0), .nilsl])]
abbrev qa0y : List SOper := [Fa 3 4 1, La 4 3, Fa 5 5 1, La 6 5, Oa 7 (.build [(.int .i64 0), .nilsl] [(0, 1, (.t 4)), (1, 1, (.t 6))]), Va 2 2 7]
def c_sthit : SCode := (Sf qa0z [1, 2] (Sf qa0y [2] .ret))
theorem qapw : comp Tryz.prog 8 ((Tryz.f83.body).getD .skip) = some c_sthit.erase := by kernel_rfl
abbrev qbfz : List SOper := [Oa 2 (.box 80 (.t 0)), Oa 3 (.box 38 (.t 1)), Ka 4 0]
abbrev qbfy : List SOper := [Fa 5 0 2, Od 6 (Pa 5) 1, Fa 7 0 3, Od 8 (Pa 7) 4, Sa 9 6 3, Qh 10 83 [9] 16, Qh 11 82 [6, 8, 10] 63, Od 4 (Pm 11) 127]
def c_sxa : SCode := (Sf qbfz [2, 3] (.seq (Rt qbfy [4]) .ret))
theorem qayv : comp Tryz.prog 12 ((Tryz.f76.body).getD .skip) = some c_sxa.erase := by kernel_rfl
abbrev qbfx : List SOper := [Oa 2 (.box 80 (.t 0)), Oa 3 (.box 38 (.t 1)), Ka 4 0]
abbrev qbfw : List SOper := [Fa 5 0 2, Od 6 (Pa 5) 1, Fa 7 0 3, Od 8 (Pa 7) 4, Sa 9 6 3, Qh 10 83 [9] 16, Qh 11 85 [6, 8, 10] 63, Od 4 (Pm 11) 127]
def c_sxc : SCode := (Sf qbfx [2, 3] (.seq (Rt qbfw [4]) .ret))
theorem qayu : comp Tryz.prog 12 ((Tryz.f78.body).getD .skip) = some c_sxc.erase := by kernel_rfl
abbrev qbfv : List SOper := [Oa 2 (.box 80 (.t 0)), Oa 3 (.box 38 (.t 1)), Ka 4 0]
abbrev qbfu : List SOper := [Fa 5 0 2, La 6 5, Fa 7 0 3, La 8 7, Qc 9 86 [6, 8], Ma 4 9]
def c_sxd : SCode := (Sf qbfv [2, 3] (Sf qbfu [4] .ret))
theorem qayt : comp Tryz.prog 10 ((Tryz.f80.body).getD .skip) = some c_sxd.erase := by kernel_rfl
abbrev qbft : List SOper := [Oa 2 (.box 80 (.t 0)), Oa 4 (.alloc 46 [(.int .i64 0), .nilsl]), Oa 5 (.mv (.c (.bool false)))]
abbrev qbfs : List SOper := [Fa 6 0 2, La 7 6, Ma 8 1, Qc 9 87 [7, 8], Oa 10 (.extr (.t 9) 0), Oa 11 (.extr (.t 9) 1), Va 2 4 10, Ma 5 11]
def c_sxf : SCode := (Sf qbft [1, 2, 4] (Sf qbfs [4, 5] .ret))
theorem qays : comp Tryz.prog 12 ((Tryz.f81.body).getD .skip) = some c_sxf.erase := by kernel_rfl
abbrev qbfr : List SOper := [Oa 1 (.box 80 (.t 0)), Oa 2 (.mv (.c .nilsl))]
abbrev qbfq : List SOper := [Fa 3 0 1, La 4 3, Qc 5 84 [4], Ma 2 5]
def c_sxl : SCode := (Sf qbfr [1] (Sf qbfq [2] .ret))
theorem qayr : comp Tryz.prog 6 ((Tryz.f77.body).getD .skip) = some c_sxl.erase := by kernel_rfl
abbrev qbfp : List SOper := [Oa 1 (.box 80 (.t 0)), Ka 2 0]
abbrev qbfo : List SOper := [Fa 3 0 1, La 4 3, Qc 5 75 [4], Ma 2 5]
def c_sxn : SCode := (Sf qbfp [1] (Sf qbfo [2] .ret))
theorem qayq : comp Tryz.prog 6 ((Tryz.f79.body).getD .skip) = some c_sxn.erase := by kernel_rfl
abbrev qbgo : List SOper := [Oa 2 (.box 84 (.t 0)), Oa 3 (.box 38 (.t 1)), Ka 4 0]
abbrev qbgn : List SOper := [Fa 5 0 2, Od 6 (Pa 5) 1, Fa 7 0 3, Od 8 (Pa 7) 4, Od 9 (.iaddr 1 (.t 8) (.c (.int .i64 0))) 12, Od 10 (Pa 9) 28, Fa 11 2 3, Od 12 (Pa 11) 64, Sa 13 6 3, Qh 14 83 [13] 256, Qh 15 122 [6, 10, 12, 14] 1023, Od 4 (Pm 15) 2047]
def c_spa : SCode := (Sf qbgo [2, 3] (.seq (Rt qbgn [4]) .ret))
theorem qay7 : comp Tryz.prog 16 ((Tryz.f116.body).getD .skip) = some c_spa.erase := by kernel_rfl
abbrev qbgm : List SOper := [Oa 2 (.box 84 (.t 0)), Oa 3 (.box 38 (.t 1)), Ka 4 0]
abbrev qbgl : List SOper := [Fa 5 0 2, Od 6 (Pa 5) 1, Fa 7 0 3, Od 8 (Pa 7) 4, Od 9 (.iaddr 1 (.t 8) (.c (.int .i64 0))) 12, Od 10 (Pa 9) 28, Fa 11 2 3, Od 12 (Pa 11) 64, Sa 13 6 3, Qh 14 83 [13] 256, Qh 15 124 [6, 10, 12, 14] 1023, Od 4 (Pm 15) 2047]
def c_spc : SCode := (Sf qbgm [2, 3] (.seq (Rt qbgl [4]) .ret))
theorem qay6 : comp Tryz.prog 16 ((Tryz.f118.body).getD .skip) = some c_spc.erase := by kernel_rfl
abbrev qbgk : List SOper := [Oa 2 (.box 84 (.t 0)), Oa 3 (.box 38 (.t 1)), Ka 4 0]
abbrev qbgj : List SOper := [Fa 5 0 2, Od 6 (Pa 5) 1, Fa 7 0 3, Od 8 (Pa 7) 4, Od 9 (.iaddr 1 (.t 8) (.c (.int .i64 0))) 12, Od 10 (Pa 9) 28, Fa 11 2 3, Od 12 (Pa 11) 64, Qh 13 125 [6, 10, 12] 255, Od 4 (Pm 13) 511]
def c_spd : SCode := (Sf qbgk [2, 3] (.seq (Rt qbgj [4]) .ret))
theorem qay5 : comp Tryz.prog 14 ((Tryz.f120.body).getD .skip) = some c_spd.erase := by kernel_rfl
abbrev qbgi : List SOper := [Oa 2 (.box 84 (.t 0)), Oa 4 (.alloc 46 [(.int .i64 0), .nilsl]), Oa 5 (.mv (.c (.bool false)))]
abbrev qbgh : List SOper := [Fa 10 0 2, Od 11 (Pa 10) 1, Ma 12 1, Od 13 (.iaddr 1 (.t 12) (.c (.int .i64 0))) 4, Od 14 (Pa 13) 12, Qh 15 126 [11, 14] 31, Od 9 (Pm 15) 63, Od 16 (.extr (.t 9) 0) 127, Od 17 (.extr (.t 9) 1) 127, Od 18 (.extr (.t 9) 2) 127, Oa 6 (.alloc 46 [(.int .i64 0), .nilsl]), Og (.store 2 (.t 6) (.t 16)) 1279, Od 7 (Pm 17) 3583, Od 8 (Pm 18) 8191]
abbrev qbgg : List SOper := [Sa 19 2 6, Ma 20 8, Va 2 4 19, Ma 5 20]
def c_spf : SCode := (Sf qbgi [1, 2, 4] (.seq (Rt qbgh [4, 6, 8]) (Sf qbgg [4, 5] .ret)))
theorem qay4 : comp Tryz.prog 21 ((Tryz.f121.body).getD .skip) = some c_spf.erase := by kernel_rfl
abbrev qbgf : List SOper := [Oa 1 (.box 84 (.t 0)), Oa 2 (.mv (.c .nilsl))]
abbrev qbge : List SOper := [Fa 3 0 1, La 4 3, Qc 5 123 [4], Ma 2 5]
def c_spl : SCode := (Sf qbgf [1] (Sf qbge [2] .ret))
theorem qay3 : comp Tryz.prog 6 ((Tryz.f117.body).getD .skip) = some c_spl.erase := by kernel_rfl
abbrev qbgd : List SOper := [Oa 1 (.box 84 (.t 0)), Ka 2 0]
abbrev qbgc : List SOper := [Fa 3 0 1, La 4 3, Qc 5 115 [4], Ma 2 5]
def c_spn : SCode := (Sf qbgd [1] (Sf qbgc [2] .ret))
theorem qay2 : comp Tryz.prog 6 ((Tryz.f119.body).getD .skip) = some c_spn.erase := by kernel_rfl
abbrev qbgb : List SOper := [Oa 2 (.box 88 (.t 0)), Oa 3 (.box 38 (.t 1)), Ka 4 0]
abbrev qbga : List SOper := [Fa 5 0 2, La 6 5, Sa 7 6 3, Qc 8 139 [6, 7], Ma 4 8]
def c_sta : SCode := (Sf qbgb [2, 3] (Sf qbga [4] .ret))
theorem qay1 : comp Tryz.prog 9 ((Tryz.f133.body).getD .skip) = some c_sta.erase := by kernel_rfl
abbrev qbf9 : List SOper := [Oa 2 (.box 88 (.t 0)), Oa 3 (.box 38 (.t 1)), Ka 4 0]
abbrev qbf8 : List SOper := [Fa 5 0 2, La 6 5, Sa 7 6 3, Qc 8 141 [6, 7], Ma 4 8]
def c_stc : SCode := (Sf qbf9 [2, 3] (Sf qbf8 [4] .ret))
theorem qay0 : comp Tryz.prog 9 ((Tryz.f135.body).getD .skip) = some c_stc.erase := by kernel_rfl
abbrev qbf7 : List SOper := [Oa 2 (.box 88 (.t 0)), Oa 3 (.box 38 (.t 1)), Ka 4 0]
abbrev qbf6 : List SOper := [Fa 5 0 2, La 6 5, Sa 7 6 3, Qc 8 142 [6, 7], Ma 4 8]
def c_std : SCode := (Sf qbf7 [2, 3] (Sf qbf6 [4] .ret))
theorem qayz : comp Tryz.prog 9 ((Tryz.f137.body).getD .skip) = some c_std.erase := by kernel_rfl
abbrev qbf5 : List SOper := [Oa 2 (.box 88 (.t 0)), Oa 4 (.alloc 46 [(.int .i64 0), .nilsl]), Oa 5 (.mv (.c (.bool false)))]
abbrev qbf4 : List SOper := [Fa 6 0 2, La 7 6, Ma 8 1, Qc 9 143 [7, 8], Oa 10 (.extr (.t 9) 0), Oa 11 (.extr (.t 9) 1), Va 2 4 10, Ma 5 11]
def c_stf : SCode := (Sf qbf5 [1, 2, 4] (Sf qbf4 [4, 5] .ret))
theorem qayy : comp Tryz.prog 12 ((Tryz.f138.body).getD .skip) = some c_stf.erase := by kernel_rfl
abbrev qbf3 : List SOper := [Oa 1 (.box 88 (.t 0)), Oa 2 (.mv (.c .nilsl))]
abbrev qbf2 : List SOper := [Fa 3 0 1, La 4 3, Qc 5 140 [4], Ma 2 5]
def c_stl : SCode := (Sf qbf3 [1] (Sf qbf2 [2] .ret))
theorem qayx : comp Tryz.prog 6 ((Tryz.f134.body).getD .skip) = some c_stl.erase := by kernel_rfl
abbrev qbf1 : List SOper := [Oa 1 (.box 88 (.t 0)), Ka 2 0]
abbrev qbf0 : List SOper := [Fa 3 0 1, La 4 3, Qc 5 132 [4], Ma 2 5]
def c_stn : SCode := (Sf qbf1 [1] (Sf qbf0 [2] .ret))
theorem qayw : comp Tryz.prog 6 ((Tryz.f136.body).getD .skip) = some c_stn.erase := by kernel_rfl
end Go.Proofs.YtalejfkholifpaaGreat
