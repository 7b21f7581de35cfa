/-
  Texts joined: XShSp XPlnK XCpln XPlnC XCpls XPlnY XPlnZ XTabE XExaB XExaC XShY XExaD XExaE XExaF XExaG XExaO XExaP XExaQ XExaR XExaT XExaU XRowA XRowB XRowD XRowF XRowH XRowJ XExaV XExaW XCmpB XCoLL XExaZ XCter. No condition.
-/
import Derived.WalkSpells
import Derived.RegionTactic
import Derived.BigRegion
import Derived.Deep.RegionLaw
import Derived.Test.YtalejfkholifpaaGreatProg
import Derived.Test.YtalejfkholifpaaGreatStoreSetK3
namespace Go.Proofs.YtalejfkholifpaaGreat
set_option linter.all false
open Go.RowKit
def RE (a b : Prop) : Prop := a = b
theorem RE.refl (a : Prop) : RE a a := rfl
def Z2 (a b : Prop) : Prop := a ∧ b
def ZI (p a : Prop) : Prop := p → a
theorem yB {a b : Prop} (x : a) (y : b) : Z2 a b := ⟨x, y⟩
theorem yC {p a : Prop} (f : p → a) : ZI p a := f
theorem zE {a g h : Prop} (f : a → g) (e : RE a h) : h → g := fun z => f (by rw [show a = h from e]; exact z)
variable {X : Cx} {s s' : SSt} {Q : SExit → SSt → Prop} {σ : Nat → Nat} {sl : Sl} {hp : Hp} {P : Program} {os : List SOper} {tr : List Tch} {R : SSt → List Tch → Prop}
theorem zcond {c : SX} {x y : SCode} {b : Bool} (hb : c.ev s.sl = .bool b) (h : Z2 (ZI (b = true) (SWp X x Q s)) (ZI (b = false) (SWp X y Q s))) : SWp X (.cond c x y) Q s := qabd hb h.1 h.2
theorem zgrd {o : SOper} {b want : Bool} (h : Z2 (ZI (b = true) (qale P (.bool true) want o os s tr R)) (ZI (b = false) (qale P (.bool false) want o os s tr R))) : qale P (.bool b) want o os s tr R := qaaa h.1 h.2
theorem zdrw {l : List (SOper × Tch)} {p : Prop} (h : qajd l = true) : p → qajd l = true ∧ p := fun hp => ⟨h, hp⟩
theorem zrd {ops : List SOper} {live : List Nat} {P : Program} (hP : X.P = P) (hm : P.follows .mixedOrders = true) (h : SOps X.P ops s [] fun s' tr => qajd (ops.zip tr.reverse) = true ∧ Q .normal (s'.keep live)) : SWp X (.reg true ops live) Q s := qaak (by rw [hP]; exact hm) h
theorem zrg {c : Prop} {hd : Decidable c} {r : Option (SV × Upd × Nat)} {dst : Option Nat} {t : List Nat} {h : Prop} (hc : c) (e : RE (qbbi P r dst t os s tr R) h) : h → qbbi P (@rg _ c hd r) dst t os s tr R := fun z => qaal hc ((show qbbi P r dst t os s tr R = h from e) ▸ z)
theorem zs0 (h : SOps P os s tr R) : SOps P os s tr R := h
theorem zs1 {v : SV} {want : Bool} {o : SOper} (h : qale P v want o os s tr R) : qale P v want o os s tr R := h
theorem zs2 {r : Option (SV × Upd × Nat)} {dst : Option Nat} {t : List Nat} (h : qbbi P r dst t os s tr R) : qbbi P r dst t os s tr R := h
theorem yA {g h : Prop} (k : h) (f : h → g := by
 first
 | (with_reducible first | exact zA | exact qaa3 | exact qaa2)
 | ((with_reducible apply zdrw); with_unfolding_all rfl)
 | ((with_reducible first | apply zE qaao | apply zE (zrd hP mixed)); (try rw [hP]); simp -implicitDefEqProofs [*]; exact RE.refl _)
 | ((with_reducible first | apply zE qaah | apply zE qaaj); (try simp -implicitDefEqProofs [*]); exact RE.refl _)
 | ((with_reducible apply zE qabl); (try simp only [qaa5, qaae, qaam]); exact RE.refl _)
 | (with_reducible exact zcond rfl)
 | ((with_reducible first | apply zE zs0 | apply zE zs1 | apply zE zs2); simp -implicitDefEqProofs [*]; exact RE.refl _)
 | ((with_reducible apply zrg); (focus (first | omega | (unfold maxLen; omega))); (try simp -implicitDefEqProofs [*]); exact RE.refl _)
 | (with_reducible first | exact zgrd | exact zM hm | exact zN hm | exact zO hm | exact zP hm)) : g := f k
theorem zl {t : Nat} {v : SV} {r : Sl} (h : Z2 (Co (gets sl t) (ren σ v)) (SlotsM σ sl r)) : SlotsM σ sl ((t, v) :: r) := h
theorem zo {i : Nat} {t : TypeId} {cs ds : List SV} {r : Hp} (e : geth hp (σ i) = some (.cells t cs)) (h : Z2 (CoL cs (ds.map (ren σ))) (ObjsM σ hp r)) : ObjsM σ hp ((i, .cells t ds) :: r) := qajr e h.1 h.2
theorem zor {i e z : Nat} {es fs : List (List SV)} [PureR fs] {r : Hp} (h : geth hp (σ i) = some (.row e z es)) (h3 : Z2 (es = fs) (ObjsM σ hp r)) : ObjsM σ hp ((i, .row e z fs) :: r) := qaip h h3.1 h3.2
theorem zoq {i e z : Nat} {es fs : List (List SV)} [PureR fs] {r : Hp} (h : geth hp (σ i) = some (.row e z es)) (h3 : es = fs) (g : ObjsM σ hp r) : ObjsM σ hp ((i, .row e z fs) :: r) := qaip h h3 g
theorem zoc {i e z : Nat} {es fs : List (List SV)} {r : Hp} (h : geth hp (σ i) = some (.row e z es)) (h3 : Z2 (CoLL es (fs.map (·.map (ren σ)))) (ObjsM σ hp r)) : ObjsM σ hp ((i, .row e z fs) :: r) := qaly h h3.1 h3.2
theorem zlc {x y : SV} {xs ys : List SV} (h : Z2 (Co x y) (CoL xs ys)) : CoL (x :: xs) (y :: ys) := h
theorem zlm {f : SV → SV} {x y : SV} {xs ys : List SV} (h : Z2 (Co x (f y)) (CoL xs (ys.map f))) : CoL (x :: xs) ((y :: ys).map f) := h
theorem zw {m : Nat} (hm : X.m = m) (h : Z2 (SlotsM (rn ([] ++ diag m [] s'.hp) s.nx) s.sl s'.sl) (Z2 (ObjsM (rn ([] ++ diag m [] s'.hp) s.nx) s.hp s'.hp) (Z2 (qabq m s'.nx ([] ++ diag m [] s'.hp) s'.hp = true) (m ≤ s'.nx)))) : Wk X s s' := qabg [] hm h.1 h.2.1 h.2.2.1 h.2.2.2
theorem zcw {a b c : Int} (h1 : -9223372036854775808 ≤ a + b ∧ a + b ≤ 9223372036854775807) (h : a + b = c) : Co (.int .i64 (IntKind.i64.wrap (a + b))) (.int .i64 c) := qaee h1 h
theorem yD {g : Prop} (k : g := by
 first
 | (with_reducible first | exact qacc | exact qacr | exact qada | exact qadc | exact Co.refl _ | exact CoL.refl _ | exact CoLL.refl _)
 | ((with_reducible first | refine zga ?_ | refine zgb ?_); rfl)
 | ((with_reducible refine zgc ?_); (first | (with_reducible rfl) | rfl | (simp; done)))
 | ((with_reducible first | refine zgd ?_ | refine zge ?_); (first | omega | (simp; done)))
 | (refine zcw ⟨?_, ?_⟩ ?_ <;> omega)
 | exact Co.refl _
 | exact CoL.refl _
 | exact CoLL.refl _
 | (refine qabt ?_; omega)
 | (refine qabs ?_; first | omega | (simp_all; done))) : g := k
theorem yE {g h : Prop} (k : h) (f : h → g := by
 first
 | ((with_reducible apply zE (zw hm)); (try simp only [zT, puth, Nat.reduceEqDiff, reduceIte, Nat.reduceAdd]); exact RE.refl _)
 | (with_reducible exact zl)
 | exact zo (by rfl)
 | exact zoq (by rfl) (by first | (with_reducible rfl) | rfl | (simp; done))
 | exact zor (by rfl)
 | exact zoc (by rfl)
 | exact qacs (by rfl)
 | exact qacq (by rfl)
 | (with_reducible first | exact zlc | exact zlm)) : g := f k
end Go.Proofs.YtalejfkholifpaaGreat
namespace Go.Proofs.YtalejfkholifpaaGreat
set_option linter.all false
open Go.RowKit
attribute [local simp] qaas qaar qaac qaag qaad qaaf qaap qaaq qaab qaa4 SOp.run SX.ev putd puts argS upds SOp.touch SSt.keep SSt.skip gets geth puth delh idOf SV.cells? setL qab7 qab8 sbin eq0 eq1 eqL qab5 qabh qabi qaa5 qaat qaae qaau qaa6 qaam qaan FrzOk qaba qaa0 qaa8 qaa9 qaav qaaz qabe qaa1 qaax qabb qaaw frzS frzH frz frz1 frz0 SlotsM ObjsM ObjM rn ren ren1 ren0 qabp qabs qabt qabo qabf qab1 qab0 CoL qabc qabw dels adds idsH qabq
attribute [local simp] nums
theorem qasb : qahn Tryz.prog 34 = some true := by kernel_rfl
theorem qalk : qab6 Tryz.prog 34 = some 2 := by kernel_rfl
theorem fin_tc {X : Cx} {sl : Sl} {hp : Hp} {t u nx id n : Nat} {ty : TypeId} {cs ds : List SV} {v v' r : SV} (hm : X.m = 0) (hne : t ≠ u) (hv : gets sl t = v') (hvv : v' = v) (hN : NoN v) (hu : gets sl u = .ptr id 0) (h : geth hp id = some (.cells ty cs)) (ha : qahn X.P ty = some true) (hn : qab6 X.P ty = some n) (hl : ds.length = n) (e : CoL cs ds) (hr : r = .tup [v, .agg ds]) (hd : ∀ σ, ds.map (Go.Proofs.YtalejfkholifpaaGreat.ren σ) = ds) : QFun X [.tmp t, .cell u ty] 0 r [] .ret ⟨sl, hp, nx⟩ := by
 subst hr hl hvv
 have hw : Wk X ⟨sl, hp, nx⟩ ⟨[(t, v'), (u, .ptr 0 0)], [(0, .cells ty ds)], 1⟩ := by
  refine qabg [(0, id)] hm ⟨?_, ?_, trivial⟩ ⟨⟨_, h, rfl, by rw [hd]; exact e⟩, trivial⟩ rfl (by simp)
  ·rw [hv, hN]; exact Co.refl _
  ·rw [hu]; exact Co.refl _
 refine ⟨_, hw, ?_, trivial, by simp⟩
 simp [qage, resL, resV, one_, gets, ha, hn, SOp.run, SX.ev, geth, hne]
end Go.Proofs.YtalejfkholifpaaGreat
namespace Go.Proofs.YtalejfkholifpaaGreat
set_option linter.all false
open Go.RowKit
abbrev qavg : List SOper := [Oa 3 (.box 26 (.t 0)), Ka 6 0]
abbrev qavf : List SOper := [Fa 12 0 3, La 13 12, Ca 14 .neq 13 1, Ma 15 14, Oe 16 (Pf 0 3) 15 true, Oe 17 (Pa 16) 15 true, Oe 18 (Pc .neq 17 2) 15 true, Ua 19 15 18, Ma 20 19, Oe 21 (Pf 0 3) 20 true, Oe 22 (Pa 21) 20 true, Oe 23 (Pc .neq 22 3) 20 true, Ua 24 20 23, Ma 11 24]
abbrev qave : List SOper := [Ka 6 5]
abbrev qavd : List SOper := [Ma 26 1, Na 27 26, Ca 28 .eql 27 0, Ma 29 28, Oe 30 (Pm 1) 29 false, Oe 31 (Pn 30) 29 false, Oe 32 (Pc .gtr 31 3) 29 false, Ta 33 29 32, Ma 34 33, Oe 35 (Pf 0 3) 34 false, Oe 36 (Pa 35) 34 false, Oe 37 (Pc .eql 36 2) 34 false, Oe 38 (Pm 37) 34 false, Oe 39 (Pm 1) 38 true, Oe 40 (Pn 39) 38 true, Oe 41 (Pc .neq 40 1) 38 true, Oe 42 (Pu 38 41) 34 false, Ta 43 34 42, Ma 44 43, Oe 45 (Pf 2 3) 44 false, Oe 46 (Pa 45) 44 false, Oe 47 (Pn 46) 44 false, Oe 48 (Pc .eql 47 0) 44 false, Ta 49 44 48, Ma 50 49, Oe 51 (Pf 2 3) 50 false, Oe 52 (Pa 51) 50 false, Oe 53 (Pn 52) 50 false, Oe 54 (Pc .gtr 53 4) 50 false, Ta 55 50 54, Ma 25 55]
abbrev qavc : List SOper := [Ka 6 2]
abbrev qavb : List SOper := [Fa 57 3 3, La 58 57, Ca 59 .lss 58 0, Ma 60 59, Oe 61 (Pf 3 3) 60 false, Oe 62 (Pa 61) 60 false, Oe 63 (Pc .gtr 62 16) 60 false, Ta 64 60 63, Ma 56 64]
abbrev qava : List SOper := [Ka 6 1]
abbrev qau9 : List SOper := [Ma 65 1, Na 66 65, Ka 67 0]
abbrev qau8 : List SOper := [Ba 68 .lss 67 66]
abbrev qaql : List SOper := [Ia 69 1 65 67, La 70 69, Ma 8 70]
abbrev qaqk : List SOper := [Ma 71 8, Ca 72 .lss 71 1, Ma 73 72, Oe 74 (Pm 8) 73 false, Oe 75 (Pc .gtr 74 48) 73 false, Ta 76 73 75]
abbrev qaqj : List SOper := [Ka 6 6]
abbrev qaqi : List SOper := [Ca 77 .add 67 1, Ma 67 77]
def qaj8 : SCode := (Sf qau8 [2, 3, 65, 66, 67, 68] (.seq (Ce 68 1) (.seq (.block 2 (Sf qaql [2, 3, 8, 65, 66, 67] (Sf qaqk [2, 3, 65, 66, 67, 76] (Cn 76 (Sf qaqj [6] .ret) .skip)))) (Rf qaqi [2, 3, 65, 66, 67]))))
abbrev qaqh : List SOper := [Fa 78 2 3, La 79 78, Na 80 79, Ka 81 0]
abbrev qaqg : List SOper := [Ba 82 .lss 81 80]
abbrev qaqf : List SOper := [Ia 83 1 79 81, La 84 83, Ma 10 84]
abbrev qaqe : List SOper := [Ma 85 10, Ca 86 .lss 85 0, Ma 87 86, Oe 88 (Pm 10) 87 false, Oe 89 (Pm 2) 87 false, Oe 90 (Pn 89) 87 false, Oe 91 (Pb .geq 88 90) 87 false, Ta 92 87 91]
abbrev qaqd : List SOper := [Ka 6 1]
abbrev qaqc : List SOper := [Ca 93 .add 81 1, Ma 81 93]
def qaj7 : SCode := (Sf qaqg [2, 3, 79, 80, 81, 82] (.seq (Ce 82 3) (.seq (.block 4 (Sf qaqf [2, 3, 10, 79, 80, 81] (Sf qaqe [2, 3, 79, 80, 81, 92] (Cn 92 (Sf qaqd [6] .ret) .skip)))) (Rf qaqc [2, 3, 79, 80, 81]))))
abbrev qaqb : List SOper := [Sa 94 6 3, Ma 95 2, Fa 96 4 3, La 97 96, Fa 98 5 3, La 99 98, Qc 100 37 [94, 95, 97, 99], Ma 6 100]
def c_tcheck : SCode := (Sf qavg [1, 2, 3] (.seq (.block 0 (Sf qavf [1, 2, 3, 11] (Cn 11 (Sf qave [6] .ret) (Sf qavd [1, 2, 3, 25] (Cn 25 (Sf qavc [6] .ret) (Sf qavb [1, 2, 3, 56] (Cn 56 (Sf qava [6] .ret) .skip))))))) (.seq (Sf qau9 [2, 3, 65, 66, 67] (Bl 1 qaj8)) (.seq (Sf qaqh [2, 3, 79, 80, 81] (Bl 3 qaj7)) (Sf qaqb [6] .ret)))))
theorem qamp : comp Tryz.prog 101 ((Tryz.f22.body).getD .skip) = some c_tcheck.erase := by kernel_rfl
abbrev qa9p : List SOper := [Oa 4 (.box 26 (.t 0)), Ka 8 0]
abbrev qa9o : List SOper := [Fa 12 2 4, La 13 12, Ma 14 2, Qc 15 48 [13, 14], Oa 16 (.un .not (.t 15))]
abbrev qa9n : List SOper := [Ka 8 5]
abbrev qa9m : List SOper := [Ma 17 1, Ma 18 2, Ia 19 2 17 18, Fa 20 0 19, La 21 20, Ma 9 21]
abbrev qa9l : List SOper := [Ma 22 3, Na 23 22, Ma 24 9, Na 25 24, Ba 26 .neq 23 25]
abbrev qa9k : List SOper := [Ka 8 2]
abbrev qa9j : List SOper := [Ma 27 3, Na 28 27, Ka 29 0]
abbrev qa9i : List SOper := [Ba 30 .lss 29 28]
abbrev qa9h : List SOper := [Ma 31 29, Ia 32 1 27 29, La 33 32, Ma 10 31, Ma 11 33]
abbrev qa23 : List SOper := [Ma 34 11, Ma 35 9, Ma 36 10, Ia 37 1 35 36, La 38 37, Qc 39 49 [38], Ba 40 .gtr 34 39]
abbrev qa22 : List SOper := [Ka 8 6]
abbrev qa21 : List SOper := [Ca 41 .add 29 1, Ma 29 41]
def qar7 : SCode := (Sf qa9i [9, 27, 28, 29, 30] (.seq (Ce 30 0) (.seq (.block 1 (Sf qa9h [9, 10, 11, 27, 28, 29] (Sf qa23 [9, 27, 28, 29, 40] (Cn 40 (Sf qa22 [8] .ret) .skip)))) (Rf qa21 [9, 27, 28, 29]))))
abbrev qa20 : List SOper := [Ka 8 0]
def c_says : SCode := (Sf qa9p [1, 2, 3, 4] (.seq (Sf qa9o [1, 2, 3, 16] (Cn 16 (Sf qa9n [8] .ret) .skip)) (Sf qa9m [3, 9] (.seq (Sf qa9l [3, 9, 26] (Cn 26 (Sf qa9k [8] .ret) .skip)) (.seq (Sf qa9j [9, 27, 28, 29] (Bl 0 qar7)) (Sf qa20 [8] .ret))))))
theorem qatp : comp Tryz.prog 42 ((Tryz.f37.body).getD .skip) = some c_says.erase := by kernel_rfl
abbrev qan0 : List SOper := [Oa 4 (.mv (.c (.bool false)))]
abbrev qanz : List SOper := [Ma 5 0, Ma 6 1, Qc 7 57 [5, 6], Ca 8 .geq 7 0, Ma 4 8]
def c_contains : SCode := (Sf qan0 [0, 1] (Sf qanz [4] .ret))
theorem qajh : comp Tryz.prog 9 ((Tryz.f48.body).getD .skip) = some c_contains.erase := by kernel_rfl
abbrev qa3i : List SOper := [Ka 4 0]
abbrev qa3h : List SOper := [Ma 6 0, Na 7 6, Ka 8 0]
abbrev qa3g : List SOper := [Ba 9 .lss 8 7]
abbrev qa3f : List SOper := [Ma 10 8, Ma 5 10]
abbrev qa3e : List SOper := [Ma 11 1, Ma 12 0, Ma 13 5, Ia 14 1 12 13, La 15 14, Ba 16 .eql 11 15]
abbrev qa3d : List SOper := [Ma 17 5, Ma 4 17]
abbrev qa3c : List SOper := [Ca 18 .add 8 1, Ma 8 18]
def qanq : SCode := (Sf qa3g [0, 1, 7, 8, 9] (.seq (Ce 9 0) (.seq (.block 1 (Sf qa3f [0, 1, 5, 7, 8] (Sf qa3e [0, 1, 5, 7, 8, 16] (Cn 16 (Sf qa3d [4] .ret) .skip)))) (Rf qa3c [0, 1, 7, 8]))))
abbrev qa3b : List SOper := [Oa 4 (.mv (.c (.int .i64 (-1))))]
def c_index : SCode := (Sf qa3i [0, 1] (.seq (Sf qa3h [0, 1, 7, 8] (Bl 0 qanq)) (Sf qa3b [4] .ret)))
theorem qap6 : comp Tryz.prog 19 ((Tryz.f57.body).getD .skip) = some c_index.erase := by kernel_rfl
end Go.Proofs.YtalejfkholifpaaGreat
namespace Go.Proofs.YtalejfkholifpaaGreat
set_option linter.all false
open Go.RowKit
attribute [local simp] qaas qaar qaac qaag qaad qaaf qaap qaaq qaab qaa4 SOp.run SX.ev putd puts argS upds SOp.touch SSt.keep SSt.skip gets geth puth delh idOf SV.cells? setL qab7 qab8 sbin eq0 eq1 eqL qab5 qabh qabi qaa5 qaat qaae qaau qaa6 qaam qaan FrzOk qaba qaa0 qaa8 qaa9 qaav qaaz qabe qaa1 qaax qabb qaaw frzS frzH frz frz1 frz0 SlotsM ObjsM ObjM rn ren ren1 ren0 qabp qabs qabt qabo qabf qab1 qab0 CoL qabc qabw dels adds idsH qabq
instance : PureF refc := ⟨fun _ _ => rfl, fun _ => rfl, fun _ => qacl _ rfl⟩
instance : PureF qa5b := ⟨fun _ _ => rfl, fun _ => rfl, fun _ => qacl _ rfl⟩
instance : PureF qbct := ⟨fun _ _ => rfl, fun _ => rfl, fun _ => qacl _ rfl⟩
instance : PureF qbc2 := ⟨fun _ _ => rfl, fun _ => rfl, fun _ => qacl _ rfl⟩
instance : PureF qalh := ⟨fun _ _ => rfl, fun _ => rfl, fun _ => qacl _ rfl⟩
instance : PureF opc := ⟨fun _ _ => rfl, fun _ => rfl, fun _ => qacl _ rfl⟩
instance : PureF actc := ⟨fun _ _ => rfl, fun _ => rfl, fun _ => qacl _ rfl⟩
instance : PureF tabc := ⟨fun _ _ => rfl, fun _ => rfl, fun _ => qacl _ rfl⟩
instance : PureF qbcf := ⟨fun _ _ => rfl, fun _ => rfl, fun _ => qacl _ rfl⟩
attribute [local simp] qbct refc qa5b qbc2 qalh opc actc tabc qbcf qbdx nums
def jc (p : PlanD) (a b : Int) : List SV := qbdx p ++ [.int .i64 a, .int .i64 b]
attribute [local simp] jc
end Go.Proofs.YtalejfkholifpaaGreat
namespace Go.Proofs.YtalejfkholifpaaGreat
set_option linter.all false
open Go.RowKit
abbrev qbg4 : List SOper := [Oa 2 (.mv (.c .nilsl))]
abbrev qbg3 : List SOper := [Ma 3 0, Oa 4 (.eq 2 false (.t 3) (.c .nilsl))]
abbrev qbg2 : List SOper := [Oa 2 (.mv (.c .nilsl))]
abbrev qbg1 : List SOper := [Oa 5 (.mkrow 3 1 0 [(.int .i64 0)] []), Ma 6 0, Oa 7 (.app 3 1 8 (.t 5) (.t 6)), Ma 2 7]
def c_cl1 : SCode := (Sf qbg4 [0] (.seq (Sf qbg3 [0, 4] (Cn 4 (Sf qbg2 [2] .ret) .skip)) (Sf qbg1 [2] .ret)))
theorem qai2 : comp Tryz.prog 8 ((Tryz.f31.body).getD .skip) = some c_cl1.erase := by kernel_rfl
abbrev qbg0 : List SOper := [Oa 2 (.mv (.c .nilsl))]
abbrev qbgz : List SOper := [Ma 3 0, Oa 4 (.eq 2 false (.t 3) (.c .nilsl))]
abbrev qbgy : List SOper := [Oa 2 (.mv (.c .nilsl))]
abbrev qbgx : List SOper := [Oa 5 (.mkrow 70 1 0 [(.int .u64 0)] []), Ma 6 0, Oa 7 (.app 70 1 8 (.t 5) (.t 6)), Ma 2 7]
def c_cl5 : SCode := (Sf qbg0 [0] (.seq (Sf qbgz [0, 4] (Cn 4 (Sf qbgy [2] .ret) .skip)) (Sf qbgx [2] .ret)))
theorem qai1 : comp Tryz.prog 8 ((Tryz.f32.body).getD .skip) = some c_cl5.erase := by kernel_rfl
end Go.Proofs.YtalejfkholifpaaGreat
namespace Go.Proofs.YtalejfkholifpaaGreat
set_option linter.all false
open Go.RowKit
attribute [local simp] qaas qaar qaac qaag qaad qaaf qaap qaaq qaab qaa4 SOp.run SX.ev putd puts argS upds SOp.touch SSt.keep SSt.skip gets geth puth delh idOf SV.cells? setL qab7 qab8 sbin eq0 eq1 eqL qab5 qabh qabi qaa5 qaat qaae qaau qaa6 qaam qaan FrzOk qaba qaa0 qaa8 qaa9 qaav qaaz qabe qaa1 qaax qabb qaaw frzS frzH frz frz1 frz0 SlotsM ObjsM ObjM rn ren ren1 ren0 qabp qabs qabt qabo qabf qab1 qab0 CoL qabc qabw dels adds idsH qabq
attribute [local simp] qbct refc qa5b qbc2 qalh opc actc tabc qbcf qbdx nums
theorem qajw {X : Cx} {sl : Sl} {hp : Hp} {t nx id n e z : Nat} {es fs : List (List SV)} [PureR es] (hm : X.m = 0) (hu : gets sl t = .own id n) (h : geth hp id = some (.row e z es)) (hn : n = es.length) (hf : es = fs) : QFun X [.tmp t] 0 (.view z fs) [] .ret ⟨sl, hp, nx⟩ := by
 subst hf hn
 have h1 : Wk X ⟨sl, hp, nx⟩ (SSt.frz ⟨sl, hp, nx⟩ [id]) := wk_frz [id] fun i o hi ho => by
  have : i = id := by simpa using hi
  subst this
  rw [h] at ho; cases ho
  exact (qaq5 e z es).2 trivial
 have h2 : gets (frzS (geth hp) [id] sl) t = .view z es := by
  rw [qapf, hu]; simp [frz, frz1, frz0, h]
 refine ⟨⟨[(t, .view z es)], [], 0⟩, h1.trans (qad5 [] hm rfl (Nat.zero_le _) ⟨?_, trivial⟩ trivial), by simp [qage, resL, resV, one_, gets], trivial, by simp⟩
 show Co (gets (frzS (geth hp) [id] sl) t) _
 rw [h2]; exact Co.refl _
instance pureR_take (fs : List (List SV)) [PureR fs] (i : Nat) : PureR (fs.take i) := ⟨fun σ => by rw [List.map_take, PureR.ren], fun x hx => PureR.ok x (List.mem_of_mem_take hx), fun x hx => PureR.pure x (List.mem_of_mem_take hx)⟩
theorem qbda {α : Type} (f : α → List SV) {l : List α} {i : Nat} (hi : i ≤ l.length) : ((l.take i).map f).length = i := by simp; omega
theorem qa4v {α : Type} (f : α → List SV) {l : List α} {i : Nat} (hi : i < l.length) : (l.take i).map f ++ [f l[i]] = (l.take (i + 1)).map f := by
 rw [List.take_succ_eq_append_getElem hi, List.map_append]; rfl
end Go.Proofs.YtalejfkholifpaaGreat
namespace Go.Proofs.YtalejfkholifpaaGreat
set_option linter.all false
open Go.RowKit
attribute [local simp] qaas qaar qaac qaag qaad qaaf qaap qaaq qaab qaa4 SOp.run SX.ev putd puts argS upds SOp.touch SSt.keep SSt.skip gets geth puth delh idOf SV.cells? setL qab7 qab8 sbin eq0 eq1 eqL qab5 qabh qabi qaa5 qaat qaae qaau qaa6 qaam qaan FrzOk qaba qaa0 qaa8 qaa9 qaav qaaz qabe qaa1 qaax qabb qaaw frzS frzH frz frz1 frz0 SlotsM ObjsM ObjM rn ren ren1 ren0 qabp qabs qabt qabo qabf qab1 qab0 CoL qabc qabw dels adds idsH qabq
instance pureR_nil : PureR [] := ⟨fun _ => rfl, fun x hx => (by cases hx), fun x hx => (by cases hx)⟩
theorem qbe1 {X : Cx} {sl : Sl} {hp : Hp} {t nx : Nat} {v r : SV} (hm : X.m = 0) (h : gets sl t = v) (hc : Co v r) (hv : NoN r) : QFun X [.tmp t] 0 r [] .ret ⟨sl, hp, nx⟩ := by
 refine ⟨⟨[(t, r)], [], 0⟩, qad5 [] hm rfl (Nat.zero_le _) ⟨?_, trivial⟩ trivial, by simp [qage, resL, resV, one_, gets], trivial, by simp⟩
 show Co (gets sl t) (ren _ r)
 rw [h, hv]; exact hc
theorem cl1_nil : SCalls Tryz.prog 31 [.nilsl] [] 0 (.view 1 []) [] := by
 refine qaai (N := 8) Tryz.func31 rfl rfl (by kernel_rfl) qai2 (by simp) (by repeat' (first | exact trivial | refine And.intro ?_ ?_ | rfl | decide | exact PureR.ren _)) (by repeat' (first | exact trivial | refine And.intro ?_ ?_ | rfl | decide | exact PureR.ren _)) ?_
 rintro X hP hN hm
 unfold c_cl1
 repeat' (first | refine yA ?_ | with_reducible refine yB ?_ ?_ | ((with_reducible refine yC fun h => ?_); have h' := h; (try simp at h'); (try subst h')) | (refine qbe1 hm rfl (Co.nilsl _) (qao0 _ _)) | exact trivial)
theorem cl1_mt : SCalls Tryz.prog 31 [.mt] [] 0 (.view 1 []) [] := by
 refine qaai (N := 8) Tryz.func31 rfl rfl (by kernel_rfl) qai2 (by simp) (by repeat' (first | exact trivial | refine And.intro ?_ ?_ | rfl | decide | exact PureR.ren _)) (by repeat' (first | exact trivial | refine And.intro ?_ ?_ | rfl | decide | exact PureR.ren _)) ?_
 rintro X hP hN hm
 unfold c_cl1
 repeat' (first | refine yA ?_ | with_reducible refine yB ?_ ?_ | ((with_reducible refine yC fun h => ?_); have h' := h; (try simp at h'); (try subst h')) | (refine qajw (es := []) hm rfl rfl ?_ rfl) | exact trivial)
 all_goals rfl
theorem cl1_s (es : List (List SV)) [PureR es] (hl : es.length ≤ 1000000) (hz : ∀ e ∈ es, e.length = 1) (q : Nat) : SCalls Tryz.prog 31 [.view 1 es] [] q (.view 1 es) [] := by
 rcases es with _ | ⟨e, es⟩
 ·exact qagc (qabm cl1_nil (fun _ => rfl) (fun _ => rfl) rfl q) (qabm cl1_mt (fun _ => rfl) (fun _ => rfl) rfl q)
 ·refine qabm ?_ (fun _ => rfl) (fun _ => rfl) rfl q
  refine qaai (N := 8) Tryz.func31 rfl rfl (by kernel_rfl) qai2 (by simp) (by repeat' (first | exact trivial | refine And.intro ?_ ?_ | rfl | decide | exact PureR.ren _)) (by repeat' (first | exact trivial | refine And.intro ?_ ?_ | rfl | decide | exact PureR.ren _)) ?_
  rintro X hP hN hm
  have hb : (e :: es).length ≤ maxLen := by unfold maxLen; omega
  simp only [List.length_cons] at hl hb
  unfold c_cl1
  repeat' (first | refine yA ?_ | with_reducible refine yB ?_ ?_ | ((with_reducible refine yC fun h => ?_); have h' := h; (try simp at h'); (try subst h')) | (refine qajw (es := e :: es) hm rfl rfl ?_ rfl) | exact trivial)
  all_goals simp
theorem cl5_nil : SCalls Tryz.prog 32 [.nilsl] [] 0 (.view 1 []) [] := by
 refine qaai (N := 8) Tryz.func32 rfl rfl (by kernel_rfl) qai1 (by simp) (by repeat' (first | exact trivial | refine And.intro ?_ ?_ | rfl | decide | exact PureR.ren _)) (by repeat' (first | exact trivial | refine And.intro ?_ ?_ | rfl | decide | exact PureR.ren _)) ?_
 rintro X hP hN hm
 unfold c_cl5
 repeat' (first | refine yA ?_ | with_reducible refine yB ?_ ?_ | ((with_reducible refine yC fun h => ?_); have h' := h; (try simp at h'); (try subst h')) | (refine qbe1 hm rfl (Co.nilsl _) (qao0 _ _)) | exact trivial)
theorem cl5_mt : SCalls Tryz.prog 32 [.mt] [] 0 (.view 1 []) [] := by
 refine qaai (N := 8) Tryz.func32 rfl rfl (by kernel_rfl) qai1 (by simp) (by repeat' (first | exact trivial | refine And.intro ?_ ?_ | rfl | decide | exact PureR.ren _)) (by repeat' (first | exact trivial | refine And.intro ?_ ?_ | rfl | decide | exact PureR.ren _)) ?_
 rintro X hP hN hm
 unfold c_cl5
 repeat' (first | refine yA ?_ | with_reducible refine yB ?_ ?_ | ((with_reducible refine yC fun h => ?_); have h' := h; (try simp at h'); (try subst h')) | (refine qajw (es := []) hm rfl rfl ?_ rfl) | exact trivial)
 all_goals rfl
theorem cl5_s (es : List (List SV)) [PureR es] (hl : es.length ≤ 1000000) (hz : ∀ e ∈ es, e.length = 1) (q : Nat) : SCalls Tryz.prog 32 [.view 1 es] [] q (.view 1 es) [] := by
 rcases es with _ | ⟨e, es⟩
 ·exact qagc (qabm cl5_nil (fun _ => rfl) (fun _ => rfl) rfl q) (qabm cl5_mt (fun _ => rfl) (fun _ => rfl) rfl q)
 ·refine qabm ?_ (fun _ => rfl) (fun _ => rfl) rfl q
  refine qaai (N := 8) Tryz.func32 rfl rfl (by kernel_rfl) qai1 (by simp) (by repeat' (first | exact trivial | refine And.intro ?_ ?_ | rfl | decide | exact PureR.ren _)) (by repeat' (first | exact trivial | refine And.intro ?_ ?_ | rfl | decide | exact PureR.ren _)) ?_
  rintro X hP hN hm
  have hb : (e :: es).length ≤ maxLen := by unfold maxLen; omega
  simp only [List.length_cons] at hl hb
  unfold c_cl5
  repeat' (first | refine yA ?_ | with_reducible refine yB ?_ ?_ | ((with_reducible refine yC fun h => ?_); have h' := h; (try simp at h'); (try subst h')) | (refine qajw (es := e :: es) hm rfl rfl ?_ rfl) | exact trivial)
  all_goals simp
end Go.Proofs.YtalejfkholifpaaGreat
namespace Go.Proofs.YtalejfkholifpaaGreat
set_option linter.all false
open Go.RowKit
def qalg (s : TStep) : List SV := .int .i64 s.d :: qaay s.e
def qa4x (l : List TStep) : SV := .view 7 (l.map qalg)
def bigE (e : Entry) : Bool := decide (e.keys.length > 20) || (decide (e.masks.length > 20) || decide (e.args.length > 20))
def bigS (l : List TStep) : Bool := decide (l.length > 200) || l.any fun s => bigE s.e
theorem great_s (l : List TStep) : SCalls Tryz.prog 8 [qa4x l] [] 0 (.bool (bigS l)) [] := by
 refine qaai (N := 41) Tryz.func8 rfl rfl (by kernel_rfl) qap9 (by simp) ⟨rfl, trivial⟩ trivial ?_
 rintro X hP hN hm
 generalize hr : bigS l = r
 have fin : ∀ (r' : Bool) hp nx, r' = r → QFun X (Tryz.f8).results.toList 0 (.bool r) [] .ret ⟨[(2, .bool r')], hp, nx⟩ := fun r' hp nx hr => by
  rw [hr]
  exact (qae9 (s' := ⟨[(2, .bool r)], [], 0⟩) (qad5 [] hm rfl (Nat.le_refl _) (by simp -implicitDefEqProofs [qaan, FrzOk, qaba, qaa0, qaa8, qaa9, qaav, qaaz, qabe, qaa1, qaax, qabb, qaaw, frzS, frzH, frz, frz1, frz0, SlotsM, ObjsM, ObjM, rn, ren, ren1, ren0, gets, geth, qabp, qabs, qabt, qabo, qabf, qab1, qab0, CoL, qabc]) trivial) rfl trivial (by simp))
 unfold c_great qa4x
 refine qabv (qaao ?_)
 simp -implicitDefEqProofs [qanx, qaas, qaar, qaac, qaag, qaad, qaaf, qaap, qaaq, qaab, qaa4, SOp.run, SX.ev, putd, puts, argS, upds, SOp.touch, SSt.keep, SSt.skip, gets, geth, puth, delh, idOf, SV.cells?, setL, qab7, qab8, sbin, eq0, eq1, eqL, qab5, qabh, qabi, qaa5, qaat, qaae, qaau, qaa6, qaam]
 refine qabv (qabv (qaao ?_))
 simp -implicitDefEqProofs [qanw, qaas, qaar, qaac, qaag, qaad, qaaf, qaap, qaaq, qaab, qaa4, SOp.run, SX.ev, putd, puts, argS, upds, SOp.touch, SSt.keep, SSt.skip, gets, geth, puth, delh, idOf, SV.cells?, setL, qab7, qab8, sbin, eq0, eq1, eqL, qab5, qabh, qabi, qaa5, qaat, qaae, qaau, qaa6, qaam]
 refine qabd rfl (fun h => ?_) (fun h => ?_)
 ·refine qabv (qaao ?_)
  simp -implicitDefEqProofs [qanv, qaas, qaar, qaac, qaag, qaad, qaaf, qaap, qaaq, qaab, qaa4, SOp.run, SX.ev, putd, puts, argS, upds, SOp.touch, SSt.keep, SSt.skip, gets, geth, puth, delh, idOf, SV.cells?, setL, qab7, qab8, sbin, eq0, eq1, eqL, qab5, qabh, qabi, qaa5, qaat, qaae, qaau, qaa6, qaam]
  refine qabl (fin _ _ _ ?_)
  have : l.length > 200 := by simp at h; omega
  rw [← hr]; simp [bigS, this]
 ·have h200 : l.length ≤ 200 := by simp at h; omega
  refine qaah ?_
  simp -implicitDefEqProofs [qaas, qaar, qaac, qaag, qaad, qaaf, qaap, qaaq, qaab, qaa4, SOp.run, SX.ev, putd, puts, argS, upds, SOp.touch, SSt.keep, SSt.skip, gets, geth, puth, delh, idOf, SV.cells?, setL, qab7, qab8, sbin, eq0, eq1, eqL, qab5, qabh, qabi, qaa5, qaat, qaae, qaau, qaa6, qaam]
  refine qabv (qabv (qaao ?_))
  simp -implicitDefEqProofs [qanu, qaas, qaar, qaac, qaag, qaad, qaaf, qaap, qaaq, qaab, qaa4, SOp.run, SX.ev, putd, puts, argS, upds, SOp.touch, SSt.keep, SSt.skip, gets, geth, puth, delh, idOf, SV.cells?, setL, qab7, qab8, sbin, eq0, eq1, eqL, qab5, qabh, qabi, qaa5, qaat, qaae, qaau, qaa6, qaam]
  refine qabj (qaig (fun s n => ∃ i : Nat, s = ⟨[(0, qa4x l), (3, .int .i64 i)], [], 0⟩ ∧ i ≤ l.length ∧ (∀ j s, j < i → l[j]? = some s → bigE s.e = false) ∧ n = l.length - i) (qad5 [] hm rfl (Nat.le_refl _) (by simp -implicitDefEqProofs [qaan, FrzOk, qaba, qaa0, qaa8, qaa9, qaav, qaaz, qabe, qaa1, qaax, qabb, qaaw, frzS, frzH, frz, frz1, frz0, SlotsM, ObjsM, ObjM, rn, ren, ren1, ren0, gets, geth, qabp, qabs, qabt, qabo, qabf, qab1, qab0, CoL, qabc, qa4x]) (by trivial)) ⟨0, rfl, by omega, by intro j s hj; omega, rfl⟩ ?_)
  rintro s n ⟨i, rfl, h1, h2, rfl⟩
  unfold qany
  refine qabv (qabv (qaao ?_))
  simp -implicitDefEqProofs [qant, qaas, qaar, qaac, qaag, qaad, qaaf, qaap, qaaq, qaab, qaa4, SOp.run, SX.ev, putd, puts, argS, upds, SOp.touch, SSt.keep, SSt.skip, gets, geth, puth, delh, idOf, SV.cells?, setL, qab7, qab8, sbin, eq0, eq1, eqL, qab5, qabh, qabi, qaa5, qaat, qaae, qaau, qaa6, qaam, qa4x]
  refine qabd rfl (fun h3 => qaah ?_) (fun h3 => qaaj ?_)
  ·have hi : i < l.length := by simpa using h3
   simp -implicitDefEqProofs [qaas, qaar, qaac, qaag, qaad, qaaf, qaap, qaaq, qaab, qaa4, SOp.run, SX.ev, putd, puts, argS, upds, SOp.touch, SSt.keep, SSt.skip, gets, geth, puth, delh, idOf, SV.cells?, setL, qab7, qab8, sbin, eq0, eq1, eqL, qab5, qabh, qabi, qaa5, qaat, qaae, qaau, qaa6, qaam]
   refine qabv (qabj (qabv (qaao ?_)))
   have yes : bigE l[i].e = true → bigS l = true := fun hb => by
    simp only [bigS, Bool.or_eq_true]
    exact .inr (List.any_eq_true.2 ⟨l[i], List.getElem_mem hi, hb⟩)
   have step : ∀ b hp nx, bigE l[i].e = b → SWp X ((SCode.cond (.t 40) (SCode.seq (.reg false qai6 [2]) .ret) .skip)) (qala 1 (QSeq X (.reg false qai5 [0, 3]) (qbhe X (fun s n => ∃ i : Nat, s = ⟨[(0, qa4x l), (3, .int .i64 i)], [], 0⟩ ∧ i ≤ l.length ∧ (∀ j s, j < i → l[j]? = some s → bigE s.e = false) ∧ n = l.length - i) (l.length - i) (qala 0 (QSeq X (SCode.seq (.reg false qai4 [2]) .ret) (QFun X [ResultVar.tmp 2] 0 (.bool r) []))))))
     ⟨[(0, .view 7 (l.map qalg)), (3, .int .i64 i), (40, .bool b)], hp, nx⟩ := by
    intro b hp nx hb
    cases b with
    | true =>
     refine qabd rfl (fun _ => ?_) (by simp)
     refine qabv (qaao ?_)
     simp -implicitDefEqProofs [qai6, qaas, qaar, qaac, qaag, qaad, qaaf, qaap, qaaq, qaab, qaa4, SOp.run, SX.ev, putd, puts, argS, upds, SOp.touch, SSt.keep, SSt.skip, gets, geth, puth, delh, idOf, SV.cells?, setL, qab7, qab8, sbin, eq0, eq1, eqL, qab5, qabh, qabi, qaa5, qaat, qaae, qaau, qaa6, qaam]
     refine qabl (fin _ _ _ ?_)
     rw [← hr, yes hb]
    | false =>
     refine qabd rfl (by simp) (fun _ => qaah ?_)
     simp -implicitDefEqProofs [qaas, qaar, qaac, qaag, qaad, qaaf, qaap, qaaq, qaab, qaa4, SOp.run, SX.ev, putd, puts, argS, upds, SOp.touch, SSt.keep, SSt.skip, gets, geth, puth, delh, idOf, SV.cells?, setL, qab7, qab8, sbin, eq0, eq1, eqL, qab5, qabh, qabi, qaa5, qaat, qaae, qaau, qaa6, qaam]
     refine qaao ?_
     simp -implicitDefEqProofs [qai5, qaas, qaar, qaac, qaag, qaad, qaaf, qaap, qaaq, qaab, qaa4, SOp.run, SX.ev, putd, puts, argS, upds, SOp.touch, SSt.keep, SSt.skip, gets, geth, puth, delh, idOf, SV.cells?, setL, qab7, qab8, sbin, eq0, eq1, eqL, qab5, qabh, qabi, qaa5, qaat, qaae, qaau, qaa6, qaam]
     rw [qabz (by omega) (by omega)]
     refine qail (qad5 [] hm rfl (Nat.zero_le _) (by simp -implicitDefEqProofs [qaan, FrzOk, qaba, qaa0, qaa8, qaa9, qaav, qaaz, qabe, qaa1, qaax, qabb, qaaw, frzS, frzH, frz, frz1, frz0, SlotsM, ObjsM, ObjM, rn, ren, ren1, ren0, gets, geth, qabp, qabs, qabt, qabo, qabf, qab1, qab0, CoL, qabc, qa4x]) (by trivial)) ⟨i + 1, rfl, by omega, ?_, rfl⟩ (by omega)
     intro j s hj hs
     rcases Nat.lt_or_ge j i with e | e
     ·exact h2 j s e hs
     ·obtain rfl : j = i := by omega
      rw [List.getElem?_eq_getElem hi] at hs; cases hs; exact hb
   cases k1 : decide ((20 : Int) < (l[i].e.keys.length : Int))
   ·cases k2 : decide ((20 : Int) < (l[i].e.masks.length : Int))
    ·simp -implicitDefEqProofs [qag3, qaas, qaar, qaac, qaag, qaad, qaaf, qaap, qaaq, qaab, qaa4, SOp.run, SX.ev, putd, puts, argS, upds, SOp.touch, SSt.keep, SSt.skip, gets, geth, puth, delh, idOf, SV.cells?, setL, qab7, qab8, sbin, eq0, eq1, eqL, qab5, qabh, qabi, qaa5, qaat, qaae, qaau, qaa6, qaam, hi, qalg, qaay, nums, k1, k2]
     refine step _ _ _ ?_
     have e1 : ¬ (l[i].e.keys.length > 20) := by simp at k1; omega
     have e2 : ¬ (l[i].e.masks.length > 20) := by simp at k2; omega
     simp only [bigE, decide_eq_false e1, decide_eq_false e2, Bool.false_or]
     apply Bool.eq_iff_iff.2; simp; omega
    ·simp -implicitDefEqProofs [qag3, qaas, qaar, qaac, qaag, qaad, qaaf, qaap, qaaq, qaab, qaa4, SOp.run, SX.ev, putd, puts, argS, upds, SOp.touch, SSt.keep, SSt.skip, gets, geth, puth, delh, idOf, SV.cells?, setL, qab7, qab8, sbin, eq0, eq1, eqL, qab5, qabh, qabi, qaa5, qaat, qaae, qaau, qaa6, qaam, hi, qalg, qaay, nums, k1, k2]
     refine step _ _ _ ?_
     have e2 : l[i].e.masks.length > 20 := by simp at k2; omega
     simp [bigE, e2]
   ·simp -implicitDefEqProofs [qag3, qaas, qaar, qaac, qaag, qaad, qaaf, qaap, qaaq, qaab, qaa4, SOp.run, SX.ev, putd, puts, argS, upds, SOp.touch, SSt.keep, SSt.skip, gets, geth, puth, delh, idOf, SV.cells?, setL, qab7, qab8, sbin, eq0, eq1, eqL, qab5, qabh, qabi, qaa5, qaat, qaae, qaau, qaa6, qaam, hi, qalg, qaay, nums, k1]
    refine step _ _ _ ?_
    have e1 : l[i].e.keys.length > 20 := by simp at k1; omega
    simp [bigE, e1]
  ·have hi : i = l.length := by have : ¬ i < l.length := by simpa using h3
                                omega
   subst hi
   simp -implicitDefEqProofs [qaas, qaar, qaac, qaag, qaad, qaaf, qaap, qaaq, qaab, qaa4, SOp.run, SX.ev, putd, puts, argS, upds, SOp.touch, SSt.keep, SSt.skip, gets, geth, puth, delh, idOf, SV.cells?, setL, qab7, qab8, sbin, eq0, eq1, eqL, qab5, qabh, qabi, qaa5, qaat, qaae, qaau, qaa6, qaam]
   refine qabv (qaao ?_)
   simp -implicitDefEqProofs [qai4, qaas, qaar, qaac, qaag, qaad, qaaf, qaap, qaaq, qaab, qaa4, SOp.run, SX.ev, putd, puts, argS, upds, SOp.touch, SSt.keep, SSt.skip, gets, geth, puth, delh, idOf, SV.cells?, setL, qab7, qab8, sbin, eq0, eq1, eqL, qab5, qabh, qabi, qaa5, qaat, qaae, qaau, qaa6, qaam]
   refine qabl (fin _ _ _ ?_)
   rw [← hr]
   simp only [bigS, Bool.false_eq, Bool.or_eq_false_iff]
   refine ⟨by simp; omega, List.any_eq_false.2 fun s hs => ?_⟩
   obtain ⟨j, hj⟩ := List.getElem?_of_mem hs
   rw [h2 j s (List.getElem?_eq_some_iff.1 hj).1 hj]; simp
end Go.Proofs.YtalejfkholifpaaGreat
namespace Go.Proofs.YtalejfkholifpaaGreat
set_option linter.all false
open Go.RowKit
attribute [local simp] qaas qaar qaac qaag qaad qaaf qaap qaaq qaab qaa4 SOp.run SX.ev putd puts argS upds SOp.touch SSt.keep SSt.skip gets geth puth delh idOf SV.cells? setL qab7 qab8 sbin eq0 eq1 eqL qab5 qabh qabi qaa5 qaat qaae qaau qaa6 qaam qaan FrzOk qaba qaa0 qaa8 qaa9 qaav qaaz qabe qaa1 qaax qabb qaaw frzS frzH frz frz1 frz0 SlotsM ObjsM ObjM rn ren ren1 ren0 qabp qabs qabt qabo qabf qab1 qab0 CoL qabc qabw dels adds idsH qabq
def hround (z : Int × Int) : Int × Int := (IntKind.u64.wrap (bits .xor .u64 z.1 (bits .and .u64 z.2 255) * 1099511628211), z.2 / 2 ^ min 8 IntKind.u64.bits)
def hrep : Nat → Int × Int → Int × Int
 | 0, z => z
 | n + 1, z => hrep n (hround z)
def hashL : List Int → Int → Int
 | [], h => h
 | x :: xs, h => hashL xs (hrep 8 (h, x)).1
def hashV (xs : List Int) : Int := hashL xs 14695981039346656037
def qaf1 (N : Nat) (xs : List Int) : Nat := (hashV xs / 2 ^ min 32 IntKind.u64.bits).toNat % N
theorem qbbq (x : Int) : 0 ≤ IntKind.u64.wrap x := by
 simp [IntKind.wrap, IntKind.bits, IntKind.signed]; omega
theorem qbcr : ∀ n (z : Int × Int), 0 ≤ z.1 → 0 ≤ (hrep n z).1
 | 0, z, h => h
 | n + 1, z, h => qbcr n _ (qbbq _)
theorem qax2 : ∀ xs h, 0 ≤ h → 0 ≤ hashL xs h
 | [], h, hh => hh
 | x :: xs, h, hh => qax2 xs _ (qbcr 8 _ hh)
theorem qbet (xs : List Int) : 0 ≤ hashV xs := qax2 xs _ (by decide)
def xsc : Option XSlot → List SV
 | none => [.bool false, .nilsl, .int .i64 0, .nilsl]
 | some s => [.bool true, nums .u64 s.keys, .int .i64 s.act, nums .u64 s.args]
instance : PureF xsc := ⟨fun σ x => by cases x <;> rfl, fun x => by cases x <;> rfl, fun x => by cases x <;> exact qacl _ rfl⟩
def qbc6 (k m : Int) (S : XTab) : List SV := [.int .i64 k, .int .i64 m, .int .i64 (cnt S), .view 4 (S.map xsc)]
theorem qbbl (k m : Int) (n : Nat) (S : XTab) (hS : 0 < S.length ∧ S.length ≤ 1048576) (xs : List Int) (hx : xs.length ≤ 1000000) (q : Nat) : SCalls Tryz.prog 93 [.cp [.int .i64 k, .int .i64 m, .int .i64 n, .view 4 (S.map xsc)], nums .u64 xs] [] q (.int .i64 (qaf1 S.length xs)) [] := by
 refine qabm ?_ (fun _ => rfl) (fun _ => rfl) rfl q
 obtain ⟨F, hF⟩ : ∃ F, F = hashV xs := ⟨_, rfl⟩
 have hFn : 0 ≤ F := by rw [hF]; exact qbet xs
 have hH : qaf1 S.length xs = (F / 2 ^ min 32 IntKind.u64.bits).toNat % S.length := by unfold qaf1; rw [hF]
 rw [hH]
 clear hH
 unfold hashV at hF
 replace hF := Lib.hid hF
 refine qaai (N := 35) Tryz.func93 rfl rfl (by kernel_rfl) qapp (by simp) (by repeat' (first | exact trivial | refine And.intro ?_ ?_ | rfl | decide | exact PureR.ren _)) (by repeat' (first | exact trivial | refine And.intro ?_ ?_ | rfl | decide | exact PureR.ren _)) ?_
 rintro X hP hN hm
 unfold c_xhome nums
 repeat' (first | refine yA ?_ | with_reducible refine yB ?_ ?_ | ((with_reducible refine yC fun h => ?_); have h' := h; (try simp at h'); (try subst h')) | exact trivial)
 refine qabj (qacp (fun s (z : Nat × Int) => s.turn [(10, .int .i64 z.1), (5, .int .u64 z.2)] []) (fun z => z.1 ≤ xs.length ∧ F = hashL (xs.drop z.1) z.2) (fun z => xs.length - z.1) (0, 14695981039346656037) ?_ ⟨by simp, hF.out⟩ ?_)
 ·repeat' (first | exact yD | refine yE ?_ | with_reducible refine yB ?_ ?_ | exact trivial)
 rintro J hJ ⟨i, hv⟩ ⟨h1, h2⟩
 unfold qamu
 simp only [zT, puth, Nat.reduceEqDiff, reduceIte, Nat.reduceAdd] at h1 h2 ⊢
 replace h2 := Lib.hid h2
 rcases Nat.lt_or_ge i xs.length with hi | hi
 ·have h3 := h2.out
  rw [List.drop_eq_getElem_cons hi, hashL] at h3
  have wi : IntKind.i64.wrap ((i : Int) + 1) = (i : Int) + 1 := qabz (by omega) (by omega)
  generalize htl : xs.drop (i + 1) = tl at h3
  generalize hxi : xs[i] = x at h3
  obtain ⟨H, hH⟩ : ∃ H, H = hrep 8 (hv, x) := ⟨_, rfl⟩
  rw [← hH] at h3
  replace hH := Lib.hid hH
  replace h3 := Lib.hid h3
  repeat' (first | ((with_reducible first | refine qaao ?_ | refine qaak (by rw [hP]; exact mixed) ?_); (try rw [hP]); simp -implicitDefEqProofs [List.getElem?_eq_getElem hi, hxi, *]) | ((with_reducible first | refine qaah ?_ | refine qaaj ?_); (try simp -implicitDefEqProofs [List.getElem?_eq_getElem hi, hxi, *])) | ((with_reducible refine qaaa (fun h => ?_) (fun h => ?_)) <;> have h' := h <;> (try simp at h') <;> (try subst h') <;> simp -implicitDefEqProofs [List.getElem?_eq_getElem hi, hxi, *]) | ((with_reducible refine qaal ?_ ?_); (first | omega | (unfold maxLen; omega)); simp -implicitDefEqProofs [List.getElem?_eq_getElem hi, hxi, *]) | refine yA ?_ | with_reducible refine yB ?_ ?_ | ((with_reducible refine yC fun h => ?_); have h' := h; (try simp at h'); (try subst h')) | exact trivial)
  have hJo := hJ
  refine qabj (qacp (fun s (z : Nat × Int × Int) => s.turn [(14, .int .i64 z.1), (5, .int .u64 z.2.1), (7, .int .u64 z.2.2)] []) (fun z => z.1 ≤ 8 ∧ H = hrep (8 - z.1) z.2) (fun z => 8 - z.1) (0, hv, x) ?_ ⟨by simp, hH.out⟩ ?_)
  ·repeat' (first | exact yD | refine yE ?_ | with_reducible refine yB ?_ ?_ | exact trivial)
  rintro J hJ ⟨j, a, c⟩ ⟨g1, g2⟩
  unfold qamv
  simp only [zT, puth, Nat.reduceEqDiff, reduceIte, Nat.reduceAdd] at g1 g2 ⊢
  rcases Nat.lt_or_ge j 8 with hj | hj
  ·rw [show 8 - j = (8 - (j + 1)) + 1 by omega, hrep] at g2
   have wj : IntKind.i64.wrap ((j : Int) + 1) = (j : Int) + 1 := qabz (by omega) (by omega)
   replace g2 := Lib.hid g2
   have hj8 : ((j : Int) < 8) = True := eq_true (by omega)
   repeat' (first | ((with_reducible first | refine qaao ?_ | refine qaak (by rw [hP]; exact mixed) ?_); (try rw [hP]); simp -implicitDefEqProofs [wj, hj8, *]) | ((with_reducible first | refine qaah ?_ | refine qaaj ?_); (try simp -implicitDefEqProofs [wj, hj8, *])) | ((with_reducible refine qaaa (fun h => ?_) (fun h => ?_)) <;> have h' := h <;> (try simp at h') <;> (try subst h') <;> simp -implicitDefEqProofs [wj, hj8, *]) | ((with_reducible refine qaal ?_ ?_); (first | omega | (unfold maxLen; omega)); simp -implicitDefEqProofs [wj, hj8, *]) | refine yA ?_ | with_reducible refine yB ?_ ?_ | ((with_reducible refine yC fun h => ?_); have h' := h; (try simp at h'); (try subst h')) | exact yD | refine yE ?_ | ((refine qabn hJ ((j + 1, ?_, ?_)) ?_ ?_ ?_; rotate_left 2; (with_reducible refine qabg [] hm ?_ ?_ ?_ ?_) <;> (try simp only [zT, puth, Nat.reduceEqDiff, reduceIte, Nat.reduceAdd]))) | exact trivial)
   exact ⟨by show j + 1 ≤ 8; omega, g2.out⟩
  ·obtain rfl : j = 8 := by omega
   have g3 : H = (a, c) := g2
   have h4 := h3.out
   rw [g3] at h4
   replace h4 := Lib.hid h4
   replace hJ := hJo
   repeat' (first | ((with_reducible first | refine qaao ?_ | refine qaak (by rw [hP]; exact mixed) ?_); (try rw [hP]); simp -implicitDefEqProofs [wi, *]) | ((with_reducible first | refine qaah ?_ | refine qaaj ?_); (try simp -implicitDefEqProofs [wi, *])) | ((with_reducible refine qaaa (fun h => ?_) (fun h => ?_)) <;> have h' := h <;> (try simp at h') <;> (try subst h') <;> simp -implicitDefEqProofs [wi, *]) | ((with_reducible refine qaal ?_ ?_); (first | omega | (unfold maxLen; omega)); simp -implicitDefEqProofs [wi, *]) | refine yA ?_ | with_reducible refine yB ?_ ?_ | ((with_reducible refine yC fun h => ?_); have h' := h; (try simp at h'); (try subst h')) | exact yD | refine yE ?_ | ((refine qabn hJ ((i + 1, ?_)) ?_ ?_ ?_; rotate_left 1; (with_reducible refine qabg [] hm ?_ ?_ ?_ ?_) <;> (try simp only [zT, puth, Nat.reduceEqDiff, reduceIte, Nat.reduceAdd]))) | exact trivial)
   exact ⟨by show i + 1 ≤ xs.length; omega, by rw [show xs.drop ((i + 1, a).1) = tl from htl]; exact h4.out⟩
 ·obtain rfl : i = xs.length := by omega
  have h3 := h2.out
  rw [List.drop_length] at h3
  obtain rfl : F = hv := h3
  obtain ⟨Q, hQ⟩ : ∃ Q : Nat, F / 2 ^ min 32 IntKind.u64.bits = Q := ⟨(F / 2 ^ min 32 IntKind.u64.bits).toNat, (Int.toNat_of_nonneg (Int.ediv_nonneg hFn (by decide))).symm⟩
  have wl : IntKind.u64.wrap (S.length : Int) = (S.length : Int) := by simp [IntKind.wrap, IntKind.bits, IntKind.signed]; omega
  have nz : ¬ ((S.length : Int) = 0) := by omega
  have tm : Int.tmod (Q : Int) (S.length : Int) = ((Q % S.length : Nat) : Int) := by
   rw [Int.tmod_eq_emod_of_nonneg (by omega)]; rfl
  have hml : Q % S.length < S.length := Nat.mod_lt _ hS.1
  have wc : IntKind.i64.wrap ((Q % S.length : Nat) : Int) = ((Q % S.length : Nat) : Int) := IntWalk.i64_in _ ⟨by omega, by omega⟩
  rw [hQ, show max (Q : Int) 0 = (Q : Int) by omega, show (Q : Int) % (S.length : Int) = ((Q % S.length : Nat) : Int) from rfl]
  generalize hR : Q % S.length = R at tm wc ⊢
  have hS0 : ¬ S = [] := fun e => by rw [e] at hS; exact absurd hS.1 (by simp)
  repeat' (first | ((with_reducible first | refine qaao ?_ | refine qaak (by rw [hP]; exact mixed) ?_); (try rw [hP]); simp -implicitDefEqProofs [hQ, wl, if_neg nz, nz, hS0, tm, wc, *]) | ((with_reducible first | refine qaah ?_ | refine qaaj ?_); (try simp -implicitDefEqProofs [hQ, wl, if_neg nz, nz, hS0, tm, wc, *])) | ((with_reducible refine qaaa (fun h => ?_) (fun h => ?_)) <;> have h' := h <;> (try simp at h') <;> (try subst h') <;> simp -implicitDefEqProofs [hQ, wl, if_neg nz, nz, hS0, tm, wc, *]) | ((with_reducible refine qaal ?_ ?_); (first | omega | (unfold maxLen; omega)); simp -implicitDefEqProofs [hQ, wl, if_neg nz, nz, hS0, tm, wc, *]) | refine yA ?_ | with_reducible refine yB ?_ ?_ | ((with_reducible refine yC fun h => ?_); have h' := h; (try simp at h'); (try subst h')) | exact trivial)
  all_goals rfl
theorem xhome_s (k m : Int) (S : XTab) (hS : 0 < S.length ∧ S.length ≤ 1048576) (xs : List Int) (hx : xs.length ≤ 1000000) (q : Nat) : SCalls Tryz.prog 93 [.cp (qbc6 k m S), nums .u64 xs] [] q (.int .i64 (qaf1 S.length xs)) [] := qbbl k m (cnt S) S hS xs hx q
end Go.Proofs.YtalejfkholifpaaGreat
namespace Go.Proofs.YtalejfkholifpaaGreat
set_option linter.all false
open Go.RowKit
attribute [local simp] qaas qaar qaac qaag qaad qaaf qaap qaaq qaab qaa4 SOp.run SX.ev putd puts argS upds SOp.touch SSt.keep SSt.skip gets geth puth delh idOf SV.cells? setL qab7 qab8 sbin eq0 eq1 eqL qab5 qabh qabi qaa5 qaat qaae qaau qaa6 qaam qaan FrzOk qaba qaa0 qaa8 qaa9 qaav qaaz qabe qaa1 qaax qabb qaaw frzS frzH frz frz1 frz0 SlotsM ObjsM ObjM rn ren ren1 ren0 qabp qabs qabt qabo qabf qab1 qab0 CoL qabc qabw dels adds idsH qabq
theorem qae7 : qahn Tryz.prog 46 = some true := by kernel_rfl
theorem qaef : qab6 Tryz.prog 46 = some 2 := by kernel_rfl
theorem qbhg (xs : List Int) (h : xs.length ≤ 1000000) (q : Nat) : SCalls Tryz.prog 32 [nums .u64 xs] [] q (nums .u64 xs) [] := by
 unfold nums
 exact cl5_s (xs.map fun x => [.int .u64 x]) (by simpa using h) (by intro e he; obtain ⟨x, -, rfl⟩ := List.mem_map.1 he; rfl) q
def hitc (a : Int) (xs : List Int) : List SV := [.int .i64 a, nums .u64 xs]
theorem qbc7 (a : Int) (xs : List Int) (h : xs.length ≤ 1000000) (q : Nat) : SCalls Tryz.prog 89 [.agg (hitc a xs)] [] q (.agg (hitc a xs)) [] := by
 refine qabm ?_ (fun _ => rfl) (fun _ => rfl) rfl q
 refine qaai (N := 9) Tryz.func89 rfl rfl (by kernel_rfl) qas7 (by simp) (by repeat' (first | exact trivial | refine And.intro ?_ ?_ | rfl | decide | exact PureR.ren _)) (by repeat' (first | exact trivial | refine And.intro ?_ ?_ | rfl | decide | exact PureR.ren _)) ?_
 rintro X hP hN hm
 have k1 := fun q => qbhg xs h q
 unfold nums at k1
 unfold c_xown hitc nums
 repeat' (first | refine yA ?_ | with_reducible refine yB ?_ ?_ | ((with_reducible refine yC fun h => ?_); have h' := h; (try simp at h'); (try subst h')) | refine qabr (k1 _) ?_ | ((refine qapj hm rfl ?_ ?_ rfl (CoL.refl _) rfl ?_)) | exact trivial)
 all_goals first | (rw [hP]; with_reducible exact qae7) | (rw [hP]; exact qaef) | (intro σ; rfl) | trace_state
theorem qbe9 (xa xb : List Int) (i : Nat) (h : i < xa.length) (g : i < xb.length) : decide (xa.drop i = xb.drop i) = if xa[i] ≠ xb[i] then false else decide (xa.drop (i + 1) = xb.drop (i + 1)) := by
 rw [List.drop_eq_getElem_cons h, List.drop_eq_getElem_cons g]
 generalize xa[i] = a
 generalize xb[i] = b
 generalize xa.drop (i + 1) = u
 generalize xb.drop (i + 1) = v
 by_cases e : a = b <;> simp [e]
theorem sleq_s (xa xb : List Int) (ha : xa.length ≤ 1000000) (hb : xb.length ≤ 1000000) (q : Nat) : SCalls Tryz.prog 94 [nums .u64 xa, nums .u64 xb] [] q (.bool (decide (xa = xb))) [] := by
 refine qabm ?_ (fun _ => rfl) (fun _ => rfl) rfl q
 refine qaai (N := 26) Tryz.func94 rfl rfl (by kernel_rfl) qatk (by simp) (by repeat' (first | exact trivial | refine And.intro ?_ ?_ | rfl | decide | exact PureR.ren _)) (by repeat' (first | exact trivial | refine And.intro ?_ ?_ | rfl | decide | exact PureR.ren _)) ?_
 rintro X hP hN hm
 obtain ⟨F, hF⟩ : ∃ F, F = decide (xa = xb) := ⟨_, rfl⟩
 rw [← hF]
 replace hF := Lib.hid hF
 by_cases hlen : xb.length = xa.length
 ·unfold c_sleq nums
  repeat' (first | ((with_reducible first | refine qaao ?_ | refine qaak (by rw [hP]; exact mixed) ?_); (try rw [hP]); simp -implicitDefEqProofs [hlen, *]) | ((with_reducible first | refine qaah ?_ | refine qaaj ?_); (try simp -implicitDefEqProofs [hlen, *])) | ((with_reducible refine qaaa (fun h => ?_) (fun h => ?_)) <;> have h' := h <;> (try simp at h') <;> (try subst h') <;> simp -implicitDefEqProofs [hlen, *]) | ((with_reducible refine qaal ?_ ?_); (first | omega | (unfold maxLen; omega)); simp -implicitDefEqProofs [hlen, *]) | refine yA ?_ | with_reducible refine yB ?_ ?_ | ((with_reducible refine yC fun h => ?_); have h' := h; (try simp at h'); (try subst h')) | exact trivial)
  refine qabj (qacp (fun s (i : Nat) => s.turn [(13, .int .i64 i)] []) (fun i => i ≤ xa.length ∧ F = decide (xa.drop i = xb.drop i)) (fun i => xa.length - i) 0 ?_ ⟨by simp, hF.out⟩ ?_)
  ·repeat' (first | exact yD | refine yE ?_ | with_reducible refine yB ?_ ?_ | exact trivial)
  rintro J hJ i ⟨h1, h3⟩
  unfold qar3
  simp only [zT, puth, Nat.reduceEqDiff, reduceIte, Nat.reduceAdd] at h1 h3 ⊢
  replace h3 := Lib.hid h3
  rcases Nat.lt_or_ge i xa.length with hi | hi
  ·have hj : i < xb.length := by omega
   have h4 := h3.out
   rw [qbe9 xa xb i hi hj] at h4
   have wi : IntKind.i64.wrap ((i : Int) + 1) = (i : Int) + 1 := qabz (by omega) (by omega)
   replace h4 := Lib.hid h4
   repeat' (first | ((with_reducible first | refine qaao ?_ | refine qaak (by rw [hP]; exact mixed) ?_); (try rw [hP]); simp -implicitDefEqProofs [wi, List.getElem?_eq_getElem hi, List.getElem?_eq_getElem hj, *]) | ((with_reducible first | refine qaah ?_ | refine qaaj ?_); (try simp -implicitDefEqProofs [wi, List.getElem?_eq_getElem hi, List.getElem?_eq_getElem hj, *])) | ((with_reducible refine qaaa (fun h => ?_) (fun h => ?_)) <;> have h' := h <;> (try simp at h') <;> (try subst h') <;> simp -implicitDefEqProofs [wi, List.getElem?_eq_getElem hi, List.getElem?_eq_getElem hj, *]) | ((with_reducible refine qaal ?_ ?_); (first | omega | (unfold maxLen; omega)); simp -implicitDefEqProofs [wi, List.getElem?_eq_getElem hi, List.getElem?_eq_getElem hj, *]) | refine yA ?_ | with_reducible refine yB ?_ ?_ | ((with_reducible refine yC fun h => ?_); have h' := h; (try simp at h'); (try subst h')) | exact yD | refine yE ?_ | ((refine qach hm ?_ (fun σ => rfl))) | ((refine qabn hJ (i + 1) ?_ ?_ ?_; (with_reducible refine qabg [] hm ?_ ?_ ?_ ?_) <;> (try simp only [zT, puth, Nat.reduceEqDiff, reduceIte, Nat.reduceAdd]))) | exact trivial)
   all_goals first | (exfalso; omega) | (rw [h4.out, if_pos ‹_›]; done) | (refine ⟨by omega, ?_⟩; rw [h4.out, if_neg (by omega)]) | omega | trace_state
  ·obtain rfl : i = xa.length := by omega
   have h4 : F = true := by rw [h3.out, List.drop_length, List.drop_eq_nil_of_le (by omega)]; rfl
   repeat' (first | refine yA ?_ | with_reducible refine yB ?_ ?_ | ((with_reducible refine yC fun h => ?_); have h' := h; (try simp at h'); (try subst h')) | ((refine qach hm ?_ (fun σ => rfl))) | exact trivial)
   all_goals first | rfl | (rw [h4])
 ·have hf : F = false := by rw [hF.out]; exact decide_eq_false fun e => hlen (by rw [e])
  have hne : ¬ (xa.length : Int) = (xb.length : Int) := by omega
  have hne2 : ¬ xa.length = xb.length := by omega
  unfold c_sleq nums
  repeat' (first | ((with_reducible first | refine qaao ?_ | refine qaak (by rw [hP]; exact mixed) ?_); (try rw [hP]); simp -implicitDefEqProofs [hne, hne2, *]) | ((with_reducible first | refine qaah ?_ | refine qaaj ?_); (try simp -implicitDefEqProofs [hne, hne2, *])) | ((with_reducible refine qaaa (fun h => ?_) (fun h => ?_)) <;> have h' := h <;> (try simp at h') <;> (try subst h') <;> simp -implicitDefEqProofs [hne, hne2, *]) | ((with_reducible refine qaal ?_ ?_); (first | omega | (unfold maxLen; omega)); simp -implicitDefEqProofs [hne, hne2, *]) | refine yA ?_ | with_reducible refine yB ?_ ?_ | ((with_reducible refine yC fun h => ?_); have h' := h; (try simp at h'); (try subst h')) | ((refine qach hm ?_ (fun σ => rfl))) | exact trivial)
  all_goals first | rfl | (rw [hf]; done) | (exfalso; omega) | trace_state
theorem qbbm {X : Cx} {sl : Sl} {hp : Hp} {t u nx : Nat} {v w : SV} (hm : X.m = 0) (hne : t ≠ u) (hv : gets sl t = v) (hw : gets sl u = w) (hN : NoN v) (hM : NoN w) : QFun X [.tmp t, .tmp u] 0 (.tup [v, w]) [] .ret ⟨sl, hp, nx⟩ := by
 refine ⟨⟨[(t, v), (u, w)], [], 0⟩, qad5 [] hm rfl (Nat.zero_le _) ⟨?_, ?_, trivial⟩ trivial, by simp [qage, resL, resV, one_, gets, hne, hne.symm], trivial, by simp⟩
 ·show Co (gets sl t) (Go.Proofs.YtalejfkholifpaaGreat.ren _ v)
  rw [hv, hN]; exact Co.refl _
 ·show Co (gets sl u) (Go.Proofs.YtalejfkholifpaaGreat.ren _ w)
  rw [hw, hM]; exact Co.refl _
theorem qac3 : xsc none = [.bool false, .nilsl, .int .i64 0, .nilsl] := rfl
theorem qabu (s : XSlot) : xsc (some s) = [.bool true, nums .u64 s.keys, .int .i64 s.act, nums .u64 s.args] := rfl
theorem qasn {S : XTab} {xs : List Int} {f i : Nat} {s : XSlot} (h : S[i]? = some (some s)) : qade S xs (f + 1) i = if s.keys = xs then (i, true) else qade S xs f (addm S.length i 1) := by rw [qade, h]
theorem qaso {S : XTab} {xs : List Int} {f i : Nat} (h : S[i]? = some none) : qade S xs (f + 1) i = (i, false) := by rw [qade, h]
def qaho (S : XTab) : Prop := ∀ (j : Nat) (s : XSlot), S[j]? = some (some s) → s.keys.length ≤ 1000000 ∧ s.args.length ≤ 1000000
theorem place_s (k m : Int) (S : XTab) (hS : 0 < S.length ∧ S.length ≤ 1048576) (hsm : qaho S) (xs : List Int) (hx : xs.length ≤ 1000000) (hf : ∃ e : Nat, S[e]? = some none) (q : Nat) : SCalls Tryz.prog 88 [.cp (qbc6 k m S), nums .u64 xs] [] q (.tup [.int .i64 (qade S xs S.length (qaf1 S.length xs)).1, .bool (qade S xs S.length (qaf1 S.length xs)).2]) [] := by
 refine qabm ?_ (fun _ => rfl) (fun _ => rfl) rfl q
 obtain ⟨R, b, hF⟩ : ∃ R b, (R, b) = qade S xs S.length (qaf1 S.length xs) := ⟨_, _, rfl⟩
 rw [← hF]
 have hH : qaf1 S.length xs < S.length := Nat.mod_lt _ hS.1
 have k1 := fun q => xhome_s k m S hS xs hx q
 obtain ⟨e, he⟩ := hf
 have hel := qaco he
 have hdl := qag0 hH hel
 generalize qaf1 S.length xs = H at k1 hF hH hdl
 have hS0 : ¬ S = [] := fun e => by rw [e] at hS; exact absurd hS.1 (by simp)
 replace hF := Lib.hid hF
 have k2 : ∀ (s : XSlot) (j : Nat), S[j]? = some (some s) → ∀ q, SCalls Tryz.prog 94 [nums .u64 s.keys, nums .u64 xs] [] q (.bool (decide (s.keys = xs))) [] := fun s j h q => sleq_s s.keys xs (hsm j s h).1 hx q
 unfold qbc6 nums at k1
 unfold nums at k2
 replace k2 := Lib.hid k2
 replace he := Lib.hid he
 replace hdl := Lib.hid hdl
 refine qaai (N := 38) Tryz.func88 rfl rfl (by kernel_rfl) qaml (by simp) (by repeat' (first | exact trivial | refine And.intro ?_ ?_ | rfl | decide | exact PureR.ren _)) (by repeat' (first | exact trivial | refine And.intro ?_ ?_ | rfl | decide | exact PureR.ren _)) ?_
 rintro X hP hN hm
 unfold c_xplace qbc6 nums
 repeat' (first | refine yA ?_ | with_reducible refine yB ?_ ?_ | ((with_reducible refine yC fun h => ?_); have h' := h; (try simp at h'); (try subst h')) | refine qabr (k1 _) ?_ | exact trivial)
 refine qabj (qacp (fun s (z : Nat × Nat) => s.turn [(6, .int .i64 z.1)] []) (fun z => z.1 < S.length ∧ (R, b) = qade S xs z.2 z.1 ∧ dist S.length z.1 e < z.2) (fun z => z.2) (H, S.length) ?_ ⟨hH, hF.out, hdl.out⟩ ?_)
 ·repeat' (first | exact yD | refine yE ?_ | with_reducible refine yB ?_ ?_ | exact trivial)
 rintro J hJ ⟨i, f⟩ ⟨h1, h2, h3⟩
 unfold qaj4
 simp only [zT, puth, Nat.reduceEqDiff, reduceIte, Nat.reduceAdd] at h1 h2 h3 ⊢
 obtain ⟨g, rfl⟩ : ∃ g, f = g + 1 := ⟨f - 1, by omega⟩
 replace h3 := Lib.hid h3
 rcases hs : S[i] with _ | s
 ·have hs' : S[i]? = some none := by rw [List.getElem?_eq_getElem h1, hs]
  rw [qaso hs'] at h2
  obtain ⟨rfl, rfl⟩ := Prod.mk.inj h2
  repeat' (first | ((with_reducible first | refine qaao ?_ | refine qaak (by rw [hP]; exact mixed) ?_); (try rw [hP]); simp -implicitDefEqProofs [hs', qac3, *]) | ((with_reducible first | refine qaah ?_ | refine qaaj ?_); (try simp -implicitDefEqProofs [hs', qac3, *])) | ((with_reducible refine qaaa (fun h => ?_) (fun h => ?_)) <;> have h' := h <;> (try simp at h') <;> (try subst h') <;> simp -implicitDefEqProofs [hs', qac3, *]) | ((with_reducible refine qaal ?_ ?_); (first | omega | (unfold maxLen; omega)); simp -implicitDefEqProofs [hs', qac3, *]) | refine yA ?_ | with_reducible refine yB ?_ ?_ | ((with_reducible refine yC fun h => ?_); have h' := h; (try simp at h'); (try subst h')) | ((refine qbbm hm (by decide) rfl rfl (fun σ => rfl) (fun σ => rfl))) | exact trivial)
 ·have hs' : S[i]? = some (some s) := by rw [List.getElem?_eq_getElem h1, hs]
  rw [qasn hs'] at h2
  have k3 := k2.out s i hs'
  have wi : IntKind.i64.wrap ((i : Int) + 1) = (i : Int) + 1 := qabz (by omega) (by omega)
  have tm : Int.tmod ((i : Int) + 1) (S.length : Int) = ((addm S.length i 1 : Nat) : Int) := by
   rw [Int.tmod_eq_emod_of_nonneg (by omega), ← qa4l h1 (by omega)]; rfl
  by_cases hB : s.keys = xs
  ·rw [if_pos hB] at h2
   obtain ⟨rfl, rfl⟩ := Prod.mk.inj h2
   rw [decide_eq_true hB] at k3
   replace hB := Lib.hid hB
   repeat' (first | ((with_reducible first | refine qaao ?_ | refine qaak (by rw [hP]; exact mixed) ?_); (try rw [hP]); simp -implicitDefEqProofs [hs', qabu, nums, wi, tm, hS0, *]) | ((with_reducible first | refine qaah ?_ | refine qaaj ?_); (try simp -implicitDefEqProofs [hs', qabu, nums, wi, tm, hS0, *])) | ((with_reducible refine qaaa (fun h => ?_) (fun h => ?_)) <;> have h' := h <;> (try simp at h') <;> (try subst h') <;> simp -implicitDefEqProofs [hs', qabu, nums, wi, tm, hS0, *]) | ((with_reducible refine qaal ?_ ?_); (first | omega | (unfold maxLen; omega)); simp -implicitDefEqProofs [hs', qabu, nums, wi, tm, hS0, *]) | refine yA ?_ | with_reducible refine yB ?_ ?_ | ((with_reducible refine yC fun h => ?_); have h' := h; (try simp at h'); (try subst h')) | (refine qabr (k3 _) ?_; simp -implicitDefEqProofs [hs', qabu, nums, wi, tm, hS0, *]) | ((refine qbbm hm (by decide) rfl rfl (fun σ => rfl) (fun σ => rfl))) | exact trivial)
  ·rw [if_neg hB] at h2
   rw [decide_eq_false hB] at k3
   have hie : i ≠ e := fun e1 => by
    have := he.out
    rw [← e1, hs'] at this; cases this
   have hn : addm S.length i 1 < S.length := qafs h1 (by omega)
   have hd : dist S.length (addm S.length i 1) e < g := by
    have := h3.out
    unfold dist addm at *
    (repeat' split at *) <;> (repeat' split) <;> omega
   replace h2 := Lib.hid h2
   replace hB := Lib.hid hB
   replace hd := Lib.hid hd
   repeat' (first | ((with_reducible first | refine qaao ?_ | refine qaak (by rw [hP]; exact mixed) ?_); (try rw [hP]); simp -implicitDefEqProofs [hs', qabu, nums, wi, tm, hS0, *]) | ((with_reducible first | refine qaah ?_ | refine qaaj ?_); (try simp -implicitDefEqProofs [hs', qabu, nums, wi, tm, hS0, *])) | ((with_reducible refine qaaa (fun h => ?_) (fun h => ?_)) <;> have h' := h <;> (try simp at h') <;> (try subst h') <;> simp -implicitDefEqProofs [hs', qabu, nums, wi, tm, hS0, *]) | ((with_reducible refine qaal ?_ ?_); (first | omega | (unfold maxLen; omega)); simp -implicitDefEqProofs [hs', qabu, nums, wi, tm, hS0, *]) | refine yA ?_ | with_reducible refine yB ?_ ?_ | ((with_reducible refine yC fun h => ?_); have h' := h; (try simp at h'); (try subst h')) | (refine qabr (k3 _) ?_; simp -implicitDefEqProofs [hs', qabu, nums, wi, tm, hS0, *]) | exact yD | refine yE ?_ | ((refine qabn hJ ((addm S.length i 1, g)) ?_ ?_ ?_; (with_reducible refine qabg [] hm ?_ ?_ ?_ ?_) <;> (try simp only [zT, puth, Nat.reduceEqDiff, reduceIte, Nat.reduceAdd]))) | exact trivial)
   all_goals first | exact ⟨hn, h2.out, hd.out⟩ | trace_state
end Go.Proofs.YtalejfkholifpaaGreat
namespace Go.Proofs.YtalejfkholifpaaGreat
set_option linter.all false
open Go.RowKit
variable {w : World} {ρ : qaci} {fp : Nat → Nat → Prop} {O : Nat → Prop} {h1 : Hp}
theorem qagh (k : Nat) : ¬ Live [] fp k := fun ⟨_, _, h, _⟩ => by cases h
def Lent (h1 : Hp) (x y : SV) : Prop := ∀ (O : Nat → Prop) (ρ : qaci) (fp : Nat → Nat → Prop) (w : World) (v : Value), HeapOk O ρ fp h1 w → RepV w (fun k => O k ∨ Live h1 fp k) ρ x v → RepV w (fun k => O k ∨ Live [] fp k) ρ y v
def qbc5 (h1 : Hp) : List SV → List SV → Prop
 | [], [] => True
 | x :: xs, y :: ys => Lent h1 x y ∧ qbc5 h1 xs ys
 | _, _ => False
theorem qbcq {k : Nat} : (O k ∨ Live [] fp k) → O k ∨ Live h1 fp k := fun hk => hk.elim .inl fun h => absurd h (qagh k)
theorem qadr (x : SV) : Lent h1 x x := fun _ _ _ _ _ _ hx => hx.weaken fun _ hk _ => qbcq hk
theorem qait : ∀ xs, qbc5 h1 xs xs
 | [] => trivial
 | x :: xs => ⟨qadr x, qait xs⟩
theorem qagi : ∀ {xs ys}, qbc5 h1 xs ys → xs.length = ys.length
 | [], [], _ => rfl
 | _ :: _, _ :: _, h => by simp [qagi h.2]
 | [], _ :: _, h => h.elim
 | _ :: _, [], h => h.elim
theorem qah4 : ∀ {xs ys : List SV} {j : Nat} {y : SV}, qbc5 h1 xs ys → ys[j]? = some y → ∃ x, xs[j]? = some x ∧ Lent h1 x y
 | x :: xs, y :: ys, 0, _, h, hy => by cases hy; exact ⟨x, rfl, h.1⟩
 | x :: xs, y :: ys, j + 1, _, h, hy => qah4 (xs := xs) (ys := ys) (j := j) h.2 (by simpa using hy)
 | [], [], _, _, _, hy => by simp at hy
 | [], _ :: _, _, _, h, _ => h.elim
 | _ :: _, [], _, _, h, _ => h.elim
theorem qaks {id z e : Nat} {es : List (List SV)} (ho : geth h1 id = some (.row e z es)) (hp : ∀ e ∈ es, qan5 e) {n : Nat} (hn : n = es.length) : Lent h1 (.own id n) (.view z es) := fun O ρ fp w v hok hx => by
 subst hn
 obtain ⟨v0, us, how, ⟨hrep, huo⟩, hzs, hρ', hfp⟩ := hok.objs id _ ho
 generalize hn : es.length = n at hx
 cases hx with
 | own0 hρ => rw [List.eq_nil_of_length_eq_zero hn]; exact .view0 (by simp [maxLen]) (fun _ => rfl)
 | own hρ hnc hm =>
  rename_i b c
  rw [hρ] at hρ'
  have hp0 : qad6 v0 = some (b, c) := (Option.some.inj hρ').symm
  obtain ⟨hv0, hcell, hlt, _, _⟩ := qaer how hp0
  have hown : fp id b := (hfp b).2 (by rw [hv0]; rfl)
  have hval : ∀ i e j x, es[i]? = some e → e[j]? = some x → ∃ u, us[i * z + j]? = some u ∧ RepV w (fun k => O k ∨ Live h1 fp k) ρ x u := fun i e j x he hx => hrep.get (qahe hzs he hx)
  refine .view (fun i j => us.getD (i * z + j) undef) hn hnc hm (fun hO => hO.elim (hok.lt b ⟨id, _, ho, hown⟩).2 (qagh b)) hlt hzs (fun i e j x he hx => ?_) (fun i e j x he hx => ?_) (fun i e j x he hx => ?_)
  ·obtain ⟨u, h1, h2⟩ := hval i e j x he hx
   rw [Nat.zero_add, List.getD_eq_getElem?_getD, h1]
   exact hcell _ _ h1
  ·obtain ⟨u, h1, h2⟩ := hval i e j x he hx
   rw [List.getD_eq_getElem?_getD, h1]
   exact (hp e (List.mem_of_getElem? he) x (List.mem_of_getElem? hx) _ _ _ _ h2).weaken fun k hk _ => qbcq hk
  ·obtain ⟨u, h1, h2⟩ := hval i e j x he hx
   rw [List.getD_eq_getElem?_getD, h1]
   exact huo u (List.mem_of_getElem? h1)
theorem qakt {id off t : Nat} {cs ds : List SV} (ho : geth h1 id = some (.cells t cs)) (hl : qbc5 h1 (cs.drop off) ds) (hp : qan5 ds) : Lent h1 (.ptr id off) (.cp ds) := fun O ρ fp w v hok hx => by
 obtain ⟨b, c, us, hρ', hbl, ⟨hrep, huo⟩, hfp⟩ := hok.objs id _ ho
 cases hx with
 | ptr hρ =>
  rw [hρ] at hρ'; cases hρ'
  have hval : ∀ (j : Nat) y, ds[j]? = some y → ∃ u, us[off + j]? = some u ∧ RepV w (fun k => O k ∨ Live [] fp k) noPl y u := fun j y hy => by
   obtain ⟨x, hx, hxy⟩ := qah4 hl hy
   rw [List.getElem?_drop] at hx
   obtain ⟨u, h1, h2⟩ := hrep.get hx
   exact ⟨u, h1, hp y (List.mem_of_getElem? hy) _ _ _ _ (hxy O ρ fp w u hok h2)⟩
  refine .cp (fun j => us.getD (off + j) undef) (fun hO => hO.elim (hok.lt b ⟨id, _, ho, (hfp b).2 rfl⟩).2 (qagh b)) hbl.lt (fun j x hx => ?_) (fun j x hx => ?_) (fun j x hx => ?_)
  ·obtain ⟨u, h1, h2⟩ := hval j x hx
   rw [hbl.cell, List.getD_eq_getElem?_getD, h1]
   simpa using h1
  ·obtain ⟨u, h1, h2⟩ := hval j x hx
   rw [List.getD_eq_getElem?_getD, h1]
   exact h2
  ·obtain ⟨u, h1, h2⟩ := hval j x hx
   rw [List.getD_eq_getElem?_getD, h1]
   exact huo u (List.mem_of_getElem? h1)
def qavz (x : SV) : Prop := ∀ w A A' ρ v, RepV w A ρ x v → RepV w A' ρ x v
theorem qai3 (b : Bool) : qavz (.bool b) := fun w A A' ρ v h => by cases h; exact .bool
theorem qafd (k : IntKind) (n : Int) : qavz (.int k n) := fun w A A' ρ v h => by cases h; exact .int
def qbbj (cs : List SV) : Prop := ∀ x ∈ cs, qavz x
theorem qamt {A A' : Nat → Prop} {cs : List SV} {vs : List Value} (hc : qbbj cs) (h : Reps w A ρ cs vs) : Reps w A' ρ cs vs :=
 ⟨h.1, fun j x v hx hv => hc x (List.mem_of_getElem? hx) _ _ _ _ _ (h.2 j x v hx hv)⟩
theorem qa6j {cs : List SV} (hc : qbbj cs) : qavz (.tup cs) := fun w A A' ρ v h => by
 cases h with
 | tup hl hh => exact .tup hl fun j x v hx hv => hc x (List.mem_of_getElem? hx) _ _ _ _ _ (hh j x v hx hv)
def CleanO : SObj → Prop
 | .cells _ cs => qbbj cs
 | .row _ _ es => ∀ e ∈ es, qbbj e
 | .abs _ => False
theorem qa6k {A A' : Nat → Prop} {id : Nat} {F : Nat → Prop} {o : SObj} (hc : CleanO o) (h : ObjRep w A ρ id F o) : ObjRep w A' ρ id F o := by
 cases o with
 | cells t cs =>
  obtain ⟨b, c, vs, q1, q2, ⟨q3, q4⟩, q5⟩ := h
  exact ⟨b, c, vs, q1, q2, ⟨qamt hc q3, q4⟩, q5⟩
 | row e z es =>
  obtain ⟨v, vs, q1, ⟨q2, q3⟩, q4, q5, q6⟩ := h
  exact ⟨v, vs, q1, ⟨qamt (fun x hx => by obtain ⟨e, he, hx⟩ := List.mem_flatten.1 hx; exact hc e he x hx) q2, q3⟩, q4, q5, q6⟩
 | abs I => exact hc.elim
theorem qas2 (h1 h2 : Hp) (id : Nat) : geth (h1 ++ h2) id = match geth h1 id with | some o => some o | none => geth h2 id := by
 induction h1 with
 | nil => rfl
 | cons p h1 ih =>
  obtain ⟨i, o⟩ := p
  rw [List.cons_append]
  simp only [geth]
  split
  ·rfl
  ·exact ih
theorem qash {P : Program} {f : FuncId} {args args' : List SV} {h1 h2 : Hp} {q n : Nat} {r : SV} (h : SCalls P f args' [] q r h2 n) (ha : qbc5 h1 args args') (hr : qavz r) (hc : ∀ id o, geth h2 id = some o → CleanO o)
  (hd : ∀ id, geth h1 id ≠ none → geth h2 id = none) : SCalls P f args h1 q r (h1 ++ h2) n := by
 refine ⟨h.ent, fun O ρ fp w vs hok hargs hfr => ?_⟩
 have hargs' : Reps w (fun k => O k ∨ Live [] fp k) ρ args' vs := by
  refine ⟨by rw [← qagi ha]; exact hargs.1, fun j y v hy hv => ?_⟩
  obtain ⟨x, h1, h2⟩ := qah4 ha hy
  exact h2 O ρ fp w v hok (hargs.2 j x v h1 hv)
 refine (h.does O ρ fp w vs ⟨fun id o ho => (by cases ho), fun id id' o o' _ ho => (by cases ho), fun k hk => absurd hk (qagh k), hok.O_lt⟩ hargs' hfr).mono ?_
 rintro e w' ⟨v, ρ', fp', rfl, hk, hv, hst, hρ, hnew, hfp⟩
 have hst' : ∀ S : Nat → Prop, Step S w w' := fun S => hst.mono fun k hk => absurd hk (qagh k)
 have hbig : ∀ id o, geth h2 id = some o → ∀ k, fp' id k → w.heap.size ≤ k := fun id o ho k hk => (hfp id o ho k hk).elim (fun h => absurd h (qagh k)) fun h => h
 have hg : ∀ id o, geth (h1 ++ h2) id = some o → geth h1 id = some o ∧ geth h2 id = none ∨ geth h1 id = none ∧ geth h2 id = some o := fun id o ho => by
  rw [qas2] at ho
  cases e : geth h1 id with
  | some o' => rw [e] at ho; cases ho; exact .inl ⟨rfl, hd id (by rw [e]; simp)⟩
  | none => rw [e] at ho; exact .inr ⟨rfl, ho⟩
 let F : Nat → Nat → Prop := fun id k => (geth h2 id ≠ none ∧ fp' id k) ∨ (geth h2 id = none ∧ fp id k)
 have F1 : ∀ id, geth h2 id = none → F id = fp id := fun id hn => by funext k; simp [F, hn]
 have F2 : ∀ id o, geth h2 id = some o → F id = fp' id := fun id o hn => by funext k; simp [F, hn]
 have hav : ∀ k, (O k ∨ Live (h1 ++ h2) F k) → k < w.heap.size → O k ∨ Live h1 fp k := by
  rintro k (hO | ⟨id, o, ho, hk'⟩) hlt
  ·exact .inl hO
  ·rcases hg id o ho with ⟨q1, q2⟩ | ⟨q1, q2⟩
   ·rw [F1 id q2] at hk'; exact .inr ⟨id, o, q1, hk'⟩
   ·rw [F2 id o q2] at hk'; exact absurd (hbig id o q2 k hk') (by omega)
 refine ⟨v, ρ', F, rfl, ⟨fun id o ho => ?_, fun id id' o o' hne ho ho' k hk' hk2 => ?_, ?_, hk.O_lt⟩, hr _ _ _ _ _ hv, hst' _, hρ, hnew, fun id o ho k hk' => ?_⟩
 ·rcases hg id o ho with ⟨q1, q2⟩ | ⟨q1, q2⟩
  ·rw [F1 id q2]
   exact (hok.objs id o q1).mono ⟨hst' _, hav, hρ⟩ fun k hk' => hst.block k (hok.lt k ⟨id, o, q1, hk'⟩).1 (qagh k)
  ·rw [F2 id o q2]
   exact qa6k (hc id o q2) (hk.objs id o q2)
 ·rcases hg id o ho with ⟨q1, q2⟩ | ⟨q1, q2⟩ <;> rcases hg id' o' ho' with ⟨q3, q4⟩ | ⟨q3, q4⟩
  ·rw [F1 id q2] at hk'; rw [F1 id' q4] at hk2; exact hok.disj id id' o o' hne q1 q3 k hk' hk2
  ·rw [F1 id q2] at hk'; rw [F2 id' o' q4] at hk2
   have := (hok.lt k ⟨id, o, q1, hk'⟩).1; have := hbig id' o' q4 k hk2; omega
  ·rw [F2 id o q2] at hk'; rw [F1 id' q4] at hk2
   have := (hok.lt k ⟨id', o', q3, hk2⟩).1; have := hbig id o q2 k hk'; omega
  ·rw [F2 id o q2] at hk'; rw [F2 id' o' q4] at hk2; exact hk.disj id id' o o' hne q2 q4 k hk' hk2
 ·rintro k ⟨id, o, ho, hk'⟩
  rcases hg id o ho with ⟨q1, q2⟩ | ⟨q1, q2⟩
  ·rw [F1 id q2] at hk'
   have := hok.lt k ⟨id, o, q1, hk'⟩
   exact ⟨Nat.lt_of_lt_of_le this.1 hst.size, this.2⟩
  ·rw [F2 id o q2] at hk'
   exact hk.lt k ⟨id, o, q2, hk'⟩
 ·rcases hg id o ho with ⟨q1, q2⟩ | ⟨q1, q2⟩
  ·rw [F1 id q2] at hk'; exact .inl ⟨id, o, q1, hk'⟩
  ·rw [F2 id o q2] at hk'; exact .inr (hbig id o q2 k hk')
theorem qac7 {P : Program} {f : FuncId} {args args' : List SV} {h1 : Hp} {q : Nat} {r : SV} (h : SCalls P f args' [] q r []) (ha : qbc5 h1 args args') (hr : qavz r) : SCalls P f args h1 q r h1 := by
 have := qash h ha hr (fun id o ho => by cases ho) fun _ _ => rfl
 rwa [List.append_nil] at this
end Go.Proofs.YtalejfkholifpaaGreat
namespace Go.Proofs.YtalejfkholifpaaGreat
set_option linter.all false
open Go.RowKit
attribute [local simp] qaas qaar qaac qaag qaad qaaf qaap qaaq qaab qaa4 SOp.run SX.ev putd puts argS upds SOp.touch SSt.keep SSt.skip gets geth puth delh idOf SV.cells? setL qab7 qab8 sbin eq0 eq1 eqL qab5 qabh qabi qaa5 qaat qaae qaau qaa6 qaam qaan FrzOk qaba qaa0 qaa8 qaa9 qaav qaaz qabe qaa1 qaax qabb qaaw frzS frzH frz frz1 frz0 SlotsM ObjsM ObjM rn ren ren1 ren0 qabp qabs qabt qabo qabf qab1 qab0 CoL qabc qabw dels adds idsH qabq
def xobj (k m : Int) (c : Nat) (S : XTab) : Hp := [(0, .cells 99 [.int .i64 k, .int .i64 m, .int .i64 c, .own 1 S.length]), (1, .row 141 4 (S.map xsc))]
theorem qal5 {k m : Int} {n : Nat} {S : XTab} : Lent (xobj k m n S) (.ptr 0 0) (.cp [.int .i64 k, .int .i64 m, .int .i64 n, .view 4 (S.map xsc)]) := by
 refine qakt (t := 99) (cs := [.int .i64 k, .int .i64 m, .int .i64 n, .own 1 S.length]) rfl ⟨qadr _, qadr _, qadr _, qaks (e := 141) rfl (qagn _ _) (by simp), trivial⟩ ?_
 intro x hx
 simp only [List.mem_cons, List.not_mem_nil, or_false] at hx
 rcases hx with rfl | rfl | rfl | rfl
 ·exact qafa _ _
 ·exact qafa _ _
 ·exact qafa _ _
 ·exact qagp _ _
theorem qare {k m : Int} {S : XTab} : Lent (xobj k m (cnt S) S) (.ptr 0 0) (.cp (qbc6 k m S)) := qal5
def newF : Nat → Nat → Int → Nat
 | 0, n, _ => n
 | f + 1, n, M => if (n : Int) < M ∧ n < 1048576 then newF f (n * 2) M else n
def newN (m : Int) : Nat := newF 18 4 (IntKind.i64.wrap (2 * m))
theorem qbci : ∀ f n M, n ≤ newF f n M
 | 0, n, M => Nat.le_refl _
 | f + 1, n, M => by
  rw [newF]; split
  ·exact Nat.le_trans (by omega) (qbci f (n * 2) M)
  ·exact Nat.le_refl _
theorem qbch : ∀ f n M, newF f n M ≤ n * 2 ^ f
 | 0, n, M => by simp [newF]
 | f + 1, n, M => by
  rw [newF]; split
  ·have := qbch f (n * 2) M
   rw [Nat.pow_succ, Nat.mul_comm (2 ^ f) 2, ← Nat.mul_assoc]; exact this
  ·exact Nat.le_mul_of_pos_right _ (Nat.pow_pos (by omega))
theorem qaxj : ∀ f n M, n * 2 ^ f = 1048576 → M ≤ newF f n M ∨ newF f n M = 1048576
 | 0, n, M, h => .inr (by simpa [newF] using h)
 | f + 1, n, M, h => by
  rw [newF]; split
  ·exact qaxj f (n * 2) M (by rw [← h, Nat.pow_succ, Nat.mul_comm (2 ^ f) 2, ← Nat.mul_assoc])
  ·rename_i hc
   have : n ≤ n * 2 ^ (f + 1) := Nat.le_mul_of_pos_right _ (Nat.pow_pos (by omega))
   by_cases h1 : (n : Int) < M
   ·exact .inr (by have : ¬ n < 1048576 := fun h2 => hc ⟨h1, h2⟩; omega)
   ·exact .inl (by omega)
theorem qaq9 (m : Int) : 4 ≤ newN m ∧ newN m ≤ 1048576 := ⟨qbci _ _ _, qbch 18 4 _⟩
theorem qa5q {m : Int} (h : m ≤ 1000) : m < newN m := by
 have h1 := qaq9 m
 by_cases h0 : m ≤ 0
 ·omega
 ·have hw : IntKind.i64.wrap (2 * m) = 2 * m := IntWalk.i64_in _ ⟨by omega, by omega⟩
  have := qaxj 18 4 (IntKind.i64.wrap (2 * m)) rfl
  unfold newN at *
  rw [hw] at *
  omega
theorem xlen_s (k m : Int) (S : XTab) (q : Nat) : SCalls Tryz.prog 75 [.cp (qbc6 k m S)] [] q (.int .i64 (cnt S)) [] := by
 refine qabm ?_ (fun _ => rfl) (fun _ => rfl) rfl q
 refine qaai (N := 7) Tryz.func75 rfl rfl (by kernel_rfl) qas9 (by simp) (by repeat' (first | exact trivial | refine And.intro ?_ ?_ | rfl | decide | exact PureR.ren _)) (by repeat' (first | exact trivial | refine And.intro ?_ ?_ | rfl | decide | exact PureR.ren _)) ?_
 rintro X hP hN hm
 unfold c_xlen qbc6
 repeat' (first | refine yA ?_ | with_reducible refine yB ?_ ?_ | ((with_reducible refine yC fun h => ?_); have h' := h; (try simp at h'); (try subst h')) | ((refine qach hm ?_ (fun σ => rfl))) | exact trivial)
 all_goals rfl
theorem xlen_o (k m : Int) (S : XTab) (q : Nat) : SCalls Tryz.prog 75 [.ptr 0 0] (xobj k m (cnt S) S) q (.int .i64 (cnt S)) (xobj k m (cnt S) S) :=
 qac7 (xlen_s k m S q) ⟨qare, trivial⟩ (qafd _ _)
theorem qaq6 (k m : Int) (S : XTab) (hS : 0 < S.length ∧ S.length ≤ 1048576) (hsm : qaho S) (xs : List Int) (hx : xs.length ≤ 1000000) (hf : ∃ e : Nat, S[e]? = some none) (q : Nat) : SCalls Tryz.prog 88 [.ptr 0 0, nums .u64 xs] (xobj k m (cnt S) S) q (.tup [.int .i64 (qade S xs S.length (qaf1 S.length xs)).1, .bool (qade S xs S.length (qaf1 S.length xs)).2]) (xobj k m (cnt S) S) :=
 qac7 (place_s k m S hS hsm xs hx hf q) ⟨qare, qadr _, trivial⟩ (qa6j (by
  intro x hx
  simp only [List.mem_cons, List.not_mem_nil, or_false] at hx
  rcases hx with rfl | rfl
  ·exact qafd _ _
  ·exact qai3 _))
theorem home_o (k m : Int) (n : Nat) (S : XTab) (hS : 0 < S.length ∧ S.length ≤ 1048576) (xs : List Int) (hx : xs.length ≤ 1000000) (q : Nat) : SCalls Tryz.prog 93 [.ptr 0 0, nums .u64 xs] (xobj k m n S) q (.int .i64 (qaf1 S.length xs)) (xobj k m n S) :=
 qac7 (qbbl k m n S hS xs hx q) ⟨qal5, qadr _, trivial⟩ (qafd _ _)
theorem qav3 (k m : Int) (N : Nat) : xobj k m 0 (List.replicate N none) = [(0, .cells 99 [.int .i64 k, .int .i64 m, .int .i64 (0 : Nat), .own 1 N]), (1, .row 141 4 ((List.replicate N none).map xsc))] := by
 unfold xobj
 rw [List.length_replicate]
theorem fin_xn {X : Cx} {s : SSt} {t : Nat} {h : Hp} {a b : SObj} (e : h = [(0, a), (1, b)]) (hw : Wk X s ⟨[(t, .ptr 0 0)], [(0, a), (1, b)], 2⟩) : QFun X [.tmp t] 0 (.ptr 0 0) h .ret s := by
 subst e
 exact ⟨_, hw, by simp [qage, resL, resV, one_, gets], ⟨rfl, rfl, trivial⟩, by simp⟩
theorem xnew_s (k m : Int) : SCalls Tryz.prog 33 [.int .i64 k, .int .i64 m] [] 0 (.ptr 0 0) (xobj k m 0 (List.replicate (newN m) none)) := by
 obtain ⟨N, hN'⟩ : ∃ N, N = newN m := ⟨_, rfl⟩
 have hb := qaq9 m
 rw [← hN'] at hb ⊢
 unfold newN at hN'
 obtain ⟨M, hM⟩ : ∃ M, IntKind.i64.wrap (2 * m) = M := ⟨_, rfl⟩
 rw [hM] at hN'
 replace hN' := Lib.hid hN'
 replace hb := Lib.hid hb
 refine qaai (N := 22) Tryz.func33 rfl rfl (by kernel_rfl) qas8 (by simp) (by repeat' (first | exact trivial | refine And.intro ?_ ?_ | rfl | decide | exact PureR.ren _)) (by repeat' (first | exact trivial | refine And.intro ?_ ?_ | rfl | decide | exact PureR.ren _)) ?_
 rintro X hP hN hm
 unfold c_xnew
 repeat' (first | refine yA ?_ | with_reducible refine yB ?_ ?_ | ((with_reducible refine yC fun h => ?_); have h' := h; (try simp at h'); (try subst h')) | exact trivial)
 refine qabj (qacp (fun s (z : Nat × Nat) => s.turn [(5, .int .i64 z.1)] []) (fun z => z.1 * 2 ^ z.2 = 1048576 ∧ N = newF z.2 z.1 M) (fun z => z.2) (4, 18) ?_ ⟨rfl, hN'.out⟩ ?_)
 ·repeat' (first | exact yD | refine yE ?_ | with_reducible refine yB ?_ ?_ | exact trivial)
 rintro J hJ ⟨n, f⟩ ⟨h1, h2⟩
 unfold qarv
 simp only [zT, puth, Nat.reduceEqDiff, reduceIte, Nat.reduceAdd] at h1 h2 ⊢
 have hn : n ≤ 1048576 := by
  have : n ≤ n * 2 ^ f := Nat.le_mul_of_pos_right _ (Nat.pow_pos (by omega))
  omega
 by_cases hc : (n : Int) < M ∧ n < 1048576
 ·obtain ⟨g, rfl⟩ : ∃ g, f = g + 1 := ⟨f - 1, by
   rcases f with _ | f
   ·simp at h1; omega
   ·rfl⟩
  rw [newF, if_pos hc] at h2
  have h3 : (n * 2) * 2 ^ g = 1048576 := by rw [← h1, Nat.pow_succ, Nat.mul_comm (2 ^ g) 2, ← Nat.mul_assoc]
  replace h1 := Lib.hid h1
  replace h2 := Lib.hid h2
  replace h3 := Lib.hid h3
  have wn : IntKind.i64.wrap ((n : Int) * 2) = (n : Int) * 2 := IntWalk.i64_in _ ⟨by omega, by omega⟩
  obtain ⟨c1, c2⟩ := hc
  have c3 : ((n : Int) < 1048576) = True := eq_true (by omega)
  clear c2
  replace hn := Lib.hid hn
  repeat' (first | ((with_reducible first | refine qaao ?_ | refine qaak (by rw [hP]; exact mixed) ?_); (try rw [hP]); simp -implicitDefEqProofs [hM, wn, c1, c3, *]) | ((with_reducible first | refine qaah ?_ | refine qaaj ?_); (try simp -implicitDefEqProofs [hM, wn, c1, c3, *])) | ((with_reducible refine qaaa (fun h => ?_) (fun h => ?_)) <;> have h' := h <;> (try simp at h') <;> (try subst h') <;> simp -implicitDefEqProofs [hM, wn, c1, c3, *]) | ((with_reducible refine qaal ?_ ?_); (first | omega | (unfold maxLen; omega)); simp -implicitDefEqProofs [hM, wn, c1, c3, *]) | refine yA ?_ | with_reducible refine yB ?_ ?_ | ((with_reducible refine yC fun h => ?_); have h' := h; (try simp at h'); (try subst h')) | exact yD | refine yE ?_ | ((refine qabn hJ ((n * 2, g)) ?_ ?_ ?_; (with_reducible refine qabg [] hm ?_ ?_ ?_ ?_) <;> (try simp only [zT, puth, Nat.reduceEqDiff, reduceIte, Nat.reduceAdd]))) | exact trivial)
  exact ⟨h3.out, h2.out⟩
 ·have h3 : N = n := by
   rcases f with _ | f
   ·exact h2
   ·rw [newF, if_neg hc] at h2; exact h2
  clear h2
  subst h3
  replace h1 := Lib.hid h1
  by_cases c1 : (N : Int) < M
  ·have c3 : ((N : Int) < 1048576) = False := eq_false (by intro h; exact hc ⟨c1, by omega⟩)
   clear hc
   repeat' (first | ((with_reducible first | refine qaao ?_ | refine qaak (by rw [hP]; exact mixed) ?_); (try rw [hP]); simp -implicitDefEqProofs [hM, c1, c3, *]) | ((with_reducible first | refine qaah ?_ | refine qaaj ?_); (try simp -implicitDefEqProofs [hM, c1, c3, *])) | ((with_reducible refine qaaa (fun h => ?_) (fun h => ?_)) <;> have h' := h <;> (try simp at h') <;> (try subst h') <;> simp -implicitDefEqProofs [hM, c1, c3, *]) | ((with_reducible refine qaal ?_ ?_); (first | omega | (unfold maxLen; omega)); simp -implicitDefEqProofs [hM, c1, c3, *]) | refine yA ?_ | with_reducible refine yB ?_ ?_ | ((with_reducible refine yC fun h => ?_); have h' := h; (try simp at h'); (try subst h')) | exact trivial)
   exact fin_xn (qav3 k m N) (qabg [(0, 15), (1, 13)] hm ⟨Co.refl _, trivial⟩ ⟨⟨_, rfl, rfl, CoL.refl _⟩, ⟨_, rfl, rfl, rfl, by rw [qaby, List.map_replicate]; exact CoLL.refl _⟩, trivial⟩ rfl (Nat.zero_le _))
  ·clear hc
   have c3 : ((N : Int) < M) = False := eq_false c1
   clear c1
   repeat' (first | ((with_reducible first | refine qaao ?_ | refine qaak (by rw [hP]; exact mixed) ?_); (try rw [hP]); simp -implicitDefEqProofs [hM, c3, *]) | ((with_reducible first | refine qaah ?_ | refine qaaj ?_); (try simp -implicitDefEqProofs [hM, c3, *])) | ((with_reducible refine qaaa (fun h => ?_) (fun h => ?_)) <;> have h' := h <;> (try simp at h') <;> (try subst h') <;> simp -implicitDefEqProofs [hM, c3, *]) | ((with_reducible refine qaal ?_ ?_); (first | omega | (unfold maxLen; omega)); simp -implicitDefEqProofs [hM, c3, *]) | refine yA ?_ | with_reducible refine yB ?_ ?_ | ((with_reducible refine yC fun h => ?_); have h' := h; (try simp at h'); (try subst h')) | exact trivial)
   exact fin_xn (qav3 k m N) (qabg [(0, 13), (1, 11)] hm ⟨Co.refl _, trivial⟩ ⟨⟨_, rfl, rfl, CoL.refl _⟩, ⟨_, rfl, rfl, rfl, by rw [qaby, List.map_replicate]; exact CoLL.refl _⟩, trivial⟩ rfl (Nat.zero_le _))
end Go.Proofs.YtalejfkholifpaaGreat
namespace Go.Proofs.YtalejfkholifpaaGreat
set_option linter.all false
open Go.RowKit
attribute [local simp] qaas qaar qaac qaag qaad qaaf qaap qaaq qaab qaa4 SOp.run SX.ev putd puts argS upds SOp.touch SSt.keep SSt.skip gets geth puth delh idOf SV.cells? setL qab7 qab8 sbin eq0 eq1 eqL qab5 qabh qabi qaa5 qaat qaae qaau qaa6 qaam qaan FrzOk qaba qaa0 qaa8 qaa9 qaav qaaz qabe qaa1 qaax qabb qaaw frzS frzH frz frz1 frz0 SlotsM ObjsM ObjM rn ren ren1 ren0 qabp qabs qabt qabo qabf qab1 qab0 CoL qabc qabw dels adds idsH qabq
theorem qagq {S : XTab} {xs : List Int} : ∀ (f i : Nat), i < S.length → (qade S xs f i).1 < S.length
 | 0, i, h => h
 | f + 1, i, h => by
  rw [qade]
  split
  ·split
   ·exact h
   ·exact qagq f _ (qafs h (by omega))
  ·exact h
theorem qbbk (o : Option XSlot) : (xsc o).length = 4 := by cases o <;> rfl
theorem qawl {l : List SV} (h : l.length = 4) (a b c d : SV) : (((l.set 0 a).set 1 b).set 2 c).set 3 d = [a, b, c, d] := by
 match l, h with
 | [_, _, _, _], _ => rfl
theorem fin_xi {X : Cx} {s : SSt} {t : Nat} {n : Int} {h : Hp} {a b : SObj} (e : h = [(0, a), (1, b)]) (hw : Wk X s ⟨[(t, .int .i64 n)], [(0, a), (1, b)], 2⟩) : QFun X [.tmp t] 2 (.int .i64 n) h .ret s := by
 subst e
 exact ⟨_, hw, by simp [qage, resL, resV, one_, gets], ⟨rfl, rfl, trivial⟩, by simp⟩
theorem qaev {X : Cx} {sl : Sl} {hp : Hp} {nx t : Nat} {V W : Int} {h : Hp} {k m : Int} {c N : Nat} {S : XTab} {cs : List SV} {es : List (List SV)} (hm : X.m = 2) (hV : V = W) (hh : h = xobj k m c S) (ht : gets sl t = .int .i64 W) (h0 : geth hp 0 = some (.cells 99 cs)) (hcs : cs = [.int .i64 k, .int .i64 m, .int .i64 c, .own 1 N]) (hN : N = S.length) (h1 : geth hp 1 = some (.row 141 4 es)) (he : es = S.map xsc) : QFun X [.tmp t] 2 (.int .i64 V) h .ret ⟨sl, hp, nx⟩ := by
 subst hV hcs he
 subst hN
 exact fin_xi hh (qabg [] hm ⟨by show Co (gets sl t) _; rw [ht]; exact Co.refl _, trivial⟩ ⟨⟨_, h0, rfl, CoL.refl _⟩, ⟨_, h1, rfl, rfl, by rw [qaby]; exact CoLL.refl _⟩, trivial⟩ rfl (Nat.le_refl 2))
def qacf (S : XTab) (xs : List Int) : Nat × Bool := qade S xs S.length (qaf1 S.length xs)
def qaoa (k m : Int) (S : XTab) (xs : List Int) : Int := if (xs.length : Int) ≠ k then 2 else if (qacf S xs).2 = true then 7 else if m ≤ cnt S ∨ (S.length : Int) - 1 ≤ cnt S then 10 else 0
def addX (k m : Int) (S : XTab) (s : XSlot) : XTab := if qaoa k m S s.keys = 0 then S.set (qacf S s.keys).1 (some s) else S
theorem xadd_s (k m : Int) (S : XTab) (hS : 0 < S.length ∧ S.length ≤ 1048576) (hsm : qaho S) (a : Int) (xs ys : List Int) (hx : xs.length ≤ 1000000) (hy : ys.length ≤ 1000000) (hf : ∃ e : Nat, S[e]? = some none) (hc : qaoa k m S xs = 0 → cnt (S.set (qacf S xs).1 (some ⟨xs, a, ys⟩)) = cnt S + 1) : SCalls Tryz.prog 82 [.ptr 0 0, nums .u64 xs, .agg (hitc a ys)] (xobj k m (cnt S) S) 2 (.int .i64 (qaoa k m S xs)) (xobj k m (cnt (addX k m S ⟨xs, a, ys⟩)) (addX k m S ⟨xs, a, ys⟩)) := by
 have k1 := fun q => qaq6 k m S hS hsm xs hx hf q
 have k2 := fun q => qbhg xs hx q
 have k3 := fun q => qbc7 a ys hy q
 have hcl : cnt S ≤ S.length := List.countP_le_length
 have hv : qaoa k m S xs = if (xs.length : Int) ≠ k then 2 else if (qacf S xs).2 = true then 7 else if m ≤ cnt S ∨ (S.length : Int) - 1 ≤ cnt S then 10 else 0 := rfl
 have hr : addX k m S ⟨xs, a, ys⟩ = if qaoa k m S xs = 0 then S.set (qacf S xs).1 (some ⟨xs, a, ys⟩) else S := rfl
 have hR : (qacf S xs).1 < S.length := qagq _ _ (Nat.mod_lt _ hS.1)
 rw [show qade S xs S.length (qaf1 S.length xs) = qacf S xs from rfl] at k1
 generalize qaoa k m S xs = V at hv hr hc ⊢
 generalize addX k m S ⟨xs, a, ys⟩ = S' at hr ⊢
 obtain ⟨R, b, hp⟩ : ∃ R b, qacf S xs = (R, b) := ⟨_, _, rfl⟩
 rw [hp] at k1 hv hr hR hc
 simp only at k1 hv hr hR hc
 generalize hn : cnt S = n at *
 replace hv := Lib.hid hv
 replace hr := Lib.hid hr
 replace hc := Lib.hid hc
 replace hp := Lib.hid hp
 replace hn := Lib.hid hn
 replace hf := Lib.hid hf
 replace hsm := Lib.hid hsm
 unfold nums at k1 k2
 unfold hitc nums at k3
 obtain ⟨H2, hH2⟩ : ∃ H, H = xobj k m (cnt S') S' := ⟨_, rfl⟩
 rw [← hH2]
 replace hH2 := Lib.hid hH2
 unfold xobj at k1 ⊢
 refine qaai (N := 65) Tryz.func82 rfl rfl (by kernel_rfl) qatc (by simp) (by repeat' (first | exact trivial | refine And.intro ?_ ?_ | rfl | decide | exact PureR.ren _)) (by repeat' (first | exact trivial | refine And.intro ?_ ?_ | rfl | decide | exact PureR.ren _)) ?_
 rintro X hP hN hm
 unfold c_xadd hitc nums
 by_cases h1 : (xs.length : Int) = k
 ·subst h1
  have w1 : IntKind.i64.wrap ((S.length : Int) - 1) = (S.length : Int) - 1 := IntWalk.i64_in _ ⟨by omega, by omega⟩
  have w2 : IntKind.i64.wrap ((n : Int) + 1) = (n : Int) + 1 := qabz (by omega) (by omega)
  cases b with
  | true =>
   repeat' (first | ((with_reducible first | refine qaao ?_ | refine qaak (by rw [hP]; exact mixed) ?_); (try rw [hP]); simp -implicitDefEqProofs [w1, w2, *]) | ((with_reducible first | refine qaah ?_ | refine qaaj ?_); (try simp -implicitDefEqProofs [w1, w2, *])) | ((with_reducible refine qaaa (fun h => ?_) (fun h => ?_)) <;> have h' := h <;> (try simp at h') <;> (try subst h') <;> simp -implicitDefEqProofs [w1, w2, *]) | ((with_reducible refine qaal ?_ ?_); (first | omega | (unfold maxLen; omega)); simp -implicitDefEqProofs [w1, w2, *]) | refine yA ?_ | with_reducible refine yB ?_ ?_ | ((with_reducible refine yC fun h => ?_); have h' := h; (try simp at h'); (try subst h')) | (refine qab4 (k1 _) ⟨rfl, rfl, trivial⟩ ⟨rfl, rfl, trivial⟩ ?_; simp -implicitDefEqProofs [w1, w2, *]) | (refine qabr (k2 _) ?_; simp -implicitDefEqProofs [w1, w2, *]) | (refine qabr (k3 _) ?_; simp -implicitDefEqProofs [w1, w2, *]) | exact trivial)
   have hV : V = 7 := by rw [hv.out, if_neg (by simp), if_pos rfl]
   have hS' : S' = S := by rw [hr.out, if_neg (by rw [hV]; decide)]
   subst hS'
   exact qaev hm hV hH2.out rfl rfl (by rw [hn.out]) rfl rfl rfl
  | false =>
   repeat' (first | ((with_reducible first | refine qaao ?_ | refine qaak (by rw [hP]; exact mixed) ?_); (try rw [hP]); simp -implicitDefEqProofs [w1, w2, *]) | ((with_reducible first | refine qaah ?_ | refine qaaj ?_); (try simp -implicitDefEqProofs [w1, w2, *])) | ((with_reducible refine qaaa (fun h => ?_) (fun h => ?_)) <;> have h' := h <;> (try simp at h') <;> (try subst h') <;> simp -implicitDefEqProofs [w1, w2, *]) | ((with_reducible refine qaal ?_ ?_); (first | omega | (unfold maxLen; omega)); simp -implicitDefEqProofs [w1, w2, *]) | refine yA ?_ | with_reducible refine yB ?_ ?_ | ((with_reducible refine yC fun h => ?_); have h' := h; (try simp at h'); (try subst h')) | (refine qab4 (k1 _) ⟨rfl, rfl, trivial⟩ ⟨rfl, rfl, trivial⟩ ?_; simp -implicitDefEqProofs [w1, w2, *]) | (refine qabr (k2 _) ?_; simp -implicitDefEqProofs [w1, w2, *]) | (refine qabr (k3 _) ?_; simp -implicitDefEqProofs [w1, w2, *]) | exact trivial)
   iterate 2
    ·have hV : V = 10 := by rw [hv.out, if_neg (by simp), if_neg (by simp), if_pos (by omega)]
     have hS' : S' = S := by rw [hr.out, if_neg (by rw [hV]; decide)]
     subst hS'
     exact qaev hm hV hH2.out rfl rfl (by rw [hn.out]) rfl rfl rfl
   ·have hV : V = 0 := by rw [hv.out, if_neg (by simp), if_neg (by simp), if_neg (by omega)]
    have hS' : S' = S.set R (some ⟨xs, a, ys⟩) := by rw [hr.out, if_pos hV]
    have hc' := hc.out hV
    rw [← hS'] at hc'
    refine qaev hm hV hH2.out rfl rfl (by rw [hc']; rfl) (by rw [hS', List.length_set]) rfl (by rw [hS', List.map_set, qawl (qbbk _)]; rfl)
 ·repeat' (first | ((with_reducible first | refine qaao ?_ | refine qaak (by rw [hP]; exact mixed) ?_); (try rw [hP]); simp -implicitDefEqProofs [h1, *]) | ((with_reducible first | refine qaah ?_ | refine qaaj ?_); (try simp -implicitDefEqProofs [h1, *])) | ((with_reducible refine qaaa (fun h => ?_) (fun h => ?_)) <;> have h' := h <;> (try simp at h') <;> (try subst h') <;> simp -implicitDefEqProofs [h1, *]) | ((with_reducible refine qaal ?_ ?_); (first | omega | (unfold maxLen; omega)); simp -implicitDefEqProofs [h1, *]) | refine yA ?_ | with_reducible refine yB ?_ ?_ | ((with_reducible refine yC fun h => ?_); have h' := h; (try simp at h'); (try subst h')) | exact trivial)
  ·have hV : V = 2 := by rw [hv.out, if_pos h1]
   have hS' : S' = S := by rw [hr.out, if_neg (by rw [hV]; decide)]
   subst hS'
   exact qaev hm hV hH2.out rfl rfl (by rw [hn.out]) rfl rfl rfl
  ·exact absurd rfl h1
end Go.Proofs.YtalejfkholifpaaGreat
namespace Go.Proofs.YtalejfkholifpaaGreat
set_option linter.all false
open Go.RowKit
attribute [local simp] qaas qaar qaac qaag qaad qaaf qaap qaaq qaab qaa4 SOp.run SX.ev putd puts argS upds SOp.touch SSt.keep SSt.skip gets geth puth delh idOf SV.cells? setL qab7 qab8 sbin eq0 eq1 eqL qab5 qabh qabi qaa5 qaat qaae qaau qaa6 qaam qaan FrzOk qaba qaa0 qaa8 qaa9 qaav qaaz qabe qaa1 qaax qabb qaaw frzS frzH frz frz1 frz0 SlotsM ObjsM ObjM rn ren ren1 ren0 qabp qabs qabt qabo qabf qab1 qab0 CoL qabc qabw dels adds idsH qabq
theorem qae0 {S : XTab} {xs : List Int} : ∀ (f i : Nat), (qade S xs f i).2 = true → ∃ s : XSlot, S[(qade S xs f i).1]? = some (some s) ∧ s.keys = xs
 | 0, i, h => by cases h
 | f + 1, i, h => by
  cases hs : S[i]? with
  | none => rw [qade, hs] at h; cases h
  | some o =>
   cases o with
   | none => rw [qade, hs] at h; cases h
   | some s =>
    by_cases e : s.keys = xs
    ·rw [qade, hs]; simp only [if_pos e]; exact ⟨s, hs, e⟩
    ·rw [qade, hs] at h ⊢
     simp only [if_neg e] at h ⊢
     exact qae0 f _ h
def qajb (k : Int) (S : XTab) (xs : List Int) : Int := if (xs.length : Int) ≠ k then 2 else if (qacf S xs).2 = true then 0 else 9
def chgX (k : Int) (S : XTab) (s : XSlot) : XTab := if qajb k S s.keys = 0 then S.set (qacf S s.keys).1 (some s) else S
theorem xchg_s (k m : Int) (S : XTab) (hS : 0 < S.length ∧ S.length ≤ 1048576) (hsm : qaho S) (a : Int) (xs ys : List Int) (hx : xs.length ≤ 1000000) (hy : ys.length ≤ 1000000) (hf : ∃ e : Nat, S[e]? = some none) : SCalls Tryz.prog 85 [.ptr 0 0, nums .u64 xs, .agg (hitc a ys)] (xobj k m (cnt S) S) 2 (.int .i64 (qajb k S xs)) (xobj k m (cnt (chgX k S ⟨xs, a, ys⟩)) (chgX k S ⟨xs, a, ys⟩)) := by
 have k1 := fun q => qaq6 k m S hS hsm xs hx hf q
 have k3 := fun q => qbc7 a ys hy q
 have hv : qajb k S xs = if (xs.length : Int) ≠ k then 2 else if (qacf S xs).2 = true then 0 else 9 := rfl
 have hr : chgX k S ⟨xs, a, ys⟩ = if qajb k S xs = 0 then S.set (qacf S xs).1 (some ⟨xs, a, ys⟩) else S := rfl
 have hR : (qacf S xs).1 < S.length := qagq _ _ (Nat.mod_lt _ hS.1)
 have hT : (qacf S xs).2 = true → ∃ s : XSlot, S[(qacf S xs).1]? = some (some s) ∧ s.keys = xs := qae0 _ _
 rw [show qade S xs S.length (qaf1 S.length xs) = qacf S xs from rfl] at k1
 generalize qajb k S xs = V at hv hr ⊢
 generalize chgX k S ⟨xs, a, ys⟩ = S' at hr ⊢
 obtain ⟨R, b, hp⟩ : ∃ R b, qacf S xs = (R, b) := ⟨_, _, rfl⟩
 rw [hp] at k1 hv hr hR hT
 simp only at k1 hv hr hR hT
 obtain ⟨n, hn⟩ : ∃ n, n = cnt S := ⟨_, rfl⟩
 rw [← hn] at k1 ⊢
 replace hv := Lib.hid hv
 replace hr := Lib.hid hr
 replace hp := Lib.hid hp
 replace hn := Lib.hid hn
 replace hf := Lib.hid hf
 replace hsm := Lib.hid hsm
 unfold nums at k1
 unfold hitc nums at k3
 obtain ⟨H2, hH2⟩ : ∃ H, H = xobj k m (cnt S') S' := ⟨_, rfl⟩
 rw [← hH2]
 replace hH2 := Lib.hid hH2
 unfold xobj at k1 ⊢
 refine qaai (N := 33) Tryz.func85 rfl rfl (by kernel_rfl) qata (by simp) (by repeat' (first | exact trivial | refine And.intro ?_ ?_ | rfl | decide | exact PureR.ren _)) (by repeat' (first | exact trivial | refine And.intro ?_ ?_ | rfl | decide | exact PureR.ren _)) ?_
 rintro X hP hN hm
 unfold c_xchg hitc nums
 by_cases h1 : (xs.length : Int) = k
 ·subst h1
  cases b with
  | true =>
   obtain ⟨s, hs, hk⟩ := hT rfl
   clear hT
   replace hs := Lib.hid hs
   replace hk := Lib.hid hk
   repeat' (first | refine yA ?_ | with_reducible refine yB ?_ ?_ | ((with_reducible refine yC fun h => ?_); have h' := h; (try simp at h'); (try subst h')) | refine qab4 (k1 _) ⟨rfl, rfl, trivial⟩ ⟨rfl, rfl, trivial⟩ ?_ | refine qabr (k3 _) ?_ | exact trivial)
   have hV : V = 0 := by rw [hv.out, if_neg (by simp), if_pos rfl]
   have hS' : S' = S.set R (some ⟨xs, a, ys⟩) := by rw [hr.out, if_pos hV]
   have hs2 : S[R] = some s := by
    have := hs.out
    rw [List.getElem?_eq_getElem hR] at this; exact Option.some.inj this
   have hc : cnt S' = n := by
    have := qag1 S R (some ⟨xs, a, ys⟩) hR
    rw [hs2] at this
    rw [hS', hn.out]
    simpa using this
   refine qaev hm hV hH2.out rfl rfl (by rw [hc]) (by rw [hS', List.length_set]) rfl (by rw [hS', List.map_set, hs2, qabu, qabu]; show _ = (S.map xsc).set R [_, nums .u64 xs, _, _]; rw [← hk.out]; rfl)
  | false =>
   clear hT
   repeat' (first | refine yA ?_ | with_reducible refine yB ?_ ?_ | ((with_reducible refine yC fun h => ?_); have h' := h; (try simp at h'); (try subst h')) | refine qab4 (k1 _) ⟨rfl, rfl, trivial⟩ ⟨rfl, rfl, trivial⟩ ?_ | refine qabr (k3 _) ?_ | exact trivial)
   have hV : V = 9 := by rw [hv.out, if_neg (by simp), if_neg (by simp)]
   have hS' : S' = S := by rw [hr.out, if_neg (by rw [hV]; decide)]
   subst hS'
   exact qaev hm hV hH2.out rfl rfl (by rw [hn.out]) rfl rfl rfl
 ·clear hT
  repeat' (first | ((with_reducible first | refine qaao ?_ | refine qaak (by rw [hP]; exact mixed) ?_); (try rw [hP]); simp -implicitDefEqProofs [h1, *]) | ((with_reducible first | refine qaah ?_ | refine qaaj ?_); (try simp -implicitDefEqProofs [h1, *])) | ((with_reducible refine qaaa (fun h => ?_) (fun h => ?_)) <;> have h' := h <;> (try simp at h') <;> (try subst h') <;> simp -implicitDefEqProofs [h1, *]) | ((with_reducible refine qaal ?_ ?_); (first | omega | (unfold maxLen; omega)); simp -implicitDefEqProofs [h1, *]) | refine yA ?_ | with_reducible refine yB ?_ ?_ | ((with_reducible refine yC fun h => ?_); have h' := h; (try simp at h'); (try subst h')) | exact trivial)
  ·have hV : V = 2 := by rw [hv.out, if_pos h1]
   have hS' : S' = S := by rw [hr.out, if_neg (by rw [hV]; decide)]
   subst hS'
   exact qaev hm hV hH2.out rfl rfl (by rw [hn.out]) rfl rfl rfl
  ·exact absurd rfl h1
def qafp (k : Int) (S : XTab) (xs : List Int) : Option XSlot := if (xs.length : Int) ≠ k then none else if (qacf S xs).2 = true then S[(qacf S xs).1]?.getD none else none
def qas4 (o : Option XSlot) : SV := match o with
 | some s => .tup [.agg (hitc s.act s.args), .bool true]
 | none => .tup [.agg (hitc 0 []), .bool false]
theorem qaka {X : Cx} {sl : Sl} {hp : Hp} {t u nx id n : Nat} {h : Hp} {k m : Int} {c : Nat} {S : XTab} {ty : TypeId} {cs ds : List SV} {v r : SV} (hm : X.m = 2) (hid : 2 ≤ id) (hne : t ≠ u) (hv : gets sl t = v) (hN : NoN v) (hu : gets sl u = .ptr id 0) (hc : geth hp id = some (.cells ty cs)) (hh : h = xobj k m c S) (h0 : geth hp 0 = some (.cells 99 [.int .i64 k, .int .i64 m, .int .i64 c, .own 1 S.length])) (h1 : geth hp 1 = some (.row 141 4 (S.map xsc))) (ha : qahn X.P ty = some true) (hn : qab6 X.P ty = some n) (hl : ds.length = n) (e : CoL cs ds) (hr : r = .tup [.agg ds, v]) (hd : ∀ σ, ds.map (Go.Proofs.YtalejfkholifpaaGreat.ren σ) = ds) : QFun X [.cell u ty, .tmp t] 2 r h .ret ⟨sl, hp, nx⟩ := by
 subst hr hl hh
 have hw : Wk X ⟨sl, hp, nx⟩ ⟨[(u, .ptr 2 0), (t, v)], [(0, .cells 99 [.int .i64 k, .int .i64 m, .int .i64 c, .own 1 S.length]), (1, .row 141 4 (S.map xsc)), (2, .cells ty ds)], 3⟩ := by
  refine qabg [(2, id)] hm ⟨?_, ?_, trivial⟩ ⟨⟨_, h0, rfl, CoL.refl _⟩, ⟨_, h1, rfl, rfl, by rw [qaby]; exact CoLL.refl _⟩, ⟨_, hc, rfl, by rw [hd]; exact e⟩, trivial⟩ ?_ (by simp)
  ·rw [hu]; exact Co.refl _
  ·rw [hv, hN]; exact Co.refl _
  ·have a1 : ¬ (0 = id) := by omega
   have a2 : ¬ (1 = id) := by omega
   have a3 : ¬ (id = 0) := by omega
   have a4 : ¬ (id = 1) := by omega
   simp [qabq, diag, idsH, List.range_succ, a1, a2, a3, a4]
 refine ⟨_, hw, ?_, ⟨rfl, rfl, trivial⟩, by simp⟩
 simp [qage, resL, resV, one_, gets, ha, SOp.run, SX.ev, geth, hne, hne.symm, hn]
theorem xfind_s (k m : Int) (S : XTab) (hS : 0 < S.length ∧ S.length ≤ 1048576) (hsm : qaho S) (xs : List Int) (hx : xs.length ≤ 1000000) (hf : ∃ e : Nat, S[e]? = some none) : SCalls Tryz.prog 87 [.ptr 0 0, nums .u64 xs] (xobj k m (cnt S) S) 2 (qas4 (qafp k S xs)) (xobj k m (cnt S) S) := by
 have k1 := fun q => qaq6 k m S hS hsm xs hx hf q
 have hv : qafp k S xs = if (xs.length : Int) ≠ k then none else if (qacf S xs).2 = true then S[(qacf S xs).1]?.getD none else none := rfl
 have hR : (qacf S xs).1 < S.length := qagq _ _ (Nat.mod_lt _ hS.1)
 have hT : (qacf S xs).2 = true → ∃ s : XSlot, S[(qacf S xs).1]? = some (some s) ∧ s.keys = xs := qae0 _ _
 rw [show qade S xs S.length (qaf1 S.length xs) = qacf S xs from rfl] at k1
 generalize qafp k S xs = V at hv ⊢
 obtain ⟨R, b, hp⟩ : ∃ R b, qacf S xs = (R, b) := ⟨_, _, rfl⟩
 rw [hp] at k1 hv hR hT
 simp only at k1 hv hR hT
 obtain ⟨n, hn⟩ : ∃ n, n = cnt S := ⟨_, rfl⟩
 rw [← hn] at k1 ⊢
 obtain ⟨H2, hH2⟩ : ∃ H, H = xobj k m n S := ⟨_, rfl⟩
 obtain ⟨W, hW⟩ : ∃ W, W = qas4 V := ⟨_, rfl⟩
 rw [← hW]
 suffices h : SCalls Tryz.prog 87 [.ptr 0 0, nums .u64 xs] (xobj k m n S) 2 W H2 by rw [← hH2]; rw [← hH2] at h; exact h
 replace hW := Lib.hid hW
 replace hH2 := Lib.hid hH2
 replace hv := Lib.hid hv
 replace hp := Lib.hid hp
 replace hn := Lib.hid hn
 replace hf := Lib.hid hf
 have hsm' := hsm
 replace hsm := Lib.hid hsm
 unfold nums at k1
 unfold xobj at k1 ⊢
 refine qaai (N := 34) Tryz.func87 rfl rfl (by kernel_rfl) qapq (by simp) (by repeat' (first | exact trivial | refine And.intro ?_ ?_ | rfl | decide | exact PureR.ren _)) (by repeat' (first | exact trivial | refine And.intro ?_ ?_ | rfl | decide | exact PureR.ren _)) ?_
 rintro X hP hN hm
 unfold c_xfind nums
 by_cases h1 : (xs.length : Int) = k
 ·subst h1
  cases b with
  | true =>
   obtain ⟨s, hs, hk⟩ := hT rfl
   have k3 := fun q => qbc7 s.act s.args (hsm' R s hs).2 q
   unfold hitc nums at k3
   clear hT hsm'
   have hs2 : S[R] = some s := by
    rw [List.getElem?_eq_getElem hR] at hs; exact Option.some.inj hs
   replace hs := Lib.hid hs
   replace hk := Lib.hid hk
   repeat' (first | ((with_reducible first | refine qaao ?_ | refine qaak (by rw [hP]; exact mixed) ?_); (try rw [hP]); simp -implicitDefEqProofs [hs2, qabu, nums, *]) | ((with_reducible first | refine qaah ?_ | refine qaaj ?_); (try simp -implicitDefEqProofs [hs2, qabu, nums, *])) | ((with_reducible refine qaaa (fun h => ?_) (fun h => ?_)) <;> have h' := h <;> (try simp at h') <;> (try subst h') <;> simp -implicitDefEqProofs [hs2, qabu, nums, *]) | ((with_reducible refine qaal ?_ ?_); (first | omega | (unfold maxLen; omega)); simp -implicitDefEqProofs [hs2, qabu, nums, *]) | refine yA ?_ | with_reducible refine yB ?_ ?_ | ((with_reducible refine yC fun h => ?_); have h' := h; (try simp at h'); (try subst h')) | (refine qab4 (k1 _) ⟨rfl, rfl, trivial⟩ ⟨rfl, rfl, trivial⟩ ?_; simp -implicitDefEqProofs [hs2, qabu, nums, *]) | (refine qabr (k3 _) ?_; simp -implicitDefEqProofs [hs2, qabu, nums, *]) | exact trivial)
   have hV : V = some s := by rw [hv.out, if_neg (by simp), if_pos rfl, hs.out]; rfl
   exact qaka (ds := hitc s.act s.args) hm (Nat.le_refl 2) (by decide) rfl (fun σ => rfl) rfl rfl hH2.out rfl rfl (by rw [hP]; with_reducible exact qae7) (by rw [hP]; exact qaef) rfl (CoL.refl _) (by rw [hW.out, hV]; rfl) (fun σ => rfl)
  | false =>
   clear hT hsm'
   repeat' (first | refine yA ?_ | with_reducible refine yB ?_ ?_ | ((with_reducible refine yC fun h => ?_); have h' := h; (try simp at h'); (try subst h')) | refine qab4 (k1 _) ⟨rfl, rfl, trivial⟩ ⟨rfl, rfl, trivial⟩ ?_ | exact trivial)
   have hV : V = none := by rw [hv.out, if_neg (by simp), if_neg (by simp)]
   exact qaka (ds := hitc 0 []) hm (Nat.le_refl 2) (by decide) rfl (fun σ => rfl) rfl rfl hH2.out rfl rfl (by rw [hP]; with_reducible exact qae7) (by rw [hP]; exact qaef) rfl ⟨Co.refl _, Co.nilsl _, trivial⟩ (by rw [hW.out, hV]; rfl) (fun σ => rfl)
 ·clear hT hsm'
  repeat' (first | ((with_reducible first | refine qaao ?_ | refine qaak (by rw [hP]; exact mixed) ?_); (try rw [hP]); simp -implicitDefEqProofs [h1, *]) | ((with_reducible first | refine qaah ?_ | refine qaaj ?_); (try simp -implicitDefEqProofs [h1, *])) | ((with_reducible refine qaaa (fun h => ?_) (fun h => ?_)) <;> have h' := h <;> (try simp at h') <;> (try subst h') <;> simp -implicitDefEqProofs [h1, *]) | ((with_reducible refine qaal ?_ ?_); (first | omega | (unfold maxLen; omega)); simp -implicitDefEqProofs [h1, *]) | refine yA ?_ | with_reducible refine yB ?_ ?_ | ((with_reducible refine yC fun h => ?_); have h' := h; (try simp at h'); (try subst h')) | exact trivial)
  ·have hV : V = none := by rw [hv.out, if_pos h1]
   exact qaka (ds := hitc 0 []) hm (Nat.le_refl 2) (by decide) rfl (fun σ => rfl) rfl rfl hH2.out rfl rfl (by rw [hP]; with_reducible exact qae7) (by rw [hP]; exact qaef) rfl ⟨Co.refl _, Co.nilsl _, trivial⟩ (by rw [hW.out, hV]; rfl) (fun σ => rfl)
  ·exact absurd rfl h1
end Go.Proofs.YtalejfkholifpaaGreat
namespace Go.Proofs.YtalejfkholifpaaGreat
set_option linter.all false
open Go.RowKit
attribute [local simp] qaas qaar qaac qaag qaad qaaf qaap qaaq qaab qaa4 SOp.run SX.ev putd puts argS upds SOp.touch SSt.keep SSt.skip gets geth puth delh idOf SV.cells? setL qab7 qab8 sbin eq0 eq1 eqL qab5 qabh qabi qaa5 qaat qaae qaau qaa6 qaam qaan FrzOk qaba qaa0 qaa8 qaa9 qaav qaaz qabe qaa1 qaax qabb qaaw frzS frzH frz frz1 frz0 SlotsM ObjsM ObjM rn ren ren1 ren0 qabp qabs qabt qabo qabf qab1 qab0 CoL qabc qabw dels adds idsH qabq
theorem qaqs {N a b : Nat} (ha : a < N) (hb : b < N) : Int.tmod ((b : Int) - a + N) N = (dist N a b : Nat) := by
 rw [Int.tmod_eq_emod_of_nonneg (by omega)]
 unfold dist
 split
 ·rw [show (b : Int) - a + N = ((b - a : Nat) : Int) + N * 1 by omega, Int.add_mul_emod_self_left, Int.emod_eq_of_lt (by omega) (by omega)]
 ·rw [Int.emod_eq_of_lt (by omega) (by omega)]; omega
theorem qa4w {N a : Nat} (ha : a < N) : Int.tmod ((a : Int) + 1) N = (addm N a 1 : Nat) := by
 rw [Int.tmod_eq_emod_of_nonneg (by omega), ← qa4l ha (by omega)]; rfl
theorem qa6g {N a i g : Nat} (ha : a < N) (hi : i < N) (hne : a ≠ i) (h : dist N a i < g + 1) : dist N (addm N a 1) i < g := by
 unfold dist addm at *
 (repeat' split at h) <;> (repeat' split) <;> omega
theorem qbcs {hm : List Int → Nat} {S : XTab} (h : qa4n hm S) {R : Nat} {s : XSlot} (hR : S[R]? = some (some s)) : HInv hm S R := by
 have hl := qaco hR
 refine ⟨h.lt, fun j t _ ht d hd => ?_, fun j k t u _ _ ht hu he => h.uniq j k t u (by have := qaco ht; omega) (by have := qaco hu; omega) ht hu he, ?_⟩
 ·rcases h.path j t (by have := qaco ht; omega) ht d hd with e | e
  ·have := qafs (h.lt t.keys) (show d ≤ S.length by have := qaco ht; have := h.lt t.keys; unfold dist at hd; split at hd <;> omega)
   omega
  ·exact .inr e
 ·obtain ⟨e, -, he⟩ := h.free
  exact ⟨e, fun e1 => (by rw [e1, hR] at he; cases he), he⟩
theorem qawp {hm : List Int → Nat} {S : XTab} {i f k : Nat} (h : S[addm S.length k 1]? = some none) : qan6 hm S i (f + 1) k = none := by rw [qan6, h]
theorem qawo {hm : List Int → Nat} {S : XTab} {i f k : Nat} {s : XSlot} (h : S[addm S.length k 1]? = some (some s)) : qan6 hm S i (f + 1) k = if dist S.length i (addm S.length k 1) ≤ dist S.length (hm s.keys) (addm S.length k 1) then some (addm S.length k 1) else qan6 hm S i f (addm S.length k 1) := by rw [qan6, h]
theorem qa6d {hm : List Int → Nat} {f : Nat} {S : XTab} {i : Nat} (h : HInv hm S i) (hi : i < S.length) (hfr : ∃ e : Nat, e ≠ i ∧ S[e]? = some none ∧ dist S.length i e ≤ f + 1) {k : Nat} (hk : qan6 hm (S.set i none) i S.length i = some k) : ∃ s, S[k]? = some (some s) ∧ k ≠ i ∧ HInv hm ((S.set i none).set i (some s)) k ∧ ∃ e : Nat, e ≠ k ∧ ((S.set i none).set i (some s))[e]? = some none ∧ dist S.length k e ≤ f := by
 obtain ⟨e0, he0, h10, h20⟩ := hfr
 have hS := qax1 h none
 have hl : (S.set i none).length = S.length := List.length_set ..
 have hi' : i < (S.set i none).length := by rw [hl]; exact hi
 obtain ⟨e, he, h1, h4⟩ := qbcj hi' hS.free
 have g1 : ∀ j, j ≠ i → (S.set i none)[j]? = S[j]? := fun j hj => by rw [qacd hi, if_neg hj]
 have d0 : dist (S.set i none).length i i = 0 := by unfold dist; simp
 have hel := qaco h1
 have hpos : 0 < dist (S.set i none).length i e := by unfold dist; split <;> omega
 have hlt := qag0 hi' hel
 rcases qakh hS hi' he h1 h4 S.length i hi' (by omega) (by omega) (fun d h5 h6 => by omega) with ⟨k2, s, q1, q2, q3, q4, q5⟩ | ⟨q1, q2⟩
 ·rw [hk] at q1
  obtain rfl := Option.some.inj q1
  have hks : S[k]? = some (some s) := by rw [← g1 k q2]; exact q3
  have hm2 := qari hS hi' q2 q3 q4
  have hkl := qaco hks
  have hke0 : dist S.length i k < dist S.length i e0 := by
   rcases Nat.lt_or_ge (dist S.length i k) (dist S.length i e0) with h9 | h9
   ·exact h9
   ·exfalso
    rw [hl] at q5
    have hp0 : 0 < dist S.length i e0 := by have := qaco h10; unfold dist; split <;> omega
    have hne : dist S.length i e0 ≠ dist S.length i k := fun e1 => by
     have a1 := qad4 hi (qaco h10)
     have a2 := qad4 hi hkl
     rw [e1, a2] at a1
     rw [← a1, hks] at h10; cases h10
    obtain ⟨t, ht⟩ := h4 (dist S.length i e0) hp0 (by rw [hl]; omega)
    rw [hl, qad4 hi (qaco h10), g1 e0 he0, h10] at ht
    cases ht
  refine ⟨s, hks, q2, hm2, e0, (fun e1 => (by rw [e1, hks] at h10; cases h10)), ?_, ?_⟩
  ·rw [List.getElem?_set, if_neg (Ne.symm he0), g1 e0 he0]; exact h10
  ·have := qaco h10
   unfold dist at hke0 h20 ⊢
   (repeat' split at *) <;> (repeat' split) <;> omega
 ·rw [hk] at q1; cases q1
theorem qayj {hm : List Int → Nat} {f : Nat} {S : XTab} {i : Nat} (h : qan6 hm (S.set i none) i S.length i = none) : qajg hm (f + 1) S i = S.set i none := by rw [qajg, h]
theorem qayi {hm : List Int → Nat} {f : Nat} {S : XTab} {i k : Nat} {s : XSlot} (h : qan6 hm (S.set i none) i S.length i = some k) (hk : S[k]? = some (some s)) : qajg hm (f + 1) S i = qajg hm f ((S.set i none).set i (some s)) k := by rw [qajg, h]; simp only [hk, Option.getD_some]
def drpX (k : Int) (S : XTab) (xs : List Int) : XTab := if qajb k S xs = 0 then qajg (qaf1 S.length) S.length S (qacf S xs).1 else S
theorem qahz {S : XTab} (h : qaho S) {i : Nat} (hi : i < S.length) (o : Option XSlot) (ho : ∀ s, o = some s → s.keys.length ≤ 1000000 ∧ s.args.length ≤ 1000000) : qaho (S.set i o) := fun j s hs => by
 rw [qacd hi] at hs
 split at hs
 ·exact ho s (Option.some.inj hs)
 ·exact h j s hs
set_option maxHeartbeats 1000000 in
theorem xdrop_s (k m : Int) (S : XTab) (hS : 0 < S.length ∧ S.length ≤ 1048576) (hsm : qaho S) (xs : List Int) (hx : xs.length ≤ 1000000) (hI : qa4n (qaf1 S.length) S) : SCalls Tryz.prog 86 [.ptr 0 0, nums .u64 xs] (xobj k m (cnt S) S) 2 (.int .i64 (qajb k S xs)) (xobj k m (cnt (drpX k S xs)) (drpX k S xs)) := by
 have hf : ∃ e : Nat, S[e]? = some none := let ⟨e, _, h⟩ := hI.free; ⟨e, h⟩
 have k1 := fun q => qaq6 k m S hS hsm xs hx hf q
 have hv : qajb k S xs = if (xs.length : Int) ≠ k then 2 else if (qacf S xs).2 = true then 0 else 9 := rfl
 have hr : drpX k S xs = if qajb k S xs = 0 then qajg (qaf1 S.length) S.length S (qacf S xs).1 else S := rfl
 have hR : (qacf S xs).1 < S.length := qagq _ _ (Nat.mod_lt _ hS.1)
 have hT : (qacf S xs).2 = true → ∃ s : XSlot, S[(qacf S xs).1]? = some (some s) ∧ s.keys = xs := qae0 _ _
 rw [show qade S xs S.length (qaf1 S.length xs) = qacf S xs from rfl] at k1
 generalize qajb k S xs = V at hv hr ⊢
 generalize drpX k S xs = S' at hr ⊢
 obtain ⟨R, b, hp⟩ : ∃ R b, qacf S xs = (R, b) := ⟨_, _, rfl⟩
 rw [hp] at k1 hv hr hR hT
 simp only at k1 hv hr hR hT
 obtain ⟨n, hn⟩ : ∃ n, n = cnt S := ⟨_, rfl⟩
 rw [← hn] at k1 ⊢
 have hnl : n ≤ S.length := by rw [hn]; exact List.countP_le_length
 replace hv := Lib.hid hv
 replace hr := Lib.hid hr
 replace hp := Lib.hid hp
 replace hn := Lib.hid hn
 replace hf := Lib.hid hf
 replace hI := Lib.hid hI
 replace hsm := Lib.hid hsm
 unfold nums at k1
 obtain ⟨H2, hH2⟩ : ∃ H, H = xobj k m (cnt S') S' := ⟨_, rfl⟩
 rw [← hH2]
 replace hH2 := Lib.hid hH2
 unfold xobj at k1 ⊢
 refine qaai (N := 111) Tryz.func86 rfl rfl (by kernel_rfl) qapr (by simp) (by repeat' (first | exact trivial | refine And.intro ?_ ?_ | rfl | decide | exact PureR.ren _)) (by repeat' (first | exact trivial | refine And.intro ?_ ?_ | rfl | decide | exact PureR.ren _)) ?_
 rintro X hP hN hm
 unfold c_xdrop nums
 by_cases h1 : (xs.length : Int) = k
 ·subst h1
  cases b with
  | true =>
   obtain ⟨s, hs, hk⟩ := hT rfl
   clear hT
   have hV : V = 0 := by rw [hv.out, if_neg (by simp), if_pos rfl]
   have hS' : S' = qajg (qaf1 S.length) S.length S R := by rw [hr.out, if_pos hV]
   subst hV
   have hi0 := qbcs hI.out hs
   have hfr : ∃ e : Nat, e ≠ R ∧ S[e]? = some none ∧ dist S.length R e ≤ S.length := by
    obtain ⟨e, h1, h2⟩ := hi0.free
    exact ⟨e, h1, h2, Nat.le_of_lt (qag0 hR (qaco h2))⟩
   have hds := qak5 S.length S R hi0 hR hfr
   rw [← hS'] at hds
   have hcn : cnt S' + 1 = n := by
    have := qag1 S R none hR
    rw [hds.2.2.2, hn.out]
    have hs2 : S[R] = some s := by rw [List.getElem?_eq_getElem hR] at hs; exact Option.some.inj hs
    rw [hs2] at this
    simpa using this
   have hlS' : S'.length = S.length := hds.2.1
   clear hds
   obtain ⟨c, hc⟩ : ∃ c, cnt S' = c := ⟨_, rfl⟩
   rw [hc] at hcn
   subst hcn
   have w1 : IntKind.i64.wrap (c : Int) = (c : Int) := IntWalk.i64_in _ ⟨by omega, by omega⟩
   replace hs := Lib.hid hs
   replace hk := Lib.hid hk
   replace hc := Lib.hid hc
   replace hlS' := Lib.hid hlS'
   replace hS' := Lib.hid hS'
   replace hfr := Lib.hid hfr
   replace hi0 := Lib.hid hi0
   repeat' (first | ((with_reducible first | refine qaao ?_ | refine qaak (by rw [hP]; exact mixed) ?_); (try rw [hP]); simp -implicitDefEqProofs [w1, *]) | ((with_reducible first | refine qaah ?_ | refine qaaj ?_); (try simp -implicitDefEqProofs [w1, *])) | ((with_reducible refine qaaa (fun h => ?_) (fun h => ?_)) <;> have h' := h <;> (try simp at h') <;> (try subst h') <;> simp -implicitDefEqProofs [w1, *]) | ((with_reducible refine qaal ?_ ?_); (first | omega | (unfold maxLen; omega)); simp -implicitDefEqProofs [w1, *]) | refine yA ?_ | with_reducible refine yB ?_ ?_ | ((with_reducible refine yC fun h => ?_); have h' := h; (try simp at h'); (try subst h')) | (refine qab4 (k1 _) ⟨rfl, rfl, trivial⟩ ⟨rfl, rfl, trivial⟩ ?_; simp -implicitDefEqProofs [w1, *]) | exact trivial)
   replace hS' := hS'.out
   replace hfr := hfr.out
   replace hi0 := hi0.out
   replace hsm := hsm.out
   clear hI hf hs hk hn hv hr hp k1 hlS'
   obtain ⟨N, hNl⟩ : ∃ N, N = S.length := ⟨_, rfl⟩
   rw [← hNl] at hS' hi0 hR hS hfr ⊢
   have hSl : S.length = N := hNl.symm
   clear hNl hnl
   refine qabj (qacp (fun s (z : XTab × Nat × Nat) => s.turn [(5, .int .i64 z.2.1)] [(1, .row 141 4 (z.1.map xsc))]) (fun z => z.1.length = N ∧ z.2.1 < N ∧ qaho z.1 ∧ HInv (qaf1 N) z.1 z.2.1 ∧ S' = qajg (qaf1 N) z.2.2 z.1 z.2.1 ∧ ∃ e : Nat, e ≠ z.2.1 ∧ z.1[e]? = some none ∧ dist N z.2.1 e ≤ z.2.2) (fun z => z.2.2) (S, R, N) ?_ ⟨hSl, hR, hsm, hi0, hS', hfr⟩ ?_)
   ·repeat' (first | exact yD | refine yE ?_ | with_reducible refine yB ?_ ?_ | exact trivial)
   rintro J hJ ⟨T, i, f⟩ ⟨g1, g2, g3, g4, g5, g6⟩
   unfold qamw
   simp only [zT, puth, Nat.reduceEqDiff, reduceIte, Nat.reduceAdd] at g1 g2 g3 g4 g5 g6 ⊢
   clear hS' hi0 hsm hfr hSl hR
   obtain ⟨f, rfl⟩ : ∃ g, f = g + 1 := ⟨f - 1, by
    obtain ⟨e, e1, e2, e3⟩ := g6
    have := qaco e2
    unfold dist at e3
    split at e3 <;> omega⟩
   have hTi : T[i]? = some T[i] := List.getElem?_eq_getElem (by omega)
   obtain ⟨T1, hT1⟩ : ∃ T1, T1 = T.set i none := ⟨_, rfl⟩
   have hset : (T.map xsc).set i (((((xsc T[i]).set 0 (.bool false)).set 1 .nilsl).set 2 (.int .i64 0)).set 3 .nilsl) = T1.map xsc := by rw [qawl (qbbk _), hT1, List.map_set]; rfl
   have hl1 : T1.length = N := by rw [hT1, List.length_set, g1]
   have h1i : T1[i]? = some none := by rw [hT1, qacd (by omega), if_pos rfl]
   have hsm1 : qaho T1 := by rw [hT1]; exact qahz g3 (by omega) none (fun s h => by cases h)
   obtain ⟨G, hG⟩ : ∃ G, G = qan6 (qaf1 N) T1 i N i := ⟨_, rfl⟩
   have hsc : qan6 (qaf1 N) (T.set i none) i T.length i = G := by rw [hG, hT1, g1]
   have hstep := fun p (e : G = some p) => qa6d g4 (by omega) (by rw [g1]; exact g6) (k := p) (by rw [hsc]; exact e)
   have hend : G = none → S' = T1 := fun e => by rw [g5, qayj (by rw [hsc]; exact e), hT1]
   have hgo : ∀ p s, G = some p → T[p]? = some (some s) → S' = qajg (qaf1 N) f (T1.set i (some s)) p := fun p s e h => by rw [g5, qayi (by rw [hsc]; exact e) h, hT1]
   rw [← hT1] at hstep
   replace g3 := Lib.hid g3
   replace g4 := Lib.hid g4
   replace g5 := Lib.hid g5
   replace g6 := Lib.hid g6
   replace hG := Lib.hid hG
   replace hsc := Lib.hid hsc
   replace hT1 := Lib.hid hT1
   replace hstep := Lib.hid hstep
   replace hend := Lib.hid hend
   replace hgo := Lib.hid hgo
   replace hsm1 := Lib.hid hsm1
   replace h1i := Lib.hid h1i
   repeat' (first | ((with_reducible first | refine qaao ?_ | refine qaak (by rw [hP]; exact mixed) ?_); (try rw [hP]); simp -implicitDefEqProofs [g1, hset, hTi, *]) | ((with_reducible first | refine qaah ?_ | refine qaaj ?_); (try simp -implicitDefEqProofs [g1, hset, hTi, *])) | ((with_reducible refine qaaa (fun h => ?_) (fun h => ?_)) <;> have h' := h <;> (try simp at h') <;> (try subst h') <;> simp -implicitDefEqProofs [g1, hset, hTi, *]) | ((with_reducible refine qaal ?_ ?_); (first | omega | (unfold maxLen; omega)); simp -implicitDefEqProofs [g1, hset, hTi, *]) | refine yA ?_ | with_reducible refine yB ?_ ?_ | ((with_reducible refine yC fun h => ?_); have h' := h; (try simp at h'); (try subst h')) | exact trivial)
   have hJo := hJ
   have hb0 : dist N (addm N i 1) i < N := qag0 (qafs g2 (by omega)) g2
   replace hb0 := Lib.hid hb0
   refine qabj (qacp (fun s (z : Nat × Nat) => s.turn [(7, .int .i64 z.1)] []) (fun z => z.1 < N ∧ G = qan6 (qaf1 N) T1 i z.2 z.1 ∧ dist N (addm N z.1 1) i < z.2) (fun z => z.2) (i, N) ?_ ⟨g2, hG.out, hb0.out⟩ ?_)
   ·repeat' (first | exact yD | refine yE ?_ | with_reducible refine yB ?_ ?_ | exact trivial)
   rintro J hJ ⟨j, g⟩ ⟨a1, a2, a3⟩
   unfold qamx
   simp only [zT, puth, Nat.reduceEqDiff, reduceIte, Nat.reduceAdd] at a1 a2 a3 ⊢
   obtain ⟨g, rfl⟩ : ∃ h, g = h + 1 := ⟨g - 1, by omega⟩
   obtain ⟨p, hp⟩ : ∃ p, p = addm N j 1 := ⟨_, rfl⟩
   have hpl : p < N := by rw [hp]; exact qafs a1 (by omega)
   have wj : IntKind.i64.wrap ((j : Int) + 1) = (j : Int) + 1 := qabz (by omega) (by omega)
   have tj : Int.tmod ((j : Int) + 1) (N : Int) = (p : Int) := by rw [qa4w a1, ← hp]
   have hN0 : ¬ N = 0 := by omega
   have hpl1 : p < T1.length := by omega
   rcases hq : T1[p] with _ | s
   ·have hq' : T1[p]? = some none := by rw [List.getElem?_eq_getElem hpl1, hq]
    have hGn : G = none := by rw [a2, qawp (by rw [hl1, ← hp]; exact hq')]
    have hS1 : S' = T1 := hend.out hGn
    clear a2 a3 hp
    subst hS1
    repeat' (first | ((with_reducible first | refine qaao ?_ | refine qaak (by rw [hP]; exact mixed) ?_); (try rw [hP]); simp -implicitDefEqProofs [wj, tj, hN0, hl1, hq', qac3, *]) | ((with_reducible first | refine qaah ?_ | refine qaaj ?_); (try simp -implicitDefEqProofs [wj, tj, hN0, hl1, hq', qac3, *])) | ((with_reducible refine qaaa (fun h => ?_) (fun h => ?_)) <;> have h' := h <;> (try simp at h') <;> (try subst h') <;> simp -implicitDefEqProofs [wj, tj, hN0, hl1, hq', qac3, *]) | ((with_reducible refine qaal ?_ ?_); (first | omega | (unfold maxLen; omega)); simp -implicitDefEqProofs [wj, tj, hN0, hl1, hq', qac3, *]) | refine yA ?_ | with_reducible refine yB ?_ ?_ | ((with_reducible refine yC fun h => ?_); have h' := h; (try simp at h'); (try subst h')) | exact trivial)
    exact qaev hm rfl hH2.out rfl rfl (by rw [hc.out]) hl1.symm rfl rfl
   ·have hq' : T1[p]? = some (some s) := by rw [List.getElem?_eq_getElem hpl1, hq]
    obtain ⟨hh, hhh⟩ : ∃ hh, hh = qaf1 N s.keys := ⟨_, rfl⟩
    have hhl : hh < N := by rw [hhh]; exact Nat.mod_lt _ (by omega)
    rw [qawo (by rw [hl1, ← hp]; exact hq'), hl1, ← hp, ← hhh] at a2
    have k2 := fun q => home_o (xs.length : Int) m c T1 (by rw [hl1]; exact hS) s.keys (hsm1.out p s hq').1 q
    rw [hl1, ← hhh] at k2
    unfold nums xobj at k2
    rw [hl1] at k2
    have w2 : IntKind.i64.wrap ((p : Int) - hh) = (p : Int) - hh := IntWalk.i64_in _ ⟨by omega, by omega⟩
    have w3 : IntKind.i64.wrap ((p : Int) - hh + N) = (p : Int) - hh + N := IntWalk.i64_in _ ⟨by omega, by omega⟩
    have w4 : IntKind.i64.wrap ((p : Int) - i) = (p : Int) - i := IntWalk.i64_in _ ⟨by omega, by omega⟩
    have w5 : IntKind.i64.wrap ((p : Int) - i + N) = (p : Int) - i + N := IntWalk.i64_in _ ⟨by omega, by omega⟩
    have t2 := qaqs hhl hpl
    have t3 := qaqs g2 hpl
    have hpi : p ≠ i := fun e => by rw [e, h1i.out] at hq'; cases hq'
    have hd : dist N (addm N p 1) i < g := by
     rw [← hp] at a3
     exact qa6g hpl g2 hpi a3
    generalize dist N hh p = d1 at a2 t2
    generalize dist N i p = d2 at a2 t3
    have hq2 := hq'
    clear a3
    replace hp := Lib.hid hp
    replace hhh := Lib.hid hhh
    replace hd := Lib.hid hd
    by_cases hc2 : d2 ≤ d1
    ·rw [if_pos hc2] at a2
     obtain ⟨s2, b1, b2, b3, b4⟩ := hstep.out p a2
     have b5 : s2 = s := by
      have := hq'
      rw [hT1.out, qacd (by omega), if_neg hpi, b1] at this
      exact Option.some.inj (Option.some.inj this)
     subst b5
     have hS2 := hgo.out p s2 a2 b1
     obtain ⟨T2, hT2⟩ : ∃ T2, T2 = T1.set i (some s2) := ⟨_, rfl⟩
     have hset2 : (T1.map xsc).set i [.bool true, .view 1 (s2.keys.map fun x => [.int .u64 x]), .int .i64 s2.act, .view 1 (s2.args.map fun x => [.int .u64 x])] = T2.map xsc := by rw [hT2, List.map_set]; rfl
     have hl2 : T2.length = N := by rw [hT2, List.length_set, hl1]
     have hsm2 : qaho T2 := by rw [hT2]; exact qahz hsm1.out (by omega) _ (fun s h => by cases h; exact hsm1.out p _ hq')
     rw [← hT2] at b3 b4 hS2
     have hi1 : T1[i]'(by omega) = none := by
      have := h1i.out
      rw [List.getElem?_eq_getElem (by omega)] at this; exact Option.some.inj this
     rw [g1] at b4
     replace hT2 := Lib.hid hT2
     replace hS2 := Lib.hid hS2
     replace b1 := Lib.hid b1
     replace b3 := Lib.hid b3
     replace b4 := Lib.hid b4
     replace a2 := Lib.hid a2
     replace hsm2 := Lib.hid hsm2
     repeat' (first | ((with_reducible first | refine qaao ?_ | refine qaak (by rw [hP]; exact mixed) ?_); (try rw [hP]); simp -implicitDefEqProofs [wj, tj, hN0, hl1, hq, hq2, qabu, qac3, hi1, nums, w2, w3, w4, w5, t2, t3, hset2, *]) | ((with_reducible first | refine qaah ?_ | refine qaaj ?_); (try simp -implicitDefEqProofs [wj, tj, hN0, hl1, hq, hq2, qabu, qac3, hi1, nums, w2, w3, w4, w5, t2, t3, hset2, *])) | ((with_reducible refine qaaa (fun h => ?_) (fun h => ?_)) <;> have h' := h <;> (try simp at h') <;> (try subst h') <;> simp -implicitDefEqProofs [wj, tj, hN0, hl1, hq, hq2, qabu, qac3, hi1, nums, w2, w3, w4, w5, t2, t3, hset2, *]) | ((with_reducible refine qaal ?_ ?_); (first | omega | (unfold maxLen; omega)); simp -implicitDefEqProofs [wj, tj, hN0, hl1, hq, hq2, qabu, qac3, hi1, nums, w2, w3, w4, w5, t2, t3, hset2, *]) | refine yA ?_ | with_reducible refine yB ?_ ?_ | ((with_reducible refine yC fun h => ?_); have h' := h; (try simp at h'); (try subst h')) | (refine qab4 (k2 _) ⟨rfl, rfl, trivial⟩ ⟨rfl, rfl, trivial⟩ ?_; simp -implicitDefEqProofs [wj, tj, hN0, hl1, hq, hq2, qabu, qac3, hi1, nums, w2, w3, w4, w5, t2, t3, hset2, *]) | exact yD | refine yE ?_ | ((refine qabn hJo ((T2, p, f)) ?_ ?_ ?_; (with_reducible refine qabg [] hm ?_ ?_ ?_ ?_) <;> (try simp only [zT, puth, Nat.reduceEqDiff, reduceIte, Nat.reduceAdd]))) | exact trivial)
     all_goals exact ⟨hl2, hpl, hsm2.out, b3.out, hS2.out, b4.out⟩
    ·rw [if_neg hc2] at a2
     replace a2 := Lib.hid a2
     repeat' (first | ((with_reducible first | refine qaao ?_ | refine qaak (by rw [hP]; exact mixed) ?_); (try rw [hP]); simp -implicitDefEqProofs [wj, tj, hN0, hl1, hq, hq2, qabu, nums, w2, w3, w4, w5, t2, t3, *]) | ((with_reducible first | refine qaah ?_ | refine qaaj ?_); (try simp -implicitDefEqProofs [wj, tj, hN0, hl1, hq, hq2, qabu, nums, w2, w3, w4, w5, t2, t3, *])) | ((with_reducible refine qaaa (fun h => ?_) (fun h => ?_)) <;> have h' := h <;> (try simp at h') <;> (try subst h') <;> simp -implicitDefEqProofs [wj, tj, hN0, hl1, hq, hq2, qabu, nums, w2, w3, w4, w5, t2, t3, *]) | ((with_reducible refine qaal ?_ ?_); (first | omega | (unfold maxLen; omega)); simp -implicitDefEqProofs [wj, tj, hN0, hl1, hq, hq2, qabu, nums, w2, w3, w4, w5, t2, t3, *]) | refine yA ?_ | with_reducible refine yB ?_ ?_ | ((with_reducible refine yC fun h => ?_); have h' := h; (try simp at h'); (try subst h')) | (refine qab4 (k2 _) ⟨rfl, rfl, trivial⟩ ⟨rfl, rfl, trivial⟩ ?_; simp -implicitDefEqProofs [wj, tj, hN0, hl1, hq, hq2, qabu, nums, w2, w3, w4, w5, t2, t3, *]) | exact yD | refine yE ?_ | ((refine qabn hJ ((p, g)) ?_ ?_ ?_; (with_reducible refine qabg [] hm ?_ ?_ ?_ ?_) <;> (try simp only [zT, puth, Nat.reduceEqDiff, reduceIte, Nat.reduceAdd]))) | exact trivial)
     all_goals exact ⟨hpl, a2.out, hd.out⟩
  | false =>
   clear hT
   repeat' (first | refine yA ?_ | with_reducible refine yB ?_ ?_ | ((with_reducible refine yC fun h => ?_); have h' := h; (try simp at h'); (try subst h')) | refine qab4 (k1 _) ⟨rfl, rfl, trivial⟩ ⟨rfl, rfl, trivial⟩ ?_ | exact trivial)
   have hV : V = 9 := by rw [hv.out, if_neg (by simp), if_neg (by simp)]
   have hS' : S' = S := by rw [hr.out, if_neg (by rw [hV]; decide)]
   subst hS'
   exact qaev hm hV hH2.out rfl rfl (by rw [hn.out]) rfl rfl rfl
 ·clear hT
  repeat' (first | ((with_reducible first | refine qaao ?_ | refine qaak (by rw [hP]; exact mixed) ?_); (try rw [hP]); simp -implicitDefEqProofs [h1, *]) | ((with_reducible first | refine qaah ?_ | refine qaaj ?_); (try simp -implicitDefEqProofs [h1, *])) | ((with_reducible refine qaaa (fun h => ?_) (fun h => ?_)) <;> have h' := h <;> (try simp at h') <;> (try subst h') <;> simp -implicitDefEqProofs [h1, *]) | ((with_reducible refine qaal ?_ ?_); (first | omega | (unfold maxLen; omega)); simp -implicitDefEqProofs [h1, *]) | refine yA ?_ | with_reducible refine yB ?_ ?_ | ((with_reducible refine yC fun h => ?_); have h' := h; (try simp at h'); (try subst h')) | exact trivial)
  ·have hV : V = 2 := by rw [hv.out, if_pos h1]
   have hS' : S' = S := by rw [hr.out, if_neg (by rw [hV]; decide)]
   subst hS'
   exact qaev hm hV hH2.out rfl rfl (by rw [hn.out]) rfl rfl rfl
  ·exact absurd rfl h1
end Go.Proofs.YtalejfkholifpaaGreat
namespace Go.Proofs.YtalejfkholifpaaGreat
set_option linter.all false
open Go.RowKit
attribute [local simp] qaas qaar qaac qaag qaad qaaf qaap qaaq qaab qaa4 SOp.run SX.ev putd puts argS upds SOp.touch SSt.keep SSt.skip gets geth puth delh idOf SV.cells? setL qab7 qab8 sbin eq0 eq1 eqL qab5 qabh qabi qaa5 qaat qaae qaau qaa6 qaam qaan FrzOk qaba qaa0 qaa8 qaa9 qaav qaaz qabe qaa1 qaax qabb qaaw frzS frzH frz frz1 frz0 SlotsM ObjsM ObjM rn ren ren1 ren0 qabp qabs qabt qabo qabf qab1 qab0 CoL qabc qabw dels adds idsH qabq
instance : PureF xec := ⟨fun _ _ => rfl, fun _ => rfl, fun x => qacl _ rfl⟩
theorem fin_xw {X : Cx} {s : SSt} {t z : Nat} {es : List (List SV)} {h : Hp} {a b : SObj} (e : h = [(0, a), (1, b)]) (hw : Wk X s ⟨[(t, .view z es)], [(0, a), (1, b)], 2⟩) : QFun X [.tmp t] 2 (.view z es) h .ret s := by
 subst e
 exact ⟨_, hw, by simp [qage, resL, resV, one_, gets], ⟨rfl, rfl, trivial⟩, by simp⟩
theorem xsc_frz (g : Nat → Option SObj) (D : List Nat) (S : XTab) : S.map ((fun x => List.map (frz0 g D) x) ∘ xsc) = S.map xsc := List.map_congr_left fun x _ => by cases x <;> rfl
def qafh (S : XTab) : List XSlot := S.filterMap id
theorem xall_s (k m : Int) (n : Nat) (S : XTab) (hS : 0 < S.length ∧ S.length ≤ 1048576) (hsm : qaho S) (hlen : (qafh S).length ≤ 1000000) (L : List XSlot) (hLl : L.length = (qafh S).length) (hL : ∀ l' : List XSlot, l'.Perm (qafh S) → l'.Pairwise (fun a b => ¬ cmpL b.keys a.keys < 0) → l' = L) : SCalls Tryz.prog 84 [.ptr 0 0] (xobj k m n S) 2 (.view 6 (L.map xec)) (xobj k m n S) := by
 have k1 := fun nm q => qbdj (qafh S) L hlen hL nm q
 obtain ⟨F, hF⟩ : ∃ F, F = qafh S := ⟨_, rfl⟩
 rw [← hF] at k1 hlen hLl
 clear hL
 obtain ⟨H2, hH2⟩ : ∃ H, H = xobj k m n S := ⟨_, rfl⟩
 suffices h : SCalls Tryz.prog 84 [.ptr 0 0] (xobj k m n S) 2 (.view 6 (L.map xec)) H2 by rw [← hH2]; rw [← hH2] at h; exact h
 replace hH2 := Lib.hid hH2
 replace hsm := Lib.hid hsm
 replace hF := Lib.hid hF
 obtain ⟨N, hN'⟩ : ∃ N, N = S.length := ⟨_, rfl⟩
 unfold xobj
 rw [← hN'] at hS ⊢
 refine qaai (N := 35) Tryz.func84 rfl rfl (by kernel_rfl) qatb (by simp) (by repeat' (first | exact trivial | refine And.intro ?_ ?_ | rfl | decide | exact PureR.ren _)) (by repeat' (first | exact trivial | refine And.intro ?_ ?_ | rfl | decide | exact PureR.ren _)) ?_
 rintro X hP hN hm
 unfold c_xall
 replace hN' := Lib.hid hN'
 repeat' (first | refine yA ?_ | with_reducible refine yB ?_ ?_ | ((with_reducible refine yC fun h => ?_); have h' := h; (try simp at h'); (try subst h')) | exact trivial)
 refine qasd (qakc 3 38 6 rfl) ?_
 simp only [zT, puth, Nat.reduceEqDiff, reduceIte, Nat.reduceAdd]
 refine qabj (qacp (fun s (x : Nat × List XSlot) => ⟨[(3, .own 2 x.2.length), (9, .own 1 N), (10, .int .i64 N), (11, .int .i64 x.1)], [(0, .cells 99 [.int .i64 k, .int .i64 m, .int .i64 n, .own 1 N]), (1, .row 141 4 (S.map xsc)), (2, .row 38 6 (x.2.map xec))], 3⟩) (fun x => x.1 ≤ N ∧ F = x.2 ++ qafh (S.drop x.1)) (fun x => N - x.1) (0, []) ?_ ⟨Nat.zero_le _, by rw [hF.out]; rfl⟩ ?_)
 ·refine qabg [(2, 10)] hm ⟨Co.refl _, Co.refl _, Co.refl _, Co.refl _, trivial⟩ ⟨⟨_, rfl, rfl, CoL.refl _⟩, ⟨_, rfl, rfl, rfl, ?_⟩, ⟨_, rfl, rfl, rfl, CoLL.refl _⟩, trivial⟩ rfl (by simp)
  rw [qaby]; exact CoLL.refl _
 rintro J hJ ⟨i, out⟩ ⟨h1, h2⟩
 unfold qarw
 simp only [zT, puth, Nat.reduceEqDiff, reduceIte, Nat.reduceAdd] at h1 h2 ⊢
 have hSN : S.length = N := hN'.out.symm
 rcases Nat.lt_or_ge i N with hi | hi
 ·have hiS : i < S.length := by omega
  rw [List.drop_eq_getElem_cons hiS] at h2
  have wi : IntKind.i64.wrap ((i : Int) + 1) = (i : Int) + 1 := qabz (by omega) (by omega)
  rcases hq : S[i] with _ | s
  ·rw [hq] at h2
   replace h2 : F = out ++ qafh (S.drop (i + 1)) := h2
   replace h2 := Lib.hid h2
   repeat' (first | ((with_reducible first | refine qaao ?_ | refine qaak (by rw [hP]; exact mixed) ?_); (try rw [hP]); simp -implicitDefEqProofs [wi, hSN, hq, qac3, *]) | ((with_reducible first | refine qaah ?_ | refine qaaj ?_); (try simp -implicitDefEqProofs [wi, hSN, hq, qac3, *])) | ((with_reducible refine qaaa (fun h => ?_) (fun h => ?_)) <;> have h' := h <;> (try simp at h') <;> (try subst h') <;> simp -implicitDefEqProofs [wi, hSN, hq, qac3, *]) | ((with_reducible refine qaal ?_ ?_); (first | omega | (unfold maxLen; omega)); simp -implicitDefEqProofs [wi, hSN, hq, qac3, *]) | refine yA ?_ | with_reducible refine yB ?_ ?_ | ((with_reducible refine yC fun h => ?_); have h' := h; (try simp at h'); (try subst h')) | exact yD | refine yE ?_ | ((refine qabn hJ ((i + 1, out)) ?_ ?_ ?_; (with_reducible refine qabg [] hm ?_ ?_ ?_ ?_) <;> (try simp only [zT, puth, Nat.reduceEqDiff, reduceIte, Nat.reduceAdd]))) | exact trivial)
   all_goals exact ⟨by show i + 1 ≤ N; omega, h2.out⟩
  ·rw [hq] at h2
   replace h2 : F = out ++ (s :: qafh (S.drop (i + 1))) := h2
   rw [List.append_cons] at h2
   have hlo : out.length + 1 ≤ F.length := by rw [h2]; simp
   have hss := hsm.out i s (by rw [List.getElem?_eq_getElem hiS, hq])
   have k2 := fun q => qbhg s.keys hss.1 q
   have k3 := fun q => qbhg s.args hss.2 q
   unfold nums at k2 k3
   have b1 : out.length + 1 ≤ maxLen := by unfold maxLen; omega
   have b2 : (out.length + 1) * 96 ≤ 140737488355328 := by omega
   replace h2 := Lib.hid h2
   replace hlo := Lib.hid hlo
   replace hss := Lib.hid hss
   repeat' (first | ((with_reducible first | refine qaao ?_ | refine qaak (by rw [hP]; exact mixed) ?_); (try rw [hP]); simp -implicitDefEqProofs [wi, hSN, hq, qabu, nums, b1, b2, *]) | ((with_reducible first | refine qaah ?_ | refine qaaj ?_); (try simp -implicitDefEqProofs [wi, hSN, hq, qabu, nums, b1, b2, *])) | ((with_reducible refine qaaa (fun h => ?_) (fun h => ?_)) <;> have h' := h <;> (try simp at h') <;> (try subst h') <;> simp -implicitDefEqProofs [wi, hSN, hq, qabu, nums, b1, b2, *]) | ((with_reducible refine qaal ?_ ?_); (first | omega | (unfold maxLen; omega)); simp -implicitDefEqProofs [wi, hSN, hq, qabu, nums, b1, b2, *]) | refine yA ?_ | with_reducible refine yB ?_ ?_ | ((with_reducible refine yC fun h => ?_); have h' := h; (try simp at h'); (try subst h')) | (refine qabr (k2 _) ?_; simp -implicitDefEqProofs [wi, hSN, hq, qabu, nums, b1, b2, *]) | (refine qabr (k3 _) ?_; simp -implicitDefEqProofs [wi, hSN, hq, qabu, nums, b1, b2, *]) | exact trivial)
   refine qabn hJ (i + 1, out ++ [s]) (qabg [(2, 37)] hm ⟨?_, Co.refl _, Co.refl _, ?_, trivial⟩ ⟨⟨_, rfl, rfl, CoL.refl _⟩, ⟨_, rfl, rfl, rfl, ?_⟩, ⟨_, rfl, rfl, rfl, ?_⟩, trivial⟩ rfl (by simp)) ⟨by show i + 1 ≤ N; omega, h2.out⟩ ?_
   ·simp only [List.length_append, List.length_cons, List.length_nil]; exact Co.refl _
   ·simp only [Int.natCast_add, Int.cast_ofNat_Int]; exact Co.refl _
   ·rw [qaby]; exact CoLL.refl _
   ·rw [qaby, List.map_append]; exact CoLL.refl _
   ·show N - (i + 1) < N - i; omega
 ·obtain rfl : i = N := by omega
  have h3 : F = out := by rw [h2, List.drop_eq_nil_of_le (by omega)]; simp [qafh]
  subst h3
  replace h2 := Lib.hid h2
  replace hLl := Lib.hid hLl
  repeat' (first | ((with_reducible refine qaif (c := .seq (.reg false qamy [2]) .ret) ?_)) | refine yA ?_ | with_reducible refine yB ?_ ?_ | ((with_reducible refine yC fun h => ?_); have h' := h; (try simp at h'); (try subst h')) | refine qae4 (k1 2 _) ⟨rfl, trivial⟩ ⟨rfl, trivial⟩ [] (by simp) ?_ | exact trivial)
  constructor
  rw [← hLl.out]
  refine qawd [2] ?_ ?_
  ·simp only [FrzOk, geth, Nat.reduceEqDiff, reduceIte, qaq5, and_true]
  simp -implicitDefEqProofs
  repeat' (first | refine yA ?_ | with_reducible refine yB ?_ ?_ | ((with_reducible refine yC fun h => ?_); have h' := h; (try simp at h'); (try subst h')) | ((refine fin_xw hH2.out ?_)) | exact trivial)
  rw [xsc_frz, hSN]
  exact qabg [] hm ⟨Co.refl _, trivial⟩ ⟨⟨_, rfl, rfl, CoL.refl _⟩, ⟨_, rfl, rfl, rfl, by rw [qaby]; exact CoLL.refl _⟩, trivial⟩ rfl (Nat.le_refl 2)
end Go.Proofs.YtalejfkholifpaaGreat
namespace Go.Proofs.YtalejfkholifpaaGreat
set_option linter.all false
open Go.RowKit
theorem qaj0 : ∀ T : XTab, cnt T < T.length → ∃ e : Nat, T[e]? = some none
 | [], h => by simp [cnt] at h
 | none :: T, _ => ⟨0, rfl⟩
 | some s :: T, h => by
  obtain ⟨e, he⟩ := qaj0 T (by unfold cnt at h ⊢; simp at h ⊢; omega)
  exact ⟨e + 1, by simpa using he⟩
theorem qars {S : XTab} {r : Nat} (hr : S[r]? = some none) (s : XSlot) : cnt (S.set r (some s)) = cnt S + 1 := by
 have hl := qaco hr
 have := qag1 S r (some s) hl
 rw [List.getElem?_eq_getElem hl] at hr
 rw [Option.some.inj hr] at this
 simpa using this
theorem qaxc {S : XTab} {r : Nat} (hr : S[r]? = some none) (h : cnt S + 1 < S.length) : ∃ e : Nat, e ≠ r ∧ S[e]? = some none := by
 have hl := qaco hr
 obtain ⟨e, he⟩ := qaj0 (S.set r (some ⟨[], 0, []⟩)) (by rw [qars hr, List.length_set]; exact h)
 rw [qacd hl] at he
 split at he
 ·cases he
 ·exact ⟨e, by assumption, he⟩
theorem home_lt {N : Nat} (h : 0 < N) (xs : List Int) : qaf1 N xs < N := Nat.mod_lt _ h
structure XInv (k m : Int) (S : XTab) : Prop where
 pinv : qa4n (qaf1 S.length) S
 small : qaho S
 fit : ∀ (j : Nat) (s : XSlot), S[j]? = some (some s) → (s.keys.length : Int) = k
 len : S.length = newN m
 full : (cnt S : Int) ≤ m ∨ cnt S = 0
theorem XInv.sz {k m : Int} {S : XTab} (h : XInv k m S) : 0 < S.length ∧ S.length ≤ 1048576 := by
 have := qaq9 m
 rw [h.len]; omega
theorem XInv.fr {k m : Int} {S : XTab} (h : XInv k m S) : ∃ e : Nat, S[e]? = some none := let ⟨e, _, h⟩ := h.pinv.free; ⟨e, h⟩
theorem qbc8 (k m : Int) : XInv k m (List.replicate (newN m) none) := by
 have hb := qaq9 m
 have no : ∀ (j : Nat) (s : XSlot), (List.replicate (newN m) (none : Option XSlot))[j]? = some (some s) → False := fun j s h => by
  rw [List.getElem?_replicate] at h
  split at h <;> cases h
 refine ⟨⟨fun xs => ?_, fun j s _ h => (no j s h).elim, fun j _ s _ _ _ h => (no j s h).elim, ⟨0, ?_, ?_⟩⟩, fun j s h => (no j s h).elim, fun j s h => (no j s h).elim, List.length_replicate, .inr ?_⟩
 ·rw [List.length_replicate]; exact home_lt (by omega) xs
 ·rw [List.length_replicate]; omega
 ·rw [List.getElem?_replicate, if_pos (by omega)]
 ·unfold cnt
  rw [List.countP_replicate]; simp
theorem qafx {k m : Int} {S : XTab} (h : XInv k m S) {j : Nat} {s : XSlot} (hj : S[j]? = some (some s)) : qacf S s.keys = (j, true) := qasm h.pinv hj
theorem qaos {k m : Int} {S : XTab} (h : XInv k m S) {xs : List Int} (hp : (qacf S xs).2 = false) : ∀ (j : Nat) (s : XSlot), S[j]? = some (some s) → s.keys ≠ xs := fun j s hj e => by
 subst e
 rw [qafx h hj] at hp; cases hp
theorem qaqo {k m : Int} {S : XTab} (h : XInv k m S) {s : XSlot} (hs : s.keys.length ≤ 1000000 ∧ s.args.length ≤ 1000000) (hV : qaoa k m S s.keys = 0) : XInv k m (S.set (qacf S s.keys).1 (some s)) ∧ S[(qacf S s.keys).1]? = some none := by
 unfold qaoa at hV
 split at hV
 ·cases hV
 rename_i hk
 split at hV
 ·cases hV
 rename_i hp
 split at hV
 ·cases hV
 rename_i hc
 have hp' : (qacf S s.keys).2 = false := by simpa using hp
 have hno := qaos h hp'
 obtain ⟨r, h1, h2, h3⟩ := qaw7 h.pinv hno
 have e1 : (qacf S s.keys).1 = r := by unfold qacf; rw [h1]
 rw [e1]
 have hl := qaco h2
 refine ⟨⟨?_, qahz h.small hl _ fun t ht => by cases ht; exact hs, fun j t ht => ?_, by rw [List.length_set]; exact h.len, .inl (by rw [qars h2]; omega)⟩, h2⟩
 ·rw [List.length_set]
  exact add_inv h.pinv hno h2 h3 (qaxc h2 (by omega))
 ·rw [qacd hl] at ht
  split at ht
  ·cases ht; omega
  ·exact h.fit j t ht
theorem qbfi {k m : Int} {S : XTab} (h : XInv k m S) {s t : XSlot} {j : Nat} (hs : s.keys.length ≤ 1000000 ∧ s.args.length ≤ 1000000) (hj : S[j]? = some (some t)) (hk : s.keys = t.keys) : XInv k m (S.set j (some s)) := by
 have hl := qaco hj
 refine ⟨?_, qahz h.small hl _ fun t ht => by cases ht; exact hs, fun i u hu => ?_, by rw [List.length_set]; exact h.len, ?_⟩
 ·rw [List.length_set]
  exact chg_inv h.pinv hj hk
 ·rw [qacd hl] at hu
  split at hu
  ·cases hu; rw [hk]; exact h.fit j t hj
  ·exact h.fit i u hu
 ·have := qag1 S j (some s) hl
  rw [List.getElem?_eq_getElem hl] at hj
  rw [Option.some.inj hj] at this
  have e : cnt (S.set j (some s)) = cnt S := by simpa using this
  rw [e]; exact h.full
theorem qayh {k m : Int} {S : XTab} (h : XInv k m S) {t : XSlot} {j : Nat} (hj : S[j]? = some (some t)) : XInv k m (qajg (qaf1 S.length) S.length S j) ∧ (∀ s, (∃ i : Nat, (qajg (qaf1 S.length) S.length S j)[i]? = some (some s)) ↔ ∃ i : Nat, i ≠ j ∧ S[i]? = some (some s)) ∧ cnt (qajg (qaf1 S.length) S.length S j) + 1 = cnt S := by
 have hl := qaco hj
 have hi := qbcs h.pinv hj
 obtain ⟨e, h1, h2⟩ := hi.free
 obtain ⟨d1, d2, d3, d4⟩ := qak5 S.length S j hi hl ⟨e, h1, h2, Nat.le_of_lt (qag0 hl (qaco h2))⟩
 have hc := qag1 S j none hl
 rw [List.getElem?_eq_getElem hl] at hj
 rw [Option.some.inj hj] at hc
 have hc' : cnt (S.set j none) + 1 = cnt S := by simpa using hc
 refine ⟨⟨by rw [d2]; exact d1, fun i s hs => ?_, fun i s hs => ?_, by rw [d2]; exact h.len, ?_⟩, d3, by rw [d4]; exact hc'⟩
 ·obtain ⟨i', _, h3⟩ := (d3 s).1 ⟨i, hs⟩
  exact h.small i' s h3
 ·obtain ⟨i', _, h3⟩ := (d3 s).1 ⟨i, hs⟩
  exact h.fit i' s h3
 ·rw [d4]
  rcases h.full with h5 | h5 <;> omega
end Go.Proofs.YtalejfkholifpaaGreat
namespace Go.Proofs.YtalejfkholifpaaGreat
set_option linter.all false
open Go.RowKit
theorem qaeh {P : Program} {f : FuncId} {args : List SV} {N : Nat} {hh hh2 : Hp} {r : SV} (he : Enters P f) (hN : 0 < N) (hren : ∀ σ : Nat → Nat, (∀ i, i < N → σ i = i) → RenH σ hh2) (hids2 : ∀ i ∈ idsH hh2, i < N)
  (h : SCalls P f (.ptr 0 0 :: args) hh N r hh2) (ha : ∀ σ, args.map (Go.Proofs.YtalejfkholifpaaGreat.ren σ) = args) (hr : ∀ σ, Go.Proofs.YtalejfkholifpaaGreat.ren σ r = r) (id q : Nat) : SCalls P f (.ptr id 0 :: args) [(id, .abs (qaox N fun h => h = hh))] q r [(id, .abs (qaox N fun h => h = hh2))] := by
 refine qadn he (fun O Fp w b vs hI hO hd hv => ?_) ha id q
 obtain ⟨h1, ρ, fp, c, hR, h0, hn, hobj, hdis, hlt, hF⟩ := hI
 have hR' : h1 = hh := hR
 subst hR'
 have hA : (fun k => O k ∨ Fp k) = fun k => O k ∨ Live h1 fp k := by funext k; rw [hF]
 rw [hA] at hobj hv
 refine (h.2 O ρ fp w (.pointer (some ⟨b, 0, none⟩) :: vs) ⟨hobj, hdis, fun k hk => ⟨hlt k hk, hd k ((hF k).2 hk)⟩, hO⟩ (Reps.cons (.ptr h0) (hv.mono (.refl _ _) (fun _ h _ => h) fun _ _ h => by cases h)) (fun id h3 _ => hn id h3)).mono ?_
 rintro e w' ⟨v, ρ', fp', rfl, q1, q2, q3, q4, q5, q6⟩
 have hfr : ρ' (N + 8) = none := by
  cases e : ρ' (N + 8) with
  | none => rfl
  | some p =>
   rcases q5 (N + 8) (by rw [e]; simp) with h3 | h3
   ·exact absurd (hn _ (by omega)) h3
   ·omega
 let σ : Nat → Nat := fun i => if i < N then i else N + 8
 have hσ : ∀ {i o}, geth hh2 i = some o → i < N ∧ σ i = i := fun {i o} ho => by
  have := hids2 i (qadz (by rw [ho]; simp))
  exact ⟨this, if_pos this⟩
 refine ⟨v, fun k => Live hh2 fp' k, rfl, ⟨hh2, fun i => ρ' (σ i), fp', c, rfl, ?_, fun i hi => ?_, fun i o ho => ?_, q1.disj, fun k hk => (q1.lt k hk).1, fun k => Iff.rfl⟩, fun k hk => ?_, q3.mono fun k hk => (hF k).2 hk, ?_⟩
 ·show ρ' (σ 0) = _
  rw [show σ 0 = 0 from if_pos hN]; exact q4 _ _ h0
 ·show ρ' (σ i) = none
  rw [show σ i = N + 8 from if_neg (by omega)]; exact hfr
 ·have h6 := ((hren σ fun i hi => if_pos hi).get i o ho).objM
  have h8 := q1.objs i o ho
  have h9 : ObjRep w' (fun k => O k ∨ Live hh2 fp' k) ρ' (σ i) (fp' i) o := by rw [(hσ ho).2]; exact h8
  exact h6.back h9
 ·obtain ⟨i, o, ho, hk2⟩ := hk
  exact (q6 i o ho k hk2).imp (fun h => (hF k).2 h) fun h => h
 ·have h1 : RepV w' (fun k => O k ∨ Live hh2 fp' k) ρ' (Go.Proofs.YtalejfkholifpaaGreat.ren (fun _ => N + 8) r) v := by rw [hr]; exact q2
  have h2 := qaik h1
  have e : (fun id => ρ' ((fun _ => N + 8) id)) = noPl := by funext id; show ρ' (N + 8) = _; rw [hfr]; rfl
  rw [e] at h2; exact h2
def xA (k m : Int) (S : XTab) : AbsI := qaox 2 fun h => h = xobj k m (cnt S) S
theorem qae6 (k m : Int) (n : Nat) (S : XTab) {σ : Nat → Nat} (h : σ 1 = 1) : RenH σ (xobj k m n S) := ⟨by show ([.int .i64 k, .int .i64 m, .int .i64 n, .own 1 S.length] : List SV).map (Go.Proofs.YtalejfkholifpaaGreat.ren σ) = _; simp [Go.Proofs.YtalejfkholifpaaGreat.ren, ren1, ren0, h], qaby _ _ _, trivial⟩
theorem qaga (k m : Int) (n : Nat) (S : XTab) : ∀ i ∈ idsH (xobj k m n S), i < 2 := by intro i hi; simp [idsH, xobj] at hi; omega
theorem xlen_a (k m : Int) (S : XTab) (id q : Nat) : SCalls Tryz.prog 75 [.ptr id 0] [(id, .abs (xA k m S))] q (.int .i64 (cnt S)) [(id, .abs (xA k m S))] :=
 qaeh (xlen_o k m S 2).1 (by decide) (fun σ h => qae6 _ _ _ _ (h 1 (by decide))) (qaga _ _ _ _) (xlen_o k m S 2) (fun _ => rfl) (fun _ => rfl) id q
theorem xadd_a (k m : Int) (S : XTab) (h : XInv k m S) (a : Int) (xs ys : List Int) (hx : xs.length ≤ 1000000) (hy : ys.length ≤ 1000000) (id q : Nat) : SCalls Tryz.prog 82 [.ptr id 0, nums .u64 xs, .agg (hitc a ys)] [(id, .abs (xA k m S))] q (.int .i64 (qaoa k m S xs)) [(id, .abs (xA k m (addX k m S ⟨xs, a, ys⟩)))] := by
 have h1 := xadd_s k m S h.sz h.small a xs ys hx hy h.fr (fun hV => qars (qaqo h (s := ⟨xs, a, ys⟩) ⟨hx, hy⟩ hV).2 _)
 exact qaeh h1.1 (by decide) (fun σ h => qae6 _ _ _ _ (h 1 (by decide))) (qaga _ _ _ _) h1 (fun _ => rfl) (fun _ => rfl) id q
theorem xchg_a (k m : Int) (S : XTab) (h : XInv k m S) (a : Int) (xs ys : List Int) (hx : xs.length ≤ 1000000) (hy : ys.length ≤ 1000000) (id q : Nat) : SCalls Tryz.prog 85 [.ptr id 0, nums .u64 xs, .agg (hitc a ys)] [(id, .abs (xA k m S))] q (.int .i64 (qajb k S xs)) [(id, .abs (xA k m (chgX k S ⟨xs, a, ys⟩)))] := by
 have h1 := xchg_s k m S h.sz h.small a xs ys hx hy h.fr
 exact qaeh h1.1 (by decide) (fun σ h => qae6 _ _ _ _ (h 1 (by decide))) (qaga _ _ _ _) h1 (fun _ => rfl) (fun _ => rfl) id q
theorem xdrop_a (k m : Int) (S : XTab) (h : XInv k m S) (xs : List Int) (hx : xs.length ≤ 1000000) (id q : Nat) : SCalls Tryz.prog 86 [.ptr id 0, nums .u64 xs] [(id, .abs (xA k m S))] q (.int .i64 (qajb k S xs)) [(id, .abs (xA k m (drpX k S xs)))] := by
 have h1 := xdrop_s k m S h.sz h.small xs hx h.pinv
 exact qaeh h1.1 (by decide) (fun σ h => qae6 _ _ _ _ (h 1 (by decide))) (qaga _ _ _ _) h1 (fun _ => rfl) (fun _ => rfl) id q
theorem qax5 (σ : Nat → Nat) (o : Option XSlot) : Go.Proofs.YtalejfkholifpaaGreat.ren σ (qas4 o) = qas4 o := by cases o <;> rfl
theorem xfind_a (k m : Int) (S : XTab) (h : XInv k m S) (xs : List Int) (hx : xs.length ≤ 1000000) (id q : Nat) : SCalls Tryz.prog 87 [.ptr id 0, nums .u64 xs] [(id, .abs (xA k m S))] q (qas4 (qafp k S xs)) [(id, .abs (xA k m S))] := by
 have h1 := xfind_s k m S h.sz h.small xs hx h.fr
 exact qaeh h1.1 (by decide) (fun σ h => qae6 _ _ _ _ (h 1 (by decide))) (qaga _ _ _ _) h1 (fun _ => rfl) (fun σ => qax5 σ _) id q
theorem qaix (S : XTab) : (qafh S).length = cnt S := by
 unfold qafh cnt
 induction S with
 | nil => rfl
 | cons o S ih => cases o <;> simp [ih]
theorem xall_a (k m : Int) (hm : m ≤ 1000) (S : XTab) (h : XInv k m S) (L : List XSlot) (hLl : L.length = cnt S) (hL : ∀ l' : List XSlot, l'.Perm (qafh S) → l'.Pairwise (fun a b => ¬ cmpL b.keys a.keys < 0) → l' = L) (id q : Nat) : SCalls Tryz.prog 84 [.ptr id 0] [(id, .abs (xA k m S))] q (.view 6 (L.map xec)) [(id, .abs (xA k m S))] := by
 have h1 := xall_s k m (cnt S) S h.sz h.small (by rw [qaix]; rcases h.full with h2 | h2 <;> omega) L (by rw [qaix]; exact hLl) hL
 exact qaeh h1.1 (by decide) (fun σ h => qae6 _ _ _ _ (h 1 (by decide))) (qaga _ _ _ _) h1 (fun _ => rfl) (fun _ => by simp [Go.Proofs.YtalejfkholifpaaGreat.ren, ren1, ren0]) id q
end Go.Proofs.YtalejfkholifpaaGreat
namespace Go.Proofs.YtalejfkholifpaaGreat
set_option linter.all false
open Go.RowKit
theorem qalo {P : Program} {f : FuncId} {args : List SV} {N : Nat} {hh : Hp} (he : Enters P f) (hN : 0 < N) (hN8 : N ≤ 8) (hren : ∀ σ : Nat → Nat, (∀ i, i < N → σ i = i) → RenH σ hh) (hids : ∀ i ∈ idsH hh, i < N)
  (h : SCalls P f args [] 0 (.ptr 0 0) hh) (ha : ∀ σ, args.map (Go.Proofs.YtalejfkholifpaaGreat.ren σ) = args) (q : Nat) : SCalls P f args [] q (.ptr q 0) [(q, .abs (qaox N fun h => h = hh))] := by
 refine ⟨he, fun O ρ fp w vs hok hargs hfr => ?_⟩
 have hO : (fun k => O k ∨ Live [] fp k) = O := by funext k; simp [Live, geth]
 have ha' : Reps w (fun k => O k ∨ Live [] fp k) noPl args vs := by
  have h1 : Reps w (fun k => O k ∨ Live [] fp k) ρ (args.map (Go.Proofs.YtalejfkholifpaaGreat.ren fun _ => q)) vs := by rw [ha]; exact hargs
  have h2 := qad1 h1
  have e : (fun id => ρ ((fun _ => q) id)) = noPl := by funext id; exact hfr q (Nat.le_refl _) (by omega)
  rw [e] at h2; exact h2
 have hE : HeapOk O noPl fp [] w := ⟨fun id o ho => by simp [geth] at ho, fun id id' o o' _ ho => by simp [geth] at ho, fun k ⟨id, o, ho, _⟩ => by simp [geth] at ho, hok.O_lt⟩
 refine (h.2 O noPl fp w vs hE ha' (fun _ _ _ => rfl)).mono ?_
 rintro e w' ⟨v, ρ', fp', rfl, q1, q2, q3, q4, q5, q6⟩
 obtain ⟨b, c, hb, rfl⟩ : ∃ b c, ρ' 0 = some (some (b, c)) ∧ v = .pointer (some ⟨b, 0, none⟩) := by
  generalize hy : SV.ptr 0 0 = y at q2
  cases q2 with
  | ptr h => injection hy with e1 e2; subst e1 e2; exact ⟨_, _, h, rfl⟩
  | _ => cases hy
 have hfr8 : ρ' 8 = none := by
  cases e : ρ' 8 with
  | none => rfl
  | some p =>
   rcases q5 8 (by rw [e]; simp) with h3 | h3
   ·exact absurd rfl h3
   ·omega
 let σ : Nat → Nat := fun i => if i < N then i else 8
 have hσ : ∀ {i o}, geth hh i = some o → i < N ∧ σ i = i := fun {i o} ho => by
  have := hids i (qadz (by rw [ho]; simp))
  exact ⟨this, if_pos this⟩
 let fp2 : Nat → Nat → Prop := fun _ k => Live hh fp' k
 have hl2 : ∀ k, Live [(q, SObj.abs (qaox N fun h => h = hh))] fp2 k ↔ Live hh fp' k := fun k => by
  rw [qaew]
 have hA : (fun k => O k ∨ Live [(q, SObj.abs (qaox N fun h => h = hh))] fp2 k) = fun k => O k ∨ Live hh fp' k := by funext k; rw [hl2 k]
 refine ⟨.pointer (some ⟨b, 0, none⟩), fun i => if i = q then some (some (b, c)) else ρ i, fp2, rfl, ⟨fun i o ho => ?_, fun i i' o o' hne h' h'' => ?_, fun k hk => q1.lt k ((hl2 k).1 hk), q1.O_lt⟩, .ptr (c := c) (by simp), q3, fun i p hp => ?_, fun i hi => ?_, fun i o ho k hk => ?_⟩
 ·simp only [geth] at ho
  split at ho
  ·rename_i e; subst e; cases ho
   rw [hA]
   refine ⟨b, c, by simp, hh, fun i => ρ' (σ i), fp', c, rfl, ?_, fun i hi => ?_, fun i o ho => ?_, q1.disj, fun k hk => (q1.lt k hk).1, fun k => Iff.rfl⟩
   ·show ρ' (σ 0) = _
    rw [show σ 0 = 0 from if_pos hN]; exact hb
   ·show ρ' (σ i) = none
    rw [show σ i = 8 from if_neg (by omega)]; exact hfr8
   ·have h6 := ((hren σ fun i hi => if_pos hi).get i o ho).objM
    have h8 := q1.objs i o ho
    have h9 : ObjRep w' (fun k => O k ∨ Live hh fp' k) ρ' (σ i) (fp' i) o := by rw [(hσ ho).2]; exact h8
    exact h6.back h9
  ·cases ho
 ·simp only [geth] at h' h''
  split at h'
  ·split at h''
   ·omega
   ·cases h''
  ·cases h'
 ·show (if i = q then _ else ρ i) = some p
  split
  ·rename_i e; subst e; rw [hfr i (Nat.le_refl _) (by omega)] at hp; cases hp
  ·exact hp
 ·by_cases e : i = q
  ·exact .inr ⟨by omega, by omega⟩
  ·exact .inl (by simpa [e] using hi)
 ·obtain ⟨i', o', ho', hk'⟩ := (show Live hh fp' k from hk)
  exact (q6 i' o' ho' k hk').imp (fun h => by obtain ⟨_, _, h, _⟩ := h; simp [geth] at h) fun h => h
theorem xnew_a (k m : Int) (q : Nat) : SCalls Tryz.prog 33 [.int .i64 k, .int .i64 m] [] q (.ptr q 0) [(q, .abs (xA k m (List.replicate (newN m) none)))] := by
 have h1 := xnew_s k m
 have hc : cnt (List.replicate (newN m) none) = 0 := by unfold cnt; rw [List.countP_replicate]; simp
 have h2 := qalo h1.1 (N := 2) (by decide) (by decide) (fun σ h => qae6 k m 0 (List.replicate (newN m) none) (h 1 (by decide))) (qaga _ _ _ _) h1 (fun _ => rfl) q
 unfold xA
 rw [hc]; exact h2
end Go.Proofs.YtalejfkholifpaaGreat
namespace Go.Proofs.YtalejfkholifpaaGreat
set_option linter.all false
open Go.RowKit
theorem qacx {S : XTab} {s : XSlot} : s ∈ qafh S ↔ ∃ j : Nat, S[j]? = some (some s) := by
 unfold qafh
 rw [List.mem_filterMap]
 constructor
 ·rintro ⟨o, ho, h⟩
  obtain rfl : o = some s := h
  exact List.getElem?_of_mem ho
 ·rintro ⟨j, hj⟩
  exact ⟨some s, List.mem_of_getElem? hj, rfl⟩
theorem qaim {k m : Int} {S : XTab} (h : XInv k m S) {xs : List Int} : (qacf S xs).2 = true ↔ ∃ s ∈ qafh S, s.keys = xs := by
 constructor
 ·intro hp
  obtain ⟨s, hs, hk⟩ := qae0 _ _ hp
  exact ⟨s, qacx.2 ⟨_, hs⟩, hk⟩
 ·rintro ⟨s, hs, rfl⟩
  obtain ⟨j, hj⟩ := qacx.1 hs
  rw [qafx h hj]
theorem qak2 {k m : Int} {S : XTab} (h : XInv k m S) {s t : XSlot} (hs : s ∈ qafh S) (ht : t ∈ qafh S) (e : s.keys = t.keys) : s = t := by
 obtain ⟨i, hi⟩ := qacx.1 hs
 obtain ⟨j, hj⟩ := qacx.1 ht
 have : i = j := h.pinv.uniq i j s t (by have := qaco hi; omega) (by have := qaco hj; omega) hi hj e
 subst this
 rw [hi] at hj
 exact Option.some.inj (Option.some.inj hj)
theorem qayd {k m : Int} {S : XTab} (h : XInv k m S) : (qafh S).Pairwise fun a b => a.keys ≠ b.keys := by
 unfold qafh
 rw [List.pairwise_filterMap, List.pairwise_iff_getElem]
 intro i j hi hj hij a ha b hb e
 have h1 : S[i]? = some (some a) := by rw [List.getElem?_eq_getElem hi]; exact congrArg some ha
 have h2 : S[j]? = some (some b) := by rw [List.getElem?_eq_getElem hj]; exact congrArg some hb
 have := h.pinv.uniq i j a b (by omega) (by omega) h1 h2 e
 omega
theorem qahg {k m : Int} {S : XTab} (h : XInv k m S) {s : XSlot} (hs : s ∈ qafh S) : qafp k S s.keys = some s := by
 obtain ⟨j, hj⟩ := qacx.1 hs
 unfold qafp
 rw [if_neg (by rw [h.fit j s hj]; simp), qafx h hj, if_pos rfl, hj]; rfl
theorem qahh {k m : Int} {S : XTab} (h : XInv k m S) {xs : List Int} (hx : ∀ s ∈ qafh S, s.keys ≠ xs) : qafp k S xs = none := by
 unfold qafp
 split
 ·rfl
 ·rw [if_neg fun hp => by
   obtain ⟨s, hs, hk⟩ := (qaim h).1 hp
   exact hx s hs hk]
end Go.Proofs.YtalejfkholifpaaGreat
namespace Go.Proofs.YtalejfkholifpaaGreat
set_option linter.all false
open Go.RowKit
def qaqp (a b : XSlot) : Prop := ¬ cmpL b.keys a.keys < 0
theorem qali {l : List XSlot} (hk : ∀ s ∈ l, ∀ t ∈ l, s.keys = t.keys → s = t) : ∀ (l1 l2 : List XSlot), (∀ x ∈ l1, x ∈ l) → l1.Perm l2 → l1.Pairwise qaqp → l2.Pairwise qaqp → l1 = l2
 | [], l2, _, hp, _, _ => hp.nil_eq
 | a :: t, [], _, hp, _, _ => by have := hp.length_eq; simp at this
 | a :: t, b :: u, hm, hp, h1, h2 => by
  have hab : a = b := by
   rcases List.mem_cons.1 (hp.mem_iff.1 (List.mem_cons_self ..)) with e | ha
   ·exact e
   rcases List.mem_cons.1 (hp.mem_iff.2 (List.mem_cons_self ..)) with e | hb
   ·exact e.symm
   have g1 : ¬ cmpL b.keys a.keys < 0 := (List.pairwise_cons.1 h1).1 b hb
   have g2 : ¬ cmpL a.keys b.keys < 0 := (List.pairwise_cons.1 h2).1 a ha
   have g3 := qac9 a.keys b.keys
   exact hk a (hm a (by simp)) b (hm b (by simp [hb])) ((qad3 _ _).1 (by omega))
  subst hab
  rw [qali hk t u (fun x hx => hm x (by simp [hx])) (hp.cons_inv) (List.pairwise_cons.1 h1).2 (List.pairwise_cons.1 h2).2]
def leX (a b : XSlot) : Bool := decide (¬ cmpL b.keys a.keys < 0)
def qajk (S : XTab) : List XSlot := (qafh S).mergeSort leX
theorem qac4 (S : XTab) : (qajk S).Perm (qafh S) := List.mergeSort_perm _ _
theorem qaii (S : XTab) : (qajk S).Pairwise qaqp := by
 have h := List.pairwise_mergeSort (le := leX) (fun a b c h1 h2 => by
  unfold leX at *
  simp only [decide_eq_true_eq] at *
  have e1 := qac9 a.keys b.keys
  have e2 := qac9 b.keys c.keys
  have e3 := qac9 a.keys c.keys
  have := qafr a.keys b.keys c.keys (by omega) (by omega)
  omega) (fun a b => by
  unfold leX
  have e1 := qac9 a.keys b.keys
  simp only [Bool.or_eq_true, decide_eq_true_eq]
  omega) (qafh S)
 exact h.imp fun {a b} h => of_decide_eq_true h
theorem xall_b (k m : Int) (hm : m ≤ 1000) (S : XTab) (h : XInv k m S) (id q : Nat) : SCalls Tryz.prog 84 [.ptr id 0] [(id, .abs (xA k m S))] q (.view 6 ((qajk S).map xec)) [(id, .abs (xA k m S))] :=
 xall_a k m hm S h (qajk S) (by rw [(qac4 S).length_eq, qaix]) (fun l' hp hs => qali (l := qafh S) (fun s hs t ht => qak2 h hs ht) l' _ (fun x hx => hp.mem_iff.1 hx) (hp.trans (qac4 S).symm) hs (qaii S)) id q
end Go.Proofs.YtalejfkholifpaaGreat
namespace Go.Proofs.YtalejfkholifpaaGreat
set_option linter.all false
open Go.RowKit
attribute [local simp] qaas qaar qaac qaag qaad qaaf qaap qaaq qaab qaa4 SOp.run SX.ev putd puts argS upds SOp.touch SSt.keep SSt.skip gets geth puth delh idOf SV.cells? setL qab7 qab8 sbin eq0 eq1 eqL qab5 qabh qabi qaa5 qaat qaae qaau qaa6 qaam qaan FrzOk qaba qaa0 qaa8 qaa9 qaav qaaz qabe qaa1 qaax qabb qaaw frzS frzH frz frz1 frz0 SlotsM ObjsM ObjM rn ren ren1 ren0 qabp qabs qabt qabo qabf qab1 qab0 CoL qabc qabw dels adds idsH qabq
def qan8 : List Int → List Int → Int
 | [], [] => 0
 | [], _ :: _ => -1
 | _ :: _, [] => 1
 | x :: xs, y :: ys => if x < y then -1 else if x > y then 1 else qan8 xs ys
end Go.Proofs.YtalejfkholifpaaGreat
namespace Go.Proofs.YtalejfkholifpaaGreat
set_option linter.all false
open Go.RowKit
theorem qaki (σ : Nat → Nat) (k : IntKind) (xs : List Int) : ren σ (nums k xs) = nums k xs := rfl
theorem qals (σ : Nat → Nat) (e : Entry) : (qaay e).map (ren σ) = qaay e := rfl
theorem qakj (σ : Nat → Nat) (L : List Entry) : (L.map qaay).map (·.map (ren σ)) = L.map qaay := by
 rw [List.map_map]; rfl
theorem qah0 (σ : Nat → Nat) (L : List Entry) : List.map ((fun x => List.map (ren σ) x) ∘ qaay) L = L.map qaay := rfl
end Go.Proofs.YtalejfkholifpaaGreat
namespace Go.Proofs.YtalejfkholifpaaGreat
set_option linter.all false
open Go.RowKit
attribute [local simp] qaas qaar qaac qaag qaad qaaf qaap qaaq qaab qaa4 SOp.run SX.ev putd puts argS upds SOp.touch SSt.keep SSt.skip gets geth puth delh idOf SV.cells? setL qab7 qab8 sbin eq0 eq1 eqL qab5 qabh qabi qaa5 qaat qaae qaau qaa6 qaam qaan FrzOk qaba qaa0 qaa8 qaa9 qaav qaaz qabe qaa1 qaax qabb qaaw frzS frzH frz frz1 frz0 SlotsM ObjsM ObjM rn ren ren1 ren0 qabp qabs qabt qabo qabf qab1 qab0 CoL qabc qabw dels adds idsH qabq qakj qah0 qaki
def oneB (kind : Int) (a b : Entry) : Bool := !((kind == 3 && (a.prio != b.prio || !decide (a.masks = b.masks))) || (kind == 2 && a.len != b.len)) && decide (a.keys = b.keys)
def atN (kind : Int) (L : List Entry) (e : Entry) : Nat := qahf (fun i => match L[i]? with | some a => oneB kind a e | none => false) L.length
def atI (kind : Int) (L : List Entry) (e : Entry) : Int := if atN kind L e < L.length then atN kind L e else -1
end Go.Proofs.YtalejfkholifpaaGreat
namespace Go.Proofs.YtalejfkholifpaaGreat
set_option linter.all false
open Go.RowKit
attribute [local simp] qaas qaar qaac qaag qaad qaaf qaap qaaq qaab qaa4 SOp.run SX.ev putd puts argS upds SOp.touch SSt.keep SSt.skip gets geth puth delh idOf SV.cells? setL qab7 qab8 sbin eq0 eq1 eqL qab5 qabh qabi qaa5 qaat qaae qaau qaa6 qaam qaan FrzOk qaba qaa0 qaa8 qaa9 qaav qaaz qabe qaa1 qaax qabb qaaw frzS frzH frz frz1 frz0 SlotsM ObjsM ObjM rn ren ren1 ren0 qabp qabs qabt qabo qabf qab1 qab0 CoL qabc qabw dels adds idsH qabq qakj qah0 qaki
def qahm (a b : Entry) : Bool := if a.prio = b.prio then (if qan8 a.keys b.keys = 0 then (if a.len = b.len then decide (qan8 a.masks b.masks < 0) else decide (a.len < b.len)) else decide (qan8 a.keys b.keys < 0)) else decide (a.prio < b.prio)
end Go.Proofs.YtalejfkholifpaaGreat
namespace Go.Proofs.YtalejfkholifpaaGreat
set_option linter.all false
open Go.RowKit
attribute [local simp] qaas qaar qaac qaag qaad qaaf qaap qaaq qaab qaa4 SOp.run SX.ev putd puts argS upds SOp.touch SSt.keep SSt.skip gets geth puth delh idOf SV.cells? setL qab7 qab8 sbin eq0 eq1 eqL qab5 qabh qabi qaa5 qaat qaae qaau qaa6 qaam qaan FrzOk qaba qaa0 qaa8 qaa9 qaav qaaz qabe qaa1 qaax qabb qaaw frzS frzH frz frz1 frz0 SlotsM ObjsM ObjM rn ren ren1 ren0 qabp qabs qabt qabo qabf qab1 qab0 CoL qabc qabw dels adds idsH qabq qakj qah0 qaki qals
theorem qbbb (k : Int) (L : List Entry) (e : Entry) : (atI k L e = atN k L e ∧ atN k L e < L.length) ∨ atI k L e = -1 := by
 unfold atI
 split
 ·exact .inl ⟨rfl, ‹_›⟩
 ·exact .inr rfl
end Go.Proofs.YtalejfkholifpaaGreat
namespace Go.Proofs.YtalejfkholifpaaGreat
set_option linter.all false
open Go.RowKit
attribute [local simp] qaas qaar qaac qaag qaad qaaf qaap qaaq qaab qaa4 SOp.run SX.ev putd puts argS upds SOp.touch SSt.keep SSt.skip gets geth puth delh idOf SV.cells? setL qab7 qab8 sbin eq0 eq1 eqL qab5 qabh qabi qaa5 qaat qaae qaau qaa6 qaam qaan FrzOk qaba qaa0 qaa8 qaa9 qaav qaaz qabe qaa1 qaax qabb qaaw frzS frzH frz frz1 frz0 SlotsM ObjsM ObjM rn ren ren1 ren0 qabp qabs qabt qabo qabf qab1 qab0 CoL qabc qabw dels adds idsH qabq qakj qah0 qaki qals
theorem qais : ∀ xs : List Int, qan8 xs xs = 0
 | [] => rfl
 | x :: xs => by show (if x < x then (-1 : Int) else if x > x then 1 else qan8 xs xs) = 0; rw [if_neg (by omega), if_neg (by omega)]; exact qais xs
theorem qair : ∀ xs ys : List Int, qan8 ys xs = - qan8 xs ys
 | [], [] => rfl
 | [], _ :: _ => rfl
 | _ :: _, [] => rfl
 | x :: xs, y :: ys => by
  show (if y < x then (-1 : Int) else if y > x then 1 else qan8 ys xs) = - (if x < y then (-1 : Int) else if x > y then 1 else qan8 xs ys)
  rw [qair xs ys]
  (repeat' split) <;> omega
theorem qavy {a b : Entry} (h : qahm a b = true) : qahm b a = false := by
 unfold qahm at h ⊢
 have h1 := qair a.keys b.keys
 have h2 := qair a.masks b.masks
 rw [h1, h2]
 (repeat' split at h) <;> (repeat' split) <;> simp_all <;> omega
end Go.Proofs.YtalejfkholifpaaGreat
namespace Go.Proofs.YtalejfkholifpaaGreat
set_option linter.all false
open Go.RowKit
def entE (s : XSlot) : Entry := ⟨s.keys, [], 0, 0, s.act, s.args⟩
structure RelX (k m : Int) (S : XTab) (L : List Entry) : Prop where
 inv : XInv k m S
 perm : ((qafh S).map entE).Perm L
theorem RelX.len {k m : Int} {S : XTab} {L : List Entry} (h : RelX k m S L) : L.length = cnt S := by
 rw [← h.perm.length_eq, List.length_map, qaix]
end Go.Proofs.YtalejfkholifpaaGreat
namespace Go.Proofs.YtalejfkholifpaaGreat
set_option linter.all false
open Go.RowKit
theorem RelX.mem {k m : Int} {S : XTab} {L : List Entry} (h : RelX k m S L) (x : Entry) : (∃ s ∈ qafh S, entE s = x) ↔ x ∈ L := by
 rw [← h.perm.mem_iff, List.mem_map]
theorem qapl {S : XTab} {r : Nat} (hr : S[r]? = some none) (s t : XSlot) : t ∈ qafh (S.set r (some s)) ↔ t = s ∨ t ∈ qafh S := by
 have hl := qaco hr
 rw [qacx, qacx]
 constructor
 ·rintro ⟨j, hj⟩
  rw [qacd hl] at hj
  split at hj
  ·cases hj; exact .inl rfl
  ·exact .inr ⟨j, hj⟩
 ·rintro (rfl | ⟨j, hj⟩)
  ·exact ⟨r, by rw [qacd hl, if_pos rfl]⟩
  ·refine ⟨j, ?_⟩
   rw [qacd hl, if_neg fun e => by rw [e, hr] at hj; cases hj]; exact hj
end Go.Proofs.YtalejfkholifpaaGreat
namespace Go.Proofs.YtalejfkholifpaaGreat
set_option linter.all false
open Go.RowKit
theorem qal4 : ∀ xs ys : List Int, qan8 xs ys = cmpL xs ys
 | [], [] => rfl
 | [], _ :: _ => rfl
 | _ :: _, [] => rfl
 | x :: xs, y :: ys => by
  have ih := qal4 xs ys
  simp only [qan8, cmpL, ih]
  unfold cmpI
  by_cases h1 : x < y
  ·simp [h1]
  ·by_cases h2 : y < x
   ·simp [h1, h2]
   ·simp [h1, h2]
end Go.Proofs.YtalejfkholifpaaGreat
namespace Go.Proofs.YtalejfkholifpaaGreat
set_option linter.all false
open Go.RowKit
theorem coL_at : ∀ {xs ys : List SV} {j : Nat} {y : SV}, CoL xs ys → ys[j]? = some y → ∃ x, xs[j]? = some x ∧ Co x y
 | x :: xs, y :: ys, 0, _, h, hy => by cases hy; exact ⟨x, rfl, h.1⟩
 | x :: xs, y :: ys, j + 1, _, h, hy => coL_at (xs := xs) (ys := ys) (j := j) h.2 (by simpa using hy)
 | [], [], _, _, _, hy => by simp at hy
 | [], _ :: _, _, _, h, _ => h.elim
 | _ :: _, [], _, _, h, _ => h.elim
theorem qbc0 : ∀ {xs ys : List (List SV)} {j : Nat} {y : List SV}, CoLL xs ys → ys[j]? = some y → ∃ x, xs[j]? = some x ∧ CoL x y
 | x :: xs, y :: ys, 0, _, h, hy => by cases hy; exact ⟨x, rfl, h.1⟩
 | x :: xs, y :: ys, j + 1, _, h, hy => qbc0 (xs := xs) (ys := ys) (j := j) h.2 (by simpa using hy)
 | [], [], _, _, _, hy => by simp at hy
 | [], _ :: _, _, _, h, _ => h.elim
 | _ :: _, [], _, _, h, _ => h.elim
theorem qazb {z : Nat} {xs ys : List (List SV)} (h : CoLL xs ys) : Co (.view z xs) (.view z ys) := fun w A ρ v hv => by
 cases hv with
 | view0 hc ha =>
  have : ys = [] := List.eq_nil_of_length_eq_zero (by rw [← h.length]; rfl)
  subst this; exact .view0 hc ha
 | view cv hn hc hm hA hb hs h1 h2 ho =>
  refine .view cv (by rw [← h.length]; exact hn) hc hm hA hb (h.sizes hs) (fun i e j x he hx => ?_) (fun i e j x he hx => ?_) (fun i e j x he hx => ?_)
  all_goals
   obtain ⟨e', he', hl⟩ := qbc0 h he
   obtain ⟨x', hx', hc'⟩ := coL_at hl hx
  ·exact h1 i e' j x' he' hx'
  ·exact hc' _ _ _ _ (h2 i e' j x' he' hx')
  ·exact ho i e' j x' he' hx'
end Go.Proofs.YtalejfkholifpaaGreat
namespace Go.Proofs.YtalejfkholifpaaGreat
set_option linter.all false
open Go.RowKit
theorem qawq {P : Program} {f : FuncId} {args : List SV} {h1 h2 : Hp} {q : Nat} {r r' : SV} (h : SCalls P f args h1 q r h2) (hc : Co r r') : SCalls P f args h1 q r' h2 :=
 ⟨h.1, fun O ρ fp w vs hok hargs hfr => (h.2 O ρ fp w vs hok hargs hfr).mono fun e w' hh => by
  obtain ⟨v, ρ', fp', e1, q1, q2, q3⟩ := hh
  exact ⟨v, ρ', fp', e1, q1, hc _ _ _ _ q2, q3⟩⟩
theorem qazc : ∀ l : List XSlot, CoLL (l.map xec) ((l.map entE).map qaay)
 | [] => trivial
 | s :: l => ⟨⟨Co.refl _, Co.nilsl 1, Co.refl _, Co.refl _, Co.refl _, Co.refl _, trivial⟩, qazc l⟩
theorem co_xecs (l : List XSlot) : Co (.view 6 (l.map xec)) (ents (l.map entE)) := qazb (qazc l)
theorem xall_c (k m : Int) (hm : m ≤ 1000) (S : XTab) (h : XInv k m S) (id q : Nat) : SCalls Tryz.prog 84 [.ptr id 0] [(id, .abs (xA k m S))] q (ents ((qajk S).map entE)) [(id, .abs (xA k m S))] :=
 qawq (xall_b k m hm S h id q) (co_xecs _)
end Go.Proofs.YtalejfkholifpaaGreat
namespace Go.Proofs.YtalejfkholifpaaGreat
set_option linter.all false
open Go.RowKit
abbrev qba7 : List SOper := [Ka 4 0]
abbrev qba6 : List SOper := [Ma 7 0, Qc 8 162 [7], Ma 5 8]
abbrev qba5 : List SOper := [Ma 9 1, Qc 10 162 [9], Ma 6 10]
abbrev qba4 : List SOper := [Ma 11 5]
abbrev qba3 : List SOper := [Ma 12 6]
abbrev qba2 : List SOper := [Ka 4 0]
abbrev qba1 : List SOper := [Oa 4 (.mv (.c (.int .i64 (-1))))]
abbrev qba0 : List SOper := [Ma 13 6]
abbrev qbaz : List SOper := [Ka 4 1]
abbrev qa4b : List SOper := [Ma 14 0, Ma 15 1, Ba 16 .lss 14 15]
abbrev qa4a : List SOper := [Oa 4 (.mv (.c (.int .i64 (-1))))]
abbrev qa39 : List SOper := [Ma 17 0, Ma 18 1, Ba 19 .gtr 17 18]
abbrev qa38 : List SOper := [Ka 4 1]
abbrev qa37 : List SOper := [Ka 4 0]
def c_cmpi : SCode := (Sf qba7 [0, 1] (Sf qba6 [0, 1, 5] (Sf qba5 [0, 1, 5, 6] (.seq (Sf qba4 [0, 1, 6, 11] (Cn 11 (.seq (Sf qba3 [12] (Cn 12 (Sf qba2 [4] .ret) .skip)) (Sf qba1 [4] .ret)) .skip)) (.seq (Sf qba0 [0, 1, 13] (Cn 13 (Sf qbaz [4] .ret) .skip)) (.seq (Sf qa4b [0, 1, 16] (Cn 16 (Sf qa4a [4] .ret) .skip)) (.seq (Sf qa39 [19] (Cn 19 (Sf qa38 [4] .ret) .skip)) (Sf qa37 [4] .ret))))))))
theorem qaty : comp Tryz.prog 20 ((Tryz.f161.body).getD .skip) = some c_cmpi.erase := by kernel_rfl
abbrev qbay : List SOper := [Ka 4 0]
abbrev qbax : List SOper := [Ma 7 0, Qc 8 108 [7], Ma 5 8]
abbrev qbaw : List SOper := [Ma 9 1, Qc 10 108 [9], Ma 6 10]
abbrev qbav : List SOper := [Ma 11 5]
abbrev qbau : List SOper := [Ma 12 6]
abbrev qbat : List SOper := [Ka 4 0]
abbrev qbas : List SOper := [Oa 4 (.mv (.c (.int .i64 (-1))))]
abbrev qbar : List SOper := [Ma 13 6]
abbrev qbaq : List SOper := [Ka 4 1]
abbrev qa3x : List SOper := [Ma 14 0, Ma 15 1, Ba 16 .lss 14 15]
abbrev qa3w : List SOper := [Oa 4 (.mv (.c (.int .i64 (-1))))]
abbrev qa3v : List SOper := [Ma 17 0, Ma 18 1, Ba 19 .gtr 17 18]
abbrev qa3u : List SOper := [Ka 4 1]
abbrev qa3t : List SOper := [Ka 4 0]
def c_cmpu : SCode := (Sf qbay [0, 1] (Sf qbax [0, 1, 5] (Sf qbaw [0, 1, 5, 6] (.seq (Sf qbav [0, 1, 6, 11] (Cn 11 (.seq (Sf qbau [12] (Cn 12 (Sf qbat [4] .ret) .skip)) (Sf qbas [4] .ret)) .skip)) (.seq (Sf qbar [0, 1, 13] (Cn 13 (Sf qbaq [4] .ret) .skip)) (.seq (Sf qa3x [0, 1, 16] (Cn 16 (Sf qa3w [4] .ret) .skip)) (.seq (Sf qa3v [19] (Cn 19 (Sf qa3u [4] .ret) .skip)) (Sf qa3t [4] .ret))))))))
theorem qatx : comp Tryz.prog 20 ((Tryz.f97.body).getD .skip) = some c_cmpu.erase := by kernel_rfl
abbrev qa17 : List SOper := [Ka 4 0]
abbrev qa16 : List SOper := [Ma 9 0, Na 10 9, Ka 11 0]
abbrev qa15 : List SOper := [Ba 12 .lss 11 10]
abbrev qa14 : List SOper := [Ma 13 11, Ia 14 1 9 11, La 15 14, Ma 5 13, Ma 6 15]
abbrev qa13 : List SOper := [Ma 16 5, Ma 17 1, Na 18 17, Ba 19 .geq 16 18]
abbrev qa12 : List SOper := [Ka 4 1]
abbrev qa11 : List SOper := [Ma 20 1, Ma 21 5, Ia 22 1 20 21, La 23 22, Ma 7 23]
abbrev qa10 : List SOper := [Ma 24 6, Ma 25 7, Qc 26 97 [24, 25], Ma 8 26]
abbrev qa1z : List SOper := [Ma 27 8, Ca 28 .neq 27 0]
abbrev qavl : List SOper := [Ma 29 8, Ma 4 29]
abbrev qavk : List SOper := [Ca 30 .add 11 1, Ma 11 30]
def qane : SCode := (Sf qa15 [0, 1, 9, 10, 11, 12] (.seq (Ce 12 0) (.seq (.block 1 (Sf qa14 [0, 1, 5, 6, 9, 10, 11] (.seq (Sf qa13 [0, 1, 5, 6, 9, 10, 11, 19] (Cn 19 (Sf qa12 [4] .ret) .skip)) (Sf qa11 [0, 1, 6, 7, 9, 10, 11] (Sf qa10 [0, 1, 8, 9, 10, 11] (Sf qa1z [0, 1, 8, 9, 10, 11, 28] (Cn 28 (Sf qavl [4] .ret) .skip))))))) (Rf qavk [0, 1, 9, 10, 11]))))
abbrev qavj : List SOper := [Ma 31 0, Na 32 31, Ma 33 1, Na 34 33, Ba 35 .lss 32 34]
abbrev qavi : List SOper := [Oa 4 (.mv (.c (.int .i64 (-1))))]
abbrev qavh : List SOper := [Ka 4 0]
def c_slcmp : SCode := (Sf qa17 [0, 1] (.seq (Sf qa16 [0, 1, 9, 10, 11] (Bl 0 qane)) (.seq (Sf qavj [35] (Cn 35 (Sf qavi [4] .ret) .skip)) (Sf qavh [4] .ret))))
theorem qapy : comp Tryz.prog 36 ((Tryz.f92.body).getD .skip) = some c_slcmp.erase := by kernel_rfl
abbrev qa36 : List SOper := [Ka 2 0]
abbrev qa35 : List SOper := [Ka 3 0]
abbrev qa34 : List SOper := [Ma 6 0, Na 7 6, Ka 8 0]
abbrev qa33 : List SOper := [Ba 9 .lss 8 7]
abbrev qa32 : List SOper := [Ia 10 1 6 8, La 11 10, Ma 5 11]
abbrev qa31 : List SOper := [Ma 12 5, Ma 13 3, Ba 14 .neq 12 13]
abbrev qa30 : List SOper := [Ma 15 5, Ma 2 15]
abbrev qa3z : List SOper := [Ca 16 .add 8 1, Ma 8 16]
def qan1 : SCode := (Sf qa33 [3, 6, 7, 8, 9] (.seq (Ce 9 0) (.seq (.block 1 (Sf qa32 [3, 5, 6, 7, 8] (Sf qa31 [3, 5, 6, 7, 8, 14] (Cn 14 (Sf qa30 [2] .ret) .skip)))) (Rf qa3z [3, 6, 7, 8]))))
abbrev qa3y : List SOper := [Ma 17 3, Ma 2 17]
def c_cmpor : SCode := (Sf qa36 [0] (Sf qa35 [0, 3] (.seq (Sf qa34 [3, 6, 7, 8] (Bl 0 qan1)) (Sf qa3y [2] .ret))))
theorem qaqa : comp Tryz.prog 18 ((Tryz.f160.body).getD .skip) = some c_cmpor.erase := by kernel_rfl
abbrev qa93 : List SOper := [Oa 2 (.mv (.c (.bool false)))]
abbrev qa92 : List SOper := [Ma 3 0, Ma 4 0, Ba 5 .neq 3 4, Ma 2 5]
def c_nani : SCode := (Sf qa93 [0] (Sf qa92 [2] .ret))
theorem qatt : comp Tryz.prog 6 ((Tryz.f162.body).getD .skip) = some c_nani.erase := by kernel_rfl
abbrev qa91 : List SOper := [Oa 2 (.mv (.c (.bool false)))]
abbrev qa90 : List SOper := [Ma 3 0, Ma 4 0, Ba 5 .neq 3 4, Ma 2 5]
def c_nanu : SCode := (Sf qa91 [0] (Sf qa90 [2] .ret))
theorem qats : comp Tryz.prog 6 ((Tryz.f108.body).getD .skip) = some c_nanu.erase := by kernel_rfl
abbrev qbab : List SOper := [Ka 4 0]
abbrev qbaa : List SOper := [Ma 6 0, Na 7 6, Ka 8 0]
abbrev qa99 : List SOper := [Ba 9 .lss 8 7]
abbrev qa98 : List SOper := [Ma 10 8, Ma 5 10]
abbrev qa97 : List SOper := [Ma 11 1, Ma 12 0, Ma 13 5, Ia 14 6 12 13, Sa 15 6 14, ⟨(some 16), .mv (.c .any), some ((.t 11), [(.t 15)]), none, 0⟩]
abbrev qa96 : List SOper := [Ma 17 5, Ma 4 17]
abbrev qa95 : List SOper := [Ca 18 .add 8 1, Ma 8 18]
def qar8 : SCode := (Sf qa99 [0, 1, 7, 8, 9] (.seq (Ce 9 0) (.seq (.block 1 (Sf qa98 [0, 1, 5, 7, 8] (Sf qa97 [0, 1, 5, 7, 8, 16] (Cn 16 (Sf qa96 [4] .ret) .skip)))) (Rf qa95 [0, 1, 7, 8]))))
abbrev qa94 : List SOper := [Oa 4 (.mv (.c (.int .i64 (-1))))]
def c_idxf : SCode := (Sf qbab [0, 1] (.seq (Sf qbaa [0, 1, 7, 8] (Bl 0 qar8)) (Sf qa94 [4] .ret)))
theorem qatu : comp Tryz.prog 19 ((Tryz.f154.body).getD .skip) = some c_idxf.erase := by kernel_rfl
abbrev qbap : List SOper := [Oa 4 (.mv (.c (.bool false)))]
abbrev qbao : List SOper := [Ma 5 0, Ma 6 1, Qc 7 154 [5, 6], Ca 8 .geq 7 0, Ma 4 8]
def c_conf : SCode := (Sf qbap [0, 1] (Sf qbao [4] .ret))
theorem qatw : comp Tryz.prog 9 ((Tryz.f146.body).getD .skip) = some c_conf.erase := by kernel_rfl
abbrev qbg6 : List SOper := [Oa 2 (.box 38 (.t 0)), Oa 3 (.mv (.c (.bool false)))]
abbrev qbg5 : List SOper := [Sa 4 6 2, Sa 5 6 1, Qc 6 156 [4, 5], Ma 3 6]
def c_at1 : SCode := (Sf qbg6 [1, 2] (Sf qbg5 [3] .ret))
theorem qay9 : comp Tryz.prog 7 ((Tryz.f155.body).getD .skip) = some c_at1.erase := by kernel_rfl
abbrev qbg8 : List SOper := [Oa 2 (.box 38 (.t 0)), Oa 3 (.mv (.c (.bool false)))]
abbrev qbg7 : List SOper := [Fa 4 3 2, La 5 4, Fa 6 3 1, La 7 6, Ba 8 .eql 5 7, Ma 9 8, Oe 10 (Ps 6 2) 9 true, Oe 11 (Ps 6 1) 9 true, Qi 12 148 [10, 11] 9 true 0, Ua 13 9 12, Ma 3 13]
def c_ad1 : SCode := (Sf qbg8 [1, 2] (Sf qbg7 [3] .ret))
theorem qaza : comp Tryz.prog 14 ((Tryz.f147.body).getD .skip) = some c_ad1.erase := by kernel_rfl
abbrev qa4f : List SOper := [Oa 2 (.mv (.c .nilsl))]
abbrev qa4e : List SOper := [Ma 3 0, Oa 4 (.eq 2 false (.t 3) (.c .nilsl))]
abbrev qa4d : List SOper := [Oa 2 (.mv (.c .nilsl))]
abbrev qa4c : List SOper := [Oa 5 (.mkrow 38 6 0 [.nilsl, .nilsl, (.int .i64 0), (.int .i64 0), (.int .i64 0), .nilsl] []), Ma 6 0, Oa 7 (.app 38 6 96 (.t 5) (.t 6)), Ma 2 7]
def c_clrow : SCode := (Sf qa4f [0] (.seq (Sf qa4e [0, 4] (Cn 4 (Sf qa4d [2] .ret) .skip)) (Sf qa4c [2] .ret)))
theorem qai0 : comp Tryz.prog 8 ((Tryz.f151.body).getD .skip) = some c_clrow.erase := by kernel_rfl
abbrev qbgw : List SOper := [Oa 2 (.mv (.c .nilsl))]
abbrev qbgv : List SOper := [Ma 3 0, Oa 4 (.eq 2 false (.t 3) (.c .nilsl))]
abbrev qbgu : List SOper := [Oa 2 (.mv (.c .nilsl))]
abbrev qbgt : List SOper := [Oa 5 (.mkrow 70 1 0 [(.int .u64 0)] []), Ma 6 0, Oa 7 (.app 70 1 8 (.t 5) (.t 6)), Ma 2 7]
def c_clu : SCode := (Sf qbgw [0] (.seq (Sf qbgv [0, 4] (Cn 4 (Sf qbgu [2] .ret) .skip)) (Sf qbgt [2] .ret)))
theorem qaiz : comp Tryz.prog 8 ((Tryz.f32.body).getD .skip) = some c_clu.erase := by kernel_rfl
abbrev qaui : List SOper := [Oa 2 (.box 38 (.t 0)), Oa 3 (.box 38 (.t 1)), Ka 4 0]
abbrev qauh : List SOper := [Fa 5 3 2, Od 6 (Pa 5) 1, Fa 7 3 3, Od 8 (Pa 7) 4, Qh 9 161 [6, 8] 15, Fa 10 0 2, Od 11 (Pa 10) 32, Fa 12 0 3, Od 13 (Pa 12) 128, Qh 14 92 [11, 13] 511, Fa 15 1 2, Od 16 (Pa 15) 1024, Fa 17 1 3, Od 18 (Pa 17) 4096, Qh 19 92 [16, 18] 16383, Od 20 (.mkrow 3 1 3 [(.int .i64 0)] [(0, (.t 9)), (1, (.t 14)), (2, (.t 19))]) 32767, Qh 21 160 [20] 65535, Od 4 (Pm 21) 131071]
def c_torder : SCode := (Sf qaui [2, 3] (.seq (Rt qauh [4]) .ret))
theorem qamm : comp Tryz.prog 22 ((Tryz.f159.body).getD .skip) = some c_torder.erase := by kernel_rfl
abbrev qaz6 : List SOper := [Oa 2 (.box 38 (.t 0)), Oa 3 (.box 38 (.t 1)), Oa 4 (.mv (.c (.bool false)))]
abbrev qaz5 : List SOper := [Sa 5 6 2, Sa 6 6 3, Qc 7 159 [5, 6], Ca 8 .eql 7 0, Ma 4 8]
def c_tsame : SCode := (Sf qaz6 [2, 3] (Sf qaz5 [4] .ret))
theorem qaps : comp Tryz.prog 9 ((Tryz.f156.body).getD .skip) = some c_tsame.erase := by kernel_rfl
abbrev qauq : List SOper := [Oa 2 (.box 38 (.t 0)), Oa 3 (.box 38 (.t 1)), Oa 4 (.mv (.c (.bool false)))]
abbrev qaup : List SOper := [Fa 6 0 2, La 7 6, Na 8 7, Ka 9 0]
abbrev qauo : List SOper := [Ba 10 .lss 9 8]
abbrev qaun : List SOper := [Ma 11 9, Ma 5 11]
abbrev qaum : List SOper := [Fa 12 0 2, Od 13 (Pa 12) 1, Ma 14 5, Od 15 (Pi 1 13 14) 7, Od 16 (Pa 15) 15, Fa 17 0 3, Od 18 (Pa 17) 32, Ma 19 5, Od 20 (Pi 1 18 19) 224, Od 21 (Pa 20) 480, Od 22 (Pb .xor 16 21) 1023, Fa 23 1 2, Od 24 (Pa 23) 2048, Ma 25 5, Od 26 (Pi 1 24 25) 14336, Od 27 (Pa 26) 30720, Od 28 (Pb .and 22 27) 65535, Fa 29 1 3, Od 30 (Pa 29) 131072, Ma 31 5, Od 32 (Pi 1 30 31) 917504, Od 33 (Pa 32) 1966080, Od 34 (Pb .and 28 33) 4194303, Od 35 (.bin .neq (.t 34) (.c (.int .u64 0))) 8388607]
abbrev qaul : List SOper := [Oa 4 (.mv (.c (.bool false)))]
abbrev qauk : List SOper := [Ca 36 .add 9 1, Ma 9 36]
def qaj5 : SCode := (Sf qauo [2, 3, 8, 9, 10] (.seq (Ce 10 0) (.seq (.block 1 (Sf qaun [2, 3, 5, 8, 9] (.seq (Rt qaum [2, 3, 8, 9, 35]) (Cn 35 (Sf qaul [4] .ret) .skip)))) (Rf qauk [2, 3, 8, 9]))))
abbrev qauj : List SOper := [Oa 4 (.mv (.c (.bool true)))]
def c_tmeets : SCode := (Sf qauq [2, 3] (.seq (Sf qaup [2, 3, 8, 9] (Bl 0 qaj5)) (Sf qauj [4] .ret)))
theorem qamn : comp Tryz.prog 37 ((Tryz.f148.body).getD .skip) = some c_tmeets.erase := by kernel_rfl
abbrev qa7n : List SOper := [Oa 1 (.box 38 (.t 0)), Oa 2 (.alloc 38 [.nilsl, .nilsl, (.int .i64 0), (.int .i64 0), (.int .i64 0), .nilsl])]
abbrev qa7m : List SOper := [Fa 3 0 1, Od 4 (Pa 3) 1, Qh 5 32 [4] 3, Fa 6 1 1, Od 7 (Pa 6) 8, Qh 8 32 [7] 31, Fa 9 3 1, Od 10 (Pa 9) 64, Fa 11 4 1, Od 12 (Pa 11) 256, Fa 13 5 1, Od 14 (Pa 13) 1024, Qh 15 32 [14] 3135, Od 16 (.build [.nilsl, .nilsl, (.int .i64 0), (.int .i64 0), (.int .i64 0), .nilsl] [(0, 1, (.t 5)), (1, 1, (.t 8)), (3, 1, (.t 10)), (4, 1, (.t 12)), (5, 1, (.t 15))]) 8191, Og (.store 6 (.t 2) (.t 16)) 16383]
def c_town : SCode := (Sf qa7n [1, 2] (.seq (Rt qa7m [2]) .ret))
theorem qatd : comp Tryz.prog 17 ((Tryz.f150.body).getD .skip) = some c_town.erase := by kernel_rfl
abbrev qa0f : List SOper := [Oa 3 (.box 38 (.t 1)), Oa 4 (.mv (.c (.bool false)))]
abbrev qa0e : List SOper := [Fa 7 0 3, Od 8 (Pa 7) 1, Od 9 (Pn 8) 3, Ma 10 0, Od 11 (.nilc (.t 10)) 8, Od 12 (Pf 0 11) 24, Od 13 (Pa 12) 56, Od 14 (Pb .neq 9 13) 127, Od 15 (Pm 14) 255, Of 16 (Pf 1 3) 15 false 511, Of 17 (Pa 16) 15 false 1023, Of 18 (Pn 17) 15 false 2047, Of 19 (Pm 0) 15 false 511, Of 20 (.nilc (.t 19)) 15 false 4607, Of 21 (Pf 0 20) 15 false 12799, Of 22 (Pa 21) 15 false 29183, Of 23 (Pb .neq 18 22) 15 false 65535, Od 24 (Pt 15 23) 131071]
abbrev qa0d : List SOper := [Oa 4 (.mv (.c (.bool false)))]
abbrev qa0c : List SOper := [Fa 25 0 3, La 26 25, Na 27 26, Ka 28 0]
abbrev qa0b : List SOper := [Ba 29 .lss 28 27]
abbrev qa0a : List SOper := [Ma 30 28, Ia 31 1 26 28, La 32 31, Ma 5 30, Ma 6 32]
abbrev qaz9 : List SOper := [Ma 33 6, Fa 34 1 3, La 35 34, Ma 36 5, Ia 37 1 35 36, La 38 37, Ba 39 .andNot 33 38, Oa 40 (.bin .neq (.t 39) (.c (.int .u64 0)))]
abbrev qaz8 : List SOper := [Oa 4 (.mv (.c (.bool false)))]
abbrev qaz7 : List SOper := [Ca 41 .add 28 1, Ma 28 41]
def qamz : SCode := (Sf qa0b [3, 26, 27, 28, 29] (.seq (Ce 29 0) (.seq (.block 1 (Sf qa0a [3, 5, 6, 26, 27, 28] (Sf qaz9 [3, 26, 27, 28, 40] (Cn 40 (Sf qaz8 [4] .ret) .skip)))) (Rf qaz7 [3, 26, 27, 28]))))
abbrev qau0 : List SOper := [Fa 42 3 3, La 43 42, Ca 44 .geq 43 0, Ma 45 44, Oe 46 (Pf 3 3) 45 true, Oe 47 (Pa 46) 45 true, Oe 48 (Pc .leq 47 1000) 45 true, Ua 49 45 48, Ma 4 49]
def c_tfits : SCode := (Sf qa0f [0, 3] (.seq (.seq (Rt qa0e [3, 24]) (Cn 24 (Sf qa0d [4] .ret) .skip)) (.seq (Sf qa0c [3, 26, 27, 28] (Bl 0 qamz)) (Sf qau0 [4] .ret))))
theorem qapt : comp Tryz.prog 50 ((Tryz.f144.body).getD .skip) = some c_tfits.erase := by kernel_rfl
abbrev qbfn : List SOper := [Oa 3 (.box 38 (.t 1)), Ka 4 0]
abbrev qbfm : List SOper := [Ma 5 0, Oa 6 (.nilc (.t 5)), Fa 7 2 6, La 8 7, Oa 9 (.mkfn (.func 155) [] [(.t 3)]), Qc 10 154 [8, 9], Ma 4 10]
def c_tat : SCode := (Sf qbfn [0, 3] (Sf qbfm [4] .ret))
theorem qayp : comp Tryz.prog 11 ((Tryz.f145.body).getD .skip) = some c_tat.erase := by kernel_rfl
abbrev qa8f : List SOper := [Oa 3 (.box 38 (.t 1)), Ka 4 0]
abbrev qa8e : List SOper := [Ma 6 0, Sa 7 6 3, Qc 8 144 [6, 7], Oa 9 (.un .not (.t 8)), Ma 5 9]
abbrev qa8d : List SOper := [Ka 4 6]
abbrev qa8c : List SOper := [Ma 11 0, Sa 12 6 3, Qc 13 145 [11, 12], Ca 14 .geq 13 0, Ma 10 14]
abbrev qa8b : List SOper := [Ka 4 7]
abbrev qa8a : List SOper := [Ma 16 0, Oa 17 (.nilc (.t 16)), Fa 18 2 17, La 19 18, Oa 20 (.mkfn (.func 147) [] [(.t 3)]), Qc 21 146 [19, 20], Ma 15 21]
abbrev qa79 : List SOper := [Ka 4 8]
abbrev qa78 : List SOper := [Ma 23 0, Od 24 (.nilc (.t 23)) 1, Od 25 (Pf 2 24) 3, Od 26 (Pa 25) 7, Od 27 (Pn 26) 15, Ma 28 0, Od 29 (.nilc (.t 28)) 32, Od 30 (Pf 1 29) 96, Od 31 (Pa 30) 224, Od 32 (Pb .geq 27 31) 511, Od 22 (Pm 32) 1023]
abbrev qa77 : List SOper := [Ka 4 10]
abbrev qam2 : List SOper := [Ma 33 0, Od 34 (.nilc (.t 33)) 1, Od 35 (Pf 2 34) 3, Od 36 (.mkifc 176 (.t 35)) 7, Sa 37 6 3, Qh 38 150 [37] 16, Od 39 (.mkifc 38 (.t 38)) 48, Qh 40 149 [36, 39] 127]
abbrev qa0x : List SOper := [Ka 4 0]
def c_tadd : SCode := (Sf qa8f [0, 3] (.seq (.block 0 (Sf qa8e [0, 3, 5] (Cn 5 (Sf qa8d [4] .ret) (Sf qa8c [0, 3, 10] (Cn 10 (Sf qa8b [4] .ret) (Sf qa8a [0, 3, 15] (Cn 15 (Sf qa79 [4] .ret) (.seq (Rt qa78 [0, 3, 22]) (Cn 22 (Sf qa77 [4] .ret) .skip))))))))) (.seq (Rt qam2 []) (Sf qa0x [4] .ret))))
theorem qati : comp Tryz.prog 41 ((Tryz.f139.body).getD .skip) = some c_tadd.erase := by kernel_rfl
abbrev qa7z : List SOper := [Oa 3 (.box 38 (.t 1)), Ka 4 0]
abbrev qa7y : List SOper := [Ma 6 0, Sa 7 6 3, Qc 8 144 [6, 7], Oa 9 (.un .not (.t 8))]
abbrev qa7x : List SOper := [Ka 4 6]
abbrev qa7w : List SOper := [Ma 10 0, Sa 11 6 3, Qc 12 145 [10, 11], Ma 5 12]
abbrev qa7v : List SOper := [Ma 13 5, Ca 14 .lss 13 0]
abbrev qa7u : List SOper := [Ka 4 9]
abbrev qa7t : List SOper := [Ma 15 0, Od 16 (.nilc (.t 15)) 1, Od 17 (Pf 2 16) 3, Od 18 (Pa 17) 7, Ma 19 5, Sa 20 6 3, Qh 21 150 [20] 32, Od 22 (Pi 6 18 19) 127, Og (.store 6 (.t 22) (.t 21)) 255]
abbrev qa7s : List SOper := [Ka 4 0]
def c_tchg : SCode := (Sf qa7z [0, 3] (.seq (Sf qa7y [0, 3, 9] (Cn 9 (Sf qa7x [4] .ret) .skip)) (Sf qa7w [0, 3, 5] (.seq (Sf qa7v [0, 3, 5, 14] (Cn 14 (Sf qa7u [4] .ret) .skip)) (.seq (Rt qa7t []) (Sf qa7s [4] .ret))))))
theorem qatg : comp Tryz.prog 23 ((Tryz.f141.body).getD .skip) = some c_tchg.erase := by kernel_rfl
abbrev qa0w : List SOper := [Oa 3 (.box 38 (.t 1)), Ka 4 0]
abbrev qa0v : List SOper := [Ma 6 0, Sa 7 6 3, Qc 8 144 [6, 7], Oa 9 (.un .not (.t 8))]
abbrev qa0u : List SOper := [Ka 4 6]
abbrev qa0t : List SOper := [Ma 10 0, Sa 11 6 3, Qc 12 145 [10, 11], Ma 5 12]
abbrev qa0s : List SOper := [Ma 13 5, Ca 14 .lss 13 0]
abbrev qa0r : List SOper := [Ka 4 9]
abbrev qa0q : List SOper := [Ma 15 0, Oa 16 (.nilc (.t 15)), Fa 17 2 16, Oa 18 (.mkifc 176 (.t 17)), Ma 19 5, Qc 20 153 [18, 19]]
abbrev qa0p : List SOper := [Ka 4 0]
def c_tdrop : SCode := (Sf qa0w [0, 3] (.seq (Sf qa0v [0, 3, 9] (Cn 9 (Sf qa0u [4] .ret) .skip)) (Sf qa0t [0, 5] (.seq (Sf qa0s [0, 5, 14] (Cn 14 (Sf qa0r [4] .ret) .skip)) (Sf qa0q [] (Sf qa0p [4] .ret))))))
theorem qapv : comp Tryz.prog 21 ((Tryz.f142.body).getD .skip) = some c_tdrop.erase := by kernel_rfl
abbrev qa0o : List SOper := [Oa 4 (.alloc 46 [(.int .i64 0), .nilsl]), Oa 5 (.mv (.c (.bool false)))]
abbrev qa0n : List SOper := [Ma 11 1, Na 12 11, Ma 13 0, Oa 14 (.nilc (.t 13)), Fa 15 0 14, La 16 15, Ba 17 .neq 12 16]
abbrev qa0m : List SOper := [Oa 18 (.build [(.int .i64 0), .nilsl] []), Va 2 4 18, Oa 5 (.mv (.c (.bool false)))]
abbrev qa0l : List SOper := [Ma 19 0, Qc 20 140 [19], Na 21 20, Ka 22 0]
abbrev qa0k : List SOper := [Ba 23 .lss 22 21]
abbrev qa0j : List SOper := [Ia 24 6 20 22, Sa 25 6 24, Oa 7 (.alloc 38 [.nilsl, .nilsl, (.int .i64 0), (.int .i64 0), (.int .i64 0), .nilsl]), Va 6 7 25]
abbrev qa0i : List SOper := [Oa 8 (.mv (.c (.bool true)))]
abbrev qa0h : List SOper := [Ma 26 1, Na 27 26, Ka 28 0]
abbrev qa0g : List SOper := [Ba 29 .lss 28 27]
abbrev qau7 : List SOper := [Ma 30 28, Ia 31 1 26 28, La 32 31, Ma 9 30, Ma 10 32]
abbrev qau6 : List SOper := [Ma 33 8, Od 34 (Pm 33) 1, Of 35 (Pm 10) 34 true 3, Of 36 (Pf 1 7) 34 true 3, Of 37 (Pa 36) 34 true 11, Of 38 (Pm 9) 34 true 3, Of 39 (Pi 1 37 38) 34 true 59, Of 40 (Pa 39) 34 true 123, Of 41 (Pb .and 35 40) 34 true 255, Of 42 (Pf 0 7) 34 true 3, Of 43 (Pa 42) 34 true 515, Of 44 (Pm 9) 34 true 3, Of 45 (Pi 1 43 44) 34 true 3587, Of 46 (Pa 45) 34 true 7683, Of 47 (Pb .eql 41 46) 34 true 16383, Od 48 (Pu 34 47) 32767, Od 8 (Pm 48) 65535]
abbrev qau5 : List SOper := [Ca 49 .add 28 1, Ma 28 49]
def qam1 : SCode := (Sf qa0g [1, 4, 7, 8, 20, 21, 22, 26, 27, 28, 29] (.seq (Ce 29 2) (.seq (.block 3 (Sf qau7 [1, 4, 7, 8, 9, 10, 20, 21, 22, 26, 27, 28] (Rt qau6 [1, 4, 7, 8, 20, 21, 22, 26, 27, 28]))) (Rf qau5 [1, 4, 7, 8, 20, 21, 22, 26, 27, 28]))))
abbrev qau4 : List SOper := [Ma 50 8]
abbrev qau3 : List SOper := [Fa 51 4 7, La 52 51, Fa 53 5 7, La 54 53, Oa 55 (.build [(.int .i64 0), .nilsl] [(0, 1, (.t 52)), (1, 1, (.t 54))]), Va 2 4 55, Oa 5 (.mv (.c (.bool true)))]
abbrev qau2 : List SOper := [Ca 56 .add 22 1, Ma 22 56]
def qam0 : SCode := (Sf qa0k [1, 4, 20, 21, 22, 23] (.seq (Ce 23 0) (.seq (.block 1 (Sf qa0j [1, 4, 7, 20, 21, 22] (Sf qa0i [1, 4, 7, 8, 20, 21, 22] (.seq (Sf qa0h [1, 4, 7, 8, 20, 21, 22, 26, 27, 28] (Bl 2 qam1)) (Sf qau4 [1, 4, 7, 20, 21, 22, 50] (Cn 50 (Sf qau3 [4, 5] .ret) .skip)))))) (Rf qau2 [1, 4, 20, 21, 22]))))
abbrev qau1 : List SOper := [Oa 57 (.build [(.int .i64 0), .nilsl] []), Va 2 4 57, Oa 5 (.mv (.c (.bool false)))]
def c_tfind : SCode := (Sf qa0o [0, 1, 4] (.seq (Sf qa0n [0, 1, 4, 17] (Cn 17 (Sf qa0m [4, 5] .ret) .skip)) (.seq (Sf qa0l [1, 4, 20, 21, 22] (Bl 0 qam0)) (Sf qau1 [4, 5] .ret))))
theorem qapu : comp Tryz.prog 58 ((Tryz.f143.body).getD .skip) = some c_tfind.erase := by kernel_rfl
abbrev qa7r : List SOper := [Ka 2 0]
abbrev qa7q : List SOper := [Ma 3 0, Oa 4 (.nilc (.t 3)), Fa 5 2 4, La 6 5, Na 7 6, Ma 2 7]
def c_tlen : SCode := (Sf qa7r [0] (Sf qa7q [2] .ret))
theorem qatf : comp Tryz.prog 8 ((Tryz.f132.body).getD .skip) = some c_tlen.erase := by kernel_rfl
abbrev qa76 : List SOper := [Oa 2 (.mv (.c .nilsl))]
abbrev qa75 : List SOper := [Ma 7 0, Oa 8 (.nilc (.t 7)), Fa 9 2 8, La 10 9, Qc 11 151 [10], Oa 3 (.alloc 106 [.nilsl]), Va 1 3 11]
abbrev qa74 : List SOper := [Oa 4 (.mv (.c .nilsl))]
abbrev qa73 : List SOper := [La 12 3, Na 13 12, Ca 14 .gtr 13 0]
abbrev qa72 : List SOper := [Oa 16 (.mkifc 176 (.t 3)), Qc 17 152 [16], Oa 18 (.asrt 38 (.agg [.nilsl, .nilsl, (.int .i64 0), (.int .i64 0), (.int .i64 0), .nilsl]) (.t 17)), Ma 15 18, Oa 19 (.extr (.t 15) 0), Oa 20 (.extr (.t 15) 1), Oa 5 (.alloc 38 [.nilsl, .nilsl, (.int .i64 0), (.int .i64 0), (.int .i64 0), .nilsl]), Va 6 5 19, Ma 6 20]
abbrev qa71 : List SOper := [Ma 21 6]
abbrev qa70 : List SOper := [Ma 22 4, Sa 23 6 5, Qc 24 150 [23], Oa 25 (.mkrow 38 6 1 [.nilsl, .nilsl, (.int .i64 0), (.int .i64 0), (.int .i64 0), .nilsl] [(0, (.t 24))]), Oa 26 (.app 38 6 96 (.t 22) (.t 25)), Ma 4 26]
def qary : SCode := (.seq (Sf qa73 [3, 4, 14] (Ce 14 0)) (.block 1 (Sf qa72 [3, 4, 5, 6] (Sf qa71 [3, 4, 5, 21] (Cn 21 (Rf qa70 [3, 4]) .skip)))))
abbrev qarx : List SOper := [Ma 27 4, Ma 2 27]
def c_tall : SCode := (Sf qa76 [0] (Sf qa75 [3] (Sf qa74 [3, 4] (.seq (Bl 0 qary) (Sf qarx [2] .ret)))))
theorem qath : comp Tryz.prog 28 ((Tryz.f140.body).getD .skip) = some c_tall.erase := by kernel_rfl
abbrev qa7p : List SOper := [Oa 4 (.mv (.c .nil))]
abbrev qa7o : List SOper := [Ma 5 0, Ma 6 1, Oa 7 (.build [(.int .i64 0), (.int .i64 0), .nilsl] [(0, 1, (.t 5)), (1, 1, (.t 6))]), Oa 8 (.box 108 (.t 7)), Ma 4 8]
def c_tnew : SCode := (Sf qa7p [0, 1] (Sf qa7o [4] .ret))
theorem qate : comp Tryz.prog 9 ((Tryz.f35.body).getD .skip) = some c_tnew.erase := by kernel_rfl
abbrev qa3j : List SOper := [Ma 4 0, Ma 5 1, ⟨(some 6), .mv (.c .any), some ((.c (.fn (.method "Push") [] [])), [(.t 4), (.t 5)]), none, 0⟩]
abbrev qanr : List SOper := [Ma 7 0, Ma 8 0, ⟨(some 9), .mv (.c .any), some ((.c (.fn (.method "Len") [] [])), [(.t 8)]), none, 0⟩, Ca 10 .sub 9 1, Qc 11 157 [7, 10]]
def c_hpush : SCode := (Sf qa3j [0] (Rf qanr []))
theorem qap7 : comp Tryz.prog 12 ((Tryz.f149.body).getD .skip) = some c_hpush.erase := by kernel_rfl
abbrev qban : List SOper := [Oa 2 (.mv (.c .niliface))]
abbrev qbam : List SOper := [Ma 4 0, ⟨(some 5), .mv (.c .any), some ((.c (.fn (.method "Len") [] [])), [(.t 4)]), none, 0⟩, Ca 6 .sub 5 1, Ma 3 6]
abbrev qbal : List SOper := [Ma 7 0, Ma 8 3, ⟨(some 9), .mv (.c .any), some ((.c (.fn (.method "Swap") [] [])), [(.t 7), (.c (.int .i64 0)), (.t 8)]), none, 0⟩]
abbrev qbak : List SOper := [Ma 10 0, Ma 11 3, Oc 12 158 [(.t 10), (.c (.int .i64 0)), (.t 11)]]
abbrev qbaj : List SOper := [Ma 13 0, ⟨(some 14), .mv (.c .any), some ((.c (.fn (.method "Pop") [] [])), [(.t 13)]), none, 0⟩, Ma 2 14]
def c_hpop : SCode := (Sf qban [0] (Sf qbam [0, 3] (Sf qbal [0, 3] (Sf qbak [0] (Sf qbaj [2] .ret)))))
theorem qatv : comp Tryz.prog 15 ((Tryz.f152.body).getD .skip) = some c_hpop.erase := by kernel_rfl
abbrev qbai : List SOper := [Oa 4 (.mv (.c .niliface))]
abbrev qbah : List SOper := [Ma 6 0, ⟨(some 7), .mv (.c .any), some ((.c (.fn (.method "Len") [] [])), [(.t 6)]), none, 0⟩, Ca 8 .sub 7 1, Ma 5 8]
abbrev qbag : List SOper := [Ma 9 5, Ma 10 1, Ba 11 .neq 9 10]
abbrev qbaf : List SOper := [Ma 12 0, Ma 13 1, Ma 14 5, ⟨(some 15), .mv (.c .any), some ((.c (.fn (.method "Swap") [] [])), [(.t 12), (.t 13), (.t 14)]), none, 0⟩]
abbrev qbae : List SOper := [Ma 16 0, Ma 17 1, Ma 18 5, Qc 19 158 [16, 17, 18], Oa 20 (.un .not (.t 19))]
abbrev qbad : List SOper := [Ma 21 0, Ma 22 1, Qc 23 157 [21, 22]]
abbrev qbac : List SOper := [Ma 24 0, ⟨(some 25), .mv (.c .any), some ((.c (.fn (.method "Pop") [] [])), [(.t 24)]), none, 0⟩, Ma 4 25]
def c_hrem : SCode := (Sf qbai [0, 1] (Sf qbah [0, 1, 5] (.seq (Sf qbag [0, 1, 5, 11] (Cn 11 (Sf qbaf [0, 1, 5] (Sf qbae [0, 1, 20] (Cn 20 (Rf qbad [0]) .skip))) .skip)) (Sf qbac [4] .ret))))
theorem qahl : comp Tryz.prog 26 ((Tryz.f153.body).getD .skip) = some c_hrem.erase := by kernel_rfl
abbrev qbgs : List SOper := [Ma 5 1, Ca 6 .sub 5 1, Ca 7 .quo 6 2, Ma 4 7]
abbrev qbgr : List SOper := [Ma 8 4, Ma 9 1, Ba 10 .eql 8 9, Ma 11 10, Oe 12 (Pm 0) 11 false, Oe 13 (Pm 1) 11 false, Oe 14 (Pm 4) 11 false, ⟨(some 15), .mv (.c .any), some ((.c (.fn (.method "Less") [] [])), [(.t 12), (.t 13), (.t 14)]), (some (11, false)), 0⟩, Oe 16 (.un .not (.t 15)) 11 false, Ta 17 11 16]
abbrev qbgq : List SOper := [Ma 18 0, Ma 19 4, Ma 20 1, ⟨(some 21), .mv (.c .any), some ((.c (.fn (.method "Swap") [] [])), [(.t 18), (.t 19), (.t 20)]), none, 0⟩]
abbrev qbgp : List SOper := [Ma 22 4, Ma 1 22]
def qaqm : SCode := (.block 1 (Sf qbgs [0, 1, 4] (.seq (Sf qbgr [0, 1, 4, 17] (Cn 17 (.exit 0) .skip)) (Sf qbgq [0, 4] (Rf qbgp [0, 1])))))
def c_hup : SCode := (Bl 0 qaqm)
theorem qay8 : comp Tryz.prog 23 ((Tryz.f157.body).getD .skip) = some c_hup.erase := by kernel_rfl
abbrev qa3s : List SOper := [Oa 6 (.mv (.c (.bool false)))]
abbrev qa3r : List SOper := [Ma 11 1, Ma 7 11]
abbrev qa3q : List SOper := [Ma 12 7, Oa 13 (.bin .mul (.c (.int .i64 2)) (.t 12)), Ca 14 .add 13 1, Ma 8 14]
abbrev qa3p : List SOper := [Ma 15 8, Ma 16 2, Ba 17 .geq 15 16, Ma 18 17, Oe 19 (Pm 8) 18 false, Oe 20 (Pc .lss 19 0) 18 false, Ta 21 18 20]
abbrev qa3o : List SOper := [Ma 22 8, Ma 9 22]
abbrev qa3n : List SOper := [Ma 23 8, Ca 24 .add 23 1, Ma 10 24]
abbrev qa3m : List SOper := [Ma 25 10, Ma 26 2, Ba 27 .lss 25 26, Ma 28 27, Oe 29 (Pm 0) 28 true, Oe 30 (Pm 10) 28 true, Oe 31 (Pm 8) 28 true, ⟨(some 32), .mv (.c .any), some ((.c (.fn (.method "Less") [] [])), [(.t 29), (.t 30), (.t 31)]), (some (28, true)), 0⟩, Ua 33 28 32]
abbrev qa3l : List SOper := [Ma 34 10, Ma 9 34]
abbrev qa3k : List SOper := [Ma 35 0, Ma 36 9, Ma 37 7, ⟨(some 38), .mv (.c .any), some ((.c (.fn (.method "Less") [] [])), [(.t 35), (.t 36), (.t 37)]), none, 0⟩, Oa 39 (.un .not (.t 38))]
abbrev qavu : List SOper := [Ma 40 0, Ma 41 7, Ma 42 9, ⟨(some 43), .mv (.c .any), some ((.c (.fn (.method "Swap") [] [])), [(.t 40), (.t 41), (.t 42)]), none, 0⟩]
abbrev qavt : List SOper := [Ma 44 9, Ma 7 44]
def qans : SCode := (.block 1 (Sf qa3q [0, 1, 2, 7, 8] (.seq (Sf qa3p [0, 1, 2, 7, 8, 21] (Cn 21 (.exit 0) .skip)) (Sf qa3o [0, 1, 2, 7, 8, 9] (.seq (Sf qa3n [0, 1, 2, 7, 8, 9, 10] (Sf qa3m [0, 1, 2, 7, 9, 10, 33] (Cn 33 (Rf qa3l [0, 1, 2, 7, 9]) .skip))) (.seq (Sf qa3k [0, 1, 2, 7, 9, 39] (Cn 39 (.exit 0) .skip)) (Sf qavu [0, 1, 2, 9] (Rf qavt [0, 1, 2, 7]))))))))
abbrev qavs : List SOper := [Ma 45 7, Ma 46 1, Ba 47 .gtr 45 46, Ma 6 47]
def c_hdown : SCode := (Sf qa3s [0, 1, 2] (Sf qa3r [0, 1, 2, 7] (.seq (Bl 0 qans) (Sf qavs [6] .ret))))
theorem qap8 : comp Tryz.prog 48 ((Tryz.f158.body).getD .skip) = some c_hdown.erase := by kernel_rfl
abbrev qa3a : List SOper := [Ka 2 0]
abbrev qa29 : List SOper := [Ma 3 0, Na 4 3, Ma 2 4]
def c_rwlen : SCode := (Sf qa3a [0] (Sf qa29 [2] .ret))
theorem qap5 : comp Tryz.prog 5 ((Tryz.f163.body).getD .skip) = some c_rwlen.erase := by kernel_rfl
abbrev qavr : List SOper := [Oa 6 (.mv (.c (.bool false)))]
abbrev qavq : List SOper := [Ma 7 0, Ma 8 1, Od 9 (Pi 6 7 8) 3, Od 10 (Ps 6 9) 7, Ma 11 0, Ma 12 2, Od 13 (Pi 6 11 12) 48, Od 14 (Ps 6 13) 112, Qh 15 159 [10, 14] 255, Od 16 (Pc .lss 15 0) 511, Od 6 (Pm 16) 1023]
def c_rwless : SCode := (Sf qavr [0, 1, 2] (.seq (Rt qavq [6]) .ret))
theorem qams : comp Tryz.prog 17 ((Tryz.f164.body).getD .skip) = some c_rwless.erase := by kernel_rfl
abbrev qavm : List SOper := [Ma 6 0, Ma 7 1, Ma 8 0, Ma 9 2, Ma 10 0, Ma 11 2, Od 12 (Pi 6 10 11) 48, Od 13 (Ps 6 12) 112, Ma 14 0, Ma 15 1, Od 16 (Pi 6 14 15) 768, Od 17 (Ps 6 16) 1792, Od 18 (Pi 6 6 7) 4083, Og (.store 6 (.t 18) (.t 13)) 8179, Od 19 (Pi 6 8 9) 16383, Og (.store 6 (.t 19) (.t 17)) 32767]
def c_rwswap : SCode := (Rt qavm [])
theorem qamq : comp Tryz.prog 20 ((Tryz.f165.body).getD .skip) = some c_rwswap.erase := by kernel_rfl
abbrev qavp : List SOper := [Ma 7 1, Oa 8 (.asrt 38 (.agg [.nilsl, .nilsl, (.int .i64 0), (.int .i64 0), (.int .i64 0), .nilsl]) (.t 7)), Ma 6 8, Oa 9 (.extr (.t 6) 0), Oa 10 (.extr (.t 6) 1), Oa 4 (.alloc 38 [.nilsl, .nilsl, (.int .i64 0), (.int .i64 0), (.int .i64 0), .nilsl]), Va 6 4 9, Ma 5 10]
abbrev qavo : List SOper := [Ma 11 5]
abbrev qavn : List SOper := [Ma 12 0, Ma 13 0, Od 14 (.nilc (.t 13)) 2, Od 15 (Pa 14) 6, Sa 16 6 4, Od 17 (.mkrow 38 6 1 [.nilsl, .nilsl, (.int .i64 0), (.int .i64 0), (.int .i64 0), .nilsl] [(0, (.t 16))]) 16, Od 18 (.app 38 6 96 (.t 15) (.t 17)) 62, Od 19 (.nilc (.t 12)) 127, Og (.store 1 (.t 19) (.t 18)) 255]
def c_rwpush : SCode := (Sf qavp [0, 4, 5] (Sf qavo [0, 4, 11] (Cn 11 (Rt qavn []) .skip)))
theorem qamr : comp Tryz.prog 20 ((Tryz.f168.body).getD .skip) = some c_rwpush.erase := by kernel_rfl
abbrev qa28 : List SOper := [Oa 2 (.mv (.c .niliface))]
abbrev qa27 : List SOper := [Ma 5 0, Oa 6 (.nilc (.t 5)), La 7 6, Na 8 7, Ca 9 .sub 8 1, Ma 3 9]
abbrev qa26 : List SOper := [Ma 10 0, Oa 11 (.nilc (.t 10)), La 12 11, Ma 13 3, Ia 14 6 12 13, Sa 15 6 14, Oa 4 (.alloc 38 [.nilsl, .nilsl, (.int .i64 0), (.int .i64 0), (.int .i64 0), .nilsl]), Va 6 4 15]
abbrev qa25 : List SOper := [Ma 16 0, Ma 17 0, Oa 18 (.nilc (.t 17)), La 19 18, Ma 20 3, Oa 21 (.slice 6 (.t 19) none (some (.t 20))), Oa 22 (.nilc (.t 16)), Va 1 22 21]
abbrev qa24 : List SOper := [Sa 23 6 4, Oa 24 (.mkifc 38 (.t 23)), Ma 2 24]
def c_rwpop : SCode := (Sf qa28 [0] (Sf qa27 [0, 3] (Sf qa26 [0, 3, 4] (Sf qa25 [4] (Sf qa24 [2] .ret)))))
theorem qap4 : comp Tryz.prog 25 ((Tryz.f167.body).getD .skip) = some c_rwpop.erase := by kernel_rfl
end Go.Proofs.YtalejfkholifpaaGreat
