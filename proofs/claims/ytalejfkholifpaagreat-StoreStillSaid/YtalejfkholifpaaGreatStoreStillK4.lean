/-
  Texts joined: XShSp XPlnK XCpln XPlnC XCpls XPlnY XPlnZ XTabE XExaB XExaC XShY XExaD XExaE XExaF XExaG XExaO XExaP XExaQ XExaR XExaT XExaU XRowB XRowD XRowH XExaV XExaW XCoLL XExaZ XCter XTerA. No condition.
-/
import Derived.WalkSpells
import Derived.RegionTactic
import Derived.BigRegion
import Derived.Deep.RegionLaw
import Derived.Test.YtalejfkholifpaaGreatProg
import Derived.Test.YtalejfkholifpaaGreatStoreStillK3
namespace Go.Proofs.YtalejfkholifpaaGreat
set_option linter.all false
open Go.RowKit
def RE (a b : Prop) : Prop := a = b
theorem RE.refl (a : Prop) : RE a a := rfl
def Z2 (a b : Prop) : Prop := a ∧ b
def ZI (p a : Prop) : Prop := p → a
theorem yB {a b : Prop} (x : a) (y : b) : Z2 a b := ⟨x, y⟩
theorem yC {p a : Prop} (f : p → a) : ZI p a := f
theorem zE {a g h : Prop} (f : a → g) (e : RE a h) : h → g := fun z => f (by rw [show a = h from e]; exact z)
variable {X : Cx} {s s' : SSt} {Q : SExit → SSt → Prop} {σ : Nat → Nat} {sl : Sl} {hp : Hp} {P : Program} {os : List SOper} {tr : List Tch} {R : SSt → List Tch → Prop}
theorem zcond {c : SX} {x y : SCode} {b : Bool} (hb : c.ev s.sl = .bool b) (h : Z2 (ZI (b = true) (SWp X x Q s)) (ZI (b = false) (SWp X y Q s))) : SWp X (.cond c x y) Q s := qabc hb h.1 h.2
theorem zgrd {o : SOper} {b want : Bool} (h : Z2 (ZI (b = true) (qaj4 P (.bool true) want o os s tr R)) (ZI (b = false) (qaj4 P (.bool false) want o os s tr R))) : qaj4 P (.bool b) want o os s tr R := qaaa h.1 h.2
theorem zdrw {l : List (SOper × Tch)} {p : Prop} (h : qaif l = true) : p → qaif l = true ∧ p := fun hp => ⟨h, hp⟩
theorem zrd {ops : List SOper} {live : List Nat} {P : Program} (hP : X.P = P) (hm : P.follows .mixedOrders = true) (h : SOps X.P ops s [] fun s' tr => qaif (ops.zip tr.reverse) = true ∧ Q .normal (s'.keep live)) : SWp X (.reg true ops live) Q s := qaal (by rw [hP]; exact hm) h
theorem zrg {c : Prop} {hd : Decidable c} {r : Option (SV × Upd × Nat)} {dst : Option Nat} {t : List Nat} {h : Prop} (hc : c) (e : RE (qa8i P r dst t os s tr R) h) : h → qa8i P (@rg _ c hd r) dst t os s tr R := fun z => qaan hc ((show qa8i P r dst t os s tr R = h from e) ▸ z)
theorem zs0 (h : SOps P os s tr R) : SOps P os s tr R := h
theorem zs1 {v : SV} {want : Bool} {o : SOper} (h : qaj4 P v want o os s tr R) : qaj4 P v want o os s tr R := h
theorem zs2 {r : Option (SV × Upd × Nat)} {dst : Option Nat} {t : List Nat} (h : qa8i P r dst t os s tr R) : qa8i P r dst t os s tr R := h
theorem yA {g h : Prop} (k : h) (f : h → g := by
 first
 | (with_reducible first | exact zA | exact qaa3 | exact qaa2)
 | ((with_reducible apply zdrw); with_unfolding_all rfl)
 | ((with_reducible first | apply zE qaao | apply zE (zrd hP mixed)); (try rw [hP]); simp -implicitDefEqProofs [*]; exact RE.refl _)
 | ((with_reducible first | apply zE qaah | apply zE qaak); (try simp -implicitDefEqProofs [*]); exact RE.refl _)
 | ((with_reducible apply zE qabi); (try simp only [qaa4, qaac, qaaj]); exact RE.refl _)
 | (with_reducible exact zcond rfl)
 | ((with_reducible first | apply zE zs0 | apply zE zs1 | apply zE zs2); simp -implicitDefEqProofs [*]; exact RE.refl _)
 | ((with_reducible apply zrg); (focus (first | omega | (unfold maxLen; omega))); (try simp -implicitDefEqProofs [*]); exact RE.refl _)
 | (with_reducible first | exact zgrd | exact zM hm | exact zN hm | exact zO hm | exact zP hm)) : g := f k
theorem zl {t : Nat} {v : SV} {r : Sl} (h : Z2 (Co (gets sl t) (ren σ v)) (SlotsM σ sl r)) : SlotsM σ sl ((t, v) :: r) := h
theorem zo {i : Nat} {t : TypeId} {cs ds : List SV} {r : Hp} (e : geth hp (σ i) = some (.cells t cs)) (h : Z2 (CoL cs (ds.map (ren σ))) (ObjsM σ hp r)) : ObjsM σ hp ((i, .cells t ds) :: r) := qaiq e h.1 h.2
theorem zor {i e z : Nat} {es fs : List (List SV)} [PureR fs] {r : Hp} (h : geth hp (σ i) = some (.row e z es)) (h3 : Z2 (es = fs) (ObjsM σ hp r)) : ObjsM σ hp ((i, .row e z fs) :: r) := qahx h h3.1 h3.2
theorem zoq {i e z : Nat} {es fs : List (List SV)} [PureR fs] {r : Hp} (h : geth hp (σ i) = some (.row e z es)) (h3 : es = fs) (g : ObjsM σ hp r) : ObjsM σ hp ((i, .row e z fs) :: r) := qahx h h3 g
theorem zoc {i e z : Nat} {es fs : List (List SV)} {r : Hp} (h : geth hp (σ i) = some (.row e z es)) (h3 : Z2 (CoLL es (fs.map (·.map (ren σ)))) (ObjsM σ hp r)) : ObjsM σ hp ((i, .row e z fs) :: r) := qakr h h3.1 h3.2
theorem zlc {x y : SV} {xs ys : List SV} (h : Z2 (Co x y) (CoL xs ys)) : CoL (x :: xs) (y :: ys) := h
theorem zlm {f : SV → SV} {x y : SV} {xs ys : List SV} (h : Z2 (Co x (f y)) (CoL xs (ys.map f))) : CoL (x :: xs) ((y :: ys).map f) := h
theorem zw {m : Nat} (hm : X.m = m) (h : Z2 (SlotsM (rn ([] ++ diag m [] s'.hp) s.nx) s.sl s'.sl) (Z2 (ObjsM (rn ([] ++ diag m [] s'.hp) s.nx) s.hp s'.hp) (Z2 (qabr m s'.nx ([] ++ diag m [] s'.hp) s'.hp = true) (m ≤ s'.nx)))) : Wk X s s' := qabe [] hm h.1 h.2.1 h.2.2.1 h.2.2.2
theorem zcw {a b c : Int} (h1 : -9223372036854775808 ≤ a + b ∧ a + b ≤ 9223372036854775807) (h : a + b = c) : Co (.int .i64 (IntKind.i64.wrap (a + b))) (.int .i64 c) := qad1 h1 h
theorem yD {g : Prop} (k : g := by
 first
 | (with_reducible first | exact qab3 | exact qacj | exact qacx | exact qac1 | exact Co.refl _ | exact CoL.refl _ | exact CoLL.refl _)
 | ((with_reducible first | refine zga ?_ | refine zgb ?_); rfl)
 | ((with_reducible refine zgc ?_); (first | (with_reducible rfl) | rfl | (simp; done)))
 | ((with_reducible first | refine zgd ?_ | refine zge ?_); (first | omega | (simp; done)))
 | (refine zcw ⟨?_, ?_⟩ ?_ <;> omega)
 | exact Co.refl _
 | exact CoL.refl _
 | exact CoLL.refl _
 | (refine qabt ?_; omega)
 | (refine qabs ?_; first | omega | (simp_all; done))) : g := k
theorem yE {g h : Prop} (k : h) (f : h → g := by
 first
 | ((with_reducible apply zE (zw hm)); (try simp only [zT, puth, Nat.reduceEqDiff, reduceIte, Nat.reduceAdd]); exact RE.refl _)
 | (with_reducible exact zl)
 | exact zo (by rfl)
 | exact zoq (by rfl) (by first | (with_reducible rfl) | rfl | (simp; done))
 | exact zor (by rfl)
 | exact zoc (by rfl)
 | exact qack (by rfl)
 | exact qacg (by rfl)
 | (with_reducible first | exact zlc | exact zlm)) : g := f k
end Go.Proofs.YtalejfkholifpaaGreat
namespace Go.Proofs.YtalejfkholifpaaGreat
set_option linter.all false
open Go.RowKit
attribute [local simp] qaas qaar qaad qaag qaae qaaf qaap qaaq qaab qaa5 SOp.run SX.ev putd puts argS upds SOp.touch SSt.keep SSt.skip gets geth puth delh idOf SV.cells? setL qab4 qab5 sbin eq0 eq1 eqL qab0 qabj qabk qaa4 qaat qaac qaau qaa6 qaaj qaam FrzOk qaa9 qaa0 qaa7 qaa8 qaav qaaz qabf qaa1 qaax qaba qaaw frzS frzH frz frz1 frz0 SlotsM ObjsM ObjM rn ren ren1 ren0 qabq qabs qabt qabp qabg qab2 qab1 CoL qabb qabx dels adds idsH qabr
attribute [local simp] nums
theorem qaqc : qahj Tryz.prog 34 = some true := by kernel_rfl
theorem qakb : qab9 Tryz.prog 34 = some 2 := by kernel_rfl
theorem fin_tc {X : Cx} {sl : Sl} {hp : Hp} {t u nx id n : Nat} {ty : TypeId} {cs ds : List SV} {v v' r : SV} (hm : X.m = 0) (hne : t ≠ u) (hv : gets sl t = v') (hvv : v' = v) (hN : NoN v) (hu : gets sl u = .ptr id 0) (h : geth hp id = some (.cells ty cs)) (ha : qahj X.P ty = some true) (hn : qab9 X.P ty = some n) (hl : ds.length = n) (e : CoL cs ds) (hr : r = .tup [v, .agg ds]) (hd : ∀ σ, ds.map (Go.Proofs.YtalejfkholifpaaGreat.ren σ) = ds) : QFun X [.tmp t, .cell u ty] 0 r [] .ret ⟨sl, hp, nx⟩ := by
 subst hr hl hvv
 have hw : Wk X ⟨sl, hp, nx⟩ ⟨[(t, v'), (u, .ptr 0 0)], [(0, .cells ty ds)], 1⟩ := by
  refine qabe [(0, id)] hm ⟨?_, ?_, trivial⟩ ⟨⟨_, h, rfl, by rw [hd]; exact e⟩, trivial⟩ rfl (by simp)
  ·rw [hv, hN]; exact Co.refl _
  ·rw [hu]; exact Co.refl _
 refine ⟨_, hw, ?_, trivial, by simp⟩
 simp [qaf2, resL, resV, one_, gets, ha, hn, SOp.run, SX.ev, geth, hne]
end Go.Proofs.YtalejfkholifpaaGreat
namespace Go.Proofs.YtalejfkholifpaaGreat
set_option linter.all false
open Go.RowKit
abbrev qas6 : List SOper := [Oa 3 (.box 26 (.t 0)), Ka 6 0]
abbrev qas5 : List SOper := [Fa 12 0 3, La 13 12, Ca 14 .neq 13 1, Ma 15 14, Oe 16 (Pf 0 3) 15 true, Oe 17 (Pa 16) 15 true, Oe 18 (Pc .neq 17 2) 15 true, Ua 19 15 18, Ma 20 19, Oe 21 (Pf 0 3) 20 true, Oe 22 (Pa 21) 20 true, Oe 23 (Pc .neq 22 3) 20 true, Ua 24 20 23, Ma 11 24]
abbrev qas4 : List SOper := [Ka 6 5]
abbrev qas3 : List SOper := [Ma 26 1, Na 27 26, Ca 28 .eql 27 0, Ma 29 28, Oe 30 (Pm 1) 29 false, Oe 31 (Pn 30) 29 false, Oe 32 (Pc .gtr 31 3) 29 false, Ta 33 29 32, Ma 34 33, Oe 35 (Pf 0 3) 34 false, Oe 36 (Pa 35) 34 false, Oe 37 (Pc .eql 36 2) 34 false, Oe 38 (Pm 37) 34 false, Oe 39 (Pm 1) 38 true, Oe 40 (Pn 39) 38 true, Oe 41 (Pc .neq 40 1) 38 true, Oe 42 (Pu 38 41) 34 false, Ta 43 34 42, Ma 44 43, Oe 45 (Pf 2 3) 44 false, Oe 46 (Pa 45) 44 false, Oe 47 (Pn 46) 44 false, Oe 48 (Pc .eql 47 0) 44 false, Ta 49 44 48, Ma 50 49, Oe 51 (Pf 2 3) 50 false, Oe 52 (Pa 51) 50 false, Oe 53 (Pn 52) 50 false, Oe 54 (Pc .gtr 53 4) 50 false, Ta 55 50 54, Ma 25 55]
abbrev qas2 : List SOper := [Ka 6 2]
abbrev qas1 : List SOper := [Fa 57 3 3, La 58 57, Ca 59 .lss 58 0, Ma 60 59, Oe 61 (Pf 3 3) 60 false, Oe 62 (Pa 61) 60 false, Oe 63 (Pc .gtr 62 16) 60 false, Ta 64 60 63, Ma 56 64]
abbrev qas0 : List SOper := [Ka 6 1]
abbrev qasz : List SOper := [Ma 65 1, Na 66 65, Ka 67 0]
abbrev qasy : List SOper := [Ba 68 .lss 67 66]
abbrev qaov : List SOper := [Ia 69 1 65 67, La 70 69, Ma 8 70]
abbrev qaou : List SOper := [Ma 71 8, Ca 72 .lss 71 1, Ma 73 72, Oe 74 (Pm 8) 73 false, Oe 75 (Pc .gtr 74 48) 73 false, Ta 76 73 75]
abbrev qaot : List SOper := [Ka 6 6]
abbrev qaos : List SOper := [Ca 77 .add 67 1, Ma 67 77]
def qai8 : SCode := (Sf qasy [2, 3, 65, 66, 67, 68] (.seq (Ce 68 1) (.seq (.block 2 (Sf qaov [2, 3, 8, 65, 66, 67] (Sf qaou [2, 3, 65, 66, 67, 76] (Cn 76 (Sf qaot [6] .ret) .skip)))) (Rf qaos [2, 3, 65, 66, 67]))))
abbrev qaor : List SOper := [Fa 78 2 3, La 79 78, Na 80 79, Ka 81 0]
abbrev qaoq : List SOper := [Ba 82 .lss 81 80]
abbrev qaop : List SOper := [Ia 83 1 79 81, La 84 83, Ma 10 84]
abbrev qaoo : List SOper := [Ma 85 10, Ca 86 .lss 85 0, Ma 87 86, Oe 88 (Pm 10) 87 false, Oe 89 (Pm 2) 87 false, Oe 90 (Pn 89) 87 false, Oe 91 (Pb .geq 88 90) 87 false, Ta 92 87 91]
abbrev qaon : List SOper := [Ka 6 1]
abbrev qaom : List SOper := [Ca 93 .add 81 1, Ma 81 93]
def qai7 : SCode := (Sf qaoq [2, 3, 79, 80, 81, 82] (.seq (Ce 82 3) (.seq (.block 4 (Sf qaop [2, 3, 10, 79, 80, 81] (Sf qaoo [2, 3, 79, 80, 81, 92] (Cn 92 (Sf qaon [6] .ret) .skip)))) (Rf qaom [2, 3, 79, 80, 81]))))
abbrev qaol : List SOper := [Sa 94 6 3, Ma 95 2, Fa 96 4 3, La 97 96, Fa 98 5 3, La 99 98, Qc 100 37 [94, 95, 97, 99], Ma 6 100]
def c_tcheck : SCode := (Sf qas6 [1, 2, 3] (.seq (.block 0 (Sf qas5 [1, 2, 3, 11] (Cn 11 (Sf qas4 [6] .ret) (Sf qas3 [1, 2, 3, 25] (Cn 25 (Sf qas2 [6] .ret) (Sf qas1 [1, 2, 3, 56] (Cn 56 (Sf qas0 [6] .ret) .skip))))))) (.seq (Sf qasz [2, 3, 65, 66, 67] (Bl 1 qai8)) (.seq (Sf qaor [2, 3, 79, 80, 81] (Bl 3 qai7)) (Sf qaol [6] .ret)))))
theorem qald : comp Tryz.prog 101 ((Tryz.f22.body).getD .skip) = some c_tcheck.erase := by kernel_rfl
abbrev qa6t : List SOper := [Oa 4 (.box 26 (.t 0)), Ka 8 0]
abbrev qa6s : List SOper := [Fa 12 2 4, La 13 12, Ma 14 2, Qc 15 48 [13, 14], Oa 16 (.un .not (.t 15))]
abbrev qa6r : List SOper := [Ka 8 5]
abbrev qa6q : List SOper := [Ma 17 1, Ma 18 2, Ia 19 2 17 18, Fa 20 0 19, La 21 20, Ma 9 21]
abbrev qa6p : List SOper := [Ma 22 3, Na 23 22, Ma 24 9, Na 25 24, Ba 26 .neq 23 25]
abbrev qa6o : List SOper := [Ka 8 2]
abbrev qa6n : List SOper := [Ma 27 3, Na 28 27, Ka 29 0]
abbrev qa6m : List SOper := [Ba 30 .lss 29 28]
abbrev qa6l : List SOper := [Ma 31 29, Ia 32 1 27 29, La 33 32, Ma 10 31, Ma 11 33]
abbrev qa0c : List SOper := [Ma 34 11, Ma 35 9, Ma 36 10, Ia 37 1 35 36, La 38 37, Qc 39 49 [38], Ba 40 .gtr 34 39]
abbrev qa0b : List SOper := [Ka 8 6]
abbrev qa0a : List SOper := [Ca 41 .add 29 1, Ma 29 41]
def qap9 : SCode := (Sf qa6m [9, 27, 28, 29, 30] (.seq (Ce 30 0) (.seq (.block 1 (Sf qa6l [9, 10, 11, 27, 28, 29] (Sf qa0c [9, 27, 28, 29, 40] (Cn 40 (Sf qa0b [8] .ret) .skip)))) (Rf qa0a [9, 27, 28, 29]))))
abbrev qaz9 : List SOper := [Ka 8 0]
def c_says : SCode := (Sf qa6t [1, 2, 3, 4] (.seq (Sf qa6s [1, 2, 3, 16] (Cn 16 (Sf qa6r [8] .ret) .skip)) (Sf qa6q [3, 9] (.seq (Sf qa6p [3, 9, 26] (Cn 26 (Sf qa6o [8] .ret) .skip)) (.seq (Sf qa6n [9, 27, 28, 29] (Bl 0 qap9)) (Sf qaz9 [8] .ret))))))
theorem qarn : comp Tryz.prog 42 ((Tryz.f37.body).getD .skip) = some c_says.erase := by kernel_rfl
abbrev qamq : List SOper := [Oa 4 (.mv (.c (.bool false)))]
abbrev qamp : List SOper := [Ma 5 0, Ma 6 1, Qc 7 57 [5, 6], Ca 8 .geq 7 0, Ma 4 8]
def c_contains : SCode := (Sf qamq [0, 1] (Sf qamp [4] .ret))
theorem qaig : comp Tryz.prog 9 ((Tryz.f48.body).getD .skip) = some c_contains.erase := by kernel_rfl
abbrev qa0r : List SOper := [Ka 4 0]
abbrev qa0q : List SOper := [Ma 6 0, Na 7 6, Ka 8 0]
abbrev qa0p : List SOper := [Ba 9 .lss 8 7]
abbrev qa0o : List SOper := [Ma 10 8, Ma 5 10]
abbrev qa0n : List SOper := [Ma 11 1, Ma 12 0, Ma 13 5, Ia 14 1 12 13, La 15 14, Ba 16 .eql 11 15]
abbrev qa0m : List SOper := [Ma 17 5, Ma 4 17]
abbrev qa0l : List SOper := [Ca 18 .add 8 1, Ma 8 18]
def qame : SCode := (Sf qa0p [0, 1, 7, 8, 9] (.seq (Ce 9 0) (.seq (.block 1 (Sf qa0o [0, 1, 5, 7, 8] (Sf qa0n [0, 1, 5, 7, 8, 16] (Cn 16 (Sf qa0m [4] .ret) .skip)))) (Rf qa0l [0, 1, 7, 8]))))
abbrev qa0k : List SOper := [Oa 4 (.mv (.c (.int .i64 (-1))))]
def c_index : SCode := (Sf qa0r [0, 1] (.seq (Sf qa0q [0, 1, 7, 8] (Bl 0 qame)) (Sf qa0k [4] .ret)))
theorem qaof : comp Tryz.prog 19 ((Tryz.f57.body).getD .skip) = some c_index.erase := by kernel_rfl
end Go.Proofs.YtalejfkholifpaaGreat
namespace Go.Proofs.YtalejfkholifpaaGreat
set_option linter.all false
open Go.RowKit
attribute [local simp] qaas qaar qaad qaag qaae qaaf qaap qaaq qaab qaa5 SOp.run SX.ev putd puts argS upds SOp.touch SSt.keep SSt.skip gets geth puth delh idOf SV.cells? setL qab4 qab5 sbin eq0 eq1 eqL qab0 qabj qabk qaa4 qaat qaac qaau qaa6 qaaj qaam FrzOk qaa9 qaa0 qaa7 qaa8 qaav qaaz qabf qaa1 qaax qaba qaaw frzS frzH frz frz1 frz0 SlotsM ObjsM ObjM rn ren ren1 ren0 qabq qabs qabt qabp qabg qab2 qab1 CoL qabb qabx dels adds idsH qabr
instance : PureF refc := ⟨fun _ _ => rfl, fun _ => rfl, fun _ => qaci _ rfl⟩
instance : PureF qa2p := ⟨fun _ _ => rfl, fun _ => rfl, fun _ => qaci _ rfl⟩
instance : PureF qa9m := ⟨fun _ _ => rfl, fun _ => rfl, fun _ => qaci _ rfl⟩
instance : PureF qa9w := ⟨fun _ _ => rfl, fun _ => rfl, fun _ => qaci _ rfl⟩
instance : PureF qaj8 := ⟨fun _ _ => rfl, fun _ => rfl, fun _ => qaci _ rfl⟩
instance : PureF opc := ⟨fun _ _ => rfl, fun _ => rfl, fun _ => qaci _ rfl⟩
instance : PureF actc := ⟨fun _ _ => rfl, fun _ => rfl, fun _ => qaci _ rfl⟩
instance : PureF tabc := ⟨fun _ _ => rfl, fun _ => rfl, fun _ => qaci _ rfl⟩
instance : PureF qa89 := ⟨fun _ _ => rfl, fun _ => rfl, fun _ => qaci _ rfl⟩
attribute [local simp] qa9m refc qa2p qa9w qaj8 opc actc tabc qa89 qbao nums
def jc (p : PlanD) (a b : Int) : List SV := qbao p ++ [.int .i64 a, .int .i64 b]
attribute [local simp] jc
end Go.Proofs.YtalejfkholifpaaGreat
namespace Go.Proofs.YtalejfkholifpaaGreat
set_option linter.all false
open Go.RowKit
abbrev qbdh : List SOper := [Oa 2 (.mv (.c .nilsl))]
abbrev qbdg : List SOper := [Ma 3 0, Oa 4 (.eq 2 false (.t 3) (.c .nilsl))]
abbrev qbdf : List SOper := [Oa 2 (.mv (.c .nilsl))]
abbrev qbde : List SOper := [Oa 5 (.mkrow 3 1 0 [(.int .i64 0)] []), Ma 6 0, Oa 7 (.app 3 1 8 (.t 5) (.t 6)), Ma 2 7]
def c_cl1 : SCode := (Sf qbdh [0] (.seq (Sf qbdg [0, 4] (Cn 4 (Sf qbdf [2] .ret) .skip)) (Sf qbde [2] .ret)))
theorem qah6 : comp Tryz.prog 8 ((Tryz.f31.body).getD .skip) = some c_cl1.erase := by kernel_rfl
abbrev qbdd : List SOper := [Oa 2 (.mv (.c .nilsl))]
abbrev qbdc : List SOper := [Ma 3 0, Oa 4 (.eq 2 false (.t 3) (.c .nilsl))]
abbrev qbdb : List SOper := [Oa 2 (.mv (.c .nilsl))]
abbrev qbda : List SOper := [Oa 5 (.mkrow 70 1 0 [(.int .u64 0)] []), Ma 6 0, Oa 7 (.app 70 1 8 (.t 5) (.t 6)), Ma 2 7]
def c_cl5 : SCode := (Sf qbdd [0] (.seq (Sf qbdc [0, 4] (Cn 4 (Sf qbdb [2] .ret) .skip)) (Sf qbda [2] .ret)))
theorem qah5 : comp Tryz.prog 8 ((Tryz.f32.body).getD .skip) = some c_cl5.erase := by kernel_rfl
end Go.Proofs.YtalejfkholifpaaGreat
namespace Go.Proofs.YtalejfkholifpaaGreat
set_option linter.all false
open Go.RowKit
attribute [local simp] qaas qaar qaad qaag qaae qaaf qaap qaaq qaab qaa5 SOp.run SX.ev putd puts argS upds SOp.touch SSt.keep SSt.skip gets geth puth delh idOf SV.cells? setL qab4 qab5 sbin eq0 eq1 eqL qab0 qabj qabk qaa4 qaat qaac qaau qaa6 qaaj qaam FrzOk qaa9 qaa0 qaa7 qaa8 qaav qaaz qabf qaa1 qaax qaba qaaw frzS frzH frz frz1 frz0 SlotsM ObjsM ObjM rn ren ren1 ren0 qabq qabs qabt qabp qabg qab2 qab1 CoL qabb qabx dels adds idsH qabr
attribute [local simp] qa9m refc qa2p qa9w qaj8 opc actc tabc qa89 qbao nums
theorem qaiw {X : Cx} {sl : Sl} {hp : Hp} {t nx id n e z : Nat} {es fs : List (List SV)} [PureR es] (hm : X.m = 0) (hu : gets sl t = .own id n) (h : geth hp id = some (.row e z es)) (hn : n = es.length) (hf : es = fs) : QFun X [.tmp t] 0 (.view z fs) [] .ret ⟨sl, hp, nx⟩ := by
 subst hf hn
 have h1 : Wk X ⟨sl, hp, nx⟩ (SSt.frz ⟨sl, hp, nx⟩ [id]) := wk_frz [id] fun i o hi ho => by
  have : i = id := by simpa using hi
  subst this
  rw [h] at ho; cases ho
  exact (qapd e z es).2 trivial
 have h2 : gets (frzS (geth hp) [id] sl) t = .view z es := by
  rw [qant, hu]; simp [frz, frz1, frz0, h]
 refine ⟨⟨[(t, .view z es)], [], 0⟩, h1.trans (qado [] hm rfl (Nat.zero_le _) ⟨?_, trivial⟩ trivial), by simp [qaf2, resL, resV, one_, gets], trivial, by simp⟩
 show Co (gets (frzS (geth hp) [id] sl) t) _
 rw [h2]; exact Co.refl _
instance pureR_take (fs : List (List SV)) [PureR fs] (i : Nat) : PureR (fs.take i) := ⟨fun σ => by rw [List.map_take, PureR.ren], fun x hx => PureR.ok x (List.mem_of_mem_take hx), fun x hx => PureR.pure x (List.mem_of_mem_take hx)⟩
theorem qa94 {α : Type} (f : α → List SV) {l : List α} {i : Nat} (hi : i ≤ l.length) : ((l.take i).map f).length = i := by simp; omega
theorem qa16 {α : Type} (f : α → List SV) {l : List α} {i : Nat} (hi : i < l.length) : (l.take i).map f ++ [f l[i]] = (l.take (i + 1)).map f := by
 rw [List.take_succ_eq_append_getElem hi, List.map_append]; rfl
end Go.Proofs.YtalejfkholifpaaGreat
namespace Go.Proofs.YtalejfkholifpaaGreat
set_option linter.all false
open Go.RowKit
attribute [local simp] qaas qaar qaad qaag qaae qaaf qaap qaaq qaab qaa5 SOp.run SX.ev putd puts argS upds SOp.touch SSt.keep SSt.skip gets geth puth delh idOf SV.cells? setL qab4 qab5 sbin eq0 eq1 eqL qab0 qabj qabk qaa4 qaat qaac qaau qaa6 qaaj qaam FrzOk qaa9 qaa0 qaa7 qaa8 qaav qaaz qabf qaa1 qaax qaba qaaw frzS frzH frz frz1 frz0 SlotsM ObjsM ObjM rn ren ren1 ren0 qabq qabs qabt qabp qabg qab2 qab1 CoL qabb qabx dels adds idsH qabr
instance pureR_nil : PureR [] := ⟨fun _ => rfl, fun x hx => (by cases hx), fun x hx => (by cases hx)⟩
theorem qbbn {X : Cx} {sl : Sl} {hp : Hp} {t nx : Nat} {v r : SV} (hm : X.m = 0) (h : gets sl t = v) (hc : Co v r) (hv : NoN r) : QFun X [.tmp t] 0 r [] .ret ⟨sl, hp, nx⟩ := by
 refine ⟨⟨[(t, r)], [], 0⟩, qado [] hm rfl (Nat.zero_le _) ⟨?_, trivial⟩ trivial, by simp [qaf2, resL, resV, one_, gets], trivial, by simp⟩
 show Co (gets sl t) (ren _ r)
 rw [h, hv]; exact hc
theorem cl1_nil : SCalls Tryz.prog 31 [.nilsl] [] 0 (.view 1 []) [] := by
 refine qaai (N := 8) Tryz.func31 rfl rfl (by kernel_rfl) qah6 (by simp) (by repeat' (first | exact trivial | refine And.intro ?_ ?_ | rfl | decide | exact PureR.ren _)) (by repeat' (first | exact trivial | refine And.intro ?_ ?_ | rfl | decide | exact PureR.ren _)) ?_
 rintro X hP hN hm
 unfold c_cl1
 repeat' (first | refine yA ?_ | with_reducible refine yB ?_ ?_ | ((with_reducible refine yC fun h => ?_); have h' := h; (try simp at h'); (try subst h')) | (refine qbbn hm rfl (Co.nilsl _) (qanj _ _)) | exact trivial)
theorem cl1_mt : SCalls Tryz.prog 31 [.mt] [] 0 (.view 1 []) [] := by
 refine qaai (N := 8) Tryz.func31 rfl rfl (by kernel_rfl) qah6 (by simp) (by repeat' (first | exact trivial | refine And.intro ?_ ?_ | rfl | decide | exact PureR.ren _)) (by repeat' (first | exact trivial | refine And.intro ?_ ?_ | rfl | decide | exact PureR.ren _)) ?_
 rintro X hP hN hm
 unfold c_cl1
 repeat' (first | refine yA ?_ | with_reducible refine yB ?_ ?_ | ((with_reducible refine yC fun h => ?_); have h' := h; (try simp at h'); (try subst h')) | (refine qaiw (es := []) hm rfl rfl ?_ rfl) | exact trivial)
 all_goals rfl
theorem cl1_s (es : List (List SV)) [PureR es] (hl : es.length ≤ 1000000) (hz : ∀ e ∈ es, e.length = 1) (q : Nat) : SCalls Tryz.prog 31 [.view 1 es] [] q (.view 1 es) [] := by
 rcases es with _ | ⟨e, es⟩
 ·exact qafr (qabm cl1_nil (fun _ => rfl) (fun _ => rfl) rfl q) (qabm cl1_mt (fun _ => rfl) (fun _ => rfl) rfl q)
 ·refine qabm ?_ (fun _ => rfl) (fun _ => rfl) rfl q
  refine qaai (N := 8) Tryz.func31 rfl rfl (by kernel_rfl) qah6 (by simp) (by repeat' (first | exact trivial | refine And.intro ?_ ?_ | rfl | decide | exact PureR.ren _)) (by repeat' (first | exact trivial | refine And.intro ?_ ?_ | rfl | decide | exact PureR.ren _)) ?_
  rintro X hP hN hm
  have hb : (e :: es).length ≤ maxLen := by unfold maxLen; omega
  simp only [List.length_cons] at hl hb
  unfold c_cl1
  repeat' (first | refine yA ?_ | with_reducible refine yB ?_ ?_ | ((with_reducible refine yC fun h => ?_); have h' := h; (try simp at h'); (try subst h')) | (refine qaiw (es := e :: es) hm rfl rfl ?_ rfl) | exact trivial)
  all_goals simp
theorem cl5_nil : SCalls Tryz.prog 32 [.nilsl] [] 0 (.view 1 []) [] := by
 refine qaai (N := 8) Tryz.func32 rfl rfl (by kernel_rfl) qah5 (by simp) (by repeat' (first | exact trivial | refine And.intro ?_ ?_ | rfl | decide | exact PureR.ren _)) (by repeat' (first | exact trivial | refine And.intro ?_ ?_ | rfl | decide | exact PureR.ren _)) ?_
 rintro X hP hN hm
 unfold c_cl5
 repeat' (first | refine yA ?_ | with_reducible refine yB ?_ ?_ | ((with_reducible refine yC fun h => ?_); have h' := h; (try simp at h'); (try subst h')) | (refine qbbn hm rfl (Co.nilsl _) (qanj _ _)) | exact trivial)
theorem cl5_mt : SCalls Tryz.prog 32 [.mt] [] 0 (.view 1 []) [] := by
 refine qaai (N := 8) Tryz.func32 rfl rfl (by kernel_rfl) qah5 (by simp) (by repeat' (first | exact trivial | refine And.intro ?_ ?_ | rfl | decide | exact PureR.ren _)) (by repeat' (first | exact trivial | refine And.intro ?_ ?_ | rfl | decide | exact PureR.ren _)) ?_
 rintro X hP hN hm
 unfold c_cl5
 repeat' (first | refine yA ?_ | with_reducible refine yB ?_ ?_ | ((with_reducible refine yC fun h => ?_); have h' := h; (try simp at h'); (try subst h')) | (refine qaiw (es := []) hm rfl rfl ?_ rfl) | exact trivial)
 all_goals rfl
theorem cl5_s (es : List (List SV)) [PureR es] (hl : es.length ≤ 1000000) (hz : ∀ e ∈ es, e.length = 1) (q : Nat) : SCalls Tryz.prog 32 [.view 1 es] [] q (.view 1 es) [] := by
 rcases es with _ | ⟨e, es⟩
 ·exact qafr (qabm cl5_nil (fun _ => rfl) (fun _ => rfl) rfl q) (qabm cl5_mt (fun _ => rfl) (fun _ => rfl) rfl q)
 ·refine qabm ?_ (fun _ => rfl) (fun _ => rfl) rfl q
  refine qaai (N := 8) Tryz.func32 rfl rfl (by kernel_rfl) qah5 (by simp) (by repeat' (first | exact trivial | refine And.intro ?_ ?_ | rfl | decide | exact PureR.ren _)) (by repeat' (first | exact trivial | refine And.intro ?_ ?_ | rfl | decide | exact PureR.ren _)) ?_
  rintro X hP hN hm
  have hb : (e :: es).length ≤ maxLen := by unfold maxLen; omega
  simp only [List.length_cons] at hl hb
  unfold c_cl5
  repeat' (first | refine yA ?_ | with_reducible refine yB ?_ ?_ | ((with_reducible refine yC fun h => ?_); have h' := h; (try simp at h'); (try subst h')) | (refine qaiw (es := e :: es) hm rfl rfl ?_ rfl) | exact trivial)
  all_goals simp
end Go.Proofs.YtalejfkholifpaaGreat
namespace Go.Proofs.YtalejfkholifpaaGreat
set_option linter.all false
open Go.RowKit
def qam4 (s : TStep) : List SV := .int .i64 s.d :: qaay s.e
def qa2b (l : List TStep) : SV := .view 7 (l.map qam4)
def bigE (e : Entry) : Bool := decide (e.keys.length > 20) || (decide (e.masks.length > 20) || decide (e.args.length > 20))
def bigS (l : List TStep) : Bool := decide (l.length > 200) || l.any fun s => bigE s.e
theorem great_s (l : List TStep) : SCalls Tryz.prog 8 [qa2b l] [] 0 (.bool (bigS l)) [] := by
 refine qaai (N := 41) Tryz.func8 rfl rfl (by kernel_rfl) qaoj (by simp) ⟨rfl, trivial⟩ trivial ?_
 rintro X hP hN hm
 generalize hr : bigS l = r
 have fin : ∀ (r' : Bool) hp nx, r' = r → QFun X (Tryz.f8).results.toList 0 (.bool r) [] .ret ⟨[(2, .bool r')], hp, nx⟩ := fun r' hp nx hr => by
  rw [hr]
  exact (qaef (s' := ⟨[(2, .bool r)], [], 0⟩) (qado [] hm rfl (Nat.le_refl _) (by simp -implicitDefEqProofs [qaam, FrzOk, qaa9, qaa0, qaa7, qaa8, qaav, qaaz, qabf, qaa1, qaax, qaba, qaaw, frzS, frzH, frz, frz1, frz0, SlotsM, ObjsM, ObjM, rn, ren, ren1, ren0, gets, geth, qabq, qabs, qabt, qabp, qabg, qab2, qab1, CoL, qabb]) trivial) rfl trivial (by simp))
 unfold c_great qa2b
 refine qabu (qaao ?_)
 simp -implicitDefEqProofs [qamn, qaas, qaar, qaad, qaag, qaae, qaaf, qaap, qaaq, qaab, qaa5, SOp.run, SX.ev, putd, puts, argS, upds, SOp.touch, SSt.keep, SSt.skip, gets, geth, puth, delh, idOf, SV.cells?, setL, qab4, qab5, sbin, eq0, eq1, eqL, qab0, qabj, qabk, qaa4, qaat, qaac, qaau, qaa6, qaaj]
 refine qabu (qabu (qaao ?_))
 simp -implicitDefEqProofs [qamm, qaas, qaar, qaad, qaag, qaae, qaaf, qaap, qaaq, qaab, qaa5, SOp.run, SX.ev, putd, puts, argS, upds, SOp.touch, SSt.keep, SSt.skip, gets, geth, puth, delh, idOf, SV.cells?, setL, qab4, qab5, sbin, eq0, eq1, eqL, qab0, qabj, qabk, qaa4, qaat, qaac, qaau, qaa6, qaaj]
 refine qabc rfl (fun h => ?_) (fun h => ?_)
 ·refine qabu (qaao ?_)
  simp -implicitDefEqProofs [qaml, qaas, qaar, qaad, qaag, qaae, qaaf, qaap, qaaq, qaab, qaa5, SOp.run, SX.ev, putd, puts, argS, upds, SOp.touch, SSt.keep, SSt.skip, gets, geth, puth, delh, idOf, SV.cells?, setL, qab4, qab5, sbin, eq0, eq1, eqL, qab0, qabj, qabk, qaa4, qaat, qaac, qaau, qaa6, qaaj]
  refine qabi (fin _ _ _ ?_)
  have : l.length > 200 := by simp at h; omega
  rw [← hr]; simp [bigS, this]
 ·have h200 : l.length ≤ 200 := by simp at h; omega
  refine qaah ?_
  simp -implicitDefEqProofs [qaas, qaar, qaad, qaag, qaae, qaaf, qaap, qaaq, qaab, qaa5, SOp.run, SX.ev, putd, puts, argS, upds, SOp.touch, SSt.keep, SSt.skip, gets, geth, puth, delh, idOf, SV.cells?, setL, qab4, qab5, sbin, eq0, eq1, eqL, qab0, qabj, qabk, qaa4, qaat, qaac, qaau, qaa6, qaaj]
  refine qabu (qabu (qaao ?_))
  simp -implicitDefEqProofs [qamk, qaas, qaar, qaad, qaag, qaae, qaaf, qaap, qaaq, qaab, qaa5, SOp.run, SX.ev, putd, puts, argS, upds, SOp.touch, SSt.keep, SSt.skip, gets, geth, puth, delh, idOf, SV.cells?, setL, qab4, qab5, sbin, eq0, eq1, eqL, qab0, qabj, qabk, qaa4, qaat, qaac, qaau, qaa6, qaaj]
  refine qabl (qaho (fun s n => ∃ i : Nat, s = ⟨[(0, qa2b l), (3, .int .i64 i)], [], 0⟩ ∧ i ≤ l.length ∧ (∀ j s, j < i → l[j]? = some s → bigE s.e = false) ∧ n = l.length - i) (qado [] hm rfl (Nat.le_refl _) (by simp -implicitDefEqProofs [qaam, FrzOk, qaa9, qaa0, qaa7, qaa8, qaav, qaaz, qabf, qaa1, qaax, qaba, qaaw, frzS, frzH, frz, frz1, frz0, SlotsM, ObjsM, ObjM, rn, ren, ren1, ren0, gets, geth, qabq, qabs, qabt, qabp, qabg, qab2, qab1, CoL, qabb, qa2b]) (by trivial)) ⟨0, rfl, by omega, by intro j s hj; omega, rfl⟩ ?_)
  rintro s n ⟨i, rfl, h1, h2, rfl⟩
  unfold qamo
  refine qabu (qabu (qaao ?_))
  simp -implicitDefEqProofs [qamj, qaas, qaar, qaad, qaag, qaae, qaaf, qaap, qaaq, qaab, qaa5, SOp.run, SX.ev, putd, puts, argS, upds, SOp.touch, SSt.keep, SSt.skip, gets, geth, puth, delh, idOf, SV.cells?, setL, qab4, qab5, sbin, eq0, eq1, eqL, qab0, qabj, qabk, qaa4, qaat, qaac, qaau, qaa6, qaaj, qa2b]
  refine qabc rfl (fun h3 => qaah ?_) (fun h3 => qaak ?_)
  ·have hi : i < l.length := by simpa using h3
   simp -implicitDefEqProofs [qaas, qaar, qaad, qaag, qaae, qaaf, qaap, qaaq, qaab, qaa5, SOp.run, SX.ev, putd, puts, argS, upds, SOp.touch, SSt.keep, SSt.skip, gets, geth, puth, delh, idOf, SV.cells?, setL, qab4, qab5, sbin, eq0, eq1, eqL, qab0, qabj, qabk, qaa4, qaat, qaac, qaau, qaa6, qaaj]
   refine qabu (qabl (qabu (qaao ?_)))
   have yes : bigE l[i].e = true → bigS l = true := fun hb => by
    simp only [bigS, Bool.or_eq_true]
    exact .inr (List.any_eq_true.2 ⟨l[i], List.getElem_mem hi, hb⟩)
   have step : ∀ b hp nx, bigE l[i].e = b → SWp X ((SCode.cond (.t 40) (SCode.seq (.reg false qaia [2]) .ret) .skip)) (qaj1 1 (QSeq X (.reg false qah9 [0, 3]) (qbds X (fun s n => ∃ i : Nat, s = ⟨[(0, qa2b l), (3, .int .i64 i)], [], 0⟩ ∧ i ≤ l.length ∧ (∀ j s, j < i → l[j]? = some s → bigE s.e = false) ∧ n = l.length - i) (l.length - i) (qaj1 0 (QSeq X (SCode.seq (.reg false qah8 [2]) .ret) (QFun X [ResultVar.tmp 2] 0 (.bool r) []))))))
     ⟨[(0, .view 7 (l.map qam4)), (3, .int .i64 i), (40, .bool b)], hp, nx⟩ := by
    intro b hp nx hb
    cases b with
    | true =>
     refine qabc rfl (fun _ => ?_) (by simp)
     refine qabu (qaao ?_)
     simp -implicitDefEqProofs [qaia, qaas, qaar, qaad, qaag, qaae, qaaf, qaap, qaaq, qaab, qaa5, SOp.run, SX.ev, putd, puts, argS, upds, SOp.touch, SSt.keep, SSt.skip, gets, geth, puth, delh, idOf, SV.cells?, setL, qab4, qab5, sbin, eq0, eq1, eqL, qab0, qabj, qabk, qaa4, qaat, qaac, qaau, qaa6, qaaj]
     refine qabi (fin _ _ _ ?_)
     rw [← hr, yes hb]
    | false =>
     refine qabc rfl (by simp) (fun _ => qaah ?_)
     simp -implicitDefEqProofs [qaas, qaar, qaad, qaag, qaae, qaaf, qaap, qaaq, qaab, qaa5, SOp.run, SX.ev, putd, puts, argS, upds, SOp.touch, SSt.keep, SSt.skip, gets, geth, puth, delh, idOf, SV.cells?, setL, qab4, qab5, sbin, eq0, eq1, eqL, qab0, qabj, qabk, qaa4, qaat, qaac, qaau, qaa6, qaaj]
     refine qaao ?_
     simp -implicitDefEqProofs [qah9, qaas, qaar, qaad, qaag, qaae, qaaf, qaap, qaaq, qaab, qaa5, SOp.run, SX.ev, putd, puts, argS, upds, SOp.touch, SSt.keep, SSt.skip, gets, geth, puth, delh, idOf, SV.cells?, setL, qab4, qab5, sbin, eq0, eq1, eqL, qab0, qabj, qabk, qaa4, qaat, qaac, qaau, qaa6, qaaj]
     rw [qacb (by omega) (by omega)]
     refine qaht (qado [] hm rfl (Nat.zero_le _) (by simp -implicitDefEqProofs [qaam, FrzOk, qaa9, qaa0, qaa7, qaa8, qaav, qaaz, qabf, qaa1, qaax, qaba, qaaw, frzS, frzH, frz, frz1, frz0, SlotsM, ObjsM, ObjM, rn, ren, ren1, ren0, gets, geth, qabq, qabs, qabt, qabp, qabg, qab2, qab1, CoL, qabb, qa2b]) (by trivial)) ⟨i + 1, rfl, by omega, ?_, rfl⟩ (by omega)
     intro j s hj hs
     rcases Nat.lt_or_ge j i with e | e
     ·exact h2 j s e hs
     ·obtain rfl : j = i := by omega
      rw [List.getElem?_eq_getElem hi] at hs; cases hs; exact hb
   cases k1 : decide ((20 : Int) < (l[i].e.keys.length : Int))
   ·cases k2 : decide ((20 : Int) < (l[i].e.masks.length : Int))
    ·simp -implicitDefEqProofs [qagj, qaas, qaar, qaad, qaag, qaae, qaaf, qaap, qaaq, qaab, qaa5, SOp.run, SX.ev, putd, puts, argS, upds, SOp.touch, SSt.keep, SSt.skip, gets, geth, puth, delh, idOf, SV.cells?, setL, qab4, qab5, sbin, eq0, eq1, eqL, qab0, qabj, qabk, qaa4, qaat, qaac, qaau, qaa6, qaaj, hi, qam4, qaay, nums, k1, k2]
     refine step _ _ _ ?_
     have e1 : ¬ (l[i].e.keys.length > 20) := by simp at k1; omega
     have e2 : ¬ (l[i].e.masks.length > 20) := by simp at k2; omega
     simp only [bigE, decide_eq_false e1, decide_eq_false e2, Bool.false_or]
     apply Bool.eq_iff_iff.2; simp; omega
    ·simp -implicitDefEqProofs [qagj, qaas, qaar, qaad, qaag, qaae, qaaf, qaap, qaaq, qaab, qaa5, SOp.run, SX.ev, putd, puts, argS, upds, SOp.touch, SSt.keep, SSt.skip, gets, geth, puth, delh, idOf, SV.cells?, setL, qab4, qab5, sbin, eq0, eq1, eqL, qab0, qabj, qabk, qaa4, qaat, qaac, qaau, qaa6, qaaj, hi, qam4, qaay, nums, k1, k2]
     refine step _ _ _ ?_
     have e2 : l[i].e.masks.length > 20 := by simp at k2; omega
     simp [bigE, e2]
   ·simp -implicitDefEqProofs [qagj, qaas, qaar, qaad, qaag, qaae, qaaf, qaap, qaaq, qaab, qaa5, SOp.run, SX.ev, putd, puts, argS, upds, SOp.touch, SSt.keep, SSt.skip, gets, geth, puth, delh, idOf, SV.cells?, setL, qab4, qab5, sbin, eq0, eq1, eqL, qab0, qabj, qabk, qaa4, qaat, qaac, qaau, qaa6, qaaj, hi, qam4, qaay, nums, k1]
    refine step _ _ _ ?_
    have e1 : l[i].e.keys.length > 20 := by simp at k1; omega
    simp [bigE, e1]
  ·have hi : i = l.length := by have : ¬ i < l.length := by simpa using h3
                                omega
   subst hi
   simp -implicitDefEqProofs [qaas, qaar, qaad, qaag, qaae, qaaf, qaap, qaaq, qaab, qaa5, SOp.run, SX.ev, putd, puts, argS, upds, SOp.touch, SSt.keep, SSt.skip, gets, geth, puth, delh, idOf, SV.cells?, setL, qab4, qab5, sbin, eq0, eq1, eqL, qab0, qabj, qabk, qaa4, qaat, qaac, qaau, qaa6, qaaj]
   refine qabu (qaao ?_)
   simp -implicitDefEqProofs [qah8, qaas, qaar, qaad, qaag, qaae, qaaf, qaap, qaaq, qaab, qaa5, SOp.run, SX.ev, putd, puts, argS, upds, SOp.touch, SSt.keep, SSt.skip, gets, geth, puth, delh, idOf, SV.cells?, setL, qab4, qab5, sbin, eq0, eq1, eqL, qab0, qabj, qabk, qaa4, qaat, qaac, qaau, qaa6, qaaj]
   refine qabi (fin _ _ _ ?_)
   rw [← hr]
   simp only [bigS, Bool.false_eq, Bool.or_eq_false_iff]
   refine ⟨by simp; omega, List.any_eq_false.2 fun s hs => ?_⟩
   obtain ⟨j, hj⟩ := List.getElem?_of_mem hs
   rw [h2 j s (List.getElem?_eq_some_iff.1 hj).1 hj]; simp
end Go.Proofs.YtalejfkholifpaaGreat
namespace Go.Proofs.YtalejfkholifpaaGreat
set_option linter.all false
open Go.RowKit
attribute [local simp] qaas qaar qaad qaag qaae qaaf qaap qaaq qaab qaa5 SOp.run SX.ev putd puts argS upds SOp.touch SSt.keep SSt.skip gets geth puth delh idOf SV.cells? setL qab4 qab5 sbin eq0 eq1 eqL qab0 qabj qabk qaa4 qaat qaac qaau qaa6 qaaj qaam FrzOk qaa9 qaa0 qaa7 qaa8 qaav qaaz qabf qaa1 qaax qaba qaaw frzS frzH frz frz1 frz0 SlotsM ObjsM ObjM rn ren ren1 ren0 qabq qabs qabt qabp qabg qab2 qab1 CoL qabb qabx dels adds idsH qabr
def hround (z : Int × Int) : Int × Int := (IntKind.u64.wrap (bits .xor .u64 z.1 (bits .and .u64 z.2 255) * 1099511628211), z.2 / 2 ^ min 8 IntKind.u64.bits)
def hrep : Nat → Int × Int → Int × Int
 | 0, z => z
 | n + 1, z => hrep n (hround z)
def hashL : List Int → Int → Int
 | [], h => h
 | x :: xs, h => hashL xs (hrep 8 (h, x)).1
def hashV (xs : List Int) : Int := hashL xs 14695981039346656037
def qafp (N : Nat) (xs : List Int) : Nat := (hashV xs / 2 ^ min 32 IntKind.u64.bits).toNat % N
theorem u64_nn2 (x : Int) : 0 ≤ IntKind.u64.wrap x := by
 simp [IntKind.wrap, IntKind.bits, IntKind.signed]; omega
theorem qa9k : ∀ n (z : Int × Int), 0 ≤ z.1 → 0 ≤ (hrep n z).1
 | 0, z, h => h
 | n + 1, z, h => qa9k n _ (u64_nn2 _)
theorem qawj : ∀ xs h, 0 ≤ h → 0 ≤ hashL xs h
 | [], h, hh => hh
 | x :: xs, h, hh => qawj xs _ (qa9k 8 _ hh)
theorem qbbi (xs : List Int) : 0 ≤ hashV xs := qawj xs _ (by decide)
def xsc : Option XSlot → List SV
 | none => [.bool false, .nilsl, .int .i64 0, .nilsl]
 | some s => [.bool true, nums .u64 s.keys, .int .i64 s.act, nums .u64 s.args]
instance : PureF xsc := ⟨fun σ x => by cases x <;> rfl, fun x => by cases x <;> rfl, fun x => by cases x <;> exact qaci _ rfl⟩
def qa90 (k m : Int) (S : XTab) : List SV := [.int .i64 k, .int .i64 m, .int .i64 (cnt S), .view 4 (S.map xsc)]
theorem qa8l (k m : Int) (n : Nat) (S : XTab) (hS : 0 < S.length ∧ S.length ≤ 1048576) (xs : List Int) (hx : xs.length ≤ 1000000) (q : Nat) : SCalls Tryz.prog 93 [.cp [.int .i64 k, .int .i64 m, .int .i64 n, .view 4 (S.map xsc)], nums .u64 xs] [] q (.int .i64 (qafp S.length xs)) [] := by
 refine qabm ?_ (fun _ => rfl) (fun _ => rfl) rfl q
 obtain ⟨F, hF⟩ : ∃ F, F = hashV xs := ⟨_, rfl⟩
 have hFn : 0 ≤ F := by rw [hF]; exact qbbi xs
 have hH : qafp S.length xs = (F / 2 ^ min 32 IntKind.u64.bits).toNat % S.length := by unfold qafp; rw [hF]
 rw [hH]
 clear hH
 unfold hashV at hF
 replace hF := Lib.hid hF
 refine qaai (N := 35) Tryz.func93 rfl rfl (by kernel_rfl) qan0 (by simp) (by repeat' (first | exact trivial | refine And.intro ?_ ?_ | rfl | decide | exact PureR.ren _)) (by repeat' (first | exact trivial | refine And.intro ?_ ?_ | rfl | decide | exact PureR.ren _)) ?_
 rintro X hP hN hm
 unfold c_xhome nums
 repeat' (first | refine yA ?_ | with_reducible refine yB ?_ ?_ | ((with_reducible refine yC fun h => ?_); have h' := h; (try simp at h'); (try subst h')) | exact trivial)
 refine qabl (qacv (fun s (z : Nat × Int) => s.turn [(10, .int .i64 z.1), (5, .int .u64 z.2)] []) (fun z => z.1 ≤ xs.length ∧ F = hashL (xs.drop z.1) z.2) (fun z => xs.length - z.1) (0, 14695981039346656037) ?_ ⟨by simp, hF.out⟩ ?_)
 ·repeat' (first | exact yD | refine yE ?_ | with_reducible refine yB ?_ ?_ | exact trivial)
 rintro J hJ ⟨i, hv⟩ ⟨h1, h2⟩
 unfold qalj
 simp only [zT, puth, Nat.reduceEqDiff, reduceIte, Nat.reduceAdd] at h1 h2 ⊢
 replace h2 := Lib.hid h2
 rcases Nat.lt_or_ge i xs.length with hi | hi
 ·have h3 := h2.out
  rw [List.drop_eq_getElem_cons hi, hashL] at h3
  have wi : IntKind.i64.wrap ((i : Int) + 1) = (i : Int) + 1 := qacb (by omega) (by omega)
  generalize htl : xs.drop (i + 1) = tl at h3
  generalize hxi : xs[i] = x at h3
  obtain ⟨H, hH⟩ : ∃ H, H = hrep 8 (hv, x) := ⟨_, rfl⟩
  rw [← hH] at h3
  replace hH := Lib.hid hH
  replace h3 := Lib.hid h3
  repeat' (first | ((with_reducible first | refine qaao ?_ | refine qaal (by rw [hP]; exact mixed) ?_); (try rw [hP]); simp -implicitDefEqProofs [List.getElem?_eq_getElem hi, hxi, *]) | ((with_reducible first | refine qaah ?_ | refine qaak ?_); (try simp -implicitDefEqProofs [List.getElem?_eq_getElem hi, hxi, *])) | ((with_reducible refine qaaa (fun h => ?_) (fun h => ?_)) <;> have h' := h <;> (try simp at h') <;> (try subst h') <;> simp -implicitDefEqProofs [List.getElem?_eq_getElem hi, hxi, *]) | ((with_reducible refine qaan ?_ ?_); (first | omega | (unfold maxLen; omega)); simp -implicitDefEqProofs [List.getElem?_eq_getElem hi, hxi, *]) | refine yA ?_ | with_reducible refine yB ?_ ?_ | ((with_reducible refine yC fun h => ?_); have h' := h; (try simp at h'); (try subst h')) | exact trivial)
  have hJo := hJ
  refine qabl (qacv (fun s (z : Nat × Int × Int) => s.turn [(14, .int .i64 z.1), (5, .int .u64 z.2.1), (7, .int .u64 z.2.2)] []) (fun z => z.1 ≤ 8 ∧ H = hrep (8 - z.1) z.2) (fun z => 8 - z.1) (0, hv, x) ?_ ⟨by simp, hH.out⟩ ?_)
  ·repeat' (first | exact yD | refine yE ?_ | with_reducible refine yB ?_ ?_ | exact trivial)
  rintro J hJ ⟨j, a, c⟩ ⟨g1, g2⟩
  unfold qalk
  simp only [zT, puth, Nat.reduceEqDiff, reduceIte, Nat.reduceAdd] at g1 g2 ⊢
  rcases Nat.lt_or_ge j 8 with hj | hj
  ·rw [show 8 - j = (8 - (j + 1)) + 1 by omega, hrep] at g2
   have wj : IntKind.i64.wrap ((j : Int) + 1) = (j : Int) + 1 := qacb (by omega) (by omega)
   replace g2 := Lib.hid g2
   have hj8 : ((j : Int) < 8) = True := eq_true (by omega)
   repeat' (first | ((with_reducible first | refine qaao ?_ | refine qaal (by rw [hP]; exact mixed) ?_); (try rw [hP]); simp -implicitDefEqProofs [wj, hj8, *]) | ((with_reducible first | refine qaah ?_ | refine qaak ?_); (try simp -implicitDefEqProofs [wj, hj8, *])) | ((with_reducible refine qaaa (fun h => ?_) (fun h => ?_)) <;> have h' := h <;> (try simp at h') <;> (try subst h') <;> simp -implicitDefEqProofs [wj, hj8, *]) | ((with_reducible refine qaan ?_ ?_); (first | omega | (unfold maxLen; omega)); simp -implicitDefEqProofs [wj, hj8, *]) | refine yA ?_ | with_reducible refine yB ?_ ?_ | ((with_reducible refine yC fun h => ?_); have h' := h; (try simp at h'); (try subst h')) | exact yD | refine yE ?_ | ((refine qabn hJ ((j + 1, ?_, ?_)) ?_ ?_ ?_; rotate_left 2; (with_reducible refine qabe [] hm ?_ ?_ ?_ ?_) <;> (try simp only [zT, puth, Nat.reduceEqDiff, reduceIte, Nat.reduceAdd]))) | exact trivial)
   exact ⟨by show j + 1 ≤ 8; omega, g2.out⟩
  ·obtain rfl : j = 8 := by omega
   have g3 : H = (a, c) := g2
   have h4 := h3.out
   rw [g3] at h4
   replace h4 := Lib.hid h4
   replace hJ := hJo
   repeat' (first | ((with_reducible first | refine qaao ?_ | refine qaal (by rw [hP]; exact mixed) ?_); (try rw [hP]); simp -implicitDefEqProofs [wi, *]) | ((with_reducible first | refine qaah ?_ | refine qaak ?_); (try simp -implicitDefEqProofs [wi, *])) | ((with_reducible refine qaaa (fun h => ?_) (fun h => ?_)) <;> have h' := h <;> (try simp at h') <;> (try subst h') <;> simp -implicitDefEqProofs [wi, *]) | ((with_reducible refine qaan ?_ ?_); (first | omega | (unfold maxLen; omega)); simp -implicitDefEqProofs [wi, *]) | refine yA ?_ | with_reducible refine yB ?_ ?_ | ((with_reducible refine yC fun h => ?_); have h' := h; (try simp at h'); (try subst h')) | exact yD | refine yE ?_ | ((refine qabn hJ ((i + 1, ?_)) ?_ ?_ ?_; rotate_left 1; (with_reducible refine qabe [] hm ?_ ?_ ?_ ?_) <;> (try simp only [zT, puth, Nat.reduceEqDiff, reduceIte, Nat.reduceAdd]))) | exact trivial)
   exact ⟨by show i + 1 ≤ xs.length; omega, by rw [show xs.drop ((i + 1, a).1) = tl from htl]; exact h4.out⟩
 ·obtain rfl : i = xs.length := by omega
  have h3 := h2.out
  rw [List.drop_length] at h3
  obtain rfl : F = hv := h3
  obtain ⟨Q, hQ⟩ : ∃ Q : Nat, F / 2 ^ min 32 IntKind.u64.bits = Q := ⟨(F / 2 ^ min 32 IntKind.u64.bits).toNat, (Int.toNat_of_nonneg (Int.ediv_nonneg hFn (by decide))).symm⟩
  have wl : IntKind.u64.wrap (S.length : Int) = (S.length : Int) := by simp [IntKind.wrap, IntKind.bits, IntKind.signed]; omega
  have nz : ¬ ((S.length : Int) = 0) := by omega
  have tm : Int.tmod (Q : Int) (S.length : Int) = ((Q % S.length : Nat) : Int) := by
   rw [Int.tmod_eq_emod_of_nonneg (by omega)]; rfl
  have hml : Q % S.length < S.length := Nat.mod_lt _ hS.1
  have wc : IntKind.i64.wrap ((Q % S.length : Nat) : Int) = ((Q % S.length : Nat) : Int) := IntWalk.i64_in _ ⟨by omega, by omega⟩
  rw [hQ, show max (Q : Int) 0 = (Q : Int) by omega, show (Q : Int) % (S.length : Int) = ((Q % S.length : Nat) : Int) from rfl]
  generalize hR : Q % S.length = R at tm wc ⊢
  have hS0 : ¬ S = [] := fun e => by rw [e] at hS; exact absurd hS.1 (by simp)
  repeat' (first | ((with_reducible first | refine qaao ?_ | refine qaal (by rw [hP]; exact mixed) ?_); (try rw [hP]); simp -implicitDefEqProofs [hQ, wl, if_neg nz, nz, hS0, tm, wc, *]) | ((with_reducible first | refine qaah ?_ | refine qaak ?_); (try simp -implicitDefEqProofs [hQ, wl, if_neg nz, nz, hS0, tm, wc, *])) | ((with_reducible refine qaaa (fun h => ?_) (fun h => ?_)) <;> have h' := h <;> (try simp at h') <;> (try subst h') <;> simp -implicitDefEqProofs [hQ, wl, if_neg nz, nz, hS0, tm, wc, *]) | ((with_reducible refine qaan ?_ ?_); (first | omega | (unfold maxLen; omega)); simp -implicitDefEqProofs [hQ, wl, if_neg nz, nz, hS0, tm, wc, *]) | refine yA ?_ | with_reducible refine yB ?_ ?_ | ((with_reducible refine yC fun h => ?_); have h' := h; (try simp at h'); (try subst h')) | exact trivial)
  all_goals rfl
theorem xhome_s (k m : Int) (S : XTab) (hS : 0 < S.length ∧ S.length ≤ 1048576) (xs : List Int) (hx : xs.length ≤ 1000000) (q : Nat) : SCalls Tryz.prog 93 [.cp (qa90 k m S), nums .u64 xs] [] q (.int .i64 (qafp S.length xs)) [] := qa8l k m (cnt S) S hS xs hx q
end Go.Proofs.YtalejfkholifpaaGreat
namespace Go.Proofs.YtalejfkholifpaaGreat
set_option linter.all false
open Go.RowKit
attribute [local simp] qaas qaar qaad qaag qaae qaaf qaap qaaq qaab qaa5 SOp.run SX.ev putd puts argS upds SOp.touch SSt.keep SSt.skip gets geth puth delh idOf SV.cells? setL qab4 qab5 sbin eq0 eq1 eqL qab0 qabj qabk qaa4 qaat qaac qaau qaa6 qaaj qaam FrzOk qaa9 qaa0 qaa7 qaa8 qaav qaaz qabf qaa1 qaax qaba qaaw frzS frzH frz frz1 frz0 SlotsM ObjsM ObjM rn ren ren1 ren0 qabq qabs qabt qabp qabg qab2 qab1 CoL qabb qabx dels adds idsH qabr
theorem qamx : qahj Tryz.prog 46 = some true := by kernel_rfl
theorem qaja : qab9 Tryz.prog 46 = some 2 := by kernel_rfl
theorem qa91 (xs : List Int) (h : xs.length ≤ 1000000) (q : Nat) : SCalls Tryz.prog 32 [nums .u64 xs] [] q (nums .u64 xs) [] := by
 unfold nums
 exact cl5_s (xs.map fun x => [.int .u64 x]) (by simpa using h) (by intro e he; obtain ⟨x, -, rfl⟩ := List.mem_map.1 he; rfl) q
def hitc (a : Int) (xs : List Int) : List SV := [.int .i64 a, nums .u64 xs]
theorem xown_s (a : Int) (xs : List Int) (h : xs.length ≤ 1000000) (q : Nat) : SCalls Tryz.prog 89 [.agg (hitc a xs)] [] q (.agg (hitc a xs)) [] := by
 refine qabm ?_ (fun _ => rfl) (fun _ => rfl) rfl q
 refine qaai (N := 9) Tryz.func89 rfl rfl (by kernel_rfl) qaq5 (by simp) (by repeat' (first | exact trivial | refine And.intro ?_ ?_ | rfl | decide | exact PureR.ren _)) (by repeat' (first | exact trivial | refine And.intro ?_ ?_ | rfl | decide | exact PureR.ren _)) ?_
 rintro X hP hN hm
 have k1 := fun q => qa91 xs h q
 unfold nums at k1
 unfold c_xown hitc nums
 repeat' (first | refine yA ?_ | with_reducible refine yB ?_ ?_ | ((with_reducible refine yC fun h => ?_); have h' := h; (try simp at h'); (try subst h')) | refine qabo (k1 _) ?_ | ((refine qanx hm rfl ?_ ?_ rfl (CoL.refl _) rfl ?_)) | exact trivial)
 all_goals first | (rw [hP]; with_reducible exact qamx) | (rw [hP]; exact qaja) | (intro σ; rfl) | trace_state
theorem qbbs (xa xb : List Int) (i : Nat) (h : i < xa.length) (g : i < xb.length) : decide (xa.drop i = xb.drop i) = if xa[i] ≠ xb[i] then false else decide (xa.drop (i + 1) = xb.drop (i + 1)) := by
 rw [List.drop_eq_getElem_cons h, List.drop_eq_getElem_cons g]
 generalize xa[i] = a
 generalize xb[i] = b
 generalize xa.drop (i + 1) = u
 generalize xb.drop (i + 1) = v
 by_cases e : a = b <;> simp [e]
theorem sleq_s (xa xb : List Int) (ha : xa.length ≤ 1000000) (hb : xb.length ≤ 1000000) (q : Nat) : SCalls Tryz.prog 94 [nums .u64 xa, nums .u64 xb] [] q (.bool (decide (xa = xb))) [] := by
 refine qabm ?_ (fun _ => rfl) (fun _ => rfl) rfl q
 refine qaai (N := 26) Tryz.func94 rfl rfl (by kernel_rfl) qarh (by simp) (by repeat' (first | exact trivial | refine And.intro ?_ ?_ | rfl | decide | exact PureR.ren _)) (by repeat' (first | exact trivial | refine And.intro ?_ ?_ | rfl | decide | exact PureR.ren _)) ?_
 rintro X hP hN hm
 obtain ⟨F, hF⟩ : ∃ F, F = decide (xa = xb) := ⟨_, rfl⟩
 rw [← hF]
 replace hF := Lib.hid hF
 by_cases hlen : xb.length = xa.length
 ·unfold c_sleq nums
  repeat' (first | ((with_reducible first | refine qaao ?_ | refine qaal (by rw [hP]; exact mixed) ?_); (try rw [hP]); simp -implicitDefEqProofs [hlen, *]) | ((with_reducible first | refine qaah ?_ | refine qaak ?_); (try simp -implicitDefEqProofs [hlen, *])) | ((with_reducible refine qaaa (fun h => ?_) (fun h => ?_)) <;> have h' := h <;> (try simp at h') <;> (try subst h') <;> simp -implicitDefEqProofs [hlen, *]) | ((with_reducible refine qaan ?_ ?_); (first | omega | (unfold maxLen; omega)); simp -implicitDefEqProofs [hlen, *]) | refine yA ?_ | with_reducible refine yB ?_ ?_ | ((with_reducible refine yC fun h => ?_); have h' := h; (try simp at h'); (try subst h')) | exact trivial)
  refine qabl (qacv (fun s (i : Nat) => s.turn [(13, .int .i64 i)] []) (fun i => i ≤ xa.length ∧ F = decide (xa.drop i = xb.drop i)) (fun i => xa.length - i) 0 ?_ ⟨by simp, hF.out⟩ ?_)
  ·repeat' (first | exact yD | refine yE ?_ | with_reducible refine yB ?_ ?_ | exact trivial)
  rintro J hJ i ⟨h1, h3⟩
  unfold qap5
  simp only [zT, puth, Nat.reduceEqDiff, reduceIte, Nat.reduceAdd] at h1 h3 ⊢
  replace h3 := Lib.hid h3
  rcases Nat.lt_or_ge i xa.length with hi | hi
  ·have hj : i < xb.length := by omega
   have h4 := h3.out
   rw [qbbs xa xb i hi hj] at h4
   have wi : IntKind.i64.wrap ((i : Int) + 1) = (i : Int) + 1 := qacb (by omega) (by omega)
   replace h4 := Lib.hid h4
   repeat' (first | ((with_reducible first | refine qaao ?_ | refine qaal (by rw [hP]; exact mixed) ?_); (try rw [hP]); simp -implicitDefEqProofs [wi, List.getElem?_eq_getElem hi, List.getElem?_eq_getElem hj, *]) | ((with_reducible first | refine qaah ?_ | refine qaak ?_); (try simp -implicitDefEqProofs [wi, List.getElem?_eq_getElem hi, List.getElem?_eq_getElem hj, *])) | ((with_reducible refine qaaa (fun h => ?_) (fun h => ?_)) <;> have h' := h <;> (try simp at h') <;> (try subst h') <;> simp -implicitDefEqProofs [wi, List.getElem?_eq_getElem hi, List.getElem?_eq_getElem hj, *]) | ((with_reducible refine qaan ?_ ?_); (first | omega | (unfold maxLen; omega)); simp -implicitDefEqProofs [wi, List.getElem?_eq_getElem hi, List.getElem?_eq_getElem hj, *]) | refine yA ?_ | with_reducible refine yB ?_ ?_ | ((with_reducible refine yC fun h => ?_); have h' := h; (try simp at h'); (try subst h')) | exact yD | refine yE ?_ | ((refine qace hm ?_ (fun σ => rfl))) | ((refine qabn hJ (i + 1) ?_ ?_ ?_; (with_reducible refine qabe [] hm ?_ ?_ ?_ ?_) <;> (try simp only [zT, puth, Nat.reduceEqDiff, reduceIte, Nat.reduceAdd]))) | exact trivial)
   all_goals first | (exfalso; omega) | (rw [h4.out, if_pos ‹_›]; done) | (refine ⟨by omega, ?_⟩; rw [h4.out, if_neg (by omega)]) | omega | trace_state
  ·obtain rfl : i = xa.length := by omega
   have h4 : F = true := by rw [h3.out, List.drop_length, List.drop_eq_nil_of_le (by omega)]; rfl
   repeat' (first | refine yA ?_ | with_reducible refine yB ?_ ?_ | ((with_reducible refine yC fun h => ?_); have h' := h; (try simp at h'); (try subst h')) | ((refine qace hm ?_ (fun σ => rfl))) | exact trivial)
   all_goals first | rfl | (rw [h4])
 ·have hf : F = false := by rw [hF.out]; exact decide_eq_false fun e => hlen (by rw [e])
  have hne : ¬ (xa.length : Int) = (xb.length : Int) := by omega
  have hne2 : ¬ xa.length = xb.length := by omega
  unfold c_sleq nums
  repeat' (first | ((with_reducible first | refine qaao ?_ | refine qaal (by rw [hP]; exact mixed) ?_); (try rw [hP]); simp -implicitDefEqProofs [hne, hne2, *]) | ((with_reducible first | refine qaah ?_ | refine qaak ?_); (try simp -implicitDefEqProofs [hne, hne2, *])) | ((with_reducible refine qaaa (fun h => ?_) (fun h => ?_)) <;> have h' := h <;> (try simp at h') <;> (try subst h') <;> simp -implicitDefEqProofs [hne, hne2, *]) | ((with_reducible refine qaan ?_ ?_); (first | omega | (unfold maxLen; omega)); simp -implicitDefEqProofs [hne, hne2, *]) | refine yA ?_ | with_reducible refine yB ?_ ?_ | ((with_reducible refine yC fun h => ?_); have h' := h; (try simp at h'); (try subst h')) | ((refine qace hm ?_ (fun σ => rfl))) | exact trivial)
  all_goals first | rfl | (rw [hf]; done) | (exfalso; omega) | trace_state
theorem qa8m {X : Cx} {sl : Sl} {hp : Hp} {t u nx : Nat} {v w : SV} (hm : X.m = 0) (hne : t ≠ u) (hv : gets sl t = v) (hw : gets sl u = w) (hN : NoN v) (hM : NoN w) : QFun X [.tmp t, .tmp u] 0 (.tup [v, w]) [] .ret ⟨sl, hp, nx⟩ := by
 refine ⟨⟨[(t, v), (u, w)], [], 0⟩, qado [] hm rfl (Nat.zero_le _) ⟨?_, ?_, trivial⟩ trivial, by simp [qaf2, resL, resV, one_, gets, hne, hne.symm], trivial, by simp⟩
 ·show Co (gets sl t) (Go.Proofs.YtalejfkholifpaaGreat.ren _ v)
  rw [hv, hN]; exact Co.refl _
 ·show Co (gets sl u) (Go.Proofs.YtalejfkholifpaaGreat.ren _ w)
  rw [hw, hM]; exact Co.refl _
theorem qacw : xsc none = [.bool false, .nilsl, .int .i64 0, .nilsl] := rfl
theorem qaby (s : XSlot) : xsc (some s) = [.bool true, nums .u64 s.keys, .int .i64 s.act, nums .u64 s.args] := rfl
theorem qaqm {S : XTab} {xs : List Int} {f i : Nat} {s : XSlot} (h : S[i]? = some (some s)) : qadc S xs (f + 1) i = if s.keys = xs then (i, true) else qadc S xs f (addm S.length i 1) := by rw [qadc, h]
theorem qaqn {S : XTab} {xs : List Int} {f i : Nat} (h : S[i]? = some none) : qadc S xs (f + 1) i = (i, false) := by rw [qadc, h]
def qag6 (S : XTab) : Prop := ∀ (j : Nat) (s : XSlot), S[j]? = some (some s) → s.keys.length ≤ 1000000 ∧ s.args.length ≤ 1000000
theorem place_s (k m : Int) (S : XTab) (hS : 0 < S.length ∧ S.length ≤ 1048576) (hsm : qag6 S) (xs : List Int) (hx : xs.length ≤ 1000000) (hf : ∃ e : Nat, S[e]? = some none) (q : Nat) : SCalls Tryz.prog 88 [.cp (qa90 k m S), nums .u64 xs] [] q (.tup [.int .i64 (qadc S xs S.length (qafp S.length xs)).1, .bool (qadc S xs S.length (qafp S.length xs)).2]) [] := by
 refine qabm ?_ (fun _ => rfl) (fun _ => rfl) rfl q
 obtain ⟨R, b, hF⟩ : ∃ R b, (R, b) = qadc S xs S.length (qafp S.length xs) := ⟨_, _, rfl⟩
 rw [← hF]
 have hH : qafp S.length xs < S.length := Nat.mod_lt _ hS.1
 have k1 := fun q => xhome_s k m S hS xs hx q
 obtain ⟨e, he⟩ := hf
 have hel := qacp he
 have hdl := qagg hH hel
 generalize qafp S.length xs = H at k1 hF hH hdl
 have hS0 : ¬ S = [] := fun e => by rw [e] at hS; exact absurd hS.1 (by simp)
 replace hF := Lib.hid hF
 have k2 : ∀ (s : XSlot) (j : Nat), S[j]? = some (some s) → ∀ q, SCalls Tryz.prog 94 [nums .u64 s.keys, nums .u64 xs] [] q (.bool (decide (s.keys = xs))) [] := fun s j h q => sleq_s s.keys xs (hsm j s h).1 hx q
 unfold qa90 nums at k1
 unfold nums at k2
 replace k2 := Lib.hid k2
 replace he := Lib.hid he
 replace hdl := Lib.hid hdl
 refine qaai (N := 38) Tryz.func88 rfl rfl (by kernel_rfl) qak9 (by simp) (by repeat' (first | exact trivial | refine And.intro ?_ ?_ | rfl | decide | exact PureR.ren _)) (by repeat' (first | exact trivial | refine And.intro ?_ ?_ | rfl | decide | exact PureR.ren _)) ?_
 rintro X hP hN hm
 unfold c_xplace qa90 nums
 repeat' (first | refine yA ?_ | with_reducible refine yB ?_ ?_ | ((with_reducible refine yC fun h => ?_); have h' := h; (try simp at h'); (try subst h')) | refine qabo (k1 _) ?_ | exact trivial)
 refine qabl (qacv (fun s (z : Nat × Nat) => s.turn [(6, .int .i64 z.1)] []) (fun z => z.1 < S.length ∧ (R, b) = qadc S xs z.2 z.1 ∧ dist S.length z.1 e < z.2) (fun z => z.2) (H, S.length) ?_ ⟨hH, hF.out, hdl.out⟩ ?_)
 ·repeat' (first | exact yD | refine yE ?_ | with_reducible refine yB ?_ ?_ | exact trivial)
 rintro J hJ ⟨i, f⟩ ⟨h1, h2, h3⟩
 unfold qai4
 simp only [zT, puth, Nat.reduceEqDiff, reduceIte, Nat.reduceAdd] at h1 h2 h3 ⊢
 obtain ⟨g, rfl⟩ : ∃ g, f = g + 1 := ⟨f - 1, by omega⟩
 replace h3 := Lib.hid h3
 rcases hs : S[i] with _ | s
 ·have hs' : S[i]? = some none := by rw [List.getElem?_eq_getElem h1, hs]
  rw [qaqn hs'] at h2
  obtain ⟨rfl, rfl⟩ := Prod.mk.inj h2
  repeat' (first | ((with_reducible first | refine qaao ?_ | refine qaal (by rw [hP]; exact mixed) ?_); (try rw [hP]); simp -implicitDefEqProofs [hs', qacw, *]) | ((with_reducible first | refine qaah ?_ | refine qaak ?_); (try simp -implicitDefEqProofs [hs', qacw, *])) | ((with_reducible refine qaaa (fun h => ?_) (fun h => ?_)) <;> have h' := h <;> (try simp at h') <;> (try subst h') <;> simp -implicitDefEqProofs [hs', qacw, *]) | ((with_reducible refine qaan ?_ ?_); (first | omega | (unfold maxLen; omega)); simp -implicitDefEqProofs [hs', qacw, *]) | refine yA ?_ | with_reducible refine yB ?_ ?_ | ((with_reducible refine yC fun h => ?_); have h' := h; (try simp at h'); (try subst h')) | ((refine qa8m hm (by decide) rfl rfl (fun σ => rfl) (fun σ => rfl))) | exact trivial)
 ·have hs' : S[i]? = some (some s) := by rw [List.getElem?_eq_getElem h1, hs]
  rw [qaqm hs'] at h2
  have k3 := k2.out s i hs'
  have wi : IntKind.i64.wrap ((i : Int) + 1) = (i : Int) + 1 := qacb (by omega) (by omega)
  have tm : Int.tmod ((i : Int) + 1) (S.length : Int) = ((addm S.length i 1 : Nat) : Int) := by
   rw [Int.tmod_eq_emod_of_nonneg (by omega), ← qa1t h1 (by omega)]; rfl
  by_cases hB : s.keys = xs
  ·rw [if_pos hB] at h2
   obtain ⟨rfl, rfl⟩ := Prod.mk.inj h2
   rw [decide_eq_true hB] at k3
   replace hB := Lib.hid hB
   repeat' (first | ((with_reducible first | refine qaao ?_ | refine qaal (by rw [hP]; exact mixed) ?_); (try rw [hP]); simp -implicitDefEqProofs [hs', qaby, nums, wi, tm, hS0, *]) | ((with_reducible first | refine qaah ?_ | refine qaak ?_); (try simp -implicitDefEqProofs [hs', qaby, nums, wi, tm, hS0, *])) | ((with_reducible refine qaaa (fun h => ?_) (fun h => ?_)) <;> have h' := h <;> (try simp at h') <;> (try subst h') <;> simp -implicitDefEqProofs [hs', qaby, nums, wi, tm, hS0, *]) | ((with_reducible refine qaan ?_ ?_); (first | omega | (unfold maxLen; omega)); simp -implicitDefEqProofs [hs', qaby, nums, wi, tm, hS0, *]) | refine yA ?_ | with_reducible refine yB ?_ ?_ | ((with_reducible refine yC fun h => ?_); have h' := h; (try simp at h'); (try subst h')) | (refine qabo (k3 _) ?_; simp -implicitDefEqProofs [hs', qaby, nums, wi, tm, hS0, *]) | ((refine qa8m hm (by decide) rfl rfl (fun σ => rfl) (fun σ => rfl))) | exact trivial)
  ·rw [if_neg hB] at h2
   rw [decide_eq_false hB] at k3
   have hie : i ≠ e := fun e1 => by
    have := he.out
    rw [← e1, hs'] at this; cases this
   have hn : addm S.length i 1 < S.length := qafa h1 (by omega)
   have hd : dist S.length (addm S.length i 1) e < g := by
    have := h3.out
    unfold dist addm at *
    (repeat' split at *) <;> (repeat' split) <;> omega
   replace h2 := Lib.hid h2
   replace hB := Lib.hid hB
   replace hd := Lib.hid hd
   repeat' (first | ((with_reducible first | refine qaao ?_ | refine qaal (by rw [hP]; exact mixed) ?_); (try rw [hP]); simp -implicitDefEqProofs [hs', qaby, nums, wi, tm, hS0, *]) | ((with_reducible first | refine qaah ?_ | refine qaak ?_); (try simp -implicitDefEqProofs [hs', qaby, nums, wi, tm, hS0, *])) | ((with_reducible refine qaaa (fun h => ?_) (fun h => ?_)) <;> have h' := h <;> (try simp at h') <;> (try subst h') <;> simp -implicitDefEqProofs [hs', qaby, nums, wi, tm, hS0, *]) | ((with_reducible refine qaan ?_ ?_); (first | omega | (unfold maxLen; omega)); simp -implicitDefEqProofs [hs', qaby, nums, wi, tm, hS0, *]) | refine yA ?_ | with_reducible refine yB ?_ ?_ | ((with_reducible refine yC fun h => ?_); have h' := h; (try simp at h'); (try subst h')) | (refine qabo (k3 _) ?_; simp -implicitDefEqProofs [hs', qaby, nums, wi, tm, hS0, *]) | exact yD | refine yE ?_ | ((refine qabn hJ ((addm S.length i 1, g)) ?_ ?_ ?_; (with_reducible refine qabe [] hm ?_ ?_ ?_ ?_) <;> (try simp only [zT, puth, Nat.reduceEqDiff, reduceIte, Nat.reduceAdd]))) | exact trivial)
   all_goals first | exact ⟨hn, h2.out, hd.out⟩ | trace_state
end Go.Proofs.YtalejfkholifpaaGreat
namespace Go.Proofs.YtalejfkholifpaaGreat
set_option linter.all false
open Go.RowKit
variable {w : World} {ρ : qacf} {fp : Nat → Nat → Prop} {O : Nat → Prop} {h1 : Hp}
theorem qaft (k : Nat) : ¬ Live [] fp k := fun ⟨_, _, h, _⟩ => by cases h
def Lent (h1 : Hp) (x y : SV) : Prop := ∀ (O : Nat → Prop) (ρ : qacf) (fp : Nat → Nat → Prop) (w : World) (v : Value), HeapOk O ρ fp h1 w → RepV w (fun k => O k ∨ Live h1 fp k) ρ x v → RepV w (fun k => O k ∨ Live [] fp k) ρ y v
def qa9z (h1 : Hp) : List SV → List SV → Prop
 | [], [] => True
 | x :: xs, y :: ys => Lent h1 x y ∧ qa9z h1 xs ys
 | _, _ => False
theorem qa9i {k : Nat} : (O k ∨ Live [] fp k) → O k ∨ Live h1 fp k := fun hk => hk.elim .inl fun h => absurd h (qaft k)
theorem qadh (x : SV) : Lent h1 x x := fun _ _ _ _ _ _ hx => hx.weaken fun _ hk _ => qa9i hk
theorem qahy : ∀ xs, qa9z h1 xs xs
 | [] => trivial
 | x :: xs => ⟨qadh x, qahy xs⟩
theorem qafu : ∀ {xs ys}, qa9z h1 xs ys → xs.length = ys.length
 | [], [], _ => rfl
 | _ :: _, _ :: _, h => by simp [qafu h.2]
 | [], _ :: _, h => h.elim
 | _ :: _, [], h => h.elim
theorem qahd : ∀ {xs ys : List SV} {j : Nat} {y : SV}, qa9z h1 xs ys → ys[j]? = some y → ∃ x, xs[j]? = some x ∧ Lent h1 x y
 | x :: xs, y :: ys, 0, _, h, hy => by cases hy; exact ⟨x, rfl, h.1⟩
 | x :: xs, y :: ys, j + 1, _, h, hy => qahd (xs := xs) (ys := ys) (j := j) h.2 (by simpa using hy)
 | [], [], _, _, _, hy => by simp at hy
 | [], _ :: _, _, _, h, _ => h.elim
 | _ :: _, [], _, _, h, _ => h.elim
theorem qajq {id z e : Nat} {es : List (List SV)} (ho : geth h1 id = some (.row e z es)) (hp : ∀ e ∈ es, qamv e) {n : Nat} (hn : n = es.length) : Lent h1 (.own id n) (.view z es) := fun O ρ fp w v hok hx => by
 subst hn
 obtain ⟨v0, us, how, ⟨hrep, huo⟩, hzs, hρ', hfp⟩ := hok.objs id _ ho
 generalize hn : es.length = n at hx
 cases hx with
 | own0 hρ => rw [List.eq_nil_of_length_eq_zero hn]; exact .view0 (by simp [maxLen]) (fun _ => rfl)
 | own hρ hnc hm =>
  rename_i b c
  rw [hρ] at hρ'
  have hp0 : qadz v0 = some (b, c) := (Option.some.inj hρ').symm
  obtain ⟨hv0, hcell, hlt, _, _⟩ := qaee how hp0
  have hown : fp id b := (hfp b).2 (by rw [hv0]; rfl)
  have hval : ∀ i e j x, es[i]? = some e → e[j]? = some x → ∃ u, us[i * z + j]? = some u ∧ RepV w (fun k => O k ∨ Live h1 fp k) ρ x u := fun i e j x he hx => hrep.get (qagu hzs he hx)
  refine .view (fun i j => us.getD (i * z + j) undef) hn hnc hm (fun hO => hO.elim (hok.lt b ⟨id, _, ho, hown⟩).2 (qaft b)) hlt hzs (fun i e j x he hx => ?_) (fun i e j x he hx => ?_) (fun i e j x he hx => ?_)
  ·obtain ⟨u, h1, h2⟩ := hval i e j x he hx
   rw [Nat.zero_add, List.getD_eq_getElem?_getD, h1]
   exact hcell _ _ h1
  ·obtain ⟨u, h1, h2⟩ := hval i e j x he hx
   rw [List.getD_eq_getElem?_getD, h1]
   exact (hp e (List.mem_of_getElem? he) x (List.mem_of_getElem? hx) _ _ _ _ h2).weaken fun k hk _ => qa9i hk
  ·obtain ⟨u, h1, h2⟩ := hval i e j x he hx
   rw [List.getD_eq_getElem?_getD, h1]
   exact huo u (List.mem_of_getElem? h1)
theorem qajr {id off t : Nat} {cs ds : List SV} (ho : geth h1 id = some (.cells t cs)) (hl : qa9z h1 (cs.drop off) ds) (hp : qamv ds) : Lent h1 (.ptr id off) (.cp ds) := fun O ρ fp w v hok hx => by
 obtain ⟨b, c, us, hρ', hbl, ⟨hrep, huo⟩, hfp⟩ := hok.objs id _ ho
 cases hx with
 | ptr hρ =>
  rw [hρ] at hρ'; cases hρ'
  have hval : ∀ (j : Nat) y, ds[j]? = some y → ∃ u, us[off + j]? = some u ∧ RepV w (fun k => O k ∨ Live [] fp k) noPl y u := fun j y hy => by
   obtain ⟨x, hx, hxy⟩ := qahd hl hy
   rw [List.getElem?_drop] at hx
   obtain ⟨u, h1, h2⟩ := hrep.get hx
   exact ⟨u, h1, hp y (List.mem_of_getElem? hy) _ _ _ _ (hxy O ρ fp w u hok h2)⟩
  refine .cp (fun j => us.getD (off + j) undef) (fun hO => hO.elim (hok.lt b ⟨id, _, ho, (hfp b).2 rfl⟩).2 (qaft b)) hbl.lt (fun j x hx => ?_) (fun j x hx => ?_) (fun j x hx => ?_)
  ·obtain ⟨u, h1, h2⟩ := hval j x hx
   rw [hbl.cell, List.getD_eq_getElem?_getD, h1]
   simpa using h1
  ·obtain ⟨u, h1, h2⟩ := hval j x hx
   rw [List.getD_eq_getElem?_getD, h1]
   exact h2
  ·obtain ⟨u, h1, h2⟩ := hval j x hx
   rw [List.getD_eq_getElem?_getD, h1]
   exact huo u (List.mem_of_getElem? h1)
def qat8 (x : SV) : Prop := ∀ w A A' ρ v, RepV w A ρ x v → RepV w A' ρ x v
theorem qah7 (b : Bool) : qat8 (.bool b) := fun w A A' ρ v h => by cases h; exact .bool
theorem qaev (k : IntKind) (n : Int) : qat8 (.int k n) := fun w A A' ρ v h => by cases h; exact .int
def qa8j (cs : List SV) : Prop := ∀ x ∈ cs, qat8 x
theorem qali {A A' : Nat → Prop} {cs : List SV} {vs : List Value} (hc : qa8j cs) (h : Reps w A ρ cs vs) : Reps w A' ρ cs vs :=
 ⟨h.1, fun j x v hx hv => hc x (List.mem_of_getElem? hx) _ _ _ _ _ (h.2 j x v hx hv)⟩
theorem qa3q {cs : List SV} (hc : qa8j cs) : qat8 (.tup cs) := fun w A A' ρ v h => by
 cases h with
 | tup hl hh => exact .tup hl fun j x v hx hv => hc x (List.mem_of_getElem? hx) _ _ _ _ _ (hh j x v hx hv)
def CleanO : SObj → Prop
 | .cells _ cs => qa8j cs
 | .row _ _ es => ∀ e ∈ es, qa8j e
 | .abs _ => False
theorem qa3r {A A' : Nat → Prop} {id : Nat} {F : Nat → Prop} {o : SObj} (hc : CleanO o) (h : ObjRep w A ρ id F o) : ObjRep w A' ρ id F o := by
 cases o with
 | cells t cs =>
  obtain ⟨b, c, vs, q1, q2, ⟨q3, q4⟩, q5⟩ := h
  exact ⟨b, c, vs, q1, q2, ⟨qali hc q3, q4⟩, q5⟩
 | row e z es =>
  obtain ⟨v, vs, q1, ⟨q2, q3⟩, q4, q5, q6⟩ := h
  exact ⟨v, vs, q1, ⟨qali (fun x hx => by obtain ⟨e, he, hx⟩ := List.mem_flatten.1 hx; exact hc e he x hx) q2, q3⟩, q4, q5, q6⟩
 | abs I => exact hc.elim
theorem qaq0 (h1 h2 : Hp) (id : Nat) : geth (h1 ++ h2) id = match geth h1 id with | some o => some o | none => geth h2 id := by
 induction h1 with
 | nil => rfl
 | cons p h1 ih =>
  obtain ⟨i, o⟩ := p
  rw [List.cons_append]
  simp only [geth]
  split
  ·rfl
  ·exact ih
theorem qaqh {P : Program} {f : FuncId} {args args' : List SV} {h1 h2 : Hp} {q n : Nat} {r : SV} (h : SCalls P f args' [] q r h2 n) (ha : qa9z h1 args args') (hr : qat8 r) (hc : ∀ id o, geth h2 id = some o → CleanO o)
  (hd : ∀ id, geth h1 id ≠ none → geth h2 id = none) : SCalls P f args h1 q r (h1 ++ h2) n := by
 refine ⟨h.ent, fun O ρ fp w vs hok hargs hfr => ?_⟩
 have hargs' : Reps w (fun k => O k ∨ Live [] fp k) ρ args' vs := by
  refine ⟨by rw [← qafu ha]; exact hargs.1, fun j y v hy hv => ?_⟩
  obtain ⟨x, h1, h2⟩ := qahd ha hy
  exact h2 O ρ fp w v hok (hargs.2 j x v h1 hv)
 refine (h.does O ρ fp w vs ⟨fun id o ho => (by cases ho), fun id id' o o' _ ho => (by cases ho), fun k hk => absurd hk (qaft k), hok.O_lt⟩ hargs' hfr).mono ?_
 rintro e w' ⟨v, ρ', fp', rfl, hk, hv, hst, hρ, hnew, hfp⟩
 have hst' : ∀ S : Nat → Prop, Step S w w' := fun S => hst.mono fun k hk => absurd hk (qaft k)
 have hbig : ∀ id o, geth h2 id = some o → ∀ k, fp' id k → w.heap.size ≤ k := fun id o ho k hk => (hfp id o ho k hk).elim (fun h => absurd h (qaft k)) fun h => h
 have hg : ∀ id o, geth (h1 ++ h2) id = some o → geth h1 id = some o ∧ geth h2 id = none ∨ geth h1 id = none ∧ geth h2 id = some o := fun id o ho => by
  rw [qaq0] at ho
  cases e : geth h1 id with
  | some o' => rw [e] at ho; cases ho; exact .inl ⟨rfl, hd id (by rw [e]; simp)⟩
  | none => rw [e] at ho; exact .inr ⟨rfl, ho⟩
 let F : Nat → Nat → Prop := fun id k => (geth h2 id ≠ none ∧ fp' id k) ∨ (geth h2 id = none ∧ fp id k)
 have F1 : ∀ id, geth h2 id = none → F id = fp id := fun id hn => by funext k; simp [F, hn]
 have F2 : ∀ id o, geth h2 id = some o → F id = fp' id := fun id o hn => by funext k; simp [F, hn]
 have hav : ∀ k, (O k ∨ Live (h1 ++ h2) F k) → k < w.heap.size → O k ∨ Live h1 fp k := by
  rintro k (hO | ⟨id, o, ho, hk'⟩) hlt
  ·exact .inl hO
  ·rcases hg id o ho with ⟨q1, q2⟩ | ⟨q1, q2⟩
   ·rw [F1 id q2] at hk'; exact .inr ⟨id, o, q1, hk'⟩
   ·rw [F2 id o q2] at hk'; exact absurd (hbig id o q2 k hk') (by omega)
 refine ⟨v, ρ', F, rfl, ⟨fun id o ho => ?_, fun id id' o o' hne ho ho' k hk' hk2 => ?_, ?_, hk.O_lt⟩, hr _ _ _ _ _ hv, hst' _, hρ, hnew, fun id o ho k hk' => ?_⟩
 ·rcases hg id o ho with ⟨q1, q2⟩ | ⟨q1, q2⟩
  ·rw [F1 id q2]
   exact (hok.objs id o q1).mono ⟨hst' _, hav, hρ⟩ fun k hk' => hst.block k (hok.lt k ⟨id, o, q1, hk'⟩).1 (qaft k)
  ·rw [F2 id o q2]
   exact qa3r (hc id o q2) (hk.objs id o q2)
 ·rcases hg id o ho with ⟨q1, q2⟩ | ⟨q1, q2⟩ <;> rcases hg id' o' ho' with ⟨q3, q4⟩ | ⟨q3, q4⟩
  ·rw [F1 id q2] at hk'; rw [F1 id' q4] at hk2; exact hok.disj id id' o o' hne q1 q3 k hk' hk2
  ·rw [F1 id q2] at hk'; rw [F2 id' o' q4] at hk2
   have := (hok.lt k ⟨id, o, q1, hk'⟩).1; have := hbig id' o' q4 k hk2; omega
  ·rw [F2 id o q2] at hk'; rw [F1 id' q4] at hk2
   have := (hok.lt k ⟨id', o', q3, hk2⟩).1; have := hbig id o q2 k hk'; omega
  ·rw [F2 id o q2] at hk'; rw [F2 id' o' q4] at hk2; exact hk.disj id id' o o' hne q2 q4 k hk' hk2
 ·rintro k ⟨id, o, ho, hk'⟩
  rcases hg id o ho with ⟨q1, q2⟩ | ⟨q1, q2⟩
  ·rw [F1 id q2] at hk'
   have := hok.lt k ⟨id, o, q1, hk'⟩
   exact ⟨Nat.lt_of_lt_of_le this.1 hst.size, this.2⟩
  ·rw [F2 id o q2] at hk'
   exact hk.lt k ⟨id, o, q2, hk'⟩
 ·rcases hg id o ho with ⟨q1, q2⟩ | ⟨q1, q2⟩
  ·rw [F1 id q2] at hk'; exact .inl ⟨id, o, q1, hk'⟩
  ·rw [F2 id o q2] at hk'; exact .inr (hbig id o q2 k hk')
theorem qac3 {P : Program} {f : FuncId} {args args' : List SV} {h1 : Hp} {q : Nat} {r : SV} (h : SCalls P f args' [] q r []) (ha : qa9z h1 args args') (hr : qat8 r) : SCalls P f args h1 q r h1 := by
 have := qaqh h ha hr (fun id o ho => by cases ho) fun _ _ => rfl
 rwa [List.append_nil] at this
end Go.Proofs.YtalejfkholifpaaGreat
namespace Go.Proofs.YtalejfkholifpaaGreat
set_option linter.all false
open Go.RowKit
attribute [local simp] qaas qaar qaad qaag qaae qaaf qaap qaaq qaab qaa5 SOp.run SX.ev putd puts argS upds SOp.touch SSt.keep SSt.skip gets geth puth delh idOf SV.cells? setL qab4 qab5 sbin eq0 eq1 eqL qab0 qabj qabk qaa4 qaat qaac qaau qaa6 qaaj qaam FrzOk qaa9 qaa0 qaa7 qaa8 qaav qaaz qabf qaa1 qaax qaba qaaw frzS frzH frz frz1 frz0 SlotsM ObjsM ObjM rn ren ren1 ren0 qabq qabs qabt qabp qabg qab2 qab1 CoL qabb qabx dels adds idsH qabr
def xobj (k m : Int) (c : Nat) (S : XTab) : Hp := [(0, .cells 99 [.int .i64 k, .int .i64 m, .int .i64 c, .own 1 S.length]), (1, .row 141 4 (S.map xsc))]
theorem qaku {k m : Int} {n : Nat} {S : XTab} : Lent (xobj k m n S) (.ptr 0 0) (.cp [.int .i64 k, .int .i64 m, .int .i64 n, .view 4 (S.map xsc)]) := by
 refine qajr (t := 99) (cs := [.int .i64 k, .int .i64 m, .int .i64 n, .own 1 S.length]) rfl ⟨qadh _, qadh _, qadh _, qajq (e := 141) rfl (qaf1 _ _) (by simp), trivial⟩ ?_
 intro x hx
 simp only [List.mem_cons, List.not_mem_nil, or_false] at hx
 rcases hx with rfl | rfl | rfl | rfl
 ·exact qaes _ _
 ·exact qaes _ _
 ·exact qaes _ _
 ·exact qaf5 _ _
theorem qapi {k m : Int} {S : XTab} : Lent (xobj k m (cnt S) S) (.ptr 0 0) (.cp (qa90 k m S)) := qaku
def newF : Nat → Nat → Int → Nat
 | 0, n, _ => n
 | f + 1, n, M => if (n : Int) < M ∧ n < 1048576 then newF f (n * 2) M else n
def newN (m : Int) : Nat := newF 18 4 (IntKind.i64.wrap (2 * m))
theorem qa9c : ∀ f n M, n ≤ newF f n M
 | 0, n, M => Nat.le_refl _
 | f + 1, n, M => by
  rw [newF]; split
  ·exact Nat.le_trans (by omega) (qa9c f (n * 2) M)
  ·exact Nat.le_refl _
theorem qa9b : ∀ f n M, newF f n M ≤ n * 2 ^ f
 | 0, n, M => by simp [newF]
 | f + 1, n, M => by
  rw [newF]; split
  ·have := qa9b f (n * 2) M
   rw [Nat.pow_succ, Nat.mul_comm (2 ^ f) 2, ← Nat.mul_assoc]; exact this
  ·exact Nat.le_mul_of_pos_right _ (Nat.pow_pos (by omega))
theorem qavw (m : Int) : 4 ≤ newN m ∧ newN m ≤ 1048576 := ⟨qa9c _ _ _, qa9b 18 4 _⟩
theorem xlen_s (k m : Int) (S : XTab) (q : Nat) : SCalls Tryz.prog 75 [.cp (qa90 k m S)] [] q (.int .i64 (cnt S)) [] := by
 refine qabm ?_ (fun _ => rfl) (fun _ => rfl) rfl q
 refine qaai (N := 7) Tryz.func75 rfl rfl (by kernel_rfl) qaq7 (by simp) (by repeat' (first | exact trivial | refine And.intro ?_ ?_ | rfl | decide | exact PureR.ren _)) (by repeat' (first | exact trivial | refine And.intro ?_ ?_ | rfl | decide | exact PureR.ren _)) ?_
 rintro X hP hN hm
 unfold c_xlen qa90
 repeat' (first | refine yA ?_ | with_reducible refine yB ?_ ?_ | ((with_reducible refine yC fun h => ?_); have h' := h; (try simp at h'); (try subst h')) | ((refine qace hm ?_ (fun σ => rfl))) | exact trivial)
 all_goals rfl
theorem xlen_o (k m : Int) (S : XTab) (q : Nat) : SCalls Tryz.prog 75 [.ptr 0 0] (xobj k m (cnt S) S) q (.int .i64 (cnt S)) (xobj k m (cnt S) S) :=
 qac3 (xlen_s k m S q) ⟨qapi, trivial⟩ (qaev _ _)
theorem qavi (k m : Int) (S : XTab) (hS : 0 < S.length ∧ S.length ≤ 1048576) (hsm : qag6 S) (xs : List Int) (hx : xs.length ≤ 1000000) (hf : ∃ e : Nat, S[e]? = some none) (q : Nat) : SCalls Tryz.prog 88 [.ptr 0 0, nums .u64 xs] (xobj k m (cnt S) S) q (.tup [.int .i64 (qadc S xs S.length (qafp S.length xs)).1, .bool (qadc S xs S.length (qafp S.length xs)).2]) (xobj k m (cnt S) S) :=
 qac3 (place_s k m S hS hsm xs hx hf q) ⟨qapi, qadh _, trivial⟩ (qa3q (by
  intro x hx
  simp only [List.mem_cons, List.not_mem_nil, or_false] at hx
  rcases hx with rfl | rfl
  ·exact qaev _ _
  ·exact qah7 _))
theorem home_o (k m : Int) (n : Nat) (S : XTab) (hS : 0 < S.length ∧ S.length ≤ 1048576) (xs : List Int) (hx : xs.length ≤ 1000000) (q : Nat) : SCalls Tryz.prog 93 [.ptr 0 0, nums .u64 xs] (xobj k m n S) q (.int .i64 (qafp S.length xs)) (xobj k m n S) :=
 qac3 (qa8l k m n S hS xs hx q) ⟨qaku, qadh _, trivial⟩ (qaev _ _)
theorem qaub (k m : Int) (N : Nat) : xobj k m 0 (List.replicate N none) = [(0, .cells 99 [.int .i64 k, .int .i64 m, .int .i64 (0 : Nat), .own 1 N]), (1, .row 141 4 ((List.replicate N none).map xsc))] := by
 unfold xobj
 rw [List.length_replicate]
theorem fin_xn {X : Cx} {s : SSt} {t : Nat} {h : Hp} {a b : SObj} (e : h = [(0, a), (1, b)]) (hw : Wk X s ⟨[(t, .ptr 0 0)], [(0, a), (1, b)], 2⟩) : QFun X [.tmp t] 0 (.ptr 0 0) h .ret s := by
 subst e
 exact ⟨_, hw, by simp [qaf2, resL, resV, one_, gets], ⟨rfl, rfl, trivial⟩, by simp⟩
theorem xnew_s (k m : Int) : SCalls Tryz.prog 33 [.int .i64 k, .int .i64 m] [] 0 (.ptr 0 0) (xobj k m 0 (List.replicate (newN m) none)) := by
 obtain ⟨N, hN'⟩ : ∃ N, N = newN m := ⟨_, rfl⟩
 have hb := qavw m
 rw [← hN'] at hb ⊢
 unfold newN at hN'
 obtain ⟨M, hM⟩ : ∃ M, IntKind.i64.wrap (2 * m) = M := ⟨_, rfl⟩
 rw [hM] at hN'
 replace hN' := Lib.hid hN'
 replace hb := Lib.hid hb
 refine qaai (N := 22) Tryz.func33 rfl rfl (by kernel_rfl) qaq6 (by simp) (by repeat' (first | exact trivial | refine And.intro ?_ ?_ | rfl | decide | exact PureR.ren _)) (by repeat' (first | exact trivial | refine And.intro ?_ ?_ | rfl | decide | exact PureR.ren _)) ?_
 rintro X hP hN hm
 unfold c_xnew
 repeat' (first | refine yA ?_ | with_reducible refine yB ?_ ?_ | ((with_reducible refine yC fun h => ?_); have h' := h; (try simp at h'); (try subst h')) | exact trivial)
 refine qabl (qacv (fun s (z : Nat × Nat) => s.turn [(5, .int .i64 z.1)] []) (fun z => z.1 * 2 ^ z.2 = 1048576 ∧ N = newF z.2 z.1 M) (fun z => z.2) (4, 18) ?_ ⟨rfl, hN'.out⟩ ?_)
 ·repeat' (first | exact yD | refine yE ?_ | with_reducible refine yB ?_ ?_ | exact trivial)
 rintro J hJ ⟨n, f⟩ ⟨h1, h2⟩
 unfold qap0
 simp only [zT, puth, Nat.reduceEqDiff, reduceIte, Nat.reduceAdd] at h1 h2 ⊢
 have hn : n ≤ 1048576 := by
  have : n ≤ n * 2 ^ f := Nat.le_mul_of_pos_right _ (Nat.pow_pos (by omega))
  omega
 by_cases hc : (n : Int) < M ∧ n < 1048576
 ·obtain ⟨g, rfl⟩ : ∃ g, f = g + 1 := ⟨f - 1, by
   rcases f with _ | f
   ·simp at h1; omega
   ·rfl⟩
  rw [newF, if_pos hc] at h2
  have h3 : (n * 2) * 2 ^ g = 1048576 := by rw [← h1, Nat.pow_succ, Nat.mul_comm (2 ^ g) 2, ← Nat.mul_assoc]
  replace h1 := Lib.hid h1
  replace h2 := Lib.hid h2
  replace h3 := Lib.hid h3
  have wn : IntKind.i64.wrap ((n : Int) * 2) = (n : Int) * 2 := IntWalk.i64_in _ ⟨by omega, by omega⟩
  obtain ⟨c1, c2⟩ := hc
  have c3 : ((n : Int) < 1048576) = True := eq_true (by omega)
  clear c2
  replace hn := Lib.hid hn
  repeat' (first | ((with_reducible first | refine qaao ?_ | refine qaal (by rw [hP]; exact mixed) ?_); (try rw [hP]); simp -implicitDefEqProofs [hM, wn, c1, c3, *]) | ((with_reducible first | refine qaah ?_ | refine qaak ?_); (try simp -implicitDefEqProofs [hM, wn, c1, c3, *])) | ((with_reducible refine qaaa (fun h => ?_) (fun h => ?_)) <;> have h' := h <;> (try simp at h') <;> (try subst h') <;> simp -implicitDefEqProofs [hM, wn, c1, c3, *]) | ((with_reducible refine qaan ?_ ?_); (first | omega | (unfold maxLen; omega)); simp -implicitDefEqProofs [hM, wn, c1, c3, *]) | refine yA ?_ | with_reducible refine yB ?_ ?_ | ((with_reducible refine yC fun h => ?_); have h' := h; (try simp at h'); (try subst h')) | exact yD | refine yE ?_ | ((refine qabn hJ ((n * 2, g)) ?_ ?_ ?_; (with_reducible refine qabe [] hm ?_ ?_ ?_ ?_) <;> (try simp only [zT, puth, Nat.reduceEqDiff, reduceIte, Nat.reduceAdd]))) | exact trivial)
  exact ⟨h3.out, h2.out⟩
 ·have h3 : N = n := by
   rcases f with _ | f
   ·exact h2
   ·rw [newF, if_neg hc] at h2; exact h2
  clear h2
  subst h3
  replace h1 := Lib.hid h1
  by_cases c1 : (N : Int) < M
  ·have c3 : ((N : Int) < 1048576) = False := eq_false (by intro h; exact hc ⟨c1, by omega⟩)
   clear hc
   repeat' (first | ((with_reducible first | refine qaao ?_ | refine qaal (by rw [hP]; exact mixed) ?_); (try rw [hP]); simp -implicitDefEqProofs [hM, c1, c3, *]) | ((with_reducible first | refine qaah ?_ | refine qaak ?_); (try simp -implicitDefEqProofs [hM, c1, c3, *])) | ((with_reducible refine qaaa (fun h => ?_) (fun h => ?_)) <;> have h' := h <;> (try simp at h') <;> (try subst h') <;> simp -implicitDefEqProofs [hM, c1, c3, *]) | ((with_reducible refine qaan ?_ ?_); (first | omega | (unfold maxLen; omega)); simp -implicitDefEqProofs [hM, c1, c3, *]) | refine yA ?_ | with_reducible refine yB ?_ ?_ | ((with_reducible refine yC fun h => ?_); have h' := h; (try simp at h'); (try subst h')) | exact trivial)
   exact fin_xn (qaub k m N) (qabe [(0, 15), (1, 13)] hm ⟨Co.refl _, trivial⟩ ⟨⟨_, rfl, rfl, CoL.refl _⟩, ⟨_, rfl, rfl, rfl, by rw [qabz, List.map_replicate]; exact CoLL.refl _⟩, trivial⟩ rfl (Nat.zero_le _))
  ·clear hc
   have c3 : ((N : Int) < M) = False := eq_false c1
   clear c1
   repeat' (first | ((with_reducible first | refine qaao ?_ | refine qaal (by rw [hP]; exact mixed) ?_); (try rw [hP]); simp -implicitDefEqProofs [hM, c3, *]) | ((with_reducible first | refine qaah ?_ | refine qaak ?_); (try simp -implicitDefEqProofs [hM, c3, *])) | ((with_reducible refine qaaa (fun h => ?_) (fun h => ?_)) <;> have h' := h <;> (try simp at h') <;> (try subst h') <;> simp -implicitDefEqProofs [hM, c3, *]) | ((with_reducible refine qaan ?_ ?_); (first | omega | (unfold maxLen; omega)); simp -implicitDefEqProofs [hM, c3, *]) | refine yA ?_ | with_reducible refine yB ?_ ?_ | ((with_reducible refine yC fun h => ?_); have h' := h; (try simp at h'); (try subst h')) | exact trivial)
   exact fin_xn (qaub k m N) (qabe [(0, 13), (1, 11)] hm ⟨Co.refl _, trivial⟩ ⟨⟨_, rfl, rfl, CoL.refl _⟩, ⟨_, rfl, rfl, rfl, by rw [qabz, List.map_replicate]; exact CoLL.refl _⟩, trivial⟩ rfl (Nat.zero_le _))
end Go.Proofs.YtalejfkholifpaaGreat
namespace Go.Proofs.YtalejfkholifpaaGreat
set_option linter.all false
open Go.RowKit
attribute [local simp] qaas qaar qaad qaag qaae qaaf qaap qaaq qaab qaa5 SOp.run SX.ev putd puts argS upds SOp.touch SSt.keep SSt.skip gets geth puth delh idOf SV.cells? setL qab4 qab5 sbin eq0 eq1 eqL qab0 qabj qabk qaa4 qaat qaac qaau qaa6 qaaj qaam FrzOk qaa9 qaa0 qaa7 qaa8 qaav qaaz qabf qaa1 qaax qaba qaaw frzS frzH frz frz1 frz0 SlotsM ObjsM ObjM rn ren ren1 ren0 qabq qabs qabt qabp qabg qab2 qab1 CoL qabb qabx dels adds idsH qabr
theorem qaha {S : XTab} {xs : List Int} : ∀ (f i : Nat), i < S.length → (qadc S xs f i).1 < S.length
 | 0, i, h => h
 | f + 1, i, h => by
  rw [qadc]
  split
  ·split
   ·exact h
   ·exact qaha f _ (qafa h (by omega))
  ·exact h
theorem qa8k (o : Option XSlot) : (xsc o).length = 4 := by cases o <;> rfl
theorem qaus {l : List SV} (h : l.length = 4) (a b c d : SV) : (((l.set 0 a).set 1 b).set 2 c).set 3 d = [a, b, c, d] := by
 match l, h with
 | [_, _, _, _], _ => rfl
theorem fin_xi {X : Cx} {s : SSt} {t : Nat} {n : Int} {h : Hp} {a b : SObj} (e : h = [(0, a), (1, b)]) (hw : Wk X s ⟨[(t, .int .i64 n)], [(0, a), (1, b)], 2⟩) : QFun X [.tmp t] 2 (.int .i64 n) h .ret s := by
 subst e
 exact ⟨_, hw, by simp [qaf2, resL, resV, one_, gets], ⟨rfl, rfl, trivial⟩, by simp⟩
theorem qaej {X : Cx} {sl : Sl} {hp : Hp} {nx t : Nat} {V W : Int} {h : Hp} {k m : Int} {c N : Nat} {S : XTab} {cs : List SV} {es : List (List SV)} (hm : X.m = 2) (hV : V = W) (hh : h = xobj k m c S) (ht : gets sl t = .int .i64 W) (h0 : geth hp 0 = some (.cells 99 cs)) (hcs : cs = [.int .i64 k, .int .i64 m, .int .i64 c, .own 1 N]) (hN : N = S.length) (h1 : geth hp 1 = some (.row 141 4 es)) (he : es = S.map xsc) : QFun X [.tmp t] 2 (.int .i64 V) h .ret ⟨sl, hp, nx⟩ := by
 subst hV hcs he
 subst hN
 exact fin_xi hh (qabe [] hm ⟨by show Co (gets sl t) _; rw [ht]; exact Co.refl _, trivial⟩ ⟨⟨_, h0, rfl, CoL.refl _⟩, ⟨_, h1, rfl, rfl, by rw [qabz]; exact CoLL.refl _⟩, trivial⟩ rfl (Nat.le_refl 2))
def qacz (S : XTab) (xs : List Int) : Nat × Bool := qadc S xs S.length (qafp S.length xs)
def qat7 (k m : Int) (S : XTab) (xs : List Int) : Int := if (xs.length : Int) ≠ k then 2 else if (qacz S xs).2 = true then 7 else if m ≤ cnt S ∨ (S.length : Int) - 1 ≤ cnt S then 10 else 0
def addX (k m : Int) (S : XTab) (s : XSlot) : XTab := if qat7 k m S s.keys = 0 then S.set (qacz S s.keys).1 (some s) else S
theorem xadd_s (k m : Int) (S : XTab) (hS : 0 < S.length ∧ S.length ≤ 1048576) (hsm : qag6 S) (a : Int) (xs ys : List Int) (hx : xs.length ≤ 1000000) (hy : ys.length ≤ 1000000) (hf : ∃ e : Nat, S[e]? = some none) (hc : qat7 k m S xs = 0 → cnt (S.set (qacz S xs).1 (some ⟨xs, a, ys⟩)) = cnt S + 1) : SCalls Tryz.prog 82 [.ptr 0 0, nums .u64 xs, .agg (hitc a ys)] (xobj k m (cnt S) S) 2 (.int .i64 (qat7 k m S xs)) (xobj k m (cnt (addX k m S ⟨xs, a, ys⟩)) (addX k m S ⟨xs, a, ys⟩)) := by
 have k1 := fun q => qavi k m S hS hsm xs hx hf q
 have k2 := fun q => qa91 xs hx q
 have k3 := fun q => xown_s a ys hy q
 have hcl : cnt S ≤ S.length := List.countP_le_length
 have hv : qat7 k m S xs = if (xs.length : Int) ≠ k then 2 else if (qacz S xs).2 = true then 7 else if m ≤ cnt S ∨ (S.length : Int) - 1 ≤ cnt S then 10 else 0 := rfl
 have hr : addX k m S ⟨xs, a, ys⟩ = if qat7 k m S xs = 0 then S.set (qacz S xs).1 (some ⟨xs, a, ys⟩) else S := rfl
 have hR : (qacz S xs).1 < S.length := qaha _ _ (Nat.mod_lt _ hS.1)
 rw [show qadc S xs S.length (qafp S.length xs) = qacz S xs from rfl] at k1
 generalize qat7 k m S xs = V at hv hr hc ⊢
 generalize addX k m S ⟨xs, a, ys⟩ = S' at hr ⊢
 obtain ⟨R, b, hp⟩ : ∃ R b, qacz S xs = (R, b) := ⟨_, _, rfl⟩
 rw [hp] at k1 hv hr hR hc
 simp only at k1 hv hr hR hc
 generalize hn : cnt S = n at *
 replace hv := Lib.hid hv
 replace hr := Lib.hid hr
 replace hc := Lib.hid hc
 replace hp := Lib.hid hp
 replace hn := Lib.hid hn
 replace hf := Lib.hid hf
 replace hsm := Lib.hid hsm
 unfold nums at k1 k2
 unfold hitc nums at k3
 obtain ⟨H2, hH2⟩ : ∃ H, H = xobj k m (cnt S') S' := ⟨_, rfl⟩
 rw [← hH2]
 replace hH2 := Lib.hid hH2
 unfold xobj at k1 ⊢
 refine qaai (N := 65) Tryz.func82 rfl rfl (by kernel_rfl) qara (by simp) (by repeat' (first | exact trivial | refine And.intro ?_ ?_ | rfl | decide | exact PureR.ren _)) (by repeat' (first | exact trivial | refine And.intro ?_ ?_ | rfl | decide | exact PureR.ren _)) ?_
 rintro X hP hN hm
 unfold c_xadd hitc nums
 by_cases h1 : (xs.length : Int) = k
 ·subst h1
  have w1 : IntKind.i64.wrap ((S.length : Int) - 1) = (S.length : Int) - 1 := IntWalk.i64_in _ ⟨by omega, by omega⟩
  have w2 : IntKind.i64.wrap ((n : Int) + 1) = (n : Int) + 1 := qacb (by omega) (by omega)
  cases b with
  | true =>
   repeat' (first | ((with_reducible first | refine qaao ?_ | refine qaal (by rw [hP]; exact mixed) ?_); (try rw [hP]); simp -implicitDefEqProofs [w1, w2, *]) | ((with_reducible first | refine qaah ?_ | refine qaak ?_); (try simp -implicitDefEqProofs [w1, w2, *])) | ((with_reducible refine qaaa (fun h => ?_) (fun h => ?_)) <;> have h' := h <;> (try simp at h') <;> (try subst h') <;> simp -implicitDefEqProofs [w1, w2, *]) | ((with_reducible refine qaan ?_ ?_); (first | omega | (unfold maxLen; omega)); simp -implicitDefEqProofs [w1, w2, *]) | refine yA ?_ | with_reducible refine yB ?_ ?_ | ((with_reducible refine yC fun h => ?_); have h' := h; (try simp at h'); (try subst h')) | (refine qabv (k1 _) ⟨rfl, rfl, trivial⟩ ⟨rfl, rfl, trivial⟩ ?_; simp -implicitDefEqProofs [w1, w2, *]) | (refine qabo (k2 _) ?_; simp -implicitDefEqProofs [w1, w2, *]) | (refine qabo (k3 _) ?_; simp -implicitDefEqProofs [w1, w2, *]) | exact trivial)
   have hV : V = 7 := by rw [hv.out, if_neg (by simp), if_pos rfl]
   have hS' : S' = S := by rw [hr.out, if_neg (by rw [hV]; decide)]
   subst hS'
   exact qaej hm hV hH2.out rfl rfl (by rw [hn.out]) rfl rfl rfl
  | false =>
   repeat' (first | ((with_reducible first | refine qaao ?_ | refine qaal (by rw [hP]; exact mixed) ?_); (try rw [hP]); simp -implicitDefEqProofs [w1, w2, *]) | ((with_reducible first | refine qaah ?_ | refine qaak ?_); (try simp -implicitDefEqProofs [w1, w2, *])) | ((with_reducible refine qaaa (fun h => ?_) (fun h => ?_)) <;> have h' := h <;> (try simp at h') <;> (try subst h') <;> simp -implicitDefEqProofs [w1, w2, *]) | ((with_reducible refine qaan ?_ ?_); (first | omega | (unfold maxLen; omega)); simp -implicitDefEqProofs [w1, w2, *]) | refine yA ?_ | with_reducible refine yB ?_ ?_ | ((with_reducible refine yC fun h => ?_); have h' := h; (try simp at h'); (try subst h')) | (refine qabv (k1 _) ⟨rfl, rfl, trivial⟩ ⟨rfl, rfl, trivial⟩ ?_; simp -implicitDefEqProofs [w1, w2, *]) | (refine qabo (k2 _) ?_; simp -implicitDefEqProofs [w1, w2, *]) | (refine qabo (k3 _) ?_; simp -implicitDefEqProofs [w1, w2, *]) | exact trivial)
   iterate 2
    ·have hV : V = 10 := by rw [hv.out, if_neg (by simp), if_neg (by simp), if_pos (by omega)]
     have hS' : S' = S := by rw [hr.out, if_neg (by rw [hV]; decide)]
     subst hS'
     exact qaej hm hV hH2.out rfl rfl (by rw [hn.out]) rfl rfl rfl
   ·have hV : V = 0 := by rw [hv.out, if_neg (by simp), if_neg (by simp), if_neg (by omega)]
    have hS' : S' = S.set R (some ⟨xs, a, ys⟩) := by rw [hr.out, if_pos hV]
    have hc' := hc.out hV
    rw [← hS'] at hc'
    refine qaej hm hV hH2.out rfl rfl (by rw [hc']; rfl) (by rw [hS', List.length_set]) rfl (by rw [hS', List.map_set, qaus (qa8k _)]; rfl)
 ·repeat' (first | ((with_reducible first | refine qaao ?_ | refine qaal (by rw [hP]; exact mixed) ?_); (try rw [hP]); simp -implicitDefEqProofs [h1, *]) | ((with_reducible first | refine qaah ?_ | refine qaak ?_); (try simp -implicitDefEqProofs [h1, *])) | ((with_reducible refine qaaa (fun h => ?_) (fun h => ?_)) <;> have h' := h <;> (try simp at h') <;> (try subst h') <;> simp -implicitDefEqProofs [h1, *]) | ((with_reducible refine qaan ?_ ?_); (first | omega | (unfold maxLen; omega)); simp -implicitDefEqProofs [h1, *]) | refine yA ?_ | with_reducible refine yB ?_ ?_ | ((with_reducible refine yC fun h => ?_); have h' := h; (try simp at h'); (try subst h')) | exact trivial)
  ·have hV : V = 2 := by rw [hv.out, if_pos h1]
   have hS' : S' = S := by rw [hr.out, if_neg (by rw [hV]; decide)]
   subst hS'
   exact qaej hm hV hH2.out rfl rfl (by rw [hn.out]) rfl rfl rfl
  ·exact absurd rfl h1
end Go.Proofs.YtalejfkholifpaaGreat
namespace Go.Proofs.YtalejfkholifpaaGreat
set_option linter.all false
open Go.RowKit
attribute [local simp] qaas qaar qaad qaag qaae qaaf qaap qaaq qaab qaa5 SOp.run SX.ev putd puts argS upds SOp.touch SSt.keep SSt.skip gets geth puth delh idOf SV.cells? setL qab4 qab5 sbin eq0 eq1 eqL qab0 qabj qabk qaa4 qaat qaac qaau qaa6 qaaj qaam FrzOk qaa9 qaa0 qaa7 qaa8 qaav qaaz qabf qaa1 qaax qaba qaaw frzS frzH frz frz1 frz0 SlotsM ObjsM ObjM rn ren ren1 ren0 qabq qabs qabt qabp qabg qab2 qab1 CoL qabb qabx dels adds idsH qabr
theorem qafg {S : XTab} {xs : List Int} : ∀ (f i : Nat), (qadc S xs f i).2 = true → ∃ s : XSlot, S[(qadc S xs f i).1]? = some (some s) ∧ s.keys = xs
 | 0, i, h => by cases h
 | f + 1, i, h => by
  cases hs : S[i]? with
  | none => rw [qadc, hs] at h; cases h
  | some o =>
   cases o with
   | none => rw [qadc, hs] at h; cases h
   | some s =>
    by_cases e : s.keys = xs
    ·rw [qadc, hs]; simp only [if_pos e]; exact ⟨s, hs, e⟩
    ·rw [qadc, hs] at h ⊢
     simp only [if_neg e] at h ⊢
     exact qafg f _ h
def qai3 (k : Int) (S : XTab) (xs : List Int) : Int := if (xs.length : Int) ≠ k then 2 else if (qacz S xs).2 = true then 0 else 9
def chgX (k : Int) (S : XTab) (s : XSlot) : XTab := if qai3 k S s.keys = 0 then S.set (qacz S s.keys).1 (some s) else S
theorem xchg_s (k m : Int) (S : XTab) (hS : 0 < S.length ∧ S.length ≤ 1048576) (hsm : qag6 S) (a : Int) (xs ys : List Int) (hx : xs.length ≤ 1000000) (hy : ys.length ≤ 1000000) (hf : ∃ e : Nat, S[e]? = some none) : SCalls Tryz.prog 85 [.ptr 0 0, nums .u64 xs, .agg (hitc a ys)] (xobj k m (cnt S) S) 2 (.int .i64 (qai3 k S xs)) (xobj k m (cnt (chgX k S ⟨xs, a, ys⟩)) (chgX k S ⟨xs, a, ys⟩)) := by
 have k1 := fun q => qavi k m S hS hsm xs hx hf q
 have k3 := fun q => xown_s a ys hy q
 have hv : qai3 k S xs = if (xs.length : Int) ≠ k then 2 else if (qacz S xs).2 = true then 0 else 9 := rfl
 have hr : chgX k S ⟨xs, a, ys⟩ = if qai3 k S xs = 0 then S.set (qacz S xs).1 (some ⟨xs, a, ys⟩) else S := rfl
 have hR : (qacz S xs).1 < S.length := qaha _ _ (Nat.mod_lt _ hS.1)
 have hT : (qacz S xs).2 = true → ∃ s : XSlot, S[(qacz S xs).1]? = some (some s) ∧ s.keys = xs := qafg _ _
 rw [show qadc S xs S.length (qafp S.length xs) = qacz S xs from rfl] at k1
 generalize qai3 k S xs = V at hv hr ⊢
 generalize chgX k S ⟨xs, a, ys⟩ = S' at hr ⊢
 obtain ⟨R, b, hp⟩ : ∃ R b, qacz S xs = (R, b) := ⟨_, _, rfl⟩
 rw [hp] at k1 hv hr hR hT
 simp only at k1 hv hr hR hT
 obtain ⟨n, hn⟩ : ∃ n, n = cnt S := ⟨_, rfl⟩
 rw [← hn] at k1 ⊢
 replace hv := Lib.hid hv
 replace hr := Lib.hid hr
 replace hp := Lib.hid hp
 replace hn := Lib.hid hn
 replace hf := Lib.hid hf
 replace hsm := Lib.hid hsm
 unfold nums at k1
 unfold hitc nums at k3
 obtain ⟨H2, hH2⟩ : ∃ H, H = xobj k m (cnt S') S' := ⟨_, rfl⟩
 rw [← hH2]
 replace hH2 := Lib.hid hH2
 unfold xobj at k1 ⊢
 refine qaai (N := 33) Tryz.func85 rfl rfl (by kernel_rfl) qaq8 (by simp) (by repeat' (first | exact trivial | refine And.intro ?_ ?_ | rfl | decide | exact PureR.ren _)) (by repeat' (first | exact trivial | refine And.intro ?_ ?_ | rfl | decide | exact PureR.ren _)) ?_
 rintro X hP hN hm
 unfold c_xchg hitc nums
 by_cases h1 : (xs.length : Int) = k
 ·subst h1
  cases b with
  | true =>
   obtain ⟨s, hs, hk⟩ := hT rfl
   clear hT
   replace hs := Lib.hid hs
   replace hk := Lib.hid hk
   repeat' (first | refine yA ?_ | with_reducible refine yB ?_ ?_ | ((with_reducible refine yC fun h => ?_); have h' := h; (try simp at h'); (try subst h')) | refine qabv (k1 _) ⟨rfl, rfl, trivial⟩ ⟨rfl, rfl, trivial⟩ ?_ | refine qabo (k3 _) ?_ | exact trivial)
   have hV : V = 0 := by rw [hv.out, if_neg (by simp), if_pos rfl]
   have hS' : S' = S.set R (some ⟨xs, a, ys⟩) := by rw [hr.out, if_pos hV]
   have hs2 : S[R] = some s := by
    have := hs.out
    rw [List.getElem?_eq_getElem hR] at this; exact Option.some.inj this
   have hc : cnt S' = n := by
    have := qagh S R (some ⟨xs, a, ys⟩) hR
    rw [hs2] at this
    rw [hS', hn.out]
    simpa using this
   refine qaej hm hV hH2.out rfl rfl (by rw [hc]) (by rw [hS', List.length_set]) rfl (by rw [hS', List.map_set, hs2, qaby, qaby]; show _ = (S.map xsc).set R [_, nums .u64 xs, _, _]; rw [← hk.out]; rfl)
  | false =>
   clear hT
   repeat' (first | refine yA ?_ | with_reducible refine yB ?_ ?_ | ((with_reducible refine yC fun h => ?_); have h' := h; (try simp at h'); (try subst h')) | refine qabv (k1 _) ⟨rfl, rfl, trivial⟩ ⟨rfl, rfl, trivial⟩ ?_ | refine qabo (k3 _) ?_ | exact trivial)
   have hV : V = 9 := by rw [hv.out, if_neg (by simp), if_neg (by simp)]
   have hS' : S' = S := by rw [hr.out, if_neg (by rw [hV]; decide)]
   subst hS'
   exact qaej hm hV hH2.out rfl rfl (by rw [hn.out]) rfl rfl rfl
 ·clear hT
  repeat' (first | ((with_reducible first | refine qaao ?_ | refine qaal (by rw [hP]; exact mixed) ?_); (try rw [hP]); simp -implicitDefEqProofs [h1, *]) | ((with_reducible first | refine qaah ?_ | refine qaak ?_); (try simp -implicitDefEqProofs [h1, *])) | ((with_reducible refine qaaa (fun h => ?_) (fun h => ?_)) <;> have h' := h <;> (try simp at h') <;> (try subst h') <;> simp -implicitDefEqProofs [h1, *]) | ((with_reducible refine qaan ?_ ?_); (first | omega | (unfold maxLen; omega)); simp -implicitDefEqProofs [h1, *]) | refine yA ?_ | with_reducible refine yB ?_ ?_ | ((with_reducible refine yC fun h => ?_); have h' := h; (try simp at h'); (try subst h')) | exact trivial)
  ·have hV : V = 2 := by rw [hv.out, if_pos h1]
   have hS' : S' = S := by rw [hr.out, if_neg (by rw [hV]; decide)]
   subst hS'
   exact qaej hm hV hH2.out rfl rfl (by rw [hn.out]) rfl rfl rfl
  ·exact absurd rfl h1
end Go.Proofs.YtalejfkholifpaaGreat
namespace Go.Proofs.YtalejfkholifpaaGreat
set_option linter.all false
open Go.RowKit
attribute [local simp] qaas qaar qaad qaag qaae qaaf qaap qaaq qaab qaa5 SOp.run SX.ev putd puts argS upds SOp.touch SSt.keep SSt.skip gets geth puth delh idOf SV.cells? setL qab4 qab5 sbin eq0 eq1 eqL qab0 qabj qabk qaa4 qaat qaac qaau qaa6 qaaj qaam FrzOk qaa9 qaa0 qaa7 qaa8 qaav qaaz qabf qaa1 qaax qaba qaaw frzS frzH frz frz1 frz0 SlotsM ObjsM ObjM rn ren ren1 ren0 qabq qabs qabt qabp qabg qab2 qab1 CoL qabb qabx dels adds idsH qabr
theorem qao0 {N a b : Nat} (ha : a < N) (hb : b < N) : Int.tmod ((b : Int) - a + N) N = (dist N a b : Nat) := by
 rw [Int.tmod_eq_emod_of_nonneg (by omega)]
 unfold dist
 split
 ·rw [show (b : Int) - a + N = ((b - a : Nat) : Int) + N * 1 by omega, Int.add_mul_emod_self_left, Int.emod_eq_of_lt (by omega) (by omega)]
 ·rw [Int.emod_eq_of_lt (by omega) (by omega)]; omega
theorem qa17 {N a : Nat} (ha : a < N) : Int.tmod ((a : Int) + 1) N = (addm N a 1 : Nat) := by
 rw [Int.tmod_eq_emod_of_nonneg (by omega), ← qa1t ha (by omega)]; rfl
theorem qa3n {N a i g : Nat} (ha : a < N) (hi : i < N) (hne : a ≠ i) (h : dist N a i < g + 1) : dist N (addm N a 1) i < g := by
 unfold dist addm at *
 (repeat' split at h) <;> (repeat' split) <;> omega
theorem qa9l {hm : List Int → Nat} {S : XTab} (h : qa1w hm S) {R : Nat} {s : XSlot} (hR : S[R]? = some (some s)) : HInv hm S R := by
 have hl := qacp hR
 refine ⟨h.lt, fun j t _ ht d hd => ?_, fun j k t u _ _ ht hu he => h.uniq j k t u (by have := qacp ht; omega) (by have := qacp hu; omega) ht hu he, ?_⟩
 ·rcases h.path j t (by have := qacp ht; omega) ht d hd with e | e
  ·have := qafa (h.lt t.keys) (show d ≤ S.length by have := qacp ht; have := h.lt t.keys; unfold dist at hd; split at hd <;> omega)
   omega
  ·exact .inr e
 ·obtain ⟨e, -, he⟩ := h.free
  exact ⟨e, fun e1 => (by rw [e1, hR] at he; cases he), he⟩
theorem qaux {hm : List Int → Nat} {S : XTab} {i f k : Nat} (h : S[addm S.length k 1]? = some none) : qamw hm S i (f + 1) k = none := by rw [qamw, h]
theorem qauw {hm : List Int → Nat} {S : XTab} {i f k : Nat} {s : XSlot} (h : S[addm S.length k 1]? = some (some s)) : qamw hm S i (f + 1) k = if dist S.length i (addm S.length k 1) ≤ dist S.length (hm s.keys) (addm S.length k 1) then some (addm S.length k 1) else qamw hm S i f (addm S.length k 1) := by rw [qamw, h]
theorem qa3k {hm : List Int → Nat} {f : Nat} {S : XTab} {i : Nat} (h : HInv hm S i) (hi : i < S.length) (hfr : ∃ e : Nat, e ≠ i ∧ S[e]? = some none ∧ dist S.length i e ≤ f + 1) {k : Nat} (hk : qamw hm (S.set i none) i S.length i = some k) : ∃ s, S[k]? = some (some s) ∧ k ≠ i ∧ HInv hm ((S.set i none).set i (some s)) k ∧ ∃ e : Nat, e ≠ k ∧ ((S.set i none).set i (some s))[e]? = some none ∧ dist S.length k e ≤ f := by
 obtain ⟨e0, he0, h10, h20⟩ := hfr
 have hS := qawi h none
 have hl : (S.set i none).length = S.length := List.length_set ..
 have hi' : i < (S.set i none).length := by rw [hl]; exact hi
 obtain ⟨e, he, h1, h4⟩ := qa9d hi' hS.free
 have g1 : ∀ j, j ≠ i → (S.set i none)[j]? = S[j]? := fun j hj => by rw [qaco hi, if_neg hj]
 have d0 : dist (S.set i none).length i i = 0 := by unfold dist; simp
 have hel := qacp h1
 have hpos : 0 < dist (S.set i none).length i e := by unfold dist; split <;> omega
 have hlt := qagg hi' hel
 rcases qajg hS hi' he h1 h4 S.length i hi' (by omega) (by omega) (fun d h5 h6 => by omega) with ⟨k2, s, q1, q2, q3, q4, q5⟩ | ⟨q1, q2⟩
 ·rw [hk] at q1
  obtain rfl := Option.some.inj q1
  have hks : S[k]? = some (some s) := by rw [← g1 k q2]; exact q3
  have hm2 := qapl hS hi' q2 q3 q4
  have hkl := qacp hks
  have hke0 : dist S.length i k < dist S.length i e0 := by
   rcases Nat.lt_or_ge (dist S.length i k) (dist S.length i e0) with h9 | h9
   ·exact h9
   ·exfalso
    rw [hl] at q5
    have hp0 : 0 < dist S.length i e0 := by have := qacp h10; unfold dist; split <;> omega
    have hne : dist S.length i e0 ≠ dist S.length i k := fun e1 => by
     have a1 := qadx hi (qacp h10)
     have a2 := qadx hi hkl
     rw [e1, a2] at a1
     rw [← a1, hks] at h10; cases h10
    obtain ⟨t, ht⟩ := h4 (dist S.length i e0) hp0 (by rw [hl]; omega)
    rw [hl, qadx hi (qacp h10), g1 e0 he0, h10] at ht
    cases ht
  refine ⟨s, hks, q2, hm2, e0, (fun e1 => (by rw [e1, hks] at h10; cases h10)), ?_, ?_⟩
  ·rw [List.getElem?_set, if_neg (Ne.symm he0), g1 e0 he0]; exact h10
  ·have := qacp h10
   unfold dist at hke0 h20 ⊢
   (repeat' split at *) <;> (repeat' split) <;> omega
 ·rw [hk] at q1; cases q1
theorem qawv {hm : List Int → Nat} {f : Nat} {S : XTab} {i : Nat} (h : qamw hm (S.set i none) i S.length i = none) : qai1 hm (f + 1) S i = S.set i none := by rw [qai1, h]
theorem qawu {hm : List Int → Nat} {f : Nat} {S : XTab} {i k : Nat} {s : XSlot} (h : qamw hm (S.set i none) i S.length i = some k) (hk : S[k]? = some (some s)) : qai1 hm (f + 1) S i = qai1 hm f ((S.set i none).set i (some s)) k := by rw [qai1, h]; simp only [hk, Option.getD_some]
def drpX (k : Int) (S : XTab) (xs : List Int) : XTab := if qai3 k S xs = 0 then qai1 (qafp S.length) S.length S (qacz S xs).1 else S
theorem qag8 {S : XTab} (h : qag6 S) {i : Nat} (hi : i < S.length) (o : Option XSlot) (ho : ∀ s, o = some s → s.keys.length ≤ 1000000 ∧ s.args.length ≤ 1000000) : qag6 (S.set i o) := fun j s hs => by
 rw [qaco hi] at hs
 split at hs
 ·exact ho s (Option.some.inj hs)
 ·exact h j s hs
set_option maxHeartbeats 1000000 in
theorem xdrop_s (k m : Int) (S : XTab) (hS : 0 < S.length ∧ S.length ≤ 1048576) (hsm : qag6 S) (xs : List Int) (hx : xs.length ≤ 1000000) (hI : qa1w (qafp S.length) S) : SCalls Tryz.prog 86 [.ptr 0 0, nums .u64 xs] (xobj k m (cnt S) S) 2 (.int .i64 (qai3 k S xs)) (xobj k m (cnt (drpX k S xs)) (drpX k S xs)) := by
 have hf : ∃ e : Nat, S[e]? = some none := let ⟨e, _, h⟩ := hI.free; ⟨e, h⟩
 have k1 := fun q => qavi k m S hS hsm xs hx hf q
 have hv : qai3 k S xs = if (xs.length : Int) ≠ k then 2 else if (qacz S xs).2 = true then 0 else 9 := rfl
 have hr : drpX k S xs = if qai3 k S xs = 0 then qai1 (qafp S.length) S.length S (qacz S xs).1 else S := rfl
 have hR : (qacz S xs).1 < S.length := qaha _ _ (Nat.mod_lt _ hS.1)
 have hT : (qacz S xs).2 = true → ∃ s : XSlot, S[(qacz S xs).1]? = some (some s) ∧ s.keys = xs := qafg _ _
 rw [show qadc S xs S.length (qafp S.length xs) = qacz S xs from rfl] at k1
 generalize qai3 k S xs = V at hv hr ⊢
 generalize drpX k S xs = S' at hr ⊢
 obtain ⟨R, b, hp⟩ : ∃ R b, qacz S xs = (R, b) := ⟨_, _, rfl⟩
 rw [hp] at k1 hv hr hR hT
 simp only at k1 hv hr hR hT
 obtain ⟨n, hn⟩ : ∃ n, n = cnt S := ⟨_, rfl⟩
 rw [← hn] at k1 ⊢
 have hnl : n ≤ S.length := by rw [hn]; exact List.countP_le_length
 replace hv := Lib.hid hv
 replace hr := Lib.hid hr
 replace hp := Lib.hid hp
 replace hn := Lib.hid hn
 replace hf := Lib.hid hf
 replace hI := Lib.hid hI
 replace hsm := Lib.hid hsm
 unfold nums at k1
 obtain ⟨H2, hH2⟩ : ∃ H, H = xobj k m (cnt S') S' := ⟨_, rfl⟩
 rw [← hH2]
 replace hH2 := Lib.hid hH2
 unfold xobj at k1 ⊢
 refine qaai (N := 111) Tryz.func86 rfl rfl (by kernel_rfl) qan1 (by simp) (by repeat' (first | exact trivial | refine And.intro ?_ ?_ | rfl | decide | exact PureR.ren _)) (by repeat' (first | exact trivial | refine And.intro ?_ ?_ | rfl | decide | exact PureR.ren _)) ?_
 rintro X hP hN hm
 unfold c_xdrop nums
 by_cases h1 : (xs.length : Int) = k
 ·subst h1
  cases b with
  | true =>
   obtain ⟨s, hs, hk⟩ := hT rfl
   clear hT
   have hV : V = 0 := by rw [hv.out, if_neg (by simp), if_pos rfl]
   have hS' : S' = qai1 (qafp S.length) S.length S R := by rw [hr.out, if_pos hV]
   subst hV
   have hi0 := qa9l hI.out hs
   have hfr : ∃ e : Nat, e ≠ R ∧ S[e]? = some none ∧ dist S.length R e ≤ S.length := by
    obtain ⟨e, h1, h2⟩ := hi0.free
    exact ⟨e, h1, h2, Nat.le_of_lt (qagg hR (qacp h2))⟩
   have hds := qajx S.length S R hi0 hR hfr
   rw [← hS'] at hds
   have hcn : cnt S' + 1 = n := by
    have := qagh S R none hR
    rw [hds.2.2.2, hn.out]
    have hs2 : S[R] = some s := by rw [List.getElem?_eq_getElem hR] at hs; exact Option.some.inj hs
    rw [hs2] at this
    simpa using this
   have hlS' : S'.length = S.length := hds.2.1
   clear hds
   obtain ⟨c, hc⟩ : ∃ c, cnt S' = c := ⟨_, rfl⟩
   rw [hc] at hcn
   subst hcn
   have w1 : IntKind.i64.wrap (c : Int) = (c : Int) := IntWalk.i64_in _ ⟨by omega, by omega⟩
   replace hs := Lib.hid hs
   replace hk := Lib.hid hk
   replace hc := Lib.hid hc
   replace hlS' := Lib.hid hlS'
   replace hS' := Lib.hid hS'
   replace hfr := Lib.hid hfr
   replace hi0 := Lib.hid hi0
   repeat' (first | ((with_reducible first | refine qaao ?_ | refine qaal (by rw [hP]; exact mixed) ?_); (try rw [hP]); simp -implicitDefEqProofs [w1, *]) | ((with_reducible first | refine qaah ?_ | refine qaak ?_); (try simp -implicitDefEqProofs [w1, *])) | ((with_reducible refine qaaa (fun h => ?_) (fun h => ?_)) <;> have h' := h <;> (try simp at h') <;> (try subst h') <;> simp -implicitDefEqProofs [w1, *]) | ((with_reducible refine qaan ?_ ?_); (first | omega | (unfold maxLen; omega)); simp -implicitDefEqProofs [w1, *]) | refine yA ?_ | with_reducible refine yB ?_ ?_ | ((with_reducible refine yC fun h => ?_); have h' := h; (try simp at h'); (try subst h')) | (refine qabv (k1 _) ⟨rfl, rfl, trivial⟩ ⟨rfl, rfl, trivial⟩ ?_; simp -implicitDefEqProofs [w1, *]) | exact trivial)
   replace hS' := hS'.out
   replace hfr := hfr.out
   replace hi0 := hi0.out
   replace hsm := hsm.out
   clear hI hf hs hk hn hv hr hp k1 hlS'
   obtain ⟨N, hNl⟩ : ∃ N, N = S.length := ⟨_, rfl⟩
   rw [← hNl] at hS' hi0 hR hS hfr ⊢
   have hSl : S.length = N := hNl.symm
   clear hNl hnl
   refine qabl (qacv (fun s (z : XTab × Nat × Nat) => s.turn [(5, .int .i64 z.2.1)] [(1, .row 141 4 (z.1.map xsc))]) (fun z => z.1.length = N ∧ z.2.1 < N ∧ qag6 z.1 ∧ HInv (qafp N) z.1 z.2.1 ∧ S' = qai1 (qafp N) z.2.2 z.1 z.2.1 ∧ ∃ e : Nat, e ≠ z.2.1 ∧ z.1[e]? = some none ∧ dist N z.2.1 e ≤ z.2.2) (fun z => z.2.2) (S, R, N) ?_ ⟨hSl, hR, hsm, hi0, hS', hfr⟩ ?_)
   ·repeat' (first | exact yD | refine yE ?_ | with_reducible refine yB ?_ ?_ | exact trivial)
   rintro J hJ ⟨T, i, f⟩ ⟨g1, g2, g3, g4, g5, g6⟩
   unfold qall
   simp only [zT, puth, Nat.reduceEqDiff, reduceIte, Nat.reduceAdd] at g1 g2 g3 g4 g5 g6 ⊢
   clear hS' hi0 hsm hfr hSl hR
   obtain ⟨f, rfl⟩ : ∃ g, f = g + 1 := ⟨f - 1, by
    obtain ⟨e, e1, e2, e3⟩ := g6
    have := qacp e2
    unfold dist at e3
    split at e3 <;> omega⟩
   have hTi : T[i]? = some T[i] := List.getElem?_eq_getElem (by omega)
   obtain ⟨T1, hT1⟩ : ∃ T1, T1 = T.set i none := ⟨_, rfl⟩
   have hset : (T.map xsc).set i (((((xsc T[i]).set 0 (.bool false)).set 1 .nilsl).set 2 (.int .i64 0)).set 3 .nilsl) = T1.map xsc := by rw [qaus (qa8k _), hT1, List.map_set]; rfl
   have hl1 : T1.length = N := by rw [hT1, List.length_set, g1]
   have h1i : T1[i]? = some none := by rw [hT1, qaco (by omega), if_pos rfl]
   have hsm1 : qag6 T1 := by rw [hT1]; exact qag8 g3 (by omega) none (fun s h => by cases h)
   obtain ⟨G, hG⟩ : ∃ G, G = qamw (qafp N) T1 i N i := ⟨_, rfl⟩
   have hsc : qamw (qafp N) (T.set i none) i T.length i = G := by rw [hG, hT1, g1]
   have hstep := fun p (e : G = some p) => qa3k g4 (by omega) (by rw [g1]; exact g6) (k := p) (by rw [hsc]; exact e)
   have hend : G = none → S' = T1 := fun e => by rw [g5, qawv (by rw [hsc]; exact e), hT1]
   have hgo : ∀ p s, G = some p → T[p]? = some (some s) → S' = qai1 (qafp N) f (T1.set i (some s)) p := fun p s e h => by rw [g5, qawu (by rw [hsc]; exact e) h, hT1]
   rw [← hT1] at hstep
   replace g3 := Lib.hid g3
   replace g4 := Lib.hid g4
   replace g5 := Lib.hid g5
   replace g6 := Lib.hid g6
   replace hG := Lib.hid hG
   replace hsc := Lib.hid hsc
   replace hT1 := Lib.hid hT1
   replace hstep := Lib.hid hstep
   replace hend := Lib.hid hend
   replace hgo := Lib.hid hgo
   replace hsm1 := Lib.hid hsm1
   replace h1i := Lib.hid h1i
   repeat' (first | ((with_reducible first | refine qaao ?_ | refine qaal (by rw [hP]; exact mixed) ?_); (try rw [hP]); simp -implicitDefEqProofs [g1, hset, hTi, *]) | ((with_reducible first | refine qaah ?_ | refine qaak ?_); (try simp -implicitDefEqProofs [g1, hset, hTi, *])) | ((with_reducible refine qaaa (fun h => ?_) (fun h => ?_)) <;> have h' := h <;> (try simp at h') <;> (try subst h') <;> simp -implicitDefEqProofs [g1, hset, hTi, *]) | ((with_reducible refine qaan ?_ ?_); (first | omega | (unfold maxLen; omega)); simp -implicitDefEqProofs [g1, hset, hTi, *]) | refine yA ?_ | with_reducible refine yB ?_ ?_ | ((with_reducible refine yC fun h => ?_); have h' := h; (try simp at h'); (try subst h')) | exact trivial)
   have hJo := hJ
   have hb0 : dist N (addm N i 1) i < N := qagg (qafa g2 (by omega)) g2
   replace hb0 := Lib.hid hb0
   refine qabl (qacv (fun s (z : Nat × Nat) => s.turn [(7, .int .i64 z.1)] []) (fun z => z.1 < N ∧ G = qamw (qafp N) T1 i z.2 z.1 ∧ dist N (addm N z.1 1) i < z.2) (fun z => z.2) (i, N) ?_ ⟨g2, hG.out, hb0.out⟩ ?_)
   ·repeat' (first | exact yD | refine yE ?_ | with_reducible refine yB ?_ ?_ | exact trivial)
   rintro J hJ ⟨j, g⟩ ⟨a1, a2, a3⟩
   unfold qalm
   simp only [zT, puth, Nat.reduceEqDiff, reduceIte, Nat.reduceAdd] at a1 a2 a3 ⊢
   obtain ⟨g, rfl⟩ : ∃ h, g = h + 1 := ⟨g - 1, by omega⟩
   obtain ⟨p, hp⟩ : ∃ p, p = addm N j 1 := ⟨_, rfl⟩
   have hpl : p < N := by rw [hp]; exact qafa a1 (by omega)
   have wj : IntKind.i64.wrap ((j : Int) + 1) = (j : Int) + 1 := qacb (by omega) (by omega)
   have tj : Int.tmod ((j : Int) + 1) (N : Int) = (p : Int) := by rw [qa17 a1, ← hp]
   have hN0 : ¬ N = 0 := by omega
   have hpl1 : p < T1.length := by omega
   rcases hq : T1[p] with _ | s
   ·have hq' : T1[p]? = some none := by rw [List.getElem?_eq_getElem hpl1, hq]
    have hGn : G = none := by rw [a2, qaux (by rw [hl1, ← hp]; exact hq')]
    have hS1 : S' = T1 := hend.out hGn
    clear a2 a3 hp
    subst hS1
    repeat' (first | ((with_reducible first | refine qaao ?_ | refine qaal (by rw [hP]; exact mixed) ?_); (try rw [hP]); simp -implicitDefEqProofs [wj, tj, hN0, hl1, hq', qacw, *]) | ((with_reducible first | refine qaah ?_ | refine qaak ?_); (try simp -implicitDefEqProofs [wj, tj, hN0, hl1, hq', qacw, *])) | ((with_reducible refine qaaa (fun h => ?_) (fun h => ?_)) <;> have h' := h <;> (try simp at h') <;> (try subst h') <;> simp -implicitDefEqProofs [wj, tj, hN0, hl1, hq', qacw, *]) | ((with_reducible refine qaan ?_ ?_); (first | omega | (unfold maxLen; omega)); simp -implicitDefEqProofs [wj, tj, hN0, hl1, hq', qacw, *]) | refine yA ?_ | with_reducible refine yB ?_ ?_ | ((with_reducible refine yC fun h => ?_); have h' := h; (try simp at h'); (try subst h')) | exact trivial)
    exact qaej hm rfl hH2.out rfl rfl (by rw [hc.out]) hl1.symm rfl rfl
   ·have hq' : T1[p]? = some (some s) := by rw [List.getElem?_eq_getElem hpl1, hq]
    obtain ⟨hh, hhh⟩ : ∃ hh, hh = qafp N s.keys := ⟨_, rfl⟩
    have hhl : hh < N := by rw [hhh]; exact Nat.mod_lt _ (by omega)
    rw [qauw (by rw [hl1, ← hp]; exact hq'), hl1, ← hp, ← hhh] at a2
    have k2 := fun q => home_o (xs.length : Int) m c T1 (by rw [hl1]; exact hS) s.keys (hsm1.out p s hq').1 q
    rw [hl1, ← hhh] at k2
    unfold nums xobj at k2
    rw [hl1] at k2
    have w2 : IntKind.i64.wrap ((p : Int) - hh) = (p : Int) - hh := IntWalk.i64_in _ ⟨by omega, by omega⟩
    have w3 : IntKind.i64.wrap ((p : Int) - hh + N) = (p : Int) - hh + N := IntWalk.i64_in _ ⟨by omega, by omega⟩
    have w4 : IntKind.i64.wrap ((p : Int) - i) = (p : Int) - i := IntWalk.i64_in _ ⟨by omega, by omega⟩
    have w5 : IntKind.i64.wrap ((p : Int) - i + N) = (p : Int) - i + N := IntWalk.i64_in _ ⟨by omega, by omega⟩
    have t2 := qao0 hhl hpl
    have t3 := qao0 g2 hpl
    have hpi : p ≠ i := fun e => by rw [e, h1i.out] at hq'; cases hq'
    have hd : dist N (addm N p 1) i < g := by
     rw [← hp] at a3
     exact qa3n hpl g2 hpi a3
    generalize dist N hh p = d1 at a2 t2
    generalize dist N i p = d2 at a2 t3
    have hq2 := hq'
    clear a3
    replace hp := Lib.hid hp
    replace hhh := Lib.hid hhh
    replace hd := Lib.hid hd
    by_cases hc2 : d2 ≤ d1
    ·rw [if_pos hc2] at a2
     obtain ⟨s2, b1, b2, b3, b4⟩ := hstep.out p a2
     have b5 : s2 = s := by
      have := hq'
      rw [hT1.out, qaco (by omega), if_neg hpi, b1] at this
      exact Option.some.inj (Option.some.inj this)
     subst b5
     have hS2 := hgo.out p s2 a2 b1
     obtain ⟨T2, hT2⟩ : ∃ T2, T2 = T1.set i (some s2) := ⟨_, rfl⟩
     have hset2 : (T1.map xsc).set i [.bool true, .view 1 (s2.keys.map fun x => [.int .u64 x]), .int .i64 s2.act, .view 1 (s2.args.map fun x => [.int .u64 x])] = T2.map xsc := by rw [hT2, List.map_set]; rfl
     have hl2 : T2.length = N := by rw [hT2, List.length_set, hl1]
     have hsm2 : qag6 T2 := by rw [hT2]; exact qag8 hsm1.out (by omega) _ (fun s h => by cases h; exact hsm1.out p _ hq')
     rw [← hT2] at b3 b4 hS2
     have hi1 : T1[i]'(by omega) = none := by
      have := h1i.out
      rw [List.getElem?_eq_getElem (by omega)] at this; exact Option.some.inj this
     rw [g1] at b4
     replace hT2 := Lib.hid hT2
     replace hS2 := Lib.hid hS2
     replace b1 := Lib.hid b1
     replace b3 := Lib.hid b3
     replace b4 := Lib.hid b4
     replace a2 := Lib.hid a2
     replace hsm2 := Lib.hid hsm2
     repeat' (first | ((with_reducible first | refine qaao ?_ | refine qaal (by rw [hP]; exact mixed) ?_); (try rw [hP]); simp -implicitDefEqProofs [wj, tj, hN0, hl1, hq, hq2, qaby, qacw, hi1, nums, w2, w3, w4, w5, t2, t3, hset2, *]) | ((with_reducible first | refine qaah ?_ | refine qaak ?_); (try simp -implicitDefEqProofs [wj, tj, hN0, hl1, hq, hq2, qaby, qacw, hi1, nums, w2, w3, w4, w5, t2, t3, hset2, *])) | ((with_reducible refine qaaa (fun h => ?_) (fun h => ?_)) <;> have h' := h <;> (try simp at h') <;> (try subst h') <;> simp -implicitDefEqProofs [wj, tj, hN0, hl1, hq, hq2, qaby, qacw, hi1, nums, w2, w3, w4, w5, t2, t3, hset2, *]) | ((with_reducible refine qaan ?_ ?_); (first | omega | (unfold maxLen; omega)); simp -implicitDefEqProofs [wj, tj, hN0, hl1, hq, hq2, qaby, qacw, hi1, nums, w2, w3, w4, w5, t2, t3, hset2, *]) | refine yA ?_ | with_reducible refine yB ?_ ?_ | ((with_reducible refine yC fun h => ?_); have h' := h; (try simp at h'); (try subst h')) | (refine qabv (k2 _) ⟨rfl, rfl, trivial⟩ ⟨rfl, rfl, trivial⟩ ?_; simp -implicitDefEqProofs [wj, tj, hN0, hl1, hq, hq2, qaby, qacw, hi1, nums, w2, w3, w4, w5, t2, t3, hset2, *]) | exact yD | refine yE ?_ | ((refine qabn hJo ((T2, p, f)) ?_ ?_ ?_; (with_reducible refine qabe [] hm ?_ ?_ ?_ ?_) <;> (try simp only [zT, puth, Nat.reduceEqDiff, reduceIte, Nat.reduceAdd]))) | exact trivial)
     all_goals exact ⟨hl2, hpl, hsm2.out, b3.out, hS2.out, b4.out⟩
    ·rw [if_neg hc2] at a2
     replace a2 := Lib.hid a2
     repeat' (first | ((with_reducible first | refine qaao ?_ | refine qaal (by rw [hP]; exact mixed) ?_); (try rw [hP]); simp -implicitDefEqProofs [wj, tj, hN0, hl1, hq, hq2, qaby, nums, w2, w3, w4, w5, t2, t3, *]) | ((with_reducible first | refine qaah ?_ | refine qaak ?_); (try simp -implicitDefEqProofs [wj, tj, hN0, hl1, hq, hq2, qaby, nums, w2, w3, w4, w5, t2, t3, *])) | ((with_reducible refine qaaa (fun h => ?_) (fun h => ?_)) <;> have h' := h <;> (try simp at h') <;> (try subst h') <;> simp -implicitDefEqProofs [wj, tj, hN0, hl1, hq, hq2, qaby, nums, w2, w3, w4, w5, t2, t3, *]) | ((with_reducible refine qaan ?_ ?_); (first | omega | (unfold maxLen; omega)); simp -implicitDefEqProofs [wj, tj, hN0, hl1, hq, hq2, qaby, nums, w2, w3, w4, w5, t2, t3, *]) | refine yA ?_ | with_reducible refine yB ?_ ?_ | ((with_reducible refine yC fun h => ?_); have h' := h; (try simp at h'); (try subst h')) | (refine qabv (k2 _) ⟨rfl, rfl, trivial⟩ ⟨rfl, rfl, trivial⟩ ?_; simp -implicitDefEqProofs [wj, tj, hN0, hl1, hq, hq2, qaby, nums, w2, w3, w4, w5, t2, t3, *]) | exact yD | refine yE ?_ | ((refine qabn hJ ((p, g)) ?_ ?_ ?_; (with_reducible refine qabe [] hm ?_ ?_ ?_ ?_) <;> (try simp only [zT, puth, Nat.reduceEqDiff, reduceIte, Nat.reduceAdd]))) | exact trivial)
     all_goals exact ⟨hpl, a2.out, hd.out⟩
  | false =>
   clear hT
   repeat' (first | refine yA ?_ | with_reducible refine yB ?_ ?_ | ((with_reducible refine yC fun h => ?_); have h' := h; (try simp at h'); (try subst h')) | refine qabv (k1 _) ⟨rfl, rfl, trivial⟩ ⟨rfl, rfl, trivial⟩ ?_ | exact trivial)
   have hV : V = 9 := by rw [hv.out, if_neg (by simp), if_neg (by simp)]
   have hS' : S' = S := by rw [hr.out, if_neg (by rw [hV]; decide)]
   subst hS'
   exact qaej hm hV hH2.out rfl rfl (by rw [hn.out]) rfl rfl rfl
 ·clear hT
  repeat' (first | ((with_reducible first | refine qaao ?_ | refine qaal (by rw [hP]; exact mixed) ?_); (try rw [hP]); simp -implicitDefEqProofs [h1, *]) | ((with_reducible first | refine qaah ?_ | refine qaak ?_); (try simp -implicitDefEqProofs [h1, *])) | ((with_reducible refine qaaa (fun h => ?_) (fun h => ?_)) <;> have h' := h <;> (try simp at h') <;> (try subst h') <;> simp -implicitDefEqProofs [h1, *]) | ((with_reducible refine qaan ?_ ?_); (first | omega | (unfold maxLen; omega)); simp -implicitDefEqProofs [h1, *]) | refine yA ?_ | with_reducible refine yB ?_ ?_ | ((with_reducible refine yC fun h => ?_); have h' := h; (try simp at h'); (try subst h')) | exact trivial)
  ·have hV : V = 2 := by rw [hv.out, if_pos h1]
   have hS' : S' = S := by rw [hr.out, if_neg (by rw [hV]; decide)]
   subst hS'
   exact qaej hm hV hH2.out rfl rfl (by rw [hn.out]) rfl rfl rfl
  ·exact absurd rfl h1
end Go.Proofs.YtalejfkholifpaaGreat
namespace Go.Proofs.YtalejfkholifpaaGreat
set_option linter.all false
open Go.RowKit
attribute [local simp] qaas qaar qaad qaag qaae qaaf qaap qaaq qaab qaa5 SOp.run SX.ev putd puts argS upds SOp.touch SSt.keep SSt.skip gets geth puth delh idOf SV.cells? setL qab4 qab5 sbin eq0 eq1 eqL qab0 qabj qabk qaa4 qaat qaac qaau qaa6 qaaj qaam FrzOk qaa9 qaa0 qaa7 qaa8 qaav qaaz qabf qaa1 qaax qaba qaaw frzS frzH frz frz1 frz0 SlotsM ObjsM ObjM rn ren ren1 ren0 qabq qabs qabt qabp qabg qab2 qab1 CoL qabb qabx dels adds idsH qabr
instance : PureF xec := ⟨fun _ _ => rfl, fun _ => rfl, fun x => qaci _ rfl⟩
theorem fin_xw {X : Cx} {s : SSt} {t z : Nat} {es : List (List SV)} {h : Hp} {a b : SObj} (e : h = [(0, a), (1, b)]) (hw : Wk X s ⟨[(t, .view z es)], [(0, a), (1, b)], 2⟩) : QFun X [.tmp t] 2 (.view z es) h .ret s := by
 subst e
 exact ⟨_, hw, by simp [qaf2, resL, resV, one_, gets], ⟨rfl, rfl, trivial⟩, by simp⟩
theorem xsc_frz (g : Nat → Option SObj) (D : List Nat) (S : XTab) : S.map ((fun x => List.map (frz0 g D) x) ∘ xsc) = S.map xsc := List.map_congr_left fun x _ => by cases x <;> rfl
def qah2 (S : XTab) : List XSlot := S.filterMap id
theorem xall_s (k m : Int) (n : Nat) (S : XTab) (hS : 0 < S.length ∧ S.length ≤ 1048576) (hsm : qag6 S) (hlen : (qah2 S).length ≤ 1000000) (L : List XSlot) (hLl : L.length = (qah2 S).length) (hL : ∀ l' : List XSlot, l'.Perm (qah2 S) → l'.Pairwise (fun a b => ¬ cmpL b.keys a.keys < 0) → l' = L) : SCalls Tryz.prog 84 [.ptr 0 0] (xobj k m n S) 2 (.view 6 (L.map xec)) (xobj k m n S) := by
 have k1 := fun nm q => qbad (qah2 S) L hlen hL nm q
 obtain ⟨F, hF⟩ : ∃ F, F = qah2 S := ⟨_, rfl⟩
 rw [← hF] at k1 hlen hLl
 clear hL
 obtain ⟨H2, hH2⟩ : ∃ H, H = xobj k m n S := ⟨_, rfl⟩
 suffices h : SCalls Tryz.prog 84 [.ptr 0 0] (xobj k m n S) 2 (.view 6 (L.map xec)) H2 by rw [← hH2]; rw [← hH2] at h; exact h
 replace hH2 := Lib.hid hH2
 replace hsm := Lib.hid hsm
 replace hF := Lib.hid hF
 obtain ⟨N, hN'⟩ : ∃ N, N = S.length := ⟨_, rfl⟩
 unfold xobj
 rw [← hN'] at hS ⊢
 refine qaai (N := 35) Tryz.func84 rfl rfl (by kernel_rfl) qaq9 (by simp) (by repeat' (first | exact trivial | refine And.intro ?_ ?_ | rfl | decide | exact PureR.ren _)) (by repeat' (first | exact trivial | refine And.intro ?_ ?_ | rfl | decide | exact PureR.ren _)) ?_
 rintro X hP hN hm
 unfold c_xall
 replace hN' := Lib.hid hN'
 repeat' (first | refine yA ?_ | with_reducible refine yB ?_ ?_ | ((with_reducible refine yC fun h => ?_); have h' := h; (try simp at h'); (try subst h')) | exact trivial)
 refine qaqe (qajc 3 38 6 rfl) ?_
 simp only [zT, puth, Nat.reduceEqDiff, reduceIte, Nat.reduceAdd]
 refine qabl (qacv (fun s (x : Nat × List XSlot) => ⟨[(3, .own 2 x.2.length), (9, .own 1 N), (10, .int .i64 N), (11, .int .i64 x.1)], [(0, .cells 99 [.int .i64 k, .int .i64 m, .int .i64 n, .own 1 N]), (1, .row 141 4 (S.map xsc)), (2, .row 38 6 (x.2.map xec))], 3⟩) (fun x => x.1 ≤ N ∧ F = x.2 ++ qah2 (S.drop x.1)) (fun x => N - x.1) (0, []) ?_ ⟨Nat.zero_le _, by rw [hF.out]; rfl⟩ ?_)
 ·refine qabe [(2, 10)] hm ⟨Co.refl _, Co.refl _, Co.refl _, Co.refl _, trivial⟩ ⟨⟨_, rfl, rfl, CoL.refl _⟩, ⟨_, rfl, rfl, rfl, ?_⟩, ⟨_, rfl, rfl, rfl, CoLL.refl _⟩, trivial⟩ rfl (by simp)
  rw [qabz]; exact CoLL.refl _
 rintro J hJ ⟨i, out⟩ ⟨h1, h2⟩
 unfold qap1
 simp only [zT, puth, Nat.reduceEqDiff, reduceIte, Nat.reduceAdd] at h1 h2 ⊢
 have hSN : S.length = N := hN'.out.symm
 rcases Nat.lt_or_ge i N with hi | hi
 ·have hiS : i < S.length := by omega
  rw [List.drop_eq_getElem_cons hiS] at h2
  have wi : IntKind.i64.wrap ((i : Int) + 1) = (i : Int) + 1 := qacb (by omega) (by omega)
  rcases hq : S[i] with _ | s
  ·rw [hq] at h2
   replace h2 : F = out ++ qah2 (S.drop (i + 1)) := h2
   replace h2 := Lib.hid h2
   repeat' (first | ((with_reducible first | refine qaao ?_ | refine qaal (by rw [hP]; exact mixed) ?_); (try rw [hP]); simp -implicitDefEqProofs [wi, hSN, hq, qacw, *]) | ((with_reducible first | refine qaah ?_ | refine qaak ?_); (try simp -implicitDefEqProofs [wi, hSN, hq, qacw, *])) | ((with_reducible refine qaaa (fun h => ?_) (fun h => ?_)) <;> have h' := h <;> (try simp at h') <;> (try subst h') <;> simp -implicitDefEqProofs [wi, hSN, hq, qacw, *]) | ((with_reducible refine qaan ?_ ?_); (first | omega | (unfold maxLen; omega)); simp -implicitDefEqProofs [wi, hSN, hq, qacw, *]) | refine yA ?_ | with_reducible refine yB ?_ ?_ | ((with_reducible refine yC fun h => ?_); have h' := h; (try simp at h'); (try subst h')) | exact yD | refine yE ?_ | ((refine qabn hJ ((i + 1, out)) ?_ ?_ ?_; (with_reducible refine qabe [] hm ?_ ?_ ?_ ?_) <;> (try simp only [zT, puth, Nat.reduceEqDiff, reduceIte, Nat.reduceAdd]))) | exact trivial)
   all_goals exact ⟨by show i + 1 ≤ N; omega, h2.out⟩
  ·rw [hq] at h2
   replace h2 : F = out ++ (s :: qah2 (S.drop (i + 1))) := h2
   rw [List.append_cons] at h2
   have hlo : out.length + 1 ≤ F.length := by rw [h2]; simp
   have hss := hsm.out i s (by rw [List.getElem?_eq_getElem hiS, hq])
   have k2 := fun q => qa91 s.keys hss.1 q
   have k3 := fun q => qa91 s.args hss.2 q
   unfold nums at k2 k3
   have b1 : out.length + 1 ≤ maxLen := by unfold maxLen; omega
   have b2 : (out.length + 1) * 96 ≤ 140737488355328 := by omega
   replace h2 := Lib.hid h2
   replace hlo := Lib.hid hlo
   replace hss := Lib.hid hss
   repeat' (first | ((with_reducible first | refine qaao ?_ | refine qaal (by rw [hP]; exact mixed) ?_); (try rw [hP]); simp -implicitDefEqProofs [wi, hSN, hq, qaby, nums, b1, b2, *]) | ((with_reducible first | refine qaah ?_ | refine qaak ?_); (try simp -implicitDefEqProofs [wi, hSN, hq, qaby, nums, b1, b2, *])) | ((with_reducible refine qaaa (fun h => ?_) (fun h => ?_)) <;> have h' := h <;> (try simp at h') <;> (try subst h') <;> simp -implicitDefEqProofs [wi, hSN, hq, qaby, nums, b1, b2, *]) | ((with_reducible refine qaan ?_ ?_); (first | omega | (unfold maxLen; omega)); simp -implicitDefEqProofs [wi, hSN, hq, qaby, nums, b1, b2, *]) | refine yA ?_ | with_reducible refine yB ?_ ?_ | ((with_reducible refine yC fun h => ?_); have h' := h; (try simp at h'); (try subst h')) | (refine qabo (k2 _) ?_; simp -implicitDefEqProofs [wi, hSN, hq, qaby, nums, b1, b2, *]) | (refine qabo (k3 _) ?_; simp -implicitDefEqProofs [wi, hSN, hq, qaby, nums, b1, b2, *]) | exact trivial)
   refine qabn hJ (i + 1, out ++ [s]) (qabe [(2, 37)] hm ⟨?_, Co.refl _, Co.refl _, ?_, trivial⟩ ⟨⟨_, rfl, rfl, CoL.refl _⟩, ⟨_, rfl, rfl, rfl, ?_⟩, ⟨_, rfl, rfl, rfl, ?_⟩, trivial⟩ rfl (by simp)) ⟨by show i + 1 ≤ N; omega, h2.out⟩ ?_
   ·simp only [List.length_append, List.length_cons, List.length_nil]; exact Co.refl _
   ·simp only [Int.natCast_add, Int.cast_ofNat_Int]; exact Co.refl _
   ·rw [qabz]; exact CoLL.refl _
   ·rw [qabz, List.map_append]; exact CoLL.refl _
   ·show N - (i + 1) < N - i; omega
 ·obtain rfl : i = N := by omega
  have h3 : F = out := by rw [h2, List.drop_eq_nil_of_le (by omega)]; simp [qah2]
  subst h3
  replace h2 := Lib.hid h2
  replace hLl := Lib.hid hLl
  repeat' (first | ((with_reducible refine qahn (c := .seq (.reg false qaln [2]) .ret) ?_)) | refine yA ?_ | with_reducible refine yB ?_ ?_ | ((with_reducible refine yC fun h => ?_); have h' := h; (try simp at h'); (try subst h')) | refine qaeq (k1 2 _) ⟨rfl, trivial⟩ ⟨rfl, trivial⟩ [] (by simp) ?_ | exact trivial)
  constructor
  rw [← hLl.out]
  refine qauj [2] ?_ ?_
  ·simp only [FrzOk, geth, Nat.reduceEqDiff, reduceIte, qapd, and_true]
  simp -implicitDefEqProofs
  repeat' (first | refine yA ?_ | with_reducible refine yB ?_ ?_ | ((with_reducible refine yC fun h => ?_); have h' := h; (try simp at h'); (try subst h')) | ((refine fin_xw hH2.out ?_)) | exact trivial)
  rw [xsc_frz, hSN]
  exact qabe [] hm ⟨Co.refl _, trivial⟩ ⟨⟨_, rfl, rfl, CoL.refl _⟩, ⟨_, rfl, rfl, rfl, by rw [qabz]; exact CoLL.refl _⟩, trivial⟩ rfl (Nat.le_refl 2)
end Go.Proofs.YtalejfkholifpaaGreat
namespace Go.Proofs.YtalejfkholifpaaGreat
set_option linter.all false
open Go.RowKit
theorem qaiy : ∀ T : XTab, cnt T < T.length → ∃ e : Nat, T[e]? = some none
 | [], h => by simp [cnt] at h
 | none :: T, _ => ⟨0, rfl⟩
 | some s :: T, h => by
  obtain ⟨e, he⟩ := qaiy T (by unfold cnt at h ⊢; simp at h ⊢; omega)
  exact ⟨e + 1, by simpa using he⟩
theorem qapx {S : XTab} {r : Nat} (hr : S[r]? = some none) (s : XSlot) : cnt (S.set r (some s)) = cnt S + 1 := by
 have hl := qacp hr
 have := qagh S r (some s) hl
 rw [List.getElem?_eq_getElem hl] at hr
 rw [Option.some.inj hr] at this
 simpa using this
theorem qavp {S : XTab} {r : Nat} (hr : S[r]? = some none) (h : cnt S + 1 < S.length) : ∃ e : Nat, e ≠ r ∧ S[e]? = some none := by
 have hl := qacp hr
 obtain ⟨e, he⟩ := qaiy (S.set r (some ⟨[], 0, []⟩)) (by rw [qapx hr, List.length_set]; exact h)
 rw [qaco hl] at he
 split at he
 ·cases he
 ·exact ⟨e, by assumption, he⟩
theorem home_lt {N : Nat} (h : 0 < N) (xs : List Int) : qafp N xs < N := Nat.mod_lt _ h
structure XInv (k m : Int) (S : XTab) : Prop where
 pinv : qa1w (qafp S.length) S
 small : qag6 S
 fit : ∀ (j : Nat) (s : XSlot), S[j]? = some (some s) → (s.keys.length : Int) = k
 len : S.length = newN m
 full : (cnt S : Int) ≤ m ∨ cnt S = 0
theorem XInv.sz {k m : Int} {S : XTab} (h : XInv k m S) : 0 < S.length ∧ S.length ≤ 1048576 := by
 have := qavw m
 rw [h.len]; omega
theorem XInv.fr {k m : Int} {S : XTab} (h : XInv k m S) : ∃ e : Nat, S[e]? = some none := let ⟨e, _, h⟩ := h.pinv.free; ⟨e, h⟩
theorem qa92 (k m : Int) : XInv k m (List.replicate (newN m) none) := by
 have hb := qavw m
 have no : ∀ (j : Nat) (s : XSlot), (List.replicate (newN m) (none : Option XSlot))[j]? = some (some s) → False := fun j s h => by
  rw [List.getElem?_replicate] at h
  split at h <;> cases h
 refine ⟨⟨fun xs => ?_, fun j s _ h => (no j s h).elim, fun j _ s _ _ _ h => (no j s h).elim, ⟨0, ?_, ?_⟩⟩, fun j s h => (no j s h).elim, fun j s h => (no j s h).elim, List.length_replicate, .inr ?_⟩
 ·rw [List.length_replicate]; exact home_lt (by omega) xs
 ·rw [List.length_replicate]; omega
 ·rw [List.getElem?_replicate, if_pos (by omega)]
 ·unfold cnt
  rw [List.countP_replicate]; simp
theorem qagn {k m : Int} {S : XTab} (h : XInv k m S) {j : Nat} {s : XSlot} (hj : S[j]? = some (some s)) : qacz S s.keys = (j, true) := qaql h.pinv hj
theorem qanc {k m : Int} {S : XTab} (h : XInv k m S) {xs : List Int} (hp : (qacz S xs).2 = false) : ∀ (j : Nat) (s : XSlot), S[j]? = some (some s) → s.keys ≠ xs := fun j s hj e => by
 subst e
 rw [qagn h hj] at hp; cases hp
theorem qa1u {k m : Int} {S : XTab} (h : XInv k m S) {s : XSlot} (hs : s.keys.length ≤ 1000000 ∧ s.args.length ≤ 1000000) (hV : qat7 k m S s.keys = 0) : XInv k m (S.set (qacz S s.keys).1 (some s)) ∧ S[(qacz S s.keys).1]? = some none := by
 unfold qat7 at hV
 split at hV
 ·cases hV
 rename_i hk
 split at hV
 ·cases hV
 rename_i hp
 split at hV
 ·cases hV
 rename_i hc
 have hp' : (qacz S s.keys).2 = false := by simpa using hp
 have hno := qanc h hp'
 obtain ⟨r, h1, h2, h3⟩ := qavj h.pinv hno
 have e1 : (qacz S s.keys).1 = r := by unfold qacz; rw [h1]
 rw [e1]
 have hl := qacp h2
 refine ⟨⟨?_, qag8 h.small hl _ fun t ht => by cases ht; exact hs, fun j t ht => ?_, by rw [List.length_set]; exact h.len, .inl (by rw [qapx h2]; omega)⟩, h2⟩
 ·rw [List.length_set]
  exact add_inv h.pinv hno h2 h3 (qavp h2 (by omega))
 ·rw [qaco hl] at ht
  split at ht
  ·cases ht; omega
  ·exact h.fit j t ht
theorem qbb2 {k m : Int} {S : XTab} (h : XInv k m S) {s t : XSlot} {j : Nat} (hs : s.keys.length ≤ 1000000 ∧ s.args.length ≤ 1000000) (hj : S[j]? = some (some t)) (hk : s.keys = t.keys) : XInv k m (S.set j (some s)) := by
 have hl := qacp hj
 refine ⟨?_, qag8 h.small hl _ fun t ht => by cases ht; exact hs, fun i u hu => ?_, by rw [List.length_set]; exact h.len, ?_⟩
 ·rw [List.length_set]
  exact chg_inv h.pinv hj hk
 ·rw [qaco hl] at hu
  split at hu
  ·cases hu; rw [hk]; exact h.fit j t hj
  ·exact h.fit i u hu
 ·have := qagh S j (some s) hl
  rw [List.getElem?_eq_getElem hl] at hj
  rw [Option.some.inj hj] at this
  have e : cnt (S.set j (some s)) = cnt S := by simpa using this
  rw [e]; exact h.full
theorem qbbt {k m : Int} {S : XTab} (h : XInv k m S) {t : XSlot} {j : Nat} (hj : S[j]? = some (some t)) : XInv k m (qai1 (qafp S.length) S.length S j) ∧ (∀ s, (∃ i : Nat, (qai1 (qafp S.length) S.length S j)[i]? = some (some s)) ↔ ∃ i : Nat, i ≠ j ∧ S[i]? = some (some s)) ∧ cnt (qai1 (qafp S.length) S.length S j) + 1 = cnt S := by
 have hl := qacp hj
 have hi := qa9l h.pinv hj
 obtain ⟨e, h1, h2⟩ := hi.free
 obtain ⟨d1, d2, d3, d4⟩ := qajx S.length S j hi hl ⟨e, h1, h2, Nat.le_of_lt (qagg hl (qacp h2))⟩
 have hc := qagh S j none hl
 rw [List.getElem?_eq_getElem hl] at hj
 rw [Option.some.inj hj] at hc
 have hc' : cnt (S.set j none) + 1 = cnt S := by simpa using hc
 refine ⟨⟨by rw [d2]; exact d1, fun i s hs => ?_, fun i s hs => ?_, by rw [d2]; exact h.len, ?_⟩, d3, by rw [d4]; exact hc'⟩
 ·obtain ⟨i', _, h3⟩ := (d3 s).1 ⟨i, hs⟩
  exact h.small i' s h3
 ·obtain ⟨i', _, h3⟩ := (d3 s).1 ⟨i, hs⟩
  exact h.fit i' s h3
 ·rw [d4]
  rcases h.full with h5 | h5 <;> omega
end Go.Proofs.YtalejfkholifpaaGreat
namespace Go.Proofs.YtalejfkholifpaaGreat
set_option linter.all false
open Go.RowKit
theorem qaen {P : Program} {f : FuncId} {args : List SV} {N : Nat} {hh hh2 : Hp} {r : SV} (he : Enters P f) (hN : 0 < N) (hren : ∀ σ : Nat → Nat, (∀ i, i < N → σ i = i) → RenH σ hh2) (hids2 : ∀ i ∈ idsH hh2, i < N)
  (h : SCalls P f (.ptr 0 0 :: args) hh N r hh2) (ha : ∀ σ, args.map (Go.Proofs.YtalejfkholifpaaGreat.ren σ) = args) (hr : ∀ σ, Go.Proofs.YtalejfkholifpaaGreat.ren σ r = r) (id q : Nat) : SCalls P f (.ptr id 0 :: args) [(id, .abs (qang N fun h => h = hh))] q r [(id, .abs (qang N fun h => h = hh2))] := by
 refine qady he (fun O Fp w b vs hI hO hd hv => ?_) ha id q
 obtain ⟨h1, ρ, fp, c, hR, h0, hn, hobj, hdis, hlt, hF⟩ := hI
 have hR' : h1 = hh := hR
 subst hR'
 have hA : (fun k => O k ∨ Fp k) = fun k => O k ∨ Live h1 fp k := by funext k; rw [hF]
 rw [hA] at hobj hv
 refine (h.2 O ρ fp w (.pointer (some ⟨b, 0, none⟩) :: vs) ⟨hobj, hdis, fun k hk => ⟨hlt k hk, hd k ((hF k).2 hk)⟩, hO⟩ (Reps.cons (.ptr h0) (hv.mono (.refl _ _) (fun _ h _ => h) fun _ _ h => by cases h)) (fun id h3 _ => hn id h3)).mono ?_
 rintro e w' ⟨v, ρ', fp', rfl, q1, q2, q3, q4, q5, q6⟩
 have hfr : ρ' (N + 8) = none := by
  cases e : ρ' (N + 8) with
  | none => rfl
  | some p =>
   rcases q5 (N + 8) (by rw [e]; simp) with h3 | h3
   ·exact absurd (hn _ (by omega)) h3
   ·omega
 let σ : Nat → Nat := fun i => if i < N then i else N + 8
 have hσ : ∀ {i o}, geth hh2 i = some o → i < N ∧ σ i = i := fun {i o} ho => by
  have := hids2 i (qads (by rw [ho]; simp))
  exact ⟨this, if_pos this⟩
 refine ⟨v, fun k => Live hh2 fp' k, rfl, ⟨hh2, fun i => ρ' (σ i), fp', c, rfl, ?_, fun i hi => ?_, fun i o ho => ?_, q1.disj, fun k hk => (q1.lt k hk).1, fun k => Iff.rfl⟩, fun k hk => ?_, q3.mono fun k hk => (hF k).2 hk, ?_⟩
 ·show ρ' (σ 0) = _
  rw [show σ 0 = 0 from if_pos hN]; exact q4 _ _ h0
 ·show ρ' (σ i) = none
  rw [show σ i = N + 8 from if_neg (by omega)]; exact hfr
 ·have h6 := ((hren σ fun i hi => if_pos hi).get i o ho).objM
  have h8 := q1.objs i o ho
  have h9 : ObjRep w' (fun k => O k ∨ Live hh2 fp' k) ρ' (σ i) (fp' i) o := by rw [(hσ ho).2]; exact h8
  exact h6.back h9
 ·obtain ⟨i, o, ho, hk2⟩ := hk
  exact (q6 i o ho k hk2).imp (fun h => (hF k).2 h) fun h => h
 ·have h1 : RepV w' (fun k => O k ∨ Live hh2 fp' k) ρ' (Go.Proofs.YtalejfkholifpaaGreat.ren (fun _ => N + 8) r) v := by rw [hr]; exact q2
  have h2 := qahs h1
  have e : (fun id => ρ' ((fun _ => N + 8) id)) = noPl := by funext id; show ρ' (N + 8) = _; rw [hfr]; rfl
  rw [e] at h2; exact h2
def xA (k m : Int) (S : XTab) : AbsI := qang 2 fun h => h = xobj k m (cnt S) S
theorem qafc (k m : Int) (n : Nat) (S : XTab) {σ : Nat → Nat} (h : σ 1 = 1) : RenH σ (xobj k m n S) := ⟨by show ([.int .i64 k, .int .i64 m, .int .i64 n, .own 1 S.length] : List SV).map (Go.Proofs.YtalejfkholifpaaGreat.ren σ) = _; simp [Go.Proofs.YtalejfkholifpaaGreat.ren, ren1, ren0, h], qabz _ _ _, trivial⟩
theorem qagk (k m : Int) (n : Nat) (S : XTab) : ∀ i ∈ idsH (xobj k m n S), i < 2 := by intro i hi; simp [idsH, xobj] at hi; omega
theorem xlen_a (k m : Int) (S : XTab) (id q : Nat) : SCalls Tryz.prog 75 [.ptr id 0] [(id, .abs (xA k m S))] q (.int .i64 (cnt S)) [(id, .abs (xA k m S))] :=
 qaen (xlen_o k m S 2).1 (by decide) (fun σ h => qafc _ _ _ _ (h 1 (by decide))) (qagk _ _ _ _) (xlen_o k m S 2) (fun _ => rfl) (fun _ => rfl) id q
theorem xadd_a (k m : Int) (S : XTab) (h : XInv k m S) (a : Int) (xs ys : List Int) (hx : xs.length ≤ 1000000) (hy : ys.length ≤ 1000000) (id q : Nat) : SCalls Tryz.prog 82 [.ptr id 0, nums .u64 xs, .agg (hitc a ys)] [(id, .abs (xA k m S))] q (.int .i64 (qat7 k m S xs)) [(id, .abs (xA k m (addX k m S ⟨xs, a, ys⟩)))] := by
 have h1 := xadd_s k m S h.sz h.small a xs ys hx hy h.fr (fun hV => qapx (qa1u h (s := ⟨xs, a, ys⟩) ⟨hx, hy⟩ hV).2 _)
 exact qaen h1.1 (by decide) (fun σ h => qafc _ _ _ _ (h 1 (by decide))) (qagk _ _ _ _) h1 (fun _ => rfl) (fun _ => rfl) id q
theorem xchg_a (k m : Int) (S : XTab) (h : XInv k m S) (a : Int) (xs ys : List Int) (hx : xs.length ≤ 1000000) (hy : ys.length ≤ 1000000) (id q : Nat) : SCalls Tryz.prog 85 [.ptr id 0, nums .u64 xs, .agg (hitc a ys)] [(id, .abs (xA k m S))] q (.int .i64 (qai3 k S xs)) [(id, .abs (xA k m (chgX k S ⟨xs, a, ys⟩)))] := by
 have h1 := xchg_s k m S h.sz h.small a xs ys hx hy h.fr
 exact qaen h1.1 (by decide) (fun σ h => qafc _ _ _ _ (h 1 (by decide))) (qagk _ _ _ _) h1 (fun _ => rfl) (fun _ => rfl) id q
theorem xdrop_a (k m : Int) (S : XTab) (h : XInv k m S) (xs : List Int) (hx : xs.length ≤ 1000000) (id q : Nat) : SCalls Tryz.prog 86 [.ptr id 0, nums .u64 xs] [(id, .abs (xA k m S))] q (.int .i64 (qai3 k S xs)) [(id, .abs (xA k m (drpX k S xs)))] := by
 have h1 := xdrop_s k m S h.sz h.small xs hx h.pinv
 exact qaen h1.1 (by decide) (fun σ h => qafc _ _ _ _ (h 1 (by decide))) (qagk _ _ _ _) h1 (fun _ => rfl) (fun _ => rfl) id q
theorem qah1 (S : XTab) : (qah2 S).length = cnt S := by
 unfold qah2 cnt
 induction S with
 | nil => rfl
 | cons o S ih => cases o <;> simp [ih]
theorem xall_a (k m : Int) (hm : m ≤ 1000) (S : XTab) (h : XInv k m S) (L : List XSlot) (hLl : L.length = cnt S) (hL : ∀ l' : List XSlot, l'.Perm (qah2 S) → l'.Pairwise (fun a b => ¬ cmpL b.keys a.keys < 0) → l' = L) (id q : Nat) : SCalls Tryz.prog 84 [.ptr id 0] [(id, .abs (xA k m S))] q (.view 6 (L.map xec)) [(id, .abs (xA k m S))] := by
 have h1 := xall_s k m (cnt S) S h.sz h.small (by rw [qah1]; rcases h.full with h2 | h2 <;> omega) L (by rw [qah1]; exact hLl) hL
 exact qaen h1.1 (by decide) (fun σ h => qafc _ _ _ _ (h 1 (by decide))) (qagk _ _ _ _) h1 (fun _ => rfl) (fun _ => by simp [Go.Proofs.YtalejfkholifpaaGreat.ren, ren1, ren0]) id q
end Go.Proofs.YtalejfkholifpaaGreat
namespace Go.Proofs.YtalejfkholifpaaGreat
set_option linter.all false
open Go.RowKit
theorem qakf {P : Program} {f : FuncId} {args : List SV} {N : Nat} {hh : Hp} (he : Enters P f) (hN : 0 < N) (hN8 : N ≤ 8) (hren : ∀ σ : Nat → Nat, (∀ i, i < N → σ i = i) → RenH σ hh) (hids : ∀ i ∈ idsH hh, i < N)
  (h : SCalls P f args [] 0 (.ptr 0 0) hh) (ha : ∀ σ, args.map (Go.Proofs.YtalejfkholifpaaGreat.ren σ) = args) (q : Nat) : SCalls P f args [] q (.ptr q 0) [(q, .abs (qang N fun h => h = hh))] := by
 refine ⟨he, fun O ρ fp w vs hok hargs hfr => ?_⟩
 have hO : (fun k => O k ∨ Live [] fp k) = O := by funext k; simp [Live, geth]
 have ha' : Reps w (fun k => O k ∨ Live [] fp k) noPl args vs := by
  have h1 : Reps w (fun k => O k ∨ Live [] fp k) ρ (args.map (Go.Proofs.YtalejfkholifpaaGreat.ren fun _ => q)) vs := by rw [ha]; exact hargs
  have h2 := qadv h1
  have e : (fun id => ρ ((fun _ => q) id)) = noPl := by funext id; exact hfr q (Nat.le_refl _) (by omega)
  rw [e] at h2; exact h2
 have hE : HeapOk O noPl fp [] w := ⟨fun id o ho => by simp [geth] at ho, fun id id' o o' _ ho => by simp [geth] at ho, fun k ⟨id, o, ho, _⟩ => by simp [geth] at ho, hok.O_lt⟩
 refine (h.2 O noPl fp w vs hE ha' (fun _ _ _ => rfl)).mono ?_
 rintro e w' ⟨v, ρ', fp', rfl, q1, q2, q3, q4, q5, q6⟩
 obtain ⟨b, c, hb, rfl⟩ : ∃ b c, ρ' 0 = some (some (b, c)) ∧ v = .pointer (some ⟨b, 0, none⟩) := by
  generalize hy : SV.ptr 0 0 = y at q2
  cases q2 with
  | ptr h => injection hy with e1 e2; subst e1 e2; exact ⟨_, _, h, rfl⟩
  | _ => cases hy
 have hfr8 : ρ' 8 = none := by
  cases e : ρ' 8 with
  | none => rfl
  | some p =>
   rcases q5 8 (by rw [e]; simp) with h3 | h3
   ·exact absurd rfl h3
   ·omega
 let σ : Nat → Nat := fun i => if i < N then i else 8
 have hσ : ∀ {i o}, geth hh i = some o → i < N ∧ σ i = i := fun {i o} ho => by
  have := hids i (qads (by rw [ho]; simp))
  exact ⟨this, if_pos this⟩
 let fp2 : Nat → Nat → Prop := fun _ k => Live hh fp' k
 have hl2 : ∀ k, Live [(q, SObj.abs (qang N fun h => h = hh))] fp2 k ↔ Live hh fp' k := fun k => by
  rw [qael]
 have hA : (fun k => O k ∨ Live [(q, SObj.abs (qang N fun h => h = hh))] fp2 k) = fun k => O k ∨ Live hh fp' k := by funext k; rw [hl2 k]
 refine ⟨.pointer (some ⟨b, 0, none⟩), fun i => if i = q then some (some (b, c)) else ρ i, fp2, rfl, ⟨fun i o ho => ?_, fun i i' o o' hne h' h'' => ?_, fun k hk => q1.lt k ((hl2 k).1 hk), q1.O_lt⟩, .ptr (c := c) (by simp), q3, fun i p hp => ?_, fun i hi => ?_, fun i o ho k hk => ?_⟩
 ·simp only [geth] at ho
  split at ho
  ·rename_i e; subst e; cases ho
   rw [hA]
   refine ⟨b, c, by simp, hh, fun i => ρ' (σ i), fp', c, rfl, ?_, fun i hi => ?_, fun i o ho => ?_, q1.disj, fun k hk => (q1.lt k hk).1, fun k => Iff.rfl⟩
   ·show ρ' (σ 0) = _
    rw [show σ 0 = 0 from if_pos hN]; exact hb
   ·show ρ' (σ i) = none
    rw [show σ i = 8 from if_neg (by omega)]; exact hfr8
   ·have h6 := ((hren σ fun i hi => if_pos hi).get i o ho).objM
    have h8 := q1.objs i o ho
    have h9 : ObjRep w' (fun k => O k ∨ Live hh fp' k) ρ' (σ i) (fp' i) o := by rw [(hσ ho).2]; exact h8
    exact h6.back h9
  ·cases ho
 ·simp only [geth] at h' h''
  split at h'
  ·split at h''
   ·omega
   ·cases h''
  ·cases h'
 ·show (if i = q then _ else ρ i) = some p
  split
  ·rename_i e; subst e; rw [hfr i (Nat.le_refl _) (by omega)] at hp; cases hp
  ·exact hp
 ·by_cases e : i = q
  ·exact .inr ⟨by omega, by omega⟩
  ·exact .inl (by simpa [e] using hi)
 ·obtain ⟨i', o', ho', hk'⟩ := (show Live hh fp' k from hk)
  exact (q6 i' o' ho' k hk').imp (fun h => by obtain ⟨_, _, h, _⟩ := h; simp [geth] at h) fun h => h
theorem xnew_a (k m : Int) (q : Nat) : SCalls Tryz.prog 33 [.int .i64 k, .int .i64 m] [] q (.ptr q 0) [(q, .abs (xA k m (List.replicate (newN m) none)))] := by
 have h1 := xnew_s k m
 have hc : cnt (List.replicate (newN m) none) = 0 := by unfold cnt; rw [List.countP_replicate]; simp
 have h2 := qakf h1.1 (N := 2) (by decide) (by decide) (fun σ h => qafc k m 0 (List.replicate (newN m) none) (h 1 (by decide))) (qagk _ _ _ _) h1 (fun _ => rfl) q
 unfold xA
 rw [hc]; exact h2
end Go.Proofs.YtalejfkholifpaaGreat
namespace Go.Proofs.YtalejfkholifpaaGreat
set_option linter.all false
open Go.RowKit
theorem qafh {S : XTab} {s : XSlot} : s ∈ qah2 S ↔ ∃ j : Nat, S[j]? = some (some s) := by
 unfold qah2
 rw [List.mem_filterMap]
 constructor
 ·rintro ⟨o, ho, h⟩
  obtain rfl : o = some s := h
  exact List.getElem?_of_mem ho
 ·rintro ⟨j, hj⟩
  exact ⟨some s, List.mem_of_getElem? hj, rfl⟩
theorem qavk {k m : Int} {S : XTab} (h : XInv k m S) {xs : List Int} : (qacz S xs).2 = true ↔ ∃ s ∈ qah2 S, s.keys = xs := by
 constructor
 ·intro hp
  obtain ⟨s, hs, hk⟩ := qafg _ _ hp
  exact ⟨s, qafh.2 ⟨_, hs⟩, hk⟩
 ·rintro ⟨s, hs, rfl⟩
  obtain ⟨j, hj⟩ := qafh.1 hs
  rw [qagn h hj]
theorem qa3f {k m : Int} {S : XTab} (h : XInv k m S) {s t : XSlot} (hs : s ∈ qah2 S) (ht : t ∈ qah2 S) (e : s.keys = t.keys) : s = t := by
 obtain ⟨i, hi⟩ := qafh.1 hs
 obtain ⟨j, hj⟩ := qafh.1 ht
 have : i = j := h.pinv.uniq i j s t (by have := qacp hi; omega) (by have := qacp hj; omega) hi hj e
 subst this
 rw [hi] at hj
 exact Option.some.inj (Option.some.inj hj)
end Go.Proofs.YtalejfkholifpaaGreat
namespace Go.Proofs.YtalejfkholifpaaGreat
set_option linter.all false
open Go.RowKit
def qaox (a b : XSlot) : Prop := ¬ cmpL b.keys a.keys < 0
theorem qaj9 {l : List XSlot} (hk : ∀ s ∈ l, ∀ t ∈ l, s.keys = t.keys → s = t) : ∀ (l1 l2 : List XSlot), (∀ x ∈ l1, x ∈ l) → l1.Perm l2 → l1.Pairwise qaox → l2.Pairwise qaox → l1 = l2
 | [], l2, _, hp, _, _ => hp.nil_eq
 | a :: t, [], _, hp, _, _ => by have := hp.length_eq; simp at this
 | a :: t, b :: u, hm, hp, h1, h2 => by
  have hab : a = b := by
   rcases List.mem_cons.1 (hp.mem_iff.1 (List.mem_cons_self ..)) with e | ha
   ·exact e
   rcases List.mem_cons.1 (hp.mem_iff.2 (List.mem_cons_self ..)) with e | hb
   ·exact e.symm
   have g1 : ¬ cmpL b.keys a.keys < 0 := (List.pairwise_cons.1 h1).1 b hb
   have g2 : ¬ cmpL a.keys b.keys < 0 := (List.pairwise_cons.1 h2).1 a ha
   have g3 := qadb a.keys b.keys
   exact hk a (hm a (by simp)) b (hm b (by simp [hb])) ((qaeu _ _).1 (by omega))
  subst hab
  rw [qaj9 hk t u (fun x hx => hm x (by simp [hx])) (hp.cons_inv) (List.pairwise_cons.1 h1).2 (List.pairwise_cons.1 h2).2]
def leX (a b : XSlot) : Bool := decide (¬ cmpL b.keys a.keys < 0)
def qa8t (S : XTab) : List XSlot := (qah2 S).mergeSort leX
theorem qaf0 (S : XTab) : (qa8t S).Perm (qah2 S) := List.mergeSort_perm _ _
theorem qam6 (S : XTab) : (qa8t S).Pairwise qaox := by
 have h := List.pairwise_mergeSort (le := leX) (fun a b c h1 h2 => by
  unfold leX at *
  simp only [decide_eq_true_eq] at *
  have e1 := qadb a.keys b.keys
  have e2 := qadb b.keys c.keys
  have e3 := qadb a.keys c.keys
  have := qae9 a.keys b.keys c.keys (by omega) (by omega)
  omega) (fun a b => by
  unfold leX
  have e1 := qadb a.keys b.keys
  simp only [Bool.or_eq_true, decide_eq_true_eq]
  omega) (qah2 S)
 exact h.imp fun {a b} h => of_decide_eq_true h
theorem xall_b (k m : Int) (hm : m ≤ 1000) (S : XTab) (h : XInv k m S) (id q : Nat) : SCalls Tryz.prog 84 [.ptr id 0] [(id, .abs (xA k m S))] q (.view 6 ((qa8t S).map xec)) [(id, .abs (xA k m S))] :=
 xall_a k m hm S h (qa8t S) (by rw [(qaf0 S).length_eq, qah1]) (fun l' hp hs => qaj9 (l := qah2 S) (fun s hs t ht => qa3f h hs ht) l' _ (fun x hx => hp.mem_iff.1 hx) (hp.trans (qaf0 S).symm) hs (qam6 S)) id q
end Go.Proofs.YtalejfkholifpaaGreat
namespace Go.Proofs.YtalejfkholifpaaGreat
set_option linter.all false
open Go.RowKit
theorem qau6 (σ : Nat → Nat) (k : IntKind) (xs : List Int) : ren σ (nums k xs) = nums k xs := rfl
theorem qau8 (σ : Nat → Nat) (e : Entry) : (qaay e).map (ren σ) = qaay e := rfl
theorem qau7 (σ : Nat → Nat) (L : List Entry) : (L.map qaay).map (·.map (ren σ)) = L.map qaay := by
 rw [List.map_map]; rfl
theorem qapa (σ : Nat → Nat) (L : List Entry) : List.map ((fun x => List.map (ren σ) x) ∘ qaay) L = L.map qaay := rfl
end Go.Proofs.YtalejfkholifpaaGreat
namespace Go.Proofs.YtalejfkholifpaaGreat
set_option linter.all false
open Go.RowKit
attribute [local simp] qaas qaar qaad qaag qaae qaaf qaap qaaq qaab qaa5 SOp.run SX.ev putd puts argS upds SOp.touch SSt.keep SSt.skip gets geth puth delh idOf SV.cells? setL qab4 qab5 sbin eq0 eq1 eqL qab0 qabj qabk qaa4 qaat qaac qaau qaa6 qaaj qaam FrzOk qaa9 qaa0 qaa7 qaa8 qaav qaaz qabf qaa1 qaax qaba qaaw frzS frzH frz frz1 frz0 SlotsM ObjsM ObjM rn ren ren1 ren0 qabq qabs qabt qabp qabg qab2 qab1 CoL qabb qabx dels adds idsH qabr qau7 qapa qau6
def oneB (kind : Int) (a b : Entry) : Bool := !((kind == 3 && (a.prio != b.prio || !decide (a.masks = b.masks))) || (kind == 2 && a.len != b.len)) && decide (a.keys = b.keys)
def atN (kind : Int) (L : List Entry) (e : Entry) : Nat := qagv (fun i => match L[i]? with | some a => oneB kind a e | none => false) L.length
def atI (kind : Int) (L : List Entry) (e : Entry) : Int := if atN kind L e < L.length then atN kind L e else -1
end Go.Proofs.YtalejfkholifpaaGreat
namespace Go.Proofs.YtalejfkholifpaaGreat
set_option linter.all false
open Go.RowKit
attribute [local simp] qaas qaar qaad qaag qaae qaaf qaap qaaq qaab qaa5 SOp.run SX.ev putd puts argS upds SOp.touch SSt.keep SSt.skip gets geth puth delh idOf SV.cells? setL qab4 qab5 sbin eq0 eq1 eqL qab0 qabj qabk qaa4 qaat qaac qaau qaa6 qaaj qaam FrzOk qaa9 qaa0 qaa7 qaa8 qaav qaaz qabf qaa1 qaax qaba qaaw frzS frzH frz frz1 frz0 SlotsM ObjsM ObjM rn ren ren1 ren0 qabq qabs qabt qabp qabg qab2 qab1 CoL qabb qabx dels adds idsH qabr qau7 qapa qau6 qau8
theorem qa8f (k : Int) (L : List Entry) (e : Entry) : (atI k L e = atN k L e ∧ atN k L e < L.length) ∨ atI k L e = -1 := by
 unfold atI
 split
 ·exact .inl ⟨rfl, ‹_›⟩
 ·exact .inr rfl
end Go.Proofs.YtalejfkholifpaaGreat
namespace Go.Proofs.YtalejfkholifpaaGreat
set_option linter.all false
open Go.RowKit
def entE (s : XSlot) : Entry := ⟨s.keys, [], 0, 0, s.act, s.args⟩
structure RelX (k m : Int) (S : XTab) (L : List Entry) : Prop where
 inv : XInv k m S
 perm : ((qah2 S).map entE).Perm L
theorem RelX.len {k m : Int} {S : XTab} {L : List Entry} (h : RelX k m S L) : L.length = cnt S := by
 rw [← h.perm.length_eq, List.length_map, qah1]
end Go.Proofs.YtalejfkholifpaaGreat
namespace Go.Proofs.YtalejfkholifpaaGreat
set_option linter.all false
open Go.RowKit
theorem RelX.mem {k m : Int} {S : XTab} {L : List Entry} (h : RelX k m S L) (x : Entry) : (∃ s ∈ qah2 S, entE s = x) ↔ x ∈ L := by
 rw [← h.perm.mem_iff, List.mem_map]
end Go.Proofs.YtalejfkholifpaaGreat
namespace Go.Proofs.YtalejfkholifpaaGreat
set_option linter.all false
open Go.RowKit
theorem coL_at : ∀ {xs ys : List SV} {j : Nat} {y : SV}, CoL xs ys → ys[j]? = some y → ∃ x, xs[j]? = some x ∧ Co x y
 | x :: xs, y :: ys, 0, _, h, hy => by cases hy; exact ⟨x, rfl, h.1⟩
 | x :: xs, y :: ys, j + 1, _, h, hy => coL_at (xs := xs) (ys := ys) (j := j) h.2 (by simpa using hy)
 | [], [], _, _, _, hy => by simp at hy
 | [], _ :: _, _, _, h, _ => h.elim
 | _ :: _, [], _, _, h, _ => h.elim
theorem qa9u : ∀ {xs ys : List (List SV)} {j : Nat} {y : List SV}, CoLL xs ys → ys[j]? = some y → ∃ x, xs[j]? = some x ∧ CoL x y
 | x :: xs, y :: ys, 0, _, h, hy => by cases hy; exact ⟨x, rfl, h.1⟩
 | x :: xs, y :: ys, j + 1, _, h, hy => qa9u (xs := xs) (ys := ys) (j := j) h.2 (by simpa using hy)
 | [], [], _, _, _, hy => by simp at hy
 | [], _ :: _, _, _, h, _ => h.elim
 | _ :: _, [], _, _, h, _ => h.elim
theorem qaxk {z : Nat} {xs ys : List (List SV)} (h : CoLL xs ys) : Co (.view z xs) (.view z ys) := fun w A ρ v hv => by
 cases hv with
 | view0 hc ha =>
  have : ys = [] := List.eq_nil_of_length_eq_zero (by rw [← h.length]; rfl)
  subst this; exact .view0 hc ha
 | view cv hn hc hm hA hb hs h1 h2 ho =>
  refine .view cv (by rw [← h.length]; exact hn) hc hm hA hb (h.sizes hs) (fun i e j x he hx => ?_) (fun i e j x he hx => ?_) (fun i e j x he hx => ?_)
  all_goals
   obtain ⟨e', he', hl⟩ := qa9u h he
   obtain ⟨x', hx', hc'⟩ := coL_at hl hx
  ·exact h1 i e' j x' he' hx'
  ·exact hc' _ _ _ _ (h2 i e' j x' he' hx')
  ·exact ho i e' j x' he' hx'
end Go.Proofs.YtalejfkholifpaaGreat
namespace Go.Proofs.YtalejfkholifpaaGreat
set_option linter.all false
open Go.RowKit
theorem qauy {P : Program} {f : FuncId} {args : List SV} {h1 h2 : Hp} {q : Nat} {r r' : SV} (h : SCalls P f args h1 q r h2) (hc : Co r r') : SCalls P f args h1 q r' h2 :=
 ⟨h.1, fun O ρ fp w vs hok hargs hfr => (h.2 O ρ fp w vs hok hargs hfr).mono fun e w' hh => by
  obtain ⟨v, ρ', fp', e1, q1, q2, q3⟩ := hh
  exact ⟨v, ρ', fp', e1, q1, hc _ _ _ _ q2, q3⟩⟩
theorem qaxl : ∀ l : List XSlot, CoLL (l.map xec) ((l.map entE).map qaay)
 | [] => trivial
 | s :: l => ⟨⟨Co.refl _, Co.nilsl 1, Co.refl _, Co.refl _, Co.refl _, Co.refl _, trivial⟩, qaxl l⟩
theorem co_xecs (l : List XSlot) : Co (.view 6 (l.map xec)) (ents (l.map entE)) := qaxk (qaxl l)
theorem xall_c (k m : Int) (hm : m ≤ 1000) (S : XTab) (h : XInv k m S) (id q : Nat) : SCalls Tryz.prog 84 [.ptr id 0] [(id, .abs (xA k m S))] q (ents ((qa8t S).map entE)) [(id, .abs (xA k m S))] :=
 qauy (xall_b k m hm S h id q) (co_xecs _)
end Go.Proofs.YtalejfkholifpaaGreat
namespace Go.Proofs.YtalejfkholifpaaGreat
set_option linter.all false
open Go.RowKit
abbrev qa8b : List SOper := [Ka 4 0]
abbrev qa8a : List SOper := [Ma 7 0, Qc 8 162 [7], Ma 5 8]
abbrev qa79 : List SOper := [Ma 9 1, Qc 10 162 [9], Ma 6 10]
abbrev qa78 : List SOper := [Ma 11 5]
abbrev qa77 : List SOper := [Ma 12 6]
abbrev qa76 : List SOper := [Ka 4 0]
abbrev qa75 : List SOper := [Oa 4 (.mv (.c (.int .i64 (-1))))]
abbrev qa74 : List SOper := [Ma 13 6]
abbrev qa73 : List SOper := [Ka 4 1]
abbrev qa1k : List SOper := [Ma 14 0, Ma 15 1, Ba 16 .lss 14 15]
abbrev qa1j : List SOper := [Oa 4 (.mv (.c (.int .i64 (-1))))]
abbrev qa1i : List SOper := [Ma 17 0, Ma 18 1, Ba 19 .gtr 17 18]
abbrev qa1h : List SOper := [Ka 4 1]
abbrev qa1g : List SOper := [Ka 4 0]
def c_cmpi : SCode := (Sf qa8b [0, 1] (Sf qa8a [0, 1, 5] (Sf qa79 [0, 1, 5, 6] (.seq (Sf qa78 [0, 1, 6, 11] (Cn 11 (.seq (Sf qa77 [12] (Cn 12 (Sf qa76 [4] .ret) .skip)) (Sf qa75 [4] .ret)) .skip)) (.seq (Sf qa74 [0, 1, 13] (Cn 13 (Sf qa73 [4] .ret) .skip)) (.seq (Sf qa1k [0, 1, 16] (Cn 16 (Sf qa1j [4] .ret) .skip)) (.seq (Sf qa1i [19] (Cn 19 (Sf qa1h [4] .ret) .skip)) (Sf qa1g [4] .ret))))))))
theorem qarw : comp Tryz.prog 20 ((Tryz.f161.body).getD .skip) = some c_cmpi.erase := by kernel_rfl
abbrev qa72 : List SOper := [Ka 4 0]
abbrev qa71 : List SOper := [Ma 7 0, Qc 8 108 [7], Ma 5 8]
abbrev qa70 : List SOper := [Ma 9 1, Qc 10 108 [9], Ma 6 10]
abbrev qa7z : List SOper := [Ma 11 5]
abbrev qa7y : List SOper := [Ma 12 6]
abbrev qa7x : List SOper := [Ka 4 0]
abbrev qa7w : List SOper := [Oa 4 (.mv (.c (.int .i64 (-1))))]
abbrev qa7v : List SOper := [Ma 13 6]
abbrev qa7u : List SOper := [Ka 4 1]
abbrev qa06 : List SOper := [Ma 14 0, Ma 15 1, Ba 16 .lss 14 15]
abbrev qa05 : List SOper := [Oa 4 (.mv (.c (.int .i64 (-1))))]
abbrev qa04 : List SOper := [Ma 17 0, Ma 18 1, Ba 19 .gtr 17 18]
abbrev qa03 : List SOper := [Ka 4 1]
abbrev qa02 : List SOper := [Ka 4 0]
def c_cmpu : SCode := (Sf qa72 [0, 1] (Sf qa71 [0, 1, 5] (Sf qa70 [0, 1, 5, 6] (.seq (Sf qa7z [0, 1, 6, 11] (Cn 11 (.seq (Sf qa7y [12] (Cn 12 (Sf qa7x [4] .ret) .skip)) (Sf qa7w [4] .ret)) .skip)) (.seq (Sf qa7v [0, 1, 13] (Cn 13 (Sf qa7u [4] .ret) .skip)) (.seq (Sf qa06 [0, 1, 16] (Cn 16 (Sf qa05 [4] .ret) .skip)) (.seq (Sf qa04 [19] (Cn 19 (Sf qa03 [4] .ret) .skip)) (Sf qa02 [4] .ret))))))))
theorem qarv : comp Tryz.prog 20 ((Tryz.f97.body).getD .skip) = some c_cmpu.erase := by kernel_rfl
abbrev qazm : List SOper := [Ka 4 0]
abbrev qazl : List SOper := [Ma 9 0, Na 10 9, Ka 11 0]
abbrev qazk : List SOper := [Ba 12 .lss 11 10]
abbrev qazj : List SOper := [Ma 13 11, Ia 14 1 9 11, La 15 14, Ma 5 13, Ma 6 15]
abbrev qazi : List SOper := [Ma 16 5, Ma 17 1, Na 18 17, Ba 19 .geq 16 18]
abbrev qazh : List SOper := [Ka 4 1]
abbrev qazg : List SOper := [Ma 20 1, Ma 21 5, Ia 22 1 20 21, La 23 22, Ma 7 23]
abbrev qazf : List SOper := [Ma 24 6, Ma 25 7, Qc 26 97 [24, 25], Ma 8 26]
abbrev qaze : List SOper := [Ma 27 8, Ca 28 .neq 27 0]
abbrev qatv : List SOper := [Ma 29 8, Ma 4 29]
abbrev qatu : List SOper := [Ca 30 .add 11 1, Ma 11 30]
def qal2 : SCode := (Sf qazk [0, 1, 9, 10, 11, 12] (.seq (Ce 12 0) (.seq (.block 1 (Sf qazj [0, 1, 5, 6, 9, 10, 11] (.seq (Sf qazi [0, 1, 5, 6, 9, 10, 11, 19] (Cn 19 (Sf qazh [4] .ret) .skip)) (Sf qazg [0, 1, 6, 7, 9, 10, 11] (Sf qazf [0, 1, 8, 9, 10, 11] (Sf qaze [0, 1, 8, 9, 10, 11, 28] (Cn 28 (Sf qatv [4] .ret) .skip))))))) (Rf qatu [0, 1, 9, 10, 11]))))
abbrev qatt : List SOper := [Ma 31 0, Na 32 31, Ma 33 1, Na 34 33, Ba 35 .lss 32 34]
abbrev qats : List SOper := [Oa 4 (.mv (.c (.int .i64 (-1))))]
abbrev qatr : List SOper := [Ka 4 0]
def c_slcmp : SCode := (Sf qazm [0, 1] (.seq (Sf qazl [0, 1, 9, 10, 11] (Bl 0 qal2)) (.seq (Sf qatt [35] (Cn 35 (Sf qats [4] .ret) .skip)) (Sf qatr [4] .ret))))
theorem qan8 : comp Tryz.prog 36 ((Tryz.f92.body).getD .skip) = some c_slcmp.erase := by kernel_rfl
abbrev qa1f : List SOper := [Ka 2 0]
abbrev qa1e : List SOper := [Ka 3 0]
abbrev qa1d : List SOper := [Ma 6 0, Na 7 6, Ka 8 0]
abbrev qa1c : List SOper := [Ba 9 .lss 8 7]
abbrev qa1b : List SOper := [Ia 10 1 6 8, La 11 10, Ma 5 11]
abbrev qa1a : List SOper := [Ma 12 5, Ma 13 3, Ba 14 .neq 12 13]
abbrev qa09 : List SOper := [Ma 15 5, Ma 2 15]
abbrev qa08 : List SOper := [Ca 16 .add 8 1, Ma 8 16]
def qamr : SCode := (Sf qa1c [3, 6, 7, 8, 9] (.seq (Ce 9 0) (.seq (.block 1 (Sf qa1b [3, 5, 6, 7, 8] (Sf qa1a [3, 5, 6, 7, 8, 14] (Cn 14 (Sf qa09 [2] .ret) .skip)))) (Rf qa08 [3, 6, 7, 8]))))
abbrev qa07 : List SOper := [Ma 17 3, Ma 2 17]
def c_cmpor : SCode := (Sf qa1f [0] (Sf qa1e [0, 3] (.seq (Sf qa1d [3, 6, 7, 8] (Bl 0 qamr)) (Sf qa07 [2] .ret))))
theorem qaok : comp Tryz.prog 18 ((Tryz.f160.body).getD .skip) = some c_cmpor.erase := by kernel_rfl
abbrev qa67 : List SOper := [Oa 2 (.mv (.c (.bool false)))]
abbrev qa66 : List SOper := [Ma 3 0, Ma 4 0, Ba 5 .neq 3 4, Ma 2 5]
def c_nani : SCode := (Sf qa67 [0] (Sf qa66 [2] .ret))
theorem qarr : comp Tryz.prog 6 ((Tryz.f162.body).getD .skip) = some c_nani.erase := by kernel_rfl
abbrev qa65 : List SOper := [Oa 2 (.mv (.c (.bool false)))]
abbrev qa64 : List SOper := [Ma 3 0, Ma 4 0, Ba 5 .neq 3 4, Ma 2 5]
def c_nanu : SCode := (Sf qa65 [0] (Sf qa64 [2] .ret))
theorem qarq : comp Tryz.prog 6 ((Tryz.f108.body).getD .skip) = some c_nanu.erase := by kernel_rfl
abbrev qa7f : List SOper := [Ka 4 0]
abbrev qa7e : List SOper := [Ma 6 0, Na 7 6, Ka 8 0]
abbrev qa7d : List SOper := [Ba 9 .lss 8 7]
abbrev qa7c : List SOper := [Ma 10 8, Ma 5 10]
abbrev qa7b : List SOper := [Ma 11 1, Ma 12 0, Ma 13 5, Ia 14 6 12 13, Sa 15 6 14, ⟨(some 16), .mv (.c .any), some ((.t 11), [(.t 15)]), none, 0⟩]
abbrev qa7a : List SOper := [Ma 17 5, Ma 4 17]
abbrev qa69 : List SOper := [Ca 18 .add 8 1, Ma 8 18]
def qaqa : SCode := (Sf qa7d [0, 1, 7, 8, 9] (.seq (Ce 9 0) (.seq (.block 1 (Sf qa7c [0, 1, 5, 7, 8] (Sf qa7b [0, 1, 5, 7, 8, 16] (Cn 16 (Sf qa7a [4] .ret) .skip)))) (Rf qa69 [0, 1, 7, 8]))))
abbrev qa68 : List SOper := [Oa 4 (.mv (.c (.int .i64 (-1))))]
def c_idxf : SCode := (Sf qa7f [0, 1] (.seq (Sf qa7e [0, 1, 7, 8] (Bl 0 qaqa)) (Sf qa68 [4] .ret)))
theorem qars : comp Tryz.prog 19 ((Tryz.f154.body).getD .skip) = some c_idxf.erase := by kernel_rfl
abbrev qa7t : List SOper := [Oa 4 (.mv (.c (.bool false)))]
abbrev qa7s : List SOper := [Ma 5 0, Ma 6 1, Qc 7 154 [5, 6], Ca 8 .geq 7 0, Ma 4 8]
def c_conf : SCode := (Sf qa7t [0, 1] (Sf qa7s [4] .ret))
theorem qaru : comp Tryz.prog 9 ((Tryz.f146.body).getD .skip) = some c_conf.erase := by kernel_rfl
abbrev qbdj : List SOper := [Oa 2 (.box 38 (.t 0)), Oa 3 (.mv (.c (.bool false)))]
abbrev qbdi : List SOper := [Sa 4 6 2, Sa 5 6 1, Qc 6 156 [4, 5], Ma 3 6]
def c_at1 : SCode := (Sf qbdj [1, 2] (Sf qbdi [3] .ret))
theorem qaxi : comp Tryz.prog 7 ((Tryz.f155.body).getD .skip) = some c_at1.erase := by kernel_rfl
abbrev qbdl : List SOper := [Oa 2 (.box 38 (.t 0)), Oa 3 (.mv (.c (.bool false)))]
abbrev qbdk : List SOper := [Fa 4 3 2, La 5 4, Fa 6 3 1, La 7 6, Ba 8 .eql 5 7, Ma 9 8, Oe 10 (Ps 6 2) 9 true, Oe 11 (Ps 6 1) 9 true, Qi 12 148 [10, 11] 9 true 0, Ua 13 9 12, Ma 3 13]
def c_ad1 : SCode := (Sf qbdl [1, 2] (Sf qbdk [3] .ret))
theorem qaxj : comp Tryz.prog 14 ((Tryz.f147.body).getD .skip) = some c_ad1.erase := by kernel_rfl
abbrev qa1o : List SOper := [Oa 2 (.mv (.c .nilsl))]
abbrev qa1n : List SOper := [Ma 3 0, Oa 4 (.eq 2 false (.t 3) (.c .nilsl))]
abbrev qa1m : List SOper := [Oa 2 (.mv (.c .nilsl))]
abbrev qa1l : List SOper := [Oa 5 (.mkrow 38 6 0 [.nilsl, .nilsl, (.int .i64 0), (.int .i64 0), (.int .i64 0), .nilsl] []), Ma 6 0, Oa 7 (.app 38 6 96 (.t 5) (.t 6)), Ma 2 7]
def c_clrow : SCode := (Sf qa1o [0] (.seq (Sf qa1n [0, 4] (Cn 4 (Sf qa1m [2] .ret) .skip)) (Sf qa1l [2] .ret)))
theorem qah4 : comp Tryz.prog 8 ((Tryz.f151.body).getD .skip) = some c_clrow.erase := by kernel_rfl
abbrev qbc9 : List SOper := [Oa 2 (.mv (.c .nilsl))]
abbrev qbc8 : List SOper := [Ma 3 0, Oa 4 (.eq 2 false (.t 3) (.c .nilsl))]
abbrev qbc7 : List SOper := [Oa 2 (.mv (.c .nilsl))]
abbrev qbc6 : List SOper := [Oa 5 (.mkrow 70 1 0 [(.int .u64 0)] []), Ma 6 0, Oa 7 (.app 70 1 8 (.t 5) (.t 6)), Ma 2 7]
def c_clu : SCode := (Sf qbc9 [0] (.seq (Sf qbc8 [0, 4] (Cn 4 (Sf qbc7 [2] .ret) .skip)) (Sf qbc6 [2] .ret)))
theorem qah3 : comp Tryz.prog 8 ((Tryz.f32.body).getD .skip) = some c_clu.erase := by kernel_rfl
abbrev qasf : List SOper := [Oa 2 (.box 38 (.t 0)), Oa 3 (.box 38 (.t 1)), Ka 4 0]
abbrev qase : List SOper := [Fa 5 3 2, Od 6 (Pa 5) 1, Fa 7 3 3, Od 8 (Pa 7) 4, Qh 9 161 [6, 8] 15, Fa 10 0 2, Od 11 (Pa 10) 32, Fa 12 0 3, Od 13 (Pa 12) 128, Qh 14 92 [11, 13] 511, Fa 15 1 2, Od 16 (Pa 15) 1024, Fa 17 1 3, Od 18 (Pa 17) 4096, Qh 19 92 [16, 18] 16383, Od 20 (.mkrow 3 1 3 [(.int .i64 0)] [(0, (.t 9)), (1, (.t 14)), (2, (.t 19))]) 32767, Qh 21 160 [20] 65535, Od 4 (Pm 21) 131071]
def c_torder : SCode := (Sf qasf [2, 3] (.seq (Rt qase [4]) .ret))
theorem qala : comp Tryz.prog 22 ((Tryz.f159.body).getD .skip) = some c_torder.erase := by kernel_rfl
abbrev qaya : List SOper := [Oa 2 (.box 38 (.t 0)), Oa 3 (.box 38 (.t 1)), Oa 4 (.mv (.c (.bool false)))]
abbrev qax9 : List SOper := [Sa 5 6 2, Sa 6 6 3, Qc 7 159 [5, 6], Ca 8 .eql 7 0, Ma 4 8]
def c_tsame : SCode := (Sf qaya [2, 3] (Sf qax9 [4] .ret))
theorem qan2 : comp Tryz.prog 9 ((Tryz.f156.body).getD .skip) = some c_tsame.erase := by kernel_rfl
abbrev qasn : List SOper := [Oa 2 (.box 38 (.t 0)), Oa 3 (.box 38 (.t 1)), Oa 4 (.mv (.c (.bool false)))]
abbrev qasm : List SOper := [Fa 6 0 2, La 7 6, Na 8 7, Ka 9 0]
abbrev qasl : List SOper := [Ba 10 .lss 9 8]
abbrev qask : List SOper := [Ma 11 9, Ma 5 11]
abbrev qasj : List SOper := [Fa 12 0 2, Od 13 (Pa 12) 1, Ma 14 5, Od 15 (Pi 1 13 14) 7, Od 16 (Pa 15) 15, Fa 17 0 3, Od 18 (Pa 17) 32, Ma 19 5, Od 20 (Pi 1 18 19) 224, Od 21 (Pa 20) 480, Od 22 (Pb .xor 16 21) 1023, Fa 23 1 2, Od 24 (Pa 23) 2048, Ma 25 5, Od 26 (Pi 1 24 25) 14336, Od 27 (Pa 26) 30720, Od 28 (Pb .and 22 27) 65535, Fa 29 1 3, Od 30 (Pa 29) 131072, Ma 31 5, Od 32 (Pi 1 30 31) 917504, Od 33 (Pa 32) 1966080, Od 34 (Pb .and 28 33) 4194303, Od 35 (.bin .neq (.t 34) (.c (.int .u64 0))) 8388607]
abbrev qasi : List SOper := [Oa 4 (.mv (.c (.bool false)))]
abbrev qash : List SOper := [Ca 36 .add 9 1, Ma 9 36]
def qai5 : SCode := (Sf qasl [2, 3, 8, 9, 10] (.seq (Ce 10 0) (.seq (.block 1 (Sf qask [2, 3, 5, 8, 9] (.seq (Rt qasj [2, 3, 8, 9, 35]) (Cn 35 (Sf qasi [4] .ret) .skip)))) (Rf qash [2, 3, 8, 9]))))
abbrev qasg : List SOper := [Oa 4 (.mv (.c (.bool true)))]
def c_tmeets : SCode := (Sf qasn [2, 3] (.seq (Sf qasm [2, 3, 8, 9] (Bl 0 qai5)) (Sf qasg [4] .ret)))
theorem qalb : comp Tryz.prog 37 ((Tryz.f148.body).getD .skip) = some c_tmeets.erase := by kernel_rfl
abbrev qa4u : List SOper := [Oa 1 (.box 38 (.t 0)), Oa 2 (.alloc 38 [.nilsl, .nilsl, (.int .i64 0), (.int .i64 0), (.int .i64 0), .nilsl])]
abbrev qa4t : List SOper := [Fa 3 0 1, Od 4 (Pa 3) 1, Qh 5 32 [4] 3, Fa 6 1 1, Od 7 (Pa 6) 8, Qh 8 32 [7] 31, Fa 9 3 1, Od 10 (Pa 9) 64, Fa 11 4 1, Od 12 (Pa 11) 256, Fa 13 5 1, Od 14 (Pa 13) 1024, Qh 15 32 [14] 3135, Od 16 (.build [.nilsl, .nilsl, (.int .i64 0), (.int .i64 0), (.int .i64 0), .nilsl] [(0, 1, (.t 5)), (1, 1, (.t 8)), (3, 1, (.t 10)), (4, 1, (.t 12)), (5, 1, (.t 15))]) 8191, Og (.store 6 (.t 2) (.t 16)) 16383]
def c_town : SCode := (Sf qa4u [1, 2] (.seq (Rt qa4t [2]) .ret))
theorem qarb : comp Tryz.prog 17 ((Tryz.f150.body).getD .skip) = some c_town.erase := by kernel_rfl
abbrev qayj : List SOper := [Oa 3 (.box 38 (.t 1)), Oa 4 (.mv (.c (.bool false)))]
abbrev qayi : List SOper := [Fa 7 0 3, Od 8 (Pa 7) 1, Od 9 (Pn 8) 3, Ma 10 0, Od 11 (.nilc (.t 10)) 8, Od 12 (Pf 0 11) 24, Od 13 (Pa 12) 56, Od 14 (Pb .neq 9 13) 127, Od 15 (Pm 14) 255, Of 16 (Pf 1 3) 15 false 511, Of 17 (Pa 16) 15 false 1023, Of 18 (Pn 17) 15 false 2047, Of 19 (Pm 0) 15 false 511, Of 20 (.nilc (.t 19)) 15 false 4607, Of 21 (Pf 0 20) 15 false 12799, Of 22 (Pa 21) 15 false 29183, Of 23 (Pb .neq 18 22) 15 false 65535, Od 24 (Pt 15 23) 131071]
abbrev qayh : List SOper := [Oa 4 (.mv (.c (.bool false)))]
abbrev qayg : List SOper := [Fa 25 0 3, La 26 25, Na 27 26, Ka 28 0]
abbrev qayf : List SOper := [Ba 29 .lss 28 27]
abbrev qaye : List SOper := [Ma 30 28, Ia 31 1 26 28, La 32 31, Ma 5 30, Ma 6 32]
abbrev qayd : List SOper := [Ma 33 6, Fa 34 1 3, La 35 34, Ma 36 5, Ia 37 1 35 36, La 38 37, Ba 39 .andNot 33 38, Oa 40 (.bin .neq (.t 39) (.c (.int .u64 0)))]
abbrev qayc : List SOper := [Oa 4 (.mv (.c (.bool false)))]
abbrev qayb : List SOper := [Ca 41 .add 28 1, Ma 28 41]
def qalo : SCode := (Sf qayf [3, 26, 27, 28, 29] (.seq (Ce 29 0) (.seq (.block 1 (Sf qaye [3, 5, 6, 26, 27, 28] (Sf qayd [3, 26, 27, 28, 40] (Cn 40 (Sf qayc [4] .ret) .skip)))) (Rf qayb [3, 26, 27, 28]))))
abbrev qasx : List SOper := [Fa 42 3 3, La 43 42, Ca 44 .geq 43 0, Ma 45 44, Oe 46 (Pf 3 3) 45 true, Oe 47 (Pa 46) 45 true, Oe 48 (Pc .leq 47 1000) 45 true, Ua 49 45 48, Ma 4 49]
def c_tfits : SCode := (Sf qayj [0, 3] (.seq (.seq (Rt qayi [3, 24]) (Cn 24 (Sf qayh [4] .ret) .skip)) (.seq (Sf qayg [3, 26, 27, 28] (Bl 0 qalo)) (Sf qasx [4] .ret))))
theorem qan3 : comp Tryz.prog 50 ((Tryz.f144.body).getD .skip) = some c_tfits.erase := by kernel_rfl
abbrev qbb7 : List SOper := [Oa 3 (.box 38 (.t 1)), Ka 4 0]
abbrev qbb6 : List SOper := [Ma 5 0, Oa 6 (.nilc (.t 5)), Fa 7 2 6, La 8 7, Oa 9 (.mkfn (.func 155) [] [(.t 3)]), Qc 10 154 [8, 9], Ma 4 10]
def c_tat : SCode := (Sf qbb7 [0, 3] (Sf qbb6 [4] .ret))
theorem qaw1 : comp Tryz.prog 11 ((Tryz.f145.body).getD .skip) = some c_tat.erase := by kernel_rfl
abbrev qa5m : List SOper := [Oa 3 (.box 38 (.t 1)), Ka 4 0]
abbrev qa5l : List SOper := [Ma 6 0, Sa 7 6 3, Qc 8 144 [6, 7], Oa 9 (.un .not (.t 8)), Ma 5 9]
abbrev qa5k : List SOper := [Ka 4 6]
abbrev qa5j : List SOper := [Ma 11 0, Sa 12 6 3, Qc 13 145 [11, 12], Ca 14 .geq 13 0, Ma 10 14]
abbrev qa5i : List SOper := [Ka 4 7]
abbrev qa5h : List SOper := [Ma 16 0, Oa 17 (.nilc (.t 16)), Fa 18 2 17, La 19 18, Oa 20 (.mkfn (.func 147) [] [(.t 3)]), Qc 21 146 [19, 20], Ma 15 21]
abbrev qa5g : List SOper := [Ka 4 8]
abbrev qa5f : List SOper := [Ma 23 0, Od 24 (.nilc (.t 23)) 1, Od 25 (Pf 2 24) 3, Od 26 (Pa 25) 7, Od 27 (Pn 26) 15, Ma 28 0, Od 29 (.nilc (.t 28)) 32, Od 30 (Pf 1 29) 96, Od 31 (Pa 30) 224, Od 32 (Pb .geq 27 31) 511, Od 22 (Pm 32) 1023]
abbrev qa5e : List SOper := [Ka 4 10]
abbrev qalp : List SOper := [Ma 33 0, Od 34 (.nilc (.t 33)) 1, Od 35 (Pf 2 34) 3, Od 36 (.mkifc 176 (.t 35)) 7, Sa 37 6 3, Qh 38 150 [37] 16, Od 39 (.mkifc 38 (.t 38)) 48, Qh 40 149 [36, 39] 127]
abbrev qays : List SOper := [Ka 4 0]
def c_tadd : SCode := (Sf qa5m [0, 3] (.seq (.block 0 (Sf qa5l [0, 3, 5] (Cn 5 (Sf qa5k [4] .ret) (Sf qa5j [0, 3, 10] (Cn 10 (Sf qa5i [4] .ret) (Sf qa5h [0, 3, 15] (Cn 15 (Sf qa5g [4] .ret) (.seq (Rt qa5f [0, 3, 22]) (Cn 22 (Sf qa5e [4] .ret) .skip))))))))) (.seq (Rt qalp []) (Sf qays [4] .ret))))
theorem qarg : comp Tryz.prog 41 ((Tryz.f139.body).getD .skip) = some c_tadd.erase := by kernel_rfl
abbrev qa46 : List SOper := [Oa 3 (.box 38 (.t 1)), Ka 4 0]
abbrev qa45 : List SOper := [Ma 6 0, Sa 7 6 3, Qc 8 144 [6, 7], Oa 9 (.un .not (.t 8))]
abbrev qa44 : List SOper := [Ka 4 6]
abbrev qa43 : List SOper := [Ma 10 0, Sa 11 6 3, Qc 12 145 [10, 11], Ma 5 12]
abbrev qa42 : List SOper := [Ma 13 5, Ca 14 .lss 13 0]
abbrev qa41 : List SOper := [Ka 4 9]
abbrev qa40 : List SOper := [Ma 15 0, Od 16 (.nilc (.t 15)) 1, Od 17 (Pf 2 16) 3, Od 18 (Pa 17) 7, Ma 19 5, Sa 20 6 3, Qh 21 150 [20] 32, Od 22 (Pi 6 18 19) 127, Og (.store 6 (.t 22) (.t 21)) 255]
abbrev qa4z : List SOper := [Ka 4 0]
def c_tchg : SCode := (Sf qa46 [0, 3] (.seq (Sf qa45 [0, 3, 9] (Cn 9 (Sf qa44 [4] .ret) .skip)) (Sf qa43 [0, 3, 5] (.seq (Sf qa42 [0, 3, 5, 14] (Cn 14 (Sf qa41 [4] .ret) .skip)) (.seq (Rt qa40 []) (Sf qa4z [4] .ret))))))
theorem qare : comp Tryz.prog 23 ((Tryz.f141.body).getD .skip) = some c_tchg.erase := by kernel_rfl
abbrev qayr : List SOper := [Oa 3 (.box 38 (.t 1)), Ka 4 0]
abbrev qayq : List SOper := [Ma 6 0, Sa 7 6 3, Qc 8 144 [6, 7], Oa 9 (.un .not (.t 8))]
abbrev qayp : List SOper := [Ka 4 6]
abbrev qayo : List SOper := [Ma 10 0, Sa 11 6 3, Qc 12 145 [10, 11], Ma 5 12]
abbrev qayn : List SOper := [Ma 13 5, Ca 14 .lss 13 0]
abbrev qaym : List SOper := [Ka 4 9]
abbrev qayl : List SOper := [Ma 15 0, Oa 16 (.nilc (.t 15)), Fa 17 2 16, Oa 18 (.mkifc 176 (.t 17)), Ma 19 5, Qc 20 153 [18, 19]]
abbrev qayk : List SOper := [Ka 4 0]
def c_tdrop : SCode := (Sf qayr [0, 3] (.seq (Sf qayq [0, 3, 9] (Cn 9 (Sf qayp [4] .ret) .skip)) (Sf qayo [0, 5] (.seq (Sf qayn [0, 5, 14] (Cn 14 (Sf qaym [4] .ret) .skip)) (Sf qayl [] (Sf qayk [4] .ret))))))
theorem qan4 : comp Tryz.prog 21 ((Tryz.f142.body).getD .skip) = some c_tdrop.erase := by kernel_rfl
abbrev qa4y : List SOper := [Ka 2 0]
abbrev qa4x : List SOper := [Ma 3 0, Oa 4 (.nilc (.t 3)), Fa 5 2 4, La 6 5, Na 7 6, Ma 2 7]
def c_tlen : SCode := (Sf qa4y [0] (Sf qa4x [2] .ret))
theorem qard : comp Tryz.prog 8 ((Tryz.f132.body).getD .skip) = some c_tlen.erase := by kernel_rfl
abbrev qa5d : List SOper := [Oa 2 (.mv (.c .nilsl))]
abbrev qa5c : List SOper := [Ma 7 0, Oa 8 (.nilc (.t 7)), Fa 9 2 8, La 10 9, Qc 11 151 [10], Oa 3 (.alloc 106 [.nilsl]), Va 1 3 11]
abbrev qa5b : List SOper := [Oa 4 (.mv (.c .nilsl))]
abbrev qa5a : List SOper := [La 12 3, Na 13 12, Ca 14 .gtr 13 0]
abbrev qa49 : List SOper := [Oa 16 (.mkifc 176 (.t 3)), Qc 17 152 [16], Oa 18 (.asrt 38 (.agg [.nilsl, .nilsl, (.int .i64 0), (.int .i64 0), (.int .i64 0), .nilsl]) (.t 17)), Ma 15 18, Oa 19 (.extr (.t 15) 0), Oa 20 (.extr (.t 15) 1), Oa 5 (.alloc 38 [.nilsl, .nilsl, (.int .i64 0), (.int .i64 0), (.int .i64 0), .nilsl]), Va 6 5 19, Ma 6 20]
abbrev qa48 : List SOper := [Ma 21 6]
abbrev qa47 : List SOper := [Ma 22 4, Sa 23 6 5, Qc 24 150 [23], Oa 25 (.mkrow 38 6 1 [.nilsl, .nilsl, (.int .i64 0), (.int .i64 0), (.int .i64 0), .nilsl] [(0, (.t 24))]), Oa 26 (.app 38 6 96 (.t 22) (.t 25)), Ma 4 26]
def qap3 : SCode := (.seq (Sf qa5a [3, 4, 14] (Ce 14 0)) (.block 1 (Sf qa49 [3, 4, 5, 6] (Sf qa48 [3, 4, 5, 21] (Cn 21 (Rf qa47 [3, 4]) .skip)))))
abbrev qap2 : List SOper := [Ma 27 4, Ma 2 27]
def c_tall : SCode := (Sf qa5d [0] (Sf qa5c [3] (Sf qa5b [3, 4] (.seq (Bl 0 qap3) (Sf qap2 [2] .ret)))))
theorem qarf : comp Tryz.prog 28 ((Tryz.f140.body).getD .skip) = some c_tall.erase := by kernel_rfl
abbrev qa4w : List SOper := [Oa 4 (.mv (.c .nil))]
abbrev qa4v : List SOper := [Ma 5 0, Ma 6 1, Oa 7 (.build [(.int .i64 0), (.int .i64 0), .nilsl] [(0, 1, (.t 5)), (1, 1, (.t 6))]), Oa 8 (.box 108 (.t 7)), Ma 4 8]
def c_tnew : SCode := (Sf qa4w [0, 1] (Sf qa4v [4] .ret))
theorem qarc : comp Tryz.prog 9 ((Tryz.f35.body).getD .skip) = some c_tnew.erase := by kernel_rfl
abbrev qa0s : List SOper := [Ma 4 0, Ma 5 1, ⟨(some 6), .mv (.c .any), some ((.c (.fn (.method "Push") [] [])), [(.t 4), (.t 5)]), none, 0⟩]
abbrev qamf : List SOper := [Ma 7 0, Ma 8 0, ⟨(some 9), .mv (.c .any), some ((.c (.fn (.method "Len") [] [])), [(.t 8)]), none, 0⟩, Ca 10 .sub 9 1, Qc 11 157 [7, 10]]
def c_hpush : SCode := (Sf qa0s [0] (Rf qamf []))
theorem qaog : comp Tryz.prog 12 ((Tryz.f149.body).getD .skip) = some c_hpush.erase := by kernel_rfl
abbrev qa7r : List SOper := [Oa 2 (.mv (.c .niliface))]
abbrev qa7q : List SOper := [Ma 4 0, ⟨(some 5), .mv (.c .any), some ((.c (.fn (.method "Len") [] [])), [(.t 4)]), none, 0⟩, Ca 6 .sub 5 1, Ma 3 6]
abbrev qa7p : List SOper := [Ma 7 0, Ma 8 3, ⟨(some 9), .mv (.c .any), some ((.c (.fn (.method "Swap") [] [])), [(.t 7), (.c (.int .i64 0)), (.t 8)]), none, 0⟩]
abbrev qa7o : List SOper := [Ma 10 0, Ma 11 3, Oc 12 158 [(.t 10), (.c (.int .i64 0)), (.t 11)]]
abbrev qa7n : List SOper := [Ma 13 0, ⟨(some 14), .mv (.c .any), some ((.c (.fn (.method "Pop") [] [])), [(.t 13)]), none, 0⟩, Ma 2 14]
def c_hpop : SCode := (Sf qa7r [0] (Sf qa7q [0, 3] (Sf qa7p [0, 3] (Sf qa7o [0] (Sf qa7n [2] .ret)))))
theorem qart : comp Tryz.prog 15 ((Tryz.f152.body).getD .skip) = some c_hpop.erase := by kernel_rfl
abbrev qa7m : List SOper := [Oa 4 (.mv (.c .niliface))]
abbrev qa7l : List SOper := [Ma 6 0, ⟨(some 7), .mv (.c .any), some ((.c (.fn (.method "Len") [] [])), [(.t 6)]), none, 0⟩, Ca 8 .sub 7 1, Ma 5 8]
abbrev qa7k : List SOper := [Ma 9 5, Ma 10 1, Ba 11 .neq 9 10]
abbrev qa7j : List SOper := [Ma 12 0, Ma 13 1, Ma 14 5, ⟨(some 15), .mv (.c .any), some ((.c (.fn (.method "Swap") [] [])), [(.t 12), (.t 13), (.t 14)]), none, 0⟩]
abbrev qa7i : List SOper := [Ma 16 0, Ma 17 1, Ma 18 5, Qc 19 158 [16, 17, 18], Oa 20 (.un .not (.t 19))]
abbrev qa7h : List SOper := [Ma 21 0, Ma 22 1, Qc 23 157 [21, 22]]
abbrev qa7g : List SOper := [Ma 24 0, ⟨(some 25), .mv (.c .any), some ((.c (.fn (.method "Pop") [] [])), [(.t 24)]), none, 0⟩, Ma 4 25]
def c_hrem : SCode := (Sf qa7m [0, 1] (Sf qa7l [0, 1, 5] (.seq (Sf qa7k [0, 1, 5, 11] (Cn 11 (Sf qa7j [0, 1, 5] (Sf qa7i [0, 1, 20] (Cn 20 (Rf qa7h [0]) .skip))) .skip)) (Sf qa7g [4] .ret))))
theorem qagz : comp Tryz.prog 26 ((Tryz.f153.body).getD .skip) = some c_hrem.erase := by kernel_rfl
abbrev qbc5 : List SOper := [Ma 5 1, Ca 6 .sub 5 1, Ca 7 .quo 6 2, Ma 4 7]
abbrev qbc4 : List SOper := [Ma 8 4, Ma 9 1, Ba 10 .eql 8 9, Ma 11 10, Oe 12 (Pm 0) 11 false, Oe 13 (Pm 1) 11 false, Oe 14 (Pm 4) 11 false, ⟨(some 15), .mv (.c .any), some ((.c (.fn (.method "Less") [] [])), [(.t 12), (.t 13), (.t 14)]), (some (11, false)), 0⟩, Oe 16 (.un .not (.t 15)) 11 false, Ta 17 11 16]
abbrev qbc3 : List SOper := [Ma 18 0, Ma 19 4, Ma 20 1, ⟨(some 21), .mv (.c .any), some ((.c (.fn (.method "Swap") [] [])), [(.t 18), (.t 19), (.t 20)]), none, 0⟩]
abbrev qbc2 : List SOper := [Ma 22 4, Ma 1 22]
def qaow : SCode := (.block 1 (Sf qbc5 [0, 1, 4] (.seq (Sf qbc4 [0, 1, 4, 17] (Cn 17 (.exit 0) .skip)) (Sf qbc3 [0, 4] (Rf qbc2 [0, 1])))))
def c_hup : SCode := (Bl 0 qaow)
theorem qaxh : comp Tryz.prog 23 ((Tryz.f157.body).getD .skip) = some c_hup.erase := by kernel_rfl
abbrev qa01 : List SOper := [Oa 6 (.mv (.c (.bool false)))]
abbrev qa00 : List SOper := [Ma 11 1, Ma 7 11]
abbrev qa0z : List SOper := [Ma 12 7, Oa 13 (.bin .mul (.c (.int .i64 2)) (.t 12)), Ca 14 .add 13 1, Ma 8 14]
abbrev qa0y : List SOper := [Ma 15 8, Ma 16 2, Ba 17 .geq 15 16, Ma 18 17, Oe 19 (Pm 8) 18 false, Oe 20 (Pc .lss 19 0) 18 false, Ta 21 18 20]
abbrev qa0x : List SOper := [Ma 22 8, Ma 9 22]
abbrev qa0w : List SOper := [Ma 23 8, Ca 24 .add 23 1, Ma 10 24]
abbrev qa0v : List SOper := [Ma 25 10, Ma 26 2, Ba 27 .lss 25 26, Ma 28 27, Oe 29 (Pm 0) 28 true, Oe 30 (Pm 10) 28 true, Oe 31 (Pm 8) 28 true, ⟨(some 32), .mv (.c .any), some ((.c (.fn (.method "Less") [] [])), [(.t 29), (.t 30), (.t 31)]), (some (28, true)), 0⟩, Ua 33 28 32]
abbrev qa0u : List SOper := [Ma 34 10, Ma 9 34]
abbrev qa0t : List SOper := [Ma 35 0, Ma 36 9, Ma 37 7, ⟨(some 38), .mv (.c .any), some ((.c (.fn (.method "Less") [] [])), [(.t 35), (.t 36), (.t 37)]), none, 0⟩, Oa 39 (.un .not (.t 38))]
abbrev qat4 : List SOper := [Ma 40 0, Ma 41 7, Ma 42 9, ⟨(some 43), .mv (.c .any), some ((.c (.fn (.method "Swap") [] [])), [(.t 40), (.t 41), (.t 42)]), none, 0⟩]
abbrev qat3 : List SOper := [Ma 44 9, Ma 7 44]
def qami : SCode := (.block 1 (Sf qa0z [0, 1, 2, 7, 8] (.seq (Sf qa0y [0, 1, 2, 7, 8, 21] (Cn 21 (.exit 0) .skip)) (Sf qa0x [0, 1, 2, 7, 8, 9] (.seq (Sf qa0w [0, 1, 2, 7, 8, 9, 10] (Sf qa0v [0, 1, 2, 7, 9, 10, 33] (Cn 33 (Rf qa0u [0, 1, 2, 7, 9]) .skip))) (.seq (Sf qa0t [0, 1, 2, 7, 9, 39] (Cn 39 (.exit 0) .skip)) (Sf qat4 [0, 1, 2, 9] (Rf qat3 [0, 1, 2, 7]))))))))
abbrev qat2 : List SOper := [Ma 45 7, Ma 46 1, Ba 47 .gtr 45 46, Ma 6 47]
def c_hdown : SCode := (Sf qa01 [0, 1, 2] (Sf qa00 [0, 1, 2, 7] (.seq (Bl 0 qami) (Sf qat2 [6] .ret))))
theorem qaoi : comp Tryz.prog 48 ((Tryz.f158.body).getD .skip) = some c_hdown.erase := by kernel_rfl
abbrev qa0j : List SOper := [Ka 2 0]
abbrev qa0i : List SOper := [Ma 3 0, Na 4 3, Ma 2 4]
def c_rwlen : SCode := (Sf qa0j [0] (Sf qa0i [2] .ret))
theorem qaoe : comp Tryz.prog 5 ((Tryz.f163.body).getD .skip) = some c_rwlen.erase := by kernel_rfl
abbrev qat1 : List SOper := [Oa 6 (.mv (.c (.bool false)))]
abbrev qat0 : List SOper := [Ma 7 0, Ma 8 1, Od 9 (Pi 6 7 8) 3, Od 10 (Ps 6 9) 7, Ma 11 0, Ma 12 2, Od 13 (Pi 6 11 12) 48, Od 14 (Ps 6 13) 112, Qh 15 159 [10, 14] 255, Od 16 (Pc .lss 15 0) 511, Od 6 (Pm 16) 1023]
def c_rwless : SCode := (Sf qat1 [0, 1, 2] (.seq (Rt qat0 [6]) .ret))
theorem qalh : comp Tryz.prog 17 ((Tryz.f164.body).getD .skip) = some c_rwless.erase := by kernel_rfl
abbrev qatw : List SOper := [Ma 6 0, Ma 7 1, Ma 8 0, Ma 9 2, Ma 10 0, Ma 11 2, Od 12 (Pi 6 10 11) 48, Od 13 (Ps 6 12) 112, Ma 14 0, Ma 15 1, Od 16 (Pi 6 14 15) 768, Od 17 (Ps 6 16) 1792, Od 18 (Pi 6 6 7) 4083, Og (.store 6 (.t 18) (.t 13)) 8179, Od 19 (Pi 6 8 9) 16383, Og (.store 6 (.t 19) (.t 17)) 32767]
def c_rwswap : SCode := (Rt qatw [])
theorem qalf : comp Tryz.prog 20 ((Tryz.f165.body).getD .skip) = some c_rwswap.erase := by kernel_rfl
abbrev qatz : List SOper := [Ma 7 1, Oa 8 (.asrt 38 (.agg [.nilsl, .nilsl, (.int .i64 0), (.int .i64 0), (.int .i64 0), .nilsl]) (.t 7)), Ma 6 8, Oa 9 (.extr (.t 6) 0), Oa 10 (.extr (.t 6) 1), Oa 4 (.alloc 38 [.nilsl, .nilsl, (.int .i64 0), (.int .i64 0), (.int .i64 0), .nilsl]), Va 6 4 9, Ma 5 10]
abbrev qaty : List SOper := [Ma 11 5]
abbrev qatx : List SOper := [Ma 12 0, Ma 13 0, Od 14 (.nilc (.t 13)) 2, Od 15 (Pa 14) 6, Sa 16 6 4, Od 17 (.mkrow 38 6 1 [.nilsl, .nilsl, (.int .i64 0), (.int .i64 0), (.int .i64 0), .nilsl] [(0, (.t 16))]) 16, Od 18 (.app 38 6 96 (.t 15) (.t 17)) 62, Od 19 (.nilc (.t 12)) 127, Og (.store 1 (.t 19) (.t 18)) 255]
def c_rwpush : SCode := (Sf qatz [0, 4, 5] (Sf qaty [0, 4, 11] (Cn 11 (Rt qatx []) .skip)))
theorem qalg : comp Tryz.prog 20 ((Tryz.f168.body).getD .skip) = some c_rwpush.erase := by kernel_rfl
abbrev qa0h : List SOper := [Oa 2 (.mv (.c .niliface))]
abbrev qa0g : List SOper := [Ma 5 0, Oa 6 (.nilc (.t 5)), La 7 6, Na 8 7, Ca 9 .sub 8 1, Ma 3 9]
abbrev qa0f : List SOper := [Ma 10 0, Oa 11 (.nilc (.t 10)), La 12 11, Ma 13 3, Ia 14 6 12 13, Sa 15 6 14, Oa 4 (.alloc 38 [.nilsl, .nilsl, (.int .i64 0), (.int .i64 0), (.int .i64 0), .nilsl]), Va 6 4 15]
abbrev qa0e : List SOper := [Ma 16 0, Ma 17 0, Oa 18 (.nilc (.t 17)), La 19 18, Ma 20 3, Oa 21 (.slice 6 (.t 19) none (some (.t 20))), Oa 22 (.nilc (.t 16)), Va 1 22 21]
abbrev qa0d : List SOper := [Sa 23 6 4, Oa 24 (.mkifc 38 (.t 23)), Ma 2 24]
def c_rwpop : SCode := (Sf qa0h [0] (Sf qa0g [0, 3] (Sf qa0f [0, 3, 4] (Sf qa0e [4] (Sf qa0d [2] .ret)))))
theorem qaod : comp Tryz.prog 25 ((Tryz.f167.body).getD .skip) = some c_rwpop.erase := by kernel_rfl
end Go.Proofs.YtalejfkholifpaaGreat
namespace Go.Proofs.YtalejfkholifpaaGreat
set_option linter.all false
open Go.RowKit
attribute [local simp] qaas qaar qaad qaag qaae qaaf qaap qaaq qaab qaa5 SOp.run SX.ev putd puts argS upds SOp.touch SSt.keep SSt.skip gets geth puth delh idOf SV.cells? setL qab4 qab5 sbin eq0 eq1 eqL qab0 qabj qabk qaa4 qaat qaac qaau qaa6 qaaj qaam FrzOk qaa9 qaa0 qaa7 qaa8 qaav qaaz qabf qaa1 qaax qaba qaaw frzS frzH frz frz1 frz0 SlotsM ObjsM ObjM rn ren ren1 ren0 qabq qabs qabt qabp qabg qab2 qab1 CoL qabb qabx dels adds idsH qabr
def orL : List Int → Int
 | [] => 0
 | a :: xs => if a ≠ 0 then a else orL xs
def ordE (a b : Entry) : Int := orL [cmpI a.prio b.prio, cmpL a.keys b.keys, cmpL a.masks b.masks]
theorem nani_s (n : Int) (q : Nat) : SCalls Tryz.prog 162 [.int .i64 n] [] q (.bool false) [] := by
 refine qabm ?_ (fun _ => rfl) (fun _ => rfl) rfl q
 refine qaai (N := 6) Tryz.func162 rfl rfl (by kernel_rfl) qarr (by simp) (by repeat' (first | exact trivial | refine And.intro ?_ ?_ | rfl | decide | exact PureR.ren _)) (by repeat' (first | exact trivial | refine And.intro ?_ ?_ | rfl | decide | exact PureR.ren _)) ?_
 rintro X hP hN hm
 unfold c_nani
 repeat' (first | refine yA ?_ | with_reducible refine yB ?_ ?_ | ((with_reducible refine yC fun h => ?_); have h' := h; (try simp at h'); (try subst h')) | ((refine qace hm ?_ (fun σ => rfl))) | exact trivial)
 all_goals simp
theorem nanu_s (n : Int) (q : Nat) : SCalls Tryz.prog 108 [.int .u64 n] [] q (.bool false) [] := by
 refine qabm ?_ (fun _ => rfl) (fun _ => rfl) rfl q
 refine qaai (N := 6) Tryz.func108 rfl rfl (by kernel_rfl) qarq (by simp) (by repeat' (first | exact trivial | refine And.intro ?_ ?_ | rfl | decide | exact PureR.ren _)) (by repeat' (first | exact trivial | refine And.intro ?_ ?_ | rfl | decide | exact PureR.ren _)) ?_
 rintro X hP hN hm
 unfold c_nanu
 repeat' (first | refine yA ?_ | with_reducible refine yB ?_ ?_ | ((with_reducible refine yC fun h => ?_); have h' := h; (try simp at h'); (try subst h')) | ((refine qace hm ?_ (fun σ => rfl))) | exact trivial)
 all_goals simp
theorem cmpi_s (a b : Int) (q : Nat) : SCalls Tryz.prog 161 [.int .i64 a, .int .i64 b] [] q (.int .i64 (cmpI a b)) [] := by
 refine qabm ?_ (fun _ => rfl) (fun _ => rfl) rfl q
 refine qaai (N := 20) Tryz.func161 rfl rfl (by kernel_rfl) qarw (by simp) (by repeat' (first | exact trivial | refine And.intro ?_ ?_ | rfl | decide | exact PureR.ren _)) (by repeat' (first | exact trivial | refine And.intro ?_ ?_ | rfl | decide | exact PureR.ren _)) ?_
 rintro X hP hN hm
 obtain ⟨F, hF⟩ : ∃ F, F = cmpI a b := ⟨_, rfl⟩
 rw [← hF]
 replace hF := Lib.hid hF
 unfold c_cmpi
 repeat' (first | refine yA ?_ | with_reducible refine yB ?_ ?_ | ((with_reducible refine yC fun h => ?_); have h' := h; (try simp at h'); (try subst h')) | refine qabo (nani_s _ _) ?_ | ((refine qace hm ?_ (fun σ => rfl))) | exact trivial)
 all_goals (rw [hF.out]; unfold cmpI; first | (rw [if_pos (by omega)]) | (rw [if_neg (by omega), if_pos (by omega)]) | (rw [if_neg (by omega), if_neg (by omega)]))
theorem cmpu_s (a b : Int) (q : Nat) : SCalls Tryz.prog 97 [.int .u64 a, .int .u64 b] [] q (.int .i64 (cmpI a b)) [] := by
 refine qabm ?_ (fun _ => rfl) (fun _ => rfl) rfl q
 refine qaai (N := 20) Tryz.func97 rfl rfl (by kernel_rfl) qarv (by simp) (by repeat' (first | exact trivial | refine And.intro ?_ ?_ | rfl | decide | exact PureR.ren _)) (by repeat' (first | exact trivial | refine And.intro ?_ ?_ | rfl | decide | exact PureR.ren _)) ?_
 rintro X hP hN hm
 obtain ⟨F, hF⟩ : ∃ F, F = cmpI a b := ⟨_, rfl⟩
 rw [← hF]
 replace hF := Lib.hid hF
 unfold c_cmpu
 repeat' (first | refine yA ?_ | with_reducible refine yB ?_ ?_ | ((with_reducible refine yC fun h => ?_); have h' := h; (try simp at h'); (try subst h')) | refine qabo (nanu_s _ _) ?_ | ((refine qace hm ?_ (fun σ => rfl))) | exact trivial)
 all_goals (rw [hF.out]; unfold cmpI; first | (rw [if_pos (by omega)]) | (rw [if_neg (by omega), if_pos (by omega)]) | (rw [if_neg (by omega), if_neg (by omega)]))
theorem qa3p (xa xb : List Int) (i : Nat) (h : i < xa.length) (g : i < xb.length) : cmpL (xa.drop i) (xb.drop i) = if cmpI xa[i] xb[i] ≠ 0 then cmpI xa[i] xb[i] else cmpL (xa.drop (i + 1)) (xb.drop (i + 1)) := by
 rw [List.drop_eq_getElem_cons h, List.drop_eq_getElem_cons g]; rfl
theorem qa8u (xa xb : List Int) (ha : xa.length ≤ 1000000) (hb : xb.length ≤ 1000000) (q : Nat) : SCalls Tryz.prog 92 [nums .u64 xa, nums .u64 xb] [] q (.int .i64 (cmpL xa xb)) [] := by
 refine qabm ?_ (fun _ => rfl) (fun _ => rfl) rfl q
 refine qaai (N := 36) Tryz.func92 rfl rfl (by kernel_rfl) qan8 (by simp) (by repeat' (first | exact trivial | refine And.intro ?_ ?_ | rfl | decide | exact PureR.ren _)) (by repeat' (first | exact trivial | refine And.intro ?_ ?_ | rfl | decide | exact PureR.ren _)) ?_
 rintro X hP hN hm
 obtain ⟨F, hF⟩ : ∃ F, F = cmpL xa xb := ⟨_, rfl⟩
 rw [← hF]
 replace hF := Lib.hid hF
 unfold c_slcmp nums
 repeat' (first | refine yA ?_ | with_reducible refine yB ?_ ?_ | ((with_reducible refine yC fun h => ?_); have h' := h; (try simp at h'); (try subst h')) | exact trivial)
 refine qabl (qacv (fun s (i : Nat) => s.turn [(11, .int .i64 i)] []) (fun i => i ≤ xa.length ∧ i ≤ xb.length ∧ F = cmpL (xa.drop i) (xb.drop i)) (fun i => xa.length - i) 0 ?_ ⟨by simp, by simp, hF.out⟩ ?_)
 ·repeat' (first | exact yD | refine yE ?_ | with_reducible refine yB ?_ ?_ | exact trivial)
 rintro J hJ i ⟨h1, h2, h3⟩
 unfold qal2
 simp only [zT, puth, Nat.reduceEqDiff, reduceIte, Nat.reduceAdd] at h1 h2 h3 ⊢
 replace h3 := Lib.hid h3
 rcases Nat.lt_or_ge i xa.length with hi | hi
 ·rcases Nat.lt_or_ge i xb.length with hj | hj
  ·have h4 := h3.out
   rw [qa3p xa xb i hi hj] at h4
   generalize hx : cmpI xa[i] xb[i] = x at h4
   have hc : ∀ q, SCalls Tryz.prog 97 [.int .u64 xa[i], .int .u64 xb[i]] [] q (.int .i64 x) [] := fun q => by rw [← hx]; exact cmpu_s _ _ q
   have wi : IntKind.i64.wrap ((i : Int) + 1) = (i : Int) + 1 := qacb (by omega) (by omega)
   replace h4 := Lib.hid h4
   repeat' (first | ((with_reducible first | refine qaao ?_ | refine qaal (by rw [hP]; exact mixed) ?_); (try rw [hP]); simp -implicitDefEqProofs [wi, List.getElem?_eq_getElem hi, List.getElem?_eq_getElem hj, *]) | ((with_reducible first | refine qaah ?_ | refine qaak ?_); (try simp -implicitDefEqProofs [wi, List.getElem?_eq_getElem hi, List.getElem?_eq_getElem hj, *])) | ((with_reducible refine qaaa (fun h => ?_) (fun h => ?_)) <;> have h' := h <;> (try simp at h') <;> (try subst h') <;> simp -implicitDefEqProofs [wi, List.getElem?_eq_getElem hi, List.getElem?_eq_getElem hj, *]) | ((with_reducible refine qaan ?_ ?_); (first | omega | (unfold maxLen; omega)); simp -implicitDefEqProofs [wi, List.getElem?_eq_getElem hi, List.getElem?_eq_getElem hj, *]) | refine yA ?_ | with_reducible refine yB ?_ ?_ | ((with_reducible refine yC fun h => ?_); have h' := h; (try simp at h'); (try subst h')) | (refine qabo (hc _) ?_; simp -implicitDefEqProofs [wi, List.getElem?_eq_getElem hi, List.getElem?_eq_getElem hj, *]) | exact yD | refine yE ?_ | ((refine qace hm ?_ (fun σ => rfl))) | ((refine qabn hJ (i + 1) ?_ ?_ ?_; (with_reducible refine qabe [] hm ?_ ?_ ?_ ?_) <;> (try simp only [zT, puth, Nat.reduceEqDiff, reduceIte, Nat.reduceAdd]))) | exact trivial)
   all_goals first | (exfalso; omega) | (rw [h4.out, if_pos ‹_›]; done) | (refine ⟨by omega, by omega, ?_⟩; rw [h4.out, if_neg (by omega)]) | omega | trace_state
  ·repeat' (first | ((with_reducible first | refine qaao ?_ | refine qaal (by rw [hP]; exact mixed) ?_); (try rw [hP]); simp -implicitDefEqProofs [List.getElem?_eq_getElem hi, *]) | ((with_reducible first | refine qaah ?_ | refine qaak ?_); (try simp -implicitDefEqProofs [List.getElem?_eq_getElem hi, *])) | ((with_reducible refine qaaa (fun h => ?_) (fun h => ?_)) <;> have h' := h <;> (try simp at h') <;> (try subst h') <;> simp -implicitDefEqProofs [List.getElem?_eq_getElem hi, *]) | ((with_reducible refine qaan ?_ ?_); (first | omega | (unfold maxLen; omega)); simp -implicitDefEqProofs [List.getElem?_eq_getElem hi, *]) | refine yA ?_ | with_reducible refine yB ?_ ?_ | ((with_reducible refine yC fun h => ?_); have h' := h; (try simp at h'); (try subst h')) | ((refine qace hm ?_ (fun σ => rfl))) | exact trivial)
   all_goals first | (exfalso; omega) | (rw [h3.out, List.drop_eq_nil_of_le hj, List.drop_eq_getElem_cons hi]; rfl) | trace_state
 ·have hn : ¬ (i < xa.length) := by omega
  repeat' (first | refine yA ?_ | with_reducible refine yB ?_ ?_ | ((with_reducible refine yC fun h => ?_); have h' := h; (try simp at h'); (try subst h')) | ((refine qace hm ?_ (fun σ => rfl))) | exact trivial)
  all_goals first | (exfalso; omega) | (rw [h3.out, List.drop_eq_nil_of_le hi, List.drop_eq_getElem_cons (by omega)]; rfl) | (rw [h3.out, List.drop_eq_nil_of_le hi, List.drop_eq_nil_of_le (by omega)]; rfl) | trace_state
theorem cmpor_s (xa : List Int) (ha : xa.length ≤ 1000000) (q : Nat) : SCalls Tryz.prog 160 [nums .i64 xa] [] q (.int .i64 (orL xa)) [] := by
 refine qabm ?_ (fun _ => rfl) (fun _ => rfl) rfl q
 refine qaai (N := 18) Tryz.func160 rfl rfl (by kernel_rfl) qaok (by simp) (by repeat' (first | exact trivial | refine And.intro ?_ ?_ | rfl | decide | exact PureR.ren _)) (by repeat' (first | exact trivial | refine And.intro ?_ ?_ | rfl | decide | exact PureR.ren _)) ?_
 rintro X hP hN hm
 obtain ⟨F, hF⟩ : ∃ F, F = orL xa := ⟨_, rfl⟩
 rw [← hF]
 replace hF := Lib.hid hF
 unfold c_cmpor nums
 repeat' (first | refine yA ?_ | with_reducible refine yB ?_ ?_ | ((with_reducible refine yC fun h => ?_); have h' := h; (try simp at h'); (try subst h')) | exact trivial)
 refine qabl (qacv (fun s (i : Nat) => s.turn [(8, .int .i64 i)] []) (fun i => i ≤ xa.length ∧ F = orL (xa.drop i)) (fun i => xa.length - i) 0 ?_ ⟨by simp, hF.out⟩ ?_)
 ·repeat' (first | exact yD | refine yE ?_ | with_reducible refine yB ?_ ?_ | exact trivial)
 rintro J hJ i ⟨h1, h3⟩
 unfold qamr
 simp only [zT, puth, Nat.reduceEqDiff, reduceIte, Nat.reduceAdd] at h1 h3 ⊢
 replace h3 := Lib.hid h3
 rcases Nat.lt_or_ge i xa.length with hi | hi
 ·have h4 : F = if xa[i] ≠ 0 then xa[i] else orL (xa.drop (i + 1)) := by rw [h3.out, List.drop_eq_getElem_cons hi]; rfl
  have wi : IntKind.i64.wrap ((i : Int) + 1) = (i : Int) + 1 := qacb (by omega) (by omega)
  replace h4 := Lib.hid h4
  repeat' (first | ((with_reducible first | refine qaao ?_ | refine qaal (by rw [hP]; exact mixed) ?_); (try rw [hP]); simp -implicitDefEqProofs [wi, List.getElem?_eq_getElem hi, *]) | ((with_reducible first | refine qaah ?_ | refine qaak ?_); (try simp -implicitDefEqProofs [wi, List.getElem?_eq_getElem hi, *])) | ((with_reducible refine qaaa (fun h => ?_) (fun h => ?_)) <;> have h' := h <;> (try simp at h') <;> (try subst h') <;> simp -implicitDefEqProofs [wi, List.getElem?_eq_getElem hi, *]) | ((with_reducible refine qaan ?_ ?_); (first | omega | (unfold maxLen; omega)); simp -implicitDefEqProofs [wi, List.getElem?_eq_getElem hi, *]) | refine yA ?_ | with_reducible refine yB ?_ ?_ | ((with_reducible refine yC fun h => ?_); have h' := h; (try simp at h'); (try subst h')) | exact yD | refine yE ?_ | ((refine qace hm ?_ (fun σ => rfl))) | ((refine qabn hJ (i + 1) ?_ ?_ ?_; (with_reducible refine qabe [] hm ?_ ?_ ?_ ?_) <;> (try simp only [zT, puth, Nat.reduceEqDiff, reduceIte, Nat.reduceAdd]))) | exact trivial)
  all_goals first | (exfalso; omega) | (rw [h4.out, if_pos ‹_›]; done) | (refine ⟨by omega, ?_⟩; rw [h4.out, if_neg (by omega)]) | omega | trace_state
 ·repeat' (first | refine yA ?_ | with_reducible refine yB ?_ ?_ | ((with_reducible refine yC fun h => ?_); have h' := h; (try simp at h'); (try subst h')) | ((refine qace hm ?_ (fun σ => rfl))) | exact trivial)
  all_goals first | (exfalso; omega) | (rw [h3.out, List.drop_eq_nil_of_le hi]; rfl) | trace_state
theorem qa3o (a b c : Int) (id q : Nat) : SCalls Tryz.prog 160 [.own id 3] [(id, .row 3 1 [[.int .i64 a], [.int .i64 b], [.int .i64 c]])] q (.int .i64 (orL [a, b, c])) [(id, .row 3 1 [[.int .i64 a], [.int .i64 b], [.int .i64 c]])] := by
 have hl : Lent [(id, .row 3 1 [[.int .i64 a], [.int .i64 b], [.int .i64 c]])] (.own id 3) (.view 1 [[.int .i64 a], [.int .i64 b], [.int .i64 c]]) :=
  qajq (e := 3) (by simp [geth]) (fun e he x hx => by
   simp only [List.mem_cons, List.not_mem_nil, or_false] at he
   rcases he with rfl | rfl | rfl <;> (simp only [List.mem_cons, List.not_mem_nil, or_false] at hx; subst hx; exact qaes _ _)) rfl
 exact qac3 (cmpor_s [a, b, c] (by simp) q) ⟨hl, trivial⟩ (qaev _ _)
theorem qa83 (a b : Entry) (ha : qade a) (hb : qade b) (q : Nat) : SCalls Tryz.prog 159 [.agg (qaay a), .agg (qaay b)] [] q (.int .i64 (ordE a b)) [] := by
 refine qabm ?_ (fun _ => rfl) (fun _ => rfl) rfl q
 refine qaai (N := 22) Tryz.func159 rfl rfl (by kernel_rfl) qala (by simp) (by repeat' (first | exact trivial | refine And.intro ?_ ?_ | rfl | decide | exact PureR.ren _)) (by repeat' (first | exact trivial | refine And.intro ?_ ?_ | rfl | decide | exact PureR.ren _)) ?_
 rintro X hP hN hm
 have k1 := fun q => qa8u a.keys b.keys ha.1 hb.1 q
 have k2 := fun q => qa8u a.masks b.masks ha.2.1 hb.2.1 q
 unfold c_torder qaay
 repeat' (first | refine yA ?_ | with_reducible refine yB ?_ ?_ | ((with_reducible refine yC fun h => ?_); have h' := h; (try simp at h'); (try subst h')) | refine qabo (cmpi_s _ _ _) ?_ | refine qabo (k1 _) ?_ | refine qabo (k2 _) ?_ | refine qabv (qa3o _ _ _ _ _) ⟨rfl, trivial⟩ ⟨rfl, trivial⟩ ?_ | ((refine qace hm ?_ (fun σ => rfl))) | exact trivial)
 all_goals rfl
theorem same_s (a b : Entry) (ha : qade a) (hb : qade b) (q : Nat) : SCalls Tryz.prog 156 [.agg (qaay a), .agg (qaay b)] [] q (.bool (ordE a b == 0)) [] := by
 refine qabm ?_ (fun _ => rfl) (fun _ => rfl) rfl q
 refine qaai (N := 9) Tryz.func156 rfl rfl (by kernel_rfl) qan2 (by simp) (by repeat' (first | exact trivial | refine And.intro ?_ ?_ | rfl | decide | exact PureR.ren _)) (by repeat' (first | exact trivial | refine And.intro ?_ ?_ | rfl | decide | exact PureR.ren _)) ?_
 rintro X hP hN hm
 have k1 := fun q => qa83 a b ha hb q
 unfold qaay at k1
 unfold c_tsame qaay
 repeat' (first | refine yA ?_ | with_reducible refine yB ?_ ?_ | ((with_reducible refine yC fun h => ?_); have h' := h; (try simp at h'); (try subst h')) | refine qabo (k1 _) ?_ | ((refine qace hm ?_ (fun σ => rfl))) | exact trivial)
 all_goals rfl
theorem tnums (xs : List Int) (h : xs.length ≤ 1000000) (q : Nat) : SCalls Tryz.prog 32 [nums .u64 xs] [] q (nums .u64 xs) [] := by
 unfold nums
 rcases xs with _ | ⟨x, xs⟩
 ·refine qafr (qabm ?_ (fun _ => rfl) (fun _ => rfl) rfl q) (qabm ?_ (fun _ => rfl) (fun _ => rfl) rfl q)
  ·refine qaai (N := 8) Tryz.func32 rfl rfl (by kernel_rfl) qah3 (by simp) (by repeat' (first | exact trivial | refine And.intro ?_ ?_ | rfl | decide | exact PureR.ren _)) (by repeat' (first | exact trivial | refine And.intro ?_ ?_ | rfl | decide | exact PureR.ren _)) ?_
   rintro X hP hN hm
   unfold c_clu
   repeat' (first | refine yA ?_ | with_reducible refine yB ?_ ?_ | ((with_reducible refine yC fun h => ?_); have h' := h; (try simp at h'); (try subst h')) | (refine qbbn hm rfl (Co.nilsl _) (qanj _ _)) | exact trivial)
  ·refine qaai (N := 8) Tryz.func32 rfl rfl (by kernel_rfl) qah3 (by simp) (by repeat' (first | exact trivial | refine And.intro ?_ ?_ | rfl | decide | exact PureR.ren _)) (by repeat' (first | exact trivial | refine And.intro ?_ ?_ | rfl | decide | exact PureR.ren _)) ?_
   rintro X hP hN hm
   unfold c_clu
   repeat' (first | refine yA ?_ | with_reducible refine yB ?_ ?_ | ((with_reducible refine yC fun h => ?_); have h' := h; (try simp at h'); (try subst h')) | (refine qaiw (es := []) hm rfl rfl ?_ rfl) | exact trivial)
   all_goals rfl
 ·refine qabm ?_ (fun _ => rfl) (fun _ => rfl) rfl q
  refine qaai (N := 8) Tryz.func32 rfl rfl (by kernel_rfl) qah3 (by simp) (by repeat' (first | exact trivial | refine And.intro ?_ ?_ | rfl | decide | exact PureR.ren _)) (by repeat' (first | exact trivial | refine And.intro ?_ ?_ | rfl | decide | exact PureR.ren _)) ?_
  rintro X hP hN hm
  have hb : (x :: xs).length ≤ maxLen := by unfold maxLen; omega
  simp only [List.length_cons] at h hb
  unfold c_clu
  repeat' (first | refine yA ?_ | with_reducible refine yB ?_ ?_ | ((with_reducible refine yC fun h => ?_); have h' := h; (try simp at h'); (try subst h')) | (refine qaiw (es := (x :: xs).map fun x => [.int .u64 x]) hm rfl rfl ?_ rfl) | exact trivial)
  all_goals simp
def towE (e : Entry) : Entry := { e with len := 0 }
theorem qa95 (e : Entry) (h : qade e) (q : Nat) : SCalls Tryz.prog 150 [.agg (qaay e)] [] q (.agg (qaay (towE e))) [] := by
 refine qabm ?_ (fun _ => rfl) (fun _ => rfl) rfl q
 refine qaai (N := 17) Tryz.func150 rfl rfl (by kernel_rfl) qarb (by simp) (by repeat' (first | exact trivial | refine And.intro ?_ ?_ | rfl | decide | exact PureR.ren _)) (by repeat' (first | exact trivial | refine And.intro ?_ ?_ | rfl | decide | exact PureR.ren _)) ?_
 rintro X hP hN hm
 obtain ⟨h1, h2, h3⟩ := h
 have k1 := fun q => tnums e.keys h1 q
 have k2 := fun q => tnums e.masks h2 q
 have k3 := fun q => tnums e.args h3 q
 unfold nums at k1 k2 k3
 unfold c_town qaay nums towE
 repeat' (first | refine yA ?_ | with_reducible refine yB ?_ ?_ | ((with_reducible refine yC fun h => ?_); have h' := h; (try simp at h'); (try subst h')) | refine qabo (k1 _) ?_ | refine qabo (k2 _) ?_ | refine qabo (k3 _) ?_ | ((refine qanx hm rfl ?_ ?_ rfl (CoL.refl _) rfl ?_)) | exact trivial)
 all_goals first | (rw [hP]; with_reducible exact qa8g) | (rw [hP]; exact qaur) | (intro σ; rfl) | trace_state
def qa12 : List Int → List Int → List Int → List Int → Bool
 | a :: xa, b :: xb, m :: xm, n :: xn => if bits .and .u64 (bits .and .u64 (bits .xor .u64 a b) m) n ≠ 0 then false else qa12 xa xb xm xn
 | _, _, _, _ => true
def qav2 (a b : Entry) : Bool := qa12 a.keys b.keys a.masks b.masks
theorem qav0 (xa xb xm xn : List Int) (i : Nat) (h : i < xa.length) (g : i < xb.length) (hm : i < xm.length) (hn : i < xn.length) : qa12 (xa.drop i) (xb.drop i) (xm.drop i) (xn.drop i) = if bits .and .u64 (bits .and .u64 (bits .xor .u64 xa[i] xb[i]) xm[i]) xn[i] ≠ 0 then false else qa12 (xa.drop (i + 1)) (xb.drop (i + 1)) (xm.drop (i + 1)) (xn.drop (i + 1)) := by
 rw [List.drop_eq_getElem_cons h, List.drop_eq_getElem_cons g, List.drop_eq_getElem_cons hm, List.drop_eq_getElem_cons hn, qa12]
theorem meets_s (a b : Entry) (ha : qade a) (hb : qade b) (h1 : b.keys.length = a.keys.length) (h2 : a.masks.length = a.keys.length) (h3 : b.masks.length = a.keys.length) (q : Nat) : SCalls Tryz.prog 148 [.agg (qaay a), .agg (qaay b)] [] q (.bool (qav2 a b)) [] := by
 refine qabm ?_ (fun _ => rfl) (fun _ => rfl) rfl q
 refine qaai (N := 37) Tryz.func148 rfl rfl (by kernel_rfl) qalb (by simp) (by repeat' (first | exact trivial | refine And.intro ?_ ?_ | rfl | decide | exact PureR.ren _)) (by repeat' (first | exact trivial | refine And.intro ?_ ?_ | rfl | decide | exact PureR.ren _)) ?_
 rintro X hP hN hm
 obtain ⟨h4, -, -⟩ := ha
 obtain ⟨ka, ma, la, pa, aa, ra⟩ := a
 obtain ⟨kb, mb, lb, pb, ab, rb⟩ := b
 dsimp only at h1 h2 h3 h4
 obtain ⟨F, hF⟩ : ∃ F, F = qav2 ⟨ka, ma, la, pa, aa, ra⟩ ⟨kb, mb, lb, pb, ab, rb⟩ := ⟨_, rfl⟩
 rw [← hF]
 replace hF := Lib.hid hF
 replace h1 := Lib.hid h1
 replace h2 := Lib.hid h2
 replace h3 := Lib.hid h3
 unfold c_tmeets qaay nums
 repeat' (first | refine yA ?_ | with_reducible refine yB ?_ ?_ | ((with_reducible refine yC fun h => ?_); have h' := h; (try simp at h'); (try subst h')) | exact trivial)
 refine qabl (qacv (fun s (i : Nat) => s.turn [(9, .int .i64 i)] []) (fun i => i ≤ ka.length ∧ F = qa12 (ka.drop i) (kb.drop i) (ma.drop i) (mb.drop i)) (fun i => ka.length - i) 0 ?_ ⟨by simp, hF.out⟩ ?_)
 ·repeat' (first | exact yD | refine yE ?_ | with_reducible refine yB ?_ ?_ | exact trivial)
 rintro J hJ i ⟨h5, h6⟩
 unfold qai5
 simp only [zT, puth, Nat.reduceEqDiff, reduceIte, Nat.reduceAdd] at h5 h6 ⊢
 replace h6 := Lib.hid h6
 rcases Nat.lt_or_ge i ka.length with hi | hi
 ·have i1 : i < kb.length := by rw [h1.out]; exact hi
  have i2 : i < ma.length := by rw [h2.out]; exact hi
  have i3 : i < mb.length := by rw [h3.out]; exact hi
  have h7 := h6.out
  rw [qav0 ka kb ma mb i hi i1 i2 i3] at h7
  have wi : IntKind.i64.wrap ((i : Int) + 1) = (i : Int) + 1 := qacb (by omega) (by omega)
  generalize hx : bits .and .u64 (bits .and .u64 (bits .xor .u64 ka[i] kb[i]) ma[i]) mb[i] = x at h7
  replace h7 := Lib.hid h7
  repeat' (first | ((with_reducible first | refine qaao ?_ | refine qaal (by rw [hP]; exact mixed) ?_); (try rw [hP]); simp -implicitDefEqProofs [wi, List.getElem?_eq_getElem hi, List.getElem?_eq_getElem i1, List.getElem?_eq_getElem i2, List.getElem?_eq_getElem i3, hx, *]) | ((with_reducible first | refine qaah ?_ | refine qaak ?_); (try simp -implicitDefEqProofs [wi, List.getElem?_eq_getElem hi, List.getElem?_eq_getElem i1, List.getElem?_eq_getElem i2, List.getElem?_eq_getElem i3, hx, *])) | ((with_reducible refine qaaa (fun h => ?_) (fun h => ?_)) <;> have h' := h <;> (try simp at h') <;> (try subst h') <;> simp -implicitDefEqProofs [wi, List.getElem?_eq_getElem hi, List.getElem?_eq_getElem i1, List.getElem?_eq_getElem i2, List.getElem?_eq_getElem i3, hx, *]) | ((with_reducible refine qaan ?_ ?_); (first | omega | (unfold maxLen; omega)); simp -implicitDefEqProofs [wi, List.getElem?_eq_getElem hi, List.getElem?_eq_getElem i1, List.getElem?_eq_getElem i2, List.getElem?_eq_getElem i3, hx, *]) | refine yA ?_ | with_reducible refine yB ?_ ?_ | ((with_reducible refine yC fun h => ?_); have h' := h; (try simp at h'); (try subst h')) | exact yD | refine yE ?_ | ((refine qace hm ?_ (fun σ => rfl))) | ((refine qabn hJ (i + 1) ?_ ?_ ?_; (with_reducible refine qabe [] hm ?_ ?_ ?_ ?_) <;> (try simp only [zT, puth, Nat.reduceEqDiff, reduceIte, Nat.reduceAdd]))) | exact trivial)
  all_goals first | (exfalso; omega) | (rw [h7.out, if_pos ‹_›]; done) | (refine ⟨by omega, ?_⟩; rw [h7.out, if_neg (by omega)]) | omega | trace_state
 ·repeat' (first | refine yA ?_ | with_reducible refine yB ?_ ?_ | ((with_reducible refine yC fun h => ?_); have h' := h; (try simp at h'); (try subst h')) | ((refine qace hm ?_ (fun σ => rfl))) | exact trivial)
  all_goals first | (exfalso; omega) | (rw [h6.out, List.drop_eq_nil_of_le hi]; rfl) | trace_state
end Go.Proofs.YtalejfkholifpaaGreat
