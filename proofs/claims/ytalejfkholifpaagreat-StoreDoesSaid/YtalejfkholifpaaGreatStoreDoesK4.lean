/-
  Texts joined: XTabD XPlnB XShSp XPlnK XCpln XPlnC XCpls XPlnY XPlnZ XTabE XExaB XExaC XShY XExaD XExaE XExaF XExaG XExaO XExaP XExaQ XExaR XExaT XExaU XCrow XRowA XRowB XRowD XRowE XRowF XRowG XRowH XRowI XRowJ XRowK XRowL XExaV XExaW XExaX XCmpB. No condition.
-/
import Derived.WalkSpells
import Derived.RegionTactic
import Derived.BigRegion
import Derived.Deep.RegionLaw
import Derived.Test.YtalejfkholifpaaGreatProg
import Derived.Test.YtalejfkholifpaaGreatStoreDoesK3
set_option linter.all false
namespace Go.Proofs.YtalejfkholifpaaGreat
open Go.RowKit
section
attribute [local simp] qaa6 qaa5 qaak qaas qaal qaar qaa3 qaa4 qaae qabh SOp.run SX.ev putd puts argS upds SOp.touch SSt.keep SSt.skip gets geth puth delh idOf SV.cells? setL qac5 qac6 sbin eq0 eq1 eqL qac2 qaby qab0 qaa2 qaa1 qaac qaa7 qabi qaaj qaad FrzOk qaav qaan qaat qaau qaaf qaam qaa8 qaao qaah qaaw qaag frzS frzH frz frz1 frz0 SlotsM ObjsM ObjM rn ren ren1 ren0 qabk qabw qabz qabj qaa9 qabx qab1 CoL qaax qabr dels adds idsH qabc
def ents (xs : List Entry) : SV := .view 6 (xs.map qaaa)
def qanc (xs ys : List Entry) : Bool := decide (xs.length = ys.length) && (List.range xs.length).all fun i => match xs[i]?, ys[i]? with
 | some a, some b => qand a b
 | _, _ => true
theorem qbbw (a b : Entry) (h : qacd a) (q : Nat) : SCalls Tryz.prog 29 [.agg (qaaa a), .agg (qaaa b)] [] q (.bool (qand a b)) [] :=
 yQ (sent_s a b h) q
theorem sents_s (xs ys : List Entry) (hx : xs.length ≤ 1000000) (hs : ∀ e ∈ xs, qacd e) : SCalls Tryz.prog 16 [ents xs, ents ys] [] 0 (.bool (qanc xs ys)) [] := by
 refine yG (N := 27) Tryz.func16 qbkd ⟨rfl, rfl, trivial⟩ trivial ?_;rintro X hP hN hm;have fin : ∀ (r : Bool) hp nx, qanc xs ys = r → QFun X (Tryz.f16).results.toList 0 (.bool (qanc xs ys)) [] .ret ⟨[(4, .bool r)], hp, nx⟩ := fun r hp nx hr => by
  rw [hr];exact (qabu (s' := ⟨[(4, .bool r)], [], 0⟩) (qabl [] hm rfl (Nat.le_refl _) (by simp -implicitDefEqProofs []) trivial) rfl trivial (by simp))
 unfold qbkd ents;refine qabb (qaab ?_);simp -implicitDefEqProofs [qao8];refine qabb (qabb (qaab ?_));simp -implicitDefEqProofs [qao7];refine qaap rfl (fun h => ?_) (fun h => ?_)
 ·refine qabb (qaab ?_);simp -implicitDefEqProofs [qao6];refine qaba (fin _ _ _ ?_);have : ¬ (xs.length = ys.length) := by simp at h; omega
  simp [qanc, this]
 ·have hl : xs.length = ys.length := by simp at h; omega
  refine qaai ?_;simp -implicitDefEqProofs [];refine qabb (qabb (qaab ?_));simp -implicitDefEqProofs [qao5];refine qabf (qadm (fun s n => ∃ i : Nat, s = ⟨[(0, ents xs), (1, ents ys), (5, .int .i64 i)], [], 0⟩ ∧ i ≤ xs.length ∧ (∀ j, j < i → match xs[j]?, ys[j]? with | some a, some b => qand a b = true | _, _ => True) ∧ n = xs.length - i) (qabl [] hm rfl (Nat.le_refl _) (by simp -implicitDefEqProofs [ents]) (by trivial)) ⟨0, rfl, by omega, by intro j hj; omega, rfl⟩ ?_);rintro s n ⟨i, rfl, h1, h2, rfl⟩;unfold qao9;refine qabb (qabb (qaab ?_));simp -implicitDefEqProofs [qao4, ents];refine qaap rfl (fun h3 => qaai ?_) (fun h3 => qabv ?_)
  ·have hi : i < xs.length := by simpa using h3
   simp -implicitDefEqProofs [];refine qabb (qabf (qabb (qaaz (by rw [hP]; exact mixed) ?_)));have hi2 : i < ys.length := by omega
   rw [hP];simp -implicitDefEqProofs [qao3, hi, hi2, show ∀ e, (qaaa e).length = 6 from fun _ => rfl, show ∀ e, (qaaa e).take 6 = qaaa e from fun _ => rfl];refine qabe (qbbw _ _ (hs _ (List.getElem_mem hi)) _) ?_;simp -implicitDefEqProofs [];refine ⟨rfl, qaap rfl (fun h4 => ?_) (fun h4 => ?_)⟩
   ·refine qabb (qaab ?_);simp -implicitDefEqProofs [qao2];refine qaba (fin _ _ _ ?_);have h5 : qand xs[i] ys[i] = false := by simpa using h4
    simp only [qanc, Bool.and_eq_false_iff];refine .inr (List.all_eq_false.2 ⟨i, List.mem_range.2 hi, ?_⟩);simp [hi, hi2, h5]
   ·refine qaai ?_;simp -implicitDefEqProofs [];refine qaab ?_;simp -implicitDefEqProofs [qao1];rw [qabo (by omega) (by omega)];have h5 : qand xs[i] ys[i] = true := by simpa using h4
    refine qab3 (qabl [] hm rfl (Nat.le_refl _) (by simp -implicitDefEqProofs [ents]) (by trivial)) ⟨i + 1, rfl, by omega, ?_, rfl⟩ (by omega);intro j hj;rcases Nat.lt_or_ge j i with e | e
    ·exact h2 j e
    ·obtain rfl : j = i := by omega
     simp [hi, hi2, h5]
  ·have hi : i = xs.length := by have : ¬ i < xs.length := by simpa using h3
                                 omega
   subst hi;simp -implicitDefEqProofs [];refine qabb (qaab ?_);simp -implicitDefEqProofs [qao0];refine qaba (fin _ _ _ ?_);simp only [qanc, Bool.and_eq_true, decide_eq_true_eq];refine ⟨hl, List.all_eq_true.2 fun j hj => ?_⟩;have := h2 j (List.mem_range.1 hj);revert this
   cases xs[j]? <;> cases ys[j]? <;> simp
def qacc (a : Int) (xs : List Int) : List SV := [.int .i64 a, nums .u64 xs]
theorem shit_s (a b : Int) (xs ys : List Int) (hx : xs.length ≤ 1000000) : SCalls Tryz.prog 15 [.agg (qacc a xs), .agg (qacc b ys)] [] 0 (.bool (a == b && decide (xs = ys))) [] := by
 refine yG (N := 17) Tryz.func15 c_shit ⟨rfl, rfl, trivial⟩ trivial ?_;rintro X hP hN hm;generalize hr : (a == b && decide (xs = ys)) = r;have fin : ∀ (r' : Bool) hp nx, r' = r → QFun X (Tryz.f15).results.toList 0 (.bool r) [] .ret ⟨[(4, .bool r')], hp, nx⟩ := fun r' hp nx hr => by
  rw [hr];exact (qabu (s' := ⟨[(4, .bool r)], [], 0⟩) (qabl [] hm rfl (Nat.le_refl _) (by simp -implicitDefEqProofs []) trivial) rfl trivial (by simp))
 unfold c_shit;refine qabb (qaab ?_);simp -implicitDefEqProofs [qatm, qacc, nums];refine qabb (qaab ?_);rw [hP];cases k1 : a == b
 ·simp -implicitDefEqProofs [qamt, k1];exact qaba (fin _ _ _ (by rw [← hr, k1]; rfl))
 ·simp -implicitDefEqProofs [qamt, k1];refine qabe (qaff _ _ hx _) ?_;simp -implicitDefEqProofs [];exact qaba (fin _ _ _ (by rw [← hr, k1, Bool.true_and]))
def qaja (n k : Int) : Bool := decide (n > if k ≤ 64 then 2 ^ k.toNat - 1 else 0)
theorem qayq (n k : Int) : SCalls Tryz.prog 51 [.int .u64 n, .int .i64 k] [] 0 (.bool (qaja n k)) [] := by
 refine yG (N := 9) Tryz.func51 c_wide ⟨rfl, rfl, trivial⟩ trivial ?_;rintro X hP hN hm;unfold c_wide;refine qabb (qaab ?_);simp -implicitDefEqProofs [qath];refine qabb (qaab ?_);rw [hP];simp -implicitDefEqProofs [qatg];refine qabe (yQ (qbl7 k) _) ?_;simp -implicitDefEqProofs [];exact qaba (qabu (s' := ⟨[(4, .bool (qaja n k))], [], 0⟩) (qabl [] hm rfl (Nat.le_refl _) (by simp -implicitDefEqProofs [qaja]) trivial) rfl trivial (by simp))
theorem hitOf_s (e : Entry) : SCalls Tryz.prog 20 [.agg (qaaa e)] [] 0 (.agg (qacc e.act e.args)) [] := by
 refine yG (N := 8) Tryz.func20 qbkp ⟨rfl, trivial⟩ trivial ?_;rintro X hP hN hm;unfold qbkp;refine qabb (qaab ?_);simp -implicitDefEqProofs [qapr, qaaa, nums];refine qabb (qaab ?_);simp -implicitDefEqProofs [qapq];refine qaba (qabu (s' := ⟨[(2, .ptr 0 0)], [(0, .cells 46 (qacc e.act e.args))], 1⟩) (qabl [(0, 1)] hm rfl (Nat.zero_le _) (by simp -implicitDefEqProofs []) (by simp -implicitDefEqProofs [qacc, nums])) ?_ trivial (by simp));simp -implicitDefEqProofs [hP, qafc, resL, resV, show qag8 Tryz.prog 46 = some true from by kernel_rfl, show qab8 Tryz.prog 46 = some 2 from by kernel_rfl, one_, qacc, nums]
end
def qacf : List Int → List Int → Bool
 | x :: xs, k :: ks => qaja x k || qacf xs ks
 | _, _ => false
def actW (acts : List ActD) (k : Int) : List Int := ((acts[k.toNat]?).map ActD.w).getD []
def qaec (tacts : List Int) (acts : List ActD) (act : Int) (args : List Int) : Int :=
 if tacts.contains act then (if args.length ≠ (actW acts act).length then 2 else if qacf args (actW acts act) then 6 else 0) else 5
def wOut (k : Int) : Bool := decide (k < 1) || decide (48 < k)
def aOut (n : Nat) (a : Int) : Bool := decide (a < 0) || decide ((n : Int) ≤ a)
def qadf (t : TabD) (ws : List Int) (acts : List ActD) : Int :=
 if t.kind < 1 ∨ 3 < t.kind then 5
 else if ws.length < 1 ∨ 3 < ws.length ∨ (t.kind = 2 ∧ 1 < ws.length) ∨ t.acts.length < 1 ∨ 4 < t.acts.length then 2
 else if t.cap < 0 ∨ 16 < t.cap then 1
 else if ws.any wOut then 6
 else if t.acts.any (aOut acts.length) then 1
 else qaec t.acts acts t.def_ t.args
theorem qamw {α : Type} (f : α → Bool) {l : List α} {i : Nat} (hi : i < l.length) : (l.drop i).any f = (f l[i] || (l.drop (i + 1)).any f) := by
 rw [List.drop_eq_getElem_cons hi]; rfl
section
def RE (a b : Prop) : Prop := a = b
theorem RE.refl (a : Prop) : RE a a := rfl
def Z2 (a b : Prop) : Prop := a ∧ b
def ZI (p a : Prop) : Prop := p → a
theorem yB {a b : Prop} (x : a) (y : b) : Z2 a b := ⟨x, y⟩
theorem yC {p a : Prop} (f : p → a) : ZI p a := f
theorem zE {a g h : Prop} (f : a → g) (e : RE a h) : h → g := fun z => f (by rw [show a = h from e]; exact z)
variable {X : Cx} {s s' : SSt} {Q : SExit → SSt → Prop} {σ : Nat → Nat} {sl : Sl} {hp : Hp} {P : Program} {os : List SOper} {tr : List Tch} {R : SSt → List Tch → Prop}
theorem zcond {c : SX} {x y : SCode} {b : Bool} (hb : c.ev s.sl = .bool b) (h : Z2 (ZI (b = true) (SWp X x Q s)) (ZI (b = false) (SWp X y Q s))) : SWp X (.cond c x y) Q s := qaap hb h.1 h.2
theorem zgrd {o : SOper} {b want : Bool} (h : Z2 (ZI (b = true) (qam3 P (.bool true) want o os s tr R)) (ZI (b = false) (qam3 P (.bool false) want o os s tr R))) : qam3 P (.bool b) want o os s tr R := qacn h.1 h.2
theorem zdrw {l : List (SOper × Tch)} {p : Prop} (h : qakj l = true) : p → qakj l = true ∧ p := fun hp => ⟨h, hp⟩
theorem zrd {ops : List SOper} {live : List Nat} {P : Program} (hP : X.P = P) (hm : P.follows .mixedOrders = true) (h : SOps X.P ops s [] fun s' tr => qakj (ops.zip tr.reverse) = true ∧ Q .normal (s'.keep live)) : SWp X (.reg true ops live) Q s := qaaz (by rw [hP]; exact hm) h
theorem zrg {c : Prop} {hd : Decidable c} {r : Option (SV × Upd × Nat)} {dst : Option Nat} {t : List Nat} {h : Prop} (hc : c) (e : RE (qbir P r dst t os s tr R) h) : h → qbir P (@rg _ c hd r) dst t os s tr R := fun z => qafm hc ((show qbir P r dst t os s tr R = h from e) ▸ z)
theorem zs0 (h : SOps P os s tr R) : SOps P os s tr R := h
theorem zs1 {v : SV} {want : Bool} {o : SOper} (h : qam3 P v want o os s tr R) : qam3 P v want o os s tr R := h
theorem zs2 {r : Option (SV × Upd × Nat)} {dst : Option Nat} {t : List Nat} (h : qbir P r dst t os s tr R) : qbir P r dst t os s tr R := h
theorem yA {g h : Prop} (k : h) (f : h → g := by
 first
 | (with_reducible first | exact zA | exact qabg | exact qam5)
 | ((with_reducible apply zdrw); with_unfolding_all rfl)
 | ((with_reducible first | apply zE qaab | apply zE (zrd hP mixed)); (try rw [hP]); simp -implicitDefEqProofs [*]; exact RE.refl _)
 | ((with_reducible first | apply zE qaai | apply zE qabv); (try simp -implicitDefEqProofs [*]); exact RE.refl _)
 | ((with_reducible apply zE qaba); (try simp only [qaa2, qaac, qaaj]); exact RE.refl _)
 | (with_reducible exact zcond rfl)
 | ((with_reducible first | apply zE zs0 | apply zE zs1 | apply zE zs2); simp -implicitDefEqProofs [*]; exact RE.refl _)
 | ((with_reducible apply zrg); (focus (first | omega | (unfold maxLen; omega))); (try simp -implicitDefEqProofs [*]); exact RE.refl _)
 | (with_reducible first | exact zgrd | exact zM hm | exact zN hm | exact zO hm | exact zP hm)) : g := f k
theorem zl {t : Nat} {v : SV} {r : Sl} (h : Z2 (Co (gets sl t) (ren σ v)) (SlotsM σ sl r)) : SlotsM σ sl ((t, v) :: r) := h
theorem zo {i : Nat} {t : TypeId} {cs ds : List SV} {r : Hp} (e : geth hp (σ i) = some (.cells t cs)) (h : Z2 (CoL cs (ds.map (ren σ))) (ObjsM σ hp r)) : ObjsM σ hp ((i, .cells t ds) :: r) := qakw e h.1 h.2
theorem zor {i e z : Nat} {es fs : List (List SV)} [PureR fs] {r : Hp} (h : geth hp (σ i) = some (.row e z es)) (h3 : Z2 (es = fs) (ObjsM σ hp r)) : ObjsM σ hp ((i, .row e z fs) :: r) := qajt h h3.1 h3.2
theorem zoq {i e z : Nat} {es fs : List (List SV)} [PureR fs] {r : Hp} (h : geth hp (σ i) = some (.row e z es)) (h3 : es = fs) (g : ObjsM σ hp r) : ObjsM σ hp ((i, .row e z fs) :: r) := qajt h h3 g
theorem zoc {i e z : Nat} {es fs : List (List SV)} {r : Hp} (h : geth hp (σ i) = some (.row e z es)) (h3 : Z2 (CoLL es (fs.map (·.map (ren σ)))) (ObjsM σ hp r)) : ObjsM σ hp ((i, .row e z fs) :: r) := qa0g h h3.1 h3.2
theorem zlc {x y : SV} {xs ys : List SV} (h : Z2 (Co x y) (CoL xs ys)) : CoL (x :: xs) (y :: ys) := h
theorem zlm {f : SV → SV} {x y : SV} {xs ys : List SV} (h : Z2 (Co x (f y)) (CoL xs (ys.map f))) : CoL (x :: xs) ((y :: ys).map f) := h
theorem zw {m : Nat} (hm : X.m = m) (h : Z2 (SlotsM (rn ([] ++ diag m [] s'.hp) s.nx) s.sl s'.sl) (Z2 (ObjsM (rn ([] ++ diag m [] s'.hp) s.nx) s.hp s'.hp) (Z2 (qabc m s'.nx ([] ++ diag m [] s'.hp) s'.hp = true) (m ≤ s'.nx)))) : Wk X s s' := qabd [] hm h.1 h.2.1 h.2.2.1 h.2.2.2
theorem zcw {a b c : Int} (h1 : -9223372036854775808 ≤ a + b ∧ a + b ≤ 9223372036854775807) (h : a + b = c) : Co (.int .i64 (IntKind.i64.wrap (a + b))) (.int .i64 c) := co_wrap h1 h
theorem yD {g : Prop} (k : g := by
 first
 | (with_reducible first | exact qaep | exact qafr | exact qblc | exact qbne | exact Co.refl _ | exact CoL.refl _ | exact CoLL.refl _)
 | ((with_reducible first | refine zga ?_ | refine zgb ?_); rfl)
 | ((with_reducible refine zgc ?_); (first | (with_reducible rfl) | rfl | (simp; done)))
 | ((with_reducible first | refine zgd ?_ | refine zge ?_); (first | omega | (simp; done)))
 | (refine zcw ⟨?_, ?_⟩ ?_ <;> omega)
 | exact Co.refl _
 | exact CoL.refl _
 | exact CoLL.refl _
 | (refine qabz ?_; omega)
 | (refine qabw ?_; first | omega | (simp_all; done))) : g := k
theorem yE {g h : Prop} (k : h) (f : h → g := by
 first
 | ((with_reducible apply zE (zw hm)); (try simp only [zT, puth, Nat.reduceEqDiff, reduceIte, Nat.reduceAdd]); exact RE.refl _)
 | (with_reducible exact zl)
 | exact zo (by rfl)
 | exact zoq (by rfl) (by first | (with_reducible rfl) | rfl | (simp; done))
 | exact zor (by rfl)
 | exact zoc (by rfl)
 | exact qamc (by rfl)
 | exact qa95 (by rfl)
 | (with_reducible first | exact zlc | exact zlm)) : g := f k
end
section
attribute [local simp] qaa6 qaa5 qaak qaas qaal qaar qaa3 qaa4 qaae qabh SOp.run SX.ev putd puts argS upds SOp.touch SSt.keep SSt.skip gets geth puth delh idOf SV.cells? setL qac5 qac6 sbin eq0 eq1 eqL qac2 qaby qab0 qaa2 qaa1 qaac qaa7 qabi qaaj qaad FrzOk qaav qaan qaat qaau qaaf qaam qaa8 qaao qaah qaaw qaag frzS frzH frz frz1 frz0 SlotsM ObjsM ObjM rn ren ren1 ren0 qabk qabw qabz qabj qaa9 qabx qab1 CoL qaax qabr dels adds idsH qabc
section
attribute [local simp] nums
theorem qaue : qag8 Tryz.prog 34 = some true := by kernel_rfl
theorem qam8 : qab8 Tryz.prog 34 = some 2 := by kernel_rfl
theorem fin_tc {X : Cx} {sl : Sl} {hp : Hp} {t u nx id n : Nat} {ty : TypeId} {cs ds : List SV} {v v' r : SV} (hm : X.m = 0) (hne : t ≠ u) (hv : gets sl t = v') (hvv : v' = v) (hN : NoN v) (hu : gets sl u = .ptr id 0) (h : geth hp id = some (.cells ty cs)) (ha : qag8 X.P ty = some true) (hn : qab8 X.P ty = some n) (hl : ds.length = n) (e : CoL cs ds) (hr : r = .tup [v, .agg ds]) (hd : ∀ σ, ds.map (Go.Proofs.YtalejfkholifpaaGreat.ren σ) = ds) : QFun X [.tmp t, .cell u ty] 0 r [] .ret ⟨sl, hp, nx⟩ := by
 subst hr hl hvv;have hw : Wk X ⟨sl, hp, nx⟩ ⟨[(t, v'), (u, .ptr 0 0)], [(0, .cells ty ds)], 1⟩ := by
  refine qabd [(0, id)] hm ⟨?_, ?_, trivial⟩ ⟨⟨_, h, rfl, by rw [hd]; exact e⟩, trivial⟩ rfl (by simp)
  ·rw [hv, hN]; exact Co.refl _
  ·rw [hu]; exact Co.refl _
 refine ⟨_, hw, ?_, trivial, by simp⟩;simp [qafc, resL, resV, one_, gets, ha, hn, SOp.run, SX.ev, geth, hne]
end
end
abbrev qaww : List SOper := [Oa 3 (.box 26 (.t 0)), Ka 6 0]
abbrev qawv : List SOper := [Fa 12 0 3, La 13 12, Ca 14 .neq 13 1, Ma 15 14, Oe 16 (Pf 0 3) 15 true, Oe 17 (Pa 16) 15 true, Oe 18 (Pc .neq 17 2) 15 true, Ua 19 15 18, Ma 20 19, Oe 21 (Pf 0 3) 20 true, Oe 22 (Pa 21) 20 true, Oe 23 (Pc .neq 22 3) 20 true, Ua 24 20 23, Ma 11 24]
abbrev qawu : List SOper := [Ka 6 5]
abbrev qawt : List SOper := [Ma 26 1, Na 27 26, Ca 28 .eql 27 0, Ma 29 28, Oe 30 (Pm 1) 29 false, Oe 31 (Pn 30) 29 false, Oe 32 (Pc .gtr 31 3) 29 false, Ta 33 29 32, Ma 34 33, Oe 35 (Pf 0 3) 34 false, Oe 36 (Pa 35) 34 false, Oe 37 (Pc .eql 36 2) 34 false, Oe 38 (Pm 37) 34 false, Oe 39 (Pm 1) 38 true, Oe 40 (Pn 39) 38 true, Oe 41 (Pc .neq 40 1) 38 true, Oe 42 (Pu 38 41) 34 false, Ta 43 34 42, Ma 44 43, Oe 45 (Pf 2 3) 44 false, Oe 46 (Pa 45) 44 false, Oe 47 (Pn 46) 44 false, Oe 48 (Pc .eql 47 0) 44 false, Ta 49 44 48, Ma 50 49, Oe 51 (Pf 2 3) 50 false, Oe 52 (Pa 51) 50 false, Oe 53 (Pn 52) 50 false, Oe 54 (Pc .gtr 53 4) 50 false, Ta 55 50 54, Ma 25 55]
abbrev qaws : List SOper := [Ka 6 2]
abbrev qawr : List SOper := [Fa 57 3 3, La 58 57, Ca 59 .lss 58 0, Ma 60 59, Oe 61 (Pf 3 3) 60 false, Oe 62 (Pa 61) 60 false, Oe 63 (Pc .gtr 62 16) 60 false, Ta 64 60 63, Ma 56 64]
abbrev qawq : List SOper := [Ka 6 1]
abbrev qawp : List SOper := [Ma 65 1, Na 66 65, Ka 67 0]
abbrev qawo : List SOper := [Ba 68 .lss 67 66]
abbrev qarw : List SOper := [Ia 69 1 65 67, La 70 69, Ma 8 70]
abbrev qarv : List SOper := [Ma 71 8, Ca 72 .lss 71 1, Ma 73 72, Oe 74 (Pm 8) 73 false, Oe 75 (Pc .gtr 74 48) 73 false, Ta 76 73 75]
abbrev qaru : List SOper := [Ka 6 6]
abbrev qart : List SOper := [Ca 77 .add 67 1, Ma 67 77]
def qale : SCode := (Sf qawo [2, 3, 65, 66, 67, 68] (.seq (Ce 68 1) (.seq (.block 2 (Sf qarw [2, 3, 8, 65, 66, 67] (Sf qarv [2, 3, 65, 66, 67, 76] (Cn 76 (Sf qaru [6] .ret) .skip)))) (Rf qart [2, 3, 65, 66, 67]))))
abbrev qars : List SOper := [Fa 78 2 3, La 79 78, Na 80 79, Ka 81 0]
abbrev qarr : List SOper := [Ba 82 .lss 81 80]
abbrev qarq : List SOper := [Ia 83 1 79 81, La 84 83, Ma 10 84]
abbrev qarp : List SOper := [Ma 85 10, Ca 86 .lss 85 0, Ma 87 86, Oe 88 (Pm 10) 87 false, Oe 89 (Pm 2) 87 false, Oe 90 (Pn 89) 87 false, Oe 91 (Pb .geq 88 90) 87 false, Ta 92 87 91]
abbrev qaro : List SOper := [Ka 6 1]
abbrev qarn : List SOper := [Ca 93 .add 81 1, Ma 81 93]
def qald : SCode := (Sf qarr [2, 3, 79, 80, 81, 82] (.seq (Ce 82 3) (.seq (.block 4 (Sf qarq [2, 3, 10, 79, 80, 81] (Sf qarp [2, 3, 79, 80, 81, 92] (Cn 92 (Sf qaro [6] .ret) .skip)))) (Rf qarn [2, 3, 79, 80, 81]))))
abbrev qarm : List SOper := [Sa 94 6 3, Ma 95 2, Fa 96 4 3, La 97 96, Fa 98 5 3, La 99 98, Qc 100 37 [94, 95, 97, 99], Ma 6 100]
def qa3n : SCode := (Sf qaww [1, 2, 3] (.seq (.block 0 (Sf qawv [1, 2, 3, 11] (Cn 11 (Sf qawu [6] .ret) (Sf qawt [1, 2, 3, 25] (Cn 25 (Sf qaws [6] .ret) (Sf qawr [1, 2, 3, 56] (Cn 56 (Sf qawq [6] .ret) .skip))))))) (.seq (Sf qawp [2, 3, 65, 66, 67] (Bl 1 qale)) (.seq (Sf qars [2, 3, 79, 80, 81] (Bl 3 qald)) (Sf qarm [6] .ret)))))
abbrev qbe5 : List SOper := [Oa 4 (.box 26 (.t 0)), Ka 8 0]
abbrev qbe4 : List SOper := [Fa 12 2 4, La 13 12, Ma 14 2, Qc 15 48 [13, 14], Oa 16 (.un .not (.t 15))]
abbrev qbe3 : List SOper := [Ka 8 5]
abbrev qbe2 : List SOper := [Ma 17 1, Ma 18 2, Ia 19 2 17 18, Fa 20 0 19, La 21 20, Ma 9 21]
abbrev qbe1 : List SOper := [Ma 22 3, Na 23 22, Ma 24 9, Na 25 24, Ba 26 .neq 23 25]
abbrev qbe0 : List SOper := [Ka 8 2]
abbrev qbez : List SOper := [Ma 27 3, Na 28 27, Ka 29 0]
abbrev qbey : List SOper := [Ba 30 .lss 29 28]
abbrev qbex : List SOper := [Ma 31 29, Ia 32 1 27 29, La 33 32, Ma 10 31, Ma 11 33]
abbrev qa5g : List SOper := [Ma 34 11, Ma 35 9, Ma 36 10, Ia 37 1 35 36, La 38 37, Qc 39 49 [38], Ba 40 .gtr 34 39]
abbrev qa5f : List SOper := [Ka 8 6]
abbrev qa5e : List SOper := [Ca 41 .add 29 1, Ma 29 41]
def qatq : SCode := (Sf qbey [9, 27, 28, 29, 30] (.seq (Ce 30 0) (.seq (.block 1 (Sf qbex [9, 10, 11, 27, 28, 29] (Sf qa5g [9, 27, 28, 29, 40] (Cn 40 (Sf qa5f [8] .ret) .skip)))) (Rf qa5e [9, 27, 28, 29]))))
abbrev qa5d : List SOper := [Ka 8 0]
def c_says : SCode := (Sf qbe5 [1, 2, 3, 4] (.seq (Sf qbe4 [1, 2, 3, 16] (Cn 16 (Sf qbe3 [8] .ret) .skip)) (Sf qbe2 [3, 9] (.seq (Sf qbe1 [3, 9, 26] (Cn 26 (Sf qbe0 [8] .ret) .skip)) (.seq (Sf qbez [9, 27, 28, 29] (Bl 0 qatq)) (Sf qa5d [8] .ret))))))
abbrev qap0 : List SOper := [Oa 4 (.mv (.c (.bool false)))]
abbrev qapz : List SOper := [Ma 5 0, Ma 6 1, Qc 7 57 [5, 6], Ca 8 .geq 7 0, Ma 4 8]
def qap1 : SCode := (Sf qap0 [0, 1] (Sf qapz [4] .ret))
abbrev qa76 : List SOper := [Ka 4 0]
abbrev qa75 : List SOper := [Ma 6 0, Na 7 6, Ka 8 0]
abbrev qa74 : List SOper := [Ba 9 .lss 8 7]
abbrev qa73 : List SOper := [Ma 10 8, Ma 5 10]
abbrev qa72 : List SOper := [Ma 11 1, Ma 12 0, Ma 13 5, Ia 14 1 12 13, La 15 14, Ba 16 .eql 11 15]
abbrev qa71 : List SOper := [Ma 17 5, Ma 4 17]
abbrev qa70 : List SOper := [Ca 18 .add 8 1, Ma 8 18]
def qapo : SCode := (Sf qa74 [0, 1, 7, 8, 9] (.seq (Ce 9 0) (.seq (.block 1 (Sf qa73 [0, 1, 5, 7, 8] (Sf qa72 [0, 1, 5, 7, 8, 16] (Cn 16 (Sf qa71 [4] .ret) .skip)))) (Rf qa70 [0, 1, 7, 8]))))
abbrev qa7z : List SOper := [Oa 4 (.mv (.c (.int .i64 (-1))))]
def qbkn : SCode := (Sf qa76 [0, 1] (.seq (Sf qa75 [0, 1, 7, 8] (Bl 0 qapo)) (Sf qa7z [4] .ret)))
section
attribute [local simp] qaa6 qaa5 qaak qaas qaal qaar qaa3 qaa4 qaae qabh SOp.run SX.ev putd puts argS upds SOp.touch SSt.keep SSt.skip gets geth puth delh idOf SV.cells? setL qac5 qac6 sbin eq0 eq1 eqL qac2 qaby qab0 qaa2 qaa1 qaac qaa7 qabi qaaj qaad FrzOk qaav qaan qaat qaau qaaf qaam qaa8 qaao qaah qaaw qaag frzS frzH frz frz1 frz0 SlotsM ObjsM ObjM rn ren ren1 ren0 qabk qabw qabz qabj qaa9 qabx qab1 CoL qaax qabr dels adds idsH qabc
section
instance : PureF refc := ⟨fun _ _ => rfl, fun _ => rfl, fun _ => qab4 _ rfl⟩
instance : PureF qaz1 := ⟨fun _ _ => rfl, fun _ => rfl, fun _ => qab4 _ rfl⟩
instance : PureF qa9x := ⟨fun _ _ => rfl, fun _ => rfl, fun _ => qab4 _ rfl⟩
instance : PureF qa9y := ⟨fun _ _ => rfl, fun _ => rfl, fun _ => qab4 _ rfl⟩
instance : PureF qakg := ⟨fun _ _ => rfl, fun _ => rfl, fun _ => qab4 _ rfl⟩
instance : PureF opc := ⟨fun _ _ => rfl, fun _ => rfl, fun _ => qab4 _ rfl⟩
instance : PureF actc := ⟨fun _ _ => rfl, fun _ => rfl, fun _ => qab4 _ rfl⟩
instance : PureF tabc := ⟨fun _ _ => rfl, fun _ => rfl, fun _ => qab4 _ rfl⟩
instance : PureF qa9v := ⟨fun _ _ => rfl, fun _ => rfl, fun _ => qab4 _ rfl⟩
attribute [local simp] qa9x refc qaz1 qa9y qakg opc actc tabc qa9v qbam nums
def jc (p : PlanD) (a b : Int) : List SV := qbam p ++ [.int .i64 a, .int .i64 b]
attribute [local simp] jc
end
end
abbrev qbps : List SOper := [Oa 2 (.mv (.c .nilsl))]
abbrev qbpr : List SOper := [Ma 3 0, Oa 4 (.eq 2 false (.t 3) (.c .nilsl))]
abbrev qbpq : List SOper := [Oa 2 (.mv (.c .nilsl))]
abbrev qbpp : List SOper := [Oa 5 (.mkrow 3 1 0 [(.int .i64 0)] []), Ma 6 0, Oa 7 (.app 3 1 8 (.t 5) (.t 6)), Ma 2 7]
def qbqf : SCode := (Sf qbps [0] (.seq (Sf qbpr [0, 4] (Cn 4 (Sf qbpq [2] .ret) .skip)) (Sf qbpp [2] .ret)))
abbrev qbpo : List SOper := [Oa 2 (.mv (.c .nilsl))]
abbrev qbpn : List SOper := [Ma 3 0, Oa 4 (.eq 2 false (.t 3) (.c .nilsl))]
abbrev qbpm : List SOper := [Oa 2 (.mv (.c .nilsl))]
abbrev qbpl : List SOper := [Oa 5 (.mkrow 70 1 0 [(.int .u64 0)] []), Ma 6 0, Oa 7 (.app 70 1 8 (.t 5) (.t 6)), Ma 2 7]
def qbqe : SCode := (Sf qbpo [0] (.seq (Sf qbpn [0, 4] (Cn 4 (Sf qbpm [2] .ret) .skip)) (Sf qbpl [2] .ret)))
section
attribute [local simp] qaa6 qaa5 qaak qaas qaal qaar qaa3 qaa4 qaae qabh SOp.run SX.ev putd puts argS upds SOp.touch SSt.keep SSt.skip gets geth puth delh idOf SV.cells? setL qac5 qac6 sbin eq0 eq1 eqL qac2 qaby qab0 qaa2 qaa1 qaac qaa7 qabi qaaj qaad FrzOk qaav qaan qaat qaau qaaf qaam qaa8 qaao qaah qaaw qaag frzS frzH frz frz1 frz0 SlotsM ObjsM ObjM rn ren ren1 ren0 qabk qabw qabz qabj qaa9 qabx qab1 CoL qaax qabr dels adds idsH qabc
section
attribute [local simp] qa9x refc qaz1 qa9y qakg opc actc tabc qa9v qbam nums
theorem qak4 {X : Cx} {sl : Sl} {hp : Hp} {t nx id n e z : Nat} {es fs : List (List SV)} [PureR es] (hm : X.m = 0) (hu : gets sl t = .own id n) (h : geth hp id = some (.row e z es)) (hn : n = es.length) (hf : es = fs) : QFun X [.tmp t] 0 (.view z fs) [] .ret ⟨sl, hp, nx⟩ := by
 subst hf hn;have h1 : Wk X ⟨sl, hp, nx⟩ (SSt.frz ⟨sl, hp, nx⟩ [id]) := qbk4 [id] fun i o hi ho => by
  have : i = id := by simpa using hi
  subst this;rw [h] at ho; cases ho
  exact (qasr e z es).2 trivial
 have h2 : gets (frzS (geth hp) [id] sl) t = .view z es := by
  rw [qarb, hu]; simp [frz, frz1, frz0, h]
 refine ⟨⟨[(t, .view z es)], [], 0⟩, h1.trans (qabl [] hm rfl (Nat.zero_le _) ⟨?_, trivial⟩ trivial), by simp [qafc, resL, resV, one_, gets], trivial, by simp⟩;show Co (gets (frzS (geth hp) [id] sl) t) _;rw [h2]; exact Co.refl _
instance pureR_take (fs : List (List SV)) [PureR fs] (i : Nat) : PureR (fs.take i) := ⟨fun σ => by rw [List.map_take, PureR.ren], fun x hx => PureR.ok x (List.mem_of_mem_take hx), fun x hx => PureR.pure x (List.mem_of_mem_take hx)⟩
theorem qbk5 {α : Type} (f : α → List SV) {l : List α} {i : Nat} (hi : i ≤ l.length) : ((l.take i).map f).length = i := by simp; omega
theorem qa93 {α : Type} (f : α → List SV) {l : List α} {i : Nat} (hi : i < l.length) : (l.take i).map f ++ [f l[i]] = (l.take (i + 1)).map f := by
 rw [List.take_succ_eq_append_getElem hi, List.map_append]; rfl
end
instance pureR_nil : PureR [] := ⟨fun _ => rfl, fun x hx => (by cases hx), fun x hx => (by cases hx)⟩
theorem qbm7 {X : Cx} {sl : Sl} {hp : Hp} {t nx : Nat} {v r : SV} (hm : X.m = 0) (h : gets sl t = v) (hc : Co v r) (hv : NoN r) : QFun X [.tmp t] 0 r [] .ret ⟨sl, hp, nx⟩ := by
 refine ⟨⟨[(t, r)], [], 0⟩, qabl [] hm rfl (Nat.zero_le _) ⟨?_, trivial⟩ trivial, by simp [qafc, resL, resV, one_, gets], trivial, by simp⟩;show Co (gets sl t) (ren _ r);rw [h, hv]; exact hc
theorem cl1_nil : SCalls Tryz.prog 31 [.nilsl] [] 0 (.view 1 []) [] := by
 refine yF (N := 8) Tryz.func31 qbqf ?_;rintro X hP hN hm;unfold qbqf;repeat' (first | refine yA ?_ | with_reducible refine yB ?_ ?_ | ((with_reducible refine yC fun h => ?_); have h' := h; (try simp at h'); (try subst h')) | (refine qbm7 hm rfl (Co.nilsl _) (qaqy _ _)) | exact trivial)
theorem cl1_mt : SCalls Tryz.prog 31 [.mt] [] 0 (.view 1 []) [] := by
 refine yF (N := 8) Tryz.func31 qbqf ?_;rintro X hP hN hm;unfold qbqf;repeat' (first | refine yA ?_ | with_reducible refine yB ?_ ?_ | ((with_reducible refine yC fun h => ?_); have h' := h; (try simp at h'); (try subst h')) | (refine qak4 (es := []) hm rfl rfl ?_ rfl) | exact trivial)
 all_goals rfl
theorem cl1_s (es : List (List SV)) [PureR es] (hl : es.length ≤ 1000000) (hz : ∀ e ∈ es, e.length = 1) (q : Nat) : SCalls Tryz.prog 31 [.view 1 es] [] q (.view 1 es) [] := by
 rcases es with _ | ⟨e, es⟩
 ·exact qag1 (qabt cl1_nil (fun _ => rfl) (fun _ => rfl) rfl q) (qabt cl1_mt (fun _ => rfl) (fun _ => rfl) rfl q)
 ·refine qabt ?_ (fun _ => rfl) (fun _ => rfl) rfl q;refine yF (N := 8) Tryz.func31 qbqf ?_;rintro X hP hN hm;have hb : (e :: es).length ≤ maxLen := by unfold maxLen; omega
  simp only [List.length_cons] at hl hb;unfold qbqf;repeat' (first | refine yA ?_ | with_reducible refine yB ?_ ?_ | ((with_reducible refine yC fun h => ?_); have h' := h; (try simp at h'); (try subst h')) | (refine qak4 (es := e :: es) hm rfl rfl ?_ rfl) | exact trivial)
  all_goals simp
theorem cl5_nil : SCalls Tryz.prog 32 [.nilsl] [] 0 (.view 1 []) [] := by
 refine yF (N := 8) Tryz.func32 qbqe ?_;rintro X hP hN hm;unfold qbqe;repeat' (first | refine yA ?_ | with_reducible refine yB ?_ ?_ | ((with_reducible refine yC fun h => ?_); have h' := h; (try simp at h'); (try subst h')) | (refine qbm7 hm rfl (Co.nilsl _) (qaqy _ _)) | exact trivial)
theorem cl5_mt : SCalls Tryz.prog 32 [.mt] [] 0 (.view 1 []) [] := by
 refine yF (N := 8) Tryz.func32 qbqe ?_;rintro X hP hN hm;unfold qbqe;repeat' (first | refine yA ?_ | with_reducible refine yB ?_ ?_ | ((with_reducible refine yC fun h => ?_); have h' := h; (try simp at h'); (try subst h')) | (refine qak4 (es := []) hm rfl rfl ?_ rfl) | exact trivial)
 all_goals rfl
theorem cl5_s (es : List (List SV)) [PureR es] (hl : es.length ≤ 1000000) (hz : ∀ e ∈ es, e.length = 1) (q : Nat) : SCalls Tryz.prog 32 [.view 1 es] [] q (.view 1 es) [] := by
 rcases es with _ | ⟨e, es⟩
 ·exact qag1 (qabt cl5_nil (fun _ => rfl) (fun _ => rfl) rfl q) (qabt cl5_mt (fun _ => rfl) (fun _ => rfl) rfl q)
 ·refine qabt ?_ (fun _ => rfl) (fun _ => rfl) rfl q;refine yF (N := 8) Tryz.func32 qbqe ?_;rintro X hP hN hm;have hb : (e :: es).length ≤ maxLen := by unfold maxLen; omega
  simp only [List.length_cons] at hl hb;unfold qbqe;repeat' (first | refine yA ?_ | with_reducible refine yB ?_ ?_ | ((with_reducible refine yC fun h => ?_); have h' := h; (try simp at h'); (try subst h')) | (refine qak4 (es := e :: es) hm rfl rfl ?_ rfl) | exact trivial)
  all_goals simp
def qajc (s : TStep) : List SV := .int .i64 s.d :: qaaa s.e
def qafi (l : List TStep) : SV := .view 7 (l.map qajc)
def bigE (e : Entry) : Bool := decide (e.keys.length > 20) || (decide (e.masks.length > 20) || decide (e.args.length > 20))
def bigS (l : List TStep) : Bool := decide (l.length > 200) || l.any fun s => bigE s.e
theorem great_s (l : List TStep) : SCalls Tryz.prog 8 [qafi l] [] 0 (.bool (bigS l)) [] := by
 refine yG (N := 41) Tryz.func8 qbkr ⟨rfl, trivial⟩ trivial ?_;rintro X hP hN hm;generalize hr : bigS l = r;have fin : ∀ (r' : Bool) hp nx, r' = r → QFun X (Tryz.f8).results.toList 0 (.bool r) [] .ret ⟨[(2, .bool r')], hp, nx⟩ := fun r' hp nx hr => by
  rw [hr];exact (qabu (s' := ⟨[(2, .bool r)], [], 0⟩) (qabl [] hm rfl (Nat.le_refl _) (by simp -implicitDefEqProofs []) trivial) rfl trivial (by simp))
 unfold qbkr qafi;refine qabb (qaab ?_);simp -implicitDefEqProofs [qapx];refine qabb (qabb (qaab ?_));simp -implicitDefEqProofs [qapw];refine qaap rfl (fun h => ?_) (fun h => ?_)
 ·refine qabb (qaab ?_);simp -implicitDefEqProofs [qapv];refine qaba (fin _ _ _ ?_);have : l.length > 200 := by simp at h; omega
  rw [← hr]; simp [bigS, this]
 ·have h200 : l.length ≤ 200 := by simp at h; omega
  refine qaai ?_;simp -implicitDefEqProofs [];refine qabb (qabb (qaab ?_));simp -implicitDefEqProofs [qapu];refine qabf (qadm (fun s n => ∃ i : Nat, s = ⟨[(0, qafi l), (3, .int .i64 i)], [], 0⟩ ∧ i ≤ l.length ∧ (∀ j s, j < i → l[j]? = some s → bigE s.e = false) ∧ n = l.length - i) (qabl [] hm rfl (Nat.le_refl _) (by simp -implicitDefEqProofs [qafi]) (by trivial)) ⟨0, rfl, by omega, by intro j s hj; omega, rfl⟩ ?_);rintro s n ⟨i, rfl, h1, h2, rfl⟩;unfold qapy;refine qabb (qabb (qaab ?_));simp -implicitDefEqProofs [qapt, qafi];refine qaap rfl (fun h3 => qaai ?_) (fun h3 => qabv ?_)
  ·have hi : i < l.length := by simpa using h3
   simp -implicitDefEqProofs [];refine qabb (qabf (qabb (qaab ?_)));have yes : bigE l[i].e = true → bigS l = true := fun hb => by
    simp only [bigS, Bool.or_eq_true];exact .inr (List.any_eq_true.2 ⟨l[i], List.getElem_mem hi, hb⟩)
   have step : ∀ b hp nx, bigE l[i].e = b → SWp X ((SCode.cond (.t 40) (SCode.seq (.reg false qakb [2]) .ret) .skip)) (qakd 1 (QSeq X (.reg false qaka [0, 3]) (qbk0 X (fun s n => ∃ i : Nat, s = ⟨[(0, qafi l), (3, .int .i64 i)], [], 0⟩ ∧ i ≤ l.length ∧ (∀ j s, j < i → l[j]? = some s → bigE s.e = false) ∧ n = l.length - i) (l.length - i) (qakd 0 (QSeq X (SCode.seq (.reg false qaj9 [2]) .ret) (QFun X [ResultVar.tmp 2] 0 (.bool r) []))))))
     ⟨[(0, .view 7 (l.map qajc)), (3, .int .i64 i), (40, .bool b)], hp, nx⟩ := by
    intro b hp nx hb;cases b with
    | true =>
     refine qaap rfl (fun _ => ?_) (by simp);refine qabb (qaab ?_);simp -implicitDefEqProofs [qakb];refine qaba (fin _ _ _ ?_);rw [← hr, yes hb]
    | false =>
     refine qaap rfl (by simp) (fun _ => qaai ?_);simp -implicitDefEqProofs [];refine qaab ?_;simp -implicitDefEqProofs [qaka];rw [qabo (by omega) (by omega)];refine qab3 (qabl [] hm rfl (Nat.zero_le _) (by simp -implicitDefEqProofs [qafi]) (by trivial)) ⟨i + 1, rfl, by omega, ?_, rfl⟩ (by omega);intro j s hj hs;rcases Nat.lt_or_ge j i with e | e
     ·exact h2 j s e hs
     ·obtain rfl : j = i := by omega
      rw [List.getElem?_eq_getElem hi] at hs; cases hs; exact hb
   cases k1 : decide ((20 : Int) < (l[i].e.keys.length : Int))
   ·cases k2 : decide ((20 : Int) < (l[i].e.masks.length : Int))
    ·simp -implicitDefEqProofs [qahz, hi, qajc, qaaa, nums, k1, k2];refine step _ _ _ ?_;have e1 : ¬ (l[i].e.keys.length > 20) := by simp at k1; omega
     have e2 : ¬ (l[i].e.masks.length > 20) := by simp at k2; omega
     simp only [bigE, decide_eq_false e1, decide_eq_false e2, Bool.false_or];apply Bool.eq_iff_iff.2; simp; omega
    ·simp -implicitDefEqProofs [qahz, hi, qajc, qaaa, nums, k1, k2];refine step _ _ _ ?_;have e2 : l[i].e.masks.length > 20 := by simp at k2; omega
     simp [bigE, e2]
   ·simp -implicitDefEqProofs [qahz, hi, qajc, qaaa, nums, k1];refine step _ _ _ ?_;have e1 : l[i].e.keys.length > 20 := by simp at k1; omega
    simp [bigE, e1]
  ·have hi : i = l.length := by have : ¬ i < l.length := by simpa using h3
                                omega
   subst hi;simp -implicitDefEqProofs [];refine qabb (qaab ?_);simp -implicitDefEqProofs [qaj9];refine qaba (fin _ _ _ ?_);rw [← hr];simp only [bigS, Bool.false_eq, Bool.or_eq_false_iff];refine ⟨by simp; omega, List.any_eq_false.2 fun s hs => ?_⟩;obtain ⟨j, hj⟩ := List.getElem?_of_mem hs;rw [h2 j s (List.getElem?_eq_some_iff.1 hj).1 hj]; simp
def hround (z : Int × Int) : Int × Int := (IntKind.u64.wrap (bits .xor .u64 z.1 (bits .and .u64 z.2 255) * 1099511628211), z.2 / 2 ^ min 8 IntKind.u64.bits)
def hrep : Nat → Int × Int → Int × Int
 | 0, z => z
 | n + 1, z => hrep n (hround z)
def hashL : List Int → Int → Int
 | [], h => h
 | x :: xs, h => hashL xs (hrep 8 (h, x)).1
def hashV (xs : List Int) : Int := hashL xs 14695981039346656037
def qagv (N : Nat) (xs : List Int) : Nat := (hashV xs / 2 ^ min 32 IntKind.u64.bits).toNat % N
theorem u64_nn2 (x : Int) : 0 ≤ IntKind.u64.wrap x := by
 simp [IntKind.wrap, IntKind.bits, IntKind.signed]; omega
theorem qbjp : ∀ n (z : Int × Int), 0 ≤ z.1 → 0 ≤ (hrep n z).1
 | 0, z, h => h
 | n + 1, z, h => qbjp n _ (u64_nn2 _)
theorem qa06 : ∀ xs h, 0 ≤ h → 0 ≤ hashL xs h
 | [], h, hh => hh
 | x :: xs, h, hh => qa06 xs _ (qbjp 8 _ hh)
theorem qbmz (xs : List Int) : 0 ≤ hashV xs := qa06 xs _ (by decide)
def xsc : Option XSlot → List SV
 | none => [.bool false, .nilsl, .int .i64 0, .nilsl]
 | some s => [.bool true, nums .u64 s.keys, .int .i64 s.act, nums .u64 s.args]
instance : PureF xsc := ⟨fun σ x => by cases x <;> rfl, fun x => by cases x <;> rfl, fun x => by cases x <;> exact qab4 _ rfl⟩
def qbk2 (k m : Int) (S : XTab) : List SV := [.int .i64 k, .int .i64 m, .int .i64 (cnt S), .view 4 (S.map xsc)]
theorem qbiw (k m : Int) (n : Nat) (S : XTab) (hS : 0 < S.length ∧ S.length ≤ 1048576) (xs : List Int) (hx : xs.length ≤ 1000000) (q : Nat) : SCalls Tryz.prog 93 [.cp [.int .i64 k, .int .i64 m, .int .i64 n, .view 4 (S.map xsc)], nums .u64 xs] [] q (.int .i64 (qagv S.length xs)) [] := by
 refine qabt ?_ (fun _ => rfl) (fun _ => rfl) rfl q;obtain ⟨F, hF⟩ : ∃ F, F = hashV xs := ⟨_, rfl⟩
 have hFn : 0 ≤ F := by rw [hF]; exact qbmz xs
 have hH : qagv S.length xs = (F / 2 ^ min 32 IntKind.u64.bits).toNat % S.length := by unfold qagv; rw [hF]
 rw [hH];clear hH;unfold hashV at hF;replace hF := Lib.hid hF;refine yF (N := 35) Tryz.func93 qbj0 ?_;rintro X hP hN hm;unfold qbj0 nums;repeat' (first | refine yA ?_ | exact trivial)
 refine qabf (qaco (fun s (z : Nat × Int) => s.turn [(10, .int .i64 z.1), (5, .int .u64 z.2)] []) (fun z => z.1 ≤ xs.length ∧ F = hashL (xs.drop z.1) z.2) (fun z => xs.length - z.1) (0, 14695981039346656037) ?_ ⟨by simp, hF.out⟩ ?_)
 ·repeat' (first | exact yD | refine yE ?_ | with_reducible refine yB ?_ ?_ | exact trivial)
 rintro J hJ ⟨i, hv⟩ ⟨h1, h2⟩;unfold qaoe;simp only [zT, puth, Nat.reduceEqDiff, reduceIte, Nat.reduceAdd] at h1 h2 ⊢;replace h2 := Lib.hid h2;rcases Nat.lt_or_ge i xs.length with hi | hi
 ·have h3 := h2.out;rw [List.drop_eq_getElem_cons hi, hashL] at h3;have wi : IntKind.i64.wrap ((i : Int) + 1) = (i : Int) + 1 := qabo (by omega) (by omega);generalize htl : xs.drop (i + 1) = tl at h3;generalize hxi : xs[i] = x at h3;obtain ⟨H, hH⟩ : ∃ H, H = hrep 8 (hv, x) := ⟨_, rfl⟩
  rw [← hH] at h3;replace hH := Lib.hid hH;replace h3 := Lib.hid h3;repeat' (first | ((with_reducible refine qaab ?_); (try rw [hP]); simp -implicitDefEqProofs [List.getElem?_eq_getElem hi, hxi, *]) | ((with_reducible refine qaai ?_); (try simp -implicitDefEqProofs [List.getElem?_eq_getElem hi, hxi, *])) | refine yA ?_ | with_reducible refine yB ?_ ?_ | ((with_reducible refine yC fun h => ?_); have h' := h; (try simp at h'); (try subst h')) | exact trivial)
  have hJo := hJ;refine qabf (qaco (fun s (z : Nat × Int × Int) => s.turn [(14, .int .i64 z.1), (5, .int .u64 z.2.1), (7, .int .u64 z.2.2)] []) (fun z => z.1 ≤ 8 ∧ H = hrep (8 - z.1) z.2) (fun z => 8 - z.1) (0, hv, x) ?_ ⟨by simp, hH.out⟩ ?_)
  ·repeat' (first | exact yD | refine yE ?_ | with_reducible refine yB ?_ ?_ | exact trivial)
  rintro J hJ ⟨j, a, c⟩ ⟨g1, g2⟩;unfold qaof;simp only [zT, puth, Nat.reduceEqDiff, reduceIte, Nat.reduceAdd] at g1 g2 ⊢;rcases Nat.lt_or_ge j 8 with hj | hj
  ·rw [show 8 - j = (8 - (j + 1)) + 1 by omega, hrep] at g2;have wj : IntKind.i64.wrap ((j : Int) + 1) = (j : Int) + 1 := qabo (by omega) (by omega);replace g2 := Lib.hid g2;have hj8 : ((j : Int) < 8) = True := eq_true (by omega);repeat' (first | ((with_reducible refine qaab ?_); (try rw [hP]); simp -implicitDefEqProofs [wj, hj8, *]) | ((with_reducible refine qaai ?_); (try simp -implicitDefEqProofs [wj, hj8, *])) | refine yA ?_ | with_reducible refine yB ?_ ?_ | ((with_reducible refine yC fun h => ?_); have h' := h; (try simp at h'); (try subst h')) | exact yD | refine yE ?_ | ((refine qabs hJ ((j + 1, ?_, ?_)) ?_ ?_ ?_; rotate_left 2; (with_reducible refine qabd [] hm ?_ ?_ ?_ ?_) <;> (try simp only [zT, puth, Nat.reduceEqDiff, reduceIte, Nat.reduceAdd]))) | exact trivial)
   exact ⟨by show j + 1 ≤ 8; omega, g2.out⟩
  ·obtain rfl : j = 8 := by omega
   have g3 : H = (a, c) := g2;have h4 := h3.out;rw [g3] at h4;replace h4 := Lib.hid h4;replace hJ := hJo;repeat' (first | ((with_reducible refine qaab ?_); (try rw [hP]); simp -implicitDefEqProofs [wi, *]) | ((with_reducible refine qabv ?_); (try simp -implicitDefEqProofs [wi, *])) | refine yA ?_ | with_reducible refine yB ?_ ?_ | ((with_reducible refine yC fun h => ?_); have h' := h; (try simp at h'); (try subst h')) | exact yD | refine yE ?_ | ((refine qabs hJ ((i + 1, ?_)) ?_ ?_ ?_; rotate_left 1; (with_reducible refine qabd [] hm ?_ ?_ ?_ ?_) <;> (try simp only [zT, puth, Nat.reduceEqDiff, reduceIte, Nat.reduceAdd]))) | exact trivial)
   exact ⟨by show i + 1 ≤ xs.length; omega, by rw [show xs.drop ((i + 1, a).1) = tl from htl]; exact h4.out⟩
 ·obtain rfl : i = xs.length := by omega
  have h3 := h2.out;rw [List.drop_length] at h3;obtain rfl : F = hv := h3;obtain ⟨Q, hQ⟩ : ∃ Q : Nat, F / 2 ^ min 32 IntKind.u64.bits = Q := ⟨(F / 2 ^ min 32 IntKind.u64.bits).toNat, (Int.toNat_of_nonneg (Int.ediv_nonneg hFn (by decide))).symm⟩
  have wl : IntKind.u64.wrap (S.length : Int) = (S.length : Int) := by simp [IntKind.wrap, IntKind.bits, IntKind.signed]; omega
  have nz : ¬ ((S.length : Int) = 0) := by omega
  have tm : Int.tmod (Q : Int) (S.length : Int) = ((Q % S.length : Nat) : Int) := by
   rw [Int.tmod_eq_emod_of_nonneg (by omega)]; rfl
  have hml : Q % S.length < S.length := Nat.mod_lt _ hS.1;have wc : IntKind.i64.wrap ((Q % S.length : Nat) : Int) = ((Q % S.length : Nat) : Int) := IntWalk.i64_in _ ⟨by omega, by omega⟩;rw [hQ, show max (Q : Int) 0 = (Q : Int) by omega, show (Q : Int) % (S.length : Int) = ((Q % S.length : Nat) : Int) from rfl];generalize hR : Q % S.length = R at tm wc ⊢;have hS0 : ¬ S = [] := fun e => by rw [e] at hS; exact absurd hS.1 (by simp)
  repeat' (first | ((with_reducible refine qaab ?_); (try rw [hP]); simp -implicitDefEqProofs [hQ, wl, if_neg nz, nz, hS0, tm, wc, *]) | ((with_reducible refine qabv ?_); (try simp -implicitDefEqProofs [hQ, wl, if_neg nz, nz, hS0, tm, wc, *])) | refine yA ?_ | with_reducible refine yB ?_ ?_ | ((with_reducible refine yC fun h => ?_); have h' := h; (try simp at h'); (try subst h')) | exact trivial)
  all_goals rfl
theorem xhome_s (k m : Int) (S : XTab) (hS : 0 < S.length ∧ S.length ≤ 1048576) (xs : List Int) (hx : xs.length ≤ 1000000) (q : Nat) : SCalls Tryz.prog 93 [.cp (qbk2 k m S), nums .u64 xs] [] q (.int .i64 (qagv S.length xs)) [] := qbiw k m (cnt S) S hS xs hx q
theorem qae5 : qag8 Tryz.prog 46 = some true := by kernel_rfl
theorem qad3 : qab8 Tryz.prog 46 = some 2 := by kernel_rfl
theorem qbiv (xs : List Int) (h : xs.length ≤ 1000000) (q : Nat) : SCalls Tryz.prog 32 [nums .u64 xs] [] q (nums .u64 xs) [] := by
 unfold nums;exact cl5_s (xs.map fun x => [.int .u64 x]) (by simpa using h) (by intro e he; obtain ⟨x, -, rfl⟩ := List.mem_map.1 he; rfl) q
def hitc (a : Int) (xs : List Int) : List SV := [.int .i64 a, nums .u64 xs]
theorem qbk3 (a : Int) (xs : List Int) (h : xs.length ≤ 1000000) (q : Nat) : SCalls Tryz.prog 89 [.agg (hitc a xs)] [] q (.agg (hitc a xs)) [] := by
 refine qabt ?_ (fun _ => rfl) (fun _ => rfl) rfl q;refine yF (N := 9) Tryz.func89 c_xown ?_;rintro X hP hN hm;have k1 := fun q => qbiv xs h q
 unfold nums at k1;unfold c_xown hitc nums;repeat' (first | refine yA ?_ | refine qabe (k1 _) ?_ | ((refine qare hm rfl ?_ ?_ rfl (CoL.refl _) rfl ?_)) | exact trivial)
 all_goals first | (rw [hP]; with_reducible exact qae5) | (rw [hP]; exact qad3) | (intro σ; rfl) | trace_state
theorem qbm9 (xa xb : List Int) (i : Nat) (h : i < xa.length) (g : i < xb.length) : decide (xa.drop i = xb.drop i) = if xa[i] ≠ xb[i] then false else decide (xa.drop (i + 1) = xb.drop (i + 1)) := by
 rw [List.drop_eq_getElem_cons h, List.drop_eq_getElem_cons g];generalize xa[i] = a;generalize xb[i] = b;generalize xa.drop (i + 1) = u;generalize xb.drop (i + 1) = v;by_cases e : a = b <;> simp [e]
theorem sleq_s (xa xb : List Int) (ha : xa.length ≤ 1000000) (hb : xb.length ≤ 1000000) (q : Nat) : SCalls Tryz.prog 94 [nums .u64 xa, nums .u64 xb] [] q (.bool (decide (xa = xb))) [] := by
 refine qabt ?_ (fun _ => rfl) (fun _ => rfl) rfl q;refine yF (N := 26) Tryz.func94 qbop ?_;rintro X hP hN hm;obtain ⟨F, hF⟩ : ∃ F, F = decide (xa = xb) := ⟨_, rfl⟩
 rw [← hF];replace hF := Lib.hid hF;by_cases hlen : xb.length = xa.length
 ·unfold qbop nums;repeat' (first | ((with_reducible refine qaab ?_); (try rw [hP]); simp -implicitDefEqProofs [hlen, *]) | ((with_reducible refine qaai ?_); (try simp -implicitDefEqProofs [hlen, *])) | refine yA ?_ | with_reducible refine yB ?_ ?_ | ((with_reducible refine yC fun h => ?_); have h' := h; (try simp at h'); (try subst h')) | exact trivial)
  refine qabf (qaco (fun s (i : Nat) => s.turn [(13, .int .i64 i)] []) (fun i => i ≤ xa.length ∧ F = decide (xa.drop i = xb.drop i)) (fun i => xa.length - i) 0 ?_ ⟨by simp, hF.out⟩ ?_)
  ·repeat' (first | exact yD | refine yE ?_ | with_reducible refine yB ?_ ?_ | exact trivial)
  rintro J hJ i ⟨h1, h3⟩;unfold qatl;simp only [zT, puth, Nat.reduceEqDiff, reduceIte, Nat.reduceAdd] at h1 h3 ⊢;replace h3 := Lib.hid h3;rcases Nat.lt_or_ge i xa.length with hi | hi
  ·have hj : i < xb.length := by omega
   have h4 := h3.out;rw [qbm9 xa xb i hi hj] at h4;have wi : IntKind.i64.wrap ((i : Int) + 1) = (i : Int) + 1 := qabo (by omega) (by omega);replace h4 := Lib.hid h4;repeat' (first | ((with_reducible first | refine qaab ?_ | refine qaaz (by rw [hP]; exact mixed) ?_); (try rw [hP]); simp -implicitDefEqProofs [wi, List.getElem?_eq_getElem hi, List.getElem?_eq_getElem hj, *]) | ((with_reducible refine qaai ?_); (try simp -implicitDefEqProofs [wi, List.getElem?_eq_getElem hi, List.getElem?_eq_getElem hj, *])) | refine yA ?_ | with_reducible refine yB ?_ ?_ | ((with_reducible refine yC fun h => ?_); have h' := h; (try simp at h'); (try subst h')) | exact yD | refine yE ?_ | ((refine qabs hJ (i + 1) ?_ ?_ ?_; (with_reducible refine qabd [] hm ?_ ?_ ?_ ?_) <;> (try simp only [zT, puth, Nat.reduceEqDiff, reduceIte, Nat.reduceAdd]))) | exact trivial)
   all_goals first | (exfalso; omega) | (rw [h4.out, if_pos ‹_›]; done) | (refine ⟨by omega, ?_⟩; rw [h4.out, if_neg (by omega)]) | omega | trace_state
  ·obtain rfl : i = xa.length := by omega
   have h4 : F = true := by rw [h3.out, List.drop_length, List.drop_eq_nil_of_le (by omega)]; rfl
   repeat' (first | refine yA ?_ | with_reducible refine yB ?_ ?_ | ((with_reducible refine yC fun h => ?_); have h' := h; (try simp at h'); (try subst h')) | exact trivial)
   all_goals first | rfl | (rw [h4])
 ·have hf : F = false := by rw [hF.out]; exact decide_eq_false fun e => hlen (by rw [e])
  have hne : ¬ (xa.length : Int) = (xb.length : Int) := by omega
  have hne2 : ¬ xa.length = xb.length := by omega
  unfold qbop nums;repeat' (first | ((with_reducible refine qaab ?_); (try rw [hP]); simp -implicitDefEqProofs [hne, hne2, *]) | ((with_reducible refine qaai ?_); (try simp -implicitDefEqProofs [hne, hne2, *])) | refine yA ?_ | with_reducible refine yB ?_ ?_ | ((with_reducible refine yC fun h => ?_); have h' := h; (try simp at h'); (try subst h')) | exact trivial)
  all_goals first | rfl | (rw [hf]; done) | (exfalso; omega) | trace_state
theorem qbix {X : Cx} {sl : Sl} {hp : Hp} {t u nx : Nat} {v w : SV} (hm : X.m = 0) (hne : t ≠ u) (hv : gets sl t = v) (hw : gets sl u = w) (hN : NoN v) (hM : NoN w) : QFun X [.tmp t, .tmp u] 0 (.tup [v, w]) [] .ret ⟨sl, hp, nx⟩ := by
 refine ⟨⟨[(t, v), (u, w)], [], 0⟩, qabl [] hm rfl (Nat.zero_le _) ⟨?_, ?_, trivial⟩ trivial, by simp [qafc, resL, resV, one_, gets, hne, hne.symm], trivial, by simp⟩
 ·show Co (gets sl t) (Go.Proofs.YtalejfkholifpaaGreat.ren _ v);rw [hv, hN]; exact Co.refl _
 ·show Co (gets sl u) (Go.Proofs.YtalejfkholifpaaGreat.ren _ w);rw [hw, hM]; exact Co.refl _
theorem qaf0 : xsc none = [.bool false, .nilsl, .int .i64 0, .nilsl] := rfl
theorem qacu (s : XSlot) : xsc (some s) = [.bool true, nums .u64 s.keys, .int .i64 s.act, nums .u64 s.args] := rfl
theorem qaur {S : XTab} {xs : List Int} {f i : Nat} {s : XSlot} (h : S[i]? = some (some s)) : qadi S xs (f + 1) i = if s.keys = xs then (i, true) else qadi S xs f (addm S.length i 1) := by rw [qadi, h]
theorem qaus {S : XTab} {xs : List Int} {f i : Nat} (h : S[i]? = some none) : qadi S xs (f + 1) i = (i, false) := by rw [qadi, h]
def qaii (S : XTab) : Prop := ∀ (j : Nat) (s : XSlot), S[j]? = some (some s) → s.keys.length ≤ 1000000 ∧ s.args.length ≤ 1000000
theorem place_s (k m : Int) (S : XTab) (hS : 0 < S.length ∧ S.length ≤ 1048576) (hsm : qaii S) (xs : List Int) (hx : xs.length ≤ 1000000) (hf : ∃ e : Nat, S[e]? = some none) (q : Nat) : SCalls Tryz.prog 88 [.cp (qbk2 k m S), nums .u64 xs] [] q (.tup [.int .i64 (qadi S xs S.length (qagv S.length xs)).1, .bool (qadi S xs S.length (qagv S.length xs)).2]) [] := by
 refine qabt ?_ (fun _ => rfl) (fun _ => rfl) rfl q;obtain ⟨R, b, hF⟩ : ∃ R b, (R, b) = qadi S xs S.length (qagv S.length xs) := ⟨_, _, rfl⟩
 rw [← hF];have hH : qagv S.length xs < S.length := Nat.mod_lt _ hS.1;have k1 := fun q => xhome_s k m S hS xs hx q
 obtain ⟨e, he⟩ := hf;have hel := qacs he;have hdl := qahw hH hel;generalize qagv S.length xs = H at k1 hF hH hdl;have hS0 : ¬ S = [] := fun e => by rw [e] at hS; exact absurd hS.1 (by simp)
 replace hF := Lib.hid hF;have k2 : ∀ (s : XSlot) (j : Nat), S[j]? = some (some s) → ∀ q, SCalls Tryz.prog 94 [nums .u64 s.keys, nums .u64 xs] [] q (.bool (decide (s.keys = xs))) [] := fun s j h q => sleq_s s.keys xs (hsm j s h).1 hx q
 unfold qbk2 nums at k1;unfold nums at k2;replace k2 := Lib.hid k2;replace he := Lib.hid he;replace hdl := Lib.hid hdl;refine yF (N := 38) Tryz.func88 qa10 ?_;rintro X hP hN hm;unfold qa10 qbk2 nums;repeat' (first | refine yA ?_ | refine qabe (k1 _) ?_ | exact trivial)
 refine qabf (qaco (fun s (z : Nat × Nat) => s.turn [(6, .int .i64 z.1)] []) (fun z => z.1 < S.length ∧ (R, b) = qadi S xs z.2 z.1 ∧ dist S.length z.1 e < z.2) (fun z => z.2) (H, S.length) ?_ ⟨hH, hF.out, hdl.out⟩ ?_)
 ·repeat' (first | exact yD | refine yE ?_ | with_reducible refine yB ?_ ?_ | exact trivial)
 rintro J hJ ⟨i, f⟩ ⟨h1, h2, h3⟩;unfold qala;simp only [zT, puth, Nat.reduceEqDiff, reduceIte, Nat.reduceAdd] at h1 h2 h3 ⊢;obtain ⟨g, rfl⟩ : ∃ g, f = g + 1 := ⟨f - 1, by omega⟩
 replace h3 := Lib.hid h3;rcases hs : S[i] with _ | s
 ·have hs' : S[i]? = some none := by rw [List.getElem?_eq_getElem h1, hs]
  rw [qaus hs'] at h2;obtain ⟨rfl, rfl⟩ := Prod.mk.inj h2;repeat' (first | ((with_reducible refine qaab ?_); (try rw [hP]); simp -implicitDefEqProofs [hs', qaf0, *]) | ((with_reducible refine qabv ?_); (try simp -implicitDefEqProofs [hs', qaf0, *])) | refine yA ?_ | with_reducible refine yB ?_ ?_ | ((with_reducible refine yC fun h => ?_); have h' := h; (try simp at h'); (try subst h')) | ((refine qbix hm (by decide) rfl rfl (fun σ => rfl) (fun σ => rfl))) | exact trivial)
 ·have hs' : S[i]? = some (some s) := by rw [List.getElem?_eq_getElem h1, hs]
  rw [qaur hs'] at h2;have k3 := k2.out s i hs';have wi : IntKind.i64.wrap ((i : Int) + 1) = (i : Int) + 1 := qabo (by omega) (by omega);have tm : Int.tmod ((i : Int) + 1) (S.length : Int) = ((addm S.length i 1 : Nat) : Int) := by
   rw [Int.tmod_eq_emod_of_nonneg (by omega), ← qa9m h1 (by omega)]; rfl
  by_cases hB : s.keys = xs
  ·rw [if_pos hB] at h2;obtain ⟨rfl, rfl⟩ := Prod.mk.inj h2;rw [decide_eq_true hB] at k3;replace hB := Lib.hid hB;repeat' (first | ((with_reducible refine qaab ?_); (try rw [hP]); simp -implicitDefEqProofs [hs', qacu, nums, wi, tm, hS0, *]) | ((with_reducible refine qaai ?_); (try simp -implicitDefEqProofs [hs', qacu, nums, wi, tm, hS0, *])) | refine yA ?_ | with_reducible refine yB ?_ ?_ | ((with_reducible refine yC fun h => ?_); have h' := h; (try simp at h'); (try subst h')) | (refine qabe (k3 _) ?_; simp -implicitDefEqProofs [hs', qacu, nums, wi, tm, hS0, *]) | ((refine qbix hm (by decide) rfl rfl (fun σ => rfl) (fun σ => rfl))) | exact trivial)
  ·rw [if_neg hB] at h2;rw [decide_eq_false hB] at k3;have hie : i ≠ e := fun e1 => by
    have := he.out;rw [← e1, hs'] at this; cases this
   have hn : addm S.length i 1 < S.length := qagc h1 (by omega);have hd : dist S.length (addm S.length i 1) e < g := by
    have := h3.out;unfold dist addm at *
    (repeat' split at *) <;> (repeat' split) <;> omega
   replace h2 := Lib.hid h2;replace hB := Lib.hid hB;replace hd := Lib.hid hd;repeat' (first | ((with_reducible refine qaab ?_); (try rw [hP]); simp -implicitDefEqProofs [hs', qacu, nums, wi, tm, hS0, *]) | ((with_reducible refine qaai ?_); (try simp -implicitDefEqProofs [hs', qacu, nums, wi, tm, hS0, *])) | refine yA ?_ | with_reducible refine yB ?_ ?_ | ((with_reducible refine yC fun h => ?_); have h' := h; (try simp at h'); (try subst h')) | (refine qabe (k3 _) ?_; simp -implicitDefEqProofs [hs', qacu, nums, wi, tm, hS0, *]) | exact yD | refine yE ?_ | ((refine qabs hJ ((addm S.length i 1, g)) ?_ ?_ ?_; (with_reducible refine qabd [] hm ?_ ?_ ?_ ?_) <;> (try simp only [zT, puth, Nat.reduceEqDiff, reduceIte, Nat.reduceAdd]))) | exact trivial)
   all_goals first | exact ⟨hn, h2.out, hd.out⟩ | trace_state
end
section
variable {w : World} {ρ : qact} {fp : Nat → Nat → Prop} {O : Nat → Prop} {h1 : Hp}
theorem qag5 (k : Nat) : ¬ Live [] fp k := fun ⟨_, _, h, _⟩ => by cases h
def Lent (h1 : Hp) (x y : SV) : Prop := ∀ (O : Nat → Prop) (ρ : qact) (fp : Nat → Nat → Prop) (w : World) (v : Value), HeapOk O ρ fp h1 w → RepV w (fun k => O k ∨ Live h1 fp k) ρ x v → RepV w (fun k => O k ∨ Live [] fp k) ρ y v
def qa9z (h1 : Hp) : List SV → List SV → Prop
 | [], [] => True
 | x :: xs, y :: ys => Lent h1 x y ∧ qa9z h1 xs ys
 | _, _ => False
theorem qbjm {k : Nat} : (O k ∨ Live [] fp k) → O k ∨ Live h1 fp k := fun hk => hk.elim .inl fun h => absurd h (qag5 k)
theorem qacb (x : SV) : Lent h1 x x := fun _ _ _ _ _ _ hx => hx.weaken fun _ hk _ => qbjm hk
theorem qaj1 : ∀ xs, qa9z h1 xs xs
 | [] => trivial
 | x :: xs => ⟨qacb x, qaj1 xs⟩
theorem qaet : ∀ {xs ys}, qa9z h1 xs ys → xs.length = ys.length
 | [], [], _ => rfl
 | _ :: _, _ :: _, h => by simp [qaet h.2]
 | [], _ :: _, h => h.elim
 | _ :: _, [], h => h.elim
theorem qagk : ∀ {xs ys : List SV} {j : Nat} {y : SV}, qa9z h1 xs ys → ys[j]? = some y → ∃ x, xs[j]? = some x ∧ Lent h1 x y
 | x :: xs, y :: ys, 0, _, h, hy => by cases hy; exact ⟨x, rfl, h.1⟩
 | x :: xs, y :: ys, j + 1, _, h, hy => qagk (xs := xs) (ys := ys) (j := j) h.2 (by simpa using hy)
 | [], [], _, _, _, hy => by simp at hy
 | [], _ :: _, _, _, h, _ => h.elim
 | _ :: _, [], _, _, h, _ => h.elim
theorem qa0s {cs ds : List SV} (h : qa9z h1 cs ds) : Lent h1 (.agg cs) (.agg ds) := fun O ρ fp w v hok hx => by
 cases hx with
 | agg ho hl hh =>
  refine .agg ho (by rw [← qaet h]; exact hl) fun j y v hy hv => ?_
  obtain ⟨x, h1, h2⟩ := qagk h hy;exact h2 O ρ fp w v hok (hh j x v h1 hv)
theorem qaj0 {id z e : Nat} {es : List (List SV)} (ho : geth h1 id = some (.row e z es)) (hp : ∀ e ∈ es, qamy e) {n : Nat} (hn : n = es.length) : Lent h1 (.own id n) (.view z es) := fun O ρ fp w v hok hx => by
 subst hn;obtain ⟨v0, us, how, ⟨hrep, huo⟩, hzs, hρ', hfp⟩ := hok.objs id _ ho;generalize hn : es.length = n at hx;cases hx with
 | own0 hρ => rw [List.eq_nil_of_length_eq_zero hn]; exact .view0 (by simp [maxLen]) (fun _ => rfl)
 | own hρ hnc hm =>
  rename_i b c;rw [hρ] at hρ';have hp0 : qad9 v0 = some (b, c) := (Option.some.inj hρ').symm;obtain ⟨hv0, hcell, hlt, _, _⟩ := qaez how hp0;have hown : fp id b := (hfp b).2 (by rw [hv0]; rfl);have hval : ∀ i e j x, es[i]? = some e → e[j]? = some x → ∃ u, us[i * z + j]? = some u ∧ RepV w (fun k => O k ∨ Live h1 fp k) ρ x u := fun i e j x he hx => hrep.get (qah9 hzs he hx)
  refine .view (fun i j => us.getD (i * z + j) undef) hn hnc hm (fun hO => hO.elim (hok.lt b ⟨id, _, ho, hown⟩).2 (qag5 b)) hlt hzs (fun i e j x he hx => ?_) (fun i e j x he hx => ?_) (fun i e j x he hx => ?_)
  ·obtain ⟨u, h1, h2⟩ := hval i e j x he hx;rw [Nat.zero_add, List.getD_eq_getElem?_getD, h1];exact hcell _ _ h1
  ·obtain ⟨u, h1, h2⟩ := hval i e j x he hx;rw [List.getD_eq_getElem?_getD, h1];exact (hp e (List.mem_of_getElem? he) x (List.mem_of_getElem? hx) _ _ _ _ h2).weaken fun k hk _ => qbjm hk
  ·obtain ⟨u, h1, h2⟩ := hval i e j x he hx;rw [List.getD_eq_getElem?_getD, h1];exact huo u (List.mem_of_getElem? h1)
theorem qamh {id off t : Nat} {cs ds : List SV} (ho : geth h1 id = some (.cells t cs)) (hl : qa9z h1 (cs.drop off) ds) (hp : qamy ds) : Lent h1 (.ptr id off) (.cp ds) := fun O ρ fp w v hok hx => by
 obtain ⟨b, c, us, hρ', hbl, ⟨hrep, huo⟩, hfp⟩ := hok.objs id _ ho;cases hx with
 | ptr hρ =>
  rw [hρ] at hρ'; cases hρ'
  have hval : ∀ (j : Nat) y, ds[j]? = some y → ∃ u, us[off + j]? = some u ∧ RepV w (fun k => O k ∨ Live [] fp k) noPl y u := fun j y hy => by
   obtain ⟨x, hx, hxy⟩ := qagk hl hy;rw [List.getElem?_drop] at hx;obtain ⟨u, h1, h2⟩ := hrep.get hx;exact ⟨u, h1, hp y (List.mem_of_getElem? hy) _ _ _ _ (hxy O ρ fp w u hok h2)⟩
  refine .cp (fun j => us.getD (off + j) undef) (fun hO => hO.elim (hok.lt b ⟨id, _, ho, (hfp b).2 rfl⟩).2 (qag5 b)) hbl.lt (fun j x hx => ?_) (fun j x hx => ?_) (fun j x hx => ?_)
  ·obtain ⟨u, h1, h2⟩ := hval j x hx;rw [hbl.cell, List.getD_eq_getElem?_getD, h1];simpa using h1
  ·obtain ⟨u, h1, h2⟩ := hval j x hx;rw [List.getD_eq_getElem?_getD, h1];exact h2
  ·obtain ⟨u, h1, h2⟩ := hval j x hx;rw [List.getD_eq_getElem?_getD, h1];exact huo u (List.mem_of_getElem? h1)
def qaym (x : SV) : Prop := ∀ w A A' ρ v, RepV w A ρ x v → RepV w A' ρ x v
theorem qaj6 (b : Bool) : qaym (.bool b) := fun w A A' ρ v h => by cases h; exact .bool
theorem qafu (k : IntKind) (n : Int) : qaym (.int k n) := fun w A A' ρ v h => by cases h; exact .int
def qbit (cs : List SV) : Prop := ∀ x ∈ cs, qaym x
theorem qaoc {A A' : Nat → Prop} {cs : List SV} {vs : List Value} (hc : qbit cs) (h : Reps w A ρ cs vs) : Reps w A' ρ cs vs :=
 ⟨h.1, fun j x v hx hv => hc x (List.mem_of_getElem? hx) _ _ _ _ _ (h.2 j x v hx hv)⟩
theorem qbbs {cs : List SV} (hc : qbit cs) : qaym (.tup cs) := fun w A A' ρ v h => by
 cases h with
 | tup hl hh => exact .tup hl fun j x v hx hv => hc x (List.mem_of_getElem? hx) _ _ _ _ _ (hh j x v hx hv)
def CleanO : SObj → Prop
 | .cells _ cs => qbit cs
 | .row _ _ es => ∀ e ∈ es, qbit e
 | .abs _ => False
theorem qbbt {A A' : Nat → Prop} {id : Nat} {F : Nat → Prop} {o : SObj} (hc : CleanO o) (h : ObjRep w A ρ id F o) : ObjRep w A' ρ id F o := by
 cases o with
 | cells t cs =>
  obtain ⟨b, c, vs, q1, q2, ⟨q3, q4⟩, q5⟩ := h;exact ⟨b, c, vs, q1, q2, ⟨qaoc hc q3, q4⟩, q5⟩
 | row e z es =>
  obtain ⟨v, vs, q1, ⟨q2, q3⟩, q4, q5, q6⟩ := h;exact ⟨v, vs, q1, ⟨qaoc (fun x hx => by obtain ⟨e, he, hx⟩ := List.mem_flatten.1 hx; exact hc e he x hx) q2, q3⟩, q4, q5, q6⟩
 | abs I => exact hc.elim
theorem qago (h1 h2 : Hp) (id : Nat) : geth (h1 ++ h2) id = match geth h1 id with | some o => some o | none => geth h2 id := by
 induction h1 with
 | nil => rfl
 | cons p h1 ih =>
  obtain ⟨i, o⟩ := p;rw [List.cons_append];simp only [geth];split
  ·rfl
  ·exact ih
theorem qaul {P : Program} {f : FuncId} {args args' : List SV} {h1 h2 : Hp} {q n : Nat} {r : SV} (h : SCalls P f args' [] q r h2 n) (ha : qa9z h1 args args') (hr : qaym r) (hc : ∀ id o, geth h2 id = some o → CleanO o)
  (hd : ∀ id, geth h1 id ≠ none → geth h2 id = none) : SCalls P f args h1 q r (h1 ++ h2) n := by
 refine ⟨h.ent, fun O ρ fp w vs hok hargs hfr => ?_⟩;have hargs' : Reps w (fun k => O k ∨ Live [] fp k) ρ args' vs := by
  refine ⟨by rw [← qaet ha]; exact hargs.1, fun j y v hy hv => ?_⟩;obtain ⟨x, h1, h2⟩ := qagk ha hy;exact h2 O ρ fp w v hok (hargs.2 j x v h1 hv)
 refine (h.does O ρ fp w vs ⟨fun id o ho => (by cases ho), fun id id' o o' _ ho => (by cases ho), fun k hk => absurd hk (qag5 k), hok.O_lt⟩ hargs' hfr).mono ?_;rintro e w' ⟨v, ρ', fp', rfl, hk, hv, hst, hρ, hnew, hfp⟩;have hst' : ∀ S : Nat → Prop, Step S w w' := fun S => hst.mono fun k hk => absurd hk (qag5 k)
 have hbig : ∀ id o, geth h2 id = some o → ∀ k, fp' id k → w.heap.size ≤ k := fun id o ho k hk => (hfp id o ho k hk).elim (fun h => absurd h (qag5 k)) fun h => h
 have hg : ∀ id o, geth (h1 ++ h2) id = some o → geth h1 id = some o ∧ geth h2 id = none ∨ geth h1 id = none ∧ geth h2 id = some o := fun id o ho => by
  rw [qago] at ho;cases e : geth h1 id with
  | some o' => rw [e] at ho; cases ho; exact .inl ⟨rfl, hd id (by rw [e]; simp)⟩
  | none => rw [e] at ho; exact .inr ⟨rfl, ho⟩
 let F : Nat → Nat → Prop := fun id k => (geth h2 id ≠ none ∧ fp' id k) ∨ (geth h2 id = none ∧ fp id k)
 have F1 : ∀ id, geth h2 id = none → F id = fp id := fun id hn => by funext k; simp [F, hn]
 have F2 : ∀ id o, geth h2 id = some o → F id = fp' id := fun id o hn => by funext k; simp [F, hn]
 have hav : ∀ k, (O k ∨ Live (h1 ++ h2) F k) → k < w.heap.size → O k ∨ Live h1 fp k := by
  rintro k (hO | ⟨id, o, ho, hk'⟩) hlt
  ·exact .inl hO
  ·rcases hg id o ho with ⟨q1, q2⟩ | ⟨q1, q2⟩
   ·rw [F1 id q2] at hk'; exact .inr ⟨id, o, q1, hk'⟩
   ·rw [F2 id o q2] at hk'; exact absurd (hbig id o q2 k hk') (by omega)
 refine ⟨v, ρ', F, rfl, ⟨fun id o ho => ?_, fun id id' o o' hne ho ho' k hk' hk2 => ?_, ?_, hk.O_lt⟩, hr _ _ _ _ _ hv, hst' _, hρ, hnew, fun id o ho k hk' => ?_⟩
 ·rcases hg id o ho with ⟨q1, q2⟩ | ⟨q1, q2⟩
  ·rw [F1 id q2];exact (hok.objs id o q1).mono ⟨hst' _, hav, hρ⟩ fun k hk' => hst.block k (hok.lt k ⟨id, o, q1, hk'⟩).1 (qag5 k)
  ·rw [F2 id o q2];exact qbbt (hc id o q2) (hk.objs id o q2)
 ·rcases hg id o ho with ⟨q1, q2⟩ | ⟨q1, q2⟩ <;> rcases hg id' o' ho' with ⟨q3, q4⟩ | ⟨q3, q4⟩
  ·rw [F1 id q2] at hk'; rw [F1 id' q4] at hk2; exact hok.disj id id' o o' hne q1 q3 k hk' hk2
  ·rw [F1 id q2] at hk'; rw [F2 id' o' q4] at hk2
   have := (hok.lt k ⟨id, o, q1, hk'⟩).1; have := hbig id' o' q4 k hk2; omega
  ·rw [F2 id o q2] at hk'; rw [F1 id' q4] at hk2
   have := (hok.lt k ⟨id', o', q3, hk2⟩).1; have := hbig id o q2 k hk'; omega
  ·rw [F2 id o q2] at hk'; rw [F2 id' o' q4] at hk2; exact hk.disj id id' o o' hne q2 q4 k hk' hk2
 ·rintro k ⟨id, o, ho, hk'⟩;rcases hg id o ho with ⟨q1, q2⟩ | ⟨q1, q2⟩
  ·rw [F1 id q2] at hk';have := hok.lt k ⟨id, o, q1, hk'⟩;exact ⟨Nat.lt_of_lt_of_le this.1 hst.size, this.2⟩
  ·rw [F2 id o q2] at hk';exact hk.lt k ⟨id, o, q2, hk'⟩
 ·rcases hg id o ho with ⟨q1, q2⟩ | ⟨q1, q2⟩
  ·rw [F1 id q2] at hk'; exact .inl ⟨id, o, q1, hk'⟩
  ·rw [F2 id o q2] at hk'; exact .inr (hbig id o q2 k hk')
theorem qada {P : Program} {f : FuncId} {args args' : List SV} {h1 : Hp} {q : Nat} {r : SV} (h : SCalls P f args' [] q r []) (ha : qa9z h1 args args') (hr : qaym r) : SCalls P f args h1 q r h1 := by
 have := qaul h ha hr (fun id o ho => by cases ho) fun _ _ => rfl
 rwa [List.append_nil] at this
end
section
attribute [local simp] qaa6 qaa5 qaak qaas qaal qaar qaa3 qaa4 qaae qabh SOp.run SX.ev putd puts argS upds SOp.touch SSt.keep SSt.skip gets geth puth delh idOf SV.cells? setL qac5 qac6 sbin eq0 eq1 eqL qac2 qaby qab0 qaa2 qaa1 qaac qaa7 qabi qaaj qaad FrzOk qaav qaan qaat qaau qaaf qaam qaa8 qaao qaah qaaw qaag frzS frzH frz frz1 frz0 SlotsM ObjsM ObjM rn ren ren1 ren0 qabk qabw qabz qabj qaa9 qabx qab1 CoL qaax qabr dels adds idsH qabc
def xobj (k m : Int) (c : Nat) (S : XTab) : Hp := [(0, .cells 99 [.int .i64 k, .int .i64 m, .int .i64 c, .own 1 S.length]), (1, .row 141 4 (S.map xsc))]
theorem qanv {k m : Int} {n : Nat} {S : XTab} : Lent (xobj k m n S) (.ptr 0 0) (.cp [.int .i64 k, .int .i64 m, .int .i64 n, .view 4 (S.map xsc)]) := by
 refine qamh (t := 99) (cs := [.int .i64 k, .int .i64 m, .int .i64 n, .own 1 S.length]) rfl ⟨qacb _, qacb _, qacb _, qaj0 (e := 141) rfl (qahe _ _) (by simp), trivial⟩ ?_;intro x hx;simp only [List.mem_cons, List.not_mem_nil, or_false] at hx;rcases hx with rfl | rfl | rfl | rfl
 ·exact qafp _ _
 ·exact qafp _ _
 ·exact qafp _ _
 ·exact qahg _ _
theorem qasz {k m : Int} {S : XTab} : Lent (xobj k m (cnt S) S) (.ptr 0 0) (.cp (qbk2 k m S)) := qanv
def newF : Nat → Nat → Int → Nat
 | 0, n, _ => n
 | f + 1, n, M => if (n : Int) < M ∧ n < 1048576 then newF f (n * 2) M else n
def newN (m : Int) : Nat := newF 18 4 (IntKind.i64.wrap (2 * m))
theorem qbji : ∀ f n M, n ≤ newF f n M
 | 0, n, M => Nat.le_refl _
 | f + 1, n, M => by
  rw [newF]; split
  ·exact Nat.le_trans (by omega) (qbji f (n * 2) M)
  ·exact Nat.le_refl _
theorem qbjh : ∀ f n M, newF f n M ≤ n * 2 ^ f
 | 0, n, M => by simp [newF]
 | f + 1, n, M => by
  rw [newF]; split
  ·have := qbjh f (n * 2) M;rw [Nat.pow_succ, Nat.mul_comm (2 ^ f) 2, ← Nat.mul_assoc]; exact this
  ·exact Nat.le_mul_of_pos_right _ (Nat.pow_pos (by omega))
theorem qa0i : ∀ f n M, n * 2 ^ f = 1048576 → M ≤ newF f n M ∨ newF f n M = 1048576
 | 0, n, M, h => .inr (by simpa [newF] using h)
 | f + 1, n, M, h => by
  rw [newF]; split
  ·exact qa0i f (n * 2) M (by rw [← h, Nat.pow_succ, Nat.mul_comm (2 ^ f) 2, ← Nat.mul_assoc])
  ·rename_i hc;have : n ≤ n * 2 ^ (f + 1) := Nat.le_mul_of_pos_right _ (Nat.pow_pos (by omega));by_cases h1 : (n : Int) < M
   ·exact .inr (by have : ¬ n < 1048576 := fun h2 => hc ⟨h1, h2⟩; omega)
   ·exact .inl (by omega)
theorem qano (m : Int) : 4 ≤ newN m ∧ newN m ≤ 1048576 := ⟨qbji _ _ _, qbjh 18 4 _⟩
theorem qbav {m : Int} (h : m ≤ 1000) : m < newN m := by
 have h1 := qano m;by_cases h0 : m ≤ 0
 ·omega
 ·have hw : IntKind.i64.wrap (2 * m) = 2 * m := IntWalk.i64_in _ ⟨by omega, by omega⟩;have := qa0i 18 4 (IntKind.i64.wrap (2 * m)) rfl;unfold newN at *;rw [hw] at *;omega
theorem xlen_s (k m : Int) (S : XTab) (q : Nat) : SCalls Tryz.prog 75 [.cp (qbk2 k m S)] [] q (.int .i64 (cnt S)) [] := by
 refine qabt ?_ (fun _ => rfl) (fun _ => rfl) rfl q;refine yF (N := 7) Tryz.func75 c_xlen ?_;rintro X hP hN hm;unfold c_xlen qbk2;repeat' (first | refine yA ?_ | exact trivial)
 all_goals rfl
theorem xlen_o (k m : Int) (S : XTab) (q : Nat) : SCalls Tryz.prog 75 [.ptr 0 0] (xobj k m (cnt S) S) q (.int .i64 (cnt S)) (xobj k m (cnt S) S) :=
 qada (xlen_s k m S q) ⟨qasz, trivial⟩ (qafu _ _)
theorem qass (k m : Int) (S : XTab) (hS : 0 < S.length ∧ S.length ≤ 1048576) (hsm : qaii S) (xs : List Int) (hx : xs.length ≤ 1000000) (hf : ∃ e : Nat, S[e]? = some none) (q : Nat) : SCalls Tryz.prog 88 [.ptr 0 0, nums .u64 xs] (xobj k m (cnt S) S) q (.tup [.int .i64 (qadi S xs S.length (qagv S.length xs)).1, .bool (qadi S xs S.length (qagv S.length xs)).2]) (xobj k m (cnt S) S) :=
 qada (place_s k m S hS hsm xs hx hf q) ⟨qasz, qacb _, trivial⟩ (qbbs (by
  intro x hx;simp only [List.mem_cons, List.not_mem_nil, or_false] at hx;rcases hx with rfl | rfl
  ·exact qafu _ _
  ·exact qaj6 _))
theorem home_o (k m : Int) (n : Nat) (S : XTab) (hS : 0 < S.length ∧ S.length ≤ 1048576) (xs : List Int) (hx : xs.length ≤ 1000000) (q : Nat) : SCalls Tryz.prog 93 [.ptr 0 0, nums .u64 xs] (xobj k m n S) q (.int .i64 (qagv S.length xs)) (xobj k m n S) :=
 qada (qbiw k m n S hS xs hx q) ⟨qanv, qacb _, trivial⟩ (qafu _ _)
theorem qayn (k m : Int) (N : Nat) : xobj k m 0 (List.replicate N none) = [(0, .cells 99 [.int .i64 k, .int .i64 m, .int .i64 (0 : Nat), .own 1 N]), (1, .row 141 4 ((List.replicate N none).map xsc))] := by
 unfold xobj;rw [List.length_replicate]
theorem fin_xn {X : Cx} {s : SSt} {t : Nat} {h : Hp} {a b : SObj} (e : h = [(0, a), (1, b)]) (hw : Wk X s ⟨[(t, .ptr 0 0)], [(0, a), (1, b)], 2⟩) : QFun X [.tmp t] 0 (.ptr 0 0) h .ret s := by
 subst e;exact ⟨_, hw, by simp [qafc, resL, resV, one_, gets], ⟨rfl, rfl, trivial⟩, by simp⟩
theorem xnew_s (k m : Int) : SCalls Tryz.prog 33 [.int .i64 k, .int .i64 m] [] 0 (.ptr 0 0) (xobj k m 0 (List.replicate (newN m) none)) := by
 obtain ⟨N, hN'⟩ : ∃ N, N = newN m := ⟨_, rfl⟩
 have hb := qano m;rw [← hN'] at hb ⊢;unfold newN at hN';obtain ⟨M, hM⟩ : ∃ M, IntKind.i64.wrap (2 * m) = M := ⟨_, rfl⟩
 rw [hM] at hN';replace hN' := Lib.hid hN';replace hb := Lib.hid hb;refine yF (N := 22) Tryz.func33 c_xnew ?_;rintro X hP hN hm;unfold c_xnew;repeat' (first | refine yA ?_ | exact trivial)
 refine qabf (qaco (fun s (z : Nat × Nat) => s.turn [(5, .int .i64 z.1)] []) (fun z => z.1 * 2 ^ z.2 = 1048576 ∧ N = newF z.2 z.1 M) (fun z => z.2) (4, 18) ?_ ⟨rfl, hN'.out⟩ ?_)
 ·repeat' (first | exact yD | refine yE ?_ | with_reducible refine yB ?_ ?_ | exact trivial)
 rintro J hJ ⟨n, f⟩ ⟨h1, h2⟩;unfold qate;simp only [zT, puth, Nat.reduceEqDiff, reduceIte, Nat.reduceAdd] at h1 h2 ⊢;have hn : n ≤ 1048576 := by
  have : n ≤ n * 2 ^ f := Nat.le_mul_of_pos_right _ (Nat.pow_pos (by omega));omega
 by_cases hc : (n : Int) < M ∧ n < 1048576
 ·obtain ⟨g, rfl⟩ : ∃ g, f = g + 1 := ⟨f - 1, by
   rcases f with _ | f
   ·simp at h1; omega
   ·rfl⟩
  rw [newF, if_pos hc] at h2;have h3 : (n * 2) * 2 ^ g = 1048576 := by rw [← h1, Nat.pow_succ, Nat.mul_comm (2 ^ g) 2, ← Nat.mul_assoc]
  replace h1 := Lib.hid h1;replace h2 := Lib.hid h2;replace h3 := Lib.hid h3;have wn : IntKind.i64.wrap ((n : Int) * 2) = (n : Int) * 2 := IntWalk.i64_in _ ⟨by omega, by omega⟩;obtain ⟨c1, c2⟩ := hc;have c3 : ((n : Int) < 1048576) = True := eq_true (by omega);clear c2;replace hn := Lib.hid hn;repeat' (first | ((with_reducible refine qaab ?_); (try rw [hP]); simp -implicitDefEqProofs [hM, wn, c1, c3, *]) | ((with_reducible refine qaai ?_); (try simp -implicitDefEqProofs [hM, wn, c1, c3, *])) | refine yA ?_ | with_reducible refine yB ?_ ?_ | ((with_reducible refine yC fun h => ?_); have h' := h; (try simp at h'); (try subst h')) | exact yD | refine yE ?_ | ((refine qabs hJ ((n * 2, g)) ?_ ?_ ?_; (with_reducible refine qabd [] hm ?_ ?_ ?_ ?_) <;> (try simp only [zT, puth, Nat.reduceEqDiff, reduceIte, Nat.reduceAdd]))) | exact trivial)
  exact ⟨h3.out, h2.out⟩
 ·have h3 : N = n := by
   rcases f with _ | f
   ·exact h2
   ·rw [newF, if_neg hc] at h2; exact h2
  clear h2;subst h3;replace h1 := Lib.hid h1;by_cases c1 : (N : Int) < M
  ·have c3 : ((N : Int) < 1048576) = False := eq_false (by intro h; exact hc ⟨c1, by omega⟩);clear hc;repeat' (first | ((with_reducible refine qaab ?_); (try rw [hP]); simp -implicitDefEqProofs [hM, c1, c3, *]) | ((with_reducible refine qabv ?_); (try simp -implicitDefEqProofs [hM, c1, c3, *])) | ((with_reducible refine qafm ?_ ?_); (first | omega | (unfold maxLen; omega)); simp -implicitDefEqProofs [hM, c1, c3, *]) | refine yA ?_ | with_reducible refine yB ?_ ?_ | ((with_reducible refine yC fun h => ?_); have h' := h; (try simp at h'); (try subst h')) | exact trivial)
   exact fin_xn (qayn k m N) (qabd [(0, 15), (1, 13)] hm ⟨Co.refl _, trivial⟩ ⟨⟨_, rfl, rfl, CoL.refl _⟩, ⟨_, rfl, rfl, rfl, by rw [qab9, List.map_replicate]; exact CoLL.refl _⟩, trivial⟩ rfl (Nat.zero_le _))
  ·clear hc;have c3 : ((N : Int) < M) = False := eq_false c1;clear c1;repeat' (first | ((with_reducible refine qaab ?_); (try rw [hP]); simp -implicitDefEqProofs [hM, c3, *]) | ((with_reducible refine qabv ?_); (try simp -implicitDefEqProofs [hM, c3, *])) | ((with_reducible refine qafm ?_ ?_); (first | omega | (unfold maxLen; omega)); simp -implicitDefEqProofs [hM, c3, *]) | refine yA ?_ | with_reducible refine yB ?_ ?_ | ((with_reducible refine yC fun h => ?_); have h' := h; (try simp at h'); (try subst h')) | exact trivial)
   exact fin_xn (qayn k m N) (qabd [(0, 13), (1, 11)] hm ⟨Co.refl _, trivial⟩ ⟨⟨_, rfl, rfl, CoL.refl _⟩, ⟨_, rfl, rfl, rfl, by rw [qab9, List.map_replicate]; exact CoLL.refl _⟩, trivial⟩ rfl (Nat.zero_le _))
theorem qahh {S : XTab} {xs : List Int} : ∀ (f i : Nat), i < S.length → (qadi S xs f i).1 < S.length
 | 0, i, h => h
 | f + 1, i, h => by
  rw [qadi];split
  ·split
   ·exact h
   ·exact qahh f _ (qagc h (by omega))
  ·exact h
theorem qbiu (o : Option XSlot) : (xsc o).length = 4 := by cases o <;> rfl
theorem qay7 {l : List SV} (h : l.length = 4) (a b c d : SV) : (((l.set 0 a).set 1 b).set 2 c).set 3 d = [a, b, c, d] := by
 match l, h with
 | [_, _, _, _], _ => rfl
theorem fin_xi {X : Cx} {s : SSt} {t : Nat} {n : Int} {h : Hp} {a b : SObj} (e : h = [(0, a), (1, b)]) (hw : Wk X s ⟨[(t, .int .i64 n)], [(0, a), (1, b)], 2⟩) : QFun X [.tmp t] 2 (.int .i64 n) h .ret s := by
 subst e;exact ⟨_, hw, by simp [qafc, resL, resV, one_, gets], ⟨rfl, rfl, trivial⟩, by simp⟩
theorem qae4 {X : Cx} {sl : Sl} {hp : Hp} {nx t : Nat} {V W : Int} {h : Hp} {k m : Int} {c N : Nat} {S : XTab} {cs : List SV} {es : List (List SV)} (hm : X.m = 2) (hV : V = W) (hh : h = xobj k m c S) (ht : gets sl t = .int .i64 W) (h0 : geth hp 0 = some (.cells 99 cs)) (hcs : cs = [.int .i64 k, .int .i64 m, .int .i64 c, .own 1 N]) (hN : N = S.length) (h1 : geth hp 1 = some (.row 141 4 es)) (he : es = S.map xsc) : QFun X [.tmp t] 2 (.int .i64 V) h .ret ⟨sl, hp, nx⟩ := by
 subst hV hcs he;subst hN;exact fin_xi hh (qabd [] hm ⟨by show Co (gets sl t) _; rw [ht]; exact Co.refl _, trivial⟩ ⟨⟨_, h0, rfl, CoL.refl _⟩, ⟨_, h1, rfl, rfl, by rw [qab9]; exact CoLL.refl _⟩, trivial⟩ rfl (Nat.le_refl 2))
def qacj (S : XTab) (xs : List Int) : Nat × Bool := qadi S xs S.length (qagv S.length xs)
def qap5 (k m : Int) (S : XTab) (xs : List Int) : Int := if (xs.length : Int) ≠ k then 2 else if (qacj S xs).2 = true then 7 else if m ≤ cnt S ∨ (S.length : Int) - 1 ≤ cnt S then 10 else 0
def addX (k m : Int) (S : XTab) (s : XSlot) : XTab := if qap5 k m S s.keys = 0 then S.set (qacj S s.keys).1 (some s) else S
theorem xadd_s (k m : Int) (S : XTab) (hS : 0 < S.length ∧ S.length ≤ 1048576) (hsm : qaii S) (a : Int) (xs ys : List Int) (hx : xs.length ≤ 1000000) (hy : ys.length ≤ 1000000) (hf : ∃ e : Nat, S[e]? = some none) (hc : qap5 k m S xs = 0 → cnt (S.set (qacj S xs).1 (some ⟨xs, a, ys⟩)) = cnt S + 1) : SCalls Tryz.prog 82 [.ptr 0 0, nums .u64 xs, .agg (hitc a ys)] (xobj k m (cnt S) S) 2 (.int .i64 (qap5 k m S xs)) (xobj k m (cnt (addX k m S ⟨xs, a, ys⟩)) (addX k m S ⟨xs, a, ys⟩)) := by
 have k1 := fun q => qass k m S hS hsm xs hx hf q
 have k2 := fun q => qbiv xs hx q
 have k3 := fun q => qbk3 a ys hy q
 have hcl : cnt S ≤ S.length := List.countP_le_length;have hv : qap5 k m S xs = if (xs.length : Int) ≠ k then 2 else if (qacj S xs).2 = true then 7 else if m ≤ cnt S ∨ (S.length : Int) - 1 ≤ cnt S then 10 else 0 := rfl
 have hr : addX k m S ⟨xs, a, ys⟩ = if qap5 k m S xs = 0 then S.set (qacj S xs).1 (some ⟨xs, a, ys⟩) else S := rfl
 have hR : (qacj S xs).1 < S.length := qahh _ _ (Nat.mod_lt _ hS.1);rw [show qadi S xs S.length (qagv S.length xs) = qacj S xs from rfl] at k1;generalize qap5 k m S xs = V at hv hr hc ⊢;generalize addX k m S ⟨xs, a, ys⟩ = S' at hr ⊢;obtain ⟨R, b, hp⟩ : ∃ R b, qacj S xs = (R, b) := ⟨_, _, rfl⟩
 rw [hp] at k1 hv hr hR hc;simp only at k1 hv hr hR hc;generalize hn : cnt S = n at *;replace hv := Lib.hid hv;replace hr := Lib.hid hr;replace hc := Lib.hid hc;replace hp := Lib.hid hp;replace hn := Lib.hid hn;replace hf := Lib.hid hf;replace hsm := Lib.hid hsm;unfold nums at k1 k2;unfold hitc nums at k3;obtain ⟨H2, hH2⟩ : ∃ H, H = xobj k m (cnt S') S' := ⟨_, rfl⟩
 rw [← hH2];replace hH2 := Lib.hid hH2;unfold xobj at k1 ⊢;refine yF (N := 65) Tryz.func82 c_xadd ?_;rintro X hP hN hm;unfold c_xadd hitc nums;by_cases h1 : (xs.length : Int) = k
 ·subst h1;have w1 : IntKind.i64.wrap ((S.length : Int) - 1) = (S.length : Int) - 1 := IntWalk.i64_in _ ⟨by omega, by omega⟩;have w2 : IntKind.i64.wrap ((n : Int) + 1) = (n : Int) + 1 := qabo (by omega) (by omega);cases b with
  | true =>
   repeat' (first | ((with_reducible refine qaab ?_); (try rw [hP]); simp -implicitDefEqProofs [w1, w2, *]) | ((with_reducible refine qaai ?_); (try simp -implicitDefEqProofs [w1, w2, *])) | refine yA ?_ | with_reducible refine yB ?_ ?_ | ((with_reducible refine yC fun h => ?_); have h' := h; (try simp at h'); (try subst h')) | (refine yR (k1 _) ?_; simp -implicitDefEqProofs [w1, w2, *]) | exact trivial)
   have hV : V = 7 := by rw [hv.out, if_neg (by simp), if_pos rfl]
   have hS' : S' = S := by rw [hr.out, if_neg (by rw [hV]; decide)]
   subst hS';exact qae4 hm hV hH2.out rfl rfl (by rw [hn.out]) rfl rfl rfl
  | false =>
   repeat' (first | ((with_reducible first | refine qaab ?_ | refine qaaz (by rw [hP]; exact mixed) ?_); (try rw [hP]); simp -implicitDefEqProofs [w1, w2, *]) | ((with_reducible refine qaai ?_); (try simp -implicitDefEqProofs [w1, w2, *])) | ((with_reducible refine qacn (fun h => ?_) (fun h => ?_)) <;> have h' := h <;> (try simp at h') <;> (try subst h') <;> simp -implicitDefEqProofs [w1, w2, *]) | refine yA ?_ | with_reducible refine yB ?_ ?_ | ((with_reducible refine yC fun h => ?_); have h' := h; (try simp at h'); (try subst h')) | (refine yR (k1 _) ?_; simp -implicitDefEqProofs [w1, w2, *]) | (refine qabe (k2 _) ?_; simp -implicitDefEqProofs [w1, w2, *]) | (refine qabe (k3 _) ?_; simp -implicitDefEqProofs [w1, w2, *]) | exact trivial)
   iterate 2
    ·have hV : V = 10 := by rw [hv.out, if_neg (by simp), if_neg (by simp), if_pos (by omega)]
     have hS' : S' = S := by rw [hr.out, if_neg (by rw [hV]; decide)]
     subst hS';exact qae4 hm hV hH2.out rfl rfl (by rw [hn.out]) rfl rfl rfl
   ·have hV : V = 0 := by rw [hv.out, if_neg (by simp), if_neg (by simp), if_neg (by omega)]
    have hS' : S' = S.set R (some ⟨xs, a, ys⟩) := by rw [hr.out, if_pos hV]
    have hc' := hc.out hV;rw [← hS'] at hc';refine qae4 hm hV hH2.out rfl rfl (by rw [hc']; rfl) (by rw [hS', List.length_set]) rfl (by rw [hS', List.map_set, qay7 (qbiu _)]; rfl)
 ·repeat' (first | ((with_reducible refine qaab ?_); (try rw [hP]); simp -implicitDefEqProofs [h1, *]) | ((with_reducible refine qaai ?_); (try simp -implicitDefEqProofs [h1, *])) | refine yA ?_ | with_reducible refine yB ?_ ?_ | ((with_reducible refine yC fun h => ?_); have h' := h; (try simp at h'); (try subst h')) | exact trivial)
  ·have hV : V = 2 := by rw [hv.out, if_pos h1]
   have hS' : S' = S := by rw [hr.out, if_neg (by rw [hV]; decide)]
   subst hS';exact qae4 hm hV hH2.out rfl rfl (by rw [hn.out]) rfl rfl rfl
  ·exact absurd rfl h1
theorem qadz {S : XTab} {xs : List Int} : ∀ (f i : Nat), (qadi S xs f i).2 = true → ∃ s : XSlot, S[(qadi S xs f i).1]? = some (some s) ∧ s.keys = xs
 | 0, i, h => by cases h
 | f + 1, i, h => by
  cases hs : S[i]? with
  | none => rw [qadi, hs] at h; cases h
  | some o =>
   cases o with
   | none => rw [qadi, hs] at h; cases h
   | some s =>
    by_cases e : s.keys = xs
    ·rw [qadi, hs]; simp only [if_pos e]; exact ⟨s, hs, e⟩
    ·rw [qadi, hs] at h ⊢;simp only [if_neg e] at h ⊢;exact qadz f _ h
def qaig (k : Int) (S : XTab) (xs : List Int) : Int := if (xs.length : Int) ≠ k then 2 else if (qacj S xs).2 = true then 0 else 9
def chgX (k : Int) (S : XTab) (s : XSlot) : XTab := if qaig k S s.keys = 0 then S.set (qacj S s.keys).1 (some s) else S
theorem xchg_s (k m : Int) (S : XTab) (hS : 0 < S.length ∧ S.length ≤ 1048576) (hsm : qaii S) (a : Int) (xs ys : List Int) (hx : xs.length ≤ 1000000) (hy : ys.length ≤ 1000000) (hf : ∃ e : Nat, S[e]? = some none) : SCalls Tryz.prog 85 [.ptr 0 0, nums .u64 xs, .agg (hitc a ys)] (xobj k m (cnt S) S) 2 (.int .i64 (qaig k S xs)) (xobj k m (cnt (chgX k S ⟨xs, a, ys⟩)) (chgX k S ⟨xs, a, ys⟩)) := by
 have k1 := fun q => qass k m S hS hsm xs hx hf q
 have k3 := fun q => qbk3 a ys hy q
 have hv : qaig k S xs = if (xs.length : Int) ≠ k then 2 else if (qacj S xs).2 = true then 0 else 9 := rfl
 have hr : chgX k S ⟨xs, a, ys⟩ = if qaig k S xs = 0 then S.set (qacj S xs).1 (some ⟨xs, a, ys⟩) else S := rfl
 have hR : (qacj S xs).1 < S.length := qahh _ _ (Nat.mod_lt _ hS.1);have hT : (qacj S xs).2 = true → ∃ s : XSlot, S[(qacj S xs).1]? = some (some s) ∧ s.keys = xs := qadz _ _;rw [show qadi S xs S.length (qagv S.length xs) = qacj S xs from rfl] at k1;generalize qaig k S xs = V at hv hr ⊢;generalize chgX k S ⟨xs, a, ys⟩ = S' at hr ⊢;obtain ⟨R, b, hp⟩ : ∃ R b, qacj S xs = (R, b) := ⟨_, _, rfl⟩
 rw [hp] at k1 hv hr hR hT;simp only at k1 hv hr hR hT;obtain ⟨n, hn⟩ : ∃ n, n = cnt S := ⟨_, rfl⟩
 rw [← hn] at k1 ⊢;replace hv := Lib.hid hv;replace hr := Lib.hid hr;replace hp := Lib.hid hp;replace hn := Lib.hid hn;replace hf := Lib.hid hf;replace hsm := Lib.hid hsm;unfold nums at k1;unfold hitc nums at k3;obtain ⟨H2, hH2⟩ : ∃ H, H = xobj k m (cnt S') S' := ⟨_, rfl⟩
 rw [← hH2];replace hH2 := Lib.hid hH2;unfold xobj at k1 ⊢;refine yF (N := 33) Tryz.func85 c_xchg ?_;rintro X hP hN hm;unfold c_xchg hitc nums;by_cases h1 : (xs.length : Int) = k
 ·subst h1;cases b with
  | true =>
   obtain ⟨s, hs, hk⟩ := hT rfl;clear hT;replace hs := Lib.hid hs;replace hk := Lib.hid hk;repeat' (first | refine yA ?_ | with_reducible refine yB ?_ ?_ | ((with_reducible refine yC fun h => ?_); have h' := h; (try simp at h'); (try subst h')) | refine yR (k1 _) ?_ | refine qabe (k3 _) ?_ | exact trivial)
   have hV : V = 0 := by rw [hv.out, if_neg (by simp), if_pos rfl]
   have hS' : S' = S.set R (some ⟨xs, a, ys⟩) := by rw [hr.out, if_pos hV]
   have hs2 : S[R] = some s := by
    have := hs.out;rw [List.getElem?_eq_getElem hR] at this; exact Option.some.inj this
   have hc : cnt S' = n := by
    have := qahx S R (some ⟨xs, a, ys⟩) hR;rw [hs2] at this;rw [hS', hn.out];simpa using this
   refine qae4 hm hV hH2.out rfl rfl (by rw [hc]) (by rw [hS', List.length_set]) rfl (by rw [hS', List.map_set, hs2, qacu, qacu]; show _ = (S.map xsc).set R [_, nums .u64 xs, _, _]; rw [← hk.out]; rfl)
  | false =>
   clear hT;repeat' (first | refine yA ?_ | with_reducible refine yB ?_ ?_ | ((with_reducible refine yC fun h => ?_); have h' := h; (try simp at h'); (try subst h')) | refine yR (k1 _) ?_ | exact trivial)
   have hV : V = 9 := by rw [hv.out, if_neg (by simp), if_neg (by simp)]
   have hS' : S' = S := by rw [hr.out, if_neg (by rw [hV]; decide)]
   subst hS';exact qae4 hm hV hH2.out rfl rfl (by rw [hn.out]) rfl rfl rfl
 ·clear hT;repeat' (first | ((with_reducible refine qaab ?_); (try rw [hP]); simp -implicitDefEqProofs [h1, *]) | ((with_reducible refine qaai ?_); (try simp -implicitDefEqProofs [h1, *])) | refine yA ?_ | with_reducible refine yB ?_ ?_ | ((with_reducible refine yC fun h => ?_); have h' := h; (try simp at h'); (try subst h')) | exact trivial)
  ·have hV : V = 2 := by rw [hv.out, if_pos h1]
   have hS' : S' = S := by rw [hr.out, if_neg (by rw [hV]; decide)]
   subst hS';exact qae4 hm hV hH2.out rfl rfl (by rw [hn.out]) rfl rfl rfl
  ·exact absurd rfl h1
def qaib (k : Int) (S : XTab) (xs : List Int) : Option XSlot := if (xs.length : Int) ≠ k then none else if (qacj S xs).2 = true then S[(qacj S xs).1]?.getD none else none
def qau9 (o : Option XSlot) : SV := match o with
 | some s => .tup [.agg (hitc s.act s.args), .bool true]
 | none => .tup [.agg (hitc 0 []), .bool false]
theorem qalv {X : Cx} {sl : Sl} {hp : Hp} {t u nx id n : Nat} {h : Hp} {k m : Int} {c : Nat} {S : XTab} {ty : TypeId} {cs ds : List SV} {v r : SV} (hm : X.m = 2) (hid : 2 ≤ id) (hne : t ≠ u) (hv : gets sl t = v) (hN : NoN v) (hu : gets sl u = .ptr id 0) (hc : geth hp id = some (.cells ty cs)) (hh : h = xobj k m c S) (h0 : geth hp 0 = some (.cells 99 [.int .i64 k, .int .i64 m, .int .i64 c, .own 1 S.length])) (h1 : geth hp 1 = some (.row 141 4 (S.map xsc))) (ha : qag8 X.P ty = some true) (hn : qab8 X.P ty = some n) (hl : ds.length = n) (e : CoL cs ds) (hr : r = .tup [.agg ds, v]) (hd : ∀ σ, ds.map (Go.Proofs.YtalejfkholifpaaGreat.ren σ) = ds) : QFun X [.cell u ty, .tmp t] 2 r h .ret ⟨sl, hp, nx⟩ := by
 subst hr hl hh;have hw : Wk X ⟨sl, hp, nx⟩ ⟨[(u, .ptr 2 0), (t, v)], [(0, .cells 99 [.int .i64 k, .int .i64 m, .int .i64 c, .own 1 S.length]), (1, .row 141 4 (S.map xsc)), (2, .cells ty ds)], 3⟩ := by
  refine qabd [(2, id)] hm ⟨?_, ?_, trivial⟩ ⟨⟨_, h0, rfl, CoL.refl _⟩, ⟨_, h1, rfl, rfl, by rw [qab9]; exact CoLL.refl _⟩, ⟨_, hc, rfl, by rw [hd]; exact e⟩, trivial⟩ ?_ (by simp)
  ·rw [hu]; exact Co.refl _
  ·rw [hv, hN]; exact Co.refl _
  ·have a1 : ¬ (0 = id) := by omega
   have a2 : ¬ (1 = id) := by omega
   have a3 : ¬ (id = 0) := by omega
   have a4 : ¬ (id = 1) := by omega
   simp [qabc, diag, idsH, List.range_succ, a1, a2, a3, a4]
 refine ⟨_, hw, ?_, ⟨rfl, rfl, trivial⟩, by simp⟩;simp [qafc, resL, resV, one_, gets, ha, SOp.run, SX.ev, geth, hne, hne.symm, hn]
theorem xfind_s (k m : Int) (S : XTab) (hS : 0 < S.length ∧ S.length ≤ 1048576) (hsm : qaii S) (xs : List Int) (hx : xs.length ≤ 1000000) (hf : ∃ e : Nat, S[e]? = some none) : SCalls Tryz.prog 87 [.ptr 0 0, nums .u64 xs] (xobj k m (cnt S) S) 2 (qau9 (qaib k S xs)) (xobj k m (cnt S) S) := by
 have k1 := fun q => qass k m S hS hsm xs hx hf q
 have hv : qaib k S xs = if (xs.length : Int) ≠ k then none else if (qacj S xs).2 = true then S[(qacj S xs).1]?.getD none else none := rfl
 have hR : (qacj S xs).1 < S.length := qahh _ _ (Nat.mod_lt _ hS.1);have hT : (qacj S xs).2 = true → ∃ s : XSlot, S[(qacj S xs).1]? = some (some s) ∧ s.keys = xs := qadz _ _;rw [show qadi S xs S.length (qagv S.length xs) = qacj S xs from rfl] at k1;generalize qaib k S xs = V at hv ⊢;obtain ⟨R, b, hp⟩ : ∃ R b, qacj S xs = (R, b) := ⟨_, _, rfl⟩
 rw [hp] at k1 hv hR hT;simp only at k1 hv hR hT;obtain ⟨n, hn⟩ : ∃ n, n = cnt S := ⟨_, rfl⟩
 rw [← hn] at k1 ⊢;obtain ⟨H2, hH2⟩ : ∃ H, H = xobj k m n S := ⟨_, rfl⟩
 obtain ⟨W, hW⟩ : ∃ W, W = qau9 V := ⟨_, rfl⟩
 rw [← hW];suffices h : SCalls Tryz.prog 87 [.ptr 0 0, nums .u64 xs] (xobj k m n S) 2 W H2 by rw [← hH2]; rw [← hH2] at h; exact h
 replace hW := Lib.hid hW;replace hH2 := Lib.hid hH2;replace hv := Lib.hid hv;replace hp := Lib.hid hp;replace hn := Lib.hid hn;replace hf := Lib.hid hf;have hsm' := hsm;replace hsm := Lib.hid hsm;unfold nums at k1;unfold xobj at k1 ⊢;refine yF (N := 34) Tryz.func87 qbj1 ?_;rintro X hP hN hm;unfold qbj1 nums;by_cases h1 : (xs.length : Int) = k
 ·subst h1;cases b with
  | true =>
   obtain ⟨s, hs, hk⟩ := hT rfl;have k3 := fun q => qbk3 s.act s.args (hsm' R s hs).2 q
   unfold hitc nums at k3;clear hT hsm';have hs2 : S[R] = some s := by
    rw [List.getElem?_eq_getElem hR] at hs; exact Option.some.inj hs
   replace hs := Lib.hid hs;replace hk := Lib.hid hk;repeat' (first | ((with_reducible refine qaab ?_); (try rw [hP]); simp -implicitDefEqProofs [hs2, qacu, nums, *]) | ((with_reducible refine qaai ?_); (try simp -implicitDefEqProofs [hs2, qacu, nums, *])) | refine yA ?_ | with_reducible refine yB ?_ ?_ | ((with_reducible refine yC fun h => ?_); have h' := h; (try simp at h'); (try subst h')) | (refine yR (k1 _) ?_; simp -implicitDefEqProofs [hs2, qacu, nums, *]) | (refine qabe (k3 _) ?_; simp -implicitDefEqProofs [hs2, qacu, nums, *]) | exact trivial)
   have hV : V = some s := by rw [hv.out, if_neg (by simp), if_pos rfl, hs.out]; rfl
   exact qalv (ds := hitc s.act s.args) hm (Nat.le_refl 2) (by decide) rfl (fun σ => rfl) rfl rfl hH2.out rfl rfl (by rw [hP]; with_reducible exact qae5) (by rw [hP]; exact qad3) rfl (CoL.refl _) (by rw [hW.out, hV]; rfl) (fun σ => rfl)
  | false =>
   clear hT hsm';repeat' (first | refine yA ?_ | with_reducible refine yB ?_ ?_ | ((with_reducible refine yC fun h => ?_); have h' := h; (try simp at h'); (try subst h')) | refine yR (k1 _) ?_ | exact trivial)
   have hV : V = none := by rw [hv.out, if_neg (by simp), if_neg (by simp)]
   exact qalv (ds := hitc 0 []) hm (Nat.le_refl 2) (by decide) rfl (fun σ => rfl) rfl rfl hH2.out rfl rfl (by rw [hP]; with_reducible exact qae5) (by rw [hP]; exact qad3) rfl ⟨Co.refl _, Co.nilsl _, trivial⟩ (by rw [hW.out, hV]; rfl) (fun σ => rfl)
 ·clear hT hsm';repeat' (first | ((with_reducible refine qaab ?_); (try rw [hP]); simp -implicitDefEqProofs [h1, *]) | ((with_reducible refine qaai ?_); (try simp -implicitDefEqProofs [h1, *])) | refine yA ?_ | with_reducible refine yB ?_ ?_ | ((with_reducible refine yC fun h => ?_); have h' := h; (try simp at h'); (try subst h')) | exact trivial)
  ·have hV : V = none := by rw [hv.out, if_pos h1]
   exact qalv (ds := hitc 0 []) hm (Nat.le_refl 2) (by decide) rfl (fun σ => rfl) rfl rfl hH2.out rfl rfl (by rw [hP]; with_reducible exact qae5) (by rw [hP]; exact qad3) rfl ⟨Co.refl _, Co.nilsl _, trivial⟩ (by rw [hW.out, hV]; rfl) (fun σ => rfl)
  ·exact absurd rfl h1
theorem qase {N a b : Nat} (ha : a < N) (hb : b < N) : Int.tmod ((b : Int) - a + N) N = (dist N a b : Nat) := by
 rw [Int.tmod_eq_emod_of_nonneg (by omega)];unfold dist;split
 ·rw [show (b : Int) - a + N = ((b - a : Nat) : Int) + N * 1 by omega, Int.add_mul_emod_self_left, Int.emod_eq_of_lt (by omega) (by omega)]
 ·rw [Int.emod_eq_of_lt (by omega) (by omega)]; omega
theorem qa94 {N a : Nat} (ha : a < N) : Int.tmod ((a : Int) + 1) N = (addm N a 1 : Nat) := by
 rw [Int.tmod_eq_emod_of_nonneg (by omega), ← qa9m ha (by omega)]; rfl
theorem qbbp {N a i g : Nat} (ha : a < N) (hi : i < N) (hne : a ≠ i) (h : dist N a i < g + 1) : dist N (addm N a 1) i < g := by
 unfold dist addm at *
 (repeat' split at h) <;> (repeat' split) <;> omega
theorem qbjq {hm : List Int → Nat} {S : XTab} (h : qa9q hm S) {R : Nat} {s : XSlot} (hR : S[R]? = some (some s)) : HInv hm S R := by
 have hl := qacs hR;refine ⟨h.lt, fun j t _ ht d hd => ?_, fun j k t u _ _ ht hu he => h.uniq j k t u (by have := qacs ht; omega) (by have := qacs hu; omega) ht hu he, ?_⟩
 ·rcases h.path j t (by have := qacs ht; omega) ht d hd with e | e
  ·have := qagc (h.lt t.keys) (show d ≤ S.length by have := qacs ht; have := h.lt t.keys; unfold dist at hd; split at hd <;> omega);omega
  ·exact .inr e
 ·obtain ⟨e, -, he⟩ := h.free;exact ⟨e, fun e1 => (by rw [e1, hR] at he; cases he), he⟩
theorem qazd {hm : List Int → Nat} {S : XTab} {i f k : Nat} (h : S[addm S.length k 1]? = some none) : qap8 hm S i (f + 1) k = none := by rw [qap8, h]
theorem qazc {hm : List Int → Nat} {S : XTab} {i f k : Nat} {s : XSlot} (h : S[addm S.length k 1]? = some (some s)) : qap8 hm S i (f + 1) k = if dist S.length i (addm S.length k 1) ≤ dist S.length (hm s.keys) (addm S.length k 1) then some (addm S.length k 1) else qap8 hm S i f (addm S.length k 1) := by rw [qap8, h]
theorem qbbl {hm : List Int → Nat} {f : Nat} {S : XTab} {i : Nat} (h : HInv hm S i) (hi : i < S.length) (hfr : ∃ e : Nat, e ≠ i ∧ S[e]? = some none ∧ dist S.length i e ≤ f + 1) {k : Nat} (hk : qap8 hm (S.set i none) i S.length i = some k) : ∃ s, S[k]? = some (some s) ∧ k ≠ i ∧ HInv hm ((S.set i none).set i (some s)) k ∧ ∃ e : Nat, e ≠ k ∧ ((S.set i none).set i (some s))[e]? = some none ∧ dist S.length k e ≤ f := by
 obtain ⟨e0, he0, h10, h20⟩ := hfr;have hS := qa05 h none;have hl : (S.set i none).length = S.length := List.length_set ..;have hi' : i < (S.set i none).length := by rw [hl]; exact hi
 obtain ⟨e, he, h1, h4⟩ := qbjj hi' hS.free;have g1 : ∀ j, j ≠ i → (S.set i none)[j]? = S[j]? := fun j hj => by rw [qack hi, if_neg hj]
 have d0 : dist (S.set i none).length i i = 0 := by unfold dist; simp
 have hel := qacs h1;have hpos : 0 < dist (S.set i none).length i e := by unfold dist; split <;> omega
 have hlt := qahw hi' hel;rcases qal6 hS hi' he h1 h4 S.length i hi' (by omega) (by omega) (fun d h5 h6 => by omega) with ⟨k2, s, q1, q2, q3, q4, q5⟩ | ⟨q1, q2⟩
 ·rw [hk] at q1;obtain rfl := Option.some.inj q1;have hks : S[k]? = some (some s) := by rw [← g1 k q2]; exact q3
  have hm2 := qas2 hS hi' q2 q3 q4;have hkl := qacs hks;have hke0 : dist S.length i k < dist S.length i e0 := by
   rcases Nat.lt_or_ge (dist S.length i k) (dist S.length i e0) with h9 | h9
   ·exact h9
   ·exfalso;rw [hl] at q5;have hp0 : 0 < dist S.length i e0 := by have := qacs h10; unfold dist; split <;> omega
    have hne : dist S.length i e0 ≠ dist S.length i k := fun e1 => by
     have a1 := qad7 hi (qacs h10);have a2 := qad7 hi hkl;rw [e1, a2] at a1;rw [← a1, hks] at h10; cases h10
    obtain ⟨t, ht⟩ := h4 (dist S.length i e0) hp0 (by rw [hl]; omega);rw [hl, qad7 hi (qacs h10), g1 e0 he0, h10] at ht;cases ht
  refine ⟨s, hks, q2, hm2, e0, (fun e1 => (by rw [e1, hks] at h10; cases h10)), ?_, ?_⟩
  ·rw [List.getElem?_set, if_neg (Ne.symm he0), g1 e0 he0]; exact h10
  ·have := qacs h10;unfold dist at hke0 h20 ⊢
   (repeat' split at *) <;> (repeat' split) <;> omega
 ·rw [hk] at q1; cases q1
theorem qa1p {hm : List Int → Nat} {f : Nat} {S : XTab} {i : Nat} (h : qap8 hm (S.set i none) i S.length i = none) : qak9 hm (f + 1) S i = S.set i none := by rw [qak9, h]
theorem qa1o {hm : List Int → Nat} {f : Nat} {S : XTab} {i k : Nat} {s : XSlot} (h : qap8 hm (S.set i none) i S.length i = some k) (hk : S[k]? = some (some s)) : qak9 hm (f + 1) S i = qak9 hm f ((S.set i none).set i (some s)) k := by rw [qak9, h]; simp only [hk, Option.getD_some]
def drpX (k : Int) (S : XTab) (xs : List Int) : XTab := if qaig k S xs = 0 then qak9 (qagv S.length) S.length S (qacj S xs).1 else S
theorem qaiu {S : XTab} (h : qaii S) {i : Nat} (hi : i < S.length) (o : Option XSlot) (ho : ∀ s, o = some s → s.keys.length ≤ 1000000 ∧ s.args.length ≤ 1000000) : qaii (S.set i o) := fun j s hs => by
 rw [qack hi] at hs;split at hs
 ·exact ho s (Option.some.inj hs)
 ·exact h j s hs
set_option maxHeartbeats 1000000 in
theorem xdrop_s (k m : Int) (S : XTab) (hS : 0 < S.length ∧ S.length ≤ 1048576) (hsm : qaii S) (xs : List Int) (hx : xs.length ≤ 1000000) (hI : qa9q (qagv S.length) S) : SCalls Tryz.prog 86 [.ptr 0 0, nums .u64 xs] (xobj k m (cnt S) S) 2 (.int .i64 (qaig k S xs)) (xobj k m (cnt (drpX k S xs)) (drpX k S xs)) := by
 have hf : ∃ e : Nat, S[e]? = some none := let ⟨e, _, h⟩ := hI.free; ⟨e, h⟩
 have k1 := fun q => qass k m S hS hsm xs hx hf q
 have hv : qaig k S xs = if (xs.length : Int) ≠ k then 2 else if (qacj S xs).2 = true then 0 else 9 := rfl
 have hr : drpX k S xs = if qaig k S xs = 0 then qak9 (qagv S.length) S.length S (qacj S xs).1 else S := rfl
 have hR : (qacj S xs).1 < S.length := qahh _ _ (Nat.mod_lt _ hS.1);have hT : (qacj S xs).2 = true → ∃ s : XSlot, S[(qacj S xs).1]? = some (some s) ∧ s.keys = xs := qadz _ _;rw [show qadi S xs S.length (qagv S.length xs) = qacj S xs from rfl] at k1;generalize qaig k S xs = V at hv hr ⊢;generalize drpX k S xs = S' at hr ⊢;obtain ⟨R, b, hp⟩ : ∃ R b, qacj S xs = (R, b) := ⟨_, _, rfl⟩
 rw [hp] at k1 hv hr hR hT;simp only at k1 hv hr hR hT;obtain ⟨n, hn⟩ : ∃ n, n = cnt S := ⟨_, rfl⟩
 rw [← hn] at k1 ⊢;have hnl : n ≤ S.length := by rw [hn]; exact List.countP_le_length
 replace hv := Lib.hid hv;replace hr := Lib.hid hr;replace hp := Lib.hid hp;replace hn := Lib.hid hn;replace hf := Lib.hid hf;replace hI := Lib.hid hI;replace hsm := Lib.hid hsm;unfold nums at k1;obtain ⟨H2, hH2⟩ : ∃ H, H = xobj k m (cnt S') S' := ⟨_, rfl⟩
 rw [← hH2];replace hH2 := Lib.hid hH2;unfold xobj at k1 ⊢;refine yF (N := 111) Tryz.func86 qbj2 ?_;rintro X hP hN hm;unfold qbj2 nums;by_cases h1 : (xs.length : Int) = k
 ·subst h1;cases b with
  | true =>
   obtain ⟨s, hs, hk⟩ := hT rfl;clear hT;have hV : V = 0 := by rw [hv.out, if_neg (by simp), if_pos rfl]
   have hS' : S' = qak9 (qagv S.length) S.length S R := by rw [hr.out, if_pos hV]
   subst hV;have hi0 := qbjq hI.out hs;have hfr : ∃ e : Nat, e ≠ R ∧ S[e]? = some none ∧ dist S.length R e ≤ S.length := by
    obtain ⟨e, h1, h2⟩ := hi0.free;exact ⟨e, h1, h2, Nat.le_of_lt (qahw hR (qacs h2))⟩
   have hds := qamp S.length S R hi0 hR hfr;rw [← hS'] at hds;have hcn : cnt S' + 1 = n := by
    have := qahx S R none hR;rw [hds.2.2.2, hn.out];have hs2 : S[R] = some s := by rw [List.getElem?_eq_getElem hR] at hs; exact Option.some.inj hs
    rw [hs2] at this;simpa using this
   have hlS' : S'.length = S.length := hds.2.1;clear hds;obtain ⟨c, hc⟩ : ∃ c, cnt S' = c := ⟨_, rfl⟩
   rw [hc] at hcn;subst hcn;have w1 : IntKind.i64.wrap (c : Int) = (c : Int) := IntWalk.i64_in _ ⟨by omega, by omega⟩;replace hs := Lib.hid hs;replace hk := Lib.hid hk;replace hc := Lib.hid hc;replace hlS' := Lib.hid hlS';replace hS' := Lib.hid hS';replace hfr := Lib.hid hfr;replace hi0 := Lib.hid hi0;repeat' (first | ((with_reducible refine qaab ?_); (try rw [hP]); simp -implicitDefEqProofs [w1, *]) | ((with_reducible refine qaai ?_); (try simp -implicitDefEqProofs [w1, *])) | refine yA ?_ | with_reducible refine yB ?_ ?_ | ((with_reducible refine yC fun h => ?_); have h' := h; (try simp at h'); (try subst h')) | (refine yR (k1 _) ?_; simp -implicitDefEqProofs [w1, *]) | exact trivial)
   replace hS' := hS'.out;replace hfr := hfr.out;replace hi0 := hi0.out;replace hsm := hsm.out;clear hI hf hs hk hn hv hr hp k1 hlS';obtain ⟨N, hNl⟩ : ∃ N, N = S.length := ⟨_, rfl⟩
   rw [← hNl] at hS' hi0 hR hS hfr ⊢;have hSl : S.length = N := hNl.symm;clear hNl hnl;refine qabf (qaco (fun s (z : XTab × Nat × Nat) => s.turn [(5, .int .i64 z.2.1)] [(1, .row 141 4 (z.1.map xsc))]) (fun z => z.1.length = N ∧ z.2.1 < N ∧ qaii z.1 ∧ HInv (qagv N) z.1 z.2.1 ∧ S' = qak9 (qagv N) z.2.2 z.1 z.2.1 ∧ ∃ e : Nat, e ≠ z.2.1 ∧ z.1[e]? = some none ∧ dist N z.2.1 e ≤ z.2.2) (fun z => z.2.2) (S, R, N) ?_ ⟨hSl, hR, hsm, hi0, hS', hfr⟩ ?_)
   ·repeat' (first | exact yD | refine yE ?_ | with_reducible refine yB ?_ ?_ | exact trivial)
   rintro J hJ ⟨T, i, f⟩ ⟨g1, g2, g3, g4, g5, g6⟩;unfold qaog;simp only [zT, puth, Nat.reduceEqDiff, reduceIte, Nat.reduceAdd] at g1 g2 g3 g4 g5 g6 ⊢;clear hS' hi0 hsm hfr hSl hR;obtain ⟨f, rfl⟩ : ∃ g, f = g + 1 := ⟨f - 1, by
    obtain ⟨e, e1, e2, e3⟩ := g6;have := qacs e2;unfold dist at e3;split at e3 <;> omega⟩
   have hTi : T[i]? = some T[i] := List.getElem?_eq_getElem (by omega);obtain ⟨T1, hT1⟩ : ∃ T1, T1 = T.set i none := ⟨_, rfl⟩
   have hset : (T.map xsc).set i (((((xsc T[i]).set 0 (.bool false)).set 1 .nilsl).set 2 (.int .i64 0)).set 3 .nilsl) = T1.map xsc := by rw [qay7 (qbiu _), hT1, List.map_set]; rfl
   have hl1 : T1.length = N := by rw [hT1, List.length_set, g1]
   have h1i : T1[i]? = some none := by rw [hT1, qack (by omega), if_pos rfl]
   have hsm1 : qaii T1 := by rw [hT1]; exact qaiu g3 (by omega) none (fun s h => by cases h)
   obtain ⟨G, hG⟩ : ∃ G, G = qap8 (qagv N) T1 i N i := ⟨_, rfl⟩
   have hsc : qap8 (qagv N) (T.set i none) i T.length i = G := by rw [hG, hT1, g1]
   have hstep := fun p (e : G = some p) => qbbl g4 (by omega) (by rw [g1]; exact g6) (k := p) (by rw [hsc]; exact e)
   have hend : G = none → S' = T1 := fun e => by rw [g5, qa1p (by rw [hsc]; exact e), hT1]
   have hgo : ∀ p s, G = some p → T[p]? = some (some s) → S' = qak9 (qagv N) f (T1.set i (some s)) p := fun p s e h => by rw [g5, qa1o (by rw [hsc]; exact e) h, hT1]
   rw [← hT1] at hstep;replace g3 := Lib.hid g3;replace g4 := Lib.hid g4;replace g5 := Lib.hid g5;replace g6 := Lib.hid g6;replace hG := Lib.hid hG;replace hsc := Lib.hid hsc;replace hT1 := Lib.hid hT1;replace hstep := Lib.hid hstep;replace hend := Lib.hid hend;replace hgo := Lib.hid hgo;replace hsm1 := Lib.hid hsm1;replace h1i := Lib.hid h1i;repeat' (first | ((with_reducible refine qaab ?_); (try rw [hP]); simp -implicitDefEqProofs [g1, hset, hTi, *]) | refine yA ?_ | exact trivial)
   have hJo := hJ;have hb0 : dist N (addm N i 1) i < N := qahw (qagc g2 (by omega)) g2;replace hb0 := Lib.hid hb0;refine qabf (qaco (fun s (z : Nat × Nat) => s.turn [(7, .int .i64 z.1)] []) (fun z => z.1 < N ∧ G = qap8 (qagv N) T1 i z.2 z.1 ∧ dist N (addm N z.1 1) i < z.2) (fun z => z.2) (i, N) ?_ ⟨g2, hG.out, hb0.out⟩ ?_)
   ·repeat' (first | exact yD | refine yE ?_ | with_reducible refine yB ?_ ?_ | exact trivial)
   rintro J hJ ⟨j, g⟩ ⟨a1, a2, a3⟩;unfold qaoh;simp only [zT, puth, Nat.reduceEqDiff, reduceIte, Nat.reduceAdd] at a1 a2 a3 ⊢;obtain ⟨g, rfl⟩ : ∃ h, g = h + 1 := ⟨g - 1, by omega⟩
   obtain ⟨p, hp⟩ : ∃ p, p = addm N j 1 := ⟨_, rfl⟩
   have hpl : p < N := by rw [hp]; exact qagc a1 (by omega)
   have wj : IntKind.i64.wrap ((j : Int) + 1) = (j : Int) + 1 := qabo (by omega) (by omega);have tj : Int.tmod ((j : Int) + 1) (N : Int) = (p : Int) := by rw [qa94 a1, ← hp]
   have hN0 : ¬ N = 0 := by omega
   have hpl1 : p < T1.length := by omega
   rcases hq : T1[p] with _ | s
   ·have hq' : T1[p]? = some none := by rw [List.getElem?_eq_getElem hpl1, hq]
    have hGn : G = none := by rw [a2, qazd (by rw [hl1, ← hp]; exact hq')]
    have hS1 : S' = T1 := hend.out hGn;clear a2 a3 hp;subst hS1;repeat' (first | ((with_reducible refine qaab ?_); (try rw [hP]); simp -implicitDefEqProofs [wj, tj, hN0, hl1, hq', qaf0, *]) | refine yA ?_ | with_reducible refine yB ?_ ?_ | ((with_reducible refine yC fun h => ?_); have h' := h; (try simp at h'); (try subst h')) | exact trivial)
    exact qae4 hm rfl hH2.out rfl rfl (by rw [hc.out]) hl1.symm rfl rfl
   ·have hq' : T1[p]? = some (some s) := by rw [List.getElem?_eq_getElem hpl1, hq]
    obtain ⟨hh, hhh⟩ : ∃ hh, hh = qagv N s.keys := ⟨_, rfl⟩
    have hhl : hh < N := by rw [hhh]; exact Nat.mod_lt _ (by omega)
    rw [qazc (by rw [hl1, ← hp]; exact hq'), hl1, ← hp, ← hhh] at a2;have k2 := fun q => home_o (xs.length : Int) m c T1 (by rw [hl1]; exact hS) s.keys (hsm1.out p s hq').1 q
    rw [hl1, ← hhh] at k2;unfold nums xobj at k2;rw [hl1] at k2;have w2 : IntKind.i64.wrap ((p : Int) - hh) = (p : Int) - hh := IntWalk.i64_in _ ⟨by omega, by omega⟩;have w3 : IntKind.i64.wrap ((p : Int) - hh + N) = (p : Int) - hh + N := IntWalk.i64_in _ ⟨by omega, by omega⟩;have w4 : IntKind.i64.wrap ((p : Int) - i) = (p : Int) - i := IntWalk.i64_in _ ⟨by omega, by omega⟩;have w5 : IntKind.i64.wrap ((p : Int) - i + N) = (p : Int) - i + N := IntWalk.i64_in _ ⟨by omega, by omega⟩;have t2 := qase hhl hpl;have t3 := qase g2 hpl;have hpi : p ≠ i := fun e => by rw [e, h1i.out] at hq'; cases hq'
    have hd : dist N (addm N p 1) i < g := by
     rw [← hp] at a3;exact qbbp hpl g2 hpi a3
    generalize dist N hh p = d1 at a2 t2;generalize dist N i p = d2 at a2 t3;have hq2 := hq';clear a3;replace hp := Lib.hid hp;replace hhh := Lib.hid hhh;replace hd := Lib.hid hd;by_cases hc2 : d2 ≤ d1
    ·rw [if_pos hc2] at a2;obtain ⟨s2, b1, b2, b3, b4⟩ := hstep.out p a2;have b5 : s2 = s := by
      have := hq';rw [hT1.out, qack (by omega), if_neg hpi, b1] at this;exact Option.some.inj (Option.some.inj this)
     subst b5;have hS2 := hgo.out p s2 a2 b1;obtain ⟨T2, hT2⟩ : ∃ T2, T2 = T1.set i (some s2) := ⟨_, rfl⟩
     have hset2 : (T1.map xsc).set i [.bool true, .view 1 (s2.keys.map fun x => [.int .u64 x]), .int .i64 s2.act, .view 1 (s2.args.map fun x => [.int .u64 x])] = T2.map xsc := by rw [hT2, List.map_set]; rfl
     have hl2 : T2.length = N := by rw [hT2, List.length_set, hl1]
     have hsm2 : qaii T2 := by rw [hT2]; exact qaiu hsm1.out (by omega) _ (fun s h => by cases h; exact hsm1.out p _ hq')
     rw [← hT2] at b3 b4 hS2;have hi1 : T1[i]'(by omega) = none := by
      have := h1i.out;rw [List.getElem?_eq_getElem (by omega)] at this; exact Option.some.inj this
     rw [g1] at b4;replace hT2 := Lib.hid hT2;replace hS2 := Lib.hid hS2;replace b1 := Lib.hid b1;replace b3 := Lib.hid b3;replace b4 := Lib.hid b4;replace a2 := Lib.hid a2;replace hsm2 := Lib.hid hsm2;repeat' (first | ((with_reducible first | refine qaab ?_ | refine qaaz (by rw [hP]; exact mixed) ?_); (try rw [hP]); simp -implicitDefEqProofs [wj, tj, hN0, hl1, hq, hq2, qacu, qaf0, hi1, nums, w2, w3, w4, w5, t2, t3, hset2, *]) | ((with_reducible first | refine qaai ?_ | refine qabv ?_); (try simp -implicitDefEqProofs [wj, tj, hN0, hl1, hq, hq2, qacu, qaf0, hi1, nums, w2, w3, w4, w5, t2, t3, hset2, *])) | refine yA ?_ | with_reducible refine yB ?_ ?_ | ((with_reducible refine yC fun h => ?_); have h' := h; (try simp at h'); (try subst h')) | (refine yR (k2 _) ?_; simp -implicitDefEqProofs [wj, tj, hN0, hl1, hq, hq2, qacu, qaf0, hi1, nums, w2, w3, w4, w5, t2, t3, hset2, *]) | exact yD | refine yE ?_ | ((refine qabs hJo ((T2, p, f)) ?_ ?_ ?_; (with_reducible refine qabd [] hm ?_ ?_ ?_ ?_) <;> (try simp only [zT, puth, Nat.reduceEqDiff, reduceIte, Nat.reduceAdd]))) | exact trivial)
     all_goals exact ⟨hl2, hpl, hsm2.out, b3.out, hS2.out, b4.out⟩
    ·rw [if_neg hc2] at a2;replace a2 := Lib.hid a2;repeat' (first | ((with_reducible first | refine qaab ?_ | refine qaaz (by rw [hP]; exact mixed) ?_); (try rw [hP]); simp -implicitDefEqProofs [wj, tj, hN0, hl1, hq, hq2, qacu, nums, w2, w3, w4, w5, t2, t3, *]) | ((with_reducible refine qaai ?_); (try simp -implicitDefEqProofs [wj, tj, hN0, hl1, hq, hq2, qacu, nums, w2, w3, w4, w5, t2, t3, *])) | refine yA ?_ | with_reducible refine yB ?_ ?_ | ((with_reducible refine yC fun h => ?_); have h' := h; (try simp at h'); (try subst h')) | (refine yR (k2 _) ?_; simp -implicitDefEqProofs [wj, tj, hN0, hl1, hq, hq2, qacu, nums, w2, w3, w4, w5, t2, t3, *]) | exact yD | refine yE ?_ | ((refine qabs hJ ((p, g)) ?_ ?_ ?_; (with_reducible refine qabd [] hm ?_ ?_ ?_ ?_) <;> (try simp only [zT, puth, Nat.reduceEqDiff, reduceIte, Nat.reduceAdd]))) | exact trivial)
     all_goals exact ⟨hpl, a2.out, hd.out⟩
  | false =>
   clear hT;repeat' (first | refine yA ?_ | with_reducible refine yB ?_ ?_ | ((with_reducible refine yC fun h => ?_); have h' := h; (try simp at h'); (try subst h')) | refine yR (k1 _) ?_ | exact trivial)
   have hV : V = 9 := by rw [hv.out, if_neg (by simp), if_neg (by simp)]
   have hS' : S' = S := by rw [hr.out, if_neg (by rw [hV]; decide)]
   subst hS';exact qae4 hm hV hH2.out rfl rfl (by rw [hn.out]) rfl rfl rfl
 ·clear hT;repeat' (first | ((with_reducible refine qaab ?_); (try rw [hP]); simp -implicitDefEqProofs [h1, *]) | ((with_reducible refine qaai ?_); (try simp -implicitDefEqProofs [h1, *])) | refine yA ?_ | with_reducible refine yB ?_ ?_ | ((with_reducible refine yC fun h => ?_); have h' := h; (try simp at h'); (try subst h')) | exact trivial)
  ·have hV : V = 2 := by rw [hv.out, if_pos h1]
   have hS' : S' = S := by rw [hr.out, if_neg (by rw [hV]; decide)]
   subst hS';exact qae4 hm hV hH2.out rfl rfl (by rw [hn.out]) rfl rfl rfl
  ·exact absurd rfl h1
instance : PureF xec := ⟨fun _ _ => rfl, fun _ => rfl, fun x => qab4 _ rfl⟩
theorem fin_xw {X : Cx} {s : SSt} {t z : Nat} {es : List (List SV)} {h : Hp} {a b : SObj} (e : h = [(0, a), (1, b)]) (hw : Wk X s ⟨[(t, .view z es)], [(0, a), (1, b)], 2⟩) : QFun X [.tmp t] 2 (.view z es) h .ret s := by
 subst e;exact ⟨_, hw, by simp [qafc, resL, resV, one_, gets], ⟨rfl, rfl, trivial⟩, by simp⟩
theorem xsc_frz (g : Nat → Option SObj) (D : List Nat) (S : XTab) : S.map ((fun x => List.map (frz0 g D) x) ∘ xsc) = S.map xsc := List.map_congr_left fun x _ => by cases x <;> rfl
def qagw (S : XTab) : List XSlot := S.filterMap id
theorem xall_s (k m : Int) (n : Nat) (S : XTab) (hS : 0 < S.length ∧ S.length ≤ 1048576) (hsm : qaii S) (hlen : (qagw S).length ≤ 1000000) (L : List XSlot) (hLl : L.length = (qagw S).length) (hL : ∀ l' : List XSlot, l'.Perm (qagw S) → l'.Pairwise (fun a b => ¬ cmpL b.keys a.keys < 0) → l' = L) : SCalls Tryz.prog 84 [.ptr 0 0] (xobj k m n S) 2 (.view 6 (L.map xec)) (xobj k m n S) := by
 have k1 := fun nm q => qblg (qagw S) L hlen hL nm q
 obtain ⟨F, hF⟩ : ∃ F, F = qagw S := ⟨_, rfl⟩
 rw [← hF] at k1 hlen hLl;clear hL;obtain ⟨H2, hH2⟩ : ∃ H, H = xobj k m n S := ⟨_, rfl⟩
 suffices h : SCalls Tryz.prog 84 [.ptr 0 0] (xobj k m n S) 2 (.view 6 (L.map xec)) H2 by rw [← hH2]; rw [← hH2] at h; exact h
 replace hH2 := Lib.hid hH2;replace hsm := Lib.hid hsm;replace hF := Lib.hid hF;obtain ⟨N, hN'⟩ : ∃ N, N = S.length := ⟨_, rfl⟩
 unfold xobj;rw [← hN'] at hS ⊢;refine yF (N := 35) Tryz.func84 c_xall ?_;rintro X hP hN hm;unfold c_xall;replace hN' := Lib.hid hN';repeat' (first | refine yA ?_ | exact trivial)
 refine qad8 (qaly 3 38 6 rfl) ?_;simp only [zT, puth, Nat.reduceEqDiff, reduceIte, Nat.reduceAdd];refine qabf (qaco (fun s (x : Nat × List XSlot) => ⟨[(3, .own 2 x.2.length), (9, .own 1 N), (10, .int .i64 N), (11, .int .i64 x.1)], [(0, .cells 99 [.int .i64 k, .int .i64 m, .int .i64 n, .own 1 N]), (1, .row 141 4 (S.map xsc)), (2, .row 38 6 (x.2.map xec))], 3⟩) (fun x => x.1 ≤ N ∧ F = x.2 ++ qagw (S.drop x.1)) (fun x => N - x.1) (0, []) ?_ ⟨Nat.zero_le _, by rw [hF.out]; rfl⟩ ?_)
 ·refine qabd [(2, 10)] hm ⟨Co.refl _, Co.refl _, Co.refl _, Co.refl _, trivial⟩ ⟨⟨_, rfl, rfl, CoL.refl _⟩, ⟨_, rfl, rfl, rfl, ?_⟩, ⟨_, rfl, rfl, rfl, CoLL.refl _⟩, trivial⟩ rfl (by simp);rw [qab9]; exact CoLL.refl _
 rintro J hJ ⟨i, out⟩ ⟨h1, h2⟩;unfold qatf;simp only [zT, puth, Nat.reduceEqDiff, reduceIte, Nat.reduceAdd] at h1 h2 ⊢;have hSN : S.length = N := hN'.out.symm;rcases Nat.lt_or_ge i N with hi | hi
 ·have hiS : i < S.length := by omega
  rw [List.drop_eq_getElem_cons hiS] at h2;have wi : IntKind.i64.wrap ((i : Int) + 1) = (i : Int) + 1 := qabo (by omega) (by omega);rcases hq : S[i] with _ | s
  ·rw [hq] at h2;replace h2 : F = out ++ qagw (S.drop (i + 1)) := h2;replace h2 := Lib.hid h2;repeat' (first | ((with_reducible refine qaab ?_); (try rw [hP]); simp -implicitDefEqProofs [wi, hSN, hq, qaf0, *]) | ((with_reducible refine qaai ?_); (try simp -implicitDefEqProofs [wi, hSN, hq, qaf0, *])) | refine yA ?_ | with_reducible refine yB ?_ ?_ | ((with_reducible refine yC fun h => ?_); have h' := h; (try simp at h'); (try subst h')) | exact yD | refine yE ?_ | ((refine qabs hJ ((i + 1, out)) ?_ ?_ ?_; (with_reducible refine qabd [] hm ?_ ?_ ?_ ?_) <;> (try simp only [zT, puth, Nat.reduceEqDiff, reduceIte, Nat.reduceAdd]))) | exact trivial)
   all_goals exact ⟨by show i + 1 ≤ N; omega, h2.out⟩
  ·rw [hq] at h2;replace h2 : F = out ++ (s :: qagw (S.drop (i + 1))) := h2;rw [List.append_cons] at h2;have hlo : out.length + 1 ≤ F.length := by rw [h2]; simp
   have hss := hsm.out i s (by rw [List.getElem?_eq_getElem hiS, hq]);have k2 := fun q => qbiv s.keys hss.1 q
   have k3 := fun q => qbiv s.args hss.2 q
   unfold nums at k2 k3;have b1 : out.length + 1 ≤ maxLen := by unfold maxLen; omega
   have b2 : (out.length + 1) * 96 ≤ 140737488355328 := by omega
   replace h2 := Lib.hid h2;replace hlo := Lib.hid hlo;replace hss := Lib.hid hss;repeat' (first | ((with_reducible first | refine qaab ?_ | refine qaaz (by rw [hP]; exact mixed) ?_); (try rw [hP]); simp -implicitDefEqProofs [wi, hSN, hq, qacu, nums, b1, b2, *]) | ((with_reducible refine qaai ?_); (try simp -implicitDefEqProofs [wi, hSN, hq, qacu, nums, b1, b2, *])) | refine yA ?_ | with_reducible refine yB ?_ ?_ | ((with_reducible refine yC fun h => ?_); have h' := h; (try simp at h'); (try subst h')) | (refine qabe (k2 _) ?_; simp -implicitDefEqProofs [wi, hSN, hq, qacu, nums, b1, b2, *]) | (refine qabe (k3 _) ?_; simp -implicitDefEqProofs [wi, hSN, hq, qacu, nums, b1, b2, *]) | exact trivial)
   refine qabs hJ (i + 1, out ++ [s]) (qabd [(2, 37)] hm ⟨?_, Co.refl _, Co.refl _, ?_, trivial⟩ ⟨⟨_, rfl, rfl, CoL.refl _⟩, ⟨_, rfl, rfl, rfl, ?_⟩, ⟨_, rfl, rfl, rfl, ?_⟩, trivial⟩ rfl (by simp)) ⟨by show i + 1 ≤ N; omega, h2.out⟩ ?_
   ·simp only [List.length_append, List.length_cons, List.length_nil]; exact Co.refl _
   ·simp only [Int.natCast_add, Int.cast_ofNat_Int]; exact Co.refl _
   ·rw [qab9]; exact CoLL.refl _
   ·rw [qab9, List.map_append]; exact CoLL.refl _
   ·show N - (i + 1) < N - i; omega
 ·obtain rfl : i = N := by omega
  have h3 : F = out := by rw [h2, List.drop_eq_nil_of_le (by omega)]; simp [qagw]
  subst h3;replace h2 := Lib.hid h2;replace hLl := Lib.hid hLl;repeat' (first | ((with_reducible refine qadg (c := .seq (.reg false qaoi [2]) .ret) ?_)) | refine yA ?_ | with_reducible refine yB ?_ ?_ | ((with_reducible refine yC fun h => ?_); have h' := h; (try simp at h'); (try subst h')) | refine qafg (k1 2 _) ⟨rfl, trivial⟩ ⟨rfl, trivial⟩ [] (by simp) ?_ | exact trivial)
  constructor;rw [← hLl.out];refine qakm [2] ?_ ?_
  ·simp only [FrzOk, geth, Nat.reduceEqDiff, reduceIte, qasr, and_true]
  simp -implicitDefEqProofs;repeat' (first | refine yA ?_ | ((refine fin_xw hH2.out ?_)) | exact trivial)
  rw [xsc_frz, hSN];exact qabd [] hm ⟨Co.refl _, trivial⟩ ⟨⟨_, rfl, rfl, CoL.refl _⟩, ⟨_, rfl, rfl, rfl, by rw [qab9]; exact CoLL.refl _⟩, trivial⟩ rfl (Nat.le_refl 2)
end
theorem qak6 : ∀ T : XTab, cnt T < T.length → ∃ e : Nat, T[e]? = some none
 | [], h => by simp [cnt] at h
 | none :: T, _ => ⟨0, rfl⟩
 | some s :: T, h => by
  obtain ⟨e, he⟩ := qak6 T (by unfold cnt at h ⊢; simp at h ⊢; omega);exact ⟨e + 1, by simpa using he⟩
theorem qatb {S : XTab} {r : Nat} (hr : S[r]? = some none) (s : XSlot) : cnt (S.set r (some s)) = cnt S + 1 := by
 have hl := qacs hr;have := qahx S r (some s) hl;rw [List.getElem?_eq_getElem hl] at hr;rw [Option.some.inj hr] at this;simpa using this
theorem qa0c {S : XTab} {r : Nat} (hr : S[r]? = some none) (h : cnt S + 1 < S.length) : ∃ e : Nat, e ≠ r ∧ S[e]? = some none := by
 have hl := qacs hr;obtain ⟨e, he⟩ := qak6 (S.set r (some ⟨[], 0, []⟩)) (by rw [qatb hr, List.length_set]; exact h);rw [qack hl] at he;split at he
 ·cases he
 ·exact ⟨e, by assumption, he⟩
theorem home_lt {N : Nat} (h : 0 < N) (xs : List Int) : qagv N xs < N := Nat.mod_lt _ h
structure XInv (k m : Int) (S : XTab) : Prop where
 pinv : qa9q (qagv S.length) S
 small : qaii S
 fit : ∀ (j : Nat) (s : XSlot), S[j]? = some (some s) → (s.keys.length : Int) = k
 len : S.length = newN m
 full : (cnt S : Int) ≤ m ∨ cnt S = 0
theorem XInv.sz {k m : Int} {S : XTab} (h : XInv k m S) : 0 < S.length ∧ S.length ≤ 1048576 := by
 have := qano m;rw [h.len]; omega
theorem XInv.fr {k m : Int} {S : XTab} (h : XInv k m S) : ∃ e : Nat, S[e]? = some none := let ⟨e, _, h⟩ := h.pinv.free; ⟨e, h⟩
theorem qayo (k m : Int) : XInv k m (List.replicate (newN m) none) := by
 have hb := qano m;have no : ∀ (j : Nat) (s : XSlot), (List.replicate (newN m) (none : Option XSlot))[j]? = some (some s) → False := fun j s h => by
  rw [List.getElem?_replicate] at h;split at h <;> cases h
 refine ⟨⟨fun xs => ?_, fun j s _ h => (no j s h).elim, fun j _ s _ _ _ h => (no j s h).elim, ⟨0, ?_, ?_⟩⟩, fun j s h => (no j s h).elim, fun j s h => (no j s h).elim, List.length_replicate, .inr ?_⟩
 ·rw [List.length_replicate]; exact home_lt (by omega) xs
 ·rw [List.length_replicate]; omega
 ·rw [List.getElem?_replicate, if_pos (by omega)]
 ·unfold cnt;rw [List.countP_replicate]; simp
theorem qagg {k m : Int} {S : XTab} (h : XInv k m S) {j : Nat} {s : XSlot} (hj : S[j]? = some (some s)) : qacj S s.keys = (j, true) := qauq h.pinv hj
theorem qaqp {k m : Int} {S : XTab} (h : XInv k m S) {xs : List Int} (hp : (qacj S xs).2 = false) : ∀ (j : Nat) (s : XSlot), S[j]? = some (some s) → s.keys ≠ xs := fun j s hj e => by
 subst e;rw [qagg h hj] at hp; cases hp
theorem qasa {k m : Int} {S : XTab} (h : XInv k m S) {s : XSlot} (hs : s.keys.length ≤ 1000000 ∧ s.args.length ≤ 1000000) (hV : qap5 k m S s.keys = 0) : XInv k m (S.set (qacj S s.keys).1 (some s)) ∧ S[(qacj S s.keys).1]? = some none := by
 unfold qap5 at hV;split at hV
 ·cases hV
 rename_i hk;split at hV
 ·cases hV
 rename_i hp;split at hV
 ·cases hV
 rename_i hc;have hp' : (qacj S s.keys).2 = false := by simpa using hp
 have hno := qaqp h hp';obtain ⟨r, h1, h2, h3⟩ := qaz7 h.pinv hno;have e1 : (qacj S s.keys).1 = r := by unfold qacj; rw [h1]
 rw [e1];have hl := qacs h2;refine ⟨⟨?_, qaiu h.small hl _ fun t ht => by cases ht; exact hs, fun j t ht => ?_, by rw [List.length_set]; exact h.len, .inl (by rw [qatb h2]; omega)⟩, h2⟩
 ·rw [List.length_set];exact add_inv h.pinv hno h2 h3 (qa0c h2 (by omega))
 ·rw [qack hl] at ht;split at ht
  ·cases ht; omega
  ·exact h.fit j t ht
theorem qa1x {k m : Int} {S : XTab} (h : XInv k m S) {s t : XSlot} {j : Nat} (hs : s.keys.length ≤ 1000000 ∧ s.args.length ≤ 1000000) (hj : S[j]? = some (some t)) (hk : s.keys = t.keys) : XInv k m (S.set j (some s)) := by
 have hl := qacs hj;refine ⟨?_, qaiu h.small hl _ fun t ht => by cases ht; exact hs, fun i u hu => ?_, by rw [List.length_set]; exact h.len, ?_⟩
 ·rw [List.length_set];exact chg_inv h.pinv hj hk
 ·rw [qack hl] at hu;split at hu
  ·cases hu; rw [hk]; exact h.fit j t hj
  ·exact h.fit i u hu
 ·have := qahx S j (some s) hl;rw [List.getElem?_eq_getElem hl] at hj;rw [Option.some.inj hj] at this;have e : cnt (S.set j (some s)) = cnt S := by simpa using this
  rw [e]; exact h.full
theorem qa1n {k m : Int} {S : XTab} (h : XInv k m S) {t : XSlot} {j : Nat} (hj : S[j]? = some (some t)) : XInv k m (qak9 (qagv S.length) S.length S j) ∧ (∀ s, (∃ i : Nat, (qak9 (qagv S.length) S.length S j)[i]? = some (some s)) ↔ ∃ i : Nat, i ≠ j ∧ S[i]? = some (some s)) ∧ cnt (qak9 (qagv S.length) S.length S j) + 1 = cnt S := by
 have hl := qacs hj;have hi := qbjq h.pinv hj;obtain ⟨e, h1, h2⟩ := hi.free;obtain ⟨d1, d2, d3, d4⟩ := qamp S.length S j hi hl ⟨e, h1, h2, Nat.le_of_lt (qahw hl (qacs h2))⟩;have hc := qahx S j none hl;rw [List.getElem?_eq_getElem hl] at hj;rw [Option.some.inj hj] at hc;have hc' : cnt (S.set j none) + 1 = cnt S := by simpa using hc
 refine ⟨⟨by rw [d2]; exact d1, fun i s hs => ?_, fun i s hs => ?_, by rw [d2]; exact h.len, ?_⟩, d3, by rw [d4]; exact hc'⟩
 ·obtain ⟨i', _, h3⟩ := (d3 s).1 ⟨i, hs⟩;exact h.small i' s h3
 ·obtain ⟨i', _, h3⟩ := (d3 s).1 ⟨i, hs⟩;exact h.fit i' s h3
 ·rw [d4];rcases h.full with h5 | h5 <;> omega
theorem qaem {P : Program} {f : FuncId} {args : List SV} {N : Nat} {hh hh2 : Hp} {r : SV} (he : Enters P f) (hN : 0 < N) (hren : ∀ σ : Nat → Nat, (∀ i, i < N → σ i = i) → RenH σ hh2) (hids2 : ∀ i ∈ idsH hh2, i < N)
  (h : SCalls P f (.ptr 0 0 :: args) hh N r hh2) (ha : ∀ σ, args.map (Go.Proofs.YtalejfkholifpaaGreat.ren σ) = args) (hr : ∀ σ, Go.Proofs.YtalejfkholifpaaGreat.ren σ r = r) (id q : Nat) : SCalls P f (.ptr id 0 :: args) [(id, .abs (qaqu N fun h => h = hh))] q r [(id, .abs (qaqu N fun h => h = hh2))] := by
 refine qado he (fun O Fp w b vs hI hO hd hv => ?_) ha id q;obtain ⟨h1, ρ, fp, c, hR, h0, hn, hobj, hdis, hlt, hF⟩ := hI;have hR' : h1 = hh := hR;subst hR';have hA : (fun k => O k ∨ Fp k) = fun k => O k ∨ Live h1 fp k := by funext k; rw [hF]
 rw [hA] at hobj hv;refine (h.2 O ρ fp w (.pointer (some ⟨b, 0, none⟩) :: vs) ⟨hobj, hdis, fun k hk => ⟨hlt k hk, hd k ((hF k).2 hk)⟩, hO⟩ (Reps.cons (.ptr h0) (hv.mono (.refl _ _) (fun _ h _ => h) fun _ _ h => by cases h)) (fun id h3 _ => hn id h3)).mono ?_;rintro e w' ⟨v, ρ', fp', rfl, q1, q2, q3, q4, q5, q6⟩;have hfr : ρ' (N + 8) = none := by
  cases e : ρ' (N + 8) with
  | none => rfl
  | some p =>
   rcases q5 (N + 8) (by rw [e]; simp) with h3 | h3
   ·exact absurd (hn _ (by omega)) h3
   ·omega
 let σ : Nat → Nat := fun i => if i < N then i else N + 8
 have hσ : ∀ {i o}, geth hh2 i = some o → i < N ∧ σ i = i := fun {i o} ho => by
  have := hids2 i (qad2 (by rw [ho]; simp));exact ⟨this, if_pos this⟩
 refine ⟨v, fun k => Live hh2 fp' k, rfl, ⟨hh2, fun i => ρ' (σ i), fp', c, rfl, ?_, fun i hi => ?_, fun i o ho => ?_, q1.disj, fun k hk => (q1.lt k hk).1, fun k => Iff.rfl⟩, fun k hk => ?_, q3.mono fun k hk => (hF k).2 hk, ?_⟩
 ·show ρ' (σ 0) = _;rw [show σ 0 = 0 from if_pos hN]; exact q4 _ _ h0
 ·show ρ' (σ i) = none;rw [show σ i = N + 8 from if_neg (by omega)]; exact hfr
 ·have h6 := ((hren σ fun i hi => if_pos hi).get i o ho).objM;have h8 := q1.objs i o ho;have h9 : ObjRep w' (fun k => O k ∨ Live hh2 fp' k) ρ' (σ i) (fp' i) o := by rw [(hσ ho).2]; exact h8
  exact h6.back h9
 ·obtain ⟨i, o, ho, hk2⟩ := hk;exact (q6 i o ho k hk2).imp (fun h => (hF k).2 h) fun h => h
 ·have h1 : RepV w' (fun k => O k ∨ Live hh2 fp' k) ρ' (Go.Proofs.YtalejfkholifpaaGreat.ren (fun _ => N + 8) r) v := by rw [hr]; exact q2
  have h2 := qal7 h1;have e : (fun id => ρ' ((fun _ => N + 8) id)) = noPl := by funext id; show ρ' (N + 8) = _; rw [hfr]; rfl
  rw [e] at h2; exact h2
def xA (k m : Int) (S : XTab) : AbsI := qaqu 2 fun h => h = xobj k m (cnt S) S
theorem qafk (k m : Int) (n : Nat) (S : XTab) {σ : Nat → Nat} (h : σ 1 = 1) : RenH σ (xobj k m n S) := ⟨by show ([.int .i64 k, .int .i64 m, .int .i64 n, .own 1 S.length] : List SV).map (Go.Proofs.YtalejfkholifpaaGreat.ren σ) = _; simp [Go.Proofs.YtalejfkholifpaaGreat.ren, ren1, ren0, h], qab9 _ _ _, trivial⟩
theorem qag0 (k m : Int) (n : Nat) (S : XTab) : ∀ i ∈ idsH (xobj k m n S), i < 2 := by intro i hi; simp [idsH, xobj] at hi; omega
theorem xlen_a (k m : Int) (S : XTab) (id q : Nat) : SCalls Tryz.prog 75 [.ptr id 0] [(id, .abs (xA k m S))] q (.int .i64 (cnt S)) [(id, .abs (xA k m S))] :=
 qaem (xlen_o k m S 2).1 (by decide) (fun σ h => qafk _ _ _ _ (h 1 (by decide))) (qag0 _ _ _ _) (xlen_o k m S 2) (fun _ => rfl) (fun _ => rfl) id q
theorem xadd_a (k m : Int) (S : XTab) (h : XInv k m S) (a : Int) (xs ys : List Int) (hx : xs.length ≤ 1000000) (hy : ys.length ≤ 1000000) (id q : Nat) : SCalls Tryz.prog 82 [.ptr id 0, nums .u64 xs, .agg (hitc a ys)] [(id, .abs (xA k m S))] q (.int .i64 (qap5 k m S xs)) [(id, .abs (xA k m (addX k m S ⟨xs, a, ys⟩)))] := by
 have h1 := xadd_s k m S h.sz h.small a xs ys hx hy h.fr (fun hV => qatb (qasa h (s := ⟨xs, a, ys⟩) ⟨hx, hy⟩ hV).2 _);exact qaem h1.1 (by decide) (fun σ h => qafk _ _ _ _ (h 1 (by decide))) (qag0 _ _ _ _) h1 (fun _ => rfl) (fun _ => rfl) id q
theorem xchg_a (k m : Int) (S : XTab) (h : XInv k m S) (a : Int) (xs ys : List Int) (hx : xs.length ≤ 1000000) (hy : ys.length ≤ 1000000) (id q : Nat) : SCalls Tryz.prog 85 [.ptr id 0, nums .u64 xs, .agg (hitc a ys)] [(id, .abs (xA k m S))] q (.int .i64 (qaig k S xs)) [(id, .abs (xA k m (chgX k S ⟨xs, a, ys⟩)))] := by
 have h1 := xchg_s k m S h.sz h.small a xs ys hx hy h.fr;exact qaem h1.1 (by decide) (fun σ h => qafk _ _ _ _ (h 1 (by decide))) (qag0 _ _ _ _) h1 (fun _ => rfl) (fun _ => rfl) id q
theorem xdrop_a (k m : Int) (S : XTab) (h : XInv k m S) (xs : List Int) (hx : xs.length ≤ 1000000) (id q : Nat) : SCalls Tryz.prog 86 [.ptr id 0, nums .u64 xs] [(id, .abs (xA k m S))] q (.int .i64 (qaig k S xs)) [(id, .abs (xA k m (drpX k S xs)))] := by
 have h1 := xdrop_s k m S h.sz h.small xs hx h.pinv;exact qaem h1.1 (by decide) (fun σ h => qafk _ _ _ _ (h 1 (by decide))) (qag0 _ _ _ _) h1 (fun _ => rfl) (fun _ => rfl) id q
theorem qa09 (σ : Nat → Nat) (o : Option XSlot) : Go.Proofs.YtalejfkholifpaaGreat.ren σ (qau9 o) = qau9 o := by cases o <;> rfl
theorem xfind_a (k m : Int) (S : XTab) (h : XInv k m S) (xs : List Int) (hx : xs.length ≤ 1000000) (id q : Nat) : SCalls Tryz.prog 87 [.ptr id 0, nums .u64 xs] [(id, .abs (xA k m S))] q (qau9 (qaib k S xs)) [(id, .abs (xA k m S))] := by
 have h1 := xfind_s k m S h.sz h.small xs hx h.fr;exact qaem h1.1 (by decide) (fun σ h => qafk _ _ _ _ (h 1 (by decide))) (qag0 _ _ _ _) h1 (fun _ => rfl) (fun σ => qa09 σ _) id q
theorem qamn (S : XTab) : (qagw S).length = cnt S := by
 unfold qagw cnt;induction S with
 | nil => rfl
 | cons o S ih => cases o <;> simp [ih]
theorem xall_a (k m : Int) (hm : m ≤ 1000) (S : XTab) (h : XInv k m S) (L : List XSlot) (hLl : L.length = cnt S) (hL : ∀ l' : List XSlot, l'.Perm (qagw S) → l'.Pairwise (fun a b => ¬ cmpL b.keys a.keys < 0) → l' = L) (id q : Nat) : SCalls Tryz.prog 84 [.ptr id 0] [(id, .abs (xA k m S))] q (.view 6 (L.map xec)) [(id, .abs (xA k m S))] := by
 have h1 := xall_s k m (cnt S) S h.sz h.small (by rw [qamn]; rcases h.full with h2 | h2 <;> omega) L (by rw [qamn]; exact hLl) hL;exact qaem h1.1 (by decide) (fun σ h => qafk _ _ _ _ (h 1 (by decide))) (qag0 _ _ _ _) h1 (fun _ => rfl) (fun _ => by simp [Go.Proofs.YtalejfkholifpaaGreat.ren, ren1, ren0]) id q
theorem qanb {P : Program} {f : FuncId} {args : List SV} {N : Nat} {hh : Hp} (he : Enters P f) (hN : 0 < N) (hN8 : N ≤ 8) (hren : ∀ σ : Nat → Nat, (∀ i, i < N → σ i = i) → RenH σ hh) (hids : ∀ i ∈ idsH hh, i < N)
  (h : SCalls P f args [] 0 (.ptr 0 0) hh) (ha : ∀ σ, args.map (Go.Proofs.YtalejfkholifpaaGreat.ren σ) = args) (q : Nat) : SCalls P f args [] q (.ptr q 0) [(q, .abs (qaqu N fun h => h = hh))] := by
 refine ⟨he, fun O ρ fp w vs hok hargs hfr => ?_⟩;have hO : (fun k => O k ∨ Live [] fp k) = O := by funext k; simp [Live, geth]
 have ha' : Reps w (fun k => O k ∨ Live [] fp k) noPl args vs := by
  have h1 : Reps w (fun k => O k ∨ Live [] fp k) ρ (args.map (Go.Proofs.YtalejfkholifpaaGreat.ren fun _ => q)) vs := by rw [ha]; exact hargs
  have h2 := qaek h1;have e : (fun id => ρ ((fun _ => q) id)) = noPl := by funext id; exact hfr q (Nat.le_refl _) (by omega)
  rw [e] at h2; exact h2
 have hE : HeapOk O noPl fp [] w := ⟨fun id o ho => by simp [geth] at ho, fun id id' o o' _ ho => by simp [geth] at ho, fun k ⟨id, o, ho, _⟩ => by simp [geth] at ho, hok.O_lt⟩
 refine (h.2 O noPl fp w vs hE ha' (fun _ _ _ => rfl)).mono ?_;rintro e w' ⟨v, ρ', fp', rfl, q1, q2, q3, q4, q5, q6⟩;obtain ⟨b, c, hb, rfl⟩ : ∃ b c, ρ' 0 = some (some (b, c)) ∧ v = .pointer (some ⟨b, 0, none⟩) := by
  generalize hy : SV.ptr 0 0 = y at q2;cases q2 with
  | ptr h => injection hy with e1 e2; subst e1 e2; exact ⟨_, _, h, rfl⟩
  | _ => cases hy
 have hfr8 : ρ' 8 = none := by
  cases e : ρ' 8 with
  | none => rfl
  | some p =>
   rcases q5 8 (by rw [e]; simp) with h3 | h3
   ·exact absurd rfl h3
   ·omega
 let σ : Nat → Nat := fun i => if i < N then i else 8
 have hσ : ∀ {i o}, geth hh i = some o → i < N ∧ σ i = i := fun {i o} ho => by
  have := hids i (qad2 (by rw [ho]; simp));exact ⟨this, if_pos this⟩
 let fp2 : Nat → Nat → Prop := fun _ k => Live hh fp' k
 have hl2 : ∀ k, Live [(q, SObj.abs (qaqu N fun h => h = hh))] fp2 k ↔ Live hh fp' k := fun k => by
  rw [qae8]
 have hA : (fun k => O k ∨ Live [(q, SObj.abs (qaqu N fun h => h = hh))] fp2 k) = fun k => O k ∨ Live hh fp' k := by funext k; rw [hl2 k]
 refine ⟨.pointer (some ⟨b, 0, none⟩), fun i => if i = q then some (some (b, c)) else ρ i, fp2, rfl, ⟨fun i o ho => ?_, fun i i' o o' hne h' h'' => ?_, fun k hk => q1.lt k ((hl2 k).1 hk), q1.O_lt⟩, .ptr (c := c) (by simp), q3, fun i p hp => ?_, fun i hi => ?_, fun i o ho k hk => ?_⟩
 ·simp only [geth] at ho;split at ho
  ·rename_i e; subst e; cases ho
   rw [hA];refine ⟨b, c, by simp, hh, fun i => ρ' (σ i), fp', c, rfl, ?_, fun i hi => ?_, fun i o ho => ?_, q1.disj, fun k hk => (q1.lt k hk).1, fun k => Iff.rfl⟩
   ·show ρ' (σ 0) = _;rw [show σ 0 = 0 from if_pos hN]; exact hb
   ·show ρ' (σ i) = none;rw [show σ i = 8 from if_neg (by omega)]; exact hfr8
   ·have h6 := ((hren σ fun i hi => if_pos hi).get i o ho).objM;have h8 := q1.objs i o ho;have h9 : ObjRep w' (fun k => O k ∨ Live hh fp' k) ρ' (σ i) (fp' i) o := by rw [(hσ ho).2]; exact h8
    exact h6.back h9
  ·cases ho
 ·simp only [geth] at h' h'';split at h'
  ·split at h''
   ·omega
   ·cases h''
  ·cases h'
 ·show (if i = q then _ else ρ i) = some p;split
  ·rename_i e; subst e; rw [hfr i (Nat.le_refl _) (by omega)] at hp; cases hp
  ·exact hp
 ·by_cases e : i = q
  ·exact .inr ⟨by omega, by omega⟩
  ·exact .inl (by simpa [e] using hi)
 ·obtain ⟨i', o', ho', hk'⟩ := (show Live hh fp' k from hk)
  exact (q6 i' o' ho' k hk').imp (fun h => by obtain ⟨_, _, h, _⟩ := h; simp [geth] at h) fun h => h
theorem xnew_a (k m : Int) (q : Nat) : SCalls Tryz.prog 33 [.int .i64 k, .int .i64 m] [] q (.ptr q 0) [(q, .abs (xA k m (List.replicate (newN m) none)))] := by
 have h1 := xnew_s k m;have hc : cnt (List.replicate (newN m) none) = 0 := by unfold cnt; rw [List.countP_replicate]; simp
 have h2 := qanb h1.1 (N := 2) (by decide) (by decide) (fun σ h => qafk k m 0 (List.replicate (newN m) none) (h 1 (by decide))) (qag0 _ _ _ _) h1 (fun _ => rfl) q;unfold xA;rw [hc]; exact h2
theorem qab6 {S : XTab} {s : XSlot} : s ∈ qagw S ↔ ∃ j : Nat, S[j]? = some (some s) := by
 unfold qagw;rw [List.mem_filterMap];constructor
 ·rintro ⟨o, ho, h⟩;obtain rfl : o = some s := h;exact List.getElem?_of_mem ho
 ·rintro ⟨j, hj⟩;exact ⟨some s, List.mem_of_getElem? hj, rfl⟩
theorem qajq {k m : Int} {S : XTab} (h : XInv k m S) {xs : List Int} : (qacj S xs).2 = true ↔ ∃ s ∈ qagw S, s.keys = xs := by
 constructor
 ·intro hp;obtain ⟨s, hs, hk⟩ := qadz _ _ hp;exact ⟨s, qab6.2 ⟨_, hs⟩, hk⟩
 ·rintro ⟨s, hs, rfl⟩;obtain ⟨j, hj⟩ := qab6.1 hs;rw [qagg h hj]
theorem qahu {k m : Int} {S : XTab} (h : XInv k m S) {s t : XSlot} (hs : s ∈ qagw S) (ht : t ∈ qagw S) (e : s.keys = t.keys) : s = t := by
 obtain ⟨i, hi⟩ := qab6.1 hs;obtain ⟨j, hj⟩ := qab6.1 ht;have : i = j := h.pinv.uniq i j s t (by have := qacs hi; omega) (by have := qacs hj; omega) hi hj e;subst this;rw [hi] at hj;exact Option.some.inj (Option.some.inj hj)
theorem qan5 {k m : Int} {S : XTab} (h : XInv k m S) : (qagw S).Pairwise fun a b => a.keys ≠ b.keys := by
 unfold qagw;rw [List.pairwise_filterMap, List.pairwise_iff_getElem];intro i j hi hj hij a ha b hb e;have h1 : S[i]? = some (some a) := by rw [List.getElem?_eq_getElem hi]; exact congrArg some ha
 have h2 : S[j]? = some (some b) := by rw [List.getElem?_eq_getElem hj]; exact congrArg some hb
 have := h.pinv.uniq i j a b (by omega) (by omega) h1 h2 e;omega
theorem qava {k m : Int} {S : XTab} (h : XInv k m S) {s : XSlot} (hs : s ∈ qagw S) : qaib k S s.keys = some s := by
 obtain ⟨j, hj⟩ := qab6.1 hs;unfold qaib;rw [if_neg (by rw [h.fit j s hj]; simp), qagg h hj, if_pos rfl, hj]; rfl
theorem qavb {k m : Int} {S : XTab} (h : XInv k m S) {xs : List Int} (hx : ∀ s ∈ qagw S, s.keys ≠ xs) : qaib k S xs = none := by
 unfold qaib;split
 ·rfl
 ·rw [if_neg fun hp => by
   obtain ⟨s, hs, hk⟩ := (qajq h).1 hp;exact hx s hs hk]
def qasb (a b : XSlot) : Prop := ¬ cmpL b.keys a.keys < 0
theorem qam6 {l : List XSlot} (hk : ∀ s ∈ l, ∀ t ∈ l, s.keys = t.keys → s = t) : ∀ (l1 l2 : List XSlot), (∀ x ∈ l1, x ∈ l) → l1.Perm l2 → l1.Pairwise qasb → l2.Pairwise qasb → l1 = l2
 | [], l2, _, hp, _, _ => hp.nil_eq
 | a :: t, [], _, hp, _, _ => by have := hp.length_eq; simp at this
 | a :: t, b :: u, hm, hp, h1, h2 => by
  have hab : a = b := by
   rcases List.mem_cons.1 (hp.mem_iff.1 (List.mem_cons_self ..)) with e | ha
   ·exact e
   rcases List.mem_cons.1 (hp.mem_iff.2 (List.mem_cons_self ..)) with e | hb
   ·exact e.symm
   have g1 : ¬ cmpL b.keys a.keys < 0 := (List.pairwise_cons.1 h1).1 b hb;have g2 : ¬ cmpL a.keys b.keys < 0 := (List.pairwise_cons.1 h2).1 a ha;have g3 := qadd a.keys b.keys;exact hk a (hm a (by simp)) b (hm b (by simp [hb])) ((qad6 _ _).1 (by omega))
  subst hab;rw [qam6 hk t u (fun x hx => hm x (by simp [hx])) (hp.cons_inv) (List.pairwise_cons.1 h1).2 (List.pairwise_cons.1 h2).2]
def leX (a b : XSlot) : Bool := decide (¬ cmpL b.keys a.keys < 0)
def qal4 (S : XTab) : List XSlot := (qagw S).mergeSort leX
theorem qaeo (S : XTab) : (qal4 S).Perm (qagw S) := List.mergeSort_perm _ _
theorem qajj (S : XTab) : (qal4 S).Pairwise qasb := by
 have h := List.pairwise_mergeSort (le := leX) (fun a b c h1 h2 => by
  unfold leX at *;simp only [decide_eq_true_eq] at *;have e1 := qadd a.keys b.keys;have e2 := qadd b.keys c.keys;have e3 := qadd a.keys c.keys;have := qaga a.keys b.keys c.keys (by omega) (by omega);omega) (fun a b => by
  unfold leX;have e1 := qadd a.keys b.keys;simp only [Bool.or_eq_true, decide_eq_true_eq];omega) (qagw S)
 exact h.imp fun {a b} h => of_decide_eq_true h
theorem xall_b (k m : Int) (hm : m ≤ 1000) (S : XTab) (h : XInv k m S) (id q : Nat) : SCalls Tryz.prog 84 [.ptr id 0] [(id, .abs (xA k m S))] q (.view 6 ((qal4 S).map xec)) [(id, .abs (xA k m S))] :=
 xall_a k m hm S h (qal4 S) (by rw [(qaeo S).length_eq, qamn]) (fun l' hp hs => qam6 (l := qagw S) (fun s hs t ht => qahu h hs ht) l' _ (fun x hx => hp.mem_iff.1 hx) (hp.trans (qaeo S).symm) hs (qajj S)) id q
abbrev qbg6 : List SOper := [Ka 4 0]
abbrev qbg5 : List SOper := [Ka 5 0]
abbrev qbg4 : List SOper := [Ma 6 5, Ma 7 0, Na 8 7, Ba 9 .lss 6 8, Ma 10 9, Oe 11 (Pm 5) 10 true, Oe 12 (Pm 1) 10 true, Oe 13 (Pn 12) 10 true, Oe 14 (Pb .lss 11 13) 10 true, Ua 15 10 14]
abbrev qbg3 : List SOper := [Ma 18 0, Ma 19 5, Od 20 (Pi 1 18 19) 3, Od 21 (Pa 20) 7, Ma 22 1, Ma 23 5, Od 24 (Pi 1 22 23) 48, Od 25 (Pa 24) 112, Od 26 (Pb .lss 21 25) 255]
abbrev qbg2 : List SOper := [Oa 4 (.mv (.c (.int .i64 (-1))))]
abbrev qbg1 : List SOper := [Ma 27 0, Ma 28 5, Od 29 (Pi 1 27 28) 3, Od 30 (Pa 29) 7, Ma 31 1, Ma 32 5, Od 33 (Pi 1 31 32) 48, Od 34 (Pa 33) 112, Od 35 (Pb .gtr 30 34) 255]
abbrev qbg0 : List SOper := [Ka 4 1]
abbrev qbgz : List SOper := [Ma 16 5, Ca 17 .add 16 1, Ma 5 17]
def qat6 : SCode := (.seq (Sf qbg4 [0, 1, 5, 15] (Ce 15 0)) (.seq (.block 1 (.seq (.seq (Rt qbg3 [0, 1, 5, 26]) (Cn 26 (Sf qbg2 [4] .ret) .skip)) (.seq (Rt qbg1 [0, 1, 5, 35]) (Cn 35 (Sf qbg0 [4] .ret) .skip)))) (Rf qbgz [0, 1, 5])))
abbrev qbgy : List SOper := [Ma 36 0, Na 37 36, Ma 38 1, Na 39 38, Ba 40 .lss 37 39]
abbrev qa7y : List SOper := [Oa 4 (.mv (.c (.int .i64 (-1))))]
abbrev qa7x : List SOper := [Ma 41 0, Na 42 41, Ma 43 1, Na 44 43, Ba 45 .gtr 42 44]
abbrev qa7w : List SOper := [Ka 4 1]
abbrev qa7v : List SOper := [Ka 4 0]
def c_less : SCode := (Sf qbg6 [0, 1] (.seq (Sf qbg5 [0, 1, 5] (Bl 0 qat6)) (.seq (Sf qbgy [0, 1, 40] (Cn 40 (Sf qa7y [4] .ret) .skip)) (.seq (Sf qa7x [45] (Cn 45 (Sf qa7w [4] .ret) .skip)) (Sf qa7v [4] .ret)))))
abbrev qbpc : List SOper := [Oa 3 (.box 38 (.t 1)), Ka 4 0]
abbrev qbpb : List SOper := [Ma 7 0, Oa 8 (.nilc (.t 7)), Fa 9 0 8, La 10 9]
abbrev qbpa : List SOper := [Ca 12 .eql 10 1, Ma 11 12]
abbrev qbo9 : List SOper := [Fa 13 0 3, Od 14 (Pa 13) 1, Od 15 (Pn 14) 3, Ma 16 0, Od 17 (.nilc (.t 16)) 8, Od 18 (Pf 1 17) 24, Od 19 (Pa 18) 56, Od 20 (Pb .neq 15 19) 127]
abbrev qbo8 : List SOper := [Ka 4 2]
abbrev qbo7 : List SOper := [Ca 22 .eql 10 2, Ma 21 22]
abbrev qbo6 : List SOper := [Fa 23 0 3, Od 24 (Pa 23) 1, Od 25 (Pn 24) 3, Od 26 (Pc .neq 25 1) 7, Od 27 (Pm 26) 15, Of 28 (Pm 0) 27 false 31, Of 29 (.nilc (.t 28)) 27 false 63, Of 30 (Pf 2 29) 27 false 127, Of 31 (Pa 30) 27 false 255, Of 32 (Pc .lss 31 1) 27 false 511, Od 33 (Pt 27 32) 1023, Od 34 (Pm 33) 2047, Of 35 (Pm 0) 34 false 4095, Of 36 (.nilc (.t 35)) 34 false 8191, Of 37 (Pf 2 36) 34 false 16383, Of 38 (Pa 37) 34 false 32767, Of 39 (Pc .gtr 38 64) 34 false 65535, Od 40 (Pt 34 39) 131071, Od 41 (Pm 40) 262143, Of 42 (Pf 2 3) 41 false 524287, Of 43 (Pa 42) 41 false 1048575, Of 44 (Pc .lss 43 0) 41 false 2097151, Od 45 (Pt 41 44) 4194303, Od 46 (Pm 45) 8388607, Of 47 (Pf 2 3) 46 false 16777215, Of 48 (Pa 47) 46 false 33554431, Of 49 (Pm 0) 46 false 16777215, Of 50 (.nilc (.t 49)) 46 false 83886079, Of 51 (Pf 2 50) 46 false 218103807, Of 52 (Pa 51) 46 false 486539263, Of 53 (Pb .gtr 48 52) 46 false 1073741823, Od 54 (Pt 46 53) 2147483647, Od 55 (Pm 54) 4294967295, Of 56 (Pf 0 3) 55 false 8589934591, Of 57 (Pa 56) 55 false 17179869183, Of 58 (.iaddr 1 (.t 57) (.c (.int .i64 0))) 55 false 34359738367, Of 59 (Pa 58) 55 false 68719476735, Of 60 (Pm 0) 55 false 8589934591, Of 61 (.nilc (.t 60)) 55 false 146028888063, Of 62 (Pf 2 61) 55 false 420906795007, Of 63 (Pa 62) 55 false 970662608895, Qi 64 51 [59, 63] 55 false 2199023255551, Od 65 (Pt 55 64) 4398046511103]
abbrev qbo5 : List SOper := [Ka 4 6]
abbrev qbo4 : List SOper := [Ma 66 0, Od 67 (.nilc (.t 66)) 1, Od 68 (Pf 2 67) 3, Od 69 (Pa 68) 7, Fa 70 2 3, Od 71 (Pa 70) 16, Od 72 (Pb .sub 69 71) 63, Qh 73 58 [72] 127, Od 5 (Pm 73) 255]
abbrev qbgx : List SOper := [Fa 74 0 3, La 75 74, Oa 76 (.iaddr 1 (.t 75) (.c (.int .i64 0))), La 77 76, Ma 78 5, Ba 79 .and 77 78, Oa 80 (.bin .neq (.t 79) (.c (.int .u64 0)))]
abbrev qbgw : List SOper := [Ka 4 6]
abbrev qbgv : List SOper := [Ca 82 .eql 10 3, Ma 81 82]
abbrev qbgu : List SOper := [Fa 83 0 3, Od 84 (Pa 83) 1, Od 85 (Pn 84) 3, Ma 86 0, Od 87 (.nilc (.t 86)) 8, Od 88 (Pf 1 87) 24, Od 89 (Pa 88) 56, Od 90 (Pb .neq 85 89) 127, Od 91 (Pm 90) 255, Of 92 (Pf 1 3) 91 false 511, Of 93 (Pa 92) 91 false 1023, Of 94 (Pn 93) 91 false 2047, Of 95 (Pm 0) 91 false 511, Of 96 (.nilc (.t 95)) 91 false 4607, Of 97 (Pf 1 96) 91 false 12799, Of 98 (Pa 97) 91 false 29183, Of 99 (Pb .neq 94 98) 91 false 65535, Od 100 (Pt 91 99) 131071, Od 101 (Pm 100) 262143, Of 102 (Pf 3 3) 101 false 524287, Of 103 (Pa 102) 101 false 1048575, Of 104 (Pc .lss 103 0) 101 false 2097151, Od 105 (Pt 101 104) 4194303, Od 106 (Pm 105) 8388607, Of 107 (Pf 3 3) 106 false 16777215, Of 108 (Pa 107) 106 false 33554431, Of 109 (Pc .gtr 108 1000) 106 false 67108863, Od 110 (Pt 106 109) 134217727]
abbrev qbgt : List SOper := [Ka 4 6]
abbrev qbgs : List SOper := [Ka 6 0]
abbrev qbgr : List SOper := [Ma 111 6, Ma 112 0, Oa 113 (.nilc (.t 112)), Fa 114 1 113, La 115 114, Ba 116 .lss 111 115]
abbrev qbgq : List SOper := [Fa 119 0 3, Od 120 (Pa 119) 1, Ma 121 6, Od 122 (Pi 1 120 121) 7, Od 123 (Pa 122) 15, Fa 124 1 3, Od 125 (Pa 124) 32, Ma 126 6, Od 127 (Pi 1 125 126) 224, Od 128 (Pa 127) 480, Od 129 (Pb .and 123 128) 1023, Fa 130 0 3, Od 131 (Pa 130) 2048, Ma 132 6, Od 133 (Pi 1 131 132) 14336, Od 134 (Pa 133) 30720, Od 135 (Pb .neq 129 134) 65535]
abbrev qbgp : List SOper := [Ka 4 6]
abbrev qbgo : List SOper := [Ma 117 6, Ca 118 .add 117 1, Ma 6 118]
def qa7u : SCode := (.seq (Sf qbgr [0, 3, 6, 116] (Ce 116 1)) (.seq (.block 2 (.seq (Rt qbgq [0, 3, 6, 135]) (Cn 135 (Sf qbgp [4] .ret) .skip))) (Rf qbgo [0, 3, 6])))
abbrev qbgn : List SOper := [Ka 4 0]
def c_may : SCode := (Sf qbpc [0, 3] (.seq (Sf qbpb [0, 3, 10] (.block 0 (Sf qbpa [0, 3, 10, 11] (Cn 11 (.seq (Rt qbo9 [20]) (Cn 20 (Sf qbo8 [4] .ret) .skip)) (Sf qbo7 [0, 3, 10, 21] (Cn 21 (.seq (.seq (Rt qbo6 [0, 3, 65]) (Cn 65 (Sf qbo5 [4] .ret) .skip)) (.seq (Rt qbo4 [3, 5]) (Sf qbgx [80] (Cn 80 (Sf qbgw [4] .ret) .skip)))) (Sf qbgv [0, 3, 81] (Cn 81 (.seq (.seq (Rt qbgu [0, 3, 110]) (Cn 110 (Sf qbgt [4] .ret) .skip)) (Sf qbgs [0, 3, 6] (Bl 1 qa7u))) .skip)))))))) (Sf qbgn [4] .ret)))
abbrev qbfr : List SOper := [Oa 4 (.box 38 (.t 1)), Oa 5 (.box 38 (.t 2)), Oa 6 (.mv (.c (.bool false)))]
abbrev qbfq : List SOper := [Ma 7 0, Oa 8 (.nilc (.t 7)), Fa 9 0 8, La 10 9, Ca 11 .eql 10 3, Ma 12 11, Oe 13 (Pf 3 4) 12 true, Oe 14 (Pa 13) 12 true, Oe 15 (Pf 3 5) 12 true, Oe 16 (Pa 15) 12 true, Oe 17 (Pb .neq 14 16) 12 true, Oe 18 (Pm 17) 12 true, Oe 19 (Pf 1 4) 18 false, Oe 20 (Pa 19) 18 false, Oe 21 (Pf 1 5) 18 false, Oe 22 (Pa 21) 18 false, Qi 23 39 [20, 22] 18 false 0, Oe 24 (.un .not (.t 23)) 18 false, Oe 25 (Pt 18 24) 12 true, Ua 26 12 25, Ma 27 26, Oe 28 (Pm 0) 27 false, Oe 29 (.nilc (.t 28)) 27 false, Oe 30 (Pf 0 29) 27 false, Oe 31 (Pa 30) 27 false, Oe 32 (Pc .eql 31 2) 27 false, Oe 33 (Pm 32) 27 false, Oe 34 (Pf 2 4) 33 true, Oe 35 (Pa 34) 33 true, Oe 36 (Pf 2 5) 33 true, Oe 37 (Pa 36) 33 true, Oe 38 (Pb .neq 35 37) 33 true, Oe 39 (Pu 33 38) 27 false, Ta 40 27 39]
abbrev qbfp : List SOper := [Oa 6 (.mv (.c (.bool false)))]
abbrev qbfo : List SOper := [Fa 41 0 4, La 42 41, Fa 43 0 5, La 44 43, Qc 45 39 [42, 44], Ma 6 45]
def c_rone : SCode := (Sf qbfr [0, 4, 5] (.seq (Sf qbfq [4, 5, 40] (Cn 40 (Sf qbfp [6] .ret) .skip)) (Sf qbfo [6] .ret)))
abbrev qbo3 : List SOper := [Oa 3 (.box 38 (.t 1)), Ka 4 0]
abbrev qbo2 : List SOper := [Ka 5 0]
abbrev qbo1 : List SOper := [Ma 6 5, Ma 7 0, Oa 8 (.nilc (.t 7)), Fa 9 4 8, La 10 9, Na 11 10, Ba 12 .lss 6 11]
abbrev qbo0 : List SOper := [Ma 15 0, Ma 16 0, Od 17 (.nilc (.t 16)) 2, Od 18 (Pf 4 17) 6, Od 19 (Pa 18) 14, Ma 20 5, Od 21 (Pi 6 19 20) 62, Od 22 (Ps 6 21) 126, Sa 23 6 3, Qh 24 59 [15, 22, 23] 511]
abbrev qboz : List SOper := [Ma 25 5, Ma 4 25]
abbrev qboy : List SOper := [Ma 13 5, Ca 14 .add 13 1, Ma 5 14]
def qa7a : SCode := (.seq (Sf qbo1 [0, 3, 5, 12] (Ce 12 0)) (.seq (.block 1 (.seq (Rt qbo0 [0, 3, 5, 24]) (Cn 24 (Sf qboz [4] .ret) .skip))) (Rf qboy [0, 3, 5])))
abbrev qbox : List SOper := [Oa 4 (.mv (.c (.int .i64 (-1))))]
def c_rat : SCode := (Sf qbo3 [0, 3] (.seq (Sf qbo2 [0, 3, 5] (Bl 0 qa7a)) (Sf qbox [4] .ret)))
abbrev qbhd : List SOper := [Oa 3 (.box 38 (.t 1)), Oa 4 (.alloc 38 [.nilsl, .nilsl, (.int .i64 0), (.int .i64 0), (.int .i64 0), .nilsl])]
abbrev qbhc : List SOper := [Sa 5 6 3, Qc 6 41 [5], Va 6 3 6]
abbrev qbhb : List SOper := [Ma 7 0, Oa 8 (.nilc (.t 7)), Fa 9 0 8, La 10 9, Ca 11 .neq 10 3]
abbrev qbha : List SOper := [Fa 12 1 3, Ob (.store 1 (.t 12) (.c .nilsl)), Fa 13 3 3, Ob (.store 1 (.t 13) (.c (.int .i64 0)))]
abbrev qbg9 : List SOper := [Ma 14 0, Oa 15 (.nilc (.t 14)), Fa 16 0 15, La 17 16, Ca 18 .neq 17 2]
abbrev qbg8 : List SOper := [Fa 19 2 3, Ob (.store 1 (.t 19) (.c (.int .i64 0)))]
abbrev qbg7 : List SOper := [Sa 20 6 3, Va 6 4 20]
def c_kept : SCode := (Sf qbhd [0, 3, 4] (Sf qbhc [0, 3, 4] (.seq (Sf qbhb [0, 3, 4, 11] (Cn 11 (Rf qbha [0, 3, 4]) .skip)) (.seq (Sf qbg9 [3, 4, 18] (Cn 18 (Rf qbg8 [3, 4]) .skip)) (Sf qbg7 [4] .ret)))))
abbrev qbgi : List SOper := [Oa 3 (.box 38 (.t 1)), Ka 4 0]
abbrev qbgh : List SOper := [Ma 10 0, Sa 11 6 3, Qc 12 52 [10, 11], Ma 5 12]
abbrev qbgg : List SOper := [Ma 13 5, Ca 14 .neq 13 0]
abbrev qbgf : List SOper := [Ma 15 5, Ma 4 15]
abbrev qbge : List SOper := [Ma 16 0, Sa 17 6 3, Qc 18 53 [16, 17], Ca 19 .geq 18 0]
abbrev qbgd : List SOper := [Ka 4 7]
abbrev qbgc : List SOper := [Ka 6 0]
abbrev qbgb : List SOper := [Ma 20 6, Ma 21 0, Oa 22 (.nilc (.t 21)), Fa 23 4 22, La 24 23, Na 25 24, Ba 26 .lss 20 25, Ma 27 26, Oe 28 (Pm 0) 27 true, Oe 29 (.nilc (.t 28)) 27 true, Oe 30 (Pf 0 29) 27 true, Oe 31 (Pa 30) 27 true, Oe 32 (Pc .eql 31 3) 27 true, Ua 33 27 32]
abbrev qbga : List SOper := [Ma 36 0, Od 37 (.nilc (.t 36)) 1, Od 38 (Pf 4 37) 3, Od 39 (Pa 38) 7, Ma 40 6, Od 41 (Pi 6 39 40) 31, Od 42 (Pf 3 41) 63, Od 43 (Pa 42) 127, Fa 44 3 3, Od 45 (Pa 44) 256, Od 46 (Pb .eql 43 45) 1023, Od 7 (Pm 46) 2047]
abbrev qa7q : List SOper := [Ka 8 0]
abbrev qa7p : List SOper := [Ma 47 8, Ma 48 0, Oa 49 (.nilc (.t 48)), Fa 50 1 49, La 51 50, Ba 52 .lss 47 51]
abbrev qa7o : List SOper := [Fa 55 1 3, Od 56 (Pa 55) 1, Ma 57 8, Od 58 (Pi 1 56 57) 7, Od 59 (Pa 58) 15, Ma 60 0, Od 61 (.nilc (.t 60)) 32, Od 62 (Pf 4 61) 96, Od 63 (Pa 62) 224, Ma 64 6, Od 65 (Pi 6 63 64) 992, Od 66 (Pf 1 65) 2016, Od 67 (Pa 66) 4064, Ma 68 8, Od 69 (Pi 1 67 68) 16352, Od 70 (Pa 69) 32736, Od 71 (Pb .and 59 70) 65535, Od 9 (Pm 71) 131071]
abbrev qa7n : List SOper := [Fa 72 0 3, Od 73 (Pa 72) 1, Ma 74 8, Od 75 (Pi 1 73 74) 7, Od 76 (Pa 75) 15, Ma 77 9, Od 78 (Pb .and 76 77) 63, Ma 79 0, Od 80 (.nilc (.t 79)) 128, Od 81 (Pf 4 80) 384, Od 82 (Pa 81) 896, Ma 83 6, Od 84 (Pi 6 82 83) 3968, Od 85 (Pf 0 84) 8064, Od 86 (Pa 85) 16256, Ma 87 8, Od 88 (Pi 1 86 87) 65408, Od 89 (Pa 88) 130944, Ma 90 9, Od 91 (Pb .and 89 90) 524160, Od 92 (Pb .neq 78 91) 1048575]
abbrev qa7m : List SOper := [Oa 7 (.mv (.c (.bool false)))]
abbrev qa7l : List SOper := [Ma 53 8, Ca 54 .add 53 1, Ma 8 54]
def qatw : SCode := (.seq (Sf qa7p [0, 3, 6, 7, 8, 52] (Ce 52 2)) (.seq (.block 3 (.seq (Rt qa7o [0, 3, 6, 7, 8, 9]) (.seq (Rt qa7n [0, 3, 6, 7, 8, 92]) (Cn 92 (Rf qa7m [0, 3, 6, 7, 8]) .skip)))) (Rf qa7l [0, 3, 6, 7, 8])))
abbrev qa7k : List SOper := [Ma 93 7]
abbrev qa7j : List SOper := [Ka 4 8]
abbrev qa7i : List SOper := [Ma 34 6, Ca 35 .add 34 1, Ma 6 35]
def qatv : SCode := (.seq (Sf qbgb [0, 3, 6, 33] (Ce 33 0)) (.seq (.block 1 (.seq (Rt qbga [0, 3, 6, 7]) (.seq (Sf qa7q [0, 3, 6, 7, 8] (Bl 2 qatw)) (Sf qa7k [0, 3, 6, 93] (Cn 93 (Sf qa7j [4] .ret) .skip))))) (Rf qa7i [0, 3, 6])))
abbrev qa7h : List SOper := [Ma 94 0, Od 95 (.nilc (.t 94)) 1, Od 96 (Pf 4 95) 3, Od 97 (Pa 96) 7, Od 98 (Pn 97) 15, Ma 99 0, Od 100 (.nilc (.t 99)) 32, Od 101 (Pf 3 100) 96, Od 102 (Pa 101) 224, Od 103 (Pb .geq 98 102) 511]
abbrev qa7g : List SOper := [Ka 4 10]
abbrev qa7f : List SOper := [Ma 104 0, Ma 105 0, Od 106 (.nilc (.t 105)) 2, Od 107 (Pf 4 106) 6, Od 108 (Pa 107) 14, Ma 109 0, Sa 110 6 3, Qh 111 54 [109, 110] 96, Od 112 (.mkrow 38 6 1 [.nilsl, .nilsl, (.int .i64 0), (.int .i64 0), (.int .i64 0), .nilsl] [(0, (.t 111))]) 224, Od 113 (.app 38 6 96 (.t 108) (.t 112)) 510, Od 114 (.nilc (.t 104)) 1023, Od 115 (Pf 4 114) 2047, Og (.store 1 (.t 115) (.t 113)) 4095]
abbrev qa7e : List SOper := [Ka 4 0]
def c_radd : SCode := (Sf qbgi [0, 3] (.seq (Sf qbgh [0, 3, 5] (Sf qbgg [0, 3, 5, 14] (Cn 14 (Sf qbgf [4] .ret) .skip))) (.seq (Sf qbge [0, 3, 19] (Cn 19 (Sf qbgd [4] .ret) .skip)) (.seq (Sf qbgc [0, 3, 6] (Bl 0 qatv)) (.seq (.seq (Rt qa7h [0, 3, 103]) (Cn 103 (Sf qa7g [4] .ret) .skip)) (.seq (Rt qa7f []) (Sf qa7e [4] .ret)))))))
abbrev qbf0 : List SOper := [Oa 3 (.box 38 (.t 1)), Ka 4 0]
abbrev qbfz : List SOper := [Ma 7 0, Sa 8 6 3, Qc 9 52 [7, 8], Ma 5 9]
abbrev qbfy : List SOper := [Ma 10 5, Ca 11 .neq 10 0]
abbrev qbfx : List SOper := [Ma 12 5, Ma 4 12]
abbrev qbfw : List SOper := [Ma 13 0, Sa 14 6 3, Qc 15 53 [13, 14], Ma 6 15]
abbrev qbfv : List SOper := [Ma 16 6, Ca 17 .lss 16 0]
abbrev qbfu : List SOper := [Ka 4 9]
abbrev qbft : List SOper := [Ma 18 0, Od 19 (.nilc (.t 18)) 1, Od 20 (Pf 4 19) 3, Od 21 (Pa 20) 7, Ma 22 6, Ma 23 0, Sa 24 6 3, Qh 25 54 [23, 24] 96, Od 26 (Pi 6 21 22) 255, Og (.store 6 (.t 26) (.t 25)) 511]
abbrev qbfs : List SOper := [Ka 4 0]
def c_rchg : SCode := (Sf qbf0 [0, 3] (.seq (Sf qbfz [0, 3, 5] (Sf qbfy [0, 3, 5, 11] (Cn 11 (Sf qbfx [4] .ret) .skip))) (Sf qbfw [0, 3, 6] (.seq (Sf qbfv [0, 3, 6, 17] (Cn 17 (Sf qbfu [4] .ret) .skip)) (.seq (Rt qbft []) (Sf qbfs [4] .ret))))))
abbrev qa69 : List SOper := [Oa 3 (.box 38 (.t 1)), Ka 4 0]
abbrev qa68 : List SOper := [Ma 8 0, Sa 9 6 3, Qc 10 52 [8, 9], Ma 5 10]
abbrev qa67 : List SOper := [Ma 11 5, Ca 12 .neq 11 0]
abbrev qa66 : List SOper := [Ma 13 5, Ma 4 13]
abbrev qa65 : List SOper := [Ma 14 0, Sa 15 6 3, Qc 16 53 [14, 15], Ma 6 16]
abbrev qa64 : List SOper := [Ma 17 6, Ca 18 .lss 17 0]
abbrev qa63 : List SOper := [Ka 4 9]
abbrev qa62 : List SOper := [Oa 7 (.mv (.c .nilsl))]
abbrev qapn : List SOper := [Ma 19 0, Ma 20 7, Ma 21 0, Od 22 (.nilc (.t 21)) 4, Od 23 (Pf 4 22) 12, Od 24 (Pa 23) 28, Ma 25 6, Od 26 (.slice 6 (.t 24) none (some (.t 25))) 124, Od 27 (.app 38 6 96 (.t 20) (.t 26)) 254, Ma 28 0, Od 29 (.nilc (.t 28)) 512, Od 30 (Pf 4 29) 1536, Od 31 (Pa 30) 3584, Ma 32 6, Od 33 (Pc .add 32 1) 8192, Od 34 (.slice 6 (.t 31) (some (.t 33)) none) 32256, Od 35 (.app 38 6 96 (.t 27) (.t 34)) 65534, Od 36 (.nilc (.t 19)) 131071, Od 37 (Pf 4 36) 262143, Og (.store 1 (.t 37) (.t 35)) 524287]
abbrev qaye : List SOper := [Ka 4 0]
def qbkm : SCode := (Sf qa69 [0, 3] (.seq (Sf qa68 [0, 3, 5] (Sf qa67 [0, 3, 5, 12] (Cn 12 (Sf qa66 [4] .ret) .skip))) (Sf qa65 [0, 6] (.seq (Sf qa64 [0, 6, 18] (Cn 18 (Sf qa63 [4] .ret) .skip)) (Sf qa62 [0, 6, 7] (.seq (Rt qapn []) (Sf qaye [4] .ret)))))))
abbrev qa6t : List SOper := [Oa 4 (.box 38 (.t 1)), Oa 6 (.mv (.c (.bool false)))]
abbrev qa6s : List SOper := [Ma 9 0, Oa 10 (.nilc (.t 9)), Fa 11 0 10, La 12 11]
abbrev qa6r : List SOper := [Ca 14 .eql 12 1, Ma 13 14]
abbrev qa6q : List SOper := [Fa 15 0 4, La 16 15, Ma 17 2, Qc 18 39 [16, 17], Ma 6 18]
abbrev qa6p : List SOper := [Ca 20 .eql 12 2, Ma 19 20]
abbrev qa6o : List SOper := [Ma 21 0, Od 22 (.nilc (.t 21)) 1, Od 23 (Pf 2 22) 3, Od 24 (Pa 23) 7, Qh 25 58 [24] 15, Ma 26 0, Od 27 (.nilc (.t 26)) 32, Od 28 (Pf 2 27) 96, Od 29 (Pa 28) 224, Fa 30 2 4, Od 31 (Pa 30) 512, Od 32 (Pb .sub 29 31) 2016, Qh 33 58 [32] 4095, Od 34 (Pb .sub 25 33) 8191, Od 7 (Pm 34) 16383]
abbrev qa6n : List SOper := [Ma 35 2, Od 36 (.iaddr 1 (.t 35) (.c (.int .i64 0))) 1, Od 37 (Pa 36) 3, Ma 38 7, Od 39 (Pb .and 37 38) 15, Fa 40 0 4, Od 41 (Pa 40) 32, Od 42 (.iaddr 1 (.t 41) (.c (.int .i64 0))) 96, Od 43 (Pa 42) 224, Od 44 (Pb .eql 39 43) 511, Od 6 (Pm 44) 1023]
abbrev qa6m : List SOper := [Ka 8 0]
abbrev qa6l : List SOper := [Ma 45 8, Ma 46 2, Na 47 46, Ba 48 .lss 45 47]
abbrev qayd : List SOper := [Ma 51 2, Ma 52 8, Od 53 (Pi 1 51 52) 3, Od 54 (Pa 53) 7, Fa 55 1 4, Od 56 (Pa 55) 16, Ma 57 8, Od 58 (Pi 1 56 57) 112, Od 59 (Pa 58) 240, Od 60 (Pb .and 54 59) 511, Fa 61 0 4, Od 62 (Pa 61) 1024, Ma 63 8, Od 64 (Pi 1 62 63) 7168, Od 65 (Pa 64) 15360, Od 66 (Pb .neq 60 65) 32767]
abbrev qayc : List SOper := [Oa 6 (.mv (.c (.bool false)))]
abbrev qayb : List SOper := [Ma 49 8, Ca 50 .add 49 1, Ma 8 50]
def qapk : SCode := (.seq (Sf qa6l [2, 4, 8, 48] (Ce 48 1)) (.seq (.block 2 (.seq (Rt qayd [2, 4, 8, 66]) (Cn 66 (Sf qayc [6] .ret) .skip))) (Rf qayb [2, 4, 8])))
abbrev qaya : List SOper := [Oa 6 (.mv (.c (.bool true)))]
def qbkl : SCode := (Sf qa6t [0, 2, 4] (.seq (Sf qa6s [0, 2, 4, 12] (.block 0 (Sf qa6r [0, 2, 4, 12, 13] (Cn 13 (Sf qa6q [6] .ret) (Sf qa6p [0, 2, 4, 19] (Cn 19 (.seq (Rt qa6o [2, 4, 7]) (.seq (Rt qa6n [6]) .ret)) .skip)))))) (.seq (Sf qa6m [2, 4, 8] (Bl 1 qapk)) (Sf qaya [6] .ret))))
abbrev qa60 : List SOper := [Oa 4 (.alloc 46 [(.int .i64 0), .nilsl]), Ka 5 0, Oa 6 (.mv (.c (.bool false)))]
abbrev qa6z : List SOper := [Ma 10 1, Od 11 (Pn 10) 1, Ma 12 0, Od 13 (.nilc (.t 12)) 4, Od 14 (Pf 1 13) 12, Od 15 (Pa 14) 28, Od 16 (Pb .neq 11 15) 63, Od 17 (Pm 16) 127, Of 18 (Pm 0) 17 false 255, Of 19 (.nilc (.t 18)) 17 false 511, Of 20 (Pf 0 19) 17 false 1023, Of 21 (Pa 20) 17 false 2047, Of 22 (Pc .eql 21 2) 17 false 4095, Of 23 (Pm 22) 17 false 8191, Of 24 (Pm 0) 23 true 16383, Of 25 (.nilc (.t 24)) 23 true 32767, Of 26 (Pf 2 25) 23 true 65535, Of 27 (Pa 26) 23 true 131071, Of 28 (Pc .lss 27 1) 23 true 262143, Of 29 (Pm 28) 23 true 524287, Of 30 (Pm 0) 29 false 1048575, Of 31 (.nilc (.t 30)) 29 false 2097151, Of 32 (Pf 2 31) 29 false 4194303, Of 33 (Pa 32) 29 false 8388607, Of 34 (Pc .gtr 33 64) 29 false 16777215, Of 35 (Pt 29 34) 23 true 33554431, Of 36 (Pm 35) 23 true 67108863, Of 37 (Pm 1) 36 false 134217727, Of 38 (.iaddr 1 (.t 37) (.c (.int .i64 0))) 36 false 268435455, Of 39 (Pa 38) 36 false 536870911, Of 40 (Pm 0) 36 false 134217727, Of 41 (.nilc (.t 40)) 36 false 1207959551, Of 42 (Pf 2 41) 36 false 3355443199, Of 43 (Pa 42) 36 false 7650410495, Qi 44 51 [39, 43] 36 false 17179869183, Of 45 (Pt 36 44) 23 true 34359738367, Of 46 (Pu 23 45) 17 false 68719476735, Od 47 (Pt 17 46) 137438953471]
abbrev qa6y : List SOper := [Oa 48 (.build [(.int .i64 0), .nilsl] []), Va 2 4 48, Ka 5 0, Oa 6 (.mv (.c (.bool false)))]
abbrev qapm : List SOper := [Oa 7 (.mv (.c (.int .i64 (-1))))]
abbrev qapl : List SOper := [Ka 8 0]
abbrev qa6x : List SOper := [Ma 49 8, Ma 50 0, Oa 51 (.nilc (.t 50)), Fa 52 4 51, La 53 52, Na 54 53, Ba 55 .lss 49 54]
abbrev qa6w : List SOper := [Ma 58 0, Ma 59 0, Od 60 (.nilc (.t 59)) 2, Od 61 (Pf 4 60) 6, Od 62 (Pa 61) 14, Ma 63 8, Od 64 (Pi 6 62 63) 62, Od 65 (Ps 6 64) 126, Ma 66 1, Qh 67 55 [58, 65, 66] 511, Od 68 (Pm 67) 1023, Of 69 (Pm 7) 68 true 2047, Of 70 (Pc .lss 69 0) 68 true 4095, Of 71 (Pm 70) 68 true 8191, Of 72 (Pm 0) 71 false 16383, Of 73 (.nilc (.t 72)) 71 false 32767, Of 74 (Pf 4 73) 71 false 65535, Of 75 (Pa 74) 71 false 131071, Of 76 (Pm 8) 71 false 16383, Of 77 (Pi 6 75 76) 71 false 524287, Of 78 (Pf 2 77) 71 false 1048575, Of 79 (Pa 78) 71 false 2097151, Of 80 (Pm 0) 71 false 16383, Of 81 (.nilc (.t 80)) 71 false 4210687, Of 82 (Pf 4 81) 71 false 12599295, Of 83 (Pa 82) 71 false 29376511, Of 84 (Pm 7) 71 false 16383, Of 85 (Pi 6 83 84) 71 false 130039807, Of 86 (Pf 2 85) 71 false 264257535, Of 87 (Pa 86) 71 false 532692991, Of 88 (Pb .gtr 79 87) 71 false 1073741823, Of 89 (Pt 71 88) 68 true 2147483647, Of 90 (Pm 89) 68 true 4294967295, Of 91 (Pm 0) 90 false 8589934591, Of 92 (.nilc (.t 91)) 90 false 17179869183, Of 93 (Pf 4 92) 90 false 34359738367, Of 94 (Pa 93) 90 false 68719476735, Of 95 (Pm 8) 90 false 8589934591, Of 96 (Pi 6 94 95) 90 false 274877906943, Of 97 (Pf 3 96) 90 false 549755813887, Of 98 (Pa 97) 90 false 1099511627775, Of 99 (Pm 0) 90 false 8589934591, Of 100 (.nilc (.t 99)) 90 false 2207613190143, Of 101 (Pf 4 100) 90 false 6605659701247, Of 102 (Pa 101) 90 false 15401752723455, Of 103 (Pm 7) 90 false 8589934591, Of 104 (Pi 6 102 103) 90 false 68178310856703, Of 105 (Pf 3 104) 90 false 138547055034367, Of 106 (Pa 105) 90 false 279284543389695, Of 107 (Pb .lss 98 106) 90 false 562949953421311, Of 108 (Pt 90 107) 68 true 1125899906842623, Od 109 (Pu 68 108) 2251799813685247]
abbrev qa6v : List SOper := [Ma 110 8, Ma 7 110]
abbrev qa6u : List SOper := [Ma 56 8, Ca 57 .add 56 1, Ma 8 57]
def qaj8 : SCode := (.seq (Sf qa6x [0, 1, 4, 7, 8, 55] (Ce 55 0)) (.seq (.block 1 (.seq (Rt qa6w [0, 1, 4, 7, 8, 109]) (Cn 109 (Rf qa6v [0, 1, 4, 7, 8]) .skip))) (Rf qa6u [0, 1, 4, 7, 8])))
abbrev qalp : List SOper := [Ma 111 7, Ca 112 .lss 111 0]
abbrev qalo : List SOper := [Oa 113 (.build [(.int .i64 0), .nilsl] []), Va 2 4 113, Ka 5 0, Oa 6 (.mv (.c (.bool false)))]
abbrev qaln : List SOper := [Ma 114 0, Oa 115 (.nilc (.t 114)), Fa 116 4 115, La 117 116, Ma 118 7, Ia 119 6 117 118, Sa 120 6 119, Qc 121 41 [120], Oa 9 (.alloc 38 [.nilsl, .nilsl, (.int .i64 0), (.int .i64 0), (.int .i64 0), .nilsl]), Va 6 9 121]
abbrev qalm : List SOper := [Fa 122 4 9, Od 123 (Pa 122) 1, Fa 124 5 9, Od 125 (Pa 124) 4, Od 126 (.build [(.int .i64 0), .nilsl] [(0, 1, (.t 123)), (1, 1, (.t 125))]) 15, Fa 127 2 9, Od 128 (Pa 127) 32, Og (.store 2 (.t 4) (.t 126)) 31, Od 5 (Pm 128) 255, Od 6 (.mv (.c (.bool true))) 511]
def qa61 : SCode := (Sf qa60 [0, 1, 4] (.seq (.seq (Rt qa6z [0, 1, 4, 47]) (Cn 47 (Sf qa6y [4, 5, 6] .ret) .skip)) (Sf qapm [0, 1, 4, 7] (.seq (Sf qapl [0, 1, 4, 7, 8] (Bl 0 qaj8)) (.seq (Sf qalp [0, 4, 7, 112] (Cn 112 (Sf qalo [4, 5, 6] .ret) .skip)) (Sf qaln [4, 9] (.seq (Rt qalm [4, 5, 6]) .ret)))))))
abbrev qa9c : List SOper := [Oa 2 (.box 38 (.t 0)), Oa 3 (.box 38 (.t 1)), Oa 4 (.mv (.c (.bool false)))]
abbrev qa9b : List SOper := [Fa 6 3 2, La 7 6, Fa 8 3 3, La 9 8, Ba 10 .neq 7 9]
abbrev qa9a : List SOper := [Fa 11 3 2, La 12 11, Fa 13 3 3, La 14 13, Ba 15 .lss 12 14, Ma 4 15]
abbrev qa89 : List SOper := [Fa 16 0 2, La 17 16, Fa 18 0 3, La 19 18, Qc 20 56 [17, 19], Ma 5 20]
abbrev qa88 : List SOper := [Ma 21 5, Ca 22 .neq 21 0]
abbrev qa87 : List SOper := [Ma 23 5, Ca 24 .lss 23 0, Ma 4 24]
abbrev qa86 : List SOper := [Fa 25 2 2, La 26 25, Fa 27 2 3, La 28 27, Ba 29 .neq 26 28]
abbrev qa85 : List SOper := [Fa 30 2 2, La 31 30, Fa 32 2 3, La 33 32, Ba 34 .lss 31 33, Ma 4 34]
abbrev qa84 : List SOper := [Fa 35 1 2, La 36 35, Fa 37 1 3, La 38 37, Qc 39 56 [36, 38], Ca 40 .lss 39 0, Ma 4 40]
def qbkt : SCode := (Sf qa9c [2, 3] (.seq (Sf qa9b [2, 3, 10] (Cn 10 (Sf qa9a [4] .ret) .skip)) (Sf qa89 [2, 3, 5] (.seq (Sf qa88 [2, 3, 5, 22] (Cn 22 (Sf qa87 [4] .ret) .skip)) (.seq (Sf qa86 [2, 3, 29] (Cn 29 (Sf qa85 [4] .ret) .skip)) (Sf qa84 [4] .ret))))))
abbrev qbf9 : List SOper := [Oa 2 (.mv (.c .nilsl))]
abbrev qbf8 : List SOper := [Oa 3 (.mv (.c .nilsl))]
abbrev qbf7 : List SOper := [Ma 6 3, Na 7 6, Ma 8 0, Oa 9 (.nilc (.t 8)), Fa 10 4 9, La 11 10, Na 12 11, Ba 13 .lss 7 12]
abbrev qbf6 : List SOper := [Oa 4 (.mv (.c (.int .i64 (-1))))]
abbrev qbf5 : List SOper := [Ka 5 0]
abbrev qbf4 : List SOper := [Ma 14 5, Ma 15 0, Oa 16 (.nilc (.t 15)), Fa 17 4 16, La 18 17, Na 19 18, Ba 20 .lss 14 19]
abbrev qbf3 : List SOper := [Ma 23 3, Od 24 (Pn 23) 1, Od 25 (Pc .gtr 24 0) 3, Od 26 (Pm 25) 7, Of 27 (Pm 3) 26 true 15, Of 28 (Pm 3) 26 true 15, Of 29 (Pn 28) 26 true 47, Of 30 (Pc .sub 29 1) 26 true 111, Of 31 (Pi 6 27 30) 26 true 255, Of 32 (Ps 6 31) 26 true 511, Of 33 (Pm 0) 26 true 15, Of 34 (.nilc (.t 33)) 26 true 1039, Of 35 (Pf 4 34) 26 true 3087, Of 36 (Pa 35) 26 true 7183, Of 37 (Pm 5) 26 true 15, Of 38 (Pi 6 36 37) 26 true 31759, Of 39 (Ps 6 38) 26 true 64527, Qi 40 47 [32, 39] 26 true 131071, Of 41 (.un .not (.t 40)) 26 true 262143, Od 42 (Pu 26 41) 524287]
abbrev qbf2 : List SOper := [Ma 43 4, Od 44 (Pc .lss 43 0) 1, Od 45 (Pm 44) 3, Of 46 (Pm 0) 45 false 7, Of 47 (.nilc (.t 46)) 45 false 15, Of 48 (Pf 4 47) 45 false 31, Of 49 (Pa 48) 45 false 63, Of 50 (Pm 5) 45 false 7, Of 51 (Pi 6 49 50) 45 false 255, Of 52 (Ps 6 51) 45 false 511, Of 53 (Pm 0) 45 false 7, Of 54 (.nilc (.t 53)) 45 false 1031, Of 55 (Pf 4 54) 45 false 3079, Of 56 (Pa 55) 45 false 7175, Of 57 (Pm 4) 45 false 7, Of 58 (Pi 6 56 57) 45 false 31751, Of 59 (Ps 6 58) 45 false 64519, Qi 60 47 [52, 59] 45 false 131071, Od 61 (Pt 45 60) 262143]
abbrev qbf1 : List SOper := [Ma 62 5, Ma 4 62]
abbrev qa7d : List SOper := [Ma 21 5, Ca 22 .add 21 1, Ma 5 22]
def qatu : SCode := (.seq (Sf qbf4 [0, 3, 4, 5, 20] (Ce 20 2)) (.seq (.block 3 (.seq (.seq (Rt qbf3 [0, 3, 4, 5, 42]) (Cn 42 (.exit 3) .skip)) (.seq (Rt qbf2 [0, 3, 4, 5, 61]) (Cn 61 (Rf qbf1 [0, 3, 4, 5]) .skip)))) (Rf qa7d [0, 3, 4, 5])))
abbrev qa7c : List SOper := [Ma 63 3, Ma 64 0, Oa 65 (.nilc (.t 64)), Fa 66 4 65, La 67 66, Ma 68 4, Ia 69 6 67 68, Sa 70 6 69, Qc 71 41 [70], Oa 72 (.mkrow 38 6 1 [.nilsl, .nilsl, (.int .i64 0), (.int .i64 0), (.int .i64 0), .nilsl] [(0, (.t 71))]), Oa 73 (.app 38 6 96 (.t 63) (.t 72)), Ma 3 73]
def qatt : SCode := (.seq (Sf qbf7 [0, 3, 13] (Ce 13 0)) (.block 1 (Sf qbf6 [0, 3, 4] (.seq (Sf qbf5 [0, 3, 4, 5] (Bl 2 qatu)) (Rf qa7c [0, 3])))))
abbrev qa7b : List SOper := [Ma 74 3, Ma 2 74]
def c_rall : SCode := (Sf qbf9 [0] (Sf qbf8 [0, 3] (.seq (Bl 0 qatt) (Sf qa7b [2] .ret))))
section
attribute [local simp] qaa6 qaa5 qaak qaas qaal qaar qaa3 qaa4 qaae qabh SOp.run SX.ev putd puts argS upds SOp.touch SSt.keep SSt.skip gets geth puth delh idOf SV.cells? setL qac5 qac6 sbin eq0 eq1 eqL qac2 qaby qab0 qaa2 qaa1 qaac qaa7 qabi qaaj qaad FrzOk qaav qaan qaat qaau qaaf qaam qaa8 qaao qaah qaaw qaag frzS frzH frz frz1 frz0 SlotsM ObjsM ObjM rn ren ren1 ren0 qabk qabw qabz qabj qaa9 qabx qab1 CoL qaax qabr dels adds idsH qabc
def qaip : List Int → List Int → Int
 | [], [] => 0
 | [], _ :: _ => -1
 | _ :: _, [] => 1
 | x :: xs, y :: ys => if x < y then -1 else if x > y then 1 else qaip xs ys
theorem qant {xs ys : List Int} {i : Nat} (hx : i < xs.length) (hy : i < ys.length) : qaip (xs.drop i) (ys.drop i) = if xs[i] < ys[i] then -1 else if xs[i] > ys[i] then 1 else qaip (xs.drop (i + 1)) (ys.drop (i + 1)) := by
 rw [List.drop_eq_getElem_cons hx, List.drop_eq_getElem_cons hy]; rfl
theorem qba0 {xs ys : List Int} {i : Nat} (h1 : i ≤ xs.length) (h2 : i ≤ ys.length) (h : xs.length ≤ i ∨ ys.length ≤ i) : qaip (xs.drop i) (ys.drop i) = if xs.length < ys.length then -1 else if ys.length < xs.length then 1 else 0 := by
 have a : ∀ l : List Int, l.drop i = [] ↔ l.length ≤ i := fun l => List.drop_eq_nil_iff
 cases ha : xs.drop i with
 | nil =>
  have := (a xs).1 ha;cases hb : ys.drop i with
  | nil => have := (a ys).1 hb; rw [if_neg (by omega), if_neg (by omega)]; rfl
  | cons y l => have : ¬ ys.length ≤ i := fun h => by rw [(a ys).2 h] at hb; cases hb
                rw [if_pos (by omega)]; rfl
 | cons x l =>
  have : ¬ xs.length ≤ i := fun h => by rw [(a xs).2 h] at ha; cases ha
  cases hb : ys.drop i with
  | nil => have := (a ys).1 hb; rw [if_neg (by omega), if_pos (by omega)]; rfl
  | cons y l => have : ¬ ys.length ≤ i := fun h => by rw [(a ys).2 h] at hb; cases hb
                omega
theorem less_s (xs ys : List Int) (hx : xs.length ≤ 1000000) : SCalls Tryz.prog 56 [nums .u64 xs, nums .u64 ys] [] 0 (.int .i64 (qaip xs ys)) [] := by
 refine yG (N := 46) Tryz.func56 c_less ⟨rfl, rfl, trivial⟩ trivial ?_;rintro X hP hN hm;have fin : ∀ (r : Int) hp nx, r = qaip xs ys → QFun X (Tryz.f56).results.toList 0 (.int .i64 (qaip xs ys)) [] .ret ⟨[(4, .int .i64 r)], hp, nx⟩ := fun r hp nx hr => by
  rw [hr];exact (qabu (s' := ⟨[(4, .int .i64 (qaip xs ys))], [], 0⟩) (qabl [] hm rfl (Nat.le_refl _) (by simp -implicitDefEqProofs []) trivial) rfl trivial (by simp))
 unfold c_less;repeat' (first | (with_reducible refine qabb ?_) | ((with_reducible refine qaab ?_); (try rw [hP]); simp -implicitDefEqProofs [*]) | fail)
 refine qabf (qadm (fun s n => ∃ i : Nat, s = ⟨[(0, nums .u64 xs), (1, nums .u64 ys), (5, .int .i64 i)], [], 0⟩ ∧ i ≤ xs.length ∧ i ≤ ys.length ∧ qaip (xs.drop i) (ys.drop i) = qaip xs ys ∧ n = xs.length - i) (qabl [] hm rfl (Nat.le_refl _) (by simp -implicitDefEqProofs [nums]) (by trivial)) ⟨0, rfl, by omega, by omega, by simp, rfl⟩ ?_);rintro s n ⟨i, rfl, h1, h2, hl, rfl⟩;unfold qat6;repeat' (first | (with_reducible first | refine qabb ?_ | refine qabg ?_) | ((with_reducible refine qadv ?_ ?_); (focus rfl)) | ((with_reducible first | refine qaab ?_ | refine qaaz (by rw [hP]; exact mixed) ?_); (try rw [hP]); simp -implicitDefEqProofs [nums, *]) | ((with_reducible first | refine qaai ?_ | refine qabv ?_); (try simp -implicitDefEqProofs [nums, *])) | ((with_reducible refine qaba ?_); (try simp only [qaa2, qaac, qaaj])) | ((with_reducible refine qaap rfl (fun h => ?_) (fun h => ?_)) <;> have h' := h <;> (try simp at h') <;> (try subst h')) | ((with_reducible refine qacn (fun h => ?_) (fun h => ?_)) <;> have h' := h <;> (try simp at h') <;> (try subst h') <;> simp -implicitDefEqProofs [nums, *]) | (refine fin _ _ _ ?_) | ((rw [qabo (by omega) (by omega)]; refine qab3 (qabl [] hm rfl (Nat.zero_le _) (by simp -implicitDefEqProofs) (by trivial)) ⟨i + 1, rfl, ?_, ?_, ?_, rfl⟩ (by omega))) | fail)
 all_goals try omega
 all_goals try (rw [← hl, qba0 h1 h2 (by omega)]; (repeat' split) <;> omega)
 all_goals try (rw [← hl, qant (by omega) (by omega)]; (repeat' split) <;> first | rfl | omega)
 rw [← hl, qant (i := i) (by omega) (by omega), if_neg (by omega), if_neg (by omega)]
end
def qabq (L : List Entry) : SObj := .row 38 6 (L.map qaaa)
theorem qacq (σ : Nat → Nat) (k : IntKind) (xs : List Int) : ren σ (nums k xs) = nums k xs := rfl
theorem qab2 (σ : Nat → Nat) (e : Entry) : (qaaa e).map (ren σ) = qaaa e := rfl
theorem qabn (σ : Nat → Nat) (L : List Entry) : (L.map qaaa).map (·.map (ren σ)) = L.map qaaa := by
 rw [List.map_map]; rfl
theorem qaca (σ : Nat → Nat) (L : List Entry) : List.map ((fun x => List.map (ren σ) x) ∘ qaaa) L = L.map qaaa := rfl
def qau2 (k : Int) : Int := if k ≤ 64 then 2 ^ k.toNat - 1 else 0
def mayB (ks : List Int) (ms : List Int) : Bool := (List.range ks.length).all fun i => bits .and .u64 (el ks i) (el ms i) == el ks i
theorem mayB_t {ks ms : List Int} (h : ∀ j, j < ks.length → (bits .and .u64 (el ks j) (el ms j) == el ks j) = true) : mayB ks ms = true :=
 List.all_eq_true.2 fun j hj => h j (List.mem_range.1 hj)
theorem mayB_f {ks ms : List Int} {j : Nat} (hj : j < ks.length) (h : ¬ bits .and .u64 (el ks j) (el ms j) = el ks j) : mayB ks ms = false :=
 List.all_eq_false.2 ⟨j, List.mem_range.2 hj, by simpa using h⟩
def mayC (kind keys width : Int) (e : Entry) : Int :=
 if kind = 1 then (if (e.keys.length : Int) = keys then 0 else 2)
 else if kind = 2 then (if (e.keys.length : Int) = 1 ∧ 1 ≤ width ∧ width ≤ 64 ∧ 0 ≤ e.len ∧ e.len ≤ width ∧ qaja (el e.keys 0) width = false then (if bits .and .u64 (el e.keys 0) (qau2 (width - e.len)) = 0 then 0 else 6) else 6)
 else if kind = 3 then (if (e.keys.length : Int) = keys ∧ (e.masks.length : Int) = keys ∧ 0 ≤ e.prio ∧ e.prio ≤ 1000 then (if mayB e.keys e.masks then 0 else 6) else 6)
 else 0
section
attribute [local simp] qaa6 qaa5 qaak qaas qaal qaar qaa3 qaa4 qaae qabh SOp.run SX.ev putd puts argS upds SOp.touch SSt.keep SSt.skip gets geth puth delh idOf SV.cells? setL qac5 qac6 sbin eq0 eq1 eqL qac2 qaby qab0 qaa2 qaa1 qaac qaa7 qabi qaaj qaad FrzOk qaav qaan qaat qaau qaaf qaam qaa8 qaao qaah qaaw qaag frzS frzH frz frz1 frz0 SlotsM ObjsM ObjM rn ren ren1 ren0 qabk qabw qabz qabj qaa9 qabx qab1 CoL qaax qabr dels adds idsH qabc
section
attribute [local simp] qabn qaca qacq
def oneB (kind : Int) (a b : Entry) : Bool := !((kind == 3 && (a.prio != b.prio || !decide (a.masks = b.masks))) || (kind == 2 && a.len != b.len)) && decide (a.keys = b.keys)
def atN (kind : Int) (L : List Entry) (e : Entry) : Nat := qaey (fun i => match L[i]? with | some a => oneB kind a e | none => false) L.length
def atI (kind : Int) (L : List Entry) (e : Entry) : Int := if atN kind L e < L.length then atN kind L e else -1
theorem qaeg {α : Type} {L : List α} {i : Nat} {P : α → Prop} (hi : i < L.length) (h : ∀ j a, j < i → L[j]? = some a → P a) (hb : P L[i]) : ∀ j a, j < i + 1 → L[j]? = some a → P a := by
 intro j a hj ha;rcases Nat.lt_or_ge j i with h4 | h4
 ·exact h j a h4 ha
 ·obtain rfl : j = i := by omega
  rw [List.getElem?_eq_getElem hi] at ha; cases ha; exact hb
theorem atI_yes {k : Int} {L : List Entry} {e : Entry} {i : Nat} (hi : i < L.length) (h : ∀ j a, j < i → L[j]? = some a → oneB k a e = false) (hb : oneB k L[i] e = true) : atI k L e = i := by
 have : atN k L e = i := qba9 _ _ _ (fun j hj => by
  simp only [List.getElem?_eq_getElem (Nat.lt_trans hj hi)];exact h j _ hj (List.getElem?_eq_getElem _)) (by simp only [List.getElem?_eq_getElem hi]; exact hb) hi
 unfold atI; rw [this, if_pos hi]
theorem atI_no {k : Int} {L : List Entry} {e : Entry} (h : ∀ j a, j < L.length → L[j]? = some a → oneB k a e = false) : atI k L e = -1 := by
 have : atN k L e = L.length := qau8 _ _ (fun j hj => by
  simp only [List.getElem?_eq_getElem hj];exact h j _ hj (List.getElem?_eq_getElem _))
 unfold atI; rw [this, if_neg (by omega)]
end
section
attribute [local simp] qabn qaca qacq
def qais (kind : Int) (e : Entry) : Entry := ⟨e.keys, if kind = 3 then e.masks else [], if kind = 2 then e.len else 0, if kind = 3 then e.prio else 0, e.act, e.args⟩
theorem qarl (e : Entry) (h : qacd e) (q : Nat) : SCalls Tryz.prog 41 [.agg (qaaa e)] [] q (.agg (qaaa e)) [] := yQ (own_s e h) q
end
section
attribute [local simp] qabn qaca qacq
def qacl (a b : Entry) : Bool := if a.prio = b.prio then (if qaip a.keys b.keys = 0 then (if a.len = b.len then decide (qaip a.masks b.masks < 0) else decide (a.len < b.len)) else decide (qaip a.keys b.keys < 0)) else decide (a.prio < b.prio)
theorem ahead_s (a b : Entry) (hs : qacd a) : SCalls Tryz.prog 47 [.agg (qaaa a), .agg (qaaa b)] [] 0 (.bool (qacl a b)) [] := by
 refine yG (N := 41) Tryz.func47 qbkt ⟨rfl, rfl, trivial⟩ trivial ?_;rintro X hP hN hm;obtain ⟨hs1, hs2, hs3⟩ := hs;have fin : ∀ (r : Bool) hp nx, r = qacl a b → QFun X (Tryz.f47).results.toList 0 (.bool (qacl a b)) [] .ret ⟨[(4, .bool r)], hp, nx⟩ := fun r hp nx hr => by
  rw [hr];exact (qabu (s' := ⟨[(4, .bool (qacl a b))], [], 0⟩) (qabl [] hm rfl (Nat.le_refl _) (by simp -implicitDefEqProofs) trivial) rfl trivial (by simp))
 unfold qbkt;repeat' (first | (with_reducible refine qabb ?_) | ((with_reducible refine qaab ?_); (try rw [hP]); simp -implicitDefEqProofs [qaaa, nums, *]) | ((with_reducible refine qaai ?_); (try simp -implicitDefEqProofs [qaaa, nums, *])) | ((with_reducible refine qaba ?_); (try simp only [qaa2, qaac, qaaj])) | ((with_reducible refine qaap rfl (fun h => ?_) (fun h => ?_)) <;> have h' := h <;> (try simp at h') <;> (try subst h')) | (refine qabe (yQ (less_s _ _ (by assumption)) _) ?_; simp -implicitDefEqProofs [qaaa, nums, *]) | (refine fin _ _ _ ?_) | fail)
 all_goals try (unfold qacl; simp_all; done)
theorem qazy {n : Nat} {p : Nat → Bool} (h : ∀ j, j < n → p j = true) : (List.range n).all p = true := List.all_eq_true.2 fun j hj => h j (List.mem_range.1 hj)
theorem qazz {n j : Nat} {p : Nat → Bool} (hj : j < n) (h : p j = false) : (List.range n).all p = false := List.all_eq_false.2 ⟨j, List.mem_range.2 hj, by simpa using h⟩
def qak2 (kind width : Int) (e : Entry) (k : List Int) : Bool :=
 if kind = 1 then decide (e.keys = k)
 else if kind = 2 then bits .and .u64 (el k 0) (IntKind.u64.wrap (qau2 width - qau2 (IntKind.i64.wrap (width - e.len)))) == el e.keys 0
 else (List.range k.length).all fun i => bits .and .u64 (el k i) (el e.masks i) == el e.keys i
def qap7 (kind : Int) (e : Entry) (k : List Int) : Prop := (kind = 2 → 1 ≤ k.length ∧ 1 ≤ e.keys.length) ∧ (kind ≠ 1 → kind ≠ 2 → k.length ≤ e.keys.length ∧ k.length ≤ e.masks.length)
end
section
attribute [local simp] qabn qaca qacq
def qakf (j : Nat) (a e : Entry) : Bool := a.prio == e.prio && (List.range j).all fun k => bits .and .u64 (el e.keys k) (bits .and .u64 (el e.masks k) (el a.masks k)) == bits .and .u64 (el a.keys k) (bits .and .u64 (el e.masks k) (el a.masks k))
def meetC (k : Nat) (a e : Entry) : Bool := bits .and .u64 (el e.keys k) (bits .and .u64 (el e.masks k) (el a.masks k)) == bits .and .u64 (el a.keys k) (bits .and .u64 (el e.masks k) (el a.masks k))
theorem qa0l (a e : Entry) : qakf 0 a e = (a.prio == e.prio) := by simp [qakf]
theorem qanp (j : Nat) (a e : Entry) : qakf (j + 1) a e = (qakf j a e && meetC j a e) := by
 unfold qakf meetC;rw [List.range_succ, List.all_append];simp [Bool.and_assoc]
def addC (k ks wd ms : Int) (L : List Entry) (e : Entry) : Int :=
 if mayC k ks wd e = 0 then (if 0 ≤ atI k L e then 7 else if k = 3 ∧ L.any (fun a => qakf ks.toNat a e) = true then 8 else if ms ≤ L.length then 10 else 0) else mayC k ks wd e
def qamz (k ks : Int) (L : List Entry) : Prop := k = 3 → 0 ≤ ks ∧ ks ≤ 1000000 ∧ ∀ a ∈ L, (a.keys.length : Int) = ks ∧ (a.masks.length : Int) = ks
theorem may3 {ks wd : Int} {e : Entry} (h : mayC 3 ks wd e = 0) : (e.keys.length : Int) = ks ∧ (e.masks.length : Int) = ks := by
 unfold mayC at h;rw [if_neg (by omega), if_neg (by omega), if_pos rfl] at h;split at h
 ·omega
 ·cases h
end
section
attribute [local simp] qabn qaca qacq qab2
def chgC (k ks wd : Int) (L : List Entry) (e : Entry) : Int := if mayC k ks wd e = 0 then (if 0 ≤ atI k L e then 0 else 9) else mayC k ks wd e
def chgL (k ks wd : Int) (L : List Entry) (e : Entry) : List Entry := if chgC k ks wd L e = 0 then L.set (atN k L e) (qais k e) else L
theorem qah0 (k : Int) (L : List Entry) (e : Entry) : (atI k L e = atN k L e ∧ atN k L e < L.length) ∨ atI k L e = -1 := by
 unfold atI;split
 ·exact .inl ⟨rfl, ‹_›⟩
 ·exact .inr rfl
theorem qbnl (k ks wd : Int) (L : List Entry) (e : Entry) : (chgL k ks wd L e).length = L.length := by unfold chgL; split <;> simp
def qaha (k ks wd : Int) (L : List Entry) (e : Entry) : Int := if mayC k ks wd e = 0 then (if 0 ≤ atI k L e then 0 else 9) else mayC k ks wd e
def qai6 (k ks wd : Int) (L : List Entry) (e : Entry) : List Entry := if qaha k ks wd L e = 0 then L.take (atN k L e) ++ L.drop (atN k L e + 1) else L
theorem qakv (e : Entry) : qamy (qaaa e) := by unfold qaaa nums; simp
end
section
attribute [local simp] qabn qaca qacq qab2
def qafh (a : Entry) (L : List Entry) (b : Int) : Bool := decide (b < 0) || match L[b.toNat]? with
 | some c => decide (a.len > c.len) || decide (a.prio < c.prio)
 | none => false
def qbi2 (k wd : Int) (L : List Entry) (xs : List Int) (i : Nat) (b : Int) : Int := match L[i]? with
 | some a => if qak2 k wd a xs && qafh a L b then (i : Int) else b
 | none => b
def qail (k wd : Int) (L : List Entry) (xs : List Int) : Nat → Int
 | 0 => -1
 | i + 1 => qbi2 k wd L xs i (qail k wd L xs i)
def qaia (k ks wd : Int) (xs : List Int) : Bool := decide ((xs.length : Int) = ks) && !(k == 2 && (decide (wd < 1) || (decide (64 < wd) || qaja (el xs 0) wd)))
def qbjs (k ks wd : Int) (L : List Entry) (xs : List Int) : Int := if qaia k ks wd xs then qail k wd L xs L.length else -1
def qag9 (k ks wd : Int) (L : List Entry) (xs : List Int) : Option Entry := if 0 ≤ qbjs k ks wd L xs then L[(qbjs k ks wd L xs).toNat]? else none
def qajo (o : Option Entry) : SV := match o with
 | none => .tup [.agg (qacc 0 []), .int .i64 0, .bool false]
 | some e => .tup [.agg (qacc e.act e.args), .int .i64 e.len, .bool true]
theorem qajh {k wd : Int} {L : List Entry} {xs : List Int} {i : Nat} {b : Int} (hi : i < L.length) : qbi2 k wd L xs i b = if qak2 k wd L[i] xs && qafh L[i] L b then (i : Int) else b := by
 unfold qbi2; rw [List.getElem?_eq_getElem hi]
theorem qalr (k wd : Int) (L : List Entry) (xs : List Int) : ∀ i, i ≤ L.length → qail k wd L xs i = -1 ∨ ∃ j : Nat, qail k wd L xs i = j ∧ j < i
 | 0, _ => .inl rfl
 | i + 1, h => by
  have ih := qalr k wd L xs i (by omega);show qbi2 k wd L xs i (qail k wd L xs i) = -1 ∨ ∃ j : Nat, qbi2 k wd L xs i (qail k wd L xs i) = j ∧ j < i + 1;rw [qajh (by omega)];generalize qail k wd L xs i = b at *;split
  ·exact .inr ⟨i, rfl, by omega⟩
  ·rcases ih with h1 | ⟨j, h1, h2⟩
   ·exact .inl h1
   ·exact .inr ⟨j, h1, by omega⟩
def qats : SCode := (Sf qapm [0, 1, 4, 7] (.seq (Sf qapl [0, 1, 4, 7, 8] (Bl 0 qaj8)) (.seq (Sf qalp [0, 4, 7, 112] (Cn 112 (Sf qalo [4, 5, 6] .ret) .skip)) (Sf qaln [4, 9] (.seq (Rt qalm [4, 5, 6]) .ret)))))
end
section
attribute [local simp] qabn qaca qacq qab2
theorem qaes : ∀ xs : List Int, qaip xs xs = 0
 | [] => rfl
 | x :: xs => by show (if x < x then (-1 : Int) else if x > x then 1 else qaip xs xs) = 0; rw [if_neg (by omega), if_neg (by omega)]; exact qaes xs
theorem qajz : ∀ xs ys : List Int, qaip ys xs = - qaip xs ys
 | [], [] => rfl
 | [], _ :: _ => rfl
 | _ :: _, [] => rfl
 | x :: xs, y :: ys => by
  show (if y < x then (-1 : Int) else if y > x then 1 else qaip ys xs) = - (if x < y then (-1 : Int) else if x > y then 1 else qaip xs ys);rw [qajz xs ys]
  (repeat' split) <;> omega
theorem qayl {a b : Entry} (h : qacl a b = true) : qacl b a = false := by
 unfold qacl at h ⊢;have h1 := qajz a.keys b.keys;have h2 := qajz a.masks b.masks;rw [h1, h2]
 (repeat' split at h) <;> (repeat' split) <;> simp_all <;> omega
def qark (S : List Entry) (n : Nat) (x : Entry) : Bool := match n with
 | 0 => true
 | m + 1 => match S[m]? with
  | some l => qacl l x
  | none => true
def qbk1 (S L : List Entry) (n i : Nat) (b : Int) : Prop :=
 (b = -1 ∧ ∀ j a, j < i → L[j]? = some a → qark S n a = false) ∨ ∃ (k : Nat) (e : Entry), b = k ∧ k < i ∧ L[k]? = some e ∧ qark S n e = true ∧ ∀ j a, j < i → L[j]? = some a → qark S n a = true → qacl a e = false
theorem qal3 {S : List Entry} (hS : S.Pairwise fun a b => qacl a b = true) {i j : Nat} (hij : i < j) (hj : j < S.length) : qacl S[i] S[j] = true := List.pairwise_iff_getElem.1 hS i j (by omega) hj hij
theorem qams {S : List Entry} (hS : S.Pairwise fun a b => qacl a b = true) {n m : Nat} (hn : n ≤ S.length) (hm : m < S.length) : qark S n S[m] = true ↔ n ≤ m := by
 cases n with
 | zero => simp [qark]
 | succ k =>
  show (match S[k]? with | some l => qacl l S[m] | none => true) = true ↔ k + 1 ≤ m;rw [List.getElem?_eq_getElem (by omega)];show qacl S[k] S[m] = true ↔ k + 1 ≤ m;rcases Nat.lt_or_ge k m with h | h
  ·rw [qal3 hS h hm]; simp; omega
  ·have : qacl S[k] S[m] = false := by
    rcases Nat.lt_or_ge m k with h2 | h2
    ·exact qayl (qal3 hS h2 (by omega))
    ·obtain rfl : m = k := by omega
     unfold qacl; rw [if_pos rfl, if_pos (qaes _), if_pos rfl, qaes]; rfl
   rw [this]; simp; omega
theorem qbim {S L : List Entry} (hS : S.Pairwise fun a b => qacl a b = true) (hp : S.Perm L) {n : Nat} (hn : n < S.length) {b : Int} (h : qbk1 S L n L.length b) : ∃ k : Nat, b = k ∧ L[k]? = some S[n] := by
 have mem : ∀ m (hm : m < S.length), ∃ j, j < L.length ∧ L[j]? = some S[m] := fun m hm => by
  obtain ⟨j, hj⟩ := List.getElem?_of_mem (hp.mem_iff.1 (List.getElem_mem hm));exact ⟨j, (List.getElem?_eq_some_iff.1 hj).1, hj⟩
 obtain ⟨j, hj, hjn⟩ := mem n hn;rcases h with ⟨rfl, h⟩ | ⟨k, e, rfl, hk, he, hc, hb⟩
 ·have := h j _ hj hjn;rw [(qams hS (by omega) hn).2 (Nat.le_refl _)] at this; cases this
 ·refine ⟨k, rfl, ?_⟩;obtain ⟨m, hm0⟩ := List.getElem?_of_mem (hp.mem_iff.2 (List.mem_of_getElem? he));obtain ⟨hm, rfl⟩ := List.getElem?_eq_some_iff.1 hm0;have h1 := (qams hS (by omega) hm).1 hc;rcases Nat.lt_or_ge n m with h2 | h2
  ·have := hb j _ hj hjn ((qams hS (by omega) hn).2 (Nat.le_refl _));rw [qal3 hS h2 hm] at this; cases this
  ·obtain rfl : m = n := by omega
   exact he
end
end
section
theorem qai3 (g : Nat → Option SObj) (D : List Nat) (L : List Entry) : List.map ((fun x => List.map (frz0 g D) x) ∘ qaaa) L = L.map qaaa := rfl
attribute [local simp] qaa6 qaa5 qaak qaas qaal qaar qaa3 qaa4 qaae qabh SOp.run SX.ev putd puts argS upds SOp.touch SSt.keep SSt.skip gets geth puth delh idOf SV.cells? setL qac5 qac6 sbin eq0 eq1 eqL qac2 qaby qab0 qaa2 qaa1 qaac qaa7 qabi qaaj qaad FrzOk qaav qaan qaat qaau qaaf qaam qaa8 qaao qaah qaaw qaag frzS frzH frz frz1 frz0 SlotsM ObjsM ObjM rn ren ren1 ren0 qabk qabw qabz qabj qaa9 qabx qab1 CoL qaax qabr dels adds idsH qabc qabn qaca qacq qab2 qai3
theorem qa9j (a b : Entry) (hs : qacd a) (q : Nat) : SCalls Tryz.prog 47 [.agg (qaaa a), .agg (qaaa b)] [] q (.bool (qacl a b)) [] := yQ (ahead_s a b hs) q
theorem qbpx {S L : List Entry} {n i : Nat} {b : Int} (hi : i < L.length) (h : qbk1 S L n i b) (hc : qark S n L[i] = false) : qbk1 S L n (i + 1) b := by
 rcases h with ⟨rfl, h⟩ | ⟨k, e, rfl, hk, he, hce, hb⟩
 ·exact .inl ⟨rfl, qaeg hi h hc⟩
 ·exact .inr ⟨k, e, rfl, by omega, he, hce, qaeg (P := fun a => qark S n a = true → qacl a e = false) hi hb fun h => by rw [hc] at h; cases h⟩
theorem qbil {S L : List Entry} {n i : Nat} {b : Int} (hi : i < L.length) (h : qbk1 S L n i b) (hc : qark S n L[i] = true) (hb2 : b = -1 ∨ ∃ (k : Nat) (hk : k < L.length), b = k ∧ qacl L[i] L[k] = true) (hS : ∀ a ∈ L, ∀ c ∈ L, ∀ d ∈ L, qacl a c = true → qacl d c = false → qacl d a = false) : qbk1 S L n (i + 1) i := by
 refine .inr ⟨i, L[i], rfl, by omega, by simp [hi], hc, ?_⟩;have hself : qacl L[i] L[i] = false := by unfold qacl; rw [if_pos rfl, if_pos (qaes _), if_pos rfl, qaes]; rfl
 rcases h with ⟨rfl, h⟩ | ⟨k, e, rfl, hk, he, hce, hb⟩
 ·exact qaeg (P := fun a => qark S n a = true → qacl a L[i] = false) hi (fun j a hj ha hca => by rw [h j a hj ha] at hca; cases hca) fun _ => hself
 ·rcases hb2 with h2 | ⟨k2, hk2, h2, h3⟩
  ·omega
  ·obtain rfl : k = k2 := by omega
   rw [List.getElem?_eq_getElem hk2] at he; cases he
   exact qaeg (P := fun a => qark S n a = true → qacl a L[i] = false) hi (fun j a hj ha hca => hS L[i] (List.getElem_mem _) L[k] (List.getElem_mem _) a (List.mem_of_getElem? ha) h3 (hb j a hj ha hca)) fun _ => hself
theorem qbik {S L : List Entry} {n i : Nat} {k : Nat} (hi : i < L.length) (hk : k < L.length) (h : qbk1 S L n i k) (hn : qacl L[i] L[k] = false) : qbk1 S L n (i + 1) k := by
 rcases h with ⟨h1, h⟩ | ⟨k2, e, h1, hk2, he, hce, hb⟩
 ·omega
 ·obtain rfl : k = k2 := by omega
  rw [List.getElem?_eq_getElem hk] at he; cases he
  exact .inr ⟨k, L[k], rfl, by omega, by simp [hk], hce, qaeg (P := fun a => qark S n a = true → qacl a L[k] = false) hi hb fun _ => hn⟩
theorem qaji {S : List Entry} (hS : S.Pairwise fun a b => qacl a b = true) {i j : Nat} (hi : i < S.length) (hj : j < S.length) : qacl S[i] S[j] = true ↔ i < j := by
 have := qams hS (n := i + 1) (m := j) (by omega) hj;unfold qark at this;simp only [List.getElem?_eq_getElem hi] at this;exact this
theorem qa96 {S L : List Entry} (hS : S.Pairwise fun a b => qacl a b = true) (hp : S.Perm L) : ∀ a ∈ L, ∀ c ∈ L, ∀ d ∈ L, qacl a c = true → qacl d c = false → qacl d a = false := by
 intro a ha c hc d hd h1 h2;obtain ⟨i, hi0⟩ := List.getElem?_of_mem (hp.mem_iff.2 ha);obtain ⟨j, hj0⟩ := List.getElem?_of_mem (hp.mem_iff.2 hc);obtain ⟨m, hm0⟩ := List.getElem?_of_mem (hp.mem_iff.2 hd);obtain ⟨hi, rfl⟩ := List.getElem?_eq_some_iff.1 hi0;obtain ⟨hj, rfl⟩ := List.getElem?_eq_some_iff.1 hj0;obtain ⟨hm, rfl⟩ := List.getElem?_eq_some_iff.1 hm0;have k1 := (qaji hS hi hj).1 h1;have k2 : ¬ m < j := fun h => by rw [(qaji hS hm hj).2 h] at h2; cases h2
 cases h3 : qacl S[m] S[i] with
 | false => rfl
 | true => have := (qaji hS hm hi).1 h3; omega
end
theorem qazm (L : List Entry) : ∀ x ∈ L.map qaaa, x.all ok2 = true := by
 intro x hx;obtain ⟨e, _, rfl⟩ := List.mem_map.1 hx;rfl
theorem qbp6 (L : List Entry) (x : Entry) : (L ++ [x]).length = L.length + 1 := by simp
theorem qazp (σ : Nat → Nat) (o : Option Entry) : ren σ (qajo o) = qajo o := by cases o <;> rfl
def entE (s : XSlot) : Entry := ⟨s.keys, [], 0, 0, s.act, s.args⟩
theorem qa9f (L : List Entry) (e : Entry) : 0 ≤ atI 1 L e ↔ ∃ x ∈ L, x.keys = e.keys := by
 have ho : ∀ a : Entry, oneB 1 a e = decide (a.keys = e.keys) := fun a => by unfold oneB; simp
 unfold atI;constructor
 ·intro h;split at h
  ·rename_i h1;have := qafs _ _ (show qaey _ L.length < L.length from h1);split at this
   ·rename_i a ha;rw [ho] at this;exact ⟨a, List.mem_of_getElem? ha, by simpa using this⟩
   ·cases this
  ·omega
 ·rintro ⟨x, hx, hk⟩;obtain ⟨i, hi, rfl⟩ := List.mem_iff_getElem.1 hx;split
  ·omega
  ·rename_i h1;have h9 : atN 1 L e = L.length := Nat.le_antisymm (qaht _ _) (by omega);have h2 := qan2 _ _ h9 i hi;simp only [List.getElem?_eq_getElem hi] at h2;rw [ho] at h2;simp [hk] at h2
structure RelX (k m : Int) (S : XTab) (L : List Entry) : Prop where
 inv : XInv k m S
 perm : ((qagw S).map entE).Perm L
theorem RelX.len {k m : Int} {S : XTab} {L : List Entry} (h : RelX k m S L) : L.length = cnt S := by
 rw [← h.perm.length_eq, List.length_map, qamn]
theorem qajp {k m : Int} {S : XTab} {L : List Entry} (h : RelX k m S L) (e : Entry) : 0 ≤ atI 1 L e ↔ (qacj S e.keys).2 = true := by
 rw [qa9f, qajq h.inv];constructor
 ·rintro ⟨x, hx, hk⟩;obtain ⟨s, hs, rfl⟩ := List.mem_map.1 (h.perm.mem_iff.2 hx);exact ⟨s, hs, hk⟩
 ·rintro ⟨s, hs, hk⟩;exact ⟨entE s, h.perm.mem_iff.1 (List.mem_map.2 ⟨s, hs, rfl⟩), hk⟩
theorem may1 (k wd : Int) (e : Entry) : mayC 1 k wd e = if (e.keys.length : Int) = k then 0 else 2 := by unfold mayC; rw [if_pos rfl]
theorem qai7 {k m wd : Int} {S : XTab} {L : List Entry} (h : RelX k m S L) (e : Entry) : chgC 1 k wd L e = qaig k S e.keys := by
 unfold chgC qaig;rw [may1];by_cases h1 : (e.keys.length : Int) = k
 ·rw [if_pos h1, if_pos rfl, if_neg (show ¬ ((e.keys.length : Int) ≠ k) from fun h => h h1)];by_cases h2 : 0 ≤ atI 1 L e
  ·rw [if_pos h2, if_pos ((qajp h e).1 h2)]
  ·rw [if_neg h2, if_neg fun h3 => h2 ((qajp h e).2 h3)]
 ·rw [if_neg h1, if_neg (by decide), if_pos h1]
theorem qauf {k m wd : Int} (hm : m ≤ 1000) {S : XTab} {L : List Entry} (h : RelX k m S L) (e : Entry) : addC 1 k wd m L e = qap5 k m S e.keys := by
 unfold addC qap5;rw [may1];have hn := qbav hm;have hb := qano m;have hl := h.inv.len;have hc := h.len;by_cases h1 : (e.keys.length : Int) = k
 ·rw [if_pos h1, if_pos rfl, if_neg (show ¬ ((e.keys.length : Int) ≠ k) from fun h => h h1)];by_cases h2 : 0 ≤ atI 1 L e
  ·rw [if_pos h2, if_pos ((qajp h e).1 h2)]
  ·rw [if_neg h2, if_neg fun h3 => h2 ((qajp h e).2 h3), if_neg (show ¬ ((1 : Int) = 3 ∧ (L.any fun a => qakf k.toNat a e) = true) from fun h => absurd h.1 (by decide))];by_cases h3 : m ≤ L.length
   ·rw [if_pos h3, if_pos (.inl (by omega))]
   ·rw [if_neg h3, if_neg (by omega)]
 ·rw [if_neg h1, if_neg (by decide), if_pos h1]
theorem qan4 {k m : Int} {S : XTab} (h : XInv k m S) : ((qagw S).map entE).Nodup := by
 rw [List.nodup_iff_pairwise_ne, List.pairwise_map];exact (qan5 h).imp fun {a b} hne e => hne (congrArg Entry.keys e)
theorem qazw {k m : Int} {S : XTab} {L : List Entry} (hi : XInv k m S) (hn : L.Nodup) (hm : ∀ x, (∃ s ∈ qagw S, entE s = x) ↔ x ∈ L) : RelX k m S L :=
 ⟨hi, (List.perm_ext_iff_of_nodup (qan4 hi) hn).2 fun x => by rw [List.mem_map]; exact hm x⟩
theorem RelX.nodup {k m : Int} {S : XTab} {L : List Entry} (h : RelX k m S L) : L.Nodup := h.perm.nodup_iff.1 (qan4 h.inv)
theorem RelX.mem {k m : Int} {S : XTab} {L : List Entry} (h : RelX k m S L) (x : Entry) : (∃ s ∈ qagw S, entE s = x) ↔ x ∈ L := by
 rw [← h.perm.mem_iff, List.mem_map]
theorem qarf {S : XTab} {r : Nat} (hr : S[r]? = some none) (s t : XSlot) : t ∈ qagw (S.set r (some s)) ↔ t = s ∨ t ∈ qagw S := by
 have hl := qacs hr;rw [qab6, qab6];constructor
 ·rintro ⟨j, hj⟩;rw [qack hl] at hj;split at hj
  ·cases hj; exact .inl rfl
  ·exact .inr ⟨j, hj⟩
 ·rintro (rfl | ⟨j, hj⟩)
  ·exact ⟨r, by rw [qack hl, if_pos rfl]⟩
  ·refine ⟨j, ?_⟩;rw [qack hl, if_neg fun e => by rw [e, hr] at hj; cases hj]; exact hj
theorem qbp4 {k m wd : Int} (hm : m ≤ 1000) {S : XTab} {L : List Entry} (h : RelX k m S L) (e : Entry) (he : e.keys.length ≤ 1000000 ∧ e.args.length ≤ 1000000) : RelX k m (addX k m S ⟨e.keys, e.act, e.args⟩) (if addC 1 k wd m L e = 0 then L ++ [qais 1 e] else L) := by
 rw [qauf hm h];unfold addX;by_cases h0 : qap5 k m S e.keys = 0
 ·rw [if_pos h0, if_pos h0];obtain ⟨h1, h2⟩ := qasa h.inv (s := ⟨e.keys, e.act, e.args⟩) he h0;have hno : ∀ x ∈ L, x.keys ≠ e.keys := fun x hx hk => by
   have : (qacj S e.keys).2 = true := (qajp h e).1 ((qa9f L e).2 ⟨x, hx, hk⟩);unfold qap5 at h0;rw [if_pos this] at h0;split at h0 <;> cases h0
  refine qazw h1 ?_ fun x => ?_
  ·rw [List.nodup_append];refine ⟨h.nodup, by simp, fun a ha b hb e1 => ?_⟩;obtain rfl : b = qais 1 e := by simpa using hb
   exact hno a ha (by rw [e1]; rfl)
  ·rw [List.mem_append, ← h.mem x, List.mem_singleton];constructor
   ·rintro ⟨s, hs, rfl⟩;rcases (qarf h2 _ _).1 hs with rfl | hs
    ·exact .inr rfl
    ·exact .inl ⟨s, hs, rfl⟩
   ·rintro (⟨s, hs, rfl⟩ | rfl)
    ·exact ⟨s, (qarf h2 _ _).2 (.inr hs), rfl⟩
    ·exact ⟨_, (qarf h2 _ _).2 (.inl rfl), rfl⟩
 ·rw [if_neg h0, if_neg h0]; exact h
theorem qbky {L : List Entry} {e : Entry} (h : 0 ≤ atI 1 L e) : ∃ hj : atN 1 L e < L.length, (L[atN 1 L e]).keys = e.keys := by
 unfold atI at h;split at h
 ·rename_i h1;have := qafs _ _ (show qaey _ L.length < L.length from h1);refine ⟨h1, ?_⟩;split at this
  ·rename_i a ha;have e1 : L[atN 1 L e]? = some a := ha;rw [List.getElem?_eq_getElem h1] at e1;obtain rfl := Option.some.inj e1;unfold oneB at this;simpa using this
  ·cases this
 ·omega
theorem qaq6 {k m : Int} {S : XTab} {L : List Entry} (h : RelX k m S L) {x y : Entry} (hx : x ∈ L) (hy : y ∈ L) (e : x.keys = y.keys) : x = y := by
 obtain ⟨s, hs, rfl⟩ := (h.mem x).2 hx;obtain ⟨t, ht, rfl⟩ := (h.mem y).2 hy;rw [qahu h.inv hs ht e]
theorem qbbm {k m wd : Int} {S : XTab} {L : List Entry} (h : RelX k m S L) (e : Entry) : RelX k m (drpX k S e.keys) (qai6 1 k wd L e) := by
 unfold drpX qai6;have hc : qaha 1 k wd L e = qaig k S e.keys := qai7 h e;rw [hc];by_cases h0 : qaig k S e.keys = 0
 ·rw [if_pos h0, if_pos h0];have hp : (qacj S e.keys).2 = true := by
   unfold qaig at h0;split at h0
   ·cases h0
   ·split at h0
    ·assumption
    ·cases h0
  obtain ⟨s, hs, hk⟩ := qadz _ _ hp;have hj : S[(qacj S e.keys).1]? = some (some s) := hs;obtain ⟨d1, d2, d3⟩ := qa1n h.inv hj;obtain ⟨hi, hik⟩ := qbky ((qajp h e).2 hp);generalize atN 1 L e = i at hi hik;rw [← List.eraseIdx_eq_take_drop_succ];have hsL : entE s ∈ L := (h.mem _).1 ⟨s, qab6.2 ⟨_, hj⟩, rfl⟩;have hLi : L[i] = entE s := qaq6 h (List.getElem_mem hi) hsL (by rw [hik, ← hk]; rfl);refine qazw d1 (h.nodup.sublist (List.eraseIdx_sublist ..)) fun x => ?_
  rw [List.mem_eraseIdx_iff_getElem];constructor
  ·rintro ⟨t, ht, rfl⟩;obtain ⟨j, hjn, hjt⟩ := (d2 t).1 (qab6.1 ht);obtain ⟨i', hi', e1⟩ := List.mem_iff_getElem.1 ((h.mem _).1 ⟨t, qab6.2 ⟨j, hjt⟩, rfl⟩);refine ⟨i', hi', fun e2 => ?_, e1⟩;subst e2;rw [hLi] at e1;have := qahu h.inv (qab6.2 ⟨_, hj⟩) (qab6.2 ⟨j, hjt⟩) (congrArg Entry.keys e1);subst this;have := h.inv.pinv.uniq j _ s s (by have := qacs hjt; omega) (by have := qacs hj; omega) hjt hj rfl;exact hjn this
  ·rintro ⟨i', hi', hne, rfl⟩;obtain ⟨t, ht, e1⟩ := (h.mem _).2 (List.getElem_mem hi');obtain ⟨j, hjt⟩ := qab6.1 ht;refine ⟨t, qab6.2 ((d2 t).2 ⟨j, fun e2 => ?_, hjt⟩), e1⟩;subst e2;rw [hj] at hjt;obtain rfl := Option.some.inj (Option.some.inj hjt);exact hne ((List.getElem_inj h.nodup).1 (by rw [← e1, hLi]))
 ·rw [if_neg h0, if_neg h0]; exact h
theorem qanu : ∀ xs ys : List Int, qaip xs ys = cmpL xs ys
 | [], [] => rfl
 | [], _ :: _ => rfl
 | _ :: _, [] => rfl
 | x :: xs, y :: ys => by
  have ih := qanu xs ys;simp only [qaip, cmpL, ih];unfold cmpI;by_cases h1 : x < y
  ·simp [h1]
  ·by_cases h2 : y < x
   ·simp [h1, h2]
   ·simp [h1, h2]
theorem qaf7 (l : List Entry) (i : Nat) (hi : i < l.length) : l.Perm (l[i] :: l.eraseIdx i) := by
 rw [List.eraseIdx_eq_take_drop_succ];have : l = l.take i ++ l[i] :: l.drop (i + 1) := by rw [← List.drop_eq_getElem_cons hi, List.take_append_drop]
 conv => lhs; rw [this]
 exact List.perm_middle
theorem qaqk (l : List Entry) (i : Nat) (hi : i < l.length) (y : Entry) : (l.set i y).Perm (y :: l.eraseIdx i) := by
 rw [List.eraseIdx_eq_take_drop_succ, List.set_eq_take_append_cons_drop, if_pos hi];exact List.perm_middle
end Go.Proofs.YtalejfkholifpaaGreat
