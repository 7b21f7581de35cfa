/-
  Texts joined: XCplr XPlnT XPlnU XRstM XRstN XRstO XRstP XShGv XCbeg XPloD. No condition.
-/
import Derived.WalkSpells
import Derived.RegionTactic
import Derived.BigRegion
import Derived.Deep.RegionLaw
import Derived.Test.YtalejfkholifpaaGreatProg
import Derived.KernelRfl
import Derived.Test.YtalejfkholifpaaGreatStoreDoesK6
set_option linter.all false
namespace Go.Proofs.YtalejfkholifpaaGreat
open Go.RowKit
abbrev qbow : List SOper := [Oa 4 (.mv (.c (.bool false)))]
abbrev qbov : List SOper := [Ka 5 0]
abbrev qbou : List SOper := [Ma 6 5, Ma 7 0, Na 8 7, Ba 9 .lss 6 8]
abbrev qbot : List SOper := [Ma 12 0, Ma 13 5, Ia 14 1 12 13, La 15 14, Ma 16 1, Ba 17 .eql 15 16]
abbrev qbos : List SOper := [Oa 4 (.mv (.c (.bool true)))]
abbrev qbor : List SOper := [Ma 10 5, Ca 11 .add 10 1, Ma 5 11]
def qa6k : SCode := (.seq (Sf qbou [0, 1, 5, 9] (Ce 9 0)) (.seq (.block 1 (Sf qbot [0, 1, 5, 17] (Cn 17 (Sf qbos [4] .ret) .skip))) (Rf qbor [0, 1, 5])))
abbrev qboq : List SOper := [Oa 4 (.mv (.c (.bool false)))]
def c_rin : SCode := (Sf qbow [0, 1] (.seq (Sf qbov [0, 1, 5] (Bl 0 qa6k)) (Sf qboq [4] .ret)))
abbrev qa6j : List SOper := [Oa 3 (.box 26 (.t 0)), Oa 5 (.box 46 (.t 2)), Ka 6 0]
abbrev qa6i : List SOper := [Fa 9 2 3, La 10 9, Fa 11 0 5, La 12 11, Qc 13 50 [10, 12], Oa 14 (.un .not (.t 13))]
abbrev qa6h : List SOper := [Ka 6 5]
abbrev qa6g : List SOper := [Ma 15 1, Fa 16 0 5, La 17 16, Ia 18 2 15 17, Fa 19 0 18, La 20 19, Ma 7 20]
abbrev qa6f : List SOper := [Ma 21 7, Na 22 21, Fa 23 1 5, La 24 23, Na 25 24, Ba 26 .neq 22 25]
abbrev qa6e : List SOper := [Ka 6 2]
abbrev qa6d : List SOper := [Ka 8 0]
abbrev qa6c : List SOper := [Ma 27 8, Ma 28 7, Na 29 28, Ba 30 .lss 27 29]
abbrev qa6b : List SOper := [Fa 33 1 5, Od 34 (Pa 33) 1, Ma 35 8, Od 36 (Pi 1 34 35) 7, Od 37 (Pa 36) 15, Ma 38 7, Ma 39 8, Od 40 (Pi 1 38 39) 96, Od 41 (Pa 40) 224, Qh 42 51 [37, 41] 511]
abbrev qax9 : List SOper := [Ka 6 6]
abbrev qax8 : List SOper := [Ma 31 8, Ca 32 .add 31 1, Ma 8 32]
def qapj : SCode := (.seq (Sf qa6c [5, 7, 8, 30] (Ce 30 0)) (.seq (.block 1 (.seq (Rt qa6b [5, 7, 8, 42]) (Cn 42 (Sf qax9 [6] .ret) .skip))) (Rf qax8 [5, 7, 8])))
abbrev qax7 : List SOper := [Ka 6 0]
def qbkk : SCode := (Sf qa6j [1, 3, 5] (.seq (Sf qa6i [1, 5, 14] (Cn 14 (Sf qa6h [6] .ret) .skip)) (Sf qa6g [5, 7] (.seq (Sf qa6f [5, 7, 26] (Cn 26 (Sf qa6e [6] .ret) .skip)) (.seq (Sf qa6d [5, 7, 8] (Bl 0 qapj)) (Sf qax7 [6] .ret))))))
abbrev qax0 : List SOper := [Oa 3 (.box 26 (.t 0)), Ka 6 0]
abbrev qaxz : List SOper := [Fa 9 0 3, La 10 9, Ca 11 .lss 10 1, Ma 12 11, Oe 13 (Pf 0 3) 12 false, Oe 14 (Pa 13) 12 false, Oe 15 (Pc .gtr 14 3) 12 false, Ta 16 12 15]
abbrev qaxy : List SOper := [Ka 6 5]
abbrev qaxx : List SOper := [Ma 17 1, Na 18 17, Ca 19 .lss 18 1, Ma 20 19, Oe 21 (Pm 1) 20 false, Oe 22 (Pn 21) 20 false, Oe 23 (Pc .gtr 22 3) 20 false, Ta 24 20 23, Ma 25 24, Oe 26 (Pf 0 3) 25 false, Oe 27 (Pa 26) 25 false, Oe 28 (Pc .eql 27 2) 25 false, Oe 29 (Pm 28) 25 false, Oe 30 (Pm 1) 29 true, Oe 31 (Pn 30) 29 true, Oe 32 (Pc .gtr 31 1) 29 true, Oe 33 (Pu 29 32) 25 false, Ta 34 25 33, Ma 35 34, Oe 36 (Pf 2 3) 35 false, Oe 37 (Pa 36) 35 false, Oe 38 (Pn 37) 35 false, Oe 39 (Pc .lss 38 1) 35 false, Ta 40 35 39, Ma 41 40, Oe 42 (Pf 2 3) 41 false, Oe 43 (Pa 42) 41 false, Oe 44 (Pn 43) 41 false, Oe 45 (Pc .gtr 44 4) 41 false, Ta 46 41 45]
abbrev qaxw : List SOper := [Ka 6 2]
abbrev qaxv : List SOper := [Fa 47 3 3, La 48 47, Ca 49 .lss 48 0, Ma 50 49, Oe 51 (Pf 3 3) 50 false, Oe 52 (Pa 51) 50 false, Oe 53 (Pc .gtr 52 16) 50 false, Ta 54 50 53]
abbrev qaxu : List SOper := [Ka 6 1]
abbrev qaxt : List SOper := [Ka 7 0]
abbrev qaxs : List SOper := [Ma 55 7, Ma 56 1, Na 57 56, Ba 58 .lss 55 57]
abbrev qar5 : List SOper := [Ma 61 1, Ma 62 7, Ia 63 1 61 62, La 64 63, Ca 65 .lss 64 1, Ma 66 65, Oe 67 (Pm 1) 66 false, Oe 68 (Pm 7) 66 false, Oe 69 (Pi 1 67 68) 66 false, Oe 70 (Pa 69) 66 false, Oe 71 (Pc .gtr 70 48) 66 false, Ta 72 66 71]
abbrev qar4 : List SOper := [Ka 6 6]
abbrev qar3 : List SOper := [Ma 59 7, Ca 60 .add 59 1, Ma 7 60]
def qall : SCode := (.seq (Sf qaxs [1, 2, 3, 7, 58] (Ce 58 0)) (.seq (.block 1 (Sf qar5 [1, 2, 3, 7, 72] (Cn 72 (Sf qar4 [6] .ret) .skip))) (Rf qar3 [1, 2, 3, 7])))
abbrev qar2 : List SOper := [Ka 8 0]
abbrev qar1 : List SOper := [Ma 73 8, Fa 74 2 3, La 75 74, Na 76 75, Ba 77 .lss 73 76]
abbrev qar0 : List SOper := [Fa 80 2 3, La 81 80, Ma 82 8, Ia 83 1 81 82, La 84 83, Ca 85 .lss 84 0, Ma 86 85, Oe 87 (Pf 2 3) 86 false, Oe 88 (Pa 87) 86 false, Oe 89 (Pm 8) 86 false, Oe 90 (Pi 1 88 89) 86 false, Oe 91 (Pa 90) 86 false, Oe 92 (Pm 2) 86 false, Oe 93 (Pn 92) 86 false, Oe 94 (Pb .geq 91 93) 86 false, Ta 95 86 94]
abbrev qarz : List SOper := [Ka 6 1]
abbrev qary : List SOper := [Ma 78 8, Ca 79 .add 78 1, Ma 8 79]
def qalk : SCode := (.seq (Sf qar1 [2, 3, 8, 77] (Ce 77 2)) (.seq (.block 3 (Sf qar0 [2, 3, 8, 95] (Cn 95 (Sf qarz [6] .ret) .skip))) (Rf qary [2, 3, 8])))
abbrev qarx : List SOper := [Sa 96 6 3, Ma 97 2, Fa 98 4 3, La 99 98, Fa 100 5 3, La 101 100, Oa 102 (.build [(.int .i64 0), .nilsl] [(0, 1, (.t 99)), (1, 1, (.t 101))]), Qc 103 40 [96, 97, 102], Ma 6 103]
def qa5r : SCode := (Sf qax0 [1, 2, 3] (.seq (Sf qaxz [1, 2, 3, 16] (Cn 16 (Sf qaxy [6] .ret) .skip)) (.seq (Sf qaxx [1, 2, 3, 46] (Cn 46 (Sf qaxw [6] .ret) .skip)) (.seq (Sf qaxv [1, 2, 3, 54] (Cn 54 (Sf qaxu [6] .ret) .skip)) (.seq (Sf qaxt [1, 2, 3, 7] (Bl 0 qall)) (.seq (Sf qar2 [2, 3, 8] (Bl 2 qalk)) (Sf qarx [6] .ret)))))))
section
attribute [local simp] qaa6 qaa5 qaak qaas qaal qaar qaa3 qaa4 qaae qabh SOp.run SX.ev putd puts argS upds SOp.touch SSt.keep SSt.skip gets geth puth delh idOf SV.cells? setL qac5 qac6 sbin eq0 eq1 eqL qac2 qaby qab0 qaa2 qaa1 qaac qaa7 qabi qaaj qaad FrzOk qaav qaan qaat qaau qaaf qaam qaa8 qaao qaah qaaw qaag frzS frzH frz frz1 frz0 SlotsM ObjsM ObjM rn ren ren1 ren0 qabk qabw qabz qabj qaa9 qabx qab1 CoL qaax qabr dels adds idsH qabc
section
attribute [local simp] qa9x refc qaz1 qa9y qakg opc actc tabc qa9v qbam nums
theorem qan9 (v : Int) {l : List Int} {i : Nat} (hi : i < l.length) : (l.drop i).contains v = (l[i] == v || (l.drop (i + 1)).contains v) := by
 rw [List.drop_eq_getElem_cons hi, List.contains_cons, Bool.beq_comm]
theorem rin_s (l : List Int) (v : Int) (hl : l.length ≤ 1000000) (q : Nat) : SCalls Tryz.prog 50 [nums .i64 l, .int .i64 v] [] q (.bool (l.contains v)) [] := by
 refine qabt ?_ (fun _ => rfl) (fun _ => rfl) rfl q;refine yF (N := 18) Tryz.func50 c_rin ?_;rintro X hP hN hm;have hF : l.contains v = (l.drop 0).contains v := rfl;generalize l.contains v = F at hF;replace hF := Lib.hid hF;unfold c_rin;repeat' (first | refine yA ?_ | exact trivial)
 refine qabf (qaco (fun s (i : Nat) => s.turn [(5, .int .i64 i)] []) (fun i => i ≤ l.length ∧ F = (l.drop i).contains v) (fun i => l.length - i) 0 ?_ ⟨by simp, hF.out⟩ ?_)
 ·repeat' (first | exact yD | refine yE ?_ | with_reducible refine yB ?_ ?_ | exact trivial)
 rintro J hJ i ⟨h1, h2⟩;unfold qa6k;simp only [zT, puth, Nat.reduceEqDiff, reduceIte, Nat.reduceAdd] at h1 h2 ⊢;rcases Nat.lt_or_ge i l.length with hi | hi
 ·rw [qan9 v hi] at h2;generalize hxx : l[i] = x at h2;have wi : IntKind.i64.wrap ((i : Int) + 1) = (i : Int) + 1 := qabo (by omega) (by omega);cases hv : (x == v) <;> rw [hv] at h2 <;> replace h2 := Lib.hid h2
  ·repeat' (first | refine yA ?_ | with_reducible refine yB ?_ ?_ | ((with_reducible refine yC fun h => ?_); have h' := h; (try simp at h'); (try subst h')) | exact yD | refine yE ?_ | ((refine qabs hJ (i + 1) ?_ ?_ ?_; (with_reducible refine qabd [] hm ?_ ?_ ?_ ?_) <;> (try simp only [zT, puth, Nat.reduceEqDiff, reduceIte, Nat.reduceAdd]))) | exact trivial)
   exact ⟨by omega, by rw [h2.out, Bool.false_or]⟩
  ·repeat' (first | refine yA ?_ | with_reducible refine yB ?_ ?_ | ((with_reducible refine yC fun h => ?_); have h' := h; (try simp at h'); (try subst h')) | exact trivial)
   rw [h2.out]; rfl
 ·obtain rfl : i = l.length := by omega
  rw [List.drop_length] at h2;replace h2 := Lib.hid h2;repeat' (first | refine yA ?_ | with_reducible refine yB ?_ ?_ | ((with_reducible refine yC fun h => ?_); have h' := h; (try simp at h'); (try subst h')) | exact trivial)
  rw [h2.out]; rfl
theorem qbbv (n k : Int) (q : Nat) : SCalls Tryz.prog 51 [.int .u64 n, .int .i64 k] [] q (.bool (qaja n k)) [] := yQ (qayq n k) q
end
section
attribute [local simp] qa9x refc qaz1 qa9y qakg opc actc tabc qa9v qbam nums
theorem qajm (t : TabD) (acts : List ActD) (act : Int) (args : List Int) (hl : t.acts.length ≤ 1000000) (hl2 : args.length ≤ 1000000) (hr : ∀ k ∈ t.acts, 0 ≤ k ∧ k < acts.length) (q : Nat) : SCalls Tryz.prog 40 [.agg (tabc t), .view 2 (acts.map actc), .agg [.int .i64 act, nums .u64 args]] [] q (.int .i64 (qaec t.acts acts act args)) [] := by
 refine qabt ?_ (fun _ => rfl) (fun _ => rfl) rfl q;refine yF (N := 43) Tryz.func40 qbkk ?_;rintro X hP hN hm;have hc := fun q => rin_s t.acts act hl q
 unfold qbkk;cases hin : t.acts.contains act
 ·rw [hin] at hc;have hz : qaec t.acts acts act args = 5 := by unfold qaec; rw [hin]; rfl
  rw [hz];repeat' (first | refine yA ?_ | with_reducible refine yB ?_ ?_ | ((with_reducible refine yC fun h => ?_); have h' := h; (try simp at h'); (try subst h')) | refine qabe (hc _) ?_ | exact trivial)
  rfl
 ·rw [hin] at hc;obtain ⟨hr0, hr1⟩ := hr act (by simpa using hin);have hlt : act.toNat < acts.length := by omega
  have hF : qaec t.acts acts act args = if args.length ≠ acts[act.toNat].w.length then 2 else if qacf args acts[act.toNat].w = true then 6 else 0 := by
   unfold qaec;have : actW acts act = acts[act.toNat].w := by unfold actW; rw [List.getElem?_eq_getElem hlt]; rfl
   rw [hin, this]; rfl
  generalize qaec t.acts acts act args = F at hF;generalize hA : acts[act.toNat] = A at hF;by_cases hlen : args.length = A.w.length
  ·rw [if_neg (by simpa using hlen)] at hF;have kl : ((A.w.length : Int) != (args.length : Int)) = false := by simp [hlen]
   replace hF := Lib.hid hF;replace hlen := Lib.hid hlen;repeat' (first | refine yA ?_ | with_reducible refine yB ?_ ?_ | ((with_reducible refine yC fun h => ?_); have h' := h; (try simp at h'); (try subst h')) | refine qabe (hc _) ?_ | exact trivial)
   refine qabf (qaco (fun s (i : Nat) => s.turn [(8, .int .i64 i)] []) (fun i => i ≤ A.w.length ∧ F = if qacf (args.drop i) (A.w.drop i) = true then 6 else 0) (fun i => A.w.length - i) 0 ?_ ⟨by simp, hF.out⟩ ?_)
   ·repeat' (first | exact yD | refine yE ?_ | with_reducible refine yB ?_ ?_ | exact trivial)
   rintro J hJ i ⟨h1, h2⟩;unfold qapj;simp only [zT, puth, Nat.reduceEqDiff, reduceIte, Nat.reduceAdd] at h1 h2 ⊢;rcases Nat.lt_or_ge i A.w.length with hi2 | hi
   ·have hi : i < args.length := by have := hlen.out; omega
    rw [qafl hi hi2] at h2;have hms := fun q => qbbv args[i] A.w[i] q
    generalize hw : A.w[i] = w at h2 hms;generalize hx : args[i] = x at h2 hms;have wi : IntKind.i64.wrap ((i : Int) + 1) = (i : Int) + 1 := qabo (by have := hlen.out; omega) (by have := hlen.out; omega);cases hv : qaja x w <;> rw [hv] at h2 hms <;> replace h2 := Lib.hid h2
    ·repeat' (first | refine yA ?_ | with_reducible refine yB ?_ ?_ | ((with_reducible refine yC fun h => ?_); have h' := h; (try simp at h'); (try subst h')) | refine qabe (hms _) ?_ | exact yD | refine yE ?_ | ((refine qabs hJ (i + 1) ?_ ?_ ?_; (with_reducible refine qabd [] hm ?_ ?_ ?_ ?_) <;> (try simp only [zT, puth, Nat.reduceEqDiff, reduceIte, Nat.reduceAdd]))) | exact trivial)
     exact ⟨by omega, by rw [h2.out, Bool.false_or]⟩
    ·repeat' (first | refine yA ?_ | with_reducible refine yB ?_ ?_ | ((with_reducible refine yC fun h => ?_); have h' := h; (try simp at h'); (try subst h')) | refine qabe (hms _) ?_ | exact trivial)
     rw [h2.out]; rfl
   ·obtain rfl : i = A.w.length := by omega
    rw [← hlen.out, List.drop_length] at h2;replace h2 := Lib.hid h2;repeat' (first | refine yA ?_ | with_reducible refine yB ?_ ?_ | ((with_reducible refine yC fun h => ?_); have h' := h; (try simp at h'); (try subst h')) | exact trivial)
    rw [h2.out]; rfl
  ·rw [if_pos (by simpa using hlen)] at hF;have kl : ((A.w.length : Int) != (args.length : Int)) = true := by simp; omega
   replace hF := Lib.hid hF;repeat' (first | refine yA ?_ | with_reducible refine yB ?_ ?_ | ((with_reducible refine yC fun h => ?_); have h' := h; (try simp at h'); (try subst h')) | refine qabe (hc _) ?_ | exact trivial)
   rw [hF.out]
set_option maxHeartbeats 4000000 in
theorem qbll (t : TabD) (ws : List Int) (acts : List ActD) (h1 : t.acts.length ≤ 1000000) (h2 : t.args.length ≤ 1000000) (h3 : ws.length ≤ 1000000) (h4 : acts.length ≤ 1000000) (q : Nat) : SCalls Tryz.prog 21 [.agg (tabc t), nums .i64 ws, .view 2 (acts.map actc)] [] q (.int .i64 (qadf t ws acts)) [] := by
 refine qabt ?_ (fun _ => rfl) (fun _ => rfl) rfl q;refine yF (N := 104) Tryz.func21 qa5r ?_;rintro X hP hN hm;have hsays := fun (hr : ∀ k ∈ t.acts, 0 ≤ k ∧ k < acts.length) q => qajm t acts t.def_ t.args h1 h2 hr q
 replace hsays := Lib.hid hsays;obtain ⟨n, hn⟩ : ∃ n, ws.length = n := ⟨_, rfl⟩
 obtain ⟨m, hma⟩ : ∃ m, t.acts.length = m := ⟨_, rfl⟩
 unfold qa5r;by_cases g1 : t.kind < 1 ∨ 3 < t.kind
 ·have hz : qadf t ws acts = 5 := by unfold qadf; rw [if_pos g1]
  rw [hz];replace g1 := Lib.hid g1;repeat' (first | refine yA ?_ | with_reducible refine yB ?_ ?_ | ((with_reducible refine yC fun h => ?_); have h' := h; (try simp at h'); (try subst h')) | exact trivial)
  all_goals (first | rfl | (exfalso; have q1 := g1.out; omega))
 have g11 : decide (t.kind < 1) = false := by rw [decide_eq_false_iff_not]; omega
 have g12 : decide (3 < t.kind) = false := by rw [decide_eq_false_iff_not]; omega
 by_cases g2 : ws.length < 1 ∨ 3 < ws.length ∨ (t.kind = 2 ∧ 1 < ws.length) ∨ t.acts.length < 1 ∨ 4 < t.acts.length
 ·have hz : qadf t ws acts = 2 := by unfold qadf; rw [if_neg g1, if_pos g2]
  rw [hz];replace g1 := Lib.hid g1;replace g2 := Lib.hid g2;repeat' (first | refine yA ?_ | with_reducible refine yB ?_ ?_ | ((with_reducible refine yC fun h => ?_); have h' := h; (try simp at h'); (try subst h')) | exact trivial)
  all_goals (first | rfl | (exfalso; have q := g2.out; have q1 := g1.out; omega))
 by_cases g3 : t.cap < 0 ∨ 16 < t.cap
 ·have hz : qadf t ws acts = 1 := by unfold qadf; rw [if_neg g1, if_neg g2, if_pos g3]
  rw [hz];replace g1 := Lib.hid g1;replace g2 := Lib.hid g2;replace g3 := Lib.hid g3;repeat' (first | refine yA ?_ | with_reducible refine yB ?_ ?_ | ((with_reducible refine yC fun h => ?_); have h' := h; (try simp at h'); (try subst h')) | exact trivial)
  all_goals (first | rfl | (exfalso; have q := g2.out; have q1 := g1.out; have q3 := g3.out; omega))
 have hF : qadf t ws acts = if (ws.drop 0).any wOut = true then 6 else if (t.acts.drop 0).any (aOut acts.length) = true then 1 else qaec t.acts acts t.def_ t.args := by
  unfold qadf; rw [if_neg g1, if_neg g2, if_neg g3]; rfl
 generalize qadf t ws acts = F at hF;replace hF := Lib.hid hF;have l0 : decide ((ws.length : Int) < 1) = false := by rw [decide_eq_false_iff_not]; omega
 have l3 : decide (3 < (ws.length : Int)) = false := by rw [decide_eq_false_iff_not]; omega
 have a0 : decide ((t.acts.length : Int) < 1) = false := by rw [decide_eq_false_iff_not]; omega
 have a4 : decide (4 < (t.acts.length : Int)) = false := by rw [decide_eq_false_iff_not]; omega
 have q0 : decide (t.cap < 0) = false := by rw [decide_eq_false_iff_not]; omega
 have q16 : decide (16 < t.cap) = false := by rw [decide_eq_false_iff_not]; omega
 have hks : (t.kind == 2) = false ∨ ((t.kind == 2) = true ∧ decide (1 < (ws.length : Int)) = false) := by
  by_cases e2 : t.kind = 2
  ·right; refine ⟨by simpa using e2, ?_⟩
   rw [decide_eq_false_iff_not]; omega
  ·left; simpa using e2
 clear g1 g2 g3 hn hma n m;rcases hks with k1 | ⟨k1, k2⟩
 all_goals
  repeat' (first | refine yA ?_ | with_reducible refine yB ?_ ?_ | ((with_reducible refine yC fun h => ?_); have h' := h; (try simp at h'); (try subst h')) | exact trivial)
  clear k1 a0 a4 q0 q16 l0 l3;refine qabf (qaco (fun s (i : Nat) => s.turn [(7, .int .i64 i)] []) (fun i => i ≤ ws.length ∧ F = if (ws.drop i).any wOut = true then 6 else if (t.acts.drop 0).any (aOut acts.length) = true then 1 else qaec t.acts acts t.def_ t.args) (fun i => ws.length - i) 0 ?_ ⟨by simp, hF.out⟩ ?_)
  ·repeat' (first | exact yD | refine yE ?_ | with_reducible refine yB ?_ ?_ | exact trivial)
  rintro J hJ i ⟨h5, h6⟩;unfold qall;simp only [zT, puth, Nat.reduceEqDiff, reduceIte, Nat.reduceAdd] at h5 h6 ⊢;rcases Nat.lt_or_ge i ws.length with hi | hi
  ·rw [qamw _ hi] at h6;generalize hxx : ws[i] = x at h6;have wi : IntKind.i64.wrap ((i : Int) + 1) = (i : Int) + 1 := qabo (by omega) (by omega);replace h6 := Lib.hid h6;cases hv : wOut x
   ·have hv1 : decide (x < 1) = false ∧ decide (48 < x) = false := by simpa [wOut] using hv
    obtain ⟨v1, v2⟩ := hv1;repeat' (first | refine yA ?_ | with_reducible refine yB ?_ ?_ | ((with_reducible refine yC fun h => ?_); have h' := h; (try simp at h'); (try subst h')) | exact yD | refine yE ?_ | ((refine qabs hJ (i + 1) ?_ ?_ ?_; (with_reducible refine qabd [] hm ?_ ?_ ?_ ?_) <;> (try simp only [zT, puth, Nat.reduceEqDiff, reduceIte, Nat.reduceAdd]))) | exact trivial)
    exact ⟨by omega, by rw [h6.out, hv, Bool.false_or]⟩
   ·replace hv := Lib.hid hv;repeat' (first | refine yA ?_ | with_reducible refine yB ?_ ?_ | ((with_reducible refine yC fun h => ?_); have h' := h; (try simp at h'); (try subst h')) | exact yD | refine yE ?_ | ((refine qabs hJ (i + 1) ?_ ?_ ?_; (with_reducible refine qabd [] hm ?_ ?_ ?_ ?_) <;> (try simp only [zT, puth, Nat.reduceEqDiff, reduceIte, Nat.reduceAdd]))) | exact trivial)
    all_goals (first | (exfalso; have q := hv.out; simp only [wOut, Bool.or_eq_true, decide_eq_true_eq] at q; omega) | (rw [h6.out, hv.out]; rfl))
  ·obtain rfl : i = ws.length := by omega
   have h7 : F = if (t.acts.drop 0).any (aOut acts.length) = true then 1 else qaec t.acts acts t.def_ t.args := by rw [h6, List.drop_length]; rfl
   replace h7 := Lib.hid h7;replace h6 := Lib.hid h6;repeat' (first | refine yA ?_ | with_reducible refine yB ?_ ?_ | ((with_reducible refine yC fun h => ?_); have h' := h; (try simp at h'); (try subst h')) | exact trivial)
   refine qabf (qaco (fun s (i : Nat) => s.turn [(8, .int .i64 i)] []) (fun i => i ≤ t.acts.length ∧ (∀ k ∈ t.acts.take i, aOut acts.length k = false) ∧ F = if (t.acts.drop i).any (aOut acts.length) = true then 1 else qaec t.acts acts t.def_ t.args) (fun i => t.acts.length - i) 0 ?_ ⟨by simp, by simp, h7.out⟩ ?_)
   ·repeat' (first | exact yD | refine yE ?_ | with_reducible refine yB ?_ ?_ | exact trivial)
   rintro J hJ i ⟨h8, h9, h10⟩;unfold qalk;simp only [zT, puth, Nat.reduceEqDiff, reduceIte, Nat.reduceAdd] at h8 h9 h10 ⊢;replace h9 := Lib.hid h9;rcases Nat.lt_or_ge i t.acts.length with hi | hi
   ·rw [qamw _ hi] at h10;have htk : t.acts.take (i + 1) = t.acts.take i ++ [t.acts[i]] := List.take_succ_eq_append_getElem hi;generalize hxx : t.acts[i] = x at h10 htk;have wi : IntKind.i64.wrap ((i : Int) + 1) = (i : Int) + 1 := qabo (by omega) (by omega);replace h10 := Lib.hid h10;replace htk := Lib.hid htk;cases hv : aOut acts.length x
    ·have hv1 : decide (x < 0) = false ∧ decide ((acts.length : Int) ≤ x) = false := by simpa [aOut] using hv
     obtain ⟨v1, v2⟩ := hv1;replace hv := Lib.hid hv;repeat' (first | refine yA ?_ | with_reducible refine yB ?_ ?_ | ((with_reducible refine yC fun h => ?_); have h' := h; (try simp at h'); (try subst h')) | exact yD | refine yE ?_ | ((refine qabs hJ (i + 1) ?_ ?_ ?_; (with_reducible refine qabd [] hm ?_ ?_ ?_ ?_) <;> (try simp only [zT, puth, Nat.reduceEqDiff, reduceIte, Nat.reduceAdd]))) | exact trivial)
     refine ⟨by omega, fun k hk => ?_, by rw [h10.out, hv.out, Bool.false_or]⟩;rw [htk.out, List.mem_append] at hk;rcases hk with hk | hk
     ·exact h9.out k hk
     ·rw [List.mem_singleton.1 hk]; exact hv.out
    ·replace hv := Lib.hid hv;repeat' (first | refine yA ?_ | with_reducible refine yB ?_ ?_ | ((with_reducible refine yC fun h => ?_); have h' := h; (try simp at h'); (try subst h')) | exact yD | refine yE ?_ | ((refine qabs hJ (i + 1) ?_ ?_ ?_; (with_reducible refine qabd [] hm ?_ ?_ ?_ ?_) <;> (try simp only [zT, puth, Nat.reduceEqDiff, reduceIte, Nat.reduceAdd]))) | exact trivial)
     all_goals (first | (exfalso; have q := hv.out; simp only [aOut, Bool.or_eq_true, decide_eq_true_eq] at q; omega) | (rw [h10.out, hv.out]; rfl))
   ·obtain rfl : i = t.acts.length := by omega
    have h11 : ∀ k ∈ t.acts, 0 ≤ k ∧ k < acts.length := fun k hk => by
     have := h9.out k (by rw [List.take_length]; exact hk);unfold aOut at this; rw [Bool.or_eq_false_iff, decide_eq_false_iff_not, decide_eq_false_iff_not] at this; omega
    have h12 : F = qaec t.acts acts t.def_ t.args := by rw [h10, List.drop_length]; rfl
    have hs := hsays.out h11;replace hs := Lib.hid hs;replace h11 := Lib.hid h11;replace h10 := Lib.hid h10;replace h12 := Lib.hid h12;repeat' (first | refine yA ?_ | with_reducible refine yB ?_ ?_ | ((with_reducible refine yC fun h => ?_); have h' := h; (try simp at h'); (try subst h')) | refine qabe (hs.out _) ?_ | exact trivial)
    rw [h12.out]
end
section
attribute [local simp] qabn qaca qacq
theorem qa0j (xs ws : List Int) (hx : xs.length = ws.length) (hl : ws.length ≤ 1000000) : SCalls Tryz.prog 42 [nums .u64 xs, nums .i64 ws] [] 0 (.bool (!qacf xs ws)) [] := by
 refine yF (N := 21) Tryz.func42 qbkj ?_;rintro X hP hN hm;obtain ⟨F, hF⟩ : ∃ F, F = !qacf xs ws := ⟨_, rfl⟩
 rw [← hF];replace hF := Lib.hid hF;replace hx := Lib.hid hx;unfold qbkj nums;repeat' (first | refine yA ?_ | exact trivial)
 refine qabf (qaco (fun st (i : Nat) => st.turn [(5, .int .i64 i)] []) (fun i => i ≤ xs.length ∧ F = !qacf (xs.drop i) (ws.drop i)) (fun i => xs.length - i) 0 ?_ ⟨by simp, hF.out⟩ ?_)
 ·repeat' (first | exact yD | refine yE ?_ | with_reducible refine yB ?_ ?_ | exact trivial)
 rintro J hJ i ⟨h1, h2⟩;unfold qapb;simp only [zT, puth, Nat.reduceEqDiff, reduceIte, Nat.reduceAdd] at h1 h2 ⊢;have hxl := hx.out;rcases Nat.lt_or_ge i xs.length with hi | hi
 ·have hi2 : i < ws.length := by omega
  rw [qafl hi hi2] at h2;have hms := fun q => yQ (qayq xs[i] ws[i]) q
  generalize hw : ws[i] = w at h2 hms;generalize hxi : xs[i] = x at h2 hms;have wi : IntKind.i64.wrap ((i : Int) + 1) = (i : Int) + 1 := qabo (by omega) (by omega);replace h2 := Lib.hid h2;cases hv : qaja x w <;> rw [hv] at hms
  ·repeat' (first | refine yA ?_ | with_reducible refine yB ?_ ?_ | ((with_reducible refine yC fun h => ?_); have h' := h; (try simp at h'); (try subst h')) | refine qabe (hms _) ?_ | exact yD | refine yE ?_ | ((refine qabs hJ (i + 1) ?_ ?_ ?_; (with_reducible refine qabd [] hm ?_ ?_ ?_ ?_) <;> (try simp only [zT, puth, Nat.reduceEqDiff, reduceIte, Nat.reduceAdd]))) | exact trivial)
   refine ⟨by omega, ?_⟩;rw [h2.out, hv, Bool.false_or]
  ·repeat' (first | refine yA ?_ | with_reducible refine yB ?_ ?_ | ((with_reducible refine yC fun h => ?_); have h' := h; (try simp at h'); (try subst h')) | refine qabe (hms _) ?_ | exact trivial)
   rw [h2.out, hv]; rfl
 ·obtain rfl : i = xs.length := by omega
  rw [List.drop_length] at h2;replace h2 := Lib.hid h2;repeat' (first | refine yA ?_ | with_reducible refine yB ?_ ?_ | ((with_reducible refine yC fun h => ?_); have h' := h; (try simp at h'); (try subst h')) | exact trivial)
  rw [h2.out]; rfl
def qair (t : TabD) (w : List Int) (e : Entry) : Int :=
 if e.keys.length ≠ w.length ∨ (t.kind = 3 ∧ e.masks.length ≠ w.length) then 2
 else if (t.kind ≠ 3 ∧ (0 < e.masks.length ∨ e.prio ≠ 0)) ∨ (t.kind ≠ 2 ∧ e.len ≠ 0) then 4
 else if qacf e.keys w = true ∨ (t.kind = 3 ∧ qacf e.masks w = true) then 6 else 0
def qagb : SCode := (.seq (Sf qahy [0, 1, 5, 90] (Cn 90 (.seq (Rt qapi [6]) .ret) .skip)) (.seq (.seq (Rt qaph [0, 1, 5, 8]) (Sf qapg [0, 1, 5, 8, 111] (Cn 111 (Sf qapf [6] .ret) .skip))) (.seq (Sf qape [0, 5, 114] (Cn 114 (.seq (Rt qapd [6]) .ret) .skip)) (.seq (Rt qapc [6]) .ret))))
theorem qavc {X : Cx} {B : RsD} {k ks wd ms : Int} {L : List Entry} {hp : Hp} {t nx : Nat} {r : Int} {F : Int} (hm : X.m = 2) (hr : r = F) : QFun X [.tmp t] 2 (.int .i64 F) (qabm B k ks wd ms L) .ret ⟨[(t, .int .i64 r)], (0, qaaq B k ks wd ms 1 L.length) :: (1, qabq L) :: hp, nx⟩ := by
 subst hr;exact (qabu (s' := ⟨[(t, .int .i64 r)], qabm B k ks wd ms L, 2⟩) (qabl [(0, 0), (1, 1)] hm rfl (Nat.le_refl _) (by simp -implicitDefEqProofs []) (by simp -implicitDefEqProofs [qabm, qaaq, qabq])) (by simp [qafc, resL, resV, one_, gets]) ⟨rfl, rfl, trivial⟩ (by simp))
theorem qajl (B : RsD) (k ks wd ms : Int) (L : List Entry) (e : Entry) (kk r : Int) (H : Hp) (hwl : B.w.length ≤ 3) (hN : H = qabm B k ks wd ms L ∨ qair B.t B.w e = 0) (hr : qair B.t B.w e ≠ 0 → r = qair B.t B.w e)
  (hy : qair B.t B.w e = 0 → ∀ X : Cx, X.P = Tryz.prog → X.m = 2 → SWp X qagb (QFun X [.tmp 6] 2 (.int .i64 r) H) ⟨[(0, .ptr 0 0), (1, .int .i64 kk), (5, .ptr 2 0)], [(0, qaaq B k ks wd ms 1 L.length), (1, qabq L), (2, .cells 38 (qaaa e))], 3⟩) :
  SCalls Tryz.prog 25 [.ptr 0 0, .int .i64 kk, .agg (qaaa e)] (qabm B k ks wd ms L) 2 (.int .i64 r) H := by
 refine yG (N := 125) Tryz.func25 c_rsdo ⟨rfl, rfl, rfl, trivial⟩ (qac8 B _ _ _ _ _) ?_;rintro X hP hN2 hm;obtain ⟨F, hF⟩ : ∃ F, F = qair B.t B.w e := ⟨_, rfl⟩
 rw [← hF] at hN hr hy;unfold qair at hF;have n1 := fun (xs : List Int) (h : xs.length = B.w.length) q => yQ (qa0j xs B.w h (by omega)) q
 replace n1 := Lib.hid n1;have hno : F ≠ 0 → ∀ (v : Int) hp nx, v = F → QFun X [.tmp 6] 2 (.int .i64 r) H .ret ⟨[(6, .int .i64 v)], (0, qaaq B k ks wd ms 1 L.length) :: (1, qabq L) :: hp, nx⟩ := fun h v hp nx hv => by
  rw [hN.resolve_right h, hr h]; exact qavc hm hv
 have hgo : F = 0 → SWp X qagb (QFun X [.tmp 6] 2 (.int .i64 r) H) ⟨[(0, .ptr 0 0), (1, .int .i64 kk), (5, .ptr 2 0)], [(0, qaaq B k ks wd ms 1 L.length), (1, qabq L), (2, .cells 38 (qaaa e))], 3⟩ := fun h => hy h X hP hm
 clear hy hN hr;replace hF := Lib.hid hF;replace hno := Lib.hid hno;replace hgo := Lib.hid hgo;unfold c_rsdo qabm qaaq qabq qaaa;unfold nums at n1;by_cases g1 : e.keys.length = B.w.length
 ·have b1 : ((e.keys.length : Int) != B.w.length) = false := by simp [g1]
  have c1 := fun q => n1.out e.keys g1 q
  replace g1 := Lib.hid g1;by_cases g3 : B.t.kind = 3
  ·have b3 : (B.t.kind == 3) = true := by simp [g3]
   have b2 : (B.t.kind != 2) = true := by simp [g3]
   by_cases g2 : e.masks.length = B.w.length
   ·have b4 : ((e.masks.length : Int) != B.w.length) = false := by simp [g2]
    have c2 := fun q => n1.out e.masks g2 q
    replace g2 := Lib.hid g2;replace g3 := Lib.hid g3;by_cases g5 : e.len = 0
    ·have b5 : (e.len != 0) = false := by simp [g5]
     replace g5 := Lib.hid g5;cases w1 : qacf e.keys B.w <;> cases w2 : qacf e.masks B.w <;> rw [w1] at c1 <;> rw [w2] at c2
     all_goals
      repeat' (first | ((with_reducible refine qadg (c := .seq (.seq (.reg false qahy _) _) _) ?_)) | ((with_reducible first | refine qaab ?_ | refine qaaz (by rw [hP]; exact mixed) ?_); (try rw [hP]); simp -implicitDefEqProofs [nums, *]) | ((with_reducible refine qaai ?_); (try simp -implicitDefEqProofs [nums, *])) | refine yA ?_ | with_reducible refine yB ?_ ?_ | ((with_reducible refine yC fun h => ?_); have h' := h; (try simp at h'); (try subst h')) | (refine qabe (c1 _) ?_; simp -implicitDefEqProofs [nums, *]) | (refine qabe (c2 _) ?_; simp -implicitDefEqProofs [nums, *]) | ((refine hno.out ?_ _ _ _ ?_)) | exact trivial)
      all_goals first
       | (rw [hF.out]; simp [g1.out, g2.out, g3.out, g5.out, w1, w2]; done)
       | (constructor; refine qad8 ?_ (hgo.out (by rw [hF.out]; simp [g1.out, g2.out, g3.out, g5.out, w1, w2])); refine qabd [] hm ⟨Co.refl _, Co.refl _, Co.refl _, trivial⟩ ⟨⟨_, rfl, rfl, CoL.refl _⟩, ⟨_, rfl, rfl, rfl, ?_⟩, ⟨_, rfl, rfl, ?_⟩, trivial⟩ rfl (by simp); (rw [qabn]; exact CoLL.refl _); (rw [qab2]; unfold qaaa nums; (try rw [g4]); exact CoL.refl _))
    ·have b5 : (e.len != 0) = true := by simp [g5]
     replace g5 := Lib.hid g5;repeat' (first | ((with_reducible first | refine qaab ?_ | refine qaaz (by rw [hP]; exact mixed) ?_); (try rw [hP]); simp -implicitDefEqProofs [nums, *]) | ((with_reducible refine qaai ?_); (try simp -implicitDefEqProofs [nums, *])) | refine yA ?_ | with_reducible refine yB ?_ ?_ | ((with_reducible refine yC fun h => ?_); have h' := h; (try simp at h'); (try subst h')) | ((refine hno.out ?_ _ _ _ ?_)) | exact trivial)
     all_goals first
      | (rw [hF.out]; simp [g1.out, g2.out, g3.out, g5.out]; done)
      | (constructor; refine qad8 ?_ (hgo.out (by rw [hF.out]; simp [g1.out, g2.out, g3.out, g5.out])); refine qabd [] hm ⟨Co.refl _, Co.refl _, Co.refl _, trivial⟩ ⟨⟨_, rfl, rfl, CoL.refl _⟩, ⟨_, rfl, rfl, rfl, ?_⟩, ⟨_, rfl, rfl, ?_⟩, trivial⟩ rfl (by simp); (rw [qabn]; exact CoLL.refl _); (rw [qab2]; unfold qaaa nums; (try rw [g4]); exact CoL.refl _))
   ·have b4 : ((e.masks.length : Int) != B.w.length) = true := by simp; omega
    replace g2 := Lib.hid g2;replace g3 := Lib.hid g3;repeat' (first | ((with_reducible first | refine qaab ?_ | refine qaaz (by rw [hP]; exact mixed) ?_); (try rw [hP]); simp -implicitDefEqProofs [nums, *]) | refine yA ?_ | with_reducible refine yB ?_ ?_ | ((with_reducible refine yC fun h => ?_); have h' := h; (try simp at h'); (try subst h')) | ((refine hno.out ?_ _ _ _ ?_)) | exact trivial)
    all_goals first
     | (rw [hF.out]; simp [g1.out, g2.out, g3.out]; done)
     | (constructor; refine qad8 ?_ (hgo.out (by rw [hF.out]; simp [g1.out, g2.out, g3.out])); refine qabd [] hm ⟨Co.refl _, Co.refl _, Co.refl _, trivial⟩ ⟨⟨_, rfl, rfl, CoL.refl _⟩, ⟨_, rfl, rfl, rfl, ?_⟩, ⟨_, rfl, rfl, ?_⟩, trivial⟩ rfl (by simp); (rw [qabn]; exact CoLL.refl _); (rw [qab2]; unfold qaaa nums; (try rw [g4]); exact CoL.refl _))
  ·have b3 : (B.t.kind == 3) = false := by simp [g3]
   replace g3 := Lib.hid g3;by_cases g4 : e.masks = []
   rotate_left 1
   ·have g5 : 0 < e.masks.length := List.length_pos_iff.2 g4;have b4 : decide (0 < e.masks.length) = true := decide_eq_true g5;replace g5 := Lib.hid g5;repeat' (first | ((with_reducible first | refine qaab ?_ | refine qaaz (by rw [hP]; exact mixed) ?_); (try rw [hP]); simp -implicitDefEqProofs [nums, *]) | ((with_reducible refine qaai ?_); (try simp -implicitDefEqProofs [nums, *])) | refine yA ?_ | with_reducible refine yB ?_ ?_ | ((with_reducible refine yC fun h => ?_); have h' := h; (try simp at h'); (try subst h')) | ((refine hno.out ?_ _ _ _ ?_)) | exact trivial)
    all_goals first
     | (rw [hF.out]; simp [g1.out, g3.out, g5.out]; done)
     | (constructor; refine qad8 ?_ (hgo.out (by rw [hF.out]; simp [g1.out, g3.out, g5.out])); refine qabd [] hm ⟨Co.refl _, Co.refl _, Co.refl _, trivial⟩ ⟨⟨_, rfl, rfl, CoL.refl _⟩, ⟨_, rfl, rfl, rfl, ?_⟩, ⟨_, rfl, rfl, ?_⟩, trivial⟩ rfl (by simp); (rw [qabn]; exact CoLL.refl _); (rw [qab2]; unfold qaaa nums; (try rw [g4]); exact CoL.refl _))
   ·by_cases g6 : e.prio = 0
    ·have b6 : (e.prio != 0) = false := by simp [g6]
     replace g6 := Lib.hid g6;by_cases g2 : B.t.kind = 2
     ·have b2 : (B.t.kind != 2) = false := by simp [g2]
      replace g2 := Lib.hid g2;cases w1 : qacf e.keys B.w <;> rw [w1] at c1
      all_goals
       repeat' (first | ((with_reducible refine qadg (c := .seq (.seq (.reg false qahy _) _) _) ?_)) | ((with_reducible first | refine qaab ?_ | refine qaaz (by rw [hP]; exact mixed) ?_); (try rw [hP]); simp -implicitDefEqProofs [nums, *]) | ((with_reducible refine qaai ?_); (try simp -implicitDefEqProofs [nums, *])) | refine yA ?_ | with_reducible refine yB ?_ ?_ | ((with_reducible refine yC fun h => ?_); have h' := h; (try simp at h'); (try subst h')) | (refine qabe (c1 _) ?_; simp -implicitDefEqProofs [nums, *]) | ((refine hno.out ?_ _ _ _ ?_)) | exact trivial)
       all_goals first
        | (rw [hF.out]; simp [g1.out, g2.out, g3.out, g4, g6.out, w1]; done)
        | (constructor; refine qad8 ?_ (hgo.out (by rw [hF.out]; simp [g1.out, g2.out, g3.out, g4, g6.out, w1])); refine qabd [] hm ⟨Co.refl _, Co.refl _, Co.refl _, trivial⟩ ⟨⟨_, rfl, rfl, CoL.refl _⟩, ⟨_, rfl, rfl, rfl, ?_⟩, ⟨_, rfl, rfl, ?_⟩, trivial⟩ rfl (by simp); (rw [qabn]; exact CoLL.refl _); (rw [qab2]; unfold qaaa nums; (try rw [g4]); exact CoL.refl _))
     ·have b2 : (B.t.kind != 2) = true := by simp [g2]
      replace g2 := Lib.hid g2;by_cases g5 : e.len = 0
      ·have b5 : (e.len != 0) = false := by simp [g5]
       replace g5 := Lib.hid g5;cases w1 : qacf e.keys B.w <;> rw [w1] at c1
       all_goals
        repeat' (first | ((with_reducible refine qadg (c := .seq (.seq (.reg false qahy _) _) _) ?_)) | ((with_reducible first | refine qaab ?_ | refine qaaz (by rw [hP]; exact mixed) ?_); (try rw [hP]); simp -implicitDefEqProofs [nums, *]) | ((with_reducible refine qaai ?_); (try simp -implicitDefEqProofs [nums, *])) | refine yA ?_ | with_reducible refine yB ?_ ?_ | ((with_reducible refine yC fun h => ?_); have h' := h; (try simp at h'); (try subst h')) | (refine qabe (c1 _) ?_; simp -implicitDefEqProofs [nums, *]) | ((refine hno.out ?_ _ _ _ ?_)) | exact trivial)
        all_goals first
         | (rw [hF.out]; simp [g1.out, g2.out, g3.out, g4, g5.out, g6.out, w1]; done)
         | (constructor; refine qad8 ?_ (hgo.out (by rw [hF.out]; simp [g1.out, g2.out, g3.out, g4, g5.out, g6.out, w1])); refine qabd [] hm ⟨Co.refl _, Co.refl _, Co.refl _, trivial⟩ ⟨⟨_, rfl, rfl, CoL.refl _⟩, ⟨_, rfl, rfl, rfl, ?_⟩, ⟨_, rfl, rfl, ?_⟩, trivial⟩ rfl (by simp); (rw [qabn]; exact CoLL.refl _); (rw [qab2]; unfold qaaa nums; (try rw [g4]); exact CoL.refl _))
      ·have b5 : (e.len != 0) = true := by simp [g5]
       replace g5 := Lib.hid g5;repeat' (first | ((with_reducible first | refine qaab ?_ | refine qaaz (by rw [hP]; exact mixed) ?_); (try rw [hP]); simp -implicitDefEqProofs [nums, *]) | ((with_reducible refine qaai ?_); (try simp -implicitDefEqProofs [nums, *])) | refine yA ?_ | with_reducible refine yB ?_ ?_ | ((with_reducible refine yC fun h => ?_); have h' := h; (try simp at h'); (try subst h')) | ((refine hno.out ?_ _ _ _ ?_)) | exact trivial)
       all_goals first
        | (rw [hF.out]; simp [g1.out, g2.out, g3.out, g4, g5.out, g6.out]; done)
        | (constructor; refine qad8 ?_ (hgo.out (by rw [hF.out]; simp [g1.out, g2.out, g3.out, g4, g5.out, g6.out])); refine qabd [] hm ⟨Co.refl _, Co.refl _, Co.refl _, trivial⟩ ⟨⟨_, rfl, rfl, CoL.refl _⟩, ⟨_, rfl, rfl, rfl, ?_⟩, ⟨_, rfl, rfl, ?_⟩, trivial⟩ rfl (by simp); (rw [qabn]; exact CoLL.refl _); (rw [qab2]; unfold qaaa nums; (try rw [g4]); exact CoL.refl _))
    ·have b6 : (e.prio != 0) = true := by simp [g6]
     replace g6 := Lib.hid g6;repeat' (first | ((with_reducible first | refine qaab ?_ | refine qaaz (by rw [hP]; exact mixed) ?_); (try rw [hP]); simp -implicitDefEqProofs [nums, *]) | ((with_reducible refine qaai ?_); (try simp -implicitDefEqProofs [nums, *])) | refine yA ?_ | with_reducible refine yB ?_ ?_ | ((with_reducible refine yC fun h => ?_); have h' := h; (try simp at h'); (try subst h')) | ((refine hno.out ?_ _ _ _ ?_)) | exact trivial)
     all_goals first
      | (rw [hF.out]; simp [g1.out, g3.out, g4, g6.out]; done)
      | (constructor; refine qad8 ?_ (hgo.out (by rw [hF.out]; simp [g1.out, g3.out, g4, g6.out])); refine qabd [] hm ⟨Co.refl _, Co.refl _, Co.refl _, trivial⟩ ⟨⟨_, rfl, rfl, CoL.refl _⟩, ⟨_, rfl, rfl, rfl, ?_⟩, ⟨_, rfl, rfl, ?_⟩, trivial⟩ rfl (by simp); (rw [qabn]; exact CoLL.refl _); (rw [qab2]; unfold qaaa nums; (try rw [g4]); exact CoL.refl _))
 ·have b1 : ((e.keys.length : Int) != B.w.length) = true := by simp; omega
  replace g1 := Lib.hid g1;repeat' (first | ((with_reducible first | refine qaab ?_ | refine qaaz (by rw [hP]; exact mixed) ?_); (try rw [hP]); simp -implicitDefEqProofs [nums, *]) | refine yA ?_ | with_reducible refine yB ?_ ?_ | ((with_reducible refine yC fun h => ?_); have h' := h; (try simp at h'); (try subst h')) | ((refine hno.out ?_ _ _ _ ?_)) | exact trivial)
  all_goals first
   | (rw [hF.out]; simp [g1.out]; done)
   | (constructor; refine qad8 ?_ (hgo.out (by rw [hF.out]; simp [g1.out])); refine qabd [] hm ⟨Co.refl _, Co.refl _, Co.refl _, trivial⟩ ⟨⟨_, rfl, rfl, CoL.refl _⟩, ⟨_, rfl, rfl, rfl, ?_⟩, ⟨_, rfl, rfl, ?_⟩, trivial⟩ rfl (by simp); (rw [qabn]; exact CoLL.refl _); (rw [qab2]; unfold qaaa nums; (try rw [g4]); exact CoL.refl _))
end
section
attribute [local simp] qabn qaca qacq qab2
structure RsOk (B : RsD) : Prop where
 wl : B.w.length ≤ 3
 ta : ∀ k ∈ B.t.acts, 0 ≤ k ∧ k < B.acts.length
 tl : B.t.acts.length ≤ 1000000
theorem rsdo_no (B : RsD) (hB : RsOk B) (k ks wd ms : Int) (L : List Entry) (e : Entry) (kk : Int) (hk : qair B.t B.w e ≠ 0) :
  SCalls Tryz.prog 25 [.ptr 0 0, .int .i64 kk, .agg (qaaa e)] (qabm B k ks wd ms L) 2 (.int .i64 (qair B.t B.w e)) (qabm B k ks wd ms L) :=
 qajl B k ks wd ms L e kk _ _ hB.wl (.inl rfl) (fun _ => rfl) fun h => absurd h hk
theorem qbaf (B : RsD) (hB : RsOk B) (k ks wd ms : Int) (L : List Entry) (e : Entry) (hse : qacd e) (kk : Int) (hkk : (kk == 3) = false) (hk : qair B.t B.w e = 0) (hsy : qaec B.t.acts B.acts e.act e.args ≠ 0) :
  SCalls Tryz.prog 25 [.ptr 0 0, .int .i64 kk, .agg (qaaa e)] (qabm B k ks wd ms L) 2 (.int .i64 (qaec B.t.acts B.acts e.act e.args)) (qabm B k ks wd ms L) := by
 refine qajl B k ks wd ms L e kk _ _ hB.wl (.inl rfl) (fun h => absurd hk h) fun _ X hP hm => ?_
 have k2 := fun q => qajm B.t B.acts e.act e.args hB.tl hse.2.2 hB.ta q
 have b1 : (qaec B.t.acts B.acts e.act e.args != 0) = true := by simp [hsy]
 generalize qaec B.t.acts B.acts e.act e.args = v at k2 b1 ⊢;unfold tabc at k2;clear hk hsy;unfold qagb qaaq qabq qaaa;repeat' (first | (with_reducible first | refine zA ?_ | refine zK ?_) | ((with_reducible first | refine qaab ?_ | refine qaaz (by rw [hP]; exact mixed) ?_); (try rw [hP]); simp -implicitDefEqProofs [nums, *]) | ((with_reducible refine qaai ?_); (try simp -implicitDefEqProofs [nums, *])) | ((with_reducible refine qaba ?_); (try simp only [qaa2, qaac, qaaj])) | ((with_reducible refine qaap rfl (fun h => ?_) (fun h => ?_)) <;> have h' := h <;> (try simp at h') <;> (try subst h')) | (refine qabe (k2 _) ?_; simp -implicitDefEqProofs [nums, *]) | ((exact qavc hm rfl)) | fail)
theorem rsadd_y (B : RsD) (hB : RsOk B) (k ks wd ms : Int) (L : List Entry) (e : Entry) (hs : ∀ a ∈ L, qacd a) (hse : qacd e) (hL : L.length ≤ 1000000) (hok : qamz k ks L) (hk : qair B.t B.w e = 0) (hsy : qaec B.t.acts B.acts e.act e.args = 0) (h0 : addC k ks wd ms L e = 0) :
  SCalls Tryz.prog 25 [.ptr 0 0, .int .i64 1, .agg (qaaa e)] (qabm B k ks wd ms L) 2 (.int .i64 0) [(0, qaaq B k ks wd ms 2 (L ++ [qais k e]).length), (2, qabq (L ++ [qais k e]))] := by
 refine qajl B k ks wd ms L e 1 0 _ hB.wl (.inr hk) (fun h => absurd hk h) fun _ X hP hm => ?_
 have k1 := fun q h1 h2 => raddYZ B k ks wd ms L e hs hse hL hok h0 0 1 q (by decide) h1 h2
 have k2 := fun q => qajm B.t B.acts e.act e.args hB.tl hse.2.2 hB.ta q
 rw [hsy] at k2;clear hs hk hsy h0 hok;generalize (L ++ [qais k e]) = L1 at k1 ⊢;unfold qaay qaaq qaaa at k1;unfold tabc at k2;unfold qagb qaaq qabq qaaa;repeat' (first | (with_reducible first | refine zA ?_ | refine zK ?_) | ((with_reducible first | refine qaab ?_ | refine qaaz (by rw [hP]; exact mixed) ?_); (try rw [hP]); simp -implicitDefEqProofs [nums, *]) | ((with_reducible refine qaai ?_); (try simp -implicitDefEqProofs [nums, *])) | ((with_reducible refine qaba ?_); (try simp only [qaa2, qaac, qaaj])) | ((with_reducible refine qaap rfl (fun h => ?_) (fun h => ?_)) <;> have h' := h <;> (try simp at h') <;> (try subst h')) | ((first | refine qabe (k2 _) ?_ | refine yH (k1 _ (by simp) (by simp)) ?_); simp -implicitDefEqProofs [nums, *]) | fail)
 exact qabu (s' := ⟨[(6, .int .i64 0)], [(0, qaaq B k ks wd ms 2 L1.length), (2, qabq L1)], 3⟩) (qabd [(2, 35)] hm ⟨Co.refl _, trivial⟩ ⟨⟨_, rfl, rfl, CoL.refl _⟩, ⟨_, rfl, rfl, rfl, by rw [qabn]; exact CoLL.refl _⟩, trivial⟩ rfl (by simp)) (by simp [qafc, resL, resV, one_, gets]) ⟨rfl, rfl, trivial⟩ (by simp)
theorem rsadd_n (B : RsD) (hB : RsOk B) (k ks wd ms : Int) (L : List Entry) (e : Entry) (hs : ∀ a ∈ L, qacd a) (hse : qacd e) (hL : L.length ≤ 1000000) (hok : qamz k ks L) (hk : qair B.t B.w e = 0) (hsy : qaec B.t.acts B.acts e.act e.args = 0) (h0 : addC k ks wd ms L e ≠ 0) :
  SCalls Tryz.prog 25 [.ptr 0 0, .int .i64 1, .agg (qaaa e)] (qabm B k ks wd ms L) 2 (.int .i64 (addC k ks wd ms L e)) (qabm B k ks wd ms L) := by
 refine qajl B k ks wd ms L e 1 _ _ hB.wl (.inr hk) (fun h => absurd hk h) fun _ X hP hm => ?_
 have k1 := fun q h1 h2 => raddNZ B k ks wd ms L e hs hse hL hok h0 0 1 q (by decide) h1 h2
 have k2 := fun q => qajm B.t B.acts e.act e.args hB.tl hse.2.2 hB.ta q
 rw [hsy] at k2;clear hs hk hsy h0 hok;generalize addC k ks wd ms L e = v at k1 ⊢;unfold qaay qaaq qabq qaaa at k1;unfold tabc at k2;unfold qagb qaaq qabq qaaa;repeat' (first | (with_reducible first | refine zA ?_ | refine zK ?_) | ((with_reducible first | refine qaab ?_ | refine qaaz (by rw [hP]; exact mixed) ?_); (try rw [hP]); simp -implicitDefEqProofs [nums, *]) | ((with_reducible refine qaai ?_); (try simp -implicitDefEqProofs [nums, *])) | ((with_reducible refine qaba ?_); (try simp only [qaa2, qaac, qaaj])) | ((with_reducible refine qaap rfl (fun h => ?_) (fun h => ?_)) <;> have h' := h <;> (try simp at h') <;> (try subst h')) | ((first | refine qabe (k2 _) ?_ | refine yH (k1 _ (by simp) (by simp)) ?_); simp -implicitDefEqProofs [nums, *]) | ((exact qavc hm rfl)) | fail)
theorem rschg (B : RsD) (hB : RsOk B) (k ks wd ms : Int) (L : List Entry) (e : Entry) (hs : ∀ a ∈ L, qacd a) (hse : qacd e) (hL : L.length ≤ 1000000) (hk : qair B.t B.w e = 0) (hsy : qaec B.t.acts B.acts e.act e.args = 0) :
  SCalls Tryz.prog 25 [.ptr 0 0, .int .i64 2, .agg (qaaa e)] (qabm B k ks wd ms L) 2 (.int .i64 (chgC k ks wd L e)) (qabm B k ks wd ms (chgL k ks wd L e)) := by
 refine qajl B k ks wd ms L e 2 _ _ hB.wl (.inr hk) (fun h => absurd hk h) fun _ X hP hm => ?_
 have k1 := fun q h1 h2 => rchgAZ B k ks wd ms L e hs hse hL 0 1 q (by decide) h1 h2
 have k2 := fun q => qajm B.t B.acts e.act e.args hB.tl hse.2.2 hB.ta q
 rw [hsy] at k2;clear hs hk hsy;generalize chgC k ks wd L e = v at k1 ⊢;generalize chgL k ks wd L e = L1 at k1 ⊢;unfold qaay qaaq qaaa at k1;unfold tabc at k2;unfold qagb qaaq qabq qaaa;repeat' (first | (with_reducible first | refine zA ?_ | refine zK ?_) | ((with_reducible first | refine qaab ?_ | refine qaaz (by rw [hP]; exact mixed) ?_); (try rw [hP]); simp -implicitDefEqProofs [nums, *]) | ((with_reducible refine qaai ?_); (try simp -implicitDefEqProofs [nums, *])) | ((with_reducible refine qaba ?_); (try simp only [qaa2, qaac, qaaj])) | ((with_reducible refine qaap rfl (fun h => ?_) (fun h => ?_)) <;> have h' := h <;> (try simp at h') <;> (try subst h')) | ((first | refine qabe (k2 _) ?_ | refine yH (k1 _ (by simp) (by simp)) ?_); simp -implicitDefEqProofs [nums, *]) | ((exact qavc hm rfl)) | fail)
theorem qbln (B : RsD) (hB : RsOk B) (k ks wd ms : Int) (L : List Entry) (e : Entry) (hs : ∀ a ∈ L, qacd a) (hse : qacd e) (hL : L.length ≤ 1000000) (hk : qair B.t B.w e = 0) (h0 : qaha k ks wd L e = 0) :
  SCalls Tryz.prog 25 [.ptr 0 0, .int .i64 3, .agg (qaaa e)] (qabm B k ks wd ms L) 2 (.int .i64 0) [(0, qaaq B k ks wd ms 2 (qai6 k ks wd L e).length), (2, qabq (qai6 k ks wd L e))] := by
 refine qajl B k ks wd ms L e 3 0 _ hB.wl (.inr hk) (fun h => absurd hk h) fun _ X hP hm => ?_
 have k1 := fun q h1 h2 => rdropYZ B k ks wd ms L e hs hse hL h0 0 1 q (by decide) h1 h2
 clear hs hk h0;generalize qai6 k ks wd L e = L1 at k1 ⊢;unfold qaay qaaq qaaa at k1;unfold qagb qaaq qabq qaaa;repeat' (first | (with_reducible first | refine zA ?_ | refine zK ?_) | ((with_reducible first | refine qaab ?_ | refine qaaz (by rw [hP]; exact mixed) ?_); (try rw [hP]); simp -implicitDefEqProofs [nums, *]) | ((with_reducible refine qaba ?_); (try simp only [qaa2, qaac, qaaj])) | ((with_reducible refine qaap rfl (fun h => ?_) (fun h => ?_)) <;> have h' := h <;> (try simp at h') <;> (try subst h')) | (refine yH (k1 _ (by simp) (by simp)) ?_; simp -implicitDefEqProofs [nums, *]) | fail)
 exact qabu (s' := ⟨[(6, .int .i64 0)], [(0, qaaq B k ks wd ms 2 L1.length), (2, qabq L1)], 3⟩) (qabd [(2, 9)] hm ⟨Co.refl _, trivial⟩ ⟨⟨_, rfl, rfl, CoL.refl _⟩, ⟨_, rfl, rfl, rfl, by rw [qabn]; exact CoLL.refl _⟩, trivial⟩ rfl (by simp)) (by simp [qafc, resL, resV, one_, gets]) ⟨rfl, rfl, trivial⟩ (by simp)
theorem qblo (B : RsD) (hB : RsOk B) (k ks wd ms : Int) (L : List Entry) (e : Entry) (hs : ∀ a ∈ L, qacd a) (hse : qacd e) (hL : L.length ≤ 1000000) (hk : qair B.t B.w e = 0) (h0 : qaha k ks wd L e ≠ 0) :
  SCalls Tryz.prog 25 [.ptr 0 0, .int .i64 3, .agg (qaaa e)] (qabm B k ks wd ms L) 2 (.int .i64 (qaha k ks wd L e)) (qabm B k ks wd ms L) := by
 refine qajl B k ks wd ms L e 3 _ _ hB.wl (.inr hk) (fun h => absurd hk h) fun _ X hP hm => ?_
 have k1 := fun q h1 h2 => rdropNZ B k ks wd ms L e hs hse hL h0 0 1 q (by decide) h1 h2
 clear hs hk h0;generalize qaha k ks wd L e = v at k1 ⊢;unfold qaay qaaq qabq qaaa at k1;unfold qagb qaaq qabq qaaa;repeat' (first | (with_reducible first | refine zA ?_ | refine zK ?_) | ((with_reducible first | refine qaab ?_ | refine qaaz (by rw [hP]; exact mixed) ?_); (try rw [hP]); simp -implicitDefEqProofs [nums, *]) | ((with_reducible refine qaba ?_); (try simp only [qaa2, qaac, qaaj])) | ((with_reducible refine qaap rfl (fun h => ?_) (fun h => ?_)) <;> have h' := h <;> (try simp at h') <;> (try subst h')) | (refine yH (k1 _ (by simp) (by simp)) ?_; simp -implicitDefEqProofs [nums, *]) | ((exact qavc hm rfl)) | fail)
end
section
attribute [local simp] qabn qaca qacq qab2 qai3
theorem rsdef_n (B : RsD) (hB : RsOk B) (k ks wd ms : Int) (L : List Entry) (a : Int) (l : List Int) (hl : l.length ≤ 1000000) (hsy : qaec B.t.acts B.acts a l ≠ 0) :
  SCalls Tryz.prog 26 [.ptr 0 0, .agg (qacc a l)] (qabm B k ks wd ms L) 2 (.int .i64 (qaec B.t.acts B.acts a l)) (qabm B k ks wd ms L) := by
 refine yG (N := 30) Tryz.func26 qatr ⟨rfl, rfl, trivial⟩ (qac8 B _ _ _ _ _) ?_;rintro X hP hN hm;have k2 := fun q => qajm B.t B.acts a l hB.tl hl hB.ta q
 have b1 : (qaec B.t.acts B.acts a l != 0) = true := by simp [hsy]
 generalize qaec B.t.acts B.acts a l = v at k2 b1 ⊢;unfold tabc at k2;clear hsy;unfold qatr qabm qaaq qabq qacc;repeat' (first | (with_reducible first | refine zA ?_ | refine zK ?_) | ((with_reducible first | refine qaab ?_ | refine qaaz (by rw [hP]; exact mixed) ?_); (try rw [hP]); simp -implicitDefEqProofs [nums, *]) | ((with_reducible refine qaba ?_); (try simp only [qaa2, qaac, qaaj])) | ((with_reducible refine qaap rfl (fun h => ?_) (fun h => ?_)) <;> have h' := h <;> (try simp at h') <;> (try subst h')) | (refine qabe (k2 _) ?_; simp -implicitDefEqProofs [nums, *]) | ((exact qavc hm rfl)) | fail)
theorem rsdef_y (B : RsD) (hB : RsOk B) (k ks wd ms : Int) (L : List Entry) (a : Int) (l : List Int) (hl : l.length ≤ 1000000) (hsy : qaec B.t.acts B.acts a l = 0) :
  SCalls Tryz.prog 26 [.ptr 0 0, .agg (qacc a l)] (qabm B k ks wd ms L) 2 (.int .i64 0) (qabm { B with da := a, dl := l } k ks wd ms L) := by
 refine yG (N := 30) Tryz.func26 qatr ⟨rfl, rfl, trivial⟩ (qac8 B _ _ _ _ _) ?_;rintro X hP hN hm;have k2 := fun q => qajm B.t B.acts a l hB.tl hl hB.ta q
 have b1 : l.length ≤ maxLen := by simp [maxLen]; omega
 have c1 : l.length * 8 ≤ 140737488355328 := by omega
 rw [hsy] at k2;unfold tabc at k2;clear hsy;unfold qatr qabm qaaq qabq qacc;repeat' (first | (with_reducible first | refine zA ?_ | refine zK ?_) | ((with_reducible first | refine qaab ?_ | refine qaaz (by rw [hP]; exact mixed) ?_); (try rw [hP]); simp -implicitDefEqProofs [nums, b1, c1, *]) | ((with_reducible refine qaai ?_); (try simp -implicitDefEqProofs [nums, b1, c1, *])) | ((with_reducible refine qaba ?_); (try simp only [qaa2, qaac, qaaj])) | ((with_reducible refine qaap rfl (fun h => ?_) (fun h => ?_)) <;> have h' := h <;> (try simp at h') <;> (try subst h')) | (refine qabe (k2 _) ?_; simp -implicitDefEqProofs [nums, b1, c1, *]) | fail)
 exact qabu (s' := ⟨[(4, .int .i64 0)], qabm { B with da := a, dl := l } k ks wd ms L, 2⟩) (wk_fz [31] [(0, 0), (1, 1)] hm rfl (by simp -implicitDefEqProofs []) rfl (by simp) (by simp -implicitDefEqProofs) (by simp -implicitDefEqProofs [qabm, qaaq, qabq, nums])) (by simp [qafc, resL, resV, one_, gets]) ⟨rfl, rfl, trivial⟩ (by simp)
theorem qahd (B : RsD) (X : Cx) (hP : X.P = Tryz.prog) (hm : X.m = 2) (k ks wd ms : Int) (L : List Entry) (a : Int) (l : List Int) (b : Bool) (cs : List SV) (hp : Hp) (nx : Nat) (hc : CoL cs (qacc a l)) :
  QFun X (Tryz.f27).results.toList 2 (.tup [.agg (qacc a l), .bool b]) (qabm B k ks wd ms L) .ret ⟨[(4, .ptr 2 0), (5, .bool b)], (0, qaaq B k ks wd ms 1 L.length) :: (1, qabq L) :: (2, .cells 46 cs) :: hp, nx⟩ :=
 qabu (s' := ⟨[(4, .ptr 2 0), (5, .bool b)], [(0, qaaq B k ks wd ms 1 L.length), (1, qabq L), (2, .cells 46 (qacc a l))], 3⟩) (qabl [(0, 0), (1, 1), (2, 2)] hm rfl (by simp) (by simp -implicitDefEqProofs) (by simp -implicitDefEqProofs [qaaq, qabq]; exact hc)) (by simp -implicitDefEqProofs [hP, qafc, resL, resV, show qag8 Tryz.prog 46 = some true from by kernel_rfl, show qab8 Tryz.prog 46 = some 2 from by kernel_rfl, one_, qacc]) ⟨rfl, rfl, trivial⟩ (by simp)
def qafw (B : RsD) (k wd : Int) (L : List Entry) (xs : List Int) : Option Entry := if xs.length = B.w.length ∧ qacf xs B.w = false then qag9 k B.w.length wd L xs else none
def qaf3 (B : RsD) (o : Option Entry) : SV := match o with
 | none => .tup [.agg (qacc B.da B.dl), .bool false]
 | some e => .tup [.agg (qacc e.act e.args), .bool true]
theorem qblm (B : RsD) (hB : RsOk B) (k wd ms : Int) (L : List Entry) (xs : List Int) (hx : xs.length ≤ 1000000) (hs : ∀ a ∈ L, qacd a) (hL : L.length ≤ 1000000) (hk2 : k = 2 → B.w.length = 1) (hok : xs.length = B.w.length → ∀ a ∈ L, qap7 k a xs) :
  SCalls Tryz.prog 27 [.ptr 0 0, nums .u64 xs] (qabm B k B.w.length wd ms L) 2 (qaf3 B (qafw B k wd L xs)) (qabm B k B.w.length wd ms L) := by
 refine yG (N := 40) Tryz.func27 qaj7 ⟨rfl, rfl, trivial⟩ (qac8 B _ _ _ _ _) ?_;rintro X hP hN hm;have hwl := hB.wl;have hR : qafw B k wd L xs = if xs.length = B.w.length ∧ qacf xs B.w = false then qag9 k B.w.length wd L xs else none := rfl
 generalize qafw B k wd L xs = R at hR ⊢;by_cases g1 : xs.length = B.w.length
 ·have c1 := fun q => yQ (qa0j xs B.w g1 (by omega)) q
  have k1 := fun q h1 h2 => rfindAZ B k B.w.length wd ms L xs hs hL (fun h => by rw [hk2 h]; rfl) (fun _ => hok g1) 0 1 q (by decide) h1 h2
  have b1 : ((xs.length : Int) == B.w.length) = true := by simp [g1]
  clear hs hok;cases hw : qacf xs B.w <;> rw [hw] at c1
  ·rw [if_pos ⟨g1, hw⟩] at hR;rw [← hR] at k1;clear hR;replace g1 := Lib.hid g1;unfold qaay qaaq qabq qaaa at k1;unfold nums at c1 k1;cases R with
   | none =>
    unfold qajo qacc nums at k1;unfold qaj7 qabm qaaq qabq qaaa qaf3;repeat' (first | (with_reducible refine zA ?_) | ((with_reducible refine qaab ?_); (try rw [hP]); simp -implicitDefEqProofs [nums, *]) | ((with_reducible refine qaai ?_); (try simp -implicitDefEqProofs [nums, *])) | ((with_reducible refine qaba ?_); (try simp only [qaa2, qaac, qaaj])) | ((with_reducible refine qaap rfl (fun h => ?_) (fun h => ?_)) <;> have h' := h <;> (try simp at h') <;> (try subst h')) | ((first | refine qabe (c1 _) ?_ | refine yR (k1 _ (by simp) (by simp)) ?_); simp -implicitDefEqProofs [nums, *]) | ((exact qahd B X hP hm _ _ _ _ _ _ _ _ _ _ _ (.refl _))) | fail)
   | some e =>
    unfold qajo qacc nums at k1;unfold qaj7 qabm qaaq qabq qaaa qaf3;repeat' (first | (with_reducible refine zA ?_) | ((with_reducible refine qaab ?_); (try rw [hP]); simp -implicitDefEqProofs [nums, *]) | ((with_reducible refine qaba ?_); (try simp only [qaa2, qaac, qaaj])) | ((with_reducible refine qaap rfl (fun h => ?_) (fun h => ?_)) <;> have h' := h <;> (try simp at h') <;> (try subst h')) | ((first | refine qabe (c1 _) ?_ | refine yR (k1 _ (by simp) (by simp)) ?_); simp -implicitDefEqProofs [nums, *]) | ((exact qahd B X hP hm _ _ _ _ _ _ _ _ _ _ _ (.refl _))) | fail)
  ·rw [if_neg (by simp [hw])] at hR;subst hR;clear k1;replace g1 := Lib.hid g1;unfold qaj7 qabm qaaq qabq qaaa qaf3;repeat' (first | (with_reducible refine zA ?_) | ((with_reducible refine qaab ?_); (try rw [hP]); simp -implicitDefEqProofs [nums, *]) | ((with_reducible refine qaai ?_); (try simp -implicitDefEqProofs [nums, *])) | ((with_reducible refine qaba ?_); (try simp only [qaa2, qaac, qaaj])) | ((with_reducible refine qaap rfl (fun h => ?_) (fun h => ?_)) <;> have h' := h <;> (try simp at h') <;> (try subst h')) | (refine qabe (c1 _) ?_; simp -implicitDefEqProofs [nums, *]) | ((exact qahd B X hP hm _ _ _ _ _ _ _ _ _ _ _ (.refl _))) | fail)
 ·have b1 : ((xs.length : Int) == B.w.length) = false := by simp; omega
  rw [if_neg (fun h => g1 h.1)] at hR;subst hR;clear hs hok;replace g1 := Lib.hid g1;unfold qaj7 qabm qaaq qabq qaaa qaf3;repeat' (first | (with_reducible refine zA ?_) | ((with_reducible refine qaab ?_); (try rw [hP]); simp -implicitDefEqProofs [nums, *]) | ((with_reducible refine qaai ?_); (try simp -implicitDefEqProofs [nums, *])) | ((with_reducible refine qaba ?_); (try simp only [qaa2, qaac, qaaj])) | ((with_reducible refine qaap rfl (fun h => ?_) (fun h => ?_)) <;> have h' := h <;> (try simp at h') <;> (try subst h')) | ((exact qahd B X hP hm _ _ _ _ _ _ _ _ _ _ _ (.refl _))) | fail)
end
end
end Go.Proofs.YtalejfkholifpaaGreat
namespace Go.Proofs.YtalejfkholifpaaGreat
open Go.RowKit
attribute [local simp] qaa6 qaa5 qaak qaas qaal qaar qaa3 qaa4 qaae qabh SOp.run SX.ev putd puts argS upds SOp.touch SSt.keep SSt.skip gets geth puth delh idOf SV.cells? setL qac5 qac6 sbin eq0 eq1 eqL qac2 qaby qab0 qaa2 qaa1 qaac qaa7 qabi qaaj qaad FrzOk qaav qaan qaat qaau qaaf qaam qaa8 qaao qaah qaaw qaag frzS frzH frz frz1 frz0 SlotsM ObjsM ObjM rn ren ren1 ren0 qabk qabw qabz qabj qaa9 qabx qab1 CoL qaax qabr dels adds idsH qabc qabn qaca qacq qab2
theorem qazk {B B' : RsD} {o : Nat} {f : FuncId} {args : List SV} {r : SV} {k ks wd ms : Int} {L : List Entry} (h : SCalls Tryz.prog f (.ptr 0 o :: args) (qabm B k ks wd ms L) 2 r (qabm B' k ks wd ms L)) (ha : ∀ σ, args.map (ren σ) = args) (hr : ∀ σ, ren σ r = r) (hk : ok2 r = true)
  (a b q : Nat) (hab : a ≠ b) (haq : a < q) (hbq : b < q) : SCalls Tryz.prog f (.ptr a o :: args) (qaay B a b k ks wd ms L) q r (qaay B' a b k ks wd ms L) := by
 have g0 : ∀ B, geth (qaay B a b k ks wd ms L) a = some (qaaq B k ks wd ms b L.length) := fun L => by simp [qaay, geth]
 have g1 : ∀ B, geth (qaay B a b k ks wd ms L) b = some (qabq L) := fun L => by simp [qaay, geth, hab]
 refine qacp [a, b] h rfl (by simp [hab]) (by simp; omega) ?_ ⟨⟨_, g0 B, rfl, .refl _⟩, ⟨_, g1 B, rfl, rfl, ?_⟩, trivial⟩ (by simp [idsH, qabm]) (hr _).symm hk ⟨⟨_, g0 B', rfl, rfl, rfl⟩, ⟨_, g1 B', rfl, rfl, qazm L, ?_⟩, trivial⟩ (by simp [idsH, qabm]) rfl
 ·show _ = _ :: args.map _;rw [ha]; rfl
 ·rw [qabn]; exact .refl _
 ·exact (qabn _ L).symm
variable (B : RsD) (hB : RsOk B) (k ks wd ms : Int) (L : List Entry) (e : Entry) (hs : ∀ a ∈ L, qacd a) (hse : qacd e) (hL : L.length ≤ 1000000) (a b q : Nat) (hab : a ≠ b) (haq : a < q) (hbq : b < q)
include hB hab haq hbq
theorem qaql (kk : Int) (hk : qair B.t B.w e ≠ 0) :
  SCalls Tryz.prog 25 [.ptr a 0, .int .i64 kk, .agg (qaaa e)] (qaay B a b k ks wd ms L) q (.int .i64 (qair B.t B.w e)) (qaay B a b k ks wd ms L) :=
 qadh (rsdo_no B hB k ks wd ms L e kk hk) (fun σ => rfl) (fun σ => rfl) rfl a b q hab haq hbq
include hse
theorem qang (kk : Int) (hkk : (kk == 3) = false) (hk : qair B.t B.w e = 0) (hsy : qaec B.t.acts B.acts e.act e.args ≠ 0) :
  SCalls Tryz.prog 25 [.ptr a 0, .int .i64 kk, .agg (qaaa e)] (qaay B a b k ks wd ms L) q (.int .i64 (qaec B.t.acts B.acts e.act e.args)) (qaay B a b k ks wd ms L) :=
 qadh (qbaf B hB k ks wd ms L e hse kk hkk hk hsy) (fun σ => rfl) (fun σ => rfl) rfl a b q hab haq hbq
include hs hL
theorem qblr (hok : qamz k ks L) (hk : qair B.t B.w e = 0) (hsy : qaec B.t.acts B.acts e.act e.args = 0) (h0 : addC k ks wd ms L e = 0) :
  SCalls Tryz.prog 25 [.ptr a 0, .int .i64 1, .agg (qaaa e)] (qaay B a b k ks wd ms L) q (.int .i64 0) (qaay B a q k ks wd ms (L ++ [qais k e])) :=
 qaiv (rsadd_y B hB k ks wd ms L e hs hse hL hok hk hsy h0) (fun σ => rfl) (fun σ => rfl) rfl a b q hab haq hbq
theorem qbls (hok : qamz k ks L) (hk : qair B.t B.w e = 0) (hsy : qaec B.t.acts B.acts e.act e.args = 0) (h0 : addC k ks wd ms L e ≠ 0) :
  SCalls Tryz.prog 25 [.ptr a 0, .int .i64 1, .agg (qaaa e)] (qaay B a b k ks wd ms L) q (.int .i64 (addC k ks wd ms L e)) (qaay B a b k ks wd ms L) :=
 qadh (rsadd_n B hB k ks wd ms L e hs hse hL hok hk hsy h0) (fun σ => rfl) (fun σ => rfl) rfl a b q hab haq hbq
theorem rschgA (hk : qair B.t B.w e = 0) (hsy : qaec B.t.acts B.acts e.act e.args = 0) :
  SCalls Tryz.prog 25 [.ptr a 0, .int .i64 2, .agg (qaaa e)] (qaay B a b k ks wd ms L) q (.int .i64 (chgC k ks wd L e)) (qaay B a b k ks wd ms (chgL k ks wd L e)) :=
 qadh (rschg B hB k ks wd ms L e hs hse hL hk hsy) (fun σ => rfl) (fun σ => rfl) rfl a b q hab haq hbq
theorem qbad (hk : qair B.t B.w e = 0) (h0 : qaha k ks wd L e = 0) :
  SCalls Tryz.prog 25 [.ptr a 0, .int .i64 3, .agg (qaaa e)] (qaay B a b k ks wd ms L) q (.int .i64 0) (qaay B a q k ks wd ms (qai6 k ks wd L e)) :=
 qaiv (qbln B hB k ks wd ms L e hs hse hL hk h0) (fun σ => rfl) (fun σ => rfl) rfl a b q hab haq hbq
theorem qbae (hk : qair B.t B.w e = 0) (h0 : qaha k ks wd L e ≠ 0) :
  SCalls Tryz.prog 25 [.ptr a 0, .int .i64 3, .agg (qaaa e)] (qaay B a b k ks wd ms L) q (.int .i64 (qaha k ks wd L e)) (qaay B a b k ks wd ms L) :=
 qadh (qblo B hB k ks wd ms L e hs hse hL hk h0) (fun σ => rfl) (fun σ => rfl) rfl a b q hab haq hbq
omit hs hse hL
theorem qblq (x : Int) (l : List Int) (hl : l.length ≤ 1000000) (hsy : qaec B.t.acts B.acts x l ≠ 0) :
  SCalls Tryz.prog 26 [.ptr a 0, .agg (qacc x l)] (qaay B a b k ks wd ms L) q (.int .i64 (qaec B.t.acts B.acts x l)) (qaay B a b k ks wd ms L) :=
 qadh (rsdef_n B hB k ks wd ms L x l hl hsy) (fun σ => rfl) (fun σ => rfl) rfl a b q hab haq hbq
theorem qblp (x : Int) (l : List Int) (hl : l.length ≤ 1000000) (hsy : qaec B.t.acts B.acts x l = 0) :
  SCalls Tryz.prog 26 [.ptr a 0, .agg (qacc x l)] (qaay B a b k ks wd ms L) q (.int .i64 0) (qaay { B with da := x, dl := l } a b k ks wd ms L) :=
 qazk (rsdef_y B hB k ks wd ms L x l hl hsy) (fun σ => rfl) (fun σ => rfl) rfl a b q hab haq hbq
theorem rsfindA (xs : List Int) (hx : xs.length ≤ 1000000) (hs : ∀ a ∈ L, qacd a) (hL : L.length ≤ 1000000) (hk2 : k = 2 → B.w.length = 1) (hok : xs.length = B.w.length → ∀ a ∈ L, qap7 k a xs) :
  SCalls Tryz.prog 27 [.ptr a 0, nums .u64 xs] (qaay B a b k B.w.length wd ms L) q (qaf3 B (qafw B k wd L xs)) (qaay B a b k B.w.length wd ms L) :=
 qadh (qblm B hB k wd ms L xs hx hs hL hk2 hok) (fun σ => rfl) (fun σ => by cases qafw B k wd L xs <;> rfl) (by cases qafw B k wd L xs <;> rfl) a b q hab haq hbq
omit hB hab haq hbq
def wdT (t : TabD) (w : List Int) : Int := if t.kind = 2 then el w 0 else 0
def qakh (t : TabD) (w : List Int) (acts : List ActD) : List SV := [.int .i64 t.kind, .view 2 (t.keys.map refc), nums .i64 t.acts, .int .i64 t.cap, .int .i64 t.def_, nums .u64 t.args, nums .i64 w, .view 2 (acts.map actc), .int .i64 t.kind, .int .i64 w.length, .int .i64 (wdT t w), .int .i64 t.cap, .nilsl, .int .i64 t.def_, nums .u64 t.args]
theorem qbjt {X : Cx} {t : TabD} {w : List Int} {acts : List ActD} {cs : List SV} {x : SObj} {nx : Nat} (hm : X.m = 0) (h : cs = qakh t w acts) : QFun X [.tmp 6] 0 (.ptr 0 0) [(0, .cells 65 (qakh t w acts))] .ret ⟨[(6, .ptr 18 0)], [(0, x), (18, .cells 65 cs)], nx⟩ := by
 subst h;exact qabu (s' := ⟨[(6, .ptr 0 0)], [(0, .cells 65 (qakh t w acts))], 1⟩) (qabd [(0, 18)] hm ⟨Co.refl _, trivial⟩ ⟨⟨_, rfl, rfl, CoL.refl _⟩, trivial⟩ rfl (by simp)) (by simp [qafc, resL, resV, one_, gets]) ⟨rfl, trivial⟩ (by simp)
theorem rsnew_s (t : TabD) (w : List Int) (acts : List ActD) (hw : t.kind = 2 → w ≠ []) : SCalls Tryz.prog 23 [.agg (tabc t), nums .i64 w, .view 2 (acts.map actc)] [] 0 (.ptr 0 0) [(0, .cells 65 (qakh t w acts))] := by
 refine yF (N := 36) Tryz.func23 qbki ?_;rintro X hP hN hm;unfold qbki tabc nums;by_cases hk : t.kind = 2
 ·have hne := hw hk;have hl : 0 < w.length := List.length_pos_iff.2 hne;obtain ⟨x, hx⟩ : ∃ x, w[0]'hl = x := ⟨_, rfl⟩
  have hW : wdT t w = x := by unfold wdT; rw [if_pos hk, qagx w 0 hl, hx]
  have kk : (t.kind == 2) = true := by simpa using hk
  repeat' (first | (with_reducible refine zA ?_) | ((with_reducible refine qaab ?_); (try rw [hP]); simp -implicitDefEqProofs [*]) | ((with_reducible refine qaba ?_); (try simp only [qaa2, qaac, qaaj])) | ((with_reducible refine qaap rfl (fun h => ?_) (fun h => ?_)) <;> have h' := h <;> (try simp at h') <;> (try subst h')) | fail)
  refine qbjt hm ?_;simp [qakh, nums, hW, hk]
 ·have hW : wdT t w = 0 := by unfold wdT; rw [if_neg hk]
  have kk : (t.kind == 2) = false := by simpa using hk
  repeat' (first | (with_reducible refine zA ?_) | ((with_reducible refine qaab ?_); (try rw [hP]); simp -implicitDefEqProofs [*]) | ((with_reducible refine qaai ?_); (try simp -implicitDefEqProofs [*])) | ((with_reducible refine qaba ?_); (try simp only [qaa2, qaac, qaaj])) | ((with_reducible refine qaap rfl (fun h => ?_) (fun h => ?_)) <;> have h' := h <;> (try simp at h') <;> (try subst h')) | fail)
  refine qbjt hm ?_;simp [qakh, nums, hW]
theorem rsnew_a (t : TabD) (w : List Int) (acts : List ActD) (hw : t.kind = 2 → w ≠ []) (q : Nat) : SCalls Tryz.prog 23 [.agg (tabc t), nums .i64 w, .view 2 (acts.map actc)] [] q (.ptr q 0) [(q, .cells 65 (qakh t w acts))] := by
 have g : geth [(q, SObj.cells 65 (qakh t w acts))] (sg [] q 0) = some (.cells 65 (qakh t w acts)) := by simp [geth, sg]
 exact qacp [] (rsnew_s t w acts hw) rfl (by simp) (by simp) rfl trivial (by simp [idsH]) rfl rfl ⟨⟨_, g, rfl, rfl, rfl⟩, trivial⟩ (by simp [idsH]) rfl
end Go.Proofs.YtalejfkholifpaaGreat
namespace Go.Proofs.YtalejfkholifpaaGreat
open Go.RowKit
theorem qah2 {P : Program} {f : FuncId} {args args' : List SV} {h0 h1 h2 : Hp} {q n : Nat} {r : SV} (h : SCalls P f args' h0 q r h2 n) (ha : qa9z h1 args args') (hd : ∀ id, geth h1 id ≠ none → geth h0 id = none) : SCalls P f args (h0 ++ h1) q r h2 n := by
 refine ⟨h.ent, fun O ρ fp w vs hok hargs hfr => ?_⟩;have g0 : ∀ {id o}, geth h0 id = some o → geth (h0 ++ h1) id = some o := fun {id o} ho => by rw [qago, ho]
 have g1 : ∀ {id o}, geth h1 id = some o → geth (h0 ++ h1) id = some o := fun {id o} ho => by rw [qago, hd id (by rw [ho]; simp)]; exact ho
 have la : ∀ k, Live (h0 ++ h1) fp k ↔ Live h0 fp k ∨ Live h1 fp k := fun k => by
  constructor
  ·rintro ⟨id, o, ho, hk⟩;rw [qago] at ho;cases e : geth h0 id with
   | some o' => exact .inl ⟨id, o', e, hk⟩
   | none => rw [e] at ho; exact .inr ⟨id, o, ho, hk⟩
  ·rintro (⟨id, o, ho, hk⟩ | ⟨id, o, ho, hk⟩)
   ·exact ⟨id, o, g0 ho, hk⟩
   ·exact ⟨id, o, g1 ho, hk⟩
 have e1 : (fun k => O k ∨ Live (h0 ++ h1) fp k) = fun k => (O k ∨ Live h0 fp k) ∨ Live h1 fp k := by funext k; rw [la]; exact propext or_assoc.symm
 have hx : ∀ k, Live h1 fp k → ¬ Live h0 fp k := by
  rintro k ⟨id, o, ho, hk⟩ ⟨id', o', ho', hk'⟩;have : id ≠ id' := fun e => by subst e; rw [hd id (by rw [ho]; simp)] at ho'; cases ho'
  exact hok.disj id id' o o' this (g1 ho) (g0 ho') k hk hk'
 have ho1 : HeapOk (fun k => O k ∨ Live h0 fp k) ρ fp h1 w := ⟨fun id o ho => by rw [← e1]; exact hok.objs id o (g1 ho), fun id id' o o' hne ho ho' => hok.disj id id' o o' hne (g1 ho) (g1 ho'), fun k hk => ⟨(hok.lt k ((la k).2 (.inr hk))).1, fun h => h.elim (hok.lt k ((la k).2 (.inr hk))).2 (hx k hk)⟩, fun k hk => hk.elim (hok.O_lt k) fun h => (hok.lt k ((la k).2 (.inl h))).1⟩
 rw [e1] at hargs;have hargs' : Reps w (fun k => O k ∨ Live h0 fp k) ρ args' vs := by
  refine ⟨by rw [← qaet ha]; exact hargs.1, fun j y v hy hv => ?_⟩;obtain ⟨x, h3, h4⟩ := qagk ha hy;exact (h4 _ ρ fp w v ho1 (hargs.2 j x v h3 hv)).weaken fun k hk _ => .inl hk
 have ho0 : HeapOk O ρ fp h0 w := ⟨fun id o ho => (hok.objs id o (g0 ho)).weaken fun k hk _ => hk.imp (fun h => h) fun h => (la k).2 (.inl h), fun id id' o o' hne ho ho' => hok.disj id id' o o' hne (g0 ho) (g0 ho'), fun k hk => hok.lt k ((la k).2 (.inl hk)), hok.O_lt⟩
 refine (h.does O ρ fp w vs ho0 hargs' hfr).mono ?_;rintro e w' ⟨v, ρ', fp', rfl, hk, hv, hst, hρ, hnew, hfp⟩;exact ⟨v, ρ', fp', rfl, hk, hv, hst.mono fun k hk => (la k).2 (.inl hk), hρ, hnew, fun id o ho k hk' => (hfp id o ho k hk').imp (fun h => (la k).2 (.inl h)) fun h => h⟩
abbrev qbew : List SOper := [Oa 0 (.mv (.c (.bool false)))]
abbrev qbev : List SOper := [Oa 9 (.build [.nilsl, .nilsl] []), Oa 10 (.mkrow 3 1 1 [(.int .i64 0)] [(0, (.c (.int .i64 8)))]), Oa 11 (.build [.nilsl, .nilsl] [(0, 1, (.t 10))]), Oa 12 (.mkrow 69 2 2 [.nilsl, .nilsl] [(0, (.t 9)), (1, (.t 11))]), Ma 1 12]
abbrev qatp : List SOper := [Oa 14 (.mkrow 3 1 2 [(.int .i64 0)] [(0, (.c (.int .i64 0))), (1, (.c (.int .i64 1)))]), Oa 15 (.build [(.int .i64 0), .nilsl, .nilsl, (.int .i64 0), (.int .i64 0), .nilsl] [(0, 1, (.c (.int .i64 2))), (2, 1, (.t 14)), (3, 1, (.c (.int .i64 2)))]), Oa 16 (.mkrow 3 1 1 [(.int .i64 0)] [(0, (.c (.int .i64 8)))]), Ma 17 1, Qc 18 9 [15, 16, 17], Ma 13 18, Oa 19 (.extr (.t 13) 0), Oa 20 (.extr (.t 13) 1), Oa 3 (.alloc 34 [(.int .i64 0), (.int .i64 0)]), Ma 2 19, Va 2 3 20]
abbrev qbeu : List SOper := [Fa 21 0 3, La 22 21, Ca 23 .neq 22 0]
abbrev qbet : List SOper := [Oa 0 (.mv (.c (.bool false)))]
abbrev qbes : List SOper := [Ma 24 2, Oa 25 (.mkrow 70 1 1 [(.int .u64 0)] [(0, (.c (.int .u64 128)))]), Oa 26 (.mkrow 70 1 1 [(.int .u64 0)] [(0, (.c (.int .u64 7)))]), Oa 27 (.build [.nilsl, .nilsl, (.int .i64 0), (.int .i64 0), (.int .i64 0), .nilsl] [(0, 1, (.t 25)), (2, 1, (.c (.int .i64 1))), (4, 1, (.c (.int .i64 1))), (5, 1, (.t 26))]), Qc 28 10 [24, 27], Ma 4 28]
abbrev qber : List SOper := [Ma 30 2, Oa 31 (.mkrow 70 1 1 [(.int .u64 0)] [(0, (.c (.int .u64 255)))]), Qc 32 14 [30, 31], Ma 29 32, Oa 33 (.extr (.t 29) 0), Oa 34 (.extr (.t 29) 1), Oa 5 (.alloc 46 [(.int .i64 0), .nilsl]), Va 2 5 33, Ma 6 34]
abbrev qbeq : List SOper := [Ma 36 2, Oa 37 (.mkrow 70 1 1 [(.int .u64 0)] [(0, (.c (.int .u64 127)))]), Qc 38 14 [36, 37], Ma 35 38, Oa 39 (.extr (.t 35) 0), Oa 40 (.extr (.t 35) 1), Oa 7 (.alloc 46 [(.int .i64 0), .nilsl]), Va 2 7 39, Ma 8 40]
abbrev qbep : List SOper := [Ma 41 4, Ca 42 .eql 41 0, Ma 43 42, Oe 44 (Pm 6) 43 true, Ua 45 43 44, Ma 46 45, Oe 47 (Pm 8) 46 true, Oe 48 (.un .not (.t 47)) 46 true, Ua 49 46 48, Ma 50 49, Oe 51 (Pf 0 5) 50 true, Oe 52 (Pa 51) 50 true, Oe 53 (Pc .eql 52 1) 50 true, Ua 54 50 53, Ma 55 54, Oe 56 (Pf 0 7) 55 true, Oe 57 (Pa 56) 55 true, Oe 58 (Pc .eql 57 0) 55 true, Ua 59 55 58, Ma 0 59]
def c_sbeg : SCode := (Sf qbew [] (Sf qbev [1] (Sf qatp [2, 3] (.seq (Sf qbeu [2, 23] (Cn 23 (Sf qbet [0] .ret) .skip)) (Sf qbes [2, 4] (Sf qber [2, 4, 5, 6] (Sf qbeq [4, 5, 6, 7, 8] (Sf qbep [0] .ret))))))))
end Go.Proofs.YtalejfkholifpaaGreat
namespace Go.Proofs.YtalejfkholifpaaGreat
section
attribute [local simp] qaa6 qaa5 qaak qaas qaal qaar qaa3 qaa4 qaae qabh SOp.run SX.ev putd puts argS upds SOp.touch SSt.keep SSt.skip gets geth puth delh idOf SV.cells? setL qac5 qac6 sbin eq0 eq1 eqL qac2 qaby qab0 qaa2 qaa1 qaac qaa7 qabi qaaj qaad FrzOk qaav qaan qaat qaau qaaf qaam qaa8 qaao qaah qaaw qaag frzS frzH frz frz1 frz0 SlotsM ObjsM ObjM rn ren ren1 ren0 qabk qabw qabz qabj qaa9 qabx qab1 CoL qaax qabr dels adds idsH qabc
section
open Go.RowKit Go.ChangeShapes Go.WideShapes
attribute [local simp] qa9x refc qaz1 qa9y qakg opc actc tabc qa9v qbam nums
theorem opens_ref : Opens Tryz.prog 131 qama := by
 have h : Opens Tryz.prog 131 (Lay.pair (Lay.int .i64) (Lay.int .i64)) :=
  Opens.struct Tryz.underlying131 (OpensF.cons opensI rfl (OpensF.one opensI rfl)) (by kernel_rfl) (by decide)
 refine h.weak rfl ?_;rintro w ⟨a, b⟩ cs hr;exact ⟨⟨a, b⟩, hr⟩
theorem opens_push : Opens Tryz.prog 195 qaku := by
 have h : Opens Tryz.prog 195 (Lay.pair i64L (Lay.pair qama u64L)) :=
  Opens.struct Tryz.underlying195 (OpensF.cons opensI rfl (OpensF.cons opens_ref rfl (OpensF.one opensU rfl))) (by kernel_rfl) (by decide)
 refine h.weak rfl ?_;rintro w ⟨a, b, c⟩ cs hr;exact ⟨⟨a, b, c⟩, hr⟩
theorem qbjd : Opens Tryz.prog 23 (Lay.slice (Lay.int .i64)) := opensI.slice Tryz.underlying23 (by kernel_rfl)
theorem qaqw : Opens Tryz.prog 132 (Lay.slice qaku) := opens_push.slice Tryz.underlying132 (by kernel_rfl)
set_option maxRecDepth 20000 in
theorem opens_op : Opens Tryz.prog 134 opLay := by
 have h : Opens Tryz.prog 134 (Lay.pair i64L (Lay.pair qama (Lay.pair i64L (Lay.slice qaku)))) :=
  Opens.struct Tryz.underlying134 (OpensF.cons opensI rfl (OpensF.cons opens_ref rfl (OpensF.cons opensI rfl (OpensF.one qaqw rfl)))) (by kernel_rfl) (by decide)
 refine h.weak rfl ?_;rintro w ⟨a, b, c, d⟩ cs hr;exact ⟨⟨a, b, c, d⟩, hr⟩
set_option maxRecDepth 20000 in
theorem opens_act : Opens Tryz.prog 69 qa9p := by
 have h : Opens Tryz.prog 69 (Lay.pair (Lay.slice i64L) (Lay.slice opLay)) :=
  Opens.struct Tryz.underlying69 (OpensF.cons qbjd rfl (OpensF.one (opens_op.slice Tryz.underlying67 (by kernel_rfl)) rfl)) (by kernel_rfl) (by decide)
 refine h.weak rfl ?_;rintro w ⟨a, b⟩ cs hr;exact ⟨⟨a, b⟩, hr⟩
set_option maxRecDepth 20000 in
theorem opens_tab : Opens Tryz.prog 26 tabLay := by
 have h : Opens Tryz.prog 26 (Lay.pair i64L (Lay.pair (Lay.slice qama) (Lay.pair (Lay.slice i64L) (Lay.pair i64L (Lay.pair i64L (Lay.slice u64L)))))) :=
  Opens.struct Tryz.underlying26 (OpensF.cons opensI rfl (OpensF.cons (opens_ref.slice Tryz.underlying22 (by kernel_rfl)) rfl (OpensF.cons qbjd rfl (OpensF.cons opensI rfl (OpensF.cons opensI rfl (OpensF.one qbar rfl)))))) (by kernel_rfl) (by decide)
 refine h.weak rfl ?_;rintro w ⟨a, b, c, d, e, f⟩ cs hr;exact ⟨⟨a, b, c, d, e, f⟩, hr⟩
theorem rep_lay {α : Type} {L : Lay α} {f : α → List SV} (hp : LayP L f) {w : World} {x : α} {cs : Array Value} (h : L.rep NoA w x cs.toList) : RepV w (fun _ => False) noPl (.agg (f x)) (.agg cs) := by
 obtain ⟨h1, h2⟩ := hp NoA w x cs.toList h;have := RepV.agg (w := w) (A := NoA) (ρ := noPl) (cs := f x) (vs := cs.toList) h2 h1.1 h1.2;exact this
end
end
end Go.Proofs.YtalejfkholifpaaGreat
