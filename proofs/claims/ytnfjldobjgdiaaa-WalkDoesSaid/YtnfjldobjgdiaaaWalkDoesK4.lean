/-
  Texts joined: XPlnJ XCplt XPlnK XPlnL XWlkA XWlkB XCwlk. No condition.
-/
import Derived.Test.YtnfjldobjgdiaaaProg
import Derived.ProofKit
import Derived.WalkSpells
import Derived.RegionTactic
import Derived.BigRegion
import Derived.Deep.RegionLaw
import Derived.Test.YtnfjldobjgdiaaaWalkDoesK3
namespace Go.Proofs.Ytnfjldobjgdiaaa
set_option linter.all false
open Go.RowKit
attribute [local simp] qabg qabf qaas qaaz qaat qaay qabd qabe qaao qabn SOp.run SX.ev putd puts argS upds SOp.touch SSt.keep SSt.skip gets geth puth delh idOf SV.cells? setL qac5 qac6 sbin eq0 eq1 eqL qac4 qab1 qab2 qaap qabh qaag qabi qabo qaai qaaq FrzOk qaa9 qaa3 qaa7 qaa8 qaau qaa2 qabl qaa4 qaaw qaba qaav frzS frzH frz frz1 frz0 SlotsM ObjsM ObjM rn ren ren1 ren0 qabu qaca qacf qabt qabm qacg qace CoL qabb qach dels adds idsH qab3
attribute [local simp] qads refc qae3 qaet qacc opc actc tabc qad7 qacu nums jc
theorem qaci (g c at_ : Int) : qab9 0 g true c at_ = (c, at_) := rfl
theorem qabs (a b c at_ : Int) : qab9 a b false c at_ = (a, b) := by simp [qab9]
theorem qaeu (p : PlanD) (i to_ e g R at_ : Int) : orF (e, g) (if toF p i to_ = 0 then R else toF p i to_, at_) = orF (qab9 (qab9 e g (decide (to_ < 0) || decide ((p.nodes.length : Int) < to_)) 1 at_).1 (qab9 e g (decide (to_ < 0) || decide ((p.nodes.length : Int) < to_)) 1 at_).2 (decide (to_ ≤ i)) 11 at_) (R, at_) := by
 unfold toF orF qab9
 by_cases h1 : to_ < 0 <;> by_cases h2 : (p.nodes.length : Int) < to_ <;> by_cases h3 : to_ ≤ i <;> by_cases he : e = 0 <;> by_cases hr : R = 0 <;> simp [h1, h2, h3, he, hr]
def qaq0 (p : PlanD) (i : Int) (n : NodeD) : Int :=
 if n.kind = 1 then (if (decide (n.n < 0) || decide ((p.tabs.length : Int) ≤ n.n)) = true then 1 else qacd (toF p i) ([n.yes].drop 0))
 else if n.kind = 2 then (if (decide (n.n < 0) || decide ((p.acts.length : Int) ≤ n.n)) = true then 1 else if decide (0 < ((actW p.acts n.n).length : Int)) = true then 2 else qacd (toF p i) ([n.yes].drop 0))
 else if n.kind = 3 then (if qae4 p n.e [] = 0 then qacd (toF p i) ([n.yes, n.no].drop 0) else qae4 p n.e [])
 else if n.kind = 4 then (if (!qacz p n.n) = true then 1 else qacd (toF p i) ([n.yes, n.no].drop 0))
 else 5
theorem first1 (f : Int → Int) (x : Int) : qacd f ([x].drop 0) = f x := by
 unfold qacd; simp only [List.drop_zero]; unfold qacd
 by_cases h : f x = 0 <;> simp [h]
theorem first2 (f : Int → Int) (x y : Int) : qacd f ([x, y].drop 0) = if f x ≠ 0 then f x else f y := by
 simp only [List.drop_zero, qacd]
 by_cases h : f x = 0 <;> by_cases h2 : f y = 0 <;> simp [h, h2]
theorem qapr (p : PlanD) (i : Int) (n : NodeD) : qaq1 p i n = qaq0 p i n := by
 have e1 : ∀ (b c : Prop) [Decidable b] [Decidable c], ((decide b || decide c) = true) = (b ∨ c) := fun b c _ _ => by simp
 unfold qaq1 qaq0
 by_cases k1 : n.kind = 1
 ·rw [if_pos k1, if_pos k1, first1]; simp only [e1]
 rw [if_neg k1, if_neg k1]
 by_cases k2 : n.kind = 2
 ·rw [if_pos k2, if_pos k2, first1]; simp only [e1, decide_eq_true_eq]
  have : (0 < (actW p.acts n.n).length) = (0 < ((actW p.acts n.n).length : Int)) := propext (by omega)
  simp only [this]
 rw [if_neg k2, if_neg k2]
 by_cases k3 : n.kind = 3
 ·rw [if_pos k3, if_pos k3, first2]; simp only [ne_eq, ite_not]
 rw [if_neg k3, if_neg k3]
 by_cases k4 : n.kind = 4
 ·rw [if_pos k4, if_pos k4, first2]
  cases qacz p n.n <;> rfl
 rw [if_neg k4, if_neg k4]
def qadg (p : PlanD) (i : Int) (l : List Int) : Int := qacd (toF p i) l
set_option maxHeartbeats 8000000 in
theorem qbc0 (p : PlanD) (hs : SmallP p) (a b : Int) : SCalls Try.prog 36 [.ptr 0 0] [(0, .cells 78 (jc p a b))] 1 (.tup []) [(0, .cells 78 (jc p (orF (a, b) (qadc p)).1 (orF (a, b) (qadc p)).2))] := by
 refine qaax (N := 162) Try.func36 rfl rfl (by kernel_rfl) qajr (by simp) (by repeat' (first | exact trivial | refine And.intro ?_ ?_ | rfl | decide | exact PureR.ren _)) (by repeat' (first | exact trivial | refine And.intro ?_ ?_ | rfl | decide | exact PureR.ren _)) ?_
 rintro X hP hN hm
 have hF : orF (a, b) (qadc p) = orF (qab9 a b (decide (10 < (p.nodes.length : Int))) 2 (-6)) (rowF (fun i n => qaq1 p i n) 6000 0 p.nodes) := by
  unfold qadc; rw [qad3]; congr 3; exact propext (by omega)
 generalize orF (a, b) (qadc p) = F at hF
 replace hF := Lib.hid hF
 have hla := hs.nodes
 have hla2 := hs.acts
 unfold c_jnodes
 repeat' (first | (with_reducible refine zA ?_) | ((with_reducible refine qaac ?_); (try rw [hP]); simp -implicitDefEqProofs [*]) | (refine qaby (qaa6 p _ _ _ _ _ _ _ (by simp)) ⟨rfl, trivial⟩ ⟨rfl, trivial⟩ ?_; simp -implicitDefEqProofs [*]) | fail)
 refine qaal (qaa5 (fun s (x : Nat × Int × Int) => s.turn [(2, .int .i64 x.1)] [(0, .cells 78 (jc p x.2.1 x.2.2))]) (fun x => x.1 ≤ p.nodes.length ∧ F = orF (x.2.1, x.2.2) (rowF (fun i n => qaq1 p i n) 6000 x.1 (p.nodes.drop x.1))) (fun x => p.nodes.length - x.1) (0, _, _) ?_ ⟨by simp, hF⟩ ?_)
 ·repeat' (first | ((with_reducible refine qaah [] hm ?_ ?_ ?_ ?_) <;> (try simp only [zT, puth, Nat.reduceEqDiff, reduceIte, Nat.reduceAdd])) | (with_reducible first | refine za ?_ ?_ | refine zb ?_ ?_ ?_ ?_) | (with_reducible first | exact qaab | exact qaad) | ((with_reducible first | refine zga ?_ | refine zgb ?_); rfl) | ((with_reducible refine zgd ?_); (first | omega | (simp; done))) | (exact Co.refl _) | (exact CoL.refl _) | fail)
 rintro J hJ ⟨i, e, g⟩ ⟨h1, h2⟩
 have hJo := hJ
 unfold qah8
 simp only [zT, puth, Nat.reduceEqDiff, reduceIte, Nat.reduceAdd] at h1 h2 ⊢
 rcases Nat.lt_or_ge i p.nodes.length with hi | hi
 ·have hxm : p.nodes[i] ∈ p.nodes := List.getElem_mem hi
  have hw := hs.node _ hxm
  rw [qadd _ _ hi] at h2
  generalize hxx : p.nodes[i] = x at h2 hw
  by_cases he : e = 0
  ·subst he
   rw [qad8] at h2
   have wi : IntKind.i64.wrap ((i : Int) + 1) = (i : Int) + 1 := qaar (by omega) (by omega)
   have wa : IntKind.i64.wrap (6000 + (i : Int)) = 6000 + (i : Int) := qaar (by omega) (by omega)
   have hA : orF (0, g) (qaq1 p i x, 6000 + (i : Int)) = orF (0, g) (qaq0 p i x, 6000 + (i : Int)) := by rw [qapr]
   generalize orF (0, g) (qaq1 p i x, 6000 + (i : Int)) = A at hA h2
   replace h2 := Lib.hid h2
   unfold qaq0 at hA
   have kinds : (x.kind = 1 ∨ x.kind = 2) ∨ (¬ x.kind = 1 ∧ ¬ x.kind = 2) := by omega
   rcases kinds with k | ⟨kn1, kn2⟩
   ·have hA2 : (x.kind = 1 ∧ A = orF (qab9 0 g (decide (x.n < 0) || decide ((p.tabs.length : Int) ≤ x.n)) 1 (6000 + i)) (qadg p i ([x.yes].drop 0), 6000 + (i : Int))) ∨ (x.kind = 2 ∧ x.n < 0 ∧ A = (1, 6000 + (i : Int))) ∨ (x.kind = 2 ∧ (p.acts.length : Int) ≤ x.n ∧ 0 ≤ x.n ∧ A = (1, 6000 + (i : Int))) ∨ (x.kind = 2 ∧ 0 ≤ x.n ∧ x.n < p.acts.length ∧ A = orF (qab9 0 g (decide (0 < ((actW p.acts x.n).length : Int))) 2 (6000 + i)) (qadg p i ([x.yes].drop 0), 6000 + (i : Int))) := by
     rcases k with k | k
     ·rw [if_pos k, qacp _ _ _ _ _ _ (by decide)] at hA
      exact .inl ⟨k, hA⟩
     ·rw [if_neg (by omega), if_pos k] at hA
      by_cases n1 : x.n < 0
      ·refine .inr (.inl ⟨k, n1, ?_⟩)
       rw [hA, if_pos (by simp [n1])]; rfl
      ·by_cases n2 : (p.acts.length : Int) ≤ x.n
       ·refine .inr (.inr (.inl ⟨k, n2, by omega, ?_⟩))
        rw [hA, if_pos (by simp [n2])]; rfl
       ·refine .inr (.inr (.inr ⟨k, by omega, by omega, ?_⟩))
        rw [hA, if_neg (by simp [n1, n2]), qacp _ _ _ _ _ _ (by decide)]; rfl
    clear hA k
    rcases hA2 with ⟨k, hA⟩ | ⟨k, n1, hA⟩ | ⟨k, n2, n1, hA⟩ | ⟨k, n1, n2, hA⟩
    ·have k1 : (x.kind == 1) = true := by simpa using k
     replace k := Lib.hid k
     cases kn : decide (x.n < 0) <;> simp only [kn, Bool.true_or, Bool.false_or] at hA <;> have hI := hA <;> replace hI := Lib.hid hI <;> clear hA
     all_goals
      repeat' (first | (with_reducible first | refine zA ?_ | refine qaae ?_ | refine zK ?_) | ((with_reducible first | refine qaac ?_ | refine qaa1 (by rw [hP]; exact qacx) ?_); (try rw [hP]); simp -implicitDefEqProofs [qaci, qabs, *]) | ((with_reducible refine qaaf ?_); (try simp -implicitDefEqProofs [qaci, qabs, *])) | ((with_reducible refine qaaa rfl (fun h => ?_) (fun h => ?_)) <;> have h' := h <;> (try simp at h') <;> (try subst h')) | (refine qaby (qaa6 p _ _ _ _ _ _ _ (by simp)) ⟨rfl, trivial⟩ ⟨rfl, trivial⟩ ?_; simp -implicitDefEqProofs [qaci, qabs, *]) | fail)
      refine qaal (qaa5 (fun s (y : Nat × Int × Int) => s.turn [(136, .int .i64 y.1)] [(0, .cells 78 (jc p y.2.1 y.2.2))]) (fun y => y.1 ≤ 1 ∧ A = orF (y.2.1, y.2.2) (qadg p i ([x.yes].drop y.1), 6000 + (i : Int))) (fun y => 1 - y.1) (0, _, _) ?_ ⟨by simp, hI.out⟩ ?_)
      ·repeat' (first | ((with_reducible refine qaah [] hm ?_ ?_ ?_ ?_) <;> (try simp only [zT, puth, Nat.reduceEqDiff, reduceIte, Nat.reduceAdd])) | (with_reducible first | refine za ?_ ?_ | refine zb ?_ ?_ ?_ ?_ | refine zd ?_ ?_ ?_ ?_) | (with_reducible first | exact qaab | exact qaad) | ((with_reducible first | refine zga ?_ | refine zgb ?_); rfl) | ((with_reducible refine zgd ?_); (first | omega | (simp; done))) | (exact Co.refl _) | (exact CoL.refl _) | (exact CoLL.refl _) | fail)
      rintro J hJ ⟨k, e1, g1⟩ ⟨h3, h4⟩
      unfold qac3
      simp only [zT, puth, Nat.reduceEqDiff, reduceIte, Nat.reduceAdd] at h3 h4 ⊢
      have hk : k = 0 ∨ k = 1 := by omega
      rcases hk with rfl | rfl
      ·have h5 := h4.trans (qaeu p i x.yes e1 g1 (qadg p i []) (6000 + (i : Int)))
       clear h4
       cases kd : decide (x.yes < 0) <;> simp only [kd, Bool.true_or, Bool.false_or] at h5 <;> replace h5 := Lib.hid h5
       all_goals
        repeat' (first | (with_reducible first | refine zA ?_ | refine qaae ?_) | ((with_reducible refine qaac ?_); (try rw [hP]); simp -implicitDefEqProofs [*]) | ((with_reducible refine qaaf ?_); (try simp -implicitDefEqProofs [*])) | ((with_reducible refine qaaa rfl (fun h => ?_) (fun h => ?_)) <;> have h' := h <;> (try simp at h') <;> (try subst h')) | (refine qaby (qaa6 p _ _ _ _ _ _ _ (by simp)) ⟨rfl, trivial⟩ ⟨rfl, trivial⟩ ?_; simp -implicitDefEqProofs [*]) | (with_reducible first | refine za ?_ ?_ | refine zb ?_ ?_ ?_ ?_ | refine zd ?_ ?_ ?_ ?_) | (with_reducible first | exact qaab | exact qaad) | ((with_reducible first | refine zga ?_ | refine zgb ?_); rfl) | ((with_reducible first | refine zgd ?_ | refine zge ?_); (first | omega | (simp; done))) | (exact Co.refl _) | (exact CoL.refl _) | (exact CoLL.refl _) | ((refine qaaj hJ (1, ?_, ?_) ?_ ?_ ?_; rotate_left 2; (with_reducible refine qaah [] hm ?_ ?_ ?_ ?_) <;> (try simp only [zT, puth, Nat.reduceEqDiff, reduceIte, Nat.reduceAdd]))) | fail)
        all_goals (try dsimp only)
        all_goals (exact ⟨by omega, h5.out⟩)
      ·replace h4 := Lib.hid h4
       repeat' (first | (with_reducible refine zA ?_) | ((with_reducible refine qaac ?_); (try rw [hP]); simp -implicitDefEqProofs [*]) | ((with_reducible refine qaak ?_); (try simp -implicitDefEqProofs [*])) | ((with_reducible refine qaaa rfl (fun h => ?_) (fun h => ?_)) <;> have h' := h <;> (try simp at h') <;> (try subst h')) | (with_reducible first | refine za ?_ ?_ | refine zb ?_ ?_ ?_ ?_) | (with_reducible first | exact qaab | exact qaad) | ((with_reducible first | refine zga ?_ | refine zgb ?_); rfl) | ((with_reducible first | refine zgd ?_ | refine zge ?_); (first | omega | (simp; done))) | (exact Co.refl _) | (exact CoL.refl _) | ((refine qaaj hJo (i + 1, ?_, ?_) ?_ ?_ ?_; rotate_left 2; (with_reducible refine qaah [] hm ?_ ?_ ?_ ?_) <;> (try simp only [zT, puth, Nat.reduceEqDiff, reduceIte, Nat.reduceAdd]))) | fail)
       all_goals (try dsimp only)
       all_goals (refine ⟨by omega, ?_⟩; rw [h2.out]; congr 1; rw [h4.out]; exact qacj _ rfl)
    ·have k1 : (x.kind == 1) = false := by rw [k]; rfl
     have k2 : (x.kind == 2) = true := by simpa using k
     have kn : decide (x.n < 0) = true := by simpa using n1
     have hI : A = orF (1, 6000 + (i : Int)) (qadg p i ([x.yes].drop 0), 6000 + (i : Int)) := hA
     clear k n1 hA
     replace hI := Lib.hid hI
     repeat' (first | (with_reducible first | refine zA ?_ | refine qaae ?_ | refine zK ?_) | ((with_reducible first | refine qaac ?_ | refine qaa1 (by rw [hP]; exact qacx) ?_); (try rw [hP]); simp -implicitDefEqProofs [qaci, qabs, *]) | ((with_reducible refine qaaf ?_); (try simp -implicitDefEqProofs [qaci, qabs, *])) | ((with_reducible refine qaaa rfl (fun h => ?_) (fun h => ?_)) <;> have h' := h <;> (try simp at h') <;> (try subst h')) | (refine qaby (qaa6 p _ _ _ _ _ _ _ (by simp)) ⟨rfl, trivial⟩ ⟨rfl, trivial⟩ ?_; simp -implicitDefEqProofs [qaci, qabs, *]) | fail)
     refine qaal (qaa5 (fun s (y : Nat × Int × Int) => s.turn [(136, .int .i64 y.1)] [(0, .cells 78 (jc p y.2.1 y.2.2))]) (fun y => y.1 ≤ 1 ∧ A = orF (y.2.1, y.2.2) (qadg p i ([x.yes].drop y.1), 6000 + (i : Int))) (fun y => 1 - y.1) (0, _, _) ?_ ⟨by simp, hI.out⟩ ?_)
     ·repeat' (first | ((with_reducible refine qaah [] hm ?_ ?_ ?_ ?_) <;> (try simp only [zT, puth, Nat.reduceEqDiff, reduceIte, Nat.reduceAdd])) | (with_reducible first | refine za ?_ ?_ | refine zb ?_ ?_ ?_ ?_ | refine zd ?_ ?_ ?_ ?_) | (with_reducible first | exact qaab | exact qaad) | ((with_reducible first | refine zga ?_ | refine zgb ?_); rfl) | ((with_reducible refine zgd ?_); (first | omega | (simp; done))) | (exact Co.refl _) | (exact CoL.refl _) | (exact CoLL.refl _) | fail)
     rintro J hJ ⟨k, e1, g1⟩ ⟨h3, h4⟩
     unfold qac3
     simp only [zT, puth, Nat.reduceEqDiff, reduceIte, Nat.reduceAdd] at h3 h4 ⊢
     have hk : k = 0 ∨ k = 1 := by omega
     rcases hk with rfl | rfl
     ·have h5 := h4.trans (qaeu p i x.yes e1 g1 (qadg p i []) (6000 + (i : Int)))
      clear h4
      cases kd : decide (x.yes < 0) <;> simp only [kd, Bool.true_or, Bool.false_or] at h5 <;> replace h5 := Lib.hid h5
      all_goals
       repeat' (first | (with_reducible first | refine zA ?_ | refine qaae ?_) | ((with_reducible refine qaac ?_); (try rw [hP]); simp -implicitDefEqProofs [*]) | ((with_reducible refine qaaf ?_); (try simp -implicitDefEqProofs [*])) | ((with_reducible refine qaaa rfl (fun h => ?_) (fun h => ?_)) <;> have h' := h <;> (try simp at h') <;> (try subst h')) | (refine qaby (qaa6 p _ _ _ _ _ _ _ (by simp)) ⟨rfl, trivial⟩ ⟨rfl, trivial⟩ ?_; simp -implicitDefEqProofs [*]) | (with_reducible first | refine za ?_ ?_ | refine zb ?_ ?_ ?_ ?_ | refine zd ?_ ?_ ?_ ?_) | (with_reducible first | exact qaab | exact qaad) | ((with_reducible first | refine zga ?_ | refine zgb ?_); rfl) | ((with_reducible first | refine zgd ?_ | refine zge ?_); (first | omega | (simp; done))) | (exact Co.refl _) | (exact CoL.refl _) | (exact CoLL.refl _) | ((refine qaaj hJ (1, ?_, ?_) ?_ ?_ ?_; rotate_left 2; (with_reducible refine qaah [] hm ?_ ?_ ?_ ?_) <;> (try simp only [zT, puth, Nat.reduceEqDiff, reduceIte, Nat.reduceAdd]))) | fail)
       all_goals (try dsimp only)
       all_goals (exact ⟨by omega, h5.out⟩)
     ·replace h4 := Lib.hid h4
      repeat' (first | (with_reducible refine zA ?_) | ((with_reducible refine qaac ?_); (try rw [hP]); simp -implicitDefEqProofs [*]) | ((with_reducible refine qaak ?_); (try simp -implicitDefEqProofs [*])) | ((with_reducible refine qaaa rfl (fun h => ?_) (fun h => ?_)) <;> have h' := h <;> (try simp at h') <;> (try subst h')) | (with_reducible first | refine za ?_ ?_ | refine zb ?_ ?_ ?_ ?_) | (with_reducible first | exact qaab | exact qaad) | ((with_reducible first | refine zga ?_ | refine zgb ?_); rfl) | ((with_reducible first | refine zgd ?_ | refine zge ?_); (first | omega | (simp; done))) | (exact Co.refl _) | (exact CoL.refl _) | ((refine qaaj hJo (i + 1, ?_, ?_) ?_ ?_ ?_; rotate_left 2; (with_reducible refine qaah [] hm ?_ ?_ ?_ ?_) <;> (try simp only [zT, puth, Nat.reduceEqDiff, reduceIte, Nat.reduceAdd]))) | fail)
      all_goals (try dsimp only)
      all_goals (refine ⟨by omega, ?_⟩; rw [h2.out]; congr 1; rw [h4.out]; exact qacj _ rfl)
    ·have k1 : (x.kind == 1) = false := by rw [k]; rfl
     have k2 : (x.kind == 2) = true := by simpa using k
     have kn : decide (x.n < 0) = false := by simpa using n1
     have kn2 : decide ((p.acts.length : Int) ≤ x.n) = true := by simpa using n2
     have hI : A = orF (1, 6000 + (i : Int)) (qadg p i ([x.yes].drop 0), 6000 + (i : Int)) := hA
     clear k n1 n2 hA
     replace hI := Lib.hid hI
     repeat' (first | (with_reducible first | refine zA ?_ | refine qaae ?_ | refine zK ?_) | ((with_reducible first | refine qaac ?_ | refine qaa1 (by rw [hP]; exact qacx) ?_); (try rw [hP]); simp -implicitDefEqProofs [qaci, qabs, *]) | ((with_reducible refine qaaf ?_); (try simp -implicitDefEqProofs [qaci, qabs, *])) | ((with_reducible refine qaaa rfl (fun h => ?_) (fun h => ?_)) <;> have h' := h <;> (try simp at h') <;> (try subst h')) | (refine qaby (qaa6 p _ _ _ _ _ _ _ (by simp)) ⟨rfl, trivial⟩ ⟨rfl, trivial⟩ ?_; simp -implicitDefEqProofs [qaci, qabs, *]) | fail)
     refine qaal (qaa5 (fun s (y : Nat × Int × Int) => s.turn [(136, .int .i64 y.1)] [(0, .cells 78 (jc p y.2.1 y.2.2))]) (fun y => y.1 ≤ 1 ∧ A = orF (y.2.1, y.2.2) (qadg p i ([x.yes].drop y.1), 6000 + (i : Int))) (fun y => 1 - y.1) (0, _, _) ?_ ⟨by simp, hI.out⟩ ?_)
     ·repeat' (first | ((with_reducible refine qaah [] hm ?_ ?_ ?_ ?_) <;> (try simp only [zT, puth, Nat.reduceEqDiff, reduceIte, Nat.reduceAdd])) | (with_reducible first | refine za ?_ ?_ | refine zb ?_ ?_ ?_ ?_ | refine zd ?_ ?_ ?_ ?_) | (with_reducible first | exact qaab | exact qaad) | ((with_reducible first | refine zga ?_ | refine zgb ?_); rfl) | ((with_reducible refine zgd ?_); (first | omega | (simp; done))) | (exact Co.refl _) | (exact CoL.refl _) | (exact CoLL.refl _) | fail)
     rintro J hJ ⟨k, e1, g1⟩ ⟨h3, h4⟩
     unfold qac3
     simp only [zT, puth, Nat.reduceEqDiff, reduceIte, Nat.reduceAdd] at h3 h4 ⊢
     have hk : k = 0 ∨ k = 1 := by omega
     rcases hk with rfl | rfl
     ·have h5 := h4.trans (qaeu p i x.yes e1 g1 (qadg p i []) (6000 + (i : Int)))
      clear h4
      cases kd : decide (x.yes < 0) <;> simp only [kd, Bool.true_or, Bool.false_or] at h5 <;> replace h5 := Lib.hid h5
      all_goals
       repeat' (first | (with_reducible first | refine zA ?_ | refine qaae ?_) | ((with_reducible refine qaac ?_); (try rw [hP]); simp -implicitDefEqProofs [*]) | ((with_reducible refine qaaf ?_); (try simp -implicitDefEqProofs [*])) | ((with_reducible refine qaaa rfl (fun h => ?_) (fun h => ?_)) <;> have h' := h <;> (try simp at h') <;> (try subst h')) | (refine qaby (qaa6 p _ _ _ _ _ _ _ (by simp)) ⟨rfl, trivial⟩ ⟨rfl, trivial⟩ ?_; simp -implicitDefEqProofs [*]) | (with_reducible first | refine za ?_ ?_ | refine zb ?_ ?_ ?_ ?_ | refine zd ?_ ?_ ?_ ?_) | (with_reducible first | exact qaab | exact qaad) | ((with_reducible first | refine zga ?_ | refine zgb ?_); rfl) | ((with_reducible first | refine zgd ?_ | refine zge ?_); (first | omega | (simp; done))) | (exact Co.refl _) | (exact CoL.refl _) | (exact CoLL.refl _) | ((refine qaaj hJ (1, ?_, ?_) ?_ ?_ ?_; rotate_left 2; (with_reducible refine qaah [] hm ?_ ?_ ?_ ?_) <;> (try simp only [zT, puth, Nat.reduceEqDiff, reduceIte, Nat.reduceAdd]))) | fail)
       all_goals (try dsimp only)
       all_goals (exact ⟨by omega, h5.out⟩)
     ·replace h4 := Lib.hid h4
      repeat' (first | (with_reducible refine zA ?_) | ((with_reducible refine qaac ?_); (try rw [hP]); simp -implicitDefEqProofs [*]) | ((with_reducible refine qaak ?_); (try simp -implicitDefEqProofs [*])) | ((with_reducible refine qaaa rfl (fun h => ?_) (fun h => ?_)) <;> have h' := h <;> (try simp at h') <;> (try subst h')) | (with_reducible first | refine za ?_ ?_ | refine zb ?_ ?_ ?_ ?_) | (with_reducible first | exact qaab | exact qaad) | ((with_reducible first | refine zga ?_ | refine zgb ?_); rfl) | ((with_reducible first | refine zgd ?_ | refine zge ?_); (first | omega | (simp; done))) | (exact Co.refl _) | (exact CoL.refl _) | ((refine qaaj hJo (i + 1, ?_, ?_) ?_ ?_ ?_; rotate_left 2; (with_reducible refine qaah [] hm ?_ ?_ ?_ ?_) <;> (try simp only [zT, puth, Nat.reduceEqDiff, reduceIte, Nat.reduceAdd]))) | fail)
      all_goals (try dsimp only)
      all_goals (refine ⟨by omega, ?_⟩; rw [h2.out]; congr 1; rw [h4.out]; exact qacj _ rfl)
    ·have k1 : (x.kind == 1) = false := by rw [k]; rfl
     have k2 : (x.kind == 2) = true := by simpa using k
     have kn : decide (x.n < 0) = false := by simpa using n1
     have kn2 : decide ((p.acts.length : Int) ≤ x.n) = false := by simpa using n2
     have hlt : x.n.toNat < p.acts.length := by omega
     have hI := hA
     have : actW p.acts x.n = p.acts[x.n.toNat].w := by unfold actW; rw [List.getElem?_eq_getElem hlt]; rfl
     rw [this] at hI
     generalize hB : p.acts[x.n.toNat] = B at hI
     rw [show decide (0 < (B.w.length : Int)) = decide (0 < B.w.length) from decide_eq_decide.2 (by omega)] at hI
     clear k this hA
     replace hI := Lib.hid hI
     repeat' (first | (with_reducible first | refine zA ?_ | refine qaae ?_ | refine zK ?_) | ((with_reducible first | refine qaac ?_ | refine qaa1 (by rw [hP]; exact qacx) ?_); (try rw [hP]); simp -implicitDefEqProofs [qaci, qabs, *]) | ((with_reducible refine qaaf ?_); (try simp -implicitDefEqProofs [qaci, qabs, *])) | ((with_reducible refine qaaa rfl (fun h => ?_) (fun h => ?_)) <;> have h' := h <;> (try simp at h') <;> (try subst h')) | (refine qaby (qaa6 p _ _ _ _ _ _ _ (by simp)) ⟨rfl, trivial⟩ ⟨rfl, trivial⟩ ?_; simp -implicitDefEqProofs [qaci, qabs, *]) | fail)
     refine qaal (qaa5 (fun s (y : Nat × Int × Int) => s.turn [(136, .int .i64 y.1)] [(0, .cells 78 (jc p y.2.1 y.2.2))]) (fun y => y.1 ≤ 1 ∧ A = orF (y.2.1, y.2.2) (qadg p i ([x.yes].drop y.1), 6000 + (i : Int))) (fun y => 1 - y.1) (0, _, _) ?_ ⟨by simp, hI.out⟩ ?_)
     ·repeat' (first | ((with_reducible refine qaah [] hm ?_ ?_ ?_ ?_) <;> (try simp only [zT, puth, Nat.reduceEqDiff, reduceIte, Nat.reduceAdd])) | (with_reducible first | refine za ?_ ?_ | refine zb ?_ ?_ ?_ ?_ | refine zd ?_ ?_ ?_ ?_) | (with_reducible first | exact qaab | exact qaad) | ((with_reducible first | refine zga ?_ | refine zgb ?_); rfl) | ((with_reducible refine zgd ?_); (first | omega | (simp; done))) | (exact Co.refl _) | (exact CoL.refl _) | (exact CoLL.refl _) | fail)
     rintro J hJ ⟨k, e1, g1⟩ ⟨h3, h4⟩
     unfold qac3
     simp only [zT, puth, Nat.reduceEqDiff, reduceIte, Nat.reduceAdd] at h3 h4 ⊢
     have hk : k = 0 ∨ k = 1 := by omega
     rcases hk with rfl | rfl
     ·have h5 := h4.trans (qaeu p i x.yes e1 g1 (qadg p i []) (6000 + (i : Int)))
      clear h4
      cases kd : decide (x.yes < 0) <;> simp only [kd, Bool.true_or, Bool.false_or] at h5 <;> replace h5 := Lib.hid h5
      all_goals
       repeat' (first | (with_reducible first | refine zA ?_ | refine qaae ?_) | ((with_reducible refine qaac ?_); (try rw [hP]); simp -implicitDefEqProofs [*]) | ((with_reducible refine qaaf ?_); (try simp -implicitDefEqProofs [*])) | ((with_reducible refine qaaa rfl (fun h => ?_) (fun h => ?_)) <;> have h' := h <;> (try simp at h') <;> (try subst h')) | (refine qaby (qaa6 p _ _ _ _ _ _ _ (by simp)) ⟨rfl, trivial⟩ ⟨rfl, trivial⟩ ?_; simp -implicitDefEqProofs [*]) | (with_reducible first | refine za ?_ ?_ | refine zb ?_ ?_ ?_ ?_ | refine zd ?_ ?_ ?_ ?_) | (with_reducible first | exact qaab | exact qaad) | ((with_reducible first | refine zga ?_ | refine zgb ?_); rfl) | ((with_reducible first | refine zgd ?_ | refine zge ?_); (first | omega | (simp; done))) | (exact Co.refl _) | (exact CoL.refl _) | (exact CoLL.refl _) | ((refine qaaj hJ (1, ?_, ?_) ?_ ?_ ?_; rotate_left 2; (with_reducible refine qaah [] hm ?_ ?_ ?_ ?_) <;> (try simp only [zT, puth, Nat.reduceEqDiff, reduceIte, Nat.reduceAdd]))) | fail)
       all_goals (try dsimp only)
       all_goals (exact ⟨by omega, h5.out⟩)
     ·replace h4 := Lib.hid h4
      repeat' (first | (with_reducible refine zA ?_) | ((with_reducible refine qaac ?_); (try rw [hP]); simp -implicitDefEqProofs [*]) | ((with_reducible refine qaak ?_); (try simp -implicitDefEqProofs [*])) | ((with_reducible refine qaaa rfl (fun h => ?_) (fun h => ?_)) <;> have h' := h <;> (try simp at h') <;> (try subst h')) | (with_reducible first | refine za ?_ ?_ | refine zb ?_ ?_ ?_ ?_) | (with_reducible first | exact qaab | exact qaad) | ((with_reducible first | refine zga ?_ | refine zgb ?_); rfl) | ((with_reducible first | refine zgd ?_ | refine zge ?_); (first | omega | (simp; done))) | (exact Co.refl _) | (exact CoL.refl _) | ((refine qaaj hJo (i + 1, ?_, ?_) ?_ ?_ ?_; rotate_left 2; (with_reducible refine qaah [] hm ?_ ?_ ?_ ?_) <;> (try simp only [zT, puth, Nat.reduceEqDiff, reduceIte, Nat.reduceAdd]))) | fail)
      all_goals (try dsimp only)
      all_goals (refine ⟨by omega, ?_⟩; rw [h2.out]; congr 1; rw [h4.out]; exact qacj _ rfl)
   ·have k1 : (x.kind == 1) = false := by simpa using kn1
    have k2 : (x.kind == 2) = false := by simpa using kn2
    rw [if_neg kn1, if_neg kn2] at hA
    by_cases kn3 : x.kind = 3
    ·have k3 : (x.kind == 3) = true := by simpa using kn3
     rw [if_pos kn3, qapf] at hA
     have hI := hA
     clear kn1 kn2 kn3 hA
     replace hI := Lib.hid hI
     repeat' (first | (with_reducible first | refine zA ?_ | refine qaae ?_) | ((with_reducible refine qaac ?_); (try rw [hP]); simp -implicitDefEqProofs [qaci, qabs, *]) | ((with_reducible refine qaaf ?_); (try simp -implicitDefEqProofs [qaci, qabs, *])) | ((with_reducible refine qaaa rfl (fun h => ?_) (fun h => ?_)) <;> have h' := h <;> (try simp at h') <;> (try subst h')) | ((refine qaby (qarf p _ _ x.e _ (by omega) _ _ (by simp)) ⟨rfl, trivial⟩ ⟨rfl, trivial⟩ ?_); simp -implicitDefEqProofs [qaci, qabs, *]) | fail)
     refine qaal (qaa5 (fun s (y : Nat × Int × Int) => s.turn [(136, .int .i64 y.1)] [(0, .cells 78 (jc p y.2.1 y.2.2))]) (fun y => y.1 ≤ 2 ∧ A = orF (y.2.1, y.2.2) (qadg p i ([x.yes, x.no].drop y.1), 6000 + (i : Int))) (fun y => 2 - y.1) (0, _, _) ?_ ⟨by simp, hI.out⟩ ?_)
     ·repeat' (first | ((with_reducible refine qaah [] hm ?_ ?_ ?_ ?_) <;> (try simp only [zT, puth, Nat.reduceEqDiff, reduceIte, Nat.reduceAdd])) | (with_reducible first | refine za ?_ ?_ | refine zb ?_ ?_ ?_ ?_ | refine zd ?_ ?_ ?_ ?_) | (with_reducible first | exact qaab | exact qaad) | ((with_reducible first | refine zga ?_ | refine zgb ?_); rfl) | ((with_reducible refine zgd ?_); (first | omega | (simp; done))) | (exact Co.refl _) | (exact CoL.refl _) | (exact CoLL.refl _) | fail)
     rintro J hJ ⟨k, e1, g1⟩ ⟨h3, h4⟩
     unfold qac3
     simp only [zT, puth, Nat.reduceEqDiff, reduceIte, Nat.reduceAdd] at h3 h4 ⊢
     have hk : k = 0 ∨ k = 1 ∨ k = 2 := by omega
     rcases hk with rfl | rfl | rfl
     ·have h5 := h4.trans (qaeu p i x.yes e1 g1 (qadg p i [x.no]) (6000 + (i : Int)))
      clear h4
      cases kd : decide (x.yes < 0) <;> simp only [kd, Bool.true_or, Bool.false_or] at h5 <;> replace h5 := Lib.hid h5
      all_goals
       repeat' (first | (with_reducible first | refine zA ?_ | refine qaae ?_) | ((with_reducible refine qaac ?_); (try rw [hP]); simp -implicitDefEqProofs [*]) | ((with_reducible refine qaaf ?_); (try simp -implicitDefEqProofs [*])) | ((with_reducible refine qaaa rfl (fun h => ?_) (fun h => ?_)) <;> have h' := h <;> (try simp at h') <;> (try subst h')) | (refine qaby (qaa6 p _ _ _ _ _ _ _ (by simp)) ⟨rfl, trivial⟩ ⟨rfl, trivial⟩ ?_; simp -implicitDefEqProofs [*]) | (with_reducible first | refine za ?_ ?_ | refine zb ?_ ?_ ?_ ?_ | refine zd ?_ ?_ ?_ ?_) | (with_reducible first | exact qaab | exact qaad) | ((with_reducible first | refine zga ?_ | refine zgb ?_); rfl) | ((with_reducible first | refine zgd ?_ | refine zge ?_); (first | omega | (simp; done))) | (exact Co.refl _) | (exact CoL.refl _) | (exact CoLL.refl _) | ((refine qaaj hJ (1, ?_, ?_) ?_ ?_ ?_; rotate_left 2; (with_reducible refine qaah [] hm ?_ ?_ ?_ ?_) <;> (try simp only [zT, puth, Nat.reduceEqDiff, reduceIte, Nat.reduceAdd]))) | fail)
       all_goals (try dsimp only)
       all_goals (exact ⟨by omega, h5.out⟩)
     ·have h5 := h4.trans (qaeu p i x.no e1 g1 (qadg p i []) (6000 + (i : Int)))
      clear h4
      cases kd : decide (x.no < 0) <;> simp only [kd, Bool.true_or, Bool.false_or] at h5 <;> replace h5 := Lib.hid h5
      all_goals
       repeat' (first | (with_reducible first | refine zA ?_ | refine qaae ?_) | ((with_reducible refine qaac ?_); (try rw [hP]); simp -implicitDefEqProofs [*]) | ((with_reducible refine qaaf ?_); (try simp -implicitDefEqProofs [*])) | ((with_reducible refine qaaa rfl (fun h => ?_) (fun h => ?_)) <;> have h' := h <;> (try simp at h') <;> (try subst h')) | (refine qaby (qaa6 p _ _ _ _ _ _ _ (by simp)) ⟨rfl, trivial⟩ ⟨rfl, trivial⟩ ?_; simp -implicitDefEqProofs [*]) | (with_reducible first | refine za ?_ ?_ | refine zb ?_ ?_ ?_ ?_ | refine zd ?_ ?_ ?_ ?_) | (with_reducible first | exact qaab | exact qaad) | ((with_reducible first | refine zga ?_ | refine zgb ?_); rfl) | ((with_reducible first | refine zgd ?_ | refine zge ?_); (first | omega | (simp; done))) | (exact Co.refl _) | (exact CoL.refl _) | (exact CoLL.refl _) | ((refine qaaj hJ (2, ?_, ?_) ?_ ?_ ?_; rotate_left 2; (with_reducible refine qaah [] hm ?_ ?_ ?_ ?_) <;> (try simp only [zT, puth, Nat.reduceEqDiff, reduceIte, Nat.reduceAdd]))) | fail)
       all_goals (try dsimp only)
       all_goals (exact ⟨by omega, h5.out⟩)
     ·replace h4 := Lib.hid h4
      repeat' (first | (with_reducible refine zA ?_) | ((with_reducible refine qaac ?_); (try rw [hP]); simp -implicitDefEqProofs [*]) | ((with_reducible refine qaak ?_); (try simp -implicitDefEqProofs [*])) | ((with_reducible refine qaaa rfl (fun h => ?_) (fun h => ?_)) <;> have h' := h <;> (try simp at h') <;> (try subst h')) | (with_reducible first | refine za ?_ ?_ | refine zb ?_ ?_ ?_ ?_) | (with_reducible first | exact qaab | exact qaad) | ((with_reducible first | refine zga ?_ | refine zgb ?_); rfl) | ((with_reducible first | refine zgd ?_ | refine zge ?_); (first | omega | (simp; done))) | (exact Co.refl _) | (exact CoL.refl _) | ((refine qaaj hJo (i + 1, ?_, ?_) ?_ ?_ ?_; rotate_left 2; (with_reducible refine qaah [] hm ?_ ?_ ?_ ?_) <;> (try simp only [zT, puth, Nat.reduceEqDiff, reduceIte, Nat.reduceAdd]))) | fail)
      all_goals (try dsimp only)
      all_goals (refine ⟨by omega, ?_⟩; rw [h2.out]; congr 1; rw [h4.out]; exact qacj _ rfl)
    rw [if_neg kn3] at hA
    have k3 : (x.kind == 3) = false := by simpa using kn3
    by_cases kn4 : x.kind = 4
    ·have k4 : (x.kind == 4) = true := by simpa using kn4
     rw [if_pos kn4, qacp _ _ _ _ _ _ (by decide)] at hA
     have hI := hA
     clear kn1 kn2 kn3 kn4 hA
     replace hI := Lib.hid hI
     repeat' (first | (with_reducible first | refine zA ?_ | refine qaae ?_) | ((with_reducible refine qaac ?_); (try rw [hP]); simp -implicitDefEqProofs [qaci, qabs, *]) | ((with_reducible refine qaaf ?_); (try simp -implicitDefEqProofs [qaci, qabs, *])) | ((with_reducible refine qaaa rfl (fun h => ?_) (fun h => ?_)) <;> have h' := h <;> (try simp at h') <;> (try subst h')) | ((refine qaby (qagv p _ _ _ _ _ _ (by simp)) ⟨rfl, trivial⟩ ⟨rfl, trivial⟩ ?_); simp -implicitDefEqProofs [qaci, qabs, *]) | fail)
     refine qaal (qaa5 (fun s (y : Nat × Int × Int) => s.turn [(136, .int .i64 y.1)] [(0, .cells 78 (jc p y.2.1 y.2.2))]) (fun y => y.1 ≤ 2 ∧ A = orF (y.2.1, y.2.2) (qadg p i ([x.yes, x.no].drop y.1), 6000 + (i : Int))) (fun y => 2 - y.1) (0, _, _) ?_ ⟨by simp, hI.out⟩ ?_)
     ·repeat' (first | ((with_reducible refine qaah [] hm ?_ ?_ ?_ ?_) <;> (try simp only [zT, puth, Nat.reduceEqDiff, reduceIte, Nat.reduceAdd])) | (with_reducible first | refine za ?_ ?_ | refine zb ?_ ?_ ?_ ?_ | refine zd ?_ ?_ ?_ ?_) | (with_reducible first | exact qaab | exact qaad) | ((with_reducible first | refine zga ?_ | refine zgb ?_); rfl) | ((with_reducible refine zgd ?_); (first | omega | (simp; done))) | (exact Co.refl _) | (exact CoL.refl _) | (exact CoLL.refl _) | fail)
     rintro J hJ ⟨k, e1, g1⟩ ⟨h3, h4⟩
     unfold qac3
     simp only [zT, puth, Nat.reduceEqDiff, reduceIte, Nat.reduceAdd] at h3 h4 ⊢
     have hk : k = 0 ∨ k = 1 ∨ k = 2 := by omega
     rcases hk with rfl | rfl | rfl
     ·have h5 := h4.trans (qaeu p i x.yes e1 g1 (qadg p i [x.no]) (6000 + (i : Int)))
      clear h4
      cases kd : decide (x.yes < 0) <;> simp only [kd, Bool.true_or, Bool.false_or] at h5 <;> replace h5 := Lib.hid h5
      all_goals
       repeat' (first | (with_reducible first | refine zA ?_ | refine qaae ?_) | ((with_reducible refine qaac ?_); (try rw [hP]); simp -implicitDefEqProofs [*]) | ((with_reducible refine qaaf ?_); (try simp -implicitDefEqProofs [*])) | ((with_reducible refine qaaa rfl (fun h => ?_) (fun h => ?_)) <;> have h' := h <;> (try simp at h') <;> (try subst h')) | (refine qaby (qaa6 p _ _ _ _ _ _ _ (by simp)) ⟨rfl, trivial⟩ ⟨rfl, trivial⟩ ?_; simp -implicitDefEqProofs [*]) | (with_reducible first | refine za ?_ ?_ | refine zb ?_ ?_ ?_ ?_ | refine zd ?_ ?_ ?_ ?_) | (with_reducible first | exact qaab | exact qaad) | ((with_reducible first | refine zga ?_ | refine zgb ?_); rfl) | ((with_reducible first | refine zgd ?_ | refine zge ?_); (first | omega | (simp; done))) | (exact Co.refl _) | (exact CoL.refl _) | (exact CoLL.refl _) | ((refine qaaj hJ (1, ?_, ?_) ?_ ?_ ?_; rotate_left 2; (with_reducible refine qaah [] hm ?_ ?_ ?_ ?_) <;> (try simp only [zT, puth, Nat.reduceEqDiff, reduceIte, Nat.reduceAdd]))) | fail)
       all_goals (try dsimp only)
       all_goals (exact ⟨by omega, h5.out⟩)
     ·have h5 := h4.trans (qaeu p i x.no e1 g1 (qadg p i []) (6000 + (i : Int)))
      clear h4
      cases kd : decide (x.no < 0) <;> simp only [kd, Bool.true_or, Bool.false_or] at h5 <;> replace h5 := Lib.hid h5
      all_goals
       repeat' (first | (with_reducible first | refine zA ?_ | refine qaae ?_) | ((with_reducible refine qaac ?_); (try rw [hP]); simp -implicitDefEqProofs [*]) | ((with_reducible refine qaaf ?_); (try simp -implicitDefEqProofs [*])) | ((with_reducible refine qaaa rfl (fun h => ?_) (fun h => ?_)) <;> have h' := h <;> (try simp at h') <;> (try subst h')) | (refine qaby (qaa6 p _ _ _ _ _ _ _ (by simp)) ⟨rfl, trivial⟩ ⟨rfl, trivial⟩ ?_; simp -implicitDefEqProofs [*]) | (with_reducible first | refine za ?_ ?_ | refine zb ?_ ?_ ?_ ?_ | refine zd ?_ ?_ ?_ ?_) | (with_reducible first | exact qaab | exact qaad) | ((with_reducible first | refine zga ?_ | refine zgb ?_); rfl) | ((with_reducible first | refine zgd ?_ | refine zge ?_); (first | omega | (simp; done))) | (exact Co.refl _) | (exact CoL.refl _) | (exact CoLL.refl _) | ((refine qaaj hJ (2, ?_, ?_) ?_ ?_ ?_; rotate_left 2; (with_reducible refine qaah [] hm ?_ ?_ ?_ ?_) <;> (try simp only [zT, puth, Nat.reduceEqDiff, reduceIte, Nat.reduceAdd]))) | fail)
       all_goals (try dsimp only)
       all_goals (exact ⟨by omega, h5.out⟩)
     ·replace h4 := Lib.hid h4
      repeat' (first | (with_reducible refine zA ?_) | ((with_reducible refine qaac ?_); (try rw [hP]); simp -implicitDefEqProofs [*]) | ((with_reducible refine qaak ?_); (try simp -implicitDefEqProofs [*])) | ((with_reducible refine qaaa rfl (fun h => ?_) (fun h => ?_)) <;> have h' := h <;> (try simp at h') <;> (try subst h')) | (with_reducible first | refine za ?_ ?_ | refine zb ?_ ?_ ?_ ?_) | (with_reducible first | exact qaab | exact qaad) | ((with_reducible first | refine zga ?_ | refine zgb ?_); rfl) | ((with_reducible first | refine zgd ?_ | refine zge ?_); (first | omega | (simp; done))) | (exact Co.refl _) | (exact CoL.refl _) | ((refine qaaj hJo (i + 1, ?_, ?_) ?_ ?_ ?_; rotate_left 2; (with_reducible refine qaah [] hm ?_ ?_ ?_ ?_) <;> (try simp only [zT, puth, Nat.reduceEqDiff, reduceIte, Nat.reduceAdd]))) | fail)
      all_goals (try dsimp only)
      all_goals (refine ⟨by omega, ?_⟩; rw [h2.out]; congr 1; rw [h4.out]; exact qacj _ rfl)
    ·have k4 : (x.kind == 4) = false := by simpa using kn4
     rw [if_neg kn4] at hA
     have hI : A = orF (5, 6000 + (i : Int)) (qadg p i ([x.yes, x.no].drop 0), 6000 + (i : Int)) := hA
     clear kn1 kn2 kn3 kn4 hA
     replace hI := Lib.hid hI
     repeat' (first | (with_reducible first | refine zA ?_ | refine qaae ?_) | ((with_reducible refine qaac ?_); (try rw [hP]); simp -implicitDefEqProofs [qaci, qabs, *]) | ((with_reducible refine qaaf ?_); (try simp -implicitDefEqProofs [qaci, qabs, *])) | ((with_reducible refine qaaa rfl (fun h => ?_) (fun h => ?_)) <;> have h' := h <;> (try simp at h') <;> (try subst h')) | (refine qaby (qaa6 p _ _ _ _ _ _ _ (by simp)) ⟨rfl, trivial⟩ ⟨rfl, trivial⟩ ?_; simp -implicitDefEqProofs [qaci, qabs, *]) | fail)
     refine qaal (qaa5 (fun s (y : Nat × Int × Int) => s.turn [(136, .int .i64 y.1)] [(0, .cells 78 (jc p y.2.1 y.2.2))]) (fun y => y.1 ≤ 2 ∧ A = orF (y.2.1, y.2.2) (qadg p i ([x.yes, x.no].drop y.1), 6000 + (i : Int))) (fun y => 2 - y.1) (0, _, _) ?_ ⟨by simp, hI.out⟩ ?_)
     ·repeat' (first | ((with_reducible refine qaah [] hm ?_ ?_ ?_ ?_) <;> (try simp only [zT, puth, Nat.reduceEqDiff, reduceIte, Nat.reduceAdd])) | (with_reducible first | refine za ?_ ?_ | refine zb ?_ ?_ ?_ ?_ | refine zd ?_ ?_ ?_ ?_) | (with_reducible first | exact qaab | exact qaad) | ((with_reducible first | refine zga ?_ | refine zgb ?_); rfl) | ((with_reducible refine zgd ?_); (first | omega | (simp; done))) | (exact Co.refl _) | (exact CoL.refl _) | (exact CoLL.refl _) | fail)
     rintro J hJ ⟨k, e1, g1⟩ ⟨h3, h4⟩
     unfold qac3
     simp only [zT, puth, Nat.reduceEqDiff, reduceIte, Nat.reduceAdd] at h3 h4 ⊢
     have hk : k = 0 ∨ k = 1 ∨ k = 2 := by omega
     rcases hk with rfl | rfl | rfl
     ·have h5 := h4.trans (qaeu p i x.yes e1 g1 (qadg p i [x.no]) (6000 + (i : Int)))
      clear h4
      cases kd : decide (x.yes < 0) <;> simp only [kd, Bool.true_or, Bool.false_or] at h5 <;> replace h5 := Lib.hid h5
      all_goals
       repeat' (first | (with_reducible first | refine zA ?_ | refine qaae ?_) | ((with_reducible refine qaac ?_); (try rw [hP]); simp -implicitDefEqProofs [*]) | ((with_reducible refine qaaf ?_); (try simp -implicitDefEqProofs [*])) | ((with_reducible refine qaaa rfl (fun h => ?_) (fun h => ?_)) <;> have h' := h <;> (try simp at h') <;> (try subst h')) | (refine qaby (qaa6 p _ _ _ _ _ _ _ (by simp)) ⟨rfl, trivial⟩ ⟨rfl, trivial⟩ ?_; simp -implicitDefEqProofs [*]) | (with_reducible first | refine za ?_ ?_ | refine zb ?_ ?_ ?_ ?_ | refine zd ?_ ?_ ?_ ?_) | (with_reducible first | exact qaab | exact qaad) | ((with_reducible first | refine zga ?_ | refine zgb ?_); rfl) | ((with_reducible first | refine zgd ?_ | refine zge ?_); (first | omega | (simp; done))) | (exact Co.refl _) | (exact CoL.refl _) | (exact CoLL.refl _) | ((refine qaaj hJ (1, ?_, ?_) ?_ ?_ ?_; rotate_left 2; (with_reducible refine qaah [] hm ?_ ?_ ?_ ?_) <;> (try simp only [zT, puth, Nat.reduceEqDiff, reduceIte, Nat.reduceAdd]))) | fail)
       all_goals (try dsimp only)
       all_goals (exact ⟨by omega, h5.out⟩)
     ·have h5 := h4.trans (qaeu p i x.no e1 g1 (qadg p i []) (6000 + (i : Int)))
      clear h4
      cases kd : decide (x.no < 0) <;> simp only [kd, Bool.true_or, Bool.false_or] at h5 <;> replace h5 := Lib.hid h5
      all_goals
       repeat' (first | (with_reducible first | refine zA ?_ | refine qaae ?_) | ((with_reducible refine qaac ?_); (try rw [hP]); simp -implicitDefEqProofs [*]) | ((with_reducible refine qaaf ?_); (try simp -implicitDefEqProofs [*])) | ((with_reducible refine qaaa rfl (fun h => ?_) (fun h => ?_)) <;> have h' := h <;> (try simp at h') <;> (try subst h')) | (refine qaby (qaa6 p _ _ _ _ _ _ _ (by simp)) ⟨rfl, trivial⟩ ⟨rfl, trivial⟩ ?_; simp -implicitDefEqProofs [*]) | (with_reducible first | refine za ?_ ?_ | refine zb ?_ ?_ ?_ ?_ | refine zd ?_ ?_ ?_ ?_) | (with_reducible first | exact qaab | exact qaad) | ((with_reducible first | refine zga ?_ | refine zgb ?_); rfl) | ((with_reducible first | refine zgd ?_ | refine zge ?_); (first | omega | (simp; done))) | (exact Co.refl _) | (exact CoL.refl _) | (exact CoLL.refl _) | ((refine qaaj hJ (2, ?_, ?_) ?_ ?_ ?_; rotate_left 2; (with_reducible refine qaah [] hm ?_ ?_ ?_ ?_) <;> (try simp only [zT, puth, Nat.reduceEqDiff, reduceIte, Nat.reduceAdd]))) | fail)
       all_goals (try dsimp only)
       all_goals (exact ⟨by omega, h5.out⟩)
     ·replace h4 := Lib.hid h4
      repeat' (first | (with_reducible refine zA ?_) | ((with_reducible refine qaac ?_); (try rw [hP]); simp -implicitDefEqProofs [*]) | ((with_reducible refine qaak ?_); (try simp -implicitDefEqProofs [*])) | ((with_reducible refine qaaa rfl (fun h => ?_) (fun h => ?_)) <;> have h' := h <;> (try simp at h') <;> (try subst h')) | (with_reducible first | refine za ?_ ?_ | refine zb ?_ ?_ ?_ ?_) | (with_reducible first | exact qaab | exact qaad) | ((with_reducible first | refine zga ?_ | refine zgb ?_); rfl) | ((with_reducible first | refine zgd ?_ | refine zge ?_); (first | omega | (simp; done))) | (exact Co.refl _) | (exact CoL.refl _) | ((refine qaaj hJo (i + 1, ?_, ?_) ?_ ?_ ?_; rotate_left 2; (with_reducible refine qaah [] hm ?_ ?_ ?_ ?_) <;> (try simp only [zT, puth, Nat.reduceEqDiff, reduceIte, Nat.reduceAdd]))) | fail)
      all_goals (try dsimp only)
      all_goals (refine ⟨by omega, ?_⟩; rw [h2.out]; congr 1; rw [h4.out]; exact qacj _ rfl)
  ·have ke : (e == 0) = false := by simpa using he
   replace h2 := Lib.hid h2
   repeat' (first | (with_reducible refine zA ?_) | ((with_reducible refine qaac ?_); (try rw [hP]); simp -implicitDefEqProofs [*]) | ((with_reducible refine qaak ?_); (try simp -implicitDefEqProofs [*])) | ((with_reducible refine qaaa rfl (fun h => ?_) (fun h => ?_)) <;> have h' := h <;> (try simp at h') <;> (try subst h')) | (refine qacl hm rfl ?_ (fun σ => rfl)) | fail)
   rw [h2.out, qafb he]
 ·obtain rfl : i = p.nodes.length := by omega
  rw [List.drop_length] at h2
  replace h2 := Lib.hid h2
  repeat' (first | (with_reducible refine zA ?_) | ((with_reducible refine qaac ?_); (try rw [hP]); simp -implicitDefEqProofs [*]) | ((with_reducible refine qaak ?_); (try simp -implicitDefEqProofs [*])) | ((with_reducible refine qaaa rfl (fun h => ?_) (fun h => ?_)) <;> have h' := h <;> (try simp at h') <;> (try subst h')) | (refine qacl hm rfl ?_ (fun σ => rfl)) | fail)
  rw [h2.out, qacj _ rfl]
end Go.Proofs.Ytnfjldobjgdiaaa
namespace Go.Proofs.Ytnfjldobjgdiaaa
set_option linter.all false
open Go.RowKit
abbrev qa61 : List SOper := [Oa 1 (.box 62 (.t 0)), Oa 2 (.mv (.c (.int .i64 0))), Oa 3 (.alloc 45 [(.int .i64 0), (.int .i64 0)])]
abbrev qa60 : List SOper := [Oa 7 (.faddr 0 (.t 1)), Oa 8 (.load (.t 7)), Oa 9 (.len false (.t 8)), Oa 10 (.bin .eql (.t 9) (.c (.int .i64 0))), Oa 11 (.mv (.t 10)), Oe 12 (.faddr 0 (.t 1)) 11 false, Oe 13 (.load (.t 12)) 11 false, Oe 14 (.len false (.t 13)) 11 false, Oe 15 (.bin .gtr (.t 14) (.c (.int .i64 8))) 11 false, Oa 16 (.pick (.t 11) (.c (.bool true)) (.t 15))]
abbrev qa6z : List SOper := [Oa 17 (.build [(.int .i64 0), (.int .i64 0)] [(0, 1, (.c (.int .i64 2))), (1, 1, (.c (.int .i64 (-1))))]), Oa 2 (.mv (.c (.int .i64 0))), Ob (.store 2 (.t 3) (.t 17))]
abbrev qa6y : List SOper := [Oa 4 (.mv (.c (.int .i64 0)))]
abbrev qa6x : List SOper := [Oa 18 (.faddr 0 (.t 1)), Oa 19 (.load (.t 18)), Oa 20 (.len false (.t 19)), Oa 21 (.mv (.c (.int .i64 0)))]
abbrev qa6w : List SOper := [Oa 22 (.bin .lss (.t 21) (.t 20))]
abbrev qa6v : List SOper := [Oa 23 (.mv (.t 21)), Oa 24 (.iaddr 1 (.t 19) (.t 21)), Oa 25 (.load (.t 24)), Oa 5 (.mv (.t 23)), Oa 6 (.mv (.t 25))]
abbrev qa6u : List SOper := [Oa 26 (.mv (.t 6)), Oa 27 (.bin .lss (.t 26) (.c (.int .i64 1))), Oa 28 (.mv (.t 27)), Oe 29 (.mv (.t 6)) 28 false, Oe 30 (.bin .gtr (.t 29) (.c (.int .i64 48))) 28 false, Oa 31 (.pick (.t 28) (.c (.bool true)) (.t 30))]
abbrev qa6t : List SOper := [Oa 32 (.mv (.t 5)), Oa 33 (.build [(.int .i64 0), (.int .i64 0)] [(0, 1, (.c (.int .i64 6))), (1, 1, (.t 32))]), Oa 2 (.mv (.c (.int .i64 0))), Ob (.store 2 (.t 3) (.t 33))]
abbrev qaye : List SOper := [Oa 34 (.mv (.t 4)), Oa 35 (.mv (.t 6)), Oa 36 (.bin .add (.t 34) (.t 35)), Oa 4 (.mv (.t 36))]
abbrev qayd : List SOper := [Oa 37 (.bin .add (.t 21) (.c (.int .i64 1))), Oa 21 (.mv (.t 37))]
def qakt : SCode := (.seq (.reg false qa6w [3, 4, 19, 20, 21, 22]) (.seq (.cond (.t 22) .skip (.exit 0)) (.seq (.block 1 (.seq (.reg false qa6v [3, 4, 5, 6, 19, 20, 21]) (.seq (.seq (.reg false qa6u [3, 4, 5, 6, 19, 20, 21, 31]) (.cond (.t 31) (.seq (.reg false qa6t [2, 3]) .ret) .skip)) (.reg false qaye [3, 4, 19, 20, 21])))) (.reg false qayd [3, 4, 19, 20, 21]))))
abbrev qayc : List SOper := [Oa 38 (.mv (.t 4)), Oa 39 (.bin .rem (.t 38) (.c (.int .i64 8))), Oa 40 (.bin .neq (.t 39) (.c (.int .i64 0))), Oa 41 (.mv (.t 40)), Oe 42 (.mv (.t 4)) 41 false, Oe 43 (.bin .gtr (.t 42) (.c (.int .i64 256))) 41 false, Oa 44 (.pick (.t 41) (.c (.bool true)) (.t 43))]
abbrev qayb : List SOper := [Oa 45 (.build [(.int .i64 0), (.int .i64 0)] [(0, 1, (.c (.int .i64 6))), (1, 1, (.c (.int .i64 (-1))))]), Oa 2 (.mv (.c (.int .i64 0))), Ob (.store 2 (.t 3) (.t 45))]
abbrev qaya : List SOper := [Oa 46 (.mv (.t 4)), Oa 47 (.bin .quo (.t 46) (.c (.int .i64 8))), Oa 48 (.build [(.int .i64 0), (.int .i64 0)] []), Oa 2 (.mv (.t 47)), Ob (.store 2 (.t 3) (.t 48))]
def c_psize : SCode := (.seq (.reg false qa61 [1, 3]) (.seq (.seq (.reg false qa60 [1, 3, 16]) (.cond (.t 16) (.seq (.reg false qa6z [2, 3]) .ret) .skip)) (.seq (.reg false qa6y [1, 3, 4]) (.seq (.seq (.reg false qa6x [3, 4, 19, 20, 21]) (.block 0 (.loop qakt))) (.seq (.seq (.reg false qayc [3, 4, 44]) (.cond (.t 44) (.seq (.reg false qayb [2, 3]) .ret) .skip)) (.seq (.reg false qaya [2, 3]) .ret))))))
theorem qamm : comp Try.prog 49 ((Try.f32.body).getD .skip) = some c_psize.erase := by kernel_rfl
abbrev qa42 : List SOper := [Oa 1 (.box 62 (.t 0)), Oa 2 (.mv (.c (.int .i64 0))), Oa 3 (.alloc 45 [(.int .i64 0), (.int .i64 0)])]
abbrev qa41 : List SOper := [Oa 6 (.faddr 0 (.t 1)), Oa 7 (.load (.t 6)), Oa 8 (.len false (.t 7)), Oa 9 (.bin .lss (.t 8) (.c (.int .i64 1))), Oa 10 (.mv (.t 9)), Oe 11 (.faddr 0 (.t 1)) 10 false, Oe 12 (.load (.t 11)) 10 false, Oe 13 (.len false (.t 12)) 10 false, Oe 14 (.bin .gtr (.t 13) (.c (.int .i64 8))) 10 false, Oa 15 (.pick (.t 10) (.c (.bool true)) (.t 14))]
abbrev qa40 : List SOper := [Oc 16 39 [(.c (.int .i64 2)), (.c (.int .i64 (-1)))], Oa 2 (.mv (.c (.int .i64 0))), Ob (.store 2 (.t 3) (.t 16))]
abbrev qa4z : List SOper := [Oa 4 (.mv (.c (.int .i64 0)))]
abbrev qa4y : List SOper := [Oa 5 (.mv (.c (.int .i64 0)))]
abbrev qa4x : List SOper := [Oa 17 (.mv (.t 5)), Oa 18 (.faddr 0 (.t 1)), Oa 19 (.load (.t 18)), Oa 20 (.len false (.t 19)), Oa 21 (.bin .lss (.t 17) (.t 20))]
abbrev qa4w : List SOper := [Oa 24 (.faddr 0 (.t 1)), Oa 25 (.load (.t 24)), Oa 26 (.mv (.t 5)), Oa 27 (.iaddr 1 (.t 25) (.t 26)), Oa 28 (.load (.t 27)), Oa 29 (.bin .lss (.t 28) (.c (.int .i64 1))), Oa 30 (.mv (.t 29)), Oe 31 (.faddr 0 (.t 1)) 30 false, Oe 32 (.load (.t 31)) 30 false, Oe 33 (.mv (.t 5)) 30 false, Oe 34 (.iaddr 1 (.t 32) (.t 33)) 30 false, Oe 35 (.load (.t 34)) 30 false, Oe 36 (.bin .gtr (.t 35) (.c (.int .i64 48))) 30 false, Oa 37 (.pick (.t 30) (.c (.bool true)) (.t 36))]
abbrev qa4v : List SOper := [Oa 38 (.mv (.t 5)), Oc 39 39 [(.c (.int .i64 6)), (.t 38)], Oa 2 (.mv (.c (.int .i64 0))), Ob (.store 2 (.t 3) (.t 39))]
abbrev qa4u : List SOper := [Oa 40 (.mv (.t 4)), Oa 41 (.faddr 0 (.t 1)), Oa 42 (.load (.t 41)), Oa 43 (.mv (.t 5)), Oa 44 (.iaddr 1 (.t 42) (.t 43)), Oa 45 (.load (.t 44)), Oa 46 (.bin .add (.t 40) (.t 45)), Oa 4 (.mv (.t 46))]
abbrev qave : List SOper := [Oa 22 (.mv (.t 5)), Oa 23 (.bin .add (.t 22) (.c (.int .i64 1))), Oa 5 (.mv (.t 23))]
def qakj : SCode := (.seq (.seq (.reg false qa4x [1, 3, 4, 5, 21]) (.cond (.t 21) .skip (.exit 0))) (.seq (.block 1 (.seq (.seq (.reg false qa4w [1, 3, 4, 5, 37]) (.cond (.t 37) (.seq (.reg false qa4v [2, 3]) .ret) .skip)) (.reg false qa4u [1, 3, 4, 5]))) (.reg false qave [1, 3, 4, 5])))
abbrev qavd : List SOper := [Oa 47 (.mv (.t 4)), Oa 48 (.bin .rem (.t 47) (.c (.int .i64 8))), Oa 49 (.bin .neq (.t 48) (.c (.int .i64 0))), Oa 50 (.mv (.t 49)), Oe 51 (.mv (.t 4)) 50 false, Oe 52 (.bin .gtr (.t 51) (.c (.int .i64 256))) 50 false, Oa 53 (.pick (.t 50) (.c (.bool true)) (.t 52))]
abbrev qavc : List SOper := [Oc 54 39 [(.c (.int .i64 6)), (.c (.int .i64 (-1)))], Oa 2 (.mv (.c (.int .i64 0))), Ob (.store 2 (.t 3) (.t 54))]
abbrev qavb : List SOper := [Oa 55 (.mv (.t 4)), Oa 56 (.bin .quo (.t 55) (.c (.int .i64 8))), Oa 57 (.build [(.int .i64 0), (.int .i64 0)] []), Oa 2 (.mv (.t 56)), Ob (.store 2 (.t 3) (.t 57))]
def c_rsize : SCode := (.seq (.reg false qa42 [1, 3]) (.seq (.seq (.reg false qa41 [1, 3, 15]) (.cond (.t 15) (.seq (.reg false qa40 [2, 3]) .ret) .skip)) (.seq (.reg false qa4z [1, 3, 4]) (.seq (.seq (.reg false qa4y [1, 3, 4, 5]) (.block 0 (.loop qakj))) (.seq (.seq (.reg false qavd [3, 4, 53]) (.cond (.t 53) (.seq (.reg false qavc [2, 3]) .ret) .skip)) (.seq (.reg false qavb [2, 3]) .ret))))))
theorem qame : comp Try.prog 58 ((Try.f40.body).getD .skip) = some c_rsize.erase := by kernel_rfl
abbrev c_rF_r1 : List SOper := [Oa 4 (.alloc 45 [(.int .i64 0), (.int .i64 0)])]
abbrev c_rF_r2 : List SOper := [Oa 5 (.mv (.t 0)), Oa 6 (.mv (.t 1)), Oa 7 (.build [(.int .i64 0), (.int .i64 0)] [(0, 1, (.t 5)), (1, 1, (.t 6))]), Ob (.store 2 (.t 4) (.t 7))]
def c_rF : SCode := (.seq (.reg false c_rF_r1 [0, 1, 4]) (.seq (.reg false c_rF_r2 [4]) .ret))
theorem qa9v : comp Try.prog 8 ((Try.f39.body).getD .skip) = some c_rF.erase := by kernel_rfl
end Go.Proofs.Ytnfjldobjgdiaaa
namespace Go.Proofs.Ytnfjldobjgdiaaa
set_option linter.all false
open Go.RowKit
attribute [local simp] qabg qabf qaas qaaz qaat qaay qabd qabe qaao qabn SOp.run SX.ev putd puts argS upds SOp.touch SSt.keep SSt.skip gets geth puth delh idOf SV.cells? setL qac5 qac6 sbin eq0 eq1 eqL qac4 qab1 qab2 qaap qabh qaag qabi qabo qaai qaaq FrzOk qaa9 qaa3 qaa7 qaa8 qaau qaa2 qabl qaa4 qaaw qaba qaav frzS frzH frz frz1 frz0 SlotsM ObjsM ObjM rn ren ren1 ren0 qabu qaca qacf qabt qabm qacg qace CoL qabb qach dels adds idsH qab3
attribute [local simp] nums
theorem qabk : qahc Try.prog 45 = some true := by kernel_rfl
theorem qabc : qab8 Try.prog 45 = some 2 := by kernel_rfl
theorem qai9 {X : Cx} {sl : Sl} {hp : Hp} {t u nx id n : Nat} {ty : TypeId} {cs ds : List SV} {v v' r : SV} (hm : X.m = 0) (hne : t ≠ u) (hv : gets sl t = v') (hvv : v' = v) (hN : NoN v) (hu : gets sl u = .ptr id 0) (h : geth hp id = some (.cells ty cs)) (ha : qahc X.P ty = some true) (hn : qab8 X.P ty = some n) (hl : ds.length = n) (e : CoL cs ds) (hr : r = .tup [v, .agg ds]) (hd : ∀ σ, ds.map (Go.Proofs.Ytnfjldobjgdiaaa.ren σ) = ds) : QFun X [.tmp t, .cell u ty] 0 r [] .ret ⟨sl, hp, nx⟩ := by
 subst hr hl hvv
 have hw : Wk X ⟨sl, hp, nx⟩ ⟨[(t, v'), (u, .ptr 0 0)], [(0, .cells ty ds)], 1⟩ := by
  refine qaah [(0, id)] hm ⟨?_, ?_, trivial⟩ ⟨⟨_, h, rfl, by rw [hd]; exact e⟩, trivial⟩ rfl (by simp)
  ·rw [hv, hN]; exact Co.refl _
  ·rw [hu]; exact Co.refl _
 refine ⟨_, hw, ?_, trivial, by simp⟩
 simp [qa8v, resL, resV, one_, gets, ha, hn, SOp.run, SX.ev, geth, hne]
theorem qaf3 {X : Cx} {sl : Sl} {hp : Hp} {u nx id n : Nat} {ty : TypeId} {cs ds : List SV} {r : SV} (hm : X.m = 0) (hu : gets sl u = .ptr id 0) (h : geth hp id = some (.cells ty cs)) (ha : qahc X.P ty = some true) (hn : qab8 X.P ty = some n) (hl : ds.length = n) (e : CoL cs ds) (hr : r = .agg ds) (hd : ∀ σ, ds.map (Go.Proofs.Ytnfjldobjgdiaaa.ren σ) = ds) : QFun X [.cell u ty] 0 r [] .ret ⟨sl, hp, nx⟩ := by
 subst hr hl
 have hw : Wk X ⟨sl, hp, nx⟩ ⟨[(u, .ptr 0 0)], [(0, .cells ty ds)], 1⟩ := by
  refine qaah [(0, id)] hm ⟨?_, trivial⟩ ⟨⟨_, h, rfl, by rw [hd]; exact e⟩, trivial⟩ rfl (by simp)
  rw [hu]; exact Co.refl _
 refine ⟨_, hw, ?_, trivial, by simp⟩
 simp [qa8v, resL, resV, one_, gets, ha, hn, SOp.run, SX.ev, geth]
theorem rF_s (c a : Int) (q : Nat) : SCalls Try.prog 39 [.int .i64 c, .int .i64 a] [] q (.agg [.int .i64 c, .int .i64 a]) [] := by
 refine qabj ?_ (fun _ => rfl) (fun _ => rfl) rfl q
 refine qaax (N := 8) Try.func39 rfl rfl (by kernel_rfl) qa9v (by simp) (by repeat' (first | exact trivial | refine And.intro ?_ ?_ | rfl | decide | exact PureR.ren _)) (by repeat' (first | exact trivial | refine And.intro ?_ ?_ | rfl | decide | exact PureR.ren _)) ?_
 rintro X hP hN hm
 unfold c_rF
 repeat' (first | (with_reducible refine zA ?_) | ((with_reducible refine qaac ?_); (try rw [hP]); simp -implicitDefEqProofs [*]) | ((with_reducible refine qaam ?_); (try simp only [qaap, qaag, qaai])) | (refine qaf3 hm rfl rfl (by rw [hP]; exact qabk) (by rw [hP]; exact qabc) rfl (CoL.refl _) rfl (fun σ => rfl)) | fail)
def qall (ws : List Int) : SV := .tup [.int .i64 (qapl ws), .agg [.int .i64 (qahe ws), .int .i64 (qa8u ws)]]
theorem qapk {ws : List Int} (h : ws.length = 0 ∨ 8 < ws.length) : qall ws = .tup [.int .i64 0, .agg [.int .i64 2, .int .i64 (-1)]] := by
 have h1 : qahe ws = 2 := by unfold qahe; rw [if_pos h]
 have h2 : qa8u ws = -1 := by unfold qa8u; rw [if_pos h]
 have h3 : qapl ws = 0 := by unfold qapl; rw [h1]; rfl
 unfold qall; rw [h1, h2, h3]
theorem qa02 {ws : List Int} (h : ¬ (ws.length = 0 ∨ 8 < ws.length)) {i : Nat} (ha : ∀ j, j < i → wBad ws j = false) (hi : i < ws.length) (hb : wBad ws i = true) : qall ws = .tup [.int .i64 0, .agg [.int .i64 6, .int .i64 i]] := by
 have e := qa9s (wBad ws) ws.length i ha hb hi
 have h1 : qahe ws = 6 := by unfold qahe; rw [if_neg h, e, if_pos hi]
 have h2 : qa8u ws = i := by unfold qa8u; rw [if_neg h, e, if_pos hi]
 have h3 : qapl ws = 0 := by unfold qapl; rw [h1]; rfl
 unfold qall; rw [h1, h2, h3]
theorem qa01 {ws : List Int} (h : ¬ (ws.length = 0 ∨ 8 < ws.length)) (ha : ∀ j, j < ws.length → wBad ws j = false) : qall ws = if qadl ws ws.length % 8 ≠ 0 ∨ 256 < qadl ws ws.length then .tup [.int .i64 0, .agg [.int .i64 6, .int .i64 (-1)]] else .tup [.int .i64 (qadl ws ws.length / 8), .agg [.int .i64 0, .int .i64 0]] := by
 have e := qaq4 (wBad ws) ws.length ha
 have hc : qahe ws = if qadl ws ws.length % 8 ≠ 0 ∨ 256 < qadl ws ws.length then 6 else 0 := by unfold qahe; rw [if_neg h, e, if_neg (by omega)]
 have hA : qa8u ws = if qadl ws ws.length % 8 ≠ 0 ∨ 256 < qadl ws ws.length then -1 else 0 := by unfold qa8u; rw [if_neg h, e, if_neg (by omega)]
 unfold qall qapl
 by_cases h1 : qadl ws ws.length % 8 ≠ 0 ∨ 256 < qadl ws ws.length
 ·rw [if_pos h1] at hc hA ⊢; rw [hc, hA]; rfl
 ·rw [if_neg h1] at hc hA ⊢; rw [hc, hA]; rfl
theorem qaf6 {ws : List Int} (h : ¬ (ws.length = 0 ∨ 8 < ws.length)) {i : Nat} (ha : ∀ j, j < i → wBad ws j = false) (hi : i ≤ ws.length) : 0 ≤ qadl ws i ∧ qadl ws i ≤ 1000 := by
 have := wSum ha; omega
theorem qbbg (ws : List Int) (q : Nat) : SCalls Try.prog 32 [.agg [nums .i64 ws]] [] q (qall ws) [] := by
 refine qabj ?_ (fun _ => rfl) (fun _ => rfl) rfl q
 refine qaax (N := 49) Try.func32 rfl rfl (by kernel_rfl) qamm (by simp) (by repeat' (first | exact trivial | refine And.intro ?_ ?_ | rfl | decide | exact PureR.ren _)) (by repeat' (first | exact trivial | refine And.intro ?_ ?_ | rfl | decide | exact PureR.ren _)) ?_
 rintro X hP hN hm
 unfold c_psize
 by_cases hh : ws.length = 0 ∨ 8 < ws.length
 ·rw [qapk hh]
  have k0 : ((ws.length : Int) == 0) = decide (ws.length = 0) := by rw [Bool.eq_iff_iff]; simp
  cases k1 : decide (ws.length = 0) <;> rw [k1] at k0
  ·have k2 : decide (8 < (ws.length : Int)) = true := by have := of_decide_eq_false k1; rw [decide_eq_true_eq]; omega
   replace hh := Lib.hid hh
   clear k1
   repeat' (first | (with_reducible refine zA ?_) | ((with_reducible refine qaac ?_); (try rw [hP]); simp -implicitDefEqProofs [*]) | ((with_reducible refine qaam ?_); (try simp only [qaap, qaag, qaai])) | ((with_reducible refine qaaa rfl (fun h => ?_) (fun h => ?_)) <;> have h' := h <;> (try simp at h') <;> (try subst h')) | (refine qai9 hm (by decide) rfl rfl (qafc _ _) rfl rfl (by rw [hP]; exact qabk) (by rw [hP]; exact qabc) rfl (CoL.refl _) rfl (fun σ => rfl)) | fail)
  ·replace hh := Lib.hid hh
   clear k1
   repeat' (first | (with_reducible refine zA ?_) | ((with_reducible refine qaac ?_); (try rw [hP]); simp -implicitDefEqProofs [*]) | ((with_reducible refine qaam ?_); (try simp only [qaap, qaag, qaai])) | ((with_reducible refine qaaa rfl (fun h => ?_) (fun h => ?_)) <;> have h' := h <;> (try simp at h') <;> (try subst h')) | (refine qai9 hm (by decide) rfl rfl (qafc _ _) rfl rfl (by rw [hP]; exact qabk) (by rw [hP]; exact qabc) rfl (CoL.refl _) rfl (fun σ => rfl)) | fail)
 have k0 : ((ws.length : Int) == 0) = false := by rw [beq_eq_false_iff_ne]; omega
 have k1 : decide (8 < (ws.length : Int)) = false := by rw [decide_eq_false_iff_not]; omega
 have hl : ws.length ≤ 8 := by omega
 replace hh := Lib.hid hh
 generalize hF : qall ws = F
 repeat' (first | (with_reducible refine zA ?_) | ((with_reducible refine qaac ?_); (try rw [hP]); simp -implicitDefEqProofs [*]) | ((with_reducible refine qaaf ?_); (try simp -implicitDefEqProofs [*])) | ((with_reducible refine qaaa rfl (fun h => ?_) (fun h => ?_)) <;> have h' := h <;> (try simp at h') <;> (try subst h')) | fail)
 refine qaal (qaa5 (fun s (i : Nat) => s.turn [(4, .int .i64 (qadl ws i)), (21, .int .i64 i)] []) (fun i => i ≤ ws.length ∧ ∀ j, j < i → wBad ws j = false) (fun i => ws.length - i) 0 ?_ ⟨by simp, by simp⟩ ?_)
 ·repeat' (first | ((with_reducible refine qaah [] hm ?_ ?_ ?_ ?_) <;> (try simp only [zT, puth, Nat.reduceEqDiff, reduceIte, Nat.reduceAdd])) | (with_reducible first | refine za ?_ ?_ | refine zb ?_ ?_ ?_ ?_) | (with_reducible first | exact qaab | exact qaad) | ((with_reducible first | refine zga ?_ | refine zgb ?_); rfl) | ((with_reducible refine zgd ?_); (first | omega | (simp; done))) | (exact Co.refl _) | (exact CoL.refl _) | fail)
 rintro J hJ i ⟨h1, h2⟩
 have hsum := qaf6 hh.out h2 h1
 unfold qakt
 simp only [zT, puth, Nat.reduceEqDiff, reduceIte, Nat.reduceAdd] at h1 h2 ⊢
 rcases Nat.lt_or_ge i ws.length with hi | hi
 ·have wi : IntKind.i64.wrap ((i : Int) + 1) = (i : Int) + 1 := qaar (by omega) (by omega)
  have hx : el ws i = ws[i] := by unfold el; simp [hi]
  have hb : wBad ws i = (decide (ws[i] < 1) || decide (48 < ws[i])) := by unfold wBad; rw [hx, Bool.eq_iff_iff]; simp
  have hn : qadl ws (i + 1) = qadl ws i + ws[i] := by rw [← hx]; rfl
  generalize hxx : ws[i] = x at hb hn hx
  cases hbb : wBad ws i
  ·rw [hbb] at hb
   have hb' := Bool.or_eq_false_iff.1 hb.symm
   obtain ⟨v1, v2⟩ := hb'
   have hall : ∀ j, j < i + 1 → wBad ws j = false := fun j hj => by
    rcases Nat.lt_or_ge j i with q | q
    ·exact h2 j q
    ·obtain rfl : j = i := by omega
     exact hbb
   have hsx := qaf6 hh.out hall hi
   rw [hn] at hsx
   have ws1 : IntKind.i64.wrap (qadl ws i + x) = qadl ws (i + 1) := by rw [hn]; exact qaar (by omega) (by omega)
   replace hall := Lib.hid hall
   replace h2 := Lib.hid h2
   clear hb hbb hx hn
   repeat' (first | (with_reducible first | refine zA ?_ | refine qaae ?_) | ((with_reducible refine qaac ?_); (try rw [hP]); simp -implicitDefEqProofs [*]) | ((with_reducible refine qaaf ?_); (try simp -implicitDefEqProofs [*])) | ((with_reducible refine qaaa rfl (fun h => ?_) (fun h => ?_)) <;> have h' := h <;> (try simp at h') <;> (try subst h')) | (with_reducible first | refine za ?_ ?_ | refine zb ?_ ?_ ?_ ?_) | (with_reducible first | exact qaab | exact qaad) | ((with_reducible first | refine zga ?_ | refine zgb ?_); rfl) | ((with_reducible first | refine zgd ?_ | refine zge ?_); (first | omega | (simp; done))) | (exact Co.refl _) | (exact CoL.refl _) | ((refine qaaj hJ (i + 1) ?_ ?_ ?_; (with_reducible refine qaah [] hm ?_ ?_ ?_ ?_) <;> (try simp only [zT, puth, Nat.reduceEqDiff, reduceIte, Nat.reduceAdd]))) | fail)
   exact ⟨by omega, hall.out⟩
  ·have hbad := qa02 hh.out h2 hi hbb
   rw [hF] at hbad
   rw [hbb] at hb
   replace hb := Lib.hid hb
   replace h2 := Lib.hid h2
   replace hbad := Lib.hid hbad
   clear hbb hx hn
   repeat' (first | (with_reducible first | refine zA ?_ | refine qaae ?_) | ((with_reducible refine qaac ?_); (try rw [hP]); simp -implicitDefEqProofs [*]) | ((with_reducible refine qaaf ?_); (try simp -implicitDefEqProofs [*])) | ((with_reducible refine qaam ?_); (try simp only [qaap, qaag, qaai])) | ((with_reducible refine qaaa rfl (fun h => ?_) (fun h => ?_)) <;> have h' := h <;> (try simp at h') <;> (try subst h')) | ((with_reducible refine qaan (fun h => ?_) (fun h => ?_)) <;> have h' := h <;> (try simp at h') <;> (try subst h') <;> simp -implicitDefEqProofs [*]) | (refine qai9 hm (by decide) rfl rfl (qafc _ _) rfl rfl (by rw [hP]; exact qabk) (by rw [hP]; exact qabc) rfl (CoL.refl _) hbad.out (fun σ => rfl)) | fail)
   all_goals (exfalso; have := hb.out; simp_all; omega)
 ·obtain rfl : i = ws.length := by omega
  have hend := qa01 hh.out h2
  rw [hF] at hend
  have t1 : (qadl ws ws.length).tmod 8 = qadl ws ws.length % 8 := Int.tmod_eq_emod_of_nonneg hsum.1
  have t2 : (qadl ws ws.length).tdiv 8 = qadl ws ws.length / 8 := Int.tdiv_eq_ediv_of_nonneg hsum.1
  generalize qadl ws ws.length = S at hend t1 t2 hsum
  have t3 : IntKind.i64.wrap (S % 8) = S % 8 := IntWalk.i64_in _ ⟨by omega, by omega⟩
  have t4 : IntKind.i64.wrap (S / 8) = S / 8 := IntWalk.i64_in _ ⟨by omega, by omega⟩
  replace h2 := Lib.hid h2
  replace hend := Lib.hid hend
  cases k3 : (S % 8 != 0) <;> cases k4 : decide (256 < S)
  all_goals
   repeat' (first | (with_reducible refine zA ?_) | ((with_reducible refine qaac ?_); (try rw [hP]); simp -implicitDefEqProofs [*]) | ((with_reducible first | refine qaaf ?_ | refine qaak ?_); (try simp -implicitDefEqProofs [*])) | ((with_reducible refine qaam ?_); (try simp only [qaap, qaag, qaai])) | ((with_reducible refine qaaa rfl (fun h => ?_) (fun h => ?_)) <;> have h' := h <;> (try simp at h') <;> (try subst h')) | (refine qai9 hm (by decide) rfl rfl (qafc _ _) rfl rfl (by rw [hP]; exact qabk) (by rw [hP]; exact qabc) rfl (CoL.refl _) ?_ (fun σ => rfl)) | fail)
   rw [hend.out]
   simp at k3 k4
   simp [*]
   try omega
theorem qbbb (ws : List Int) (q : Nat) : SCalls Try.prog 40 [.agg [nums .i64 ws]] [] q (qall ws) [] := by
 refine qabj ?_ (fun _ => rfl) (fun _ => rfl) rfl q
 refine qaax (N := 58) Try.func40 rfl rfl (by kernel_rfl) qame (by simp) (by repeat' (first | exact trivial | refine And.intro ?_ ?_ | rfl | decide | exact PureR.ren _)) (by repeat' (first | exact trivial | refine And.intro ?_ ?_ | rfl | decide | exact PureR.ren _)) ?_
 rintro X hP hN hm
 unfold c_rsize
 by_cases hh : ws.length = 0 ∨ 8 < ws.length
 ·rw [qapk hh]
  have k0 : decide ((ws.length : Int) < 1) = decide (ws.length = 0) := decide_eq_decide.2 (by omega)
  cases k1 : decide (ws.length = 0) <;> rw [k1] at k0
  ·have k2 : decide (8 < (ws.length : Int)) = true := by have := of_decide_eq_false k1; rw [decide_eq_true_eq]; omega
   replace hh := Lib.hid hh
   clear k1
   repeat' (first | (with_reducible refine zA ?_) | ((with_reducible refine qaac ?_); (try rw [hP]); simp -implicitDefEqProofs [*]) | ((with_reducible refine qaam ?_); (try simp only [qaap, qaag, qaai])) | ((with_reducible refine qaaa rfl (fun h => ?_) (fun h => ?_)) <;> have h' := h <;> (try simp at h') <;> (try subst h')) | (refine qaa0 (rF_s _ _ _) ?_; simp -implicitDefEqProofs [*]) | (refine qai9 hm (by decide) rfl rfl (qafc _ _) rfl rfl (by rw [hP]; exact qabk) (by rw [hP]; exact qabc) rfl (CoL.refl _) rfl (fun σ => rfl)) | fail)
  ·replace hh := Lib.hid hh
   clear k1
   repeat' (first | (with_reducible refine zA ?_) | ((with_reducible refine qaac ?_); (try rw [hP]); simp -implicitDefEqProofs [*]) | ((with_reducible refine qaam ?_); (try simp only [qaap, qaag, qaai])) | ((with_reducible refine qaaa rfl (fun h => ?_) (fun h => ?_)) <;> have h' := h <;> (try simp at h') <;> (try subst h')) | (refine qaa0 (rF_s _ _ _) ?_; simp -implicitDefEqProofs [*]) | (refine qai9 hm (by decide) rfl rfl (qafc _ _) rfl rfl (by rw [hP]; exact qabk) (by rw [hP]; exact qabc) rfl (CoL.refl _) rfl (fun σ => rfl)) | fail)
 have k0 : decide ((ws.length : Int) < 1) = false := by rw [decide_eq_false_iff_not]; omega
 have k1 : decide (8 < (ws.length : Int)) = false := by rw [decide_eq_false_iff_not]; omega
 have hl : ws.length ≤ 8 := by omega
 replace hh := Lib.hid hh
 generalize hF : qall ws = F
 repeat' (first | (with_reducible refine zA ?_) | ((with_reducible refine qaac ?_); (try rw [hP]); simp -implicitDefEqProofs [*]) | ((with_reducible refine qaaf ?_); (try simp -implicitDefEqProofs [*])) | ((with_reducible refine qaaa rfl (fun h => ?_) (fun h => ?_)) <;> have h' := h <;> (try simp at h') <;> (try subst h')) | fail)
 refine qaal (qaa5 (fun s (i : Nat) => s.turn [(4, .int .i64 (qadl ws i)), (5, .int .i64 i)] []) (fun i => i ≤ ws.length ∧ ∀ j, j < i → wBad ws j = false) (fun i => ws.length - i) 0 ?_ ⟨by simp, by simp⟩ ?_)
 ·repeat' (first | ((with_reducible refine qaah [] hm ?_ ?_ ?_ ?_) <;> (try simp only [zT, puth, Nat.reduceEqDiff, reduceIte, Nat.reduceAdd])) | (with_reducible first | refine za ?_ ?_ | refine zb ?_ ?_ ?_ ?_) | (with_reducible first | exact qaab | exact qaad) | ((with_reducible first | refine zga ?_ | refine zgb ?_); rfl) | ((with_reducible refine zgd ?_); (first | omega | (simp; done))) | (exact Co.refl _) | (exact CoL.refl _) | fail)
 rintro J hJ i ⟨h1, h2⟩
 have hsum := qaf6 hh.out h2 h1
 unfold qakj
 simp only [zT, puth, Nat.reduceEqDiff, reduceIte, Nat.reduceAdd] at h1 h2 ⊢
 rcases Nat.lt_or_ge i ws.length with hi | hi
 ·have wi : IntKind.i64.wrap ((i : Int) + 1) = (i : Int) + 1 := qaar (by omega) (by omega)
  have hx : el ws i = ws[i] := by unfold el; simp [hi]
  have hb : wBad ws i = (decide (ws[i] < 1) || decide (48 < ws[i])) := by unfold wBad; rw [hx, Bool.eq_iff_iff]; simp
  have hn : qadl ws (i + 1) = qadl ws i + ws[i] := by rw [← hx]; rfl
  generalize hxx : ws[i] = x at hb hn hx
  cases hbb : wBad ws i
  ·rw [hbb] at hb
   have hb' := Bool.or_eq_false_iff.1 hb.symm
   obtain ⟨v1, v2⟩ := hb'
   have hall : ∀ j, j < i + 1 → wBad ws j = false := fun j hj => by
    rcases Nat.lt_or_ge j i with q | q
    ·exact h2 j q
    ·obtain rfl : j = i := by omega
     exact hbb
   have hsx := qaf6 hh.out hall hi
   rw [hn] at hsx
   have ws1 : IntKind.i64.wrap (qadl ws i + x) = qadl ws (i + 1) := by rw [hn]; exact qaar (by omega) (by omega)
   replace hall := Lib.hid hall
   replace h2 := Lib.hid h2
   clear hb hbb hx hn
   repeat' (first | (with_reducible first | refine zA ?_ | refine qaae ?_) | ((with_reducible refine qaac ?_); (try rw [hP]); simp -implicitDefEqProofs [*]) | ((with_reducible refine qaaf ?_); (try simp -implicitDefEqProofs [*])) | ((with_reducible refine qaaa rfl (fun h => ?_) (fun h => ?_)) <;> have h' := h <;> (try simp at h') <;> (try subst h')) | (with_reducible first | refine za ?_ ?_ | refine zb ?_ ?_ ?_ ?_) | (with_reducible first | exact qaab | exact qaad) | ((with_reducible first | refine zga ?_ | refine zgb ?_); rfl) | ((with_reducible first | refine zgd ?_ | refine zge ?_); (first | omega | (simp; done))) | (exact Co.refl _) | (exact CoL.refl _) | ((refine qaaj hJ (i + 1) ?_ ?_ ?_; (with_reducible refine qaah [] hm ?_ ?_ ?_ ?_) <;> (try simp only [zT, puth, Nat.reduceEqDiff, reduceIte, Nat.reduceAdd]))) | fail)
   exact ⟨by omega, hall.out⟩
  ·have hbad := qa02 hh.out h2 hi hbb
   rw [hF] at hbad
   rw [hbb] at hb
   replace hb := Lib.hid hb
   replace h2 := Lib.hid h2
   replace hbad := Lib.hid hbad
   clear hbb hx hn
   repeat' (first | (with_reducible first | refine zA ?_ | refine qaae ?_) | ((with_reducible refine qaac ?_); (try rw [hP]); simp -implicitDefEqProofs [*]) | ((with_reducible refine qaaf ?_); (try simp -implicitDefEqProofs [*])) | ((with_reducible refine qaam ?_); (try simp only [qaap, qaag, qaai])) | ((with_reducible refine qaaa rfl (fun h => ?_) (fun h => ?_)) <;> have h' := h <;> (try simp at h') <;> (try subst h')) | ((with_reducible refine qaan (fun h => ?_) (fun h => ?_)) <;> have h' := h <;> (try simp at h') <;> (try subst h') <;> simp -implicitDefEqProofs [*]) | (refine qaa0 (rF_s _ _ _) ?_; simp -implicitDefEqProofs [*]) | (refine qai9 hm (by decide) rfl rfl (qafc _ _) rfl rfl (by rw [hP]; exact qabk) (by rw [hP]; exact qabc) rfl (CoL.refl _) hbad.out (fun σ => rfl)) | fail)
   all_goals (exfalso; have := hb.out; simp_all; omega)
 ·obtain rfl : i = ws.length := by omega
  have hend := qa01 hh.out h2
  rw [hF] at hend
  have t1 : (qadl ws ws.length).tmod 8 = qadl ws ws.length % 8 := Int.tmod_eq_emod_of_nonneg hsum.1
  have t2 : (qadl ws ws.length).tdiv 8 = qadl ws ws.length / 8 := Int.tdiv_eq_ediv_of_nonneg hsum.1
  generalize qadl ws ws.length = S at hend t1 t2 hsum
  have t3 : IntKind.i64.wrap (S % 8) = S % 8 := IntWalk.i64_in _ ⟨by omega, by omega⟩
  have t4 : IntKind.i64.wrap (S / 8) = S / 8 := IntWalk.i64_in _ ⟨by omega, by omega⟩
  replace h2 := Lib.hid h2
  replace hend := Lib.hid hend
  cases k3 : (S % 8 != 0) <;> cases k4 : decide (256 < S)
  all_goals
   repeat' (first | (with_reducible refine zA ?_) | ((with_reducible refine qaac ?_); (try rw [hP]); simp -implicitDefEqProofs [*]) | ((with_reducible first | refine qaaf ?_ | refine qaak ?_); (try simp -implicitDefEqProofs [*])) | ((with_reducible refine qaam ?_); (try simp only [qaap, qaag, qaai])) | ((with_reducible refine qaaa rfl (fun h => ?_) (fun h => ?_)) <;> have h' := h <;> (try simp at h') <;> (try subst h')) | (refine qaa0 (rF_s _ _ _) ?_; simp -implicitDefEqProofs [*]) | (refine qai9 hm (by decide) rfl rfl (qafc _ _) rfl rfl (by rw [hP]; exact qabk) (by rw [hP]; exact qabc) rfl (CoL.refl _) ?_ (fun σ => rfl)) | fail)
   rw [hend.out]
   simp at k3 k4
   simp [*]
   try omega
end Go.Proofs.Ytnfjldobjgdiaaa
namespace Go.Proofs.Ytnfjldobjgdiaaa
set_option linter.all false
open Go.RowKit
attribute [local simp] qabg qabf qaas qaaz qaat qaay qabd qabe qaao qabn SOp.run SX.ev putd puts argS upds SOp.touch SSt.keep SSt.skip gets geth puth delh idOf SV.cells? setL qac5 qac6 sbin eq0 eq1 eqL qac4 qab1 qab2 qaap qabh qaag qabi qabo qaai qaaq FrzOk qaa9 qaa3 qaa7 qaa8 qaau qaa2 qabl qaa4 qaaw qaba qaav frzS frzH frz frz1 frz0 SlotsM ObjsM ObjM rn ren ren1 ren0 qabu qaca qacf qabt qabm qacg qace CoL qabb qach dels adds idsH qab3
attribute [local simp] qads refc qae3 qaet qacc opc actc tabc qad7 qacu nums jc
theorem qac8 {f g : Int × Int} (h : (orF f g).1 = 0) : f.1 = 0 ∧ g.1 = 0 := by
 unfold orF at h
 by_cases h1 : f.1 = 0
 ·by_cases h2 : g.1 = 0
  ·exact ⟨h1, h2⟩
  ·simp [h1, h2] at h
 ·simp [h1] at h
theorem qaf8 {α : Type} {f : α → Int} {b : Int} : ∀ {l : List α} {i : Nat}, (rowF (fun _ x => f x) b i l).1 = 0 → ∀ x ∈ l, f x = 0
 | [], _, _, x, hx => by cases hx
 | y :: l, i, h, x, hx => by
  unfold rowF at h
  by_cases h1 : f y = 0
  ·rw [if_neg (by simpa using h1)] at h
   rcases List.mem_cons.1 hx with e | e
   ·rw [e]; exact h1
   ·exact qaf8 h x e
  ·rw [if_pos h1] at h; exact absurd h h1
theorem qaic {α : Type} {f : Nat → α → Int} {b : Int} : ∀ {l : List α} {i : Nat}, (rowF f b i l).1 = 0 → rowF f b i l = (0, 0)
 | [], _, _ => rfl
 | y :: l, i, h => by
  unfold rowF at h ⊢
  by_cases h1 : f i y ≠ 0
  ·rw [if_pos h1] at h; exact absurd h h1
  ·rw [if_neg h1] at h ⊢; exact qaic h
theorem qbci {f g : Int × Int} (h : (orF f g).1 = 0) : orF f g = f := by
 obtain ⟨h1, h2⟩ := qac8 h
 unfold orF; simp [h1, h2]
theorem qa9a {f g : Int × Int} (h : f.1 = 0 → f = (0, 0)) : orF (0, 0) (orF f g) = orF f g := by
 unfold orF
 by_cases h1 : f.1 = 0
 ·by_cases h2 : g.1 = 0 <;> simp [h1, h2, h h1]
 ·simp [h1]
theorem qaq2 {p : PlanD} (h : (qafp p).1 = 0) : qafp p = (0, 0) := by
 unfold qafp at h ⊢
 rw [qbci h]
 have := (qac8 h).1
 unfold qapu at this ⊢
 by_cases hc : decide (6 < p.heads.length) = true
 ·rw [if_pos hc] at this; exact absurd this (by decide)
 ·rw [if_neg hc]
theorem qahh (p : PlanD) : orF (0, 0) (qafk p) = qafk p := by
 unfold qafk; exact qa9a qaq2
theorem el_in {l : List Int} {k : Nat} (h : k < l.length) : el l k ∈ l := by
 unfold el; simp [h]
theorem pick_in {l : List Int} {f : Int} (h : qa1g l f ≠ 0) : qa1g l f ∈ l := by
 unfold qa1g at h ⊢
 by_cases h1 : f < 0 ∨ (l.length : Int) ≤ f
 ·rw [if_pos h1] at h; exact absurd rfl h
 ·rw [if_neg h1] at h ⊢; exact el_in (by omega)
theorem qbbq {p : PlanD} (h : (qafp p).1 = 0) : ∀ x ∈ p.heads, qahe x.w = 0 := fun x hx => qaf8 (qac8 h).2 x hx
theorem qbby {l : List Int} (h : ∀ x ∈ l, 1 ≤ x ∧ x ≤ 48) (f : Int) : 0 ≤ qa1g l f ∧ qa1g l f ≤ 48 := by
 by_cases h0 : qa1g l f = 0
 ·omega
 ·have := h _ (pick_in h0); omega
theorem qbb6 {ws : List Int} (h : qahe ws = 0) : ∀ x ∈ ws, 1 ≤ x ∧ x ≤ 48 := fun x hx => by
 obtain ⟨i, hi, rfl⟩ := List.getElem_of_mem hx
 have := wOk ((qapi h).2.2.1 i hi)
 have e : el ws i = ws[i] := by unfold el; simp [hi]
 rw [e] at this; exact this
theorem qba6 {l : List Int} (h : ∀ x ∈ l, wOut x = false) : ∀ x ∈ l, 1 ≤ x ∧ x ≤ 48 := fun x hx => by
 have := h x hx
 unfold wOut at this; rw [Bool.or_eq_false_iff, decide_eq_false_iff_not, decide_eq_false_iff_not] at this; omega
theorem pw_of {p : PlanD} (h1 : (qafp p).1 = 0) (h2 : (qa0l p).1 = 0) : PW p := fun r => by
 have hm : ∀ x ∈ p.meta_, 1 ≤ x ∧ x ≤ 48 := qba6 fun x hx => by
  have := qaf8 (qac8 h2).2 x hx
  cases e : wOut x
  ·rfl
  ·rw [e] at this; exact absurd this (by decide)
 unfold qabw
 refine qbby ?_ _
 unfold qaqw
 split
 ·simp
 split
 ·exact hm
 split
 ·simp
 split
 ·rename_i hh
  unfold headW
  rw [List.getElem?_eq_getElem (by omega : r.h.toNat < p.heads.length)]
  exact qbb6 (qbbq h1 _ (List.getElem_mem _))
 ·simp
theorem aw_of {p : PlanD} (h : (qag7 p).1 = 0) : AW p.acts := fun a ha w hw => by
 have := qaf8 (qac8 h).2 a ha
 unfold actF at this
 by_cases h1 : 3 < a.w.length ∨ 5 < a.ops.length
 ·rw [if_pos h1] at this; exact absurd this (by decide)
 ·rw [if_neg h1] at this
  by_cases h2 : a.w.any wOut = true
  ·rw [if_pos h2] at this; exact absurd this (by decide)
  ·have h3 : ∀ x ∈ a.w, wOut x = false := fun x hx => by
    cases e : wOut x
    ·rfl
    ·exact absurd (List.any_eq_true.2 ⟨x, hx, e⟩) h2
   have := qba6 h3 w hw; omega
theorem qbbi (a b c at_ : Int) : orF (a, b) (c, at_) = qab9 a b (c != 0) c at_ := by
 rw [← qaiu]; unfold qadn
 congr 1; rw [Bool.eq_iff_iff]; simp
theorem qamy (p : PlanD) (hp : PW p) (hs : SmallP p) (hk : qair p) (a b : Int) (id q : Nat) (h : id < q) : SCalls Try.prog 33 [.ptr id 0] [(id, .cells 78 (jc p a b))] q (.tup []) [(id, .cells 78 (jc p (orF (a, b) (qada p)).1 (orF (a, b) (qada p)).2))] :=
 qacy (qa9p p hp hs hk a b) (fun _ => rfl) (fun _ => rfl) (fun _ => rfl) rfl (fun _ => rfl) rfl id q h
theorem qa2b (p : PlanD) (hp : PW p) (hs : SmallP p) (a b : Int) (id q : Nat) (h : id < q) : SCalls Try.prog 34 [.ptr id 0] [(id, .cells 78 (jc p a b))] q (.tup []) [(id, .cells 78 (jc p (orF (a, b) (qag7 p)).1 (orF (a, b) (qag7 p)).2))] :=
 qacy (jacts_s p hp hs a b) (fun _ => rfl) (fun _ => rfl) (fun _ => rfl) rfl (fun _ => rfl) rfl id q h
theorem qa2a (p : PlanD) (hs : SmallP p) (a b : Int) (ha : a = 0 → AW p.acts) (id q : Nat) (h : id < q) : SCalls Try.prog 35 [.ptr id 0] [(id, .cells 78 (jc p a b))] q (.tup []) [(id, .cells 78 (jc p (orF (a, b) (qaf5 p)).1 (orF (a, b) (qaf5 p)).2))] :=
 qacy (jtabs_s p hs a b ha) (fun _ => rfl) (fun _ => rfl) (fun _ => rfl) rfl (fun _ => rfl) rfl id q h
theorem qarg (p : PlanD) (hs : SmallP p) (a b : Int) (id q : Nat) (h : id < q) : SCalls Try.prog 36 [.ptr id 0] [(id, .cells 78 (jc p a b))] q (.tup []) [(id, .cells 78 (jc p (orF (a, b) (qadc p)).1 (orF (a, b) (qadc p)).2))] :=
 qacy (qbc0 p hs a b) (fun _ => rfl) (fun _ => rfl) (fun _ => rfl) rfl (fun _ => rfl) rfl id q h
def qah2 : SCode := (.seq (.reg false qah3 [1, 2, 3]) (.seq (.seq (.reg false qag2 [1, 2, 3, 59, 60, 61]) (.block 2 (.loop qafv))) (.seq (.seq (.reg false qag1 [1, 2, 3, 82]) (.cond (.t 82) (.seq (.reg false qag0 [2]) .ret) .skip)) (.seq (.reg false qae2 [1, 2, 3]) (.seq (.reg false qae1 [1, 2, 3]) (.seq (.reg false qae0 [1, 2, 3]) (.seq (.reg false qaez [1, 2, 3]) (.seq (.reg false qaey [1, 2, 3]) (.seq (.seq (.reg false qaex [1, 2, 3, 9]) (.block 4 (.loop qaeo))) (.seq (.reg false qad5 [2]) .ret))))))))))
def qah1 : SCode := (.seq (.reg false qae2 [1, 2, 3]) (.seq (.reg false qae1 [1, 2, 3]) (.seq (.reg false qae0 [1, 2, 3]) (.seq (.reg false qaez [1, 2, 3]) (.seq (.reg false qaey [1, 2, 3]) (.seq (.seq (.reg false qaex [1, 2, 3, 9]) (.block 4 (.loop qaeo))) (.seq (.reg false qad5 [2]) .ret)))))))
def qah0 : SCode := (.seq (.reg false qad5 [2]) .ret)
set_option maxHeartbeats 8000000 in
theorem qbcg (p : PlanD) (hs : SmallP p) (hk : qair p) (q : Nat) : SCalls Try.prog 17 [.agg (qacu p)] [] q (.agg [.int .i64 (qafk p).1, .int .i64 (qafk p).2]) [] := by
 refine qabj ?_ (fun _ => rfl) (fun _ => rfl) rfl q
 refine qaax (N := 143) Try.func17 rfl rfl (by kernel_rfl) qajq (by simp) (by repeat' (first | exact trivial | refine And.intro ?_ ?_ | rfl | decide | exact PureR.ren _)) (by repeat' (first | exact trivial | refine And.intro ?_ ?_ | rfl | decide | exact PureR.ren _)) ?_
 rintro X hP hN hm
 rw [← qahh]
 have hF1 : orF (0, 0) (qafp p) = orF (qab9 0 0 (decide (6 < (p.heads.length : Int))) 2 (-1)) (rowF (fun _ h => qahe h.w) 1000 0 p.heads) := by
  unfold qafp; rw [qad3]; congr 3; exact propext (by omega)
 have hF0 : orF (0, 0) (qafk p) = orF (orF (orF (0, 0) (qafp p)) (qa0l p)) (orF (qada p) (orF (qag7 p) (orF (qaf5 p) (orF (qadc p) (qafl p))))) := by
  unfold qafk; simp only [qade]
 have hPW : (orF (orF (0, 0) (qafp p)) (qa0l p)).1 = 0 → PW p := fun h => pw_of (qac8 (qac8 h).1).2 (qac8 h).2
 generalize orF (0, 0) (qafk p) = F at hF0
 obtain ⟨⟨e1, g1⟩, hE1⟩ : ∃ z, orF (0, 0) (qafp p) = z := ⟨_, rfl⟩
 rw [hE1] at hF0 hPW hF1
 have hF2 : orF (e1, g1) (qa0l p) = orF (qab9 e1 g1 (decide (4 < (p.meta_.length : Int))) 2 (-2)) (rowF (fun _ w => if wOut w then 6 else 0) 2000 0 p.meta_) := by
  unfold qa0l; rw [qad3]; congr 3; exact propext (by omega)
 obtain ⟨⟨e2, g2⟩, hE2⟩ : ∃ z, orF (e1, g1) (qa0l p) = z := ⟨_, rfl⟩
 rw [hE2] at hF0 hPW hF2
 have hl1 := hs.heads
 have hl2 := hs.metas
 have hl3 := hs.outs
 clear hE1 hE2
 replace hF0 := Lib.hid hF0
 replace hPW := Lib.hid hPW
 replace hF1 := Lib.hid hF1
 replace hF2 := Lib.hid hF2
 have rest4 : ∀ e g, (e, g) = F → SWp X qah0 (QFun X [ResultVar.cell 2 45] 0 (.agg [.int .i64 F.1, .int .i64 F.2]) []) ⟨[(1, .ptr 0 0), (2, .ptr 1 0), (3, .ptr 4 0)], [(0, .cells 29 (qacu p)), (1, .cells 45 [.int .i64 0, .int .i64 0]), (4, .cells 78 (jc p e g))], 5⟩ := fun e g he => by
  unfold qah0
  repeat' (first | (with_reducible refine zA ?_) | ((with_reducible refine qaac ?_); (try rw [hP]); simp -implicitDefEqProofs [*]) | ((with_reducible refine qaam ?_); (try simp only [qaap, qaag, qaai])) | (refine qaf3 hm rfl rfl (by rw [hP]; exact qabk) (by rw [hP]; exact qabc) rfl (CoL.refl _) (by rw [← he]) (fun σ => rfl)) | fail)
 have rest3 : e2 = 0 → SWp X qah1 (QFun X [ResultVar.cell 2 45] 0 (.agg [.int .i64 F.1, .int .i64 F.2]) []) ⟨[(1, .ptr 0 0), (2, .ptr 1 0), (3, .ptr 4 0)], [(0, .cells 29 (qacu p)), (1, .cells 45 [.int .i64 0, .int .i64 0]), (4, .cells 78 (jc p e2 g2))], 5⟩ := fun he => by
  have hpw := hPW.out he
  subst he
  have hF := hF0.out
  obtain ⟨⟨e3, g3⟩, hE3⟩ : ∃ z, orF (0, g2) (qada p) = z := ⟨_, rfl⟩
  obtain ⟨⟨e4, g4⟩, hE4⟩ : ∃ z, orF (e3, g3) (qag7 p) = z := ⟨_, rfl⟩
  obtain ⟨⟨e5, g5⟩, hE5⟩ : ∃ z, orF (e4, g4) (qaf5 p) = z := ⟨_, rfl⟩
  obtain ⟨⟨e6, g6⟩, hE6⟩ : ∃ z, orF (e5, g5) (qadc p) = z := ⟨_, rfl⟩
  have c3 := fun id q h => qamy p hpw hs hk 0 g2 id q h
  have c4 := fun id q h => qa2b p hpw hs e3 g3 id q h
  have c5 := fun id q h => qa2a p hs e4 g4 (fun hz => aw_of (qac8 (f := (e3, g3)) (by rw [hE4]; exact hz)).2) id q h
  have c6 := fun id q h => qarg p hs e5 g5 id q h
  rw [hE3] at c3
  rw [hE4] at c4
  rw [hE5] at c5
  rw [hE6] at c6
  rw [← qade, hE3, ← qade, hE4, ← qade, hE5, ← qade, hE6] at hF
  have hF7 : orF (e6, g6) (qafl p) = orF (qab9 e6 g6 (decide (6 < (p.out.length : Int))) 2 (-7)) (rowF (fun i o => outF p i o) 7000 0 p.out) := by
   unfold qafl; rw [qad3]; congr 3; exact propext (by omega)
  rw [hF7] at hF
  clear hE3 hE4 hE5 hE6 hF7
  replace hF := Lib.hid hF
  replace hpw := Lib.hid hpw
  replace rest4 := Lib.hid rest4
  replace c3 := Lib.hid c3
  replace c4 := Lib.hid c4
  replace c5 := Lib.hid c5
  replace c6 := Lib.hid c6
  unfold qah1
  repeat' (first | (with_reducible refine zA ?_) | ((with_reducible refine qaac ?_); (try rw [hP]); simp -implicitDefEqProofs [*]) | ((first | refine qaby (qaa6 p _ _ _ _ _ _ _ (by simp)) ⟨rfl, trivial⟩ ⟨rfl, trivial⟩ ?_ | refine qaby (c3.out _ _ (by simp)) ⟨rfl, trivial⟩ ⟨rfl, trivial⟩ ?_ | refine qaby (c4.out _ _ (by simp)) ⟨rfl, trivial⟩ ⟨rfl, trivial⟩ ?_ | refine qaby (c5.out _ _ (by simp)) ⟨rfl, trivial⟩ ⟨rfl, trivial⟩ ?_ | refine qaby (c6.out _ _ (by simp)) ⟨rfl, trivial⟩ ⟨rfl, trivial⟩ ?_); simp -implicitDefEqProofs [*]) | fail)
  refine qaal (qaa5 (fun s (x : Nat × Int × Int) => s.turn [(9, .int .i64 x.1)] [(4, .cells 78 (jc p x.2.1 x.2.2))]) (fun x => x.1 ≤ p.out.length ∧ F = orF (x.2.1, x.2.2) (rowF (fun i o => outF p i o) 7000 x.1 (p.out.drop x.1))) (fun x => p.out.length - x.1) (0, _, _) ?_ ⟨by simp, hF.out⟩ ?_)
  ·repeat' (first | ((with_reducible refine qaah [] hm ?_ ?_ ?_ ?_) <;> (try simp only [zT, puth, Nat.reduceEqDiff, reduceIte, Nat.reduceAdd])) | (with_reducible first | refine za ?_ ?_ | refine zb ?_ ?_ ?_ ?_) | (with_reducible first | exact qaab | exact qaad) | ((with_reducible first | refine zga ?_ | refine zgb ?_); rfl) | ((with_reducible refine zgd ?_); (first | omega | (simp; done))) | (exact Co.refl _) | (exact CoL.refl _) | fail)
  rintro J hJ ⟨i, e, g⟩ ⟨h1, h2⟩
  unfold qaeo
  simp only [zT, puth, Nat.reduceEqDiff, reduceIte, Nat.reduceAdd] at h1 h2 ⊢
  rcases Nat.lt_or_ge i p.out.length with hi | hi
  ·rw [qadd _ _ hi] at h2
   have hct := fun q => qagt (p.out.take i) p.out[i] (by rw [List.length_take]; omega) q
   simp only [nums, List.map_take] at hct
   generalize hxx : p.out[i] = x at h2 hct
   by_cases he : e = 0
   ·subst he
    have hA : orF (0, g) (outF p i x, 7000 + (i : Int)) = qab9 (qab9 0 g (!qacz p x) 1 (7000 + (i : Int))).1 (qab9 0 g (!qacz p x) 1 (7000 + (i : Int))).2 ((p.out.take i).contains x) 7 (7000 + (i : Int)) := by
     have : outF p i x = if (!qacz p x) = true then 1 else if (p.out.take i).contains x = true then 7 else 0 := by
      unfold outF; cases qacz p x <;> rfl
     rw [this, qacp _ _ _ _ _ _ (by decide)]
     refine (qacp _ _ _ _ _ _ (by decide)).trans ?_
     exact qacj _ rfl
    rw [qad8, hA] at h2
    generalize (p.out.take i).contains x = C at h2 hct
    have wi : IntKind.i64.wrap ((i : Int) + 1) = (i : Int) + 1 := qaar (by omega) (by omega)
    have wa : IntKind.i64.wrap (7000 + (i : Int)) = 7000 + (i : Int) := qaar (by omega) (by omega)
    have hi' := Nat.le_of_lt hi
    clear hA
    replace h2 := Lib.hid h2
    replace hct := Lib.hid hct
    repeat' (first | (with_reducible first | refine zA ?_ | refine qaae ?_ | refine zK ?_) | ((with_reducible first | refine qaac ?_ | refine qaa1 (by rw [hP]; exact qacx) ?_); (try rw [hP]); simp -implicitDefEqProofs [*]) | ((with_reducible refine qaaf ?_); (try simp -implicitDefEqProofs [*])) | ((with_reducible refine qaaa rfl (fun h => ?_) (fun h => ?_)) <;> have h' := h <;> (try simp at h') <;> (try subst h')) | ((first | refine qaby (qaa6 p _ _ _ _ _ _ _ (by simp)) ⟨rfl, trivial⟩ ⟨rfl, trivial⟩ ?_ | refine qaby (qagv p _ _ _ _ _ _ (by simp)) ⟨rfl, trivial⟩ ⟨rfl, trivial⟩ ?_ | refine qaa0 (hct.out _) ?_); simp -implicitDefEqProofs [*]) | (with_reducible first | refine za ?_ ?_ | refine zb ?_ ?_ ?_ ?_) | (with_reducible first | exact qaab | exact qaad) | ((with_reducible first | refine zga ?_ | refine zgb ?_); rfl) | ((with_reducible first | refine zgd ?_ | refine zge ?_); (first | omega | (simp; done))) | (exact Co.refl _) | (exact CoL.refl _) | ((refine qaaj hJ (i + 1, ?_, ?_) ?_ ?_ ?_; rotate_left 2; (with_reducible refine qaah [] hm ?_ ?_ ?_ ?_) <;> (try simp only [zT, puth, Nat.reduceEqDiff, reduceIte, Nat.reduceAdd]))) | fail)
    all_goals (try dsimp only)
    all_goals (exact ⟨by omega, h2.out⟩)
   ·rw [qafb he] at h2
    have r4 := rest4.out e g h2.symm
    have ke : (e == 0) = false := by simpa using he
    replace r4 := Lib.hid r4
    clear h2
    repeat' (first | ((refine qac9 ?_ r4.out)) | (with_reducible refine zA ?_) | ((with_reducible refine qaac ?_); (try rw [hP]); simp -implicitDefEqProofs [*]) | ((with_reducible refine qaak ?_); (try simp -implicitDefEqProofs [*])) | ((with_reducible refine qaaa rfl (fun h => ?_) (fun h => ?_)) <;> have h' := h <;> (try simp at h') <;> (try subst h')) | ((with_reducible refine qaah [] hm ?_ ?_ ?_ ?_) <;> (try simp only [zT, puth, Nat.reduceEqDiff, reduceIte, Nat.reduceAdd])) | (with_reducible first | refine za ?_ ?_ | refine zb ?_ ?_ ?_ ?_) | (with_reducible first | exact qaab | exact qaad) | ((with_reducible first | refine zga ?_ | refine zgb ?_); rfl) | ((with_reducible refine zgd ?_); (first | omega | (simp; done))) | (exact Co.refl _) | (exact CoL.refl _) | fail)
  ·obtain rfl : i = p.out.length := by omega
   rw [List.drop_length, qacj _ rfl] at h2
   have r4 := rest4.out e g h2.symm
   replace r4 := Lib.hid r4
   clear h2
   repeat' (first | ((refine qac9 ?_ r4.out)) | (with_reducible refine zA ?_) | ((with_reducible refine qaac ?_); (try rw [hP]); simp -implicitDefEqProofs [*]) | ((with_reducible refine qaak ?_); (try simp -implicitDefEqProofs [*])) | ((with_reducible refine qaaa rfl (fun h => ?_) (fun h => ?_)) <;> have h' := h <;> (try simp at h') <;> (try subst h')) | ((with_reducible refine qaah [] hm ?_ ?_ ?_ ?_) <;> (try simp only [zT, puth, Nat.reduceEqDiff, reduceIte, Nat.reduceAdd])) | (with_reducible first | refine za ?_ ?_ | refine zb ?_ ?_ ?_ ?_) | (with_reducible first | exact qaab | exact qaad) | ((with_reducible first | refine zga ?_ | refine zgb ?_); rfl) | ((with_reducible refine zgd ?_); (first | omega | (simp; done))) | (exact Co.refl _) | (exact CoL.refl _) | fail)
 have rest1 : SWp X qah2 (QFun X [ResultVar.cell 2 45] 0 (.agg [.int .i64 F.1, .int .i64 F.2]) []) ⟨[(1, .ptr 0 0), (2, .ptr 1 0), (3, .ptr 4 0)], [(0, .cells 29 (qacu p)), (1, .cells 45 [.int .i64 0, .int .i64 0]), (4, .cells 78 (jc p e1 g1))], 5⟩ := by
  unfold qah2
  replace rest4 := Lib.hid rest4
  replace rest3 := Lib.hid rest3
  repeat' (first | (with_reducible refine zA ?_) | ((with_reducible refine qaac ?_); (try rw [hP]); simp -implicitDefEqProofs [*]) | (refine qaby (qaa6 p _ _ _ _ _ _ _ (by simp)) ⟨rfl, trivial⟩ ⟨rfl, trivial⟩ ?_; simp -implicitDefEqProofs [*]) | fail)
  refine qaal (qaa5 (fun s (x : Nat × Int × Int) => s.turn [(61, .int .i64 x.1)] [(4, .cells 78 (jc p x.2.1 x.2.2))]) (fun x => x.1 ≤ p.meta_.length ∧ (e2, g2) = orF (x.2.1, x.2.2) (rowF (fun _ w => if wOut w then 6 else 0) 2000 x.1 (p.meta_.drop x.1))) (fun x => p.meta_.length - x.1) (0, _, _) ?_ ⟨by simp, hF2.out⟩ ?_)
  ·repeat' (first | ((with_reducible refine qaah [] hm ?_ ?_ ?_ ?_) <;> (try simp only [zT, puth, Nat.reduceEqDiff, reduceIte, Nat.reduceAdd])) | (with_reducible first | refine za ?_ ?_ | refine zb ?_ ?_ ?_ ?_) | (with_reducible first | exact qaab | exact qaad) | ((with_reducible first | refine zga ?_ | refine zgb ?_); rfl) | ((with_reducible refine zgd ?_); (first | omega | (simp; done))) | (exact Co.refl _) | (exact CoL.refl _) | fail)
  rintro J hJ ⟨i, e, g⟩ ⟨h1, h2⟩
  unfold qafv
  simp only [zT, puth, Nat.reduceEqDiff, reduceIte, Nat.reduceAdd] at h1 h2 ⊢
  rcases Nat.lt_or_ge i p.meta_.length with hi | hi
  ·rw [qadd _ _ hi] at h2
   generalize hxx : p.meta_[i] = x at h2
   rw [qad8, qbbi e g] at h2
   have wi : IntKind.i64.wrap ((i : Int) + 1) = (i : Int) + 1 := qaar (by omega) (by omega)
   have wa : IntKind.i64.wrap (2000 + (i : Int)) = 2000 + (i : Int) := qaar (by omega) (by omega)
   have hfx : ∀ b, wOut x = b → qab9 e g ((if wOut x = true then (6 : Int) else 0) != 0) (if wOut x = true then (6 : Int) else 0) (2000 + (i : Int)) = qab9 e g b 6 (2000 + (i : Int)) := fun b hb => by
    rw [hb]; cases b <;> simp [qab9]
   replace h2 := Lib.hid h2
   replace hfx := Lib.hid hfx
   repeat' (first | (with_reducible first | refine zA ?_ | refine qaae ?_) | ((with_reducible refine qaac ?_); (try rw [hP]); simp -implicitDefEqProofs [*]) | ((with_reducible refine qaaf ?_); (try simp -implicitDefEqProofs [*])) | ((with_reducible refine qaaa rfl (fun h => ?_) (fun h => ?_)) <;> have h' := h <;> (try simp at h') <;> (try subst h')) | ((with_reducible refine qaan (fun h => ?_) (fun h => ?_)) <;> have h' := h <;> (try simp at h') <;> (try subst h') <;> simp -implicitDefEqProofs [*]) | (refine qaby (qaa6 p _ _ _ _ _ _ _ (by simp)) ⟨rfl, trivial⟩ ⟨rfl, trivial⟩ ?_; simp -implicitDefEqProofs [*]) | (with_reducible first | refine za ?_ ?_ | refine zb ?_ ?_ ?_ ?_) | (with_reducible first | exact qaab | exact qaad) | ((with_reducible first | refine zga ?_ | refine zgb ?_); rfl) | ((with_reducible first | refine zgd ?_ | refine zge ?_); (first | omega | (simp; done))) | (exact Co.refl _) | (exact CoL.refl _) | ((refine qaaj hJ (i + 1, ?_, ?_) ?_ ?_ ?_; rotate_left 2; (with_reducible refine qaah [] hm ?_ ?_ ?_ ?_) <;> (try simp only [zT, puth, Nat.reduceEqDiff, reduceIte, Nat.reduceAdd]))) | fail)
   all_goals (try dsimp only)
   all_goals (refine ⟨by omega, ?_⟩; rw [h2.out, hfx.out _ rfl]; congr 2; simp [wOut, *])
  ·obtain rfl : i = p.meta_.length := by omega
   rw [List.drop_length, qacj _ rfl] at h2
   have q1 : e = e2 := (Prod.mk.inj h2).1.symm
   have q2 : g = g2 := (Prod.mk.inj h2).2.symm
   subst q1 q2
   clear h2
   replace hF2 := Lib.hid hF2
   by_cases he : e = 0
   ·have r3 := rest3.out he
    subst he
    replace r3 := Lib.hid r3
    repeat' (first | ((refine qac9 ?_ r3.out)) | (with_reducible refine zA ?_) | ((with_reducible refine qaac ?_); (try rw [hP]); simp -implicitDefEqProofs [*]) | ((with_reducible first | refine qaaf ?_ | refine qaak ?_); (try simp -implicitDefEqProofs [*])) | ((with_reducible refine qaaa rfl (fun h => ?_) (fun h => ?_)) <;> have h' := h <;> (try simp at h') <;> (try subst h')) | ((with_reducible refine qaah [] hm ?_ ?_ ?_ ?_) <;> (try simp only [zT, puth, Nat.reduceEqDiff, reduceIte, Nat.reduceAdd])) | (with_reducible first | refine za ?_ ?_ | refine zb ?_ ?_ ?_ ?_) | (with_reducible first | exact qaab | exact qaad) | ((with_reducible first | refine zga ?_ | refine zgb ?_); rfl) | ((with_reducible refine zgd ?_); (first | omega | (simp; done))) | (exact Co.refl _) | (exact CoL.refl _) | fail)
   ·have ke : (e != 0) = true := by simpa using he
    have hfin : F = (e, g) := by rw [hF0.out]; exact qafb he _
    replace hfin := Lib.hid hfin
    repeat' (first | (with_reducible refine zA ?_) | ((with_reducible refine qaac ?_); (try rw [hP]); simp -implicitDefEqProofs [*]) | ((with_reducible refine qaak ?_); (try simp -implicitDefEqProofs [*])) | ((with_reducible refine qaam ?_); (try simp only [qaap, qaag, qaai])) | ((with_reducible refine qaaa rfl (fun h => ?_) (fun h => ?_)) <;> have h' := h <;> (try simp at h') <;> (try subst h')) | (refine qaf3 hm rfl rfl (by rw [hP]; exact qabk) (by rw [hP]; exact qabc) rfl (CoL.refl _) (by rw [hfin.out]) (fun σ => rfl)) | fail)
 unfold c_pcheck
 replace rest1 := Lib.hid rest1
 clear rest3 rest4
 repeat' (first | (with_reducible refine zA ?_) | ((with_reducible refine qaac ?_); (try rw [hP]); simp -implicitDefEqProofs [*]) | (refine qaby (qaa6 p _ _ _ _ _ _ _ (by simp)) ⟨rfl, trivial⟩ ⟨rfl, trivial⟩ ?_; simp -implicitDefEqProofs [*]) | fail)
 refine qaal (qaa5 (fun s (x : Nat × Int × Int) => s.turn [(4, .int .i64 x.1)] [(4, .cells 78 (jc p x.2.1 x.2.2))]) (fun x => x.1 ≤ p.heads.length ∧ (e1, g1) = orF (x.2.1, x.2.2) (rowF (fun _ h => qahe h.w) 1000 x.1 (p.heads.drop x.1))) (fun x => p.heads.length - x.1) (0, _, _) ?_ ⟨by simp, hF1.out⟩ ?_)
 ·repeat' (first | ((with_reducible refine qaah [] hm ?_ ?_ ?_ ?_) <;> (try simp only [zT, puth, Nat.reduceEqDiff, reduceIte, Nat.reduceAdd])) | (with_reducible first | refine za ?_ ?_ | refine zb ?_ ?_ ?_ ?_) | (with_reducible first | exact qaab | exact qaad) | ((with_reducible first | refine zga ?_ | refine zgb ?_); rfl) | ((with_reducible refine zgd ?_); (first | omega | (simp; done))) | (exact Co.refl _) | (exact CoL.refl _) | fail)
 rintro J hJ ⟨i, e, g⟩ ⟨h1, h2⟩
 unfold qah4
 simp only [zT, puth, Nat.reduceEqDiff, reduceIte, Nat.reduceAdd] at h1 h2 ⊢
 have stop : ∀ h : (e1, g1) = (e, g), e = e1 ∧ g = g1 := fun h => ⟨(Prod.mk.inj h).1.symm, (Prod.mk.inj h).2.symm⟩
 rcases Nat.lt_or_ge i p.heads.length with hi | hi
 ·rw [qadd _ _ hi] at h2
  generalize hxx : p.heads[i] = x at h2
  by_cases he : e = 0
  ·subst he
   rw [qad8, qbbi 0 g (qahe x.w)] at h2
   have wi : IntKind.i64.wrap ((i : Int) + 1) = (i : Int) + 1 := qaar (by omega) (by omega)
   have wa : IntKind.i64.wrap (1000 + (i : Int)) = 1000 + (i : Int) := qaar (by omega) (by omega)
   replace h2 := Lib.hid h2
   clear stop
   repeat' (first | (with_reducible first | refine zA ?_ | refine qaae ?_) | ((with_reducible refine qaac ?_); (try rw [hP]); simp -implicitDefEqProofs [qall, *]) | ((with_reducible refine qaaf ?_); (try simp -implicitDefEqProofs [qall, *])) | ((with_reducible refine qaaa rfl (fun h => ?_) (fun h => ?_)) <;> have h' := h <;> (try simp at h') <;> (try subst h')) | ((first | refine qaby (qaa6 p _ _ _ _ _ _ _ (by simp)) ⟨rfl, trivial⟩ ⟨rfl, trivial⟩ ?_ | refine qaa0 (qbbg x.w _) ?_); simp -implicitDefEqProofs [qall, *]) | (with_reducible first | refine za ?_ ?_ | refine zb ?_ ?_ ?_ ?_) | (with_reducible first | exact qaab | exact qaad) | ((with_reducible first | refine zga ?_ | refine zgb ?_); rfl) | ((with_reducible first | refine zgd ?_ | refine zge ?_); (first | omega | (simp; done))) | (exact Co.refl _) | (exact CoL.refl _) | ((refine qaaj hJ (i + 1, ?_, ?_) ?_ ?_ ?_; rotate_left 2; (with_reducible refine qaah [] hm ?_ ?_ ?_ ?_) <;> (try simp only [zT, puth, Nat.reduceEqDiff, reduceIte, Nat.reduceAdd]))) | fail)
   all_goals (try dsimp only)
   all_goals (exact ⟨by omega, h2.out⟩)
  ·rw [qafb he] at h2
   obtain ⟨rfl, rfl⟩ := stop h2
   have ke : (e == 0) = false := by simpa using he
   clear h2 stop
   repeat' (first | ((refine qac9 ?_ rest1.out)) | (with_reducible refine zA ?_) | ((with_reducible refine qaac ?_); (try rw [hP]); simp -implicitDefEqProofs [*]) | ((with_reducible refine qaak ?_); (try simp -implicitDefEqProofs [*])) | ((with_reducible refine qaaa rfl (fun h => ?_) (fun h => ?_)) <;> have h' := h <;> (try simp at h') <;> (try subst h')) | ((with_reducible refine qaah [] hm ?_ ?_ ?_ ?_) <;> (try simp only [zT, puth, Nat.reduceEqDiff, reduceIte, Nat.reduceAdd])) | (with_reducible first | refine za ?_ ?_ | refine zb ?_ ?_ ?_ ?_) | (with_reducible first | exact qaab | exact qaad) | ((with_reducible first | refine zga ?_ | refine zgb ?_); rfl) | ((with_reducible refine zgd ?_); (first | omega | (simp; done))) | (exact Co.refl _) | (exact CoL.refl _) | fail)
 ·obtain rfl : i = p.heads.length := by omega
  rw [List.drop_length, qacj _ rfl] at h2
  obtain ⟨rfl, rfl⟩ := stop h2
  clear h2 stop
  repeat' (first | ((refine qac9 ?_ rest1.out)) | (with_reducible refine zA ?_) | ((with_reducible refine qaac ?_); (try rw [hP]); simp -implicitDefEqProofs [*]) | ((with_reducible refine qaak ?_); (try simp -implicitDefEqProofs [*])) | ((with_reducible refine qaaa rfl (fun h => ?_) (fun h => ?_)) <;> have h' := h <;> (try simp at h') <;> (try subst h')) | ((with_reducible refine qaah [] hm ?_ ?_ ?_ ?_) <;> (try simp only [zT, puth, Nat.reduceEqDiff, reduceIte, Nat.reduceAdd])) | (with_reducible first | refine za ?_ ?_ | refine zb ?_ ?_ ?_ ?_) | (with_reducible first | exact qaab | exact qaad) | ((with_reducible first | refine zga ?_ | refine zgb ?_); rfl) | ((with_reducible refine zgd ?_); (first | omega | (simp; done))) | (exact Co.refl _) | (exact CoL.refl _) | fail)
end Go.Proofs.Ytnfjldobjgdiaaa
namespace Go.Proofs.Ytnfjldobjgdiaaa
set_option linter.all false
open Go.RowKit
structure SetsD where
 must : BitVec 64
 may : BitVec 64
 least : Int
 most : Int
 there : Bool
def qadv : SetsD := ⟨0, 0, 0, 0, false⟩
def setc (s : SetsD) : List SV := [.int .u64 s.must.toNat, .int .u64 s.may.toNat, .int .i64 s.least, .int .i64 s.most, .bool s.there]
def lo (a b : Int) : Int := if b < a then b else a
def hi_ (a b : Int) : Int := if b > a then b else a
def qalw (s t : SetsD) : SetsD := if s.there then ⟨s.must &&& t.must, s.may ||| t.may, lo s.least t.least, hi_ s.most t.most, true⟩ else t
def bitB (h : Int) : BitVec 64 := BitVec.twoPow 64 h.toNat
def qag5 (p : PlanD) (h : Int) : Int := qapl (headW p h)
abbrev TB := BitVec 64 × Int
def qbbk (y : TB) : SetsD := ⟨y.1, y.1, y.2, y.2, true⟩
def qba8 (p : PlanD) (h : Int) (x : SetsD) : SetsD := if 0 ≤ h then ⟨x.must ||| bitB h, x.may ||| bitB h, x.least + qag5 p h, x.most + qag5 p h, true⟩ else x
def qaph (p : PlanD) (h : Int) (y : TB) : TB := if 0 ≤ h then (y.1 ||| bitB h, y.2 + qag5 p h) else y
structure Is (S : SetsD) (P : TB → Prop) : Prop where
 there : S.there = true
 must : ∀ j, S.must.getLsbD j = true ↔ (j < 64 ∧ ∀ y, P y → y.1.getLsbD j = true)
 may : ∀ j, S.may.getLsbD j = true ↔ ∃ y, P y ∧ y.1.getLsbD j = true
 least : (∃ y, P y ∧ y.2 = S.least) ∧ ∀ y, P y → S.least ≤ y.2
 most : (∃ y, P y ∧ y.2 = S.most) ∧ ∀ y, P y → y.2 ≤ S.most
theorem Is.uniq {S T : SetsD} {P : TB → Prop} (a : Is S P) (b : Is T P) : S = T := by
 obtain ⟨m1, m2, l1, l2, t1⟩ := S
 obtain ⟨n1, n2, k1, k2, t2⟩ := T
 have e1 : m1 = n1 := BitVec.eq_of_getLsbD_eq fun j hj => by
  have := (a.must j).trans (b.must j).symm
  exact Bool.eq_iff_iff.2 this
 have e2 : m2 = n2 := BitVec.eq_of_getLsbD_eq fun j hj => by
  have := (a.may j).trans (b.may j).symm
  exact Bool.eq_iff_iff.2 this
 obtain ⟨⟨y1, p1, q1⟩, r1⟩ := a.least
 obtain ⟨⟨y2, p2, q2⟩, r2⟩ := b.least
 obtain ⟨⟨y3, p3, q3⟩, r3⟩ := a.most
 obtain ⟨⟨y4, p4, q4⟩, r4⟩ := b.most
 have e3 : l1 = k1 := by have := r1 y2 p2; have := r2 y1 p1; simp only at *; omega
 have e4 : l2 = k2 := by have := r3 y4 p4; have := r4 y3 p3; simp only at *; omega
 have e5 : t1 = t2 := a.there.trans b.there.symm
 rw [e1, e2, e3, e4, e5]
theorem Is.congr {S : SetsD} {P Q : TB → Prop} (a : Is S P) (h : ∀ y, P y ↔ Q y) : Is S Q := by
 have : P = Q := funext fun y => propext (h y)
 rw [← this]; exact a
theorem is_one (y : TB) : Is (qbbk y) (fun z => z = y) :=
 ⟨rfl, fun j => ⟨fun h => ⟨BitVec.lt_of_getLsbD h, fun z hz => by rw [hz]; exact h⟩, fun h => h.2 y rfl⟩, fun j => ⟨fun h => ⟨y, rfl, h⟩, fun ⟨z, hz, h⟩ => by rw [hz] at h; exact h⟩,
  ⟨⟨y, rfl, rfl⟩, fun z hz => by rw [hz]; exact Int.le_refl _⟩, ⟨⟨y, rfl, rfl⟩, fun z hz => by rw [hz]; exact Int.le_refl _⟩⟩
theorem Is.join {S T : SetsD} {P Q : TB → Prop} (a : Is S P) (b : Is T Q) : Is (qalw S T) (fun y => P y ∨ Q y) := by
 unfold qalw
 rw [if_pos a.there]
 refine ⟨rfl, fun j => ?_, fun j => ?_, ?_, ?_⟩
 ·rw [BitVec.getLsbD_and, Bool.and_eq_true, a.must, b.must]
  constructor
  ·rintro ⟨⟨h, h1⟩, ⟨_, h2⟩⟩; exact ⟨h, fun y hy => hy.elim (h1 y) (h2 y)⟩
  ·rintro ⟨h, h1⟩; exact ⟨⟨h, fun y hy => h1 y (.inl hy)⟩, ⟨h, fun y hy => h1 y (.inr hy)⟩⟩
 ·rw [BitVec.getLsbD_or, Bool.or_eq_true, a.may, b.may]
  constructor
  ·rintro (⟨y, h1, h2⟩ | ⟨y, h1, h2⟩)
   ·exact ⟨y, .inl h1, h2⟩
   ·exact ⟨y, .inr h1, h2⟩
  ·rintro ⟨y, h1 | h1, h2⟩
   ·exact .inl ⟨y, h1, h2⟩
   ·exact .inr ⟨y, h1, h2⟩
 ·obtain ⟨⟨y1, p1, q1⟩, r1⟩ := a.least
  obtain ⟨⟨y2, p2, q2⟩, r2⟩ := b.least
  show (∃ y, (P y ∨ Q y) ∧ y.2 = lo S.least T.least) ∧ _
  unfold lo
  split
  ·exact ⟨⟨y2, .inr p2, q2⟩, fun y hy => hy.elim (fun h => by have := r1 y h; show T.least ≤ y.2; omega) (r2 y)⟩
  ·exact ⟨⟨y1, .inl p1, q1⟩, fun y hy => hy.elim (r1 y) (fun h => by have := r2 y h; show S.least ≤ y.2; omega)⟩
 ·obtain ⟨⟨y1, p1, q1⟩, r1⟩ := a.most
  obtain ⟨⟨y2, p2, q2⟩, r2⟩ := b.most
  show (∃ y, (P y ∨ Q y) ∧ y.2 = hi_ S.most T.most) ∧ _
  unfold hi_
  split
  ·exact ⟨⟨y2, .inr p2, q2⟩, fun y hy => hy.elim (fun h => by have := r1 y h; show y.2 ≤ T.most; omega) (r2 y)⟩
  ·exact ⟨⟨y1, .inl p1, q1⟩, fun y hy => hy.elim (r1 y) (fun h => by have := r2 y h; show y.2 ≤ S.most; omega)⟩
theorem Is.step {S : SetsD} {P : TB → Prop} (a : Is S P) (p : PlanD) (h : Int) : Is (qba8 p h S) (fun z => ∃ y, P y ∧ z = qaph p h y) := by
 unfold qba8 qaph
 by_cases h0 : 0 ≤ h
 ·simp only [if_pos h0]
  obtain ⟨⟨y0, hy0, _⟩, _⟩ := a.least
  refine ⟨rfl, fun j => ?_, fun j => ?_, ?_, ?_⟩
  ·rw [BitVec.getLsbD_or, Bool.or_eq_true, a.must]
   constructor
   ·rintro (⟨h1, h2⟩ | h1)
    ·exact ⟨h1, fun z ⟨y, hy, e⟩ => by rw [e]; simp [h2 y hy]⟩
    ·exact ⟨BitVec.lt_of_getLsbD h1, fun z ⟨y, hy, e⟩ => by rw [e]; simp [h1]⟩
   ·rintro ⟨h1, h2⟩
    by_cases hb : (bitB h).getLsbD j = true
    ·exact .inr hb
    ·refine .inl ⟨h1, fun y hy => ?_⟩
     have := h2 _ ⟨y, hy, rfl⟩
     rw [BitVec.getLsbD_or, Bool.or_eq_true] at this
     exact this.resolve_right hb
  ·rw [BitVec.getLsbD_or, Bool.or_eq_true, a.may]
   constructor
   ·rintro (⟨y, h1, h2⟩ | h1)
    ·exact ⟨_, ⟨y, h1, rfl⟩, by rw [BitVec.getLsbD_or, h2]; rfl⟩
    ·exact ⟨_, ⟨y0, hy0, rfl⟩, by rw [BitVec.getLsbD_or, h1, Bool.or_true]⟩
   ·rintro ⟨z, ⟨y, hy, e⟩, h2⟩
    rw [e, BitVec.getLsbD_or, Bool.or_eq_true] at h2
    exact h2.elim (fun q => .inl ⟨y, hy, q⟩) .inr
  ·obtain ⟨⟨y, h1, h2⟩, h3⟩ := a.least
   exact ⟨⟨_, ⟨y, h1, rfl⟩, by rw [h2]⟩, fun z ⟨y, hy, e⟩ => by rw [e]; have := h3 y hy; show S.least + qag5 p h ≤ y.2 + qag5 p h; omega⟩
  ·obtain ⟨⟨y, h1, h2⟩, h3⟩ := a.most
   exact ⟨⟨_, ⟨y, h1, rfl⟩, by rw [h2]⟩, fun z ⟨y, hy, e⟩ => by rw [e]; have := h3 y hy; show y.2 + qag5 p h ≤ S.most + qag5 p h; omega⟩
 ·simp only [if_neg h0]
  exact a.congr fun y => ⟨fun h => ⟨y, h, rfl⟩, fun ⟨z, h, e⟩ => by rw [e]; exact h⟩
def IsO (S : SetsD) (P : TB → Prop) : Prop := (S = qadv ∧ ∀ y, ¬ P y) ∨ Is S P
theorem IsO.join {S T : SetsD} {P Q : TB → Prop} (a : IsO S P) (b : Is T Q) : IsO (qalw S T) (fun y => P y ∨ Q y) := by
 rcases a with ⟨h, hn⟩ | a
 ·subst h
  exact .inr (b.congr fun y => ⟨.inr, fun h => h.resolve_left (hn y)⟩)
 ·exact .inr (a.join b)
theorem IsO.congr {S : SetsD} {P Q : TB → Prop} (a : IsO S P) (h : ∀ y, P y ↔ Q y) : IsO S Q := by
 have : P = Q := funext fun y => propext (h y)
 rw [← this]; exact a
theorem IsO.uniq {S T : SetsD} {P : TB → Prop} (a : IsO S P) (b : IsO T P) : S = T := by
 rcases a with ⟨h, hn⟩ | a
 ·rcases b with ⟨h2, _⟩ | b
  ·rw [h, h2]
  ·obtain ⟨⟨y, hy, _⟩, _⟩ := b.least
   exact absurd hy (hn y)
 ·rcases b with ⟨_, hn⟩ | b
  ·obtain ⟨⟨y, hy, _⟩, _⟩ := a.least
   exact absurd hy (hn y)
  ·exact a.uniq b
theorem IsO.is {S : SetsD} {P : TB → Prop} (a : IsO S P) (h : S.there = true) : Is S P := by
 rcases a with ⟨e, _⟩ | a
 ·rw [e] at h; cases h
 ·exact a
def qacq (s : StateD) : List Int := s.cases_.map CaseD.to_ ++ [s.els]
def tgt (n : Nat) (k : Int) : Int := if k = 1000 then n else k
def Leads (p : PlanD) (s : StateD) (k : Nat) : Prop := k ≤ p.states.length ∧ ∃ t ∈ qacq s, tgt p.states.length t = k
def toS (n : Nat) (l : List SetsD) (k : Int) (s : SetsD) : List SetsD := if tgt n k ≤ n then l.set (tgt n k).toNat (qalw (l.getD (tgt n k).toNat qadv) s) else l
def qaiv (p : PlanD) (st : StateD) (i : Nat) (l : List SetsD) : List SetsD := if (l.getD i qadv).there then (qacq st).foldl (fun m k => toS p.states.length m k (qba8 p st.head (l.getD i qadv))) l else l
theorem qa0u (n : Nat) (l : List SetsD) (k : Int) (s : SetsD) : (toS n l k s).length = l.length := by
 unfold toS; split <;> simp
structure SOk (p : PlanD) (i : Nat) (s : StateD) : Prop where
 head : -1 ≤ s.head ∧ s.head < p.heads.length
 cases_ : s.cases_.length ≤ 4
 to_ : ∀ t ∈ qacq s, t = 1000 ∨ t = 1001 ∨ ((i : Int) < t ∧ t < p.states.length)
 on : 0 < s.cases_.length → s.on.h < p.heads.length
structure PlOk (p : PlanD) : Prop where
 heads : p.heads.length ≤ 6
 size : ∀ h ∈ p.heads, qahe h.w = 0
 states : 1 ≤ p.states.length ∧ p.states.length ≤ 8
 ok : ∀ (i : Nat) (hi : i < p.states.length), SOk p i p.states[i]
theorem qapt {b : Bool} {at_ : Int} (h : (qapu b at_).1 = 0) : b = false := by
 unfold qapu at h; cases b
 ·rfl
 ·simp at h
theorem qaiy {α : Type} {f : Nat → α → Int} {b : Int} : ∀ {l : List α} {i : Nat}, (rowF f b i l).1 = 0 → ∀ (j : Nat) (hj : j < l.length), f (i + j) l[j] = 0
 | [], _, _, j, hj => by simp at hj
 | y :: l, i, h, j, hj => by
  unfold rowF at h
  by_cases h1 : f i y ≠ 0
  ·rw [if_pos h1] at h; exact absurd h h1
  ·rw [if_neg h1] at h
   cases j with
   | zero => simpa using h1
   | succ j =>
    have := qaiy h j (by simpa using hj)
    rw [show i + (j + 1) = i + 1 + j by omega]; exact this
theorem qahk {α : Type} {f : α → Int} : ∀ {l : List α}, qacd f l = 0 → ∀ x ∈ l, f x = 0
 | [], _, x, hx => by cases hx
 | y :: l, h, x, hx => by
  unfold qacd at h
  by_cases h1 : f y = 0
  ·rw [if_pos h1] at h
   rcases List.mem_cons.1 hx with e | e
   ·rw [e]; exact h1
   ·exact qahk h x e
  ·rw [if_neg h1] at h; exact absurd h h1
theorem qbbo {p : PlanD} {i : Nat} {t : Int} (h : qaf2 p i t = 0) : t = 1000 ∨ t = 1001 ∨ ((i : Int) < t ∧ t < p.states.length) := by
 unfold qaf2 at h
 by_cases h1 : t = 1000 ∨ t = 1001
 ·omega
 ·rw [if_neg h1] at h
  by_cases h2 : t < 0 ∨ (p.states.length : Int) ≤ t
  ·rw [if_pos h2] at h; exact absurd h (by decide)
  ·rw [if_neg h2] at h
   by_cases h3 : t ≤ i
   ·rw [if_pos h3] at h; exact absurd h (by decide)
   ·omega
theorem qa0p {p : PlanD} {r : RefD} (h : qabw p r [] ≠ 0) : r.h < p.heads.length := by
 by_cases h0 : r.h < 0
 ·omega
 ·unfold qabw qaqw at h
  rw [if_neg (by omega), if_neg (by omega), if_neg (by omega)] at h
  by_cases h1 : 0 ≤ r.h ∧ r.h < p.heads.length
  ·exact h1.2
  ·rw [if_neg h1] at h
   exact absurd (by unfold qa1g; split <;> simp [el]) h
theorem pok_of {p : PlanD} (h : (qafk p).1 = 0) : PlOk p := by
 have h1 := qac8 h
 have h2 := qac8 h1.2
 have h3 := qac8 h2.2
 have hh := qac8 h1.1
 have hs := qac8 h3.1
 have m1 := qapt hh.1
 have m2 := qapt hs.1
 rw [Bool.or_eq_false_iff, decide_eq_false_iff_not, decide_eq_false_iff_not] at m2
 rw [decide_eq_false_iff_not] at m1
 refine ⟨by omega, qbbq h1.1, by omega, fun i hi => ?_⟩
 have hst := qaiy hs.2 i hi
 rw [Nat.zero_add] at hst
 generalize p.states[i] = s at hst
 unfold qaes at hst
 by_cases c1 : s.head < -1 ∨ (p.heads.length : Int) ≤ s.head
 ·rw [if_pos c1] at hst; exact absurd hst (by decide)
 rw [if_neg c1] at hst
 by_cases c2 : 4 < s.cases_.length
 ·rw [if_pos c2] at hst; exact absurd hst (by decide)
 rw [if_neg c2] at hst
 by_cases c3 : 0 < s.cases_.length ∧ qabw p s.on [] = 0
 ·rw [if_pos c3] at hst; exact absurd hst (by decide)
 rw [if_neg c3] at hst
 by_cases c4 : qacd (qagu p i (qabw p s.on [])) s.cases_ ≠ 0
 ·rw [if_pos c4] at hst; exact absurd hst c4
 rw [if_neg c4] at hst
 refine ⟨by omega, by omega, fun t ht => ?_, fun hc => qa0p fun e => c3 ⟨hc, e⟩⟩
 unfold qacq at ht
 rcases List.mem_append.1 ht with ht | ht
 ·obtain ⟨c, hc, rfl⟩ := List.mem_map.1 ht
  have := qahk (Decidable.not_not.1 c4) c hc
  unfold qagu at this
  split at this
  ·exact absurd this (by decide)
  ·exact qbbo this
 ·rw [List.mem_singleton.1 ht]; exact qbbo hst
end Go.Proofs.Ytnfjldobjgdiaaa
namespace Go.Proofs.Ytnfjldobjgdiaaa
set_option linter.all false
open Go.RowKit
def RW (p : PlanD) : Nat → Nat → TB → Prop
 | 0, k, y => k = 0 ∧ y = (0, 0)
 | i + 1, k, y => RW p i k y ∨ ∃ h : i < p.states.length, ∃ z, RW p i i z ∧ Leads p p.states[i] k ∧ y = qaph p p.states[i].head z
def qadb (p : PlanD) : Nat → List SetsD
 | 0 => (List.replicate (p.states.length + 1) qadv).set 0 ⟨0, 0, 0, 0, true⟩
 | i + 1 => if h : i < p.states.length then qaiv p p.states[i] i (qadb p i) else qadb p i
theorem qafi (p : PlanD) {i : Nat} (h : i < p.states.length) : qadb p (i + 1) = qaiv p p.states[i] i (qadb p i) := by
 show (if h : i < p.states.length then _ else _) = _
 rw [dif_pos h]
theorem qai7 (n : Nat) (s : SetsD) : ∀ (ts : List Int) (l : List SetsD), (ts.foldl (fun l k => toS n l k s) l).length = l.length
 | [], _ => rfl
 | t :: ts, l => by rw [List.foldl_cons, qai7 n s ts, qa0u]
theorem qa0x (p : PlanD) (st : StateD) (i : Nat) (l : List SetsD) : (qaiv p st i l).length = l.length := by
 unfold qaiv; split
 ·exact qai7 _ _ _ _
 ·rfl
theorem qac7 (p : PlanD) : ∀ i, (qadb p i).length = p.states.length + 1
 | 0 => by simp [qadb]
 | i + 1 => by
  by_cases h : i < p.states.length
  ·rw [qafi p h, qa0x, qac7 p i]
  ·show (if h : i < p.states.length then _ else _ : List SetsD).length = _
   rw [dif_neg h, qac7 p i]
theorem toS_is {n : Nat} {l : List SetsD} {P : Nat → TB → Prop} {Q : TB → Prop} {T : SetsD} (hl : l.length = n + 1) (h : ∀ k, k ≤ n → IsO (l.getD k qadv) (P k)) (hT : Is T Q) (t : Int) (h0 : 0 ≤ tgt n t) :
  ∀ k, k ≤ n → IsO ((toS n l t T).getD k qadv) (fun y => P k y ∨ (tgt n t = k ∧ Q y)) := fun k hk => by
 unfold toS
 by_cases h1 : tgt n t ≤ n
 ·rw [if_pos h1]
  by_cases h2 : tgt n t = k
  ·have e : (tgt n t).toNat = k := by omega
   rw [e, List.getD_eq_getElem?_getD, List.getElem?_set_self (by omega), Option.getD_some]
   exact ((h k hk).join hT).congr fun y => by simp [h2]
  ·have e : (tgt n t).toNat ≠ k := by omega
   rw [List.getD_eq_getElem?_getD, List.getElem?_set_ne e, ← List.getD_eq_getElem?_getD]
   exact (h k hk).congr fun y => by simp [h2]
 ·rw [if_neg h1]
  have h2 : tgt n t ≠ k := by omega
  exact (h k hk).congr fun y => by simp [h2]
theorem qap6 {n : Nat} {Q : TB → Prop} {T : SetsD} (hT : Is T Q) : ∀ (ts : List Int) (l : List SetsD) (P : Nat → TB → Prop), l.length = n + 1 → (∀ k, k ≤ n → IsO (l.getD k qadv) (P k)) → (∀ t ∈ ts, 0 ≤ tgt n t) →
  ∀ k, k ≤ n → IsO ((ts.foldl (fun l k => toS n l k T) l).getD k qadv) (fun y => P k y ∨ ((∃ t ∈ ts, tgt n t = k) ∧ Q y))
 | [], l, P, _, h, _, k, hk => (h k hk).congr fun y => by simp
 | t :: ts, l, P, hl, h, h0, k, hk => by
  rw [List.foldl_cons]
  have := qap6 hT ts (toS n l t T) _ (by rw [qa0u, hl]) (toS_is hl h hT t (h0 t (by simp))) (fun t' ht => h0 t' (by simp [ht])) k hk
  refine this.congr fun y => ?_
  constructor
  ·rintro ((h1 | ⟨h1, h2⟩) | ⟨⟨t', h1, h2⟩, h3⟩)
   ·exact .inl h1
   ·exact .inr ⟨⟨t, by simp, h1⟩, h2⟩
   ·exact .inr ⟨⟨t', by simp [h1], h2⟩, h3⟩
  ·rintro (h1 | ⟨⟨t', h1, h2⟩, h3⟩)
   ·exact .inl (.inl h1)
   ·rcases List.mem_cons.1 h1 with e | e
    ·exact .inl (.inr ⟨by rw [← e]; exact h2, h3⟩)
    ·exact .inr ⟨⟨t', e, h2⟩, h3⟩
theorem qa8z {p : PlanD} {i : Nat} {s : StateD} (h : SOk p i s) (hi : i < p.states.length) (hn : p.states.length ≤ 8) {t : Int} (ht : t ∈ qacq s) : (i : Int) < tgt p.states.length t := by
 unfold tgt
 rcases h.to_ t ht with e | e | ⟨e1, e2⟩
 ·rw [if_pos e]; omega
 ·rw [if_neg (by omega)]; omega
 ·rw [if_neg (by omega)]; omega
theorem qbcu {p : PlanD} {i : Nat} {s : StateD} (h : SOk p i s) (hi : i < p.states.length) (hn : p.states.length ≤ 8) {k : Nat} (hk : Leads p s k) : i < k := by
 obtain ⟨_, t, ht, e⟩ := hk
 have := qa8z h hi hn ht; omega
theorem qae6 {p : PlanD} (hp : PlOk p) : ∀ i, i ≤ p.states.length → ∀ k, k ≤ p.states.length → IsO ((qadb p i).getD k qadv) (RW p i k)
 | 0, _, k, hk => by
  unfold qadb
  by_cases h0 : k = 0
  ·subst h0
   rw [List.getD_eq_getElem?_getD, List.getElem?_set_self (by simp), Option.getD_some]
   exact .inr ((is_one (0, 0)).congr fun y => by simp [RW])
  ·rw [List.getD_eq_getElem?_getD, List.getElem?_set_ne (by omega), List.getElem?_replicate, if_pos (by omega), Option.getD_some]
   exact .inl ⟨rfl, fun y hy => h0 hy.1⟩
 | i + 1, hi, k, hk => by
  have hlt : i < p.states.length := by omega
  have ih := qae6 hp i (by omega)
  rw [qafi p hlt]
  have ok := hp.ok i hlt
  unfold qaiv
  by_cases ht : ((qadb p i).getD i qadv).there = true
  ·rw [if_pos ht]
   have := qap6 (((ih i (by omega)).is ht).step p p.states[i].head) (qacq p.states[i]) (qadb p i) (RW p i) (qac7 p i) ih (fun t h => by have := qa8z ok hlt hp.states.2 h; omega) k hk
   refine this.congr fun y => ?_
   constructor
   ·rintro (h1 | ⟨h1, z, h2, h3⟩)
    ·exact .inl h1
    ·exact .inr ⟨hlt, z, h2, ⟨hk, h1⟩, h3⟩
   ·rintro (h1 | ⟨_, z, h2, h3, h4⟩)
    ·exact .inl h1
    ·exact .inr ⟨h3.2, z, h2, h4⟩
  ·rw [if_neg ht]
   refine (ih k hk).congr fun y => ⟨.inl, fun h => h.elim id fun ⟨_, z, h2, _⟩ => ?_⟩
   rcases ih i (by omega) with ⟨_, hn⟩ | h
   ·exact absurd h2 (hn z)
   ·exact absurd h.there ht
theorem qa05 {p : PlanD} (hp : PlOk p) {k : Nat} : ∀ j, k ≤ j → j ≤ p.states.length → ∀ y, RW p j k y ↔ RW p k k y
 | 0, h, _, y => by obtain rfl : k = 0 := by omega
                    exact Iff.rfl
 | j + 1, h, hj, y => by
  by_cases e : k = j + 1
  ·rw [e]
  ·rw [← qa05 hp j (by omega) (by omega) y]
   refine ⟨fun h => h.elim id fun ⟨h1, z, h2, h3, h4⟩ => ?_, .inl⟩
   have := qbcu (hp.ok j h1) h1 hp.states.2 h3; omega
theorem qaqs {p : PlanD} (hp : PlOk p) {k j : Nat} (h : k ≤ j) (hj : j ≤ p.states.length) : (qadb p j).getD k qadv = (qadb p k).getD k qadv :=
 (qae6 hp j hj k (by omega)).uniq ((qae6 hp k (by omega) k (by omega)).congr fun y => (qa05 hp j h hj y).symm)
def qaix (p : PlanD) : List SetsD := qadb p p.states.length
def setAt (p : PlanD) (i : Nat) : SetsD := (qaix p).getD i qadv
def refC (s : StateD) (x : SetsD) : Int :=
 if x.there = false then 0
 else if (decide (0 ≤ s.head) && (x.may &&& bitB s.head != 0)) = true then 7
 else if (decide (0 < s.cases_.length) && (decide (0 ≤ s.on.h) && (s.on.h != s.head && (x.must &&& bitB s.on.h == 0)))) = true then 12
 else 0
def qaew (p : PlanD) : Int × Int := rowF (fun i s => refC s (setAt p i)) 3000 0 p.states
def qalp (p : PlanD) : Int × Int := if (qafk p).1 ≠ 0 then qafk p else qaew p
def qapd (p : PlanD) : List SetsD := if (qalp p).1 ≠ 0 then [] else qaix p
theorem qaly {p : PlanD} (hp : PlOk p) {h : Int} (h0 : 0 ≤ h) (h1 : h < p.heads.length) : 1 ≤ qag5 p h ∧ qag5 p h ≤ 32 := by
 unfold qag5 headW
 rw [List.getElem?_eq_getElem (by omega : h.toNat < p.heads.length)]
 have := qapi (hp.size _ (List.getElem_mem (by omega : h.toNat < p.heads.length)))
 exact ⟨this.2.2.2.2.2.2.1, this.2.2.2.2.2.2.2⟩
theorem qbb1 {p : PlanD} (hp : PlOk p) {h : Int} (h1 : h < p.heads.length) (y : TB) : y.2 ≤ (qaph p h y).2 ∧ (qaph p h y).2 ≤ y.2 + 32 := by
 unfold qaph
 by_cases h0 : 0 ≤ h
 ·rw [if_pos h0]; have := qaly hp h0 h1; show _ ≤ y.2 + qag5 p h ∧ y.2 + qag5 p h ≤ _; omega
 ·rw [if_neg h0]; omega
theorem rw_in {p : PlanD} (hp : PlOk p) : ∀ i, ∀ k y, RW p i k y → 0 ≤ y.2 ∧ y.2 ≤ 32 * i
 | 0, k, y, h => by rw [h.2]; simp
 | i + 1, k, y, h => by
  rcases h with h | ⟨hi, z, h1, _, h2⟩
  ·have := rw_in hp i k y h; omega
  ·have a := rw_in hp i i z h1
   have b := qbb1 hp (hp.ok i hi).head.2 z
   rw [h2]; omega
theorem qa81 {p : PlanD} (hp : PlOk p) {i k : Nat} (hi : i ≤ p.states.length) (hk : k ≤ p.states.length) : 0 ≤ ((qadb p i).getD k qadv).least ∧ ((qadb p i).getD k qadv).least ≤ 256 ∧ 0 ≤ ((qadb p i).getD k qadv).most ∧ ((qadb p i).getD k qadv).most ≤ 256 := by
 have hn := hp.states.2
 rcases qae6 hp i hi k hk with ⟨e, _⟩ | h
 ·rw [e]; simp [qadv]
 ·obtain ⟨⟨y, h1, h2⟩, _⟩ := h.least
  obtain ⟨⟨z, h3, h4⟩, _⟩ := h.most
  have a := rw_in hp i k y h1
  have b := rw_in hp i k z h3
  omega
end Go.Proofs.Ytnfjldobjgdiaaa
namespace Go.Proofs.Ytnfjldobjgdiaaa
set_option linter.all false
open Go.RowKit
abbrev qa2f : List SOper := [Oa 2 (.box 56 (.t 0)), Oa 3 (.box 56 (.t 1)), Oa 4 (.alloc 56 [(.int .u64 0), (.int .u64 0), (.int .i64 0), (.int .i64 0), (.bool false)])]
abbrev qa2e : List SOper := [Oa 5 (.faddr 4 (.t 2)), Oa 6 (.load (.t 5)), Oa 7 (.un .not (.t 6))]
abbrev qa2d : List SOper := [Oa 8 (.loads 5 (.t 3)), Ob (.store 5 (.t 4) (.t 8))]
abbrev qa2c : List SOper := [Oa 9 (.faddr 0 (.t 2)), Oa 10 (.load (.t 9)), Oa 11 (.faddr 0 (.t 3)), Oa 12 (.load (.t 11)), Oa 13 (.bin .and (.t 10) (.t 12)), Oa 14 (.faddr 1 (.t 2)), Oa 15 (.load (.t 14)), Oa 16 (.faddr 1 (.t 3)), Oa 17 (.load (.t 16)), Oa 18 (.bin .or (.t 15) (.t 17)), Oa 19 (.faddr 2 (.t 2)), Oa 20 (.load (.t 19)), Oa 21 (.faddr 2 (.t 3)), Oa 22 (.load (.t 21)), Oa 23 (.mm false (.t 20) (.t 22)), Oa 24 (.faddr 3 (.t 2)), Oa 25 (.load (.t 24)), Oa 26 (.faddr 3 (.t 3)), Oa 27 (.load (.t 26)), Oa 28 (.mm true (.t 25) (.t 27)), Oa 29 (.build [(.int .u64 0), (.int .u64 0), (.int .i64 0), (.int .i64 0), (.bool false)] [(0, 1, (.t 13)), (1, 1, (.t 18)), (2, 1, (.t 23)), (3, 1, (.t 28)), (4, 1, (.c (.bool true)))]), Ob (.store 5 (.t 4) (.t 29))]
def c_wjoin : SCode := (.seq (.reg false qa2f [2, 3, 4]) (.seq (.seq (.reg false qa2e [2, 3, 4, 7]) (.cond (.t 7) (.seq (.reg false qa2d [4]) .ret) .skip)) (.seq (.reg false qa2c [4]) .ret)))
theorem qal2 : comp Try.prog 30 ((Try.f90.body).getD .skip) = some c_wjoin.erase := by kernel_rfl
abbrev qa2q : List SOper := [Oa 8 (.mv (.t 1)), Oa 9 (.mv (.t 8)), Oe 10 (.mv (.t 0)) 9 true, Oe 11 (.nilc (.t 10)) 9 true, Oe 12 (.faddr 8 (.t 11)) 9 true, Oe 13 (.faddr 0 (.t 12)) 9 true, Oe 14 (.load (.t 13)) 9 true, Oe 15 (.bin .eql (.t 14) (.c (.int .i64 0))) 9 true, Oa 16 (.pick (.t 9) (.t 15) (.c (.bool false)))]
abbrev qa2p : List SOper := [Oa 17 (.mv (.t 0)), Oa 18 (.mv (.t 2)), Oa 19 (.mv (.t 3)), Oa 20 (.build [(.int .i64 0), (.int .i64 0)] [(0, 1, (.t 18)), (1, 1, (.t 19))]), Oa 21 (.nilc (.t 17)), Oa 22 (.faddr 8 (.t 21)), Ob (.store 2 (.t 22) (.t 20))]
def c_wfail : SCode := (.seq (.reg false qa2q [0, 2, 3, 16]) (.cond (.t 16) (.reg false qa2p []) .skip))
theorem qal4 : comp Try.prog 23 ((Try.f75.body).getD .skip) = some c_wfail.erase := by kernel_rfl
abbrev qbdg : List SOper := [Oa 5 (.box 56 (.t 2))]
abbrev qbdf : List SOper := [Oa 6 (.mv (.t 1)), Oa 7 (.bin .eql (.t 6) (.c (.int .i64 1000)))]
abbrev qbde : List SOper := [Oa 8 (.mv (.t 0)), Oa 9 (.nilc (.t 8)), Oa 10 (.faddr 0 (.t 9)), Oa 11 (.faddr 2 (.t 10)), Oa 12 (.load (.t 11)), Oa 13 (.len false (.t 12)), Oa 1 (.mv (.t 13))]
abbrev qbdd : List SOper := [Oa 14 (.mv (.t 1)), Oa 15 (.mv (.t 0)), Oa 16 (.nilc (.t 15)), Oa 17 (.faddr 0 (.t 16)), Oa 18 (.faddr 2 (.t 17)), Oa 19 (.load (.t 18)), Oa 20 (.len false (.t 19)), Oa 21 (.bin .leq (.t 14) (.t 20))]
abbrev qbdc : List SOper := [Oa 22 (.mv (.t 0)), Od 23 (.nilc (.t 22)) 1, Od 24 (.faddr 7 (.t 23)) 3, Od 25 (.load (.t 24)) 7, Oa 26 (.mv (.t 1)), Oa 27 (.mv (.t 0)), Od 28 (.nilc (.t 27)) 32, Od 29 (.faddr 7 (.t 28)) 96, Od 30 (.load (.t 29)) 224, Oa 31 (.mv (.t 1)), Od 32 (.iaddr 5 (.t 30) (.t 31)) 992, Od 33 (.loads 5 (.t 32)) 2016, Oa 34 (.loads 5 (.t 5)), ⟨(some 35), .mv (.c .any), some ((.c (.fn (.func 90) [] [])), [(.t 33), (.t 34)]), none, 8160⟩, Od 36 (.iaddr 5 (.t 25) (.t 26)) 16383, ⟨none, .store 5 (.t 36) (.t 35), none, none, 32767⟩]
def c_wto : SCode := (.seq (.reg false qbdg [0, 1, 5]) (.seq (.seq (.reg false qbdf [0, 1, 5, 7]) (.cond (.t 7) (.reg false qbde [0, 1, 5]) .skip)) (.seq (.reg false qbdd [0, 1, 5, 21]) (.cond (.t 21) (.reg true qbdc []) .skip))))
theorem qa11 : comp Try.prog 37 ((Try.f77.body).getD .skip) = some c_wto.erase := by kernel_rfl
abbrev qa9z : List SOper := [Oa 2 (.mv (.c (.int .u64 0)))]
abbrev qa9y : List SOper := [Oa 3 (.mv (.t 0)), Oa 4 (.bin .shl (.c (.int .u64 1)) (.t 3)), Oa 2 (.mv (.t 4))]
def c_wbit : SCode := (.seq (.reg false qa9z [0]) (.seq (.reg false qa9y [2]) .ret))
theorem qaq6 : comp Try.prog 5 ((Try.f76.body).getD .skip) = some c_wbit.erase := by kernel_rfl
abbrev qarp : List SOper := [Oa 10 (.mv (.t 0)), Od 11 (.nilc (.t 10)) 1, Od 12 (.faddr 0 (.t 11)) 3, Od 13 (.faddr 2 (.t 12)) 7, Od 14 (.load (.t 13)) 15, Oa 15 (.mv (.t 1)), Od 16 (.iaddr 5 (.t 14) (.t 15)) 63, Od 17 (.loads 5 (.t 16)) 127, Oa 18 (.mv (.t 0)), Od 19 (.nilc (.t 18)) 256, Od 20 (.faddr 7 (.t 19)) 768, Od 21 (.load (.t 20)) 1792, Oa 22 (.mv (.t 1)), Od 23 (.iaddr 5 (.t 21) (.t 22)) 7936, Od 24 (.loads 5 (.t 23)) 16128, Oa 4 (.alloc 65 [(.int .i64 0), (.int .i64 0), (.int .i64 0), .nilsl, (.int .i64 0)]), Oa 5 (.alloc 56 [(.int .u64 0), (.int .u64 0), (.int .i64 0), (.int .i64 0), (.bool false)]), ⟨none, .store 5 (.t 4) (.t 17), none, none, 98559⟩, ⟨none, .store 5 (.t 5) (.t 24), none, none, 262143⟩]
abbrev qaro : List SOper := [Oa 25 (.faddr 4 (.t 5)), Oa 26 (.load (.t 25)), Oa 27 (.un .not (.t 26))]
abbrev qarn : List SOper := [Oa 28 (.faddr 0 (.t 4)), Oa 29 (.load (.t 28)), Oa 30 (.bin .geq (.t 29) (.c (.int .i64 0)))]
abbrev qarm : List SOper := [Oa 31 (.mv (.t 0)), Oa 32 (.faddr 1 (.t 5)), Od 33 (.load (.t 32)) 2, Oa 34 (.faddr 0 (.t 4)), Od 35 (.load (.t 34)) 8, ⟨(some 36), .mv (.c .any), some ((.c (.fn (.func 76) [] [])), [(.t 35)]), none, 24⟩, Od 37 (.bin .and (.t 33) (.t 36)) 62, Od 38 (.bin .neq (.t 37) (.c (.int .u64 0))) 126, Oa 39 (.mv (.t 1)), Od 40 (.bin .add (.c (.int .i64 3000)) (.t 39)) 256, ⟨(some 41), .mv (.c .any), some ((.c (.fn (.func 75) [] [])), [(.t 31), (.t 38), (.c (.int .i64 7)), (.t 40)]), none, 1023⟩]
abbrev qarl : List SOper := [Oa 43 (.mv (.t 0)), Od 44 (.nilc (.t 43)) 1, Od 45 (.faddr 0 (.t 44)) 3, Od 46 (.faddr 0 (.t 45)) 7, Od 47 (.load (.t 46)) 15, Oa 48 (.faddr 0 (.t 4)), Od 49 (.load (.t 48)) 32, Od 50 (.iaddr 1 (.t 47) (.t 49)) 127, Od 51 (.loads 1 (.t 50)) 255, ⟨(some 52), .mv (.c .any), some ((.c (.fn (.func 32) [] [])), [(.t 51)]), none, 511⟩, Od 42 (.mv (.t 52)) 1023, Od 53 (.extr (.t 42) 0) 2047, Od 54 (.extr (.t 42) 1) 2047, Oa 7 (.alloc 45 [(.int .i64 0), (.int .i64 0)]), Od 6 (.mv (.t 53)) 12287, ⟨none, .store 2 (.t 7) (.t 54), none, none, 32767⟩]
abbrev qark : List SOper := [Oa 55 (.faddr 0 (.t 5)), Od 56 (.load (.t 55)) 1, Oa 57 (.faddr 0 (.t 4)), Od 58 (.load (.t 57)) 4, ⟨(some 59), .mv (.c .any), some ((.c (.fn (.func 76) [] [])), [(.t 58)]), none, 12⟩, Od 60 (.bin .or (.t 56) (.t 59)) 31, Oa 61 (.faddr 1 (.t 5)), Od 62 (.load (.t 61)) 64, Oa 63 (.faddr 0 (.t 4)), Od 64 (.load (.t 63)) 256, ⟨(some 65), .mv (.c .any), some ((.c (.fn (.func 76) [] [])), [(.t 64)]), none, 796⟩, Od 66 (.bin .or (.t 62) (.t 65)) 2012, Oa 67 (.faddr 2 (.t 5)), Od 68 (.load (.t 67)) 4096, Oa 69 (.mv (.t 6)), Od 70 (.bin .add (.t 68) (.t 69)) 28672, Oa 71 (.faddr 3 (.t 5)), Od 72 (.load (.t 71)) 65536, Oa 73 (.mv (.t 6)), Od 74 (.bin .add (.t 72) (.t 73)) 458752, Od 75 (.build [(.int .u64 0), (.int .u64 0), (.int .i64 0), (.int .i64 0), (.bool false)] [(0, 1, (.t 60)), (1, 1, (.t 66)), (2, 1, (.t 70)), (3, 1, (.t 74)), (4, 1, (.c (.bool true)))]) 1048575, ⟨none, .store 5 (.t 5) (.t 75), none, none, 2097151⟩]
abbrev qarj : List SOper := [Oa 76 (.faddr 3 (.t 4)), Oa 77 (.load (.t 76)), Oa 78 (.len false (.t 77)), Oa 79 (.bin .gtr (.t 78) (.c (.int .i64 0)))]
abbrev qari : List SOper := [Oa 80 (.mv (.t 0)), Oa 81 (.faddr 1 (.t 4)), Od 82 (.faddr 0 (.t 81)) 2, Od 83 (.load (.t 82)) 6, Od 84 (.bin .geq (.t 83) (.c (.int .i64 0))) 14, Od 85 (.mv (.t 84)) 30, Of 86 (.faddr 0 (.t 5)) 85 true 62, Of 87 (.load (.t 86)) 85 true 126, Of 88 (.faddr 1 (.t 4)) 85 true 62, Of 89 (.faddr 0 (.t 88)) 85 true 318, Of 90 (.load (.t 89)) 85 true 830, ⟨(some 91), .mv (.c .any), some ((.c (.fn (.func 76) [] [])), [(.t 90)]), (some (85, true)), 1854⟩, Of 92 (.bin .and (.t 87) (.t 91)) 85 true 4094, Of 93 (.bin .eql (.t 92) (.c (.int .u64 0))) 85 true 8190, Od 94 (.pick (.t 85) (.t 93) (.c (.bool false))) 16382, Oa 95 (.mv (.t 1)), Od 96 (.bin .add (.c (.int .i64 3000)) (.t 95)) 32768, ⟨(some 97), .mv (.c .any), some ((.c (.fn (.func 75) [] [])), [(.t 80), (.t 94), (.c (.int .i64 12)), (.t 96)]), none, 131071⟩]
abbrev qarh : List SOper := [Oa 98 (.faddr 3 (.t 4)), Oa 99 (.load (.t 98)), Oa 100 (.len false (.t 99)), Oa 101 (.mv (.c (.int .i64 0)))]
abbrev qam2 : List SOper := [Oa 102 (.bin .lss (.t 101) (.t 100))]
abbrev qam1 : List SOper := [Oa 103 (.iaddr 3 (.t 99) (.t 101)), Oa 104 (.loads 3 (.t 103)), Oa 9 (.alloc 95 [(.int .u64 0), (.int .u64 0), (.int .i64 0)]), Ob (.store 3 (.t 9) (.t 104))]
abbrev qam0 : List SOper := [Oa 105 (.mv (.t 0)), Oa 106 (.faddr 2 (.t 9)), Oa 107 (.load (.t 106)), Oa 108 (.loads 5 (.t 5)), Oc 109 77 [(.t 105), (.t 107), (.t 108)]]
abbrev qamz : List SOper := [Oa 110 (.bin .add (.t 101) (.c (.int .i64 1))), Oa 101 (.mv (.t 110))]
def c_wstate_l1 : SCode := (.seq (.reg false qam2 [0, 4, 5, 99, 100, 101, 102]) (.seq (.cond (.t 102) .skip (.exit 0)) (.seq (.block 1 (.seq (.reg false qam1 [0, 4, 5, 9, 99, 100, 101]) (.reg false qam0 [0, 4, 5, 99, 100, 101]))) (.reg false qamz [0, 4, 5, 99, 100, 101]))))
abbrev qagw : List SOper := [Oa 111 (.mv (.t 0)), Oa 112 (.faddr 4 (.t 4)), Oa 113 (.load (.t 112)), Oa 114 (.loads 5 (.t 5)), Oc 115 77 [(.t 111), (.t 113), (.t 114)]]
def c_wstate : SCode := (.seq (.reg true qarp [0, 1, 4, 5]) (.seq (.seq (.reg false qaro [0, 1, 4, 5, 27]) (.cond (.t 27) .ret .skip)) (.seq (.seq (.reg false qarn [0, 1, 4, 5, 30]) (.cond (.t 30) (.seq (.reg true qarm [0, 1, 4, 5]) (.seq (.reg true qarl [0, 1, 4, 5, 6]) (.reg true qark [0, 1, 4, 5]))) .skip)) (.seq (.seq (.reg false qarj [0, 1, 4, 5, 79]) (.cond (.t 79) (.reg true qari [0, 4, 5]) .skip)) (.seq (.seq (.reg false qarh [0, 4, 5, 99, 100, 101]) (.block 0 (.loop c_wstate_l1))) (.reg false qagw []))))))
theorem qajf : comp Try.prog 116 ((Try.f57.body).getD .skip) = some c_wstate.erase := by kernel_rfl
abbrev qa98 : List SOper := [Oa 1 (.box 29 (.t 0)), Oa 2 (.mv (.c .nilsl)), Oa 3 (.alloc 45 [(.int .i64 0), (.int .i64 0)])]
abbrev qa97 : List SOper := [Oa 7 (.loads 7 (.t 1)), Oc 8 17 [(.t 7)], Oa 4 (.alloc 45 [(.int .i64 0), (.int .i64 0)]), Ob (.store 2 (.t 4) (.t 8))]
abbrev qa96 : List SOper := [Oa 9 (.faddr 0 (.t 4)), Oa 10 (.load (.t 9)), Oa 11 (.bin .neq (.t 10) (.c (.int .i64 0)))]
abbrev qa95 : List SOper := [Oa 12 (.loads 2 (.t 4)), Oa 2 (.mv (.c .nilsl)), ⟨none, .store 2 (.t 3) (.t 12), none, none, 3⟩]
abbrev qa94 : List SOper := [Oa 13 (.loads 7 (.t 1)), Oa 14 (.faddr 2 (.t 1)), Od 15 (.load (.t 14)) 2, Od 16 (.len false (.t 15)) 6, Od 17 (.bin .add (.t 16) (.c (.int .i64 1))) 14, Od 18 (.mkslice 56 5 40 [(.int .u64 0), (.int .u64 0), (.int .i64 0), (.int .i64 0), (.bool false)] (.t 17) (.t 17)) 30, Od 19 (.build [.nilsl, .nilsl, .nilsl, .nilsl, .nilsl, .nilsl, .nilsl, .nilsl, (.int .i64 0), (.int .i64 0)] [(0, 7, (.t 13)), (7, 1, (.t 18))]) 63, Od 20 (.box 103 (.t 19)) 127, Od 5 (.mv (.t 20)) 255]
abbrev qa93 : List SOper := [Oa 21 (.mv (.t 5)), Oa 22 (.nilc (.t 21)), Oa 23 (.faddr 7 (.t 22)), Oa 24 (.load (.t 23)), Oa 25 (.iaddr 5 (.t 24) (.c (.int .i64 0))), Oa 26 (.faddr 4 (.t 25)), Ob (.store 1 (.t 26) (.c (.bool true)))]
abbrev qa92 : List SOper := [Oa 27 (.faddr 2 (.t 1)), Oa 28 (.load (.t 27)), Oa 29 (.len false (.t 28)), Oa 30 (.mv (.c (.int .i64 0)))]
abbrev qa91 : List SOper := [Oa 31 (.bin .lss (.t 30) (.t 29))]
abbrev qa90 : List SOper := [Oa 32 (.mv (.t 30)), Oa 6 (.mv (.t 32))]
abbrev qa23 : List SOper := [Oa 33 (.mv (.t 5)), Oa 34 (.mv (.t 6)), Oc 35 57 [(.t 33), (.t 34)]]
abbrev qa22 : List SOper := [Oa 36 (.bin .add (.t 30) (.c (.int .i64 1))), Oa 30 (.mv (.t 36))]
def qaqf : SCode := (.seq (.reg false qa91 [3, 5, 29, 30, 31]) (.seq (.cond (.t 31) .skip (.exit 0)) (.seq (.block 1 (.seq (.reg false qa90 [3, 5, 6, 29, 30]) (.reg false qa23 [3, 5, 29, 30]))) (.reg false qa22 [3, 5, 29, 30]))))
abbrev qa21 : List SOper := [Oa 37 (.mv (.t 5)), Oa 38 (.nilc (.t 37)), Oa 39 (.faddr 8 (.t 38)), Oa 40 (.faddr 0 (.t 39)), Oa 41 (.load (.t 40)), Oa 42 (.bin .neq (.t 41) (.c (.int .i64 0)))]
abbrev qa20 : List SOper := [Oa 43 (.mv (.t 5)), Od 44 (.nilc (.t 43)) 1, Od 45 (.faddr 8 (.t 44)) 3, Od 46 (.loads 2 (.t 45)) 7, Oa 2 (.mv (.c .nilsl)), ⟨none, .store 2 (.t 3) (.t 46), none, none, 31⟩]
abbrev qajx : List SOper := [Oa 47 (.mv (.t 5)), Oa 48 (.nilc (.t 47)), Oa 49 (.faddr 7 (.t 48)), Oa 50 (.load (.t 49)), Oa 51 (.build [(.int .i64 0), (.int .i64 0)] []), Oa 2 (.mv (.t 50)), Ob (.store 2 (.t 3) (.t 51))]
def c_walk : SCode := (.seq (.reg false qa98 [1, 3]) (.seq (.seq (.reg false qa97 [1, 3, 4]) (.seq (.reg false qa96 [1, 3, 4, 11]) (.cond (.t 11) (.seq (.reg true qa95 [2, 3]) .ret) .skip))) (.seq (.reg true qa94 [1, 3, 5]) (.seq (.reg false qa93 [1, 3, 5]) (.seq (.seq (.reg false qa92 [3, 5, 29, 30]) (.block 0 (.loop qaqf))) (.seq (.seq (.reg false qa21 [3, 5, 42]) (.cond (.t 42) (.seq (.reg true qa20 [2, 3]) .ret) .skip)) (.seq (.reg false qajx [2, 3]) .ret)))))))
theorem qaq7 : comp Try.prog 52 ((Try.f22.body).getD .skip) = some c_walk.erase := by kernel_rfl
abbrev qbal : List SOper := [Oa 2 (.mv (.c (.int .u64 0)))]
abbrev qbak : List SOper := [Oa 3 (.mv (.t 0)), Oa 4 (.conv .u64 (.t 3)), Oa 5 (.bin .shl (.c (.int .u64 1)) (.t 4)), Oa 2 (.mv (.t 5))]
def c_rbit : SCode := (.seq (.reg false qbal [0]) (.seq (.reg false qbak [2]) .ret))
theorem qara : comp Try.prog 6 ((Try.f59.body).getD .skip) = some c_rbit.erase := by kernel_rfl
abbrev qawa : List SOper := [Oa 2 (.box 29 (.t 0)), Oa 4 (.mv (.c .nilsl))]
abbrev qav9 : List SOper := [Oa 5 (.mv (.c .nilsl))]
abbrev qav8 : List SOper := [Oa 6 (.mv (.c (.int .i64 0)))]
abbrev qav7 : List SOper := [Oa 8 (.mv (.t 6)), Oa 9 (.faddr 2 (.t 2)), Oa 10 (.load (.t 9)), Oa 11 (.mv (.t 1)), Oa 12 (.iaddr 5 (.t 10) (.t 11)), Oa 13 (.faddr 3 (.t 12)), Oa 14 (.load (.t 13)), Oa 15 (.len false (.t 14)), Oa 16 (.bin .leq (.t 8) (.t 15))]
abbrev qav6 : List SOper := [Oa 19 (.faddr 2 (.t 2)), Oa 20 (.load (.t 19)), Oa 21 (.mv (.t 1)), Oa 22 (.iaddr 5 (.t 20) (.t 21)), Oa 23 (.faddr 4 (.t 22)), Oa 24 (.load (.t 23)), Oa 7 (.mv (.t 24))]
abbrev qav5 : List SOper := [Oa 25 (.mv (.t 6)), Oa 26 (.faddr 2 (.t 2)), Oa 27 (.load (.t 26)), Oa 28 (.mv (.t 1)), Oa 29 (.iaddr 5 (.t 27) (.t 28)), Oa 30 (.faddr 3 (.t 29)), Oa 31 (.load (.t 30)), Oa 32 (.len false (.t 31)), Oa 33 (.bin .lss (.t 25) (.t 32))]
abbrev qav4 : List SOper := [Oa 34 (.faddr 2 (.t 2)), Oa 35 (.load (.t 34)), Oa 36 (.mv (.t 1)), Oa 37 (.iaddr 5 (.t 35) (.t 36)), Oa 38 (.faddr 3 (.t 37)), Oa 39 (.load (.t 38)), Oa 40 (.mv (.t 6)), Oa 41 (.iaddr 3 (.t 39) (.t 40)), Oa 42 (.faddr 2 (.t 41)), Oa 43 (.load (.t 42)), Oa 7 (.mv (.t 43))]
abbrev qav3 : List SOper := [Oa 44 (.mv (.t 7)), Oa 45 (.bin .eql (.t 44) (.c (.int .i64 1000)))]
abbrev qav2 : List SOper := [Oa 46 (.faddr 2 (.t 2)), Oa 47 (.load (.t 46)), Oa 48 (.len false (.t 47)), Oa 7 (.mv (.t 48))]
abbrev qaoa : List SOper := [Oa 49 (.mv (.t 7)), Oa 50 (.faddr 2 (.t 2)), Oa 51 (.load (.t 50)), Oa 52 (.len false (.t 51)), Oa 53 (.bin .leq (.t 49) (.t 52)), Oa 54 (.mv (.t 53)), Oe 55 (.mv (.t 5)) 54 true, Oe 56 (.mv (.t 7)) 54 true, ⟨(some 57), .mv (.c .any), some ((.c (.fn (.func 43) [] [])), [(.t 55), (.t 56)]), (some (54, true)), 0⟩, Oe 58 (.un .not (.t 57)) 54 true, Oa 59 (.pick (.t 54) (.t 58) (.c (.bool false)))]
abbrev qan9 : List SOper := [Oa 60 (.mv (.t 5)), Oa 61 (.mv (.t 7)), Oa 62 (.mkrow 3 1 1 [(.int .i64 0)] [(0, (.t 61))]), Oa 63 (.app 3 1 8 (.t 60) (.t 62)), Oa 5 (.mv (.t 63))]
abbrev qan8 : List SOper := [Oa 17 (.mv (.t 6)), Oa 18 (.bin .add (.t 17) (.c (.int .i64 1))), Oa 6 (.mv (.t 18))]
def qahz : SCode := (.seq (.seq (.reg false qav7 [1, 2, 5, 6, 16]) (.cond (.t 16) .skip (.exit 0))) (.seq (.block 1 (.seq (.reg false qav6 [1, 2, 5, 6, 7]) (.seq (.seq (.reg false qav5 [1, 2, 5, 6, 7, 33]) (.cond (.t 33) (.reg false qav4 [1, 2, 5, 6, 7]) .skip)) (.seq (.seq (.reg false qav3 [1, 2, 5, 6, 7, 45]) (.cond (.t 45) (.reg false qav2 [1, 2, 5, 6, 7]) .skip)) (.seq (.reg false qaoa [1, 2, 5, 6, 7, 59]) (.cond (.t 59) (.reg false qan9 [1, 2, 5, 6]) .skip)))))) (.reg false qan8 [1, 2, 5, 6])))
abbrev qan7 : List SOper := [Oa 64 (.mv (.t 5)), Oa 4 (.mv (.t 64))]
def c_rleads : SCode := (.seq (.reg false qawa [1, 2]) (.seq (.reg false qav9 [1, 2, 5]) (.seq (.seq (.reg false qav8 [1, 2, 5, 6]) (.block 0 (.loop qahz))) (.seq (.reg false qan7 [4]) .ret))))
theorem qajp : comp Try.prog 65 ((Try.f78.body).getD .skip) = some c_rleads.erase := by kernel_rfl
abbrev qa4k : List SOper := [Oa 1 (.box 29 (.t 0)), Oa 2 (.mv (.c .nilsl))]
abbrev qa4j : List SOper := [Oa 11 (.build [(.int .i64 0), (.int .u64 0), (.int .i64 0)] []), Oa 12 (.mkrow 109 3 1 [(.int .i64 0), (.int .u64 0), (.int .i64 0)] [(0, (.t 11))]), Oa 3 (.mv (.t 12))]
abbrev qa4i : List SOper := [Oa 4 (.mv (.c (.int .i64 0)))]
abbrev qa4h : List SOper := [Oa 13 (.mv (.t 4)), Oa 14 (.mv (.t 3)), Oa 15 (.len false (.t 14)), Oa 16 (.bin .lss (.t 13) (.t 15))]
abbrev qa4g : List SOper := [Oa 19 (.mv (.t 3)), Oa 20 (.mv (.t 4)), Oa 21 (.iaddr 3 (.t 19) (.t 20)), Oa 22 (.loads 3 (.t 21)), Oa 5 (.alloc 109 [(.int .i64 0), (.int .u64 0), (.int .i64 0)]), Ob (.store 3 (.t 5) (.t 22))]
abbrev qa4f : List SOper := [Oa 23 (.faddr 0 (.t 5)), Oa 24 (.load (.t 23)), Oa 25 (.faddr 2 (.t 1)), Oa 26 (.load (.t 25)), Oa 27 (.len false (.t 26)), Oa 28 (.bin .eql (.t 24) (.t 27))]
abbrev qa4e : List SOper := [Oa 29 (.faddr 2 (.t 1)), Oa 30 (.load (.t 29)), Oa 31 (.faddr 0 (.t 5)), Oa 32 (.load (.t 31)), Oa 33 (.iaddr 5 (.t 30) (.t 32)), Oa 34 (.loads 5 (.t 33)), Oa 6 (.alloc 65 [(.int .i64 0), (.int .i64 0), (.int .i64 0), .nilsl, (.int .i64 0)]), Ob (.store 5 (.t 6) (.t 34))]
abbrev qa4d : List SOper := [Oa 35 (.faddr 0 (.t 6)), Oa 36 (.load (.t 35)), Oa 37 (.bin .geq (.t 36) (.c (.int .i64 0)))]
abbrev qa4c : List SOper := [Oa 39 (.faddr 0 (.t 1)), Oa 40 (.load (.t 39)), Oa 41 (.faddr 0 (.t 6)), Oa 42 (.load (.t 41)), Oa 43 (.iaddr 1 (.t 40) (.t 42)), Oa 44 (.loads 1 (.t 43)), Oc 45 40 [(.t 44)], Oa 38 (.mv (.t 45)), Oa 46 (.extr (.t 38) 0), Oa 47 (.extr (.t 38) 1), Oa 8 (.alloc 45 [(.int .i64 0), (.int .i64 0)]), Oa 7 (.mv (.t 46)), Ob (.store 2 (.t 8) (.t 47))]
abbrev qat6 : List SOper := [Oa 48 (.faddr 1 (.t 5)), Od 49 (.load (.t 48)) 1, Oa 50 (.faddr 0 (.t 6)), Od 51 (.load (.t 50)) 4, ⟨(some 52), .mv (.c .any), some ((.c (.fn (.func 59) [] [])), [(.t 51)]), none, 12⟩, Od 53 (.bin .or (.t 49) (.t 52)) 31, Od 54 (.faddr 1 (.t 5)) 63, ⟨none, .store 1 (.t 54) (.t 53), none, none, 127⟩]
abbrev qat5 : List SOper := [Oa 55 (.faddr 2 (.t 5)), Oa 56 (.load (.t 55)), Oa 57 (.mv (.t 7)), Oa 58 (.bin .add (.t 56) (.t 57)), Oa 59 (.faddr 2 (.t 5)), Ob (.store 1 (.t 59) (.t 58))]
abbrev qaen : List SOper := [Oa 60 (.loads 7 (.t 1)), Oa 61 (.faddr 0 (.t 5)), Oa 62 (.load (.t 61)), Oc 63 78 [(.t 60), (.t 62)], Oa 9 (.mv (.t 63))]
abbrev qaem : List SOper := [Oa 10 (.mv (.c (.int .i64 0)))]
abbrev qat4 : List SOper := [Oa 64 (.mv (.t 10)), Oa 65 (.mv (.t 9)), Oa 66 (.len false (.t 65)), Oa 67 (.bin .lss (.t 64) (.t 66))]
abbrev qat3 : List SOper := [Oa 70 (.mv (.t 3)), Oa 71 (.mv (.t 9)), Oa 72 (.mv (.t 10)), Od 73 (.iaddr 1 (.t 71) (.t 72)) 6, Od 74 (.load (.t 73)) 14, Oa 75 (.faddr 1 (.t 5)), Od 76 (.load (.t 75)) 32, Oa 77 (.faddr 2 (.t 5)), Od 78 (.load (.t 77)) 128, Od 79 (.build [(.int .i64 0), (.int .u64 0), (.int .i64 0)] [(0, 1, (.t 74)), (1, 1, (.t 76)), (2, 1, (.t 78))]) 510, Od 80 (.mkrow 109 3 1 [(.int .i64 0), (.int .u64 0), (.int .i64 0)] [(0, (.t 79))]) 1022, Od 81 (.app 109 3 24 (.t 70) (.t 80)) 2047, Od 3 (.mv (.t 81)) 4095]
abbrev qat2 : List SOper := [Oa 68 (.mv (.t 10)), Oa 69 (.bin .add (.t 68) (.c (.int .i64 1))), Oa 10 (.mv (.t 69))]
def qaeb : SCode := (.seq (.seq (.reg false qat4 [1, 3, 4, 5, 9, 10, 67]) (.cond (.t 67) .skip (.exit 2))) (.seq (.block 3 (.reg true qat3 [1, 3, 4, 5, 9, 10])) (.reg false qat2 [1, 3, 4, 5, 9, 10])))
abbrev qahv : List SOper := [Oa 17 (.mv (.t 4)), Oa 18 (.bin .add (.t 17) (.c (.int .i64 1))), Oa 4 (.mv (.t 18))]
def qakg : SCode := (.seq (.seq (.reg false qa4h [1, 3, 4, 16]) (.cond (.t 16) .skip (.exit 0))) (.seq (.block 1 (.seq (.reg false qa4g [1, 3, 4, 5]) (.seq (.seq (.reg false qa4f [1, 3, 4, 5, 28]) (.cond (.t 28) (.exit 1) .skip)) (.seq (.reg false qa4e [1, 3, 4, 5, 6]) (.seq (.seq (.reg false qa4d [1, 3, 4, 5, 6, 37]) (.cond (.t 37) (.seq (.reg false qa4c [1, 3, 4, 5, 6, 7]) (.seq (.reg true qat6 [1, 3, 4, 5, 7]) (.reg false qat5 [1, 3, 4, 5]))) .skip)) (.seq (.reg false qaen [1, 3, 4, 5, 9]) (.seq (.reg false qaem [1, 3, 4, 5, 9, 10]) (.block 2 (.loop qaeb))))))))) (.reg false qahv [1, 3, 4])))
abbrev qahu : List SOper := [Oa 82 (.mv (.t 3)), Oa 2 (.mv (.t 82))]
def c_rways : SCode := (.seq (.reg false qa4k [1]) (.seq (.reg false qa4j [1, 3]) (.seq (.seq (.reg false qa4i [1, 3, 4]) (.block 0 (.loop qakg))) (.seq (.reg false qahu [2]) .ret))))
theorem qamc : comp Try.prog 83 ((Try.f58.body).getD .skip) = some c_rways.erase := by kernel_rfl
abbrev qa4t : List SOper := [Oa 1 (.box 29 (.t 0)), Oa 2 (.mv (.c .nilsl)), Oa 3 (.alloc 45 [(.int .i64 0), (.int .i64 0)])]
abbrev qa4s : List SOper := [Oa 11 (.loads 7 (.t 1)), Oc 12 18 [(.t 11)], Oa 4 (.alloc 45 [(.int .i64 0), (.int .i64 0)]), Ob (.store 2 (.t 4) (.t 12))]
abbrev qa4r : List SOper := [Oa 13 (.faddr 0 (.t 4)), Oa 14 (.load (.t 13)), Oa 15 (.bin .neq (.t 14) (.c (.int .i64 0)))]
abbrev qa4q : List SOper := [Oa 16 (.loads 2 (.t 4)), Oa 2 (.mv (.c .nilsl)), ⟨none, .store 2 (.t 3) (.t 16), none, none, 3⟩]
abbrev qa4p : List SOper := [Oa 17 (.loads 7 (.t 1)), Oc 18 58 [(.t 17)], Oa 5 (.mv (.t 18))]
abbrev qa4o : List SOper := [Oa 19 (.faddr 2 (.t 1)), Oa 20 (.load (.t 19)), Oa 21 (.len false (.t 20)), Oa 22 (.bin .add (.t 21) (.c (.int .i64 1))), Oa 23 (.mkslice 57 5 40 [(.int .u64 0), (.int .u64 0), (.int .i64 0), (.int .i64 0), (.bool false)] (.t 22) (.t 22)), Oa 6 (.mv (.t 23))]
abbrev qa4n : List SOper := [Oa 7 (.mv (.c (.int .i64 0)))]
abbrev qa4m : List SOper := [Oa 24 (.mv (.t 7)), Oa 25 (.mv (.t 5)), Oa 26 (.len false (.t 25)), Oa 27 (.bin .lss (.t 24) (.t 26))]
abbrev qa4l : List SOper := [Oa 30 (.mv (.t 6)), Oa 31 (.mv (.t 5)), Oa 32 (.mv (.t 7)), Oa 33 (.iaddr 3 (.t 31) (.t 32)), Oa 34 (.faddr 0 (.t 33)), Oa 35 (.load (.t 34)), Oa 36 (.iaddr 5 (.t 30) (.t 35)), Oa 8 (.mv (.t 36))]
abbrev qauo : List SOper := [Oa 37 (.mv (.t 8)), Oa 38 (.nilc (.t 37)), Oa 39 (.faddr 4 (.t 38)), Oa 40 (.load (.t 39)), Oa 41 (.un .not (.t 40))]
abbrev qaun : List SOper := [Oa 42 (.mv (.t 8)), Oa 43 (.mv (.t 5)), Oa 44 (.mv (.t 7)), Od 45 (.iaddr 3 (.t 43) (.t 44)) 6, Od 46 (.faddr 1 (.t 45)) 14, Od 47 (.load (.t 46)) 30, Oa 48 (.mv (.t 5)), Oa 49 (.mv (.t 7)), Od 50 (.iaddr 3 (.t 48) (.t 49)) 192, Od 51 (.faddr 1 (.t 50)) 448, Od 52 (.load (.t 51)) 960, Oa 53 (.mv (.t 5)), Oa 54 (.mv (.t 7)), Od 55 (.iaddr 3 (.t 53) (.t 54)) 6144, Od 56 (.faddr 2 (.t 55)) 14336, Od 57 (.load (.t 56)) 30720, Oa 58 (.mv (.t 5)), Oa 59 (.mv (.t 7)), Od 60 (.iaddr 3 (.t 58) (.t 59)) 196608, Od 61 (.faddr 2 (.t 60)) 458752, Od 62 (.load (.t 61)) 983040, Od 63 (.build [(.int .u64 0), (.int .u64 0), (.int .i64 0), (.int .i64 0), (.bool false)] [(0, 1, (.t 47)), (1, 1, (.t 52)), (2, 1, (.t 57)), (3, 1, (.t 62)), (4, 1, (.c (.bool true)))]) 2097150, Od 64 (.nilc (.t 42)) 4194303, ⟨none, .store 5 (.t 64) (.t 63), none, none, 8388607⟩]
abbrev qaum : List SOper := [Oa 65 (.mv (.t 8)), Oa 66 (.mv (.t 8)), Od 67 (.nilc (.t 66)) 2, Od 68 (.faddr 0 (.t 67)) 6, Od 69 (.load (.t 68)) 14, Oa 70 (.mv (.t 5)), Oa 71 (.mv (.t 7)), Od 72 (.iaddr 3 (.t 70) (.t 71)) 96, Od 73 (.faddr 1 (.t 72)) 224, Od 74 (.load (.t 73)) 480, Od 75 (.bin .and (.t 69) (.t 74)) 1022, Od 76 (.nilc (.t 65)) 2047, Od 77 (.faddr 0 (.t 76)) 4095, ⟨none, .store 1 (.t 77) (.t 75), none, none, 8191⟩]
abbrev qaul : List SOper := [Oa 78 (.mv (.t 8)), Oa 79 (.mv (.t 8)), Od 80 (.nilc (.t 79)) 2, Od 81 (.faddr 1 (.t 80)) 6, Od 82 (.load (.t 81)) 14, Oa 83 (.mv (.t 5)), Oa 84 (.mv (.t 7)), Od 85 (.iaddr 3 (.t 83) (.t 84)) 96, Od 86 (.faddr 1 (.t 85)) 224, Od 87 (.load (.t 86)) 480, Od 88 (.bin .or (.t 82) (.t 87)) 1022, Od 89 (.nilc (.t 78)) 2047, Od 90 (.faddr 1 (.t 89)) 4095, ⟨none, .store 1 (.t 90) (.t 88), none, none, 8191⟩]
abbrev qauk : List SOper := [Oa 91 (.mv (.t 5)), Oa 92 (.mv (.t 7)), Od 93 (.iaddr 3 (.t 91) (.t 92)) 3, Od 94 (.faddr 2 (.t 93)) 7, Od 95 (.load (.t 94)) 15, Oa 96 (.mv (.t 8)), Od 97 (.nilc (.t 96)) 32, Od 98 (.faddr 2 (.t 97)) 96, Od 99 (.load (.t 98)) 224, Od 100 (.bin .lss (.t 95) (.t 99)) 511]
abbrev qauj : List SOper := [Oa 101 (.mv (.t 8)), Oa 102 (.mv (.t 5)), Oa 103 (.mv (.t 7)), Oa 104 (.iaddr 3 (.t 102) (.t 103)), Oa 105 (.faddr 2 (.t 104)), Oa 106 (.load (.t 105)), Oa 107 (.nilc (.t 101)), Oa 108 (.faddr 2 (.t 107)), Ob (.store 1 (.t 108) (.t 106))]
abbrev qaui : List SOper := [Oa 109 (.mv (.t 5)), Oa 110 (.mv (.t 7)), Od 111 (.iaddr 3 (.t 109) (.t 110)) 3, Od 112 (.faddr 2 (.t 111)) 7, Od 113 (.load (.t 112)) 15, Oa 114 (.mv (.t 8)), Od 115 (.nilc (.t 114)) 32, Od 116 (.faddr 3 (.t 115)) 96, Od 117 (.load (.t 116)) 224, Od 118 (.bin .gtr (.t 113) (.t 117)) 511]
abbrev qauh : List SOper := [Oa 119 (.mv (.t 8)), Oa 120 (.mv (.t 5)), Oa 121 (.mv (.t 7)), Oa 122 (.iaddr 3 (.t 120) (.t 121)), Oa 123 (.faddr 2 (.t 122)), Oa 124 (.load (.t 123)), Oa 125 (.nilc (.t 119)), Oa 126 (.faddr 3 (.t 125)), Ob (.store 1 (.t 126) (.t 124))]
abbrev qaug : List SOper := [Oa 28 (.mv (.t 7)), Oa 29 (.bin .add (.t 28) (.c (.int .i64 1))), Oa 7 (.mv (.t 29))]
def qaki : SCode := (.seq (.seq (.reg false qa4m [1, 3, 5, 6, 7, 27]) (.cond (.t 27) .skip (.exit 0))) (.seq (.block 1 (.seq (.reg false qa4l [1, 3, 5, 6, 7, 8]) (.seq (.seq (.reg false qauo [1, 3, 5, 6, 7, 8, 41]) (.cond (.t 41) (.seq (.reg true qaun [1, 3, 5, 6, 7]) (.exit 1)) .skip)) (.seq (.reg true qaum [1, 3, 5, 6, 7, 8]) (.seq (.reg true qaul [1, 3, 5, 6, 7, 8]) (.seq (.seq (.reg true qauk [1, 3, 5, 6, 7, 8, 100]) (.cond (.t 100) (.reg false qauj [1, 3, 5, 6, 7, 8]) .skip)) (.seq (.reg true qaui [1, 3, 5, 6, 7, 8, 118]) (.cond (.t 118) (.reg false qauh [1, 3, 5, 6, 7]) .skip)))))))) (.reg false qaug [1, 3, 5, 6, 7])))
abbrev qauf : List SOper := [Oa 9 (.mv (.c (.int .i64 0)))]
abbrev qaue : List SOper := [Oa 127 (.mv (.t 9)), Oa 128 (.faddr 2 (.t 1)), Oa 129 (.load (.t 128)), Oa 130 (.len false (.t 129)), Oa 131 (.bin .lss (.t 127) (.t 130))]
abbrev qaud : List SOper := [Oa 134 (.faddr 2 (.t 1)), Oa 135 (.load (.t 134)), Oa 136 (.mv (.t 9)), Oa 137 (.iaddr 5 (.t 135) (.t 136)), Oa 138 (.loads 5 (.t 137)), Oa 10 (.alloc 65 [(.int .i64 0), (.int .i64 0), (.int .i64 0), .nilsl, (.int .i64 0)]), Ob (.store 5 (.t 10) (.t 138))]
abbrev qauc : List SOper := [Oa 139 (.mv (.t 6)), Oa 140 (.mv (.t 9)), Oa 141 (.iaddr 5 (.t 139) (.t 140)), Oa 142 (.faddr 4 (.t 141)), Oa 143 (.load (.t 142)), Oa 144 (.un .not (.t 143))]
abbrev qaub : List SOper := [Oa 145 (.faddr 0 (.t 10)), Od 146 (.load (.t 145)) 1, Od 147 (.bin .geq (.t 146) (.c (.int .i64 0))) 3, Od 148 (.mv (.t 147)) 7, Of 149 (.mv (.t 6)) 148 true 15, Of 150 (.mv (.t 9)) 148 true 15, Of 151 (.iaddr 5 (.t 149) (.t 150)) 148 true 63, Of 152 (.faddr 1 (.t 151)) 148 true 127, Of 153 (.load (.t 152)) 148 true 255, Of 154 (.faddr 0 (.t 10)) 148 true 15, Of 155 (.load (.t 154)) 148 true 527, ⟨(some 156), .mv (.c .any), some ((.c (.fn (.func 59) [] [])), [(.t 155)]), (some (148, true)), 1551⟩, Of 157 (.bin .and (.t 153) (.t 156)) 148 true 4095, Of 158 (.bin .neq (.t 157) (.c (.int .u64 0))) 148 true 8191, Od 159 (.pick (.t 148) (.t 158) (.c (.bool false))) 16383]
abbrev qaua : List SOper := [Oa 160 (.mv (.t 9)), Oa 161 (.bin .add (.c (.int .i64 3000)) (.t 160)), Oc 162 39 [(.c (.int .i64 7)), (.t 161)], Oa 2 (.mv (.c .nilsl)), Ob (.store 2 (.t 3) (.t 162))]
abbrev qat9 : List SOper := [Oa 163 (.faddr 3 (.t 10)), Od 164 (.load (.t 163)) 1, Od 165 (.len false (.t 164)) 3, Od 166 (.bin .gtr (.t 165) (.c (.int .i64 0))) 7, Od 167 (.mv (.t 166)) 15, Of 168 (.faddr 1 (.t 10)) 167 true 31, Of 169 (.faddr 0 (.t 168)) 167 true 63, Of 170 (.load (.t 169)) 167 true 127, Of 171 (.bin .geq (.t 170) (.c (.int .i64 0))) 167 true 255, Od 172 (.pick (.t 167) (.t 171) (.c (.bool false))) 511, Od 173 (.mv (.t 172)) 1023, Of 174 (.faddr 1 (.t 10)) 173 true 2047, Of 175 (.faddr 0 (.t 174)) 173 true 4095, Of 176 (.load (.t 175)) 173 true 8191, Of 177 (.faddr 0 (.t 10)) 173 true 2047, Of 178 (.load (.t 177)) 173 true 18431, Of 179 (.bin .neq (.t 176) (.t 178)) 173 true 65535, Od 180 (.pick (.t 173) (.t 179) (.c (.bool false))) 131071, Od 181 (.mv (.t 180)) 262143, Of 182 (.mv (.t 6)) 181 true 524287, Of 183 (.mv (.t 9)) 181 true 524287, Of 184 (.iaddr 5 (.t 182) (.t 183)) 181 true 2097151, Of 185 (.faddr 0 (.t 184)) 181 true 4194303, Of 186 (.load (.t 185)) 181 true 8388607, Of 187 (.faddr 1 (.t 10)) 181 true 524287, Of 188 (.faddr 0 (.t 187)) 181 true 17301503, Of 189 (.load (.t 188)) 181 true 50855935, ⟨(some 190), .mv (.c .any), some ((.c (.fn (.func 59) [] [])), [(.t 189)]), (some (181, true)), 117964799⟩, Of 191 (.bin .and (.t 186) (.t 190)) 181 true 268435455, Of 192 (.bin .eql (.t 191) (.c (.int .u64 0))) 181 true 536870911, Od 193 (.pick (.t 181) (.t 192) (.c (.bool false))) 1073741823]
abbrev qat8 : List SOper := [Oa 194 (.mv (.t 9)), Oa 195 (.bin .add (.c (.int .i64 3000)) (.t 194)), Oc 196 39 [(.c (.int .i64 12)), (.t 195)], Oa 2 (.mv (.c .nilsl)), Ob (.store 2 (.t 3) (.t 196))]
abbrev qat7 : List SOper := [Oa 132 (.mv (.t 9)), Oa 133 (.bin .add (.t 132) (.c (.int .i64 1))), Oa 9 (.mv (.t 133))]
def qakh : SCode := (.seq (.seq (.reg false qaue [1, 3, 6, 9, 131]) (.cond (.t 131) .skip (.exit 2))) (.seq (.block 3 (.seq (.reg false qaud [1, 3, 6, 9, 10]) (.seq (.seq (.reg false qauc [1, 3, 6, 9, 10, 144]) (.cond (.t 144) (.exit 3) .skip)) (.seq (.seq (.reg true qaub [1, 3, 6, 9, 10, 159]) (.cond (.t 159) (.seq (.reg false qaua [2, 3]) .ret) .skip)) (.seq (.reg true qat9 [1, 3, 6, 9, 193]) (.cond (.t 193) (.seq (.reg false qat8 [2, 3]) .ret) .skip)))))) (.reg false qat7 [1, 3, 6, 9])))
abbrev qahw : List SOper := [Oa 197 (.mv (.t 6)), Oa 198 (.build [(.int .i64 0), (.int .i64 0)] []), Oa 2 (.mv (.t 197)), Ob (.store 2 (.t 3) (.t 198))]
def c_rwalk : SCode := (.seq (.reg false qa4t [1, 3]) (.seq (.seq (.reg false qa4s [1, 3, 4]) (.seq (.reg false qa4r [1, 3, 4, 15]) (.cond (.t 15) (.seq (.reg true qa4q [2, 3]) .ret) .skip))) (.seq (.reg false qa4p [1, 3, 5]) (.seq (.reg false qa4o [1, 3, 5, 6]) (.seq (.seq (.reg false qa4n [1, 3, 5, 6, 7]) (.block 0 (.loop qaki))) (.seq (.seq (.reg false qauf [1, 3, 6, 9]) (.block 2 (.loop qakh))) (.seq (.reg false qahw [2, 3]) .ret)))))))
theorem qamd : comp Try.prog 199 ((Try.f23.body).getD .skip) = some c_rwalk.erase := by kernel_rfl
abbrev qbdi : List SOper := [Oa 0 (.alloc 29 [.nilsl, .nilsl, .nilsl, .nilsl, .nilsl, .nilsl, .nilsl])]
abbrev qbdh : List SOper := [Oa 1 (.mkrow 3 1 1 [(.int .i64 0)] [(0, (.c (.int .i64 8)))]), Oa 2 (.build [.nilsl] [(0, 1, (.t 1))]), Oa 3 (.mkrow 3 1 1 [(.int .i64 0)] [(0, (.c (.int .i64 16)))]), Oa 4 (.build [.nilsl] [(0, 1, (.t 3))]), Oa 5 (.mkrow 62 1 2 [.nilsl] [(0, (.t 2)), (1, (.t 4))]), Oa 6 (.build [(.int .i64 0), (.int .i64 0)] []), Oa 7 (.build [(.int .u64 0), (.int .u64 0), (.int .i64 0)] [(0, 1, (.c (.int .u64 1))), (1, 1, (.c (.int .u64 1))), (2, 1, (.c (.int .i64 1)))]), Oa 8 (.mkrow 95 3 1 [(.int .u64 0), (.int .u64 0), (.int .i64 0)] [(0, (.t 7))]), Oa 9 (.build [(.int .i64 0), (.int .i64 0), (.int .i64 0), .nilsl, (.int .i64 0)] [(0, 1, (.c (.int .i64 0))), (1, 2, (.t 6)), (3, 1, (.t 8)), (4, 1, (.c (.int .i64 1000)))]), Oa 10 (.build [(.int .i64 0), (.int .i64 0), (.int .i64 0), .nilsl, (.int .i64 0)] [(0, 1, (.c (.int .i64 1))), (4, 1, (.c (.int .i64 1000)))]), Oa 11 (.mkrow 65 5 2 [(.int .i64 0), (.int .i64 0), (.int .i64 0), .nilsl, (.int .i64 0)] [(0, (.t 9)), (1, (.t 10))]), Oa 12 (.mkrow 3 1 2 [(.int .i64 0)] [(0, (.c (.int .i64 0))), (1, (.c (.int .i64 1)))]), Oa 13 (.build [.nilsl, .nilsl, .nilsl, .nilsl, .nilsl, .nilsl, .nilsl] [(0, 1, (.t 5)), (2, 1, (.t 11)), (6, 1, (.t 12))]), Ob (.store 7 (.t 0) (.t 13))]
def c_two : SCode := (.seq (.reg false qbdi [0]) (.seq (.reg false qbdh [0]) .ret))
theorem qa12 : comp Try.prog 14 ((Try.f56.body).getD .skip) = some c_two.erase := by kernel_rfl
abbrev qasa : List SOper := [Oa 0 (.mv (.c (.bool false)))]
abbrev qar9 : List SOper := [Oc 4 56 [], Oc 5 22 [(.t 4)], Oa 3 (.mv (.t 5)), Oa 6 (.extr (.t 3) 0), Oa 7 (.extr (.t 3) 1), Oa 2 (.alloc 45 [(.int .i64 0), (.int .i64 0)]), Oa 1 (.mv (.t 6)), Ob (.store 2 (.t 2) (.t 7))]
abbrev qar8 : List SOper := [Oa 8 (.faddr 0 (.t 2)), Oa 9 (.load (.t 8)), Oa 10 (.bin .eql (.t 9) (.c (.int .i64 0))), Oa 11 (.mv (.t 10)), Oe 12 (.mv (.t 1)) 11 true, Oe 13 (.len false (.t 12)) 11 true, Oe 14 (.bin .eql (.t 13) (.c (.int .i64 3))) 11 true, Oa 15 (.pick (.t 11) (.t 14) (.c (.bool false))), Oa 16 (.mv (.t 15)), Oe 17 (.mv (.t 1)) 16 true, Oe 18 (.iaddr 5 (.t 17) (.c (.int .i64 2))) 16 true, Oe 19 (.faddr 0 (.t 18)) 16 true, Oe 20 (.load (.t 19)) 16 true, Oe 21 (.bin .eql (.t 20) (.c (.int .u64 1))) 16 true, Oa 22 (.pick (.t 16) (.t 21) (.c (.bool false))), Oa 23 (.mv (.t 22)), Oe 24 (.mv (.t 1)) 23 true, Oe 25 (.iaddr 5 (.t 24) (.c (.int .i64 2))) 23 true, Oe 26 (.faddr 1 (.t 25)) 23 true, Oe 27 (.load (.t 26)) 23 true, Oe 28 (.bin .eql (.t 27) (.c (.int .u64 3))) 23 true, Oa 29 (.pick (.t 23) (.t 28) (.c (.bool false))), Oa 30 (.mv (.t 29)), Oe 31 (.mv (.t 1)) 30 true, Oe 32 (.iaddr 5 (.t 31) (.c (.int .i64 2))) 30 true, Oe 33 (.faddr 2 (.t 32)) 30 true, Oe 34 (.load (.t 33)) 30 true, Oe 35 (.bin .eql (.t 34) (.c (.int .i64 1))) 30 true, Oa 36 (.pick (.t 30) (.t 35) (.c (.bool false))), Oa 37 (.mv (.t 36)), Oe 38 (.mv (.t 1)) 37 true, Oe 39 (.iaddr 5 (.t 38) (.c (.int .i64 2))) 37 true, Oe 40 (.faddr 3 (.t 39)) 37 true, Oe 41 (.load (.t 40)) 37 true, Oe 42 (.bin .eql (.t 41) (.c (.int .i64 3))) 37 true, Oa 43 (.pick (.t 37) (.t 42) (.c (.bool false))), Oa 0 (.mv (.t 43))]
def c_wbegun : SCode := (.seq (.reg false qasa []) (.seq (.reg false qar9 [1, 2]) (.seq (.reg false qar8 [0]) .ret)))
theorem qajh : comp Try.prog 44 ((Try.f21.body).getD .skip) = some c_wbegun.erase := by kernel_rfl
abbrev qa2z : List SOper := [Oa 1 (.box 29 (.t 0)), Oa 2 (.mv (.c (.bool false)))]
abbrev qa2y : List SOper := [Oc 9 21 [], Oa 10 (.un .not (.t 9))]
abbrev qa2x : List SOper := [Oa 2 (.mv (.c (.bool false)))]
abbrev qa2w : List SOper := [Oa 11 (.loads 7 (.t 1)), Oc 12 8 [(.t 11)]]
abbrev qa2v : List SOper := [Oa 2 (.mv (.c (.bool true)))]
abbrev qa2u : List SOper := [Oa 13 (.loads 7 (.t 1)), Oc 14 16 [(.t 13)], Oa 3 (.alloc 29 [.nilsl, .nilsl, .nilsl, .nilsl, .nilsl, .nilsl, .nilsl]), Ob (.store 7 (.t 3) (.t 14))]
abbrev qa2t : List SOper := [Oa 16 (.loads 7 (.t 3)), Oc 17 22 [(.t 16)], Oa 15 (.mv (.t 17)), Oa 18 (.extr (.t 15) 0), Oa 19 (.extr (.t 15) 1), Oa 5 (.alloc 45 [(.int .i64 0), (.int .i64 0)]), Oa 4 (.mv (.t 18)), Ob (.store 2 (.t 5) (.t 19))]
abbrev qa2s : List SOper := [Oa 21 (.loads 7 (.t 1)), Oc 22 23 [(.t 21)], Oa 20 (.mv (.t 22)), Oa 23 (.extr (.t 20) 0), Oa 24 (.extr (.t 20) 1), Oa 7 (.alloc 45 [(.int .i64 0), (.int .i64 0)]), Oa 6 (.mv (.t 23)), Ob (.store 2 (.t 7) (.t 24))]
abbrev qa2r : List SOper := [Oa 25 (.loads 2 (.t 5)), Oa 26 (.loads 2 (.t 7)), Oa 27 (.eqs [1, 1] true (.t 25) (.t 26)), Oa 28 (.mv (.t 27)), Oe 29 (.mv (.t 4)) 28 false, Oe 30 (.len false (.t 29)) 28 false, Oe 31 (.mv (.t 6)) 28 false, Oe 32 (.len false (.t 31)) 28 false, Oe 33 (.bin .neq (.t 30) (.t 32)) 28 false, Oa 34 (.pick (.t 28) (.c (.bool true)) (.t 33)), Oa 35 (.mv (.t 34)), Oe 36 (.loads 7 (.t 3)) 35 false, Oe 37 (.loads 7 (.t 1)) 35 false, ⟨(some 38), .mv (.c .any), some ((.c (.fn (.func 19) [] [])), [(.t 36), (.t 37), (.c (.bool false))]), (some (35, false)), 0⟩, Oe 39 (.un .not (.t 38)) 35 false, Oa 40 (.pick (.t 35) (.c (.bool true)) (.t 39))]
abbrev qar7 : List SOper := [Oa 2 (.mv (.c (.bool false)))]
abbrev qar6 : List SOper := [Oa 8 (.mv (.c (.int .i64 0)))]
abbrev qar5 : List SOper := [Oa 41 (.mv (.t 8)), Oa 42 (.mv (.t 4)), Oa 43 (.len false (.t 42)), Oa 44 (.bin .lss (.t 41) (.t 43))]
abbrev qar4 : List SOper := [Oa 47 (.mv (.t 4)), Oa 48 (.mv (.t 8)), Od 49 (.iaddr 5 (.t 47) (.t 48)) 3, Od 50 (.faddr 0 (.t 49)) 7, Od 51 (.load (.t 50)) 15, Oa 52 (.mv (.t 6)), Oa 53 (.mv (.t 8)), Od 54 (.iaddr 5 (.t 52) (.t 53)) 96, Od 55 (.faddr 0 (.t 54)) 224, Od 56 (.load (.t 55)) 480, Od 57 (.bin .neq (.t 51) (.t 56)) 1023, Od 58 (.mv (.t 57)) 2047, Of 59 (.mv (.t 4)) 58 false 4095, Of 60 (.mv (.t 8)) 58 false 4095, Of 61 (.iaddr 5 (.t 59) (.t 60)) 58 false 16383, Of 62 (.faddr 1 (.t 61)) 58 false 32767, Of 63 (.load (.t 62)) 58 false 65535, Of 64 (.mv (.t 6)) 58 false 4095, Of 65 (.mv (.t 8)) 58 false 4095, Of 66 (.iaddr 5 (.t 64) (.t 65)) 58 false 397311, Of 67 (.faddr 1 (.t 66)) 58 false 921599, Of 68 (.load (.t 67)) 58 false 1970175, Of 69 (.bin .neq (.t 63) (.t 68)) 58 false 4194303, Od 70 (.pick (.t 58) (.c (.bool true)) (.t 69)) 8388607, Od 71 (.mv (.t 70)) 16777215, Of 72 (.mv (.t 4)) 71 false 33554431, Of 73 (.mv (.t 8)) 71 false 33554431, Of 74 (.iaddr 5 (.t 72) (.t 73)) 71 false 134217727, Of 75 (.faddr 2 (.t 74)) 71 false 268435455, Of 76 (.load (.t 75)) 71 false 536870911, Of 77 (.mv (.t 6)) 71 false 33554431, Of 78 (.mv (.t 8)) 71 false 33554431, Of 79 (.iaddr 5 (.t 77) (.t 78)) 71 false 3254779903, Of 80 (.faddr 2 (.t 79)) 71 false 7549747199, Of 81 (.load (.t 80)) 71 false 16139681791, Of 82 (.bin .neq (.t 76) (.t 81)) 71 false 34359738367, Od 83 (.pick (.t 71) (.c (.bool true)) (.t 82)) 68719476735, Od 84 (.mv (.t 83)) 137438953471, Of 85 (.mv (.t 4)) 84 false 274877906943, Of 86 (.mv (.t 8)) 84 false 274877906943, Of 87 (.iaddr 5 (.t 85) (.t 86)) 84 false 1099511627775, Of 88 (.faddr 3 (.t 87)) 84 false 2199023255551, Of 89 (.load (.t 88)) 84 false 4398046511103, Of 90 (.mv (.t 6)) 84 false 274877906943, Of 91 (.mv (.t 8)) 84 false 274877906943, Of 92 (.iaddr 5 (.t 90) (.t 91)) 84 false 26663156973567, Of 93 (.faddr 3 (.t 92)) 84 false 61847529062399, Of 94 (.load (.t 93)) 84 false 132216273240063, Of 95 (.bin .neq (.t 89) (.t 94)) 84 false 281474976710655, Od 96 (.pick (.t 84) (.c (.bool true)) (.t 95)) 562949953421311, Od 97 (.mv (.t 96)) 1125899906842623, Of 98 (.mv (.t 4)) 97 false 2251799813685247, Of 99 (.mv (.t 8)) 97 false 2251799813685247, Of 100 (.iaddr 5 (.t 98) (.t 99)) 97 false 9007199254740991, Of 101 (.faddr 4 (.t 100)) 97 false 18014398509481983, Of 102 (.load (.t 101)) 97 false 36028797018963967, Of 103 (.mv (.t 6)) 97 false 2251799813685247, Of 104 (.mv (.t 8)) 97 false 2251799813685247, Of 105 (.iaddr 5 (.t 103) (.t 104)) 97 false 218424581927469055, Of 106 (.faddr 4 (.t 105)) 97 false 506654958079180799, Of 107 (.load (.t 106)) 97 false 1083115710382604287, Of 108 (.eq 0 true (.t 102) (.t 107)) 97 false 2305843009213693951, Od 109 (.pick (.t 97) (.c (.bool true)) (.t 108)) 4611686018427387903]
abbrev qar3 : List SOper := [Oa 2 (.mv (.c (.bool false)))]
abbrev qar2 : List SOper := [Oa 45 (.mv (.t 8)), Oa 46 (.bin .add (.t 45) (.c (.int .i64 1))), Oa 8 (.mv (.t 46))]
def qajw : SCode := (.seq (.seq (.reg false qar5 [4, 6, 8, 44]) (.cond (.t 44) .skip (.exit 0))) (.seq (.block 1 (.seq (.reg true qar4 [4, 6, 8, 109]) (.cond (.t 109) (.seq (.reg false qar3 [2]) .ret) .skip))) (.reg false qar2 [4, 6, 8])))
abbrev qar1 : List SOper := [Oa 2 (.mv (.c (.bool true)))]
def c_wdoes : SCode := (.seq (.reg false qa2z [1]) (.seq (.seq (.reg false qa2y [1, 10]) (.cond (.t 10) (.seq (.reg false qa2x [2]) .ret) .skip)) (.seq (.seq (.reg false qa2w [1, 12]) (.cond (.t 12) (.seq (.reg false qa2v [2]) .ret) .skip)) (.seq (.reg false qa2u [1, 3]) (.seq (.reg false qa2t [1, 3, 4, 5]) (.seq (.reg false qa2s [1, 3, 4, 5, 6, 7]) (.seq (.seq (.reg false qa2r [4, 6, 40]) (.cond (.t 40) (.seq (.reg false qar7 [2]) .ret) .skip)) (.seq (.seq (.reg false qar6 [4, 6, 8]) (.block 0 (.loop qajw))) (.seq (.reg false qar1 [2]) .ret)))))))))
theorem qal5 : comp Try.prog 110 ((Try.f5.body).getD .skip) = some c_wdoes.erase := by kernel_rfl
end Go.Proofs.Ytnfjldobjgdiaaa
