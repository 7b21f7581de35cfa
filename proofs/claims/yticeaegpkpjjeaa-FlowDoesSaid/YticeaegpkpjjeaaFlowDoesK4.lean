/-
  Texts joined: XPlnJ XCplt XPlnK XPlnL XWlkA XWlkB XFlwA XFlwB XCflw. No condition.
-/
import Derived.Test.YticeaegpkpjjeaaProg
import Derived.ProofKit
import Derived.WalkSpells
import Derived.RegionTactic
import Derived.BigRegion
import Derived.Deep.RegionLaw
import Derived.Test.YticeaegpkpjjeaaFlowDoesK3
namespace Go.Proofs.Yticeaegpkpjjeaa
set_option linter.all false
open Go.RowKit
attribute [local simp] qabg qabf qaas qaa3 qaat qaa2 qabd qabe qaan qabo SOp.run SX.ev putd puts argS upds SOp.touch SSt.keep SSt.skip gets geth puth delh idOf SV.cells? setL qac6 qac7 sbin eq0 eq1 eqL qac1 qab1 qab2 qaap qabh qaag qabi qabp qaai qaao FrzOk qaa7 qaa0 qaa5 qaa6 qaau qaaz qabl qaa1 qaaw qaa8 qaav frzS frzH frz frz1 frz0 SlotsM ObjsM ObjM rn ren ren1 ren0 qabt qab6 qab9 qabs qabm qaca qab8 CoL qaa9 qacb dels adds idsH qabx
attribute [local simp] qadr refc qael qaed qab7 opc actc tabc qady qacl nums jc
theorem qacm (g c at_ : Int) : qab3 0 g true c at_ = (c, at_) := rfl
theorem qabr (a b c at_ : Int) : qab3 a b false c at_ = (a, b) := by simp [qab3]
theorem qafh (p : PlanD) (i to_ e g R at_ : Int) : orF (e, g) (if toF p i to_ = 0 then R else toF p i to_, at_) = orF (qab3 (qab3 e g (decide (to_ < 0) || decide ((p.nodes.length : Int) < to_)) 1 at_).1 (qab3 e g (decide (to_ < 0) || decide ((p.nodes.length : Int) < to_)) 1 at_).2 (decide (to_ ≤ i)) 11 at_) (R, at_) := by
 unfold toF orF qab3
 by_cases h1 : to_ < 0 <;> by_cases h2 : (p.nodes.length : Int) < to_ <;> by_cases h3 : to_ ≤ i <;> by_cases he : e = 0 <;> by_cases hr : R = 0 <;> simp [h1, h2, h3, he, hr]
def qati (p : PlanD) (i : Int) (n : NodeD) : Int :=
 if n.kind = 1 then (if (decide (n.n < 0) || decide ((p.tabs.length : Int) ≤ n.n)) = true then 1 else qack (toF p i) ([n.yes].drop 0))
 else if n.kind = 2 then (if (decide (n.n < 0) || decide ((p.acts.length : Int) ≤ n.n)) = true then 1 else if decide (0 < ((actW p.acts n.n).length : Int)) = true then 2 else qack (toF p i) ([n.yes].drop 0))
 else if n.kind = 3 then (if qafg p n.e [] = 0 then qack (toF p i) ([n.yes, n.no].drop 0) else qafg p n.e [])
 else if n.kind = 4 then (if (!qacy p n.n) = true then 1 else qack (toF p i) ([n.yes, n.no].drop 0))
 else 5
theorem first1 (f : Int → Int) (x : Int) : qack f ([x].drop 0) = f x := by
 unfold qack; simp only [List.drop_zero]; unfold qack
 by_cases h : f x = 0 <;> simp [h]
theorem first2 (f : Int → Int) (x y : Int) : qack f ([x, y].drop 0) = if f x ≠ 0 then f x else f y := by
 simp only [List.drop_zero, qack]
 by_cases h : f x = 0 <;> by_cases h2 : f y = 0 <;> simp [h, h2]
theorem qar6 (p : PlanD) (i : Int) (n : NodeD) : qanl p i n = qati p i n := by
 have e1 : ∀ (b c : Prop) [Decidable b] [Decidable c], ((decide b || decide c) = true) = (b ∨ c) := fun b c _ _ => by simp
 unfold qanl qati
 by_cases k1 : n.kind = 1
 ·rw [if_pos k1, if_pos k1, first1]; simp only [e1]
 rw [if_neg k1, if_neg k1]
 by_cases k2 : n.kind = 2
 ·rw [if_pos k2, if_pos k2, first1]; simp only [e1, decide_eq_true_eq]
  have : (0 < (actW p.acts n.n).length) = (0 < ((actW p.acts n.n).length : Int)) := propext (by omega)
  simp only [this]
 rw [if_neg k2, if_neg k2]
 by_cases k3 : n.kind = 3
 ·rw [if_pos k3, if_pos k3, first2]; simp only [ne_eq, ite_not]
 rw [if_neg k3, if_neg k3]
 by_cases k4 : n.kind = 4
 ·rw [if_pos k4, if_pos k4, first2]
  cases qacy p n.n <;> rfl
 rw [if_neg k4, if_neg k4]
def qadt (p : PlanD) (i : Int) (l : List Int) : Int := qack (toF p i) l
set_option maxHeartbeats 8000000 in
theorem qbkc (p : PlanD) (hs : SmallP p) (a b : Int) : SCalls Try.prog 87 [.ptr 0 0] [(0, .cells 179 (jc p a b))] 1 (.tup []) [(0, .cells 179 (jc p (orF (a, b) (qadm p)).1 (orF (a, b) (qadm p)).2))] := by
 refine qaax (N := 162) Try.func87 rfl rfl (by kernel_rfl) qak3 (by simp) (by repeat' (first | exact trivial | refine And.intro ?_ ?_ | rfl | decide | exact PureR.ren _)) (by repeat' (first | exact trivial | refine And.intro ?_ ?_ | rfl | decide | exact PureR.ren _)) ?_
 rintro X hP hN hm
 have hF : orF (a, b) (qadm p) = orF (qab3 a b (decide (10 < (p.nodes.length : Int))) 2 (-6)) (rowF (fun i n => qanl p i n) 6000 0 p.nodes) := by
  unfold qadm; rw [qaeq]; congr 3; exact propext (by omega)
 generalize orF (a, b) (qadm p) = F at hF
 replace hF := Lib.hid hF
 have hla := hs.nodes
 have hla2 := hs.acts
 unfold c_jnodes
 repeat' (first | (with_reducible refine zA ?_) | ((with_reducible refine qaac ?_); (try rw [hP]); simp -implicitDefEqProofs [*]) | (refine qabv (qabk p _ _ _ _ _ _ _ (by simp)) ⟨rfl, trivial⟩ ⟨rfl, trivial⟩ ?_; simp -implicitDefEqProofs [*]) | fail)
 refine qaal (qabb (fun s (x : Nat × Int × Int) => s.turn [(2, .int .i64 x.1)] [(0, .cells 179 (jc p x.2.1 x.2.2))]) (fun x => x.1 ≤ p.nodes.length ∧ F = orF (x.2.1, x.2.2) (rowF (fun i n => qanl p i n) 6000 x.1 (p.nodes.drop x.1))) (fun x => p.nodes.length - x.1) (0, _, _) ?_ ⟨by simp, hF⟩ ?_)
 ·repeat' (first | ((with_reducible refine qaah [] hm ?_ ?_ ?_ ?_) <;> (try simp only [zT, puth, Nat.reduceEqDiff, reduceIte, Nat.reduceAdd])) | (with_reducible first | refine za ?_ ?_ | refine zb ?_ ?_ ?_ ?_) | (with_reducible first | exact qaab | exact qaad) | ((with_reducible first | refine zga ?_ | refine zgb ?_); rfl) | ((with_reducible refine zgd ?_); (first | omega | (simp; done))) | (exact Co.refl _) | (exact CoL.refl _) | fail)
 rintro J hJ ⟨i, e, g⟩ ⟨h1, h2⟩
 have hJo := hJ
 unfold qajc
 simp only [zT, puth, Nat.reduceEqDiff, reduceIte, Nat.reduceAdd] at h1 h2 ⊢
 rcases Nat.lt_or_ge i p.nodes.length with hi | hi
 ·have hxm : p.nodes[i] ∈ p.nodes := List.getElem_mem hi
  have hw := hs.node _ hxm
  rw [qadf _ _ hi] at h2
  generalize hxx : p.nodes[i] = x at h2 hw
  by_cases he : e = 0
  ·subst he
   rw [qaeo] at h2
   have wi : IntKind.i64.wrap ((i : Int) + 1) = (i : Int) + 1 := qaaq (by omega) (by omega)
   have wa : IntKind.i64.wrap (6000 + (i : Int)) = 6000 + (i : Int) := qaaq (by omega) (by omega)
   have hA : orF (0, g) (qanl p i x, 6000 + (i : Int)) = orF (0, g) (qati p i x, 6000 + (i : Int)) := by rw [qar6]
   generalize orF (0, g) (qanl p i x, 6000 + (i : Int)) = A at hA h2
   replace h2 := Lib.hid h2
   unfold qati at hA
   have kinds : (x.kind = 1 ∨ x.kind = 2) ∨ (¬ x.kind = 1 ∧ ¬ x.kind = 2) := by omega
   rcases kinds with k | ⟨kn1, kn2⟩
   ·have hA2 : (x.kind = 1 ∧ A = orF (qab3 0 g (decide (x.n < 0) || decide ((p.tabs.length : Int) ≤ x.n)) 1 (6000 + i)) (qadt p i ([x.yes].drop 0), 6000 + (i : Int))) ∨ (x.kind = 2 ∧ x.n < 0 ∧ A = (1, 6000 + (i : Int))) ∨ (x.kind = 2 ∧ (p.acts.length : Int) ≤ x.n ∧ 0 ≤ x.n ∧ A = (1, 6000 + (i : Int))) ∨ (x.kind = 2 ∧ 0 ≤ x.n ∧ x.n < p.acts.length ∧ A = orF (qab3 0 g (decide (0 < ((actW p.acts x.n).length : Int))) 2 (6000 + i)) (qadt p i ([x.yes].drop 0), 6000 + (i : Int))) := by
     rcases k with k | k
     ·rw [if_pos k, qac0 _ _ _ _ _ _ (by decide)] at hA
      exact .inl ⟨k, hA⟩
     ·rw [if_neg (by omega), if_pos k] at hA
      by_cases n1 : x.n < 0
      ·refine .inr (.inl ⟨k, n1, ?_⟩)
       rw [hA, if_pos (by simp [n1])]; rfl
      ·by_cases n2 : (p.acts.length : Int) ≤ x.n
       ·refine .inr (.inr (.inl ⟨k, n2, by omega, ?_⟩))
        rw [hA, if_pos (by simp [n2])]; rfl
       ·refine .inr (.inr (.inr ⟨k, by omega, by omega, ?_⟩))
        rw [hA, if_neg (by simp [n1, n2]), qac0 _ _ _ _ _ _ (by decide)]; rfl
    clear hA k
    rcases hA2 with ⟨k, hA⟩ | ⟨k, n1, hA⟩ | ⟨k, n2, n1, hA⟩ | ⟨k, n1, n2, hA⟩
    ·have k1 : (x.kind == 1) = true := by simpa using k
     replace k := Lib.hid k
     cases kn : decide (x.n < 0) <;> simp only [kn, Bool.true_or, Bool.false_or] at hA <;> have hI := hA <;> replace hI := Lib.hid hI <;> clear hA
     all_goals
      repeat' (first | (with_reducible first | refine zA ?_ | refine qaae ?_ | refine zK ?_) | ((with_reducible first | refine qaac ?_ | refine qaa4 (by rw [hP]; exact qacr) ?_); (try rw [hP]); simp -implicitDefEqProofs [qacm, qabr, *]) | ((with_reducible refine qaaf ?_); (try simp -implicitDefEqProofs [qacm, qabr, *])) | ((with_reducible refine qaaa rfl (fun h => ?_) (fun h => ?_)) <;> have h' := h <;> (try simp at h') <;> (try subst h')) | (refine qabv (qabk p _ _ _ _ _ _ _ (by simp)) ⟨rfl, trivial⟩ ⟨rfl, trivial⟩ ?_; simp -implicitDefEqProofs [qacm, qabr, *]) | fail)
      refine qaal (qabb (fun s (y : Nat × Int × Int) => s.turn [(136, .int .i64 y.1)] [(0, .cells 179 (jc p y.2.1 y.2.2))]) (fun y => y.1 ≤ 1 ∧ A = orF (y.2.1, y.2.2) (qadt p i ([x.yes].drop y.1), 6000 + (i : Int))) (fun y => 1 - y.1) (0, _, _) ?_ ⟨by simp, hI.out⟩ ?_)
      ·repeat' (first | ((with_reducible refine qaah [] hm ?_ ?_ ?_ ?_) <;> (try simp only [zT, puth, Nat.reduceEqDiff, reduceIte, Nat.reduceAdd])) | (with_reducible first | refine za ?_ ?_ | refine zb ?_ ?_ ?_ ?_ | refine zd ?_ ?_ ?_ ?_) | (with_reducible first | exact qaab | exact qaad) | ((with_reducible first | refine zga ?_ | refine zgb ?_); rfl) | ((with_reducible refine zgd ?_); (first | omega | (simp; done))) | (exact Co.refl _) | (exact CoL.refl _) | (exact CoLL.refl _) | fail)
      rintro J hJ ⟨k, e1, g1⟩ ⟨h3, h4⟩
      unfold qadg
      simp only [zT, puth, Nat.reduceEqDiff, reduceIte, Nat.reduceAdd] at h3 h4 ⊢
      have hk : k = 0 ∨ k = 1 := by omega
      rcases hk with rfl | rfl
      ·have h5 := h4.trans (qafh p i x.yes e1 g1 (qadt p i []) (6000 + (i : Int)))
       clear h4
       cases kd : decide (x.yes < 0) <;> simp only [kd, Bool.true_or, Bool.false_or] at h5 <;> replace h5 := Lib.hid h5
       all_goals
        repeat' (first | (with_reducible first | refine zA ?_ | refine qaae ?_) | ((with_reducible refine qaac ?_); (try rw [hP]); simp -implicitDefEqProofs [*]) | ((with_reducible refine qaaf ?_); (try simp -implicitDefEqProofs [*])) | ((with_reducible refine qaaa rfl (fun h => ?_) (fun h => ?_)) <;> have h' := h <;> (try simp at h') <;> (try subst h')) | (refine qabv (qabk p _ _ _ _ _ _ _ (by simp)) ⟨rfl, trivial⟩ ⟨rfl, trivial⟩ ?_; simp -implicitDefEqProofs [*]) | (with_reducible first | refine za ?_ ?_ | refine zb ?_ ?_ ?_ ?_ | refine zd ?_ ?_ ?_ ?_) | (with_reducible first | exact qaab | exact qaad) | ((with_reducible first | refine zga ?_ | refine zgb ?_); rfl) | ((with_reducible first | refine zgd ?_ | refine zge ?_); (first | omega | (simp; done))) | (exact Co.refl _) | (exact CoL.refl _) | (exact CoLL.refl _) | ((refine qaaj hJ (1, ?_, ?_) ?_ ?_ ?_; rotate_left 2; (with_reducible refine qaah [] hm ?_ ?_ ?_ ?_) <;> (try simp only [zT, puth, Nat.reduceEqDiff, reduceIte, Nat.reduceAdd]))) | fail)
        all_goals (try dsimp only)
        all_goals (exact ⟨by omega, h5.out⟩)
      ·replace h4 := Lib.hid h4
       repeat' (first | (with_reducible refine zA ?_) | ((with_reducible refine qaac ?_); (try rw [hP]); simp -implicitDefEqProofs [*]) | ((with_reducible refine qaak ?_); (try simp -implicitDefEqProofs [*])) | ((with_reducible refine qaaa rfl (fun h => ?_) (fun h => ?_)) <;> have h' := h <;> (try simp at h') <;> (try subst h')) | (with_reducible first | refine za ?_ ?_ | refine zb ?_ ?_ ?_ ?_) | (with_reducible first | exact qaab | exact qaad) | ((with_reducible first | refine zga ?_ | refine zgb ?_); rfl) | ((with_reducible first | refine zgd ?_ | refine zge ?_); (first | omega | (simp; done))) | (exact Co.refl _) | (exact CoL.refl _) | ((refine qaaj hJo (i + 1, ?_, ?_) ?_ ?_ ?_; rotate_left 2; (with_reducible refine qaah [] hm ?_ ?_ ?_ ?_) <;> (try simp only [zT, puth, Nat.reduceEqDiff, reduceIte, Nat.reduceAdd]))) | fail)
       all_goals (try dsimp only)
       all_goals (refine ⟨by omega, ?_⟩; rw [h2.out]; congr 1; rw [h4.out]; exact qach _ rfl)
    ·have k1 : (x.kind == 1) = false := by rw [k]; rfl
     have k2 : (x.kind == 2) = true := by simpa using k
     have kn : decide (x.n < 0) = true := by simpa using n1
     have hI : A = orF (1, 6000 + (i : Int)) (qadt p i ([x.yes].drop 0), 6000 + (i : Int)) := hA
     clear k n1 hA
     replace hI := Lib.hid hI
     repeat' (first | (with_reducible first | refine zA ?_ | refine qaae ?_ | refine zK ?_) | ((with_reducible first | refine qaac ?_ | refine qaa4 (by rw [hP]; exact qacr) ?_); (try rw [hP]); simp -implicitDefEqProofs [qacm, qabr, *]) | ((with_reducible refine qaaf ?_); (try simp -implicitDefEqProofs [qacm, qabr, *])) | ((with_reducible refine qaaa rfl (fun h => ?_) (fun h => ?_)) <;> have h' := h <;> (try simp at h') <;> (try subst h')) | (refine qabv (qabk p _ _ _ _ _ _ _ (by simp)) ⟨rfl, trivial⟩ ⟨rfl, trivial⟩ ?_; simp -implicitDefEqProofs [qacm, qabr, *]) | fail)
     refine qaal (qabb (fun s (y : Nat × Int × Int) => s.turn [(136, .int .i64 y.1)] [(0, .cells 179 (jc p y.2.1 y.2.2))]) (fun y => y.1 ≤ 1 ∧ A = orF (y.2.1, y.2.2) (qadt p i ([x.yes].drop y.1), 6000 + (i : Int))) (fun y => 1 - y.1) (0, _, _) ?_ ⟨by simp, hI.out⟩ ?_)
     ·repeat' (first | ((with_reducible refine qaah [] hm ?_ ?_ ?_ ?_) <;> (try simp only [zT, puth, Nat.reduceEqDiff, reduceIte, Nat.reduceAdd])) | (with_reducible first | refine za ?_ ?_ | refine zb ?_ ?_ ?_ ?_ | refine zd ?_ ?_ ?_ ?_) | (with_reducible first | exact qaab | exact qaad) | ((with_reducible first | refine zga ?_ | refine zgb ?_); rfl) | ((with_reducible refine zgd ?_); (first | omega | (simp; done))) | (exact Co.refl _) | (exact CoL.refl _) | (exact CoLL.refl _) | fail)
     rintro J hJ ⟨k, e1, g1⟩ ⟨h3, h4⟩
     unfold qadg
     simp only [zT, puth, Nat.reduceEqDiff, reduceIte, Nat.reduceAdd] at h3 h4 ⊢
     have hk : k = 0 ∨ k = 1 := by omega
     rcases hk with rfl | rfl
     ·have h5 := h4.trans (qafh p i x.yes e1 g1 (qadt p i []) (6000 + (i : Int)))
      clear h4
      cases kd : decide (x.yes < 0) <;> simp only [kd, Bool.true_or, Bool.false_or] at h5 <;> replace h5 := Lib.hid h5
      all_goals
       repeat' (first | (with_reducible first | refine zA ?_ | refine qaae ?_) | ((with_reducible refine qaac ?_); (try rw [hP]); simp -implicitDefEqProofs [*]) | ((with_reducible refine qaaf ?_); (try simp -implicitDefEqProofs [*])) | ((with_reducible refine qaaa rfl (fun h => ?_) (fun h => ?_)) <;> have h' := h <;> (try simp at h') <;> (try subst h')) | (refine qabv (qabk p _ _ _ _ _ _ _ (by simp)) ⟨rfl, trivial⟩ ⟨rfl, trivial⟩ ?_; simp -implicitDefEqProofs [*]) | (with_reducible first | refine za ?_ ?_ | refine zb ?_ ?_ ?_ ?_ | refine zd ?_ ?_ ?_ ?_) | (with_reducible first | exact qaab | exact qaad) | ((with_reducible first | refine zga ?_ | refine zgb ?_); rfl) | ((with_reducible first | refine zgd ?_ | refine zge ?_); (first | omega | (simp; done))) | (exact Co.refl _) | (exact CoL.refl _) | (exact CoLL.refl _) | ((refine qaaj hJ (1, ?_, ?_) ?_ ?_ ?_; rotate_left 2; (with_reducible refine qaah [] hm ?_ ?_ ?_ ?_) <;> (try simp only [zT, puth, Nat.reduceEqDiff, reduceIte, Nat.reduceAdd]))) | fail)
       all_goals (try dsimp only)
       all_goals (exact ⟨by omega, h5.out⟩)
     ·replace h4 := Lib.hid h4
      repeat' (first | (with_reducible refine zA ?_) | ((with_reducible refine qaac ?_); (try rw [hP]); simp -implicitDefEqProofs [*]) | ((with_reducible refine qaak ?_); (try simp -implicitDefEqProofs [*])) | ((with_reducible refine qaaa rfl (fun h => ?_) (fun h => ?_)) <;> have h' := h <;> (try simp at h') <;> (try subst h')) | (with_reducible first | refine za ?_ ?_ | refine zb ?_ ?_ ?_ ?_) | (with_reducible first | exact qaab | exact qaad) | ((with_reducible first | refine zga ?_ | refine zgb ?_); rfl) | ((with_reducible first | refine zgd ?_ | refine zge ?_); (first | omega | (simp; done))) | (exact Co.refl _) | (exact CoL.refl _) | ((refine qaaj hJo (i + 1, ?_, ?_) ?_ ?_ ?_; rotate_left 2; (with_reducible refine qaah [] hm ?_ ?_ ?_ ?_) <;> (try simp only [zT, puth, Nat.reduceEqDiff, reduceIte, Nat.reduceAdd]))) | fail)
      all_goals (try dsimp only)
      all_goals (refine ⟨by omega, ?_⟩; rw [h2.out]; congr 1; rw [h4.out]; exact qach _ rfl)
    ·have k1 : (x.kind == 1) = false := by rw [k]; rfl
     have k2 : (x.kind == 2) = true := by simpa using k
     have kn : decide (x.n < 0) = false := by simpa using n1
     have kn2 : decide ((p.acts.length : Int) ≤ x.n) = true := by simpa using n2
     have hI : A = orF (1, 6000 + (i : Int)) (qadt p i ([x.yes].drop 0), 6000 + (i : Int)) := hA
     clear k n1 n2 hA
     replace hI := Lib.hid hI
     repeat' (first | (with_reducible first | refine zA ?_ | refine qaae ?_ | refine zK ?_) | ((with_reducible first | refine qaac ?_ | refine qaa4 (by rw [hP]; exact qacr) ?_); (try rw [hP]); simp -implicitDefEqProofs [qacm, qabr, *]) | ((with_reducible refine qaaf ?_); (try simp -implicitDefEqProofs [qacm, qabr, *])) | ((with_reducible refine qaaa rfl (fun h => ?_) (fun h => ?_)) <;> have h' := h <;> (try simp at h') <;> (try subst h')) | (refine qabv (qabk p _ _ _ _ _ _ _ (by simp)) ⟨rfl, trivial⟩ ⟨rfl, trivial⟩ ?_; simp -implicitDefEqProofs [qacm, qabr, *]) | fail)
     refine qaal (qabb (fun s (y : Nat × Int × Int) => s.turn [(136, .int .i64 y.1)] [(0, .cells 179 (jc p y.2.1 y.2.2))]) (fun y => y.1 ≤ 1 ∧ A = orF (y.2.1, y.2.2) (qadt p i ([x.yes].drop y.1), 6000 + (i : Int))) (fun y => 1 - y.1) (0, _, _) ?_ ⟨by simp, hI.out⟩ ?_)
     ·repeat' (first | ((with_reducible refine qaah [] hm ?_ ?_ ?_ ?_) <;> (try simp only [zT, puth, Nat.reduceEqDiff, reduceIte, Nat.reduceAdd])) | (with_reducible first | refine za ?_ ?_ | refine zb ?_ ?_ ?_ ?_ | refine zd ?_ ?_ ?_ ?_) | (with_reducible first | exact qaab | exact qaad) | ((with_reducible first | refine zga ?_ | refine zgb ?_); rfl) | ((with_reducible refine zgd ?_); (first | omega | (simp; done))) | (exact Co.refl _) | (exact CoL.refl _) | (exact CoLL.refl _) | fail)
     rintro J hJ ⟨k, e1, g1⟩ ⟨h3, h4⟩
     unfold qadg
     simp only [zT, puth, Nat.reduceEqDiff, reduceIte, Nat.reduceAdd] at h3 h4 ⊢
     have hk : k = 0 ∨ k = 1 := by omega
     rcases hk with rfl | rfl
     ·have h5 := h4.trans (qafh p i x.yes e1 g1 (qadt p i []) (6000 + (i : Int)))
      clear h4
      cases kd : decide (x.yes < 0) <;> simp only [kd, Bool.true_or, Bool.false_or] at h5 <;> replace h5 := Lib.hid h5
      all_goals
       repeat' (first | (with_reducible first | refine zA ?_ | refine qaae ?_) | ((with_reducible refine qaac ?_); (try rw [hP]); simp -implicitDefEqProofs [*]) | ((with_reducible refine qaaf ?_); (try simp -implicitDefEqProofs [*])) | ((with_reducible refine qaaa rfl (fun h => ?_) (fun h => ?_)) <;> have h' := h <;> (try simp at h') <;> (try subst h')) | (refine qabv (qabk p _ _ _ _ _ _ _ (by simp)) ⟨rfl, trivial⟩ ⟨rfl, trivial⟩ ?_; simp -implicitDefEqProofs [*]) | (with_reducible first | refine za ?_ ?_ | refine zb ?_ ?_ ?_ ?_ | refine zd ?_ ?_ ?_ ?_) | (with_reducible first | exact qaab | exact qaad) | ((with_reducible first | refine zga ?_ | refine zgb ?_); rfl) | ((with_reducible first | refine zgd ?_ | refine zge ?_); (first | omega | (simp; done))) | (exact Co.refl _) | (exact CoL.refl _) | (exact CoLL.refl _) | ((refine qaaj hJ (1, ?_, ?_) ?_ ?_ ?_; rotate_left 2; (with_reducible refine qaah [] hm ?_ ?_ ?_ ?_) <;> (try simp only [zT, puth, Nat.reduceEqDiff, reduceIte, Nat.reduceAdd]))) | fail)
       all_goals (try dsimp only)
       all_goals (exact ⟨by omega, h5.out⟩)
     ·replace h4 := Lib.hid h4
      repeat' (first | (with_reducible refine zA ?_) | ((with_reducible refine qaac ?_); (try rw [hP]); simp -implicitDefEqProofs [*]) | ((with_reducible refine qaak ?_); (try simp -implicitDefEqProofs [*])) | ((with_reducible refine qaaa rfl (fun h => ?_) (fun h => ?_)) <;> have h' := h <;> (try simp at h') <;> (try subst h')) | (with_reducible first | refine za ?_ ?_ | refine zb ?_ ?_ ?_ ?_) | (with_reducible first | exact qaab | exact qaad) | ((with_reducible first | refine zga ?_ | refine zgb ?_); rfl) | ((with_reducible first | refine zgd ?_ | refine zge ?_); (first | omega | (simp; done))) | (exact Co.refl _) | (exact CoL.refl _) | ((refine qaaj hJo (i + 1, ?_, ?_) ?_ ?_ ?_; rotate_left 2; (with_reducible refine qaah [] hm ?_ ?_ ?_ ?_) <;> (try simp only [zT, puth, Nat.reduceEqDiff, reduceIte, Nat.reduceAdd]))) | fail)
      all_goals (try dsimp only)
      all_goals (refine ⟨by omega, ?_⟩; rw [h2.out]; congr 1; rw [h4.out]; exact qach _ rfl)
    ·have k1 : (x.kind == 1) = false := by rw [k]; rfl
     have k2 : (x.kind == 2) = true := by simpa using k
     have kn : decide (x.n < 0) = false := by simpa using n1
     have kn2 : decide ((p.acts.length : Int) ≤ x.n) = false := by simpa using n2
     have hlt : x.n.toNat < p.acts.length := by omega
     have hI := hA
     have : actW p.acts x.n = p.acts[x.n.toNat].w := by unfold actW; rw [List.getElem?_eq_getElem hlt]; rfl
     rw [this] at hI
     generalize hB : p.acts[x.n.toNat] = B at hI
     rw [show decide (0 < (B.w.length : Int)) = decide (0 < B.w.length) from decide_eq_decide.2 (by omega)] at hI
     clear k this hA
     replace hI := Lib.hid hI
     repeat' (first | (with_reducible first | refine zA ?_ | refine qaae ?_ | refine zK ?_) | ((with_reducible first | refine qaac ?_ | refine qaa4 (by rw [hP]; exact qacr) ?_); (try rw [hP]); simp -implicitDefEqProofs [qacm, qabr, *]) | ((with_reducible refine qaaf ?_); (try simp -implicitDefEqProofs [qacm, qabr, *])) | ((with_reducible refine qaaa rfl (fun h => ?_) (fun h => ?_)) <;> have h' := h <;> (try simp at h') <;> (try subst h')) | (refine qabv (qabk p _ _ _ _ _ _ _ (by simp)) ⟨rfl, trivial⟩ ⟨rfl, trivial⟩ ?_; simp -implicitDefEqProofs [qacm, qabr, *]) | fail)
     refine qaal (qabb (fun s (y : Nat × Int × Int) => s.turn [(136, .int .i64 y.1)] [(0, .cells 179 (jc p y.2.1 y.2.2))]) (fun y => y.1 ≤ 1 ∧ A = orF (y.2.1, y.2.2) (qadt p i ([x.yes].drop y.1), 6000 + (i : Int))) (fun y => 1 - y.1) (0, _, _) ?_ ⟨by simp, hI.out⟩ ?_)
     ·repeat' (first | ((with_reducible refine qaah [] hm ?_ ?_ ?_ ?_) <;> (try simp only [zT, puth, Nat.reduceEqDiff, reduceIte, Nat.reduceAdd])) | (with_reducible first | refine za ?_ ?_ | refine zb ?_ ?_ ?_ ?_ | refine zd ?_ ?_ ?_ ?_) | (with_reducible first | exact qaab | exact qaad) | ((with_reducible first | refine zga ?_ | refine zgb ?_); rfl) | ((with_reducible refine zgd ?_); (first | omega | (simp; done))) | (exact Co.refl _) | (exact CoL.refl _) | (exact CoLL.refl _) | fail)
     rintro J hJ ⟨k, e1, g1⟩ ⟨h3, h4⟩
     unfold qadg
     simp only [zT, puth, Nat.reduceEqDiff, reduceIte, Nat.reduceAdd] at h3 h4 ⊢
     have hk : k = 0 ∨ k = 1 := by omega
     rcases hk with rfl | rfl
     ·have h5 := h4.trans (qafh p i x.yes e1 g1 (qadt p i []) (6000 + (i : Int)))
      clear h4
      cases kd : decide (x.yes < 0) <;> simp only [kd, Bool.true_or, Bool.false_or] at h5 <;> replace h5 := Lib.hid h5
      all_goals
       repeat' (first | (with_reducible first | refine zA ?_ | refine qaae ?_) | ((with_reducible refine qaac ?_); (try rw [hP]); simp -implicitDefEqProofs [*]) | ((with_reducible refine qaaf ?_); (try simp -implicitDefEqProofs [*])) | ((with_reducible refine qaaa rfl (fun h => ?_) (fun h => ?_)) <;> have h' := h <;> (try simp at h') <;> (try subst h')) | (refine qabv (qabk p _ _ _ _ _ _ _ (by simp)) ⟨rfl, trivial⟩ ⟨rfl, trivial⟩ ?_; simp -implicitDefEqProofs [*]) | (with_reducible first | refine za ?_ ?_ | refine zb ?_ ?_ ?_ ?_ | refine zd ?_ ?_ ?_ ?_) | (with_reducible first | exact qaab | exact qaad) | ((with_reducible first | refine zga ?_ | refine zgb ?_); rfl) | ((with_reducible first | refine zgd ?_ | refine zge ?_); (first | omega | (simp; done))) | (exact Co.refl _) | (exact CoL.refl _) | (exact CoLL.refl _) | ((refine qaaj hJ (1, ?_, ?_) ?_ ?_ ?_; rotate_left 2; (with_reducible refine qaah [] hm ?_ ?_ ?_ ?_) <;> (try simp only [zT, puth, Nat.reduceEqDiff, reduceIte, Nat.reduceAdd]))) | fail)
       all_goals (try dsimp only)
       all_goals (exact ⟨by omega, h5.out⟩)
     ·replace h4 := Lib.hid h4
      repeat' (first | (with_reducible refine zA ?_) | ((with_reducible refine qaac ?_); (try rw [hP]); simp -implicitDefEqProofs [*]) | ((with_reducible refine qaak ?_); (try simp -implicitDefEqProofs [*])) | ((with_reducible refine qaaa rfl (fun h => ?_) (fun h => ?_)) <;> have h' := h <;> (try simp at h') <;> (try subst h')) | (with_reducible first | refine za ?_ ?_ | refine zb ?_ ?_ ?_ ?_) | (with_reducible first | exact qaab | exact qaad) | ((with_reducible first | refine zga ?_ | refine zgb ?_); rfl) | ((with_reducible first | refine zgd ?_ | refine zge ?_); (first | omega | (simp; done))) | (exact Co.refl _) | (exact CoL.refl _) | ((refine qaaj hJo (i + 1, ?_, ?_) ?_ ?_ ?_; rotate_left 2; (with_reducible refine qaah [] hm ?_ ?_ ?_ ?_) <;> (try simp only [zT, puth, Nat.reduceEqDiff, reduceIte, Nat.reduceAdd]))) | fail)
      all_goals (try dsimp only)
      all_goals (refine ⟨by omega, ?_⟩; rw [h2.out]; congr 1; rw [h4.out]; exact qach _ rfl)
   ·have k1 : (x.kind == 1) = false := by simpa using kn1
    have k2 : (x.kind == 2) = false := by simpa using kn2
    rw [if_neg kn1, if_neg kn2] at hA
    by_cases kn3 : x.kind = 3
    ·have k3 : (x.kind == 3) = true := by simpa using kn3
     rw [if_pos kn3, qars] at hA
     have hI := hA
     clear kn1 kn2 kn3 hA
     replace hI := Lib.hid hI
     repeat' (first | (with_reducible first | refine zA ?_ | refine qaae ?_) | ((with_reducible refine qaac ?_); (try rw [hP]); simp -implicitDefEqProofs [qacm, qabr, *]) | ((with_reducible refine qaaf ?_); (try simp -implicitDefEqProofs [qacm, qabr, *])) | ((with_reducible refine qaaa rfl (fun h => ?_) (fun h => ?_)) <;> have h' := h <;> (try simp at h') <;> (try subst h')) | ((refine qabv (qat2 p _ _ x.e _ (by omega) _ _ (by simp)) ⟨rfl, trivial⟩ ⟨rfl, trivial⟩ ?_); simp -implicitDefEqProofs [qacm, qabr, *]) | fail)
     refine qaal (qabb (fun s (y : Nat × Int × Int) => s.turn [(136, .int .i64 y.1)] [(0, .cells 179 (jc p y.2.1 y.2.2))]) (fun y => y.1 ≤ 2 ∧ A = orF (y.2.1, y.2.2) (qadt p i ([x.yes, x.no].drop y.1), 6000 + (i : Int))) (fun y => 2 - y.1) (0, _, _) ?_ ⟨by simp, hI.out⟩ ?_)
     ·repeat' (first | ((with_reducible refine qaah [] hm ?_ ?_ ?_ ?_) <;> (try simp only [zT, puth, Nat.reduceEqDiff, reduceIte, Nat.reduceAdd])) | (with_reducible first | refine za ?_ ?_ | refine zb ?_ ?_ ?_ ?_ | refine zd ?_ ?_ ?_ ?_) | (with_reducible first | exact qaab | exact qaad) | ((with_reducible first | refine zga ?_ | refine zgb ?_); rfl) | ((with_reducible refine zgd ?_); (first | omega | (simp; done))) | (exact Co.refl _) | (exact CoL.refl _) | (exact CoLL.refl _) | fail)
     rintro J hJ ⟨k, e1, g1⟩ ⟨h3, h4⟩
     unfold qadg
     simp only [zT, puth, Nat.reduceEqDiff, reduceIte, Nat.reduceAdd] at h3 h4 ⊢
     have hk : k = 0 ∨ k = 1 ∨ k = 2 := by omega
     rcases hk with rfl | rfl | rfl
     ·have h5 := h4.trans (qafh p i x.yes e1 g1 (qadt p i [x.no]) (6000 + (i : Int)))
      clear h4
      cases kd : decide (x.yes < 0) <;> simp only [kd, Bool.true_or, Bool.false_or] at h5 <;> replace h5 := Lib.hid h5
      all_goals
       repeat' (first | (with_reducible first | refine zA ?_ | refine qaae ?_) | ((with_reducible refine qaac ?_); (try rw [hP]); simp -implicitDefEqProofs [*]) | ((with_reducible refine qaaf ?_); (try simp -implicitDefEqProofs [*])) | ((with_reducible refine qaaa rfl (fun h => ?_) (fun h => ?_)) <;> have h' := h <;> (try simp at h') <;> (try subst h')) | (refine qabv (qabk p _ _ _ _ _ _ _ (by simp)) ⟨rfl, trivial⟩ ⟨rfl, trivial⟩ ?_; simp -implicitDefEqProofs [*]) | (with_reducible first | refine za ?_ ?_ | refine zb ?_ ?_ ?_ ?_ | refine zd ?_ ?_ ?_ ?_) | (with_reducible first | exact qaab | exact qaad) | ((with_reducible first | refine zga ?_ | refine zgb ?_); rfl) | ((with_reducible first | refine zgd ?_ | refine zge ?_); (first | omega | (simp; done))) | (exact Co.refl _) | (exact CoL.refl _) | (exact CoLL.refl _) | ((refine qaaj hJ (1, ?_, ?_) ?_ ?_ ?_; rotate_left 2; (with_reducible refine qaah [] hm ?_ ?_ ?_ ?_) <;> (try simp only [zT, puth, Nat.reduceEqDiff, reduceIte, Nat.reduceAdd]))) | fail)
       all_goals (try dsimp only)
       all_goals (exact ⟨by omega, h5.out⟩)
     ·have h5 := h4.trans (qafh p i x.no e1 g1 (qadt p i []) (6000 + (i : Int)))
      clear h4
      cases kd : decide (x.no < 0) <;> simp only [kd, Bool.true_or, Bool.false_or] at h5 <;> replace h5 := Lib.hid h5
      all_goals
       repeat' (first | (with_reducible first | refine zA ?_ | refine qaae ?_) | ((with_reducible refine qaac ?_); (try rw [hP]); simp -implicitDefEqProofs [*]) | ((with_reducible refine qaaf ?_); (try simp -implicitDefEqProofs [*])) | ((with_reducible refine qaaa rfl (fun h => ?_) (fun h => ?_)) <;> have h' := h <;> (try simp at h') <;> (try subst h')) | (refine qabv (qabk p _ _ _ _ _ _ _ (by simp)) ⟨rfl, trivial⟩ ⟨rfl, trivial⟩ ?_; simp -implicitDefEqProofs [*]) | (with_reducible first | refine za ?_ ?_ | refine zb ?_ ?_ ?_ ?_ | refine zd ?_ ?_ ?_ ?_) | (with_reducible first | exact qaab | exact qaad) | ((with_reducible first | refine zga ?_ | refine zgb ?_); rfl) | ((with_reducible first | refine zgd ?_ | refine zge ?_); (first | omega | (simp; done))) | (exact Co.refl _) | (exact CoL.refl _) | (exact CoLL.refl _) | ((refine qaaj hJ (2, ?_, ?_) ?_ ?_ ?_; rotate_left 2; (with_reducible refine qaah [] hm ?_ ?_ ?_ ?_) <;> (try simp only [zT, puth, Nat.reduceEqDiff, reduceIte, Nat.reduceAdd]))) | fail)
       all_goals (try dsimp only)
       all_goals (exact ⟨by omega, h5.out⟩)
     ·replace h4 := Lib.hid h4
      repeat' (first | (with_reducible refine zA ?_) | ((with_reducible refine qaac ?_); (try rw [hP]); simp -implicitDefEqProofs [*]) | ((with_reducible refine qaak ?_); (try simp -implicitDefEqProofs [*])) | ((with_reducible refine qaaa rfl (fun h => ?_) (fun h => ?_)) <;> have h' := h <;> (try simp at h') <;> (try subst h')) | (with_reducible first | refine za ?_ ?_ | refine zb ?_ ?_ ?_ ?_) | (with_reducible first | exact qaab | exact qaad) | ((with_reducible first | refine zga ?_ | refine zgb ?_); rfl) | ((with_reducible first | refine zgd ?_ | refine zge ?_); (first | omega | (simp; done))) | (exact Co.refl _) | (exact CoL.refl _) | ((refine qaaj hJo (i + 1, ?_, ?_) ?_ ?_ ?_; rotate_left 2; (with_reducible refine qaah [] hm ?_ ?_ ?_ ?_) <;> (try simp only [zT, puth, Nat.reduceEqDiff, reduceIte, Nat.reduceAdd]))) | fail)
      all_goals (try dsimp only)
      all_goals (refine ⟨by omega, ?_⟩; rw [h2.out]; congr 1; rw [h4.out]; exact qach _ rfl)
    rw [if_neg kn3] at hA
    have k3 : (x.kind == 3) = false := by simpa using kn3
    by_cases kn4 : x.kind = 4
    ·have k4 : (x.kind == 4) = true := by simpa using kn4
     rw [if_pos kn4, qac0 _ _ _ _ _ _ (by decide)] at hA
     have hI := hA
     clear kn1 kn2 kn3 kn4 hA
     replace hI := Lib.hid hI
     repeat' (first | (with_reducible first | refine zA ?_ | refine qaae ?_) | ((with_reducible refine qaac ?_); (try rw [hP]); simp -implicitDefEqProofs [qacm, qabr, *]) | ((with_reducible refine qaaf ?_); (try simp -implicitDefEqProofs [qacm, qabr, *])) | ((with_reducible refine qaaa rfl (fun h => ?_) (fun h => ?_)) <;> have h' := h <;> (try simp at h') <;> (try subst h')) | ((refine qabv (qahw p _ _ _ _ _ _ (by simp)) ⟨rfl, trivial⟩ ⟨rfl, trivial⟩ ?_); simp -implicitDefEqProofs [qacm, qabr, *]) | fail)
     refine qaal (qabb (fun s (y : Nat × Int × Int) => s.turn [(136, .int .i64 y.1)] [(0, .cells 179 (jc p y.2.1 y.2.2))]) (fun y => y.1 ≤ 2 ∧ A = orF (y.2.1, y.2.2) (qadt p i ([x.yes, x.no].drop y.1), 6000 + (i : Int))) (fun y => 2 - y.1) (0, _, _) ?_ ⟨by simp, hI.out⟩ ?_)
     ·repeat' (first | ((with_reducible refine qaah [] hm ?_ ?_ ?_ ?_) <;> (try simp only [zT, puth, Nat.reduceEqDiff, reduceIte, Nat.reduceAdd])) | (with_reducible first | refine za ?_ ?_ | refine zb ?_ ?_ ?_ ?_ | refine zd ?_ ?_ ?_ ?_) | (with_reducible first | exact qaab | exact qaad) | ((with_reducible first | refine zga ?_ | refine zgb ?_); rfl) | ((with_reducible refine zgd ?_); (first | omega | (simp; done))) | (exact Co.refl _) | (exact CoL.refl _) | (exact CoLL.refl _) | fail)
     rintro J hJ ⟨k, e1, g1⟩ ⟨h3, h4⟩
     unfold qadg
     simp only [zT, puth, Nat.reduceEqDiff, reduceIte, Nat.reduceAdd] at h3 h4 ⊢
     have hk : k = 0 ∨ k = 1 ∨ k = 2 := by omega
     rcases hk with rfl | rfl | rfl
     ·have h5 := h4.trans (qafh p i x.yes e1 g1 (qadt p i [x.no]) (6000 + (i : Int)))
      clear h4
      cases kd : decide (x.yes < 0) <;> simp only [kd, Bool.true_or, Bool.false_or] at h5 <;> replace h5 := Lib.hid h5
      all_goals
       repeat' (first | (with_reducible first | refine zA ?_ | refine qaae ?_) | ((with_reducible refine qaac ?_); (try rw [hP]); simp -implicitDefEqProofs [*]) | ((with_reducible refine qaaf ?_); (try simp -implicitDefEqProofs [*])) | ((with_reducible refine qaaa rfl (fun h => ?_) (fun h => ?_)) <;> have h' := h <;> (try simp at h') <;> (try subst h')) | (refine qabv (qabk p _ _ _ _ _ _ _ (by simp)) ⟨rfl, trivial⟩ ⟨rfl, trivial⟩ ?_; simp -implicitDefEqProofs [*]) | (with_reducible first | refine za ?_ ?_ | refine zb ?_ ?_ ?_ ?_ | refine zd ?_ ?_ ?_ ?_) | (with_reducible first | exact qaab | exact qaad) | ((with_reducible first | refine zga ?_ | refine zgb ?_); rfl) | ((with_reducible first | refine zgd ?_ | refine zge ?_); (first | omega | (simp; done))) | (exact Co.refl _) | (exact CoL.refl _) | (exact CoLL.refl _) | ((refine qaaj hJ (1, ?_, ?_) ?_ ?_ ?_; rotate_left 2; (with_reducible refine qaah [] hm ?_ ?_ ?_ ?_) <;> (try simp only [zT, puth, Nat.reduceEqDiff, reduceIte, Nat.reduceAdd]))) | fail)
       all_goals (try dsimp only)
       all_goals (exact ⟨by omega, h5.out⟩)
     ·have h5 := h4.trans (qafh p i x.no e1 g1 (qadt p i []) (6000 + (i : Int)))
      clear h4
      cases kd : decide (x.no < 0) <;> simp only [kd, Bool.true_or, Bool.false_or] at h5 <;> replace h5 := Lib.hid h5
      all_goals
       repeat' (first | (with_reducible first | refine zA ?_ | refine qaae ?_) | ((with_reducible refine qaac ?_); (try rw [hP]); simp -implicitDefEqProofs [*]) | ((with_reducible refine qaaf ?_); (try simp -implicitDefEqProofs [*])) | ((with_reducible refine qaaa rfl (fun h => ?_) (fun h => ?_)) <;> have h' := h <;> (try simp at h') <;> (try subst h')) | (refine qabv (qabk p _ _ _ _ _ _ _ (by simp)) ⟨rfl, trivial⟩ ⟨rfl, trivial⟩ ?_; simp -implicitDefEqProofs [*]) | (with_reducible first | refine za ?_ ?_ | refine zb ?_ ?_ ?_ ?_ | refine zd ?_ ?_ ?_ ?_) | (with_reducible first | exact qaab | exact qaad) | ((with_reducible first | refine zga ?_ | refine zgb ?_); rfl) | ((with_reducible first | refine zgd ?_ | refine zge ?_); (first | omega | (simp; done))) | (exact Co.refl _) | (exact CoL.refl _) | (exact CoLL.refl _) | ((refine qaaj hJ (2, ?_, ?_) ?_ ?_ ?_; rotate_left 2; (with_reducible refine qaah [] hm ?_ ?_ ?_ ?_) <;> (try simp only [zT, puth, Nat.reduceEqDiff, reduceIte, Nat.reduceAdd]))) | fail)
       all_goals (try dsimp only)
       all_goals (exact ⟨by omega, h5.out⟩)
     ·replace h4 := Lib.hid h4
      repeat' (first | (with_reducible refine zA ?_) | ((with_reducible refine qaac ?_); (try rw [hP]); simp -implicitDefEqProofs [*]) | ((with_reducible refine qaak ?_); (try simp -implicitDefEqProofs [*])) | ((with_reducible refine qaaa rfl (fun h => ?_) (fun h => ?_)) <;> have h' := h <;> (try simp at h') <;> (try subst h')) | (with_reducible first | refine za ?_ ?_ | refine zb ?_ ?_ ?_ ?_) | (with_reducible first | exact qaab | exact qaad) | ((with_reducible first | refine zga ?_ | refine zgb ?_); rfl) | ((with_reducible first | refine zgd ?_ | refine zge ?_); (first | omega | (simp; done))) | (exact Co.refl _) | (exact CoL.refl _) | ((refine qaaj hJo (i + 1, ?_, ?_) ?_ ?_ ?_; rotate_left 2; (with_reducible refine qaah [] hm ?_ ?_ ?_ ?_) <;> (try simp only [zT, puth, Nat.reduceEqDiff, reduceIte, Nat.reduceAdd]))) | fail)
      all_goals (try dsimp only)
      all_goals (refine ⟨by omega, ?_⟩; rw [h2.out]; congr 1; rw [h4.out]; exact qach _ rfl)
    ·have k4 : (x.kind == 4) = false := by simpa using kn4
     rw [if_neg kn4] at hA
     have hI : A = orF (5, 6000 + (i : Int)) (qadt p i ([x.yes, x.no].drop 0), 6000 + (i : Int)) := hA
     clear kn1 kn2 kn3 kn4 hA
     replace hI := Lib.hid hI
     repeat' (first | (with_reducible first | refine zA ?_ | refine qaae ?_) | ((with_reducible refine qaac ?_); (try rw [hP]); simp -implicitDefEqProofs [qacm, qabr, *]) | ((with_reducible refine qaaf ?_); (try simp -implicitDefEqProofs [qacm, qabr, *])) | ((with_reducible refine qaaa rfl (fun h => ?_) (fun h => ?_)) <;> have h' := h <;> (try simp at h') <;> (try subst h')) | (refine qabv (qabk p _ _ _ _ _ _ _ (by simp)) ⟨rfl, trivial⟩ ⟨rfl, trivial⟩ ?_; simp -implicitDefEqProofs [qacm, qabr, *]) | fail)
     refine qaal (qabb (fun s (y : Nat × Int × Int) => s.turn [(136, .int .i64 y.1)] [(0, .cells 179 (jc p y.2.1 y.2.2))]) (fun y => y.1 ≤ 2 ∧ A = orF (y.2.1, y.2.2) (qadt p i ([x.yes, x.no].drop y.1), 6000 + (i : Int))) (fun y => 2 - y.1) (0, _, _) ?_ ⟨by simp, hI.out⟩ ?_)
     ·repeat' (first | ((with_reducible refine qaah [] hm ?_ ?_ ?_ ?_) <;> (try simp only [zT, puth, Nat.reduceEqDiff, reduceIte, Nat.reduceAdd])) | (with_reducible first | refine za ?_ ?_ | refine zb ?_ ?_ ?_ ?_ | refine zd ?_ ?_ ?_ ?_) | (with_reducible first | exact qaab | exact qaad) | ((with_reducible first | refine zga ?_ | refine zgb ?_); rfl) | ((with_reducible refine zgd ?_); (first | omega | (simp; done))) | (exact Co.refl _) | (exact CoL.refl _) | (exact CoLL.refl _) | fail)
     rintro J hJ ⟨k, e1, g1⟩ ⟨h3, h4⟩
     unfold qadg
     simp only [zT, puth, Nat.reduceEqDiff, reduceIte, Nat.reduceAdd] at h3 h4 ⊢
     have hk : k = 0 ∨ k = 1 ∨ k = 2 := by omega
     rcases hk with rfl | rfl | rfl
     ·have h5 := h4.trans (qafh p i x.yes e1 g1 (qadt p i [x.no]) (6000 + (i : Int)))
      clear h4
      cases kd : decide (x.yes < 0) <;> simp only [kd, Bool.true_or, Bool.false_or] at h5 <;> replace h5 := Lib.hid h5
      all_goals
       repeat' (first | (with_reducible first | refine zA ?_ | refine qaae ?_) | ((with_reducible refine qaac ?_); (try rw [hP]); simp -implicitDefEqProofs [*]) | ((with_reducible refine qaaf ?_); (try simp -implicitDefEqProofs [*])) | ((with_reducible refine qaaa rfl (fun h => ?_) (fun h => ?_)) <;> have h' := h <;> (try simp at h') <;> (try subst h')) | (refine qabv (qabk p _ _ _ _ _ _ _ (by simp)) ⟨rfl, trivial⟩ ⟨rfl, trivial⟩ ?_; simp -implicitDefEqProofs [*]) | (with_reducible first | refine za ?_ ?_ | refine zb ?_ ?_ ?_ ?_ | refine zd ?_ ?_ ?_ ?_) | (with_reducible first | exact qaab | exact qaad) | ((with_reducible first | refine zga ?_ | refine zgb ?_); rfl) | ((with_reducible first | refine zgd ?_ | refine zge ?_); (first | omega | (simp; done))) | (exact Co.refl _) | (exact CoL.refl _) | (exact CoLL.refl _) | ((refine qaaj hJ (1, ?_, ?_) ?_ ?_ ?_; rotate_left 2; (with_reducible refine qaah [] hm ?_ ?_ ?_ ?_) <;> (try simp only [zT, puth, Nat.reduceEqDiff, reduceIte, Nat.reduceAdd]))) | fail)
       all_goals (try dsimp only)
       all_goals (exact ⟨by omega, h5.out⟩)
     ·have h5 := h4.trans (qafh p i x.no e1 g1 (qadt p i []) (6000 + (i : Int)))
      clear h4
      cases kd : decide (x.no < 0) <;> simp only [kd, Bool.true_or, Bool.false_or] at h5 <;> replace h5 := Lib.hid h5
      all_goals
       repeat' (first | (with_reducible first | refine zA ?_ | refine qaae ?_) | ((with_reducible refine qaac ?_); (try rw [hP]); simp -implicitDefEqProofs [*]) | ((with_reducible refine qaaf ?_); (try simp -implicitDefEqProofs [*])) | ((with_reducible refine qaaa rfl (fun h => ?_) (fun h => ?_)) <;> have h' := h <;> (try simp at h') <;> (try subst h')) | (refine qabv (qabk p _ _ _ _ _ _ _ (by simp)) ⟨rfl, trivial⟩ ⟨rfl, trivial⟩ ?_; simp -implicitDefEqProofs [*]) | (with_reducible first | refine za ?_ ?_ | refine zb ?_ ?_ ?_ ?_ | refine zd ?_ ?_ ?_ ?_) | (with_reducible first | exact qaab | exact qaad) | ((with_reducible first | refine zga ?_ | refine zgb ?_); rfl) | ((with_reducible first | refine zgd ?_ | refine zge ?_); (first | omega | (simp; done))) | (exact Co.refl _) | (exact CoL.refl _) | (exact CoLL.refl _) | ((refine qaaj hJ (2, ?_, ?_) ?_ ?_ ?_; rotate_left 2; (with_reducible refine qaah [] hm ?_ ?_ ?_ ?_) <;> (try simp only [zT, puth, Nat.reduceEqDiff, reduceIte, Nat.reduceAdd]))) | fail)
       all_goals (try dsimp only)
       all_goals (exact ⟨by omega, h5.out⟩)
     ·replace h4 := Lib.hid h4
      repeat' (first | (with_reducible refine zA ?_) | ((with_reducible refine qaac ?_); (try rw [hP]); simp -implicitDefEqProofs [*]) | ((with_reducible refine qaak ?_); (try simp -implicitDefEqProofs [*])) | ((with_reducible refine qaaa rfl (fun h => ?_) (fun h => ?_)) <;> have h' := h <;> (try simp at h') <;> (try subst h')) | (with_reducible first | refine za ?_ ?_ | refine zb ?_ ?_ ?_ ?_) | (with_reducible first | exact qaab | exact qaad) | ((with_reducible first | refine zga ?_ | refine zgb ?_); rfl) | ((with_reducible first | refine zgd ?_ | refine zge ?_); (first | omega | (simp; done))) | (exact Co.refl _) | (exact CoL.refl _) | ((refine qaaj hJo (i + 1, ?_, ?_) ?_ ?_ ?_; rotate_left 2; (with_reducible refine qaah [] hm ?_ ?_ ?_ ?_) <;> (try simp only [zT, puth, Nat.reduceEqDiff, reduceIte, Nat.reduceAdd]))) | fail)
      all_goals (try dsimp only)
      all_goals (refine ⟨by omega, ?_⟩; rw [h2.out]; congr 1; rw [h4.out]; exact qach _ rfl)
  ·have ke : (e == 0) = false := by simpa using he
   replace h2 := Lib.hid h2
   repeat' (first | (with_reducible refine zA ?_) | ((with_reducible refine qaac ?_); (try rw [hP]); simp -implicitDefEqProofs [*]) | ((with_reducible refine qaak ?_); (try simp -implicitDefEqProofs [*])) | ((with_reducible refine qaaa rfl (fun h => ?_) (fun h => ?_)) <;> have h' := h <;> (try simp at h') <;> (try subst h')) | (refine qacu hm rfl ?_ (fun σ => rfl)) | fail)
   rw [h2.out, qaf6 he]
 ·obtain rfl : i = p.nodes.length := by omega
  rw [List.drop_length] at h2
  replace h2 := Lib.hid h2
  repeat' (first | (with_reducible refine zA ?_) | ((with_reducible refine qaac ?_); (try rw [hP]); simp -implicitDefEqProofs [*]) | ((with_reducible refine qaak ?_); (try simp -implicitDefEqProofs [*])) | ((with_reducible refine qaaa rfl (fun h => ?_) (fun h => ?_)) <;> have h' := h <;> (try simp at h') <;> (try subst h')) | (refine qacu hm rfl ?_ (fun σ => rfl)) | fail)
  rw [h2.out, qach _ rfl]
end Go.Proofs.Yticeaegpkpjjeaa
namespace Go.Proofs.Yticeaegpkpjjeaa
set_option linter.all false
open Go.RowKit
abbrev qbb4 : List SOper := [Oa 1 (.box 100 (.t 0)), Oa 2 (.mv (.c (.int .i64 0))), Oa 3 (.alloc 35 [(.int .i64 0), (.int .i64 0)])]
abbrev qbb3 : List SOper := [Oa 7 (.faddr 0 (.t 1)), Oa 8 (.load (.t 7)), Oa 9 (.len false (.t 8)), Oa 10 (.bin .eql (.t 9) (.c (.int .i64 0))), Oa 11 (.mv (.t 10)), Oe 12 (.faddr 0 (.t 1)) 11 false, Oe 13 (.load (.t 12)) 11 false, Oe 14 (.len false (.t 13)) 11 false, Oe 15 (.bin .gtr (.t 14) (.c (.int .i64 8))) 11 false, Oa 16 (.pick (.t 11) (.c (.bool true)) (.t 15))]
abbrev qbb2 : List SOper := [Oa 17 (.build [(.int .i64 0), (.int .i64 0)] [(0, 1, (.c (.int .i64 2))), (1, 1, (.c (.int .i64 (-1))))]), Oa 2 (.mv (.c (.int .i64 0))), Ob (.store 2 (.t 3) (.t 17))]
abbrev qbb1 : List SOper := [Oa 4 (.mv (.c (.int .i64 0)))]
abbrev qbb0 : List SOper := [Oa 18 (.faddr 0 (.t 1)), Oa 19 (.load (.t 18)), Oa 20 (.len false (.t 19)), Oa 21 (.mv (.c (.int .i64 0)))]
abbrev qbbz : List SOper := [Oa 22 (.bin .lss (.t 21) (.t 20))]
abbrev qbby : List SOper := [Oa 23 (.mv (.t 21)), Oa 24 (.iaddr 1 (.t 19) (.t 21)), Oa 25 (.load (.t 24)), Oa 5 (.mv (.t 23)), Oa 6 (.mv (.t 25))]
abbrev qbbx : List SOper := [Oa 26 (.mv (.t 6)), Oa 27 (.bin .lss (.t 26) (.c (.int .i64 1))), Oa 28 (.mv (.t 27)), Oe 29 (.mv (.t 6)) 28 false, Oe 30 (.bin .gtr (.t 29) (.c (.int .i64 48))) 28 false, Oa 31 (.pick (.t 28) (.c (.bool true)) (.t 30))]
abbrev qbbw : List SOper := [Oa 32 (.mv (.t 5)), Oa 33 (.build [(.int .i64 0), (.int .i64 0)] [(0, 1, (.c (.int .i64 6))), (1, 1, (.t 32))]), Oa 2 (.mv (.c (.int .i64 0))), Ob (.store 2 (.t 3) (.t 33))]
abbrev qa1x : List SOper := [Oa 34 (.mv (.t 4)), Oa 35 (.mv (.t 6)), Oa 36 (.bin .add (.t 34) (.t 35)), Oa 4 (.mv (.t 36))]
abbrev qa1w : List SOper := [Oa 37 (.bin .add (.t 21) (.c (.int .i64 1))), Oa 21 (.mv (.t 37))]
def qal8 : SCode := (.seq (.reg false qbbz [3, 4, 19, 20, 21, 22]) (.seq (.cond (.t 22) .skip (.exit 0)) (.seq (.block 1 (.seq (.reg false qbby [3, 4, 5, 6, 19, 20, 21]) (.seq (.seq (.reg false qbbx [3, 4, 5, 6, 19, 20, 21, 31]) (.cond (.t 31) (.seq (.reg false qbbw [2, 3]) .ret) .skip)) (.reg false qa1x [3, 4, 19, 20, 21])))) (.reg false qa1w [3, 4, 19, 20, 21]))))
abbrev qa1v : List SOper := [Oa 38 (.mv (.t 4)), Oa 39 (.bin .rem (.t 38) (.c (.int .i64 8))), Oa 40 (.bin .neq (.t 39) (.c (.int .i64 0))), Oa 41 (.mv (.t 40)), Oe 42 (.mv (.t 4)) 41 false, Oe 43 (.bin .gtr (.t 42) (.c (.int .i64 256))) 41 false, Oa 44 (.pick (.t 41) (.c (.bool true)) (.t 43))]
abbrev qa1u : List SOper := [Oa 45 (.build [(.int .i64 0), (.int .i64 0)] [(0, 1, (.c (.int .i64 6))), (1, 1, (.c (.int .i64 (-1))))]), Oa 2 (.mv (.c (.int .i64 0))), Ob (.store 2 (.t 3) (.t 45))]
abbrev qa1t : List SOper := [Oa 46 (.mv (.t 4)), Oa 47 (.bin .quo (.t 46) (.c (.int .i64 8))), Oa 48 (.build [(.int .i64 0), (.int .i64 0)] []), Oa 2 (.mv (.t 47)), Ob (.store 2 (.t 3) (.t 48))]
def c_psize : SCode := (.seq (.reg false qbb4 [1, 3]) (.seq (.seq (.reg false qbb3 [1, 3, 16]) (.cond (.t 16) (.seq (.reg false qbb2 [2, 3]) .ret) .skip)) (.seq (.reg false qbb1 [1, 3, 4]) (.seq (.seq (.reg false qbb0 [3, 4, 19, 20, 21]) (.block 0 (.loop qal8))) (.seq (.seq (.reg false qa1v [3, 4, 44]) (.cond (.t 44) (.seq (.reg false qa1u [2, 3]) .ret) .skip)) (.seq (.reg false qa1t [2, 3]) .ret))))))
theorem qaoj : comp Try.prog 49 ((Try.f83.body).getD .skip) = some c_psize.erase := by kernel_rfl
abbrev qa9l : List SOper := [Oa 1 (.box 100 (.t 0)), Oa 2 (.mv (.c (.int .i64 0))), Oa 3 (.alloc 35 [(.int .i64 0), (.int .i64 0)])]
abbrev qa9k : List SOper := [Oa 6 (.faddr 0 (.t 1)), Oa 7 (.load (.t 6)), Oa 8 (.len false (.t 7)), Oa 9 (.bin .lss (.t 8) (.c (.int .i64 1))), Oa 10 (.mv (.t 9)), Oe 11 (.faddr 0 (.t 1)) 10 false, Oe 12 (.load (.t 11)) 10 false, Oe 13 (.len false (.t 12)) 10 false, Oe 14 (.bin .gtr (.t 13) (.c (.int .i64 8))) 10 false, Oa 15 (.pick (.t 10) (.c (.bool true)) (.t 14))]
abbrev qa9j : List SOper := [Oc 16 46 [(.c (.int .i64 2)), (.c (.int .i64 (-1)))], Oa 2 (.mv (.c (.int .i64 0))), Ob (.store 2 (.t 3) (.t 16))]
abbrev qa9i : List SOper := [Oa 4 (.mv (.c (.int .i64 0)))]
abbrev qa9h : List SOper := [Oa 5 (.mv (.c (.int .i64 0)))]
abbrev qa9g : List SOper := [Oa 17 (.mv (.t 5)), Oa 18 (.faddr 0 (.t 1)), Oa 19 (.load (.t 18)), Oa 20 (.len false (.t 19)), Oa 21 (.bin .lss (.t 17) (.t 20))]
abbrev qa9f : List SOper := [Oa 24 (.faddr 0 (.t 1)), Oa 25 (.load (.t 24)), Oa 26 (.mv (.t 5)), Oa 27 (.iaddr 1 (.t 25) (.t 26)), Oa 28 (.load (.t 27)), Oa 29 (.bin .lss (.t 28) (.c (.int .i64 1))), Oa 30 (.mv (.t 29)), Oe 31 (.faddr 0 (.t 1)) 30 false, Oe 32 (.load (.t 31)) 30 false, Oe 33 (.mv (.t 5)) 30 false, Oe 34 (.iaddr 1 (.t 32) (.t 33)) 30 false, Oe 35 (.load (.t 34)) 30 false, Oe 36 (.bin .gtr (.t 35) (.c (.int .i64 48))) 30 false, Oa 37 (.pick (.t 30) (.c (.bool true)) (.t 36))]
abbrev qa9e : List SOper := [Oa 38 (.mv (.t 5)), Oc 39 46 [(.c (.int .i64 6)), (.t 38)], Oa 2 (.mv (.c (.int .i64 0))), Ob (.store 2 (.t 3) (.t 39))]
abbrev qa9d : List SOper := [Oa 40 (.mv (.t 4)), Oa 41 (.faddr 0 (.t 1)), Oa 42 (.load (.t 41)), Oa 43 (.mv (.t 5)), Oa 44 (.iaddr 1 (.t 42) (.t 43)), Oa 45 (.load (.t 44)), Oa 46 (.bin .add (.t 40) (.t 45)), Oa 4 (.mv (.t 46))]
abbrev qax7 : List SOper := [Oa 22 (.mv (.t 5)), Oa 23 (.bin .add (.t 22) (.c (.int .i64 1))), Oa 5 (.mv (.t 23))]
def qalx : SCode := (.seq (.seq (.reg false qa9g [1, 3, 4, 5, 21]) (.cond (.t 21) .skip (.exit 0))) (.seq (.block 1 (.seq (.seq (.reg false qa9f [1, 3, 4, 5, 37]) (.cond (.t 37) (.seq (.reg false qa9e [2, 3]) .ret) .skip)) (.reg false qa9d [1, 3, 4, 5]))) (.reg false qax7 [1, 3, 4, 5])))
abbrev qax6 : List SOper := [Oa 47 (.mv (.t 4)), Oa 48 (.bin .rem (.t 47) (.c (.int .i64 8))), Oa 49 (.bin .neq (.t 48) (.c (.int .i64 0))), Oa 50 (.mv (.t 49)), Oe 51 (.mv (.t 4)) 50 false, Oe 52 (.bin .gtr (.t 51) (.c (.int .i64 256))) 50 false, Oa 53 (.pick (.t 50) (.c (.bool true)) (.t 52))]
abbrev qax5 : List SOper := [Oc 54 46 [(.c (.int .i64 6)), (.c (.int .i64 (-1)))], Oa 2 (.mv (.c (.int .i64 0))), Ob (.store 2 (.t 3) (.t 54))]
abbrev qax4 : List SOper := [Oa 55 (.mv (.t 4)), Oa 56 (.bin .quo (.t 55) (.c (.int .i64 8))), Oa 57 (.build [(.int .i64 0), (.int .i64 0)] []), Oa 2 (.mv (.t 56)), Ob (.store 2 (.t 3) (.t 57))]
def c_rsize : SCode := (.seq (.reg false qa9l [1, 3]) (.seq (.seq (.reg false qa9k [1, 3, 15]) (.cond (.t 15) (.seq (.reg false qa9j [2, 3]) .ret) .skip)) (.seq (.reg false qa9i [1, 3, 4]) (.seq (.seq (.reg false qa9h [1, 3, 4, 5]) (.block 0 (.loop qalx))) (.seq (.seq (.reg false qax6 [3, 4, 53]) (.cond (.t 53) (.seq (.reg false qax5 [2, 3]) .ret) .skip)) (.seq (.reg false qax4 [2, 3]) .ret))))))
theorem qan8 : comp Try.prog 58 ((Try.f94.body).getD .skip) = some c_rsize.erase := by kernel_rfl
abbrev c_rF_r1 : List SOper := [Oa 4 (.alloc 35 [(.int .i64 0), (.int .i64 0)])]
abbrev c_rF_r2 : List SOper := [Oa 5 (.mv (.t 0)), Oa 6 (.mv (.t 1)), Oa 7 (.build [(.int .i64 0), (.int .i64 0)] [(0, 1, (.t 5)), (1, 1, (.t 6))]), Ob (.store 2 (.t 4) (.t 7))]
def c_rF : SCode := (.seq (.reg false c_rF_r1 [0, 1, 4]) (.seq (.reg false c_rF_r2 [4]) .ret))
theorem qbga : comp Try.prog 8 ((Try.f46.body).getD .skip) = some c_rF.erase := by kernel_rfl
end Go.Proofs.Yticeaegpkpjjeaa
namespace Go.Proofs.Yticeaegpkpjjeaa
set_option linter.all false
open Go.RowKit
attribute [local simp] qabg qabf qaas qaa3 qaat qaa2 qabd qabe qaan qabo SOp.run SX.ev putd puts argS upds SOp.touch SSt.keep SSt.skip gets geth puth delh idOf SV.cells? setL qac6 qac7 sbin eq0 eq1 eqL qac1 qab1 qab2 qaap qabh qaag qabi qabp qaai qaao FrzOk qaa7 qaa0 qaa5 qaa6 qaau qaaz qabl qaa1 qaaw qaa8 qaav frzS frzH frz frz1 frz0 SlotsM ObjsM ObjM rn ren ren1 ren0 qabt qab6 qab9 qabs qabm qaca qab8 CoL qaa9 qacb dels adds idsH qabx
attribute [local simp] nums
theorem qabn : qah8 Try.prog 35 = some true := by kernel_rfl
theorem qabc : qacd Try.prog 35 = some 2 := by kernel_rfl
theorem qakk {X : Cx} {sl : Sl} {hp : Hp} {t u nx id n : Nat} {ty : TypeId} {cs ds : List SV} {v v' r : SV} (hm : X.m = 0) (hne : t ≠ u) (hv : gets sl t = v') (hvv : v' = v) (hN : NoN v) (hu : gets sl u = .ptr id 0) (h : geth hp id = some (.cells ty cs)) (ha : qah8 X.P ty = some true) (hn : qacd X.P ty = some n) (hl : ds.length = n) (e : CoL cs ds) (hr : r = .tup [v, .agg ds]) (hd : ∀ σ, ds.map (Go.Proofs.Yticeaegpkpjjeaa.ren σ) = ds) : QFun X [.tmp t, .cell u ty] 0 r [] .ret ⟨sl, hp, nx⟩ := by
 subst hr hl hvv
 have hw : Wk X ⟨sl, hp, nx⟩ ⟨[(t, v'), (u, .ptr 0 0)], [(0, .cells ty ds)], 1⟩ := by
  refine qaah [(0, id)] hm ⟨?_, ?_, trivial⟩ ⟨⟨_, h, rfl, by rw [hd]; exact e⟩, trivial⟩ rfl (by simp)
  ·rw [hv, hN]; exact Co.refl _
  ·rw [hu]; exact Co.refl _
 refine ⟨_, hw, ?_, trivial, by simp⟩
 simp [qar3, resL, resV, one_, gets, ha, hn, SOp.run, SX.ev, geth, hne]
theorem qag0 {X : Cx} {sl : Sl} {hp : Hp} {u nx id n : Nat} {ty : TypeId} {cs ds : List SV} {r : SV} (hm : X.m = 0) (hu : gets sl u = .ptr id 0) (h : geth hp id = some (.cells ty cs)) (ha : qah8 X.P ty = some true) (hn : qacd X.P ty = some n) (hl : ds.length = n) (e : CoL cs ds) (hr : r = .agg ds) (hd : ∀ σ, ds.map (Go.Proofs.Yticeaegpkpjjeaa.ren σ) = ds) : QFun X [.cell u ty] 0 r [] .ret ⟨sl, hp, nx⟩ := by
 subst hr hl
 have hw : Wk X ⟨sl, hp, nx⟩ ⟨[(u, .ptr 0 0)], [(0, .cells ty ds)], 1⟩ := by
  refine qaah [(0, id)] hm ⟨?_, trivial⟩ ⟨⟨_, h, rfl, by rw [hd]; exact e⟩, trivial⟩ rfl (by simp)
  rw [hu]; exact Co.refl _
 refine ⟨_, hw, ?_, trivial, by simp⟩
 simp [qar3, resL, resV, one_, gets, ha, hn, SOp.run, SX.ev, geth]
theorem rF_s (c a : Int) (q : Nat) : SCalls Try.prog 46 [.int .i64 c, .int .i64 a] [] q (.agg [.int .i64 c, .int .i64 a]) [] := by
 refine qabj ?_ (fun _ => rfl) (fun _ => rfl) rfl q
 refine qaax (N := 8) Try.func46 rfl rfl (by kernel_rfl) qbga (by simp) (by repeat' (first | exact trivial | refine And.intro ?_ ?_ | rfl | decide | exact PureR.ren _)) (by repeat' (first | exact trivial | refine And.intro ?_ ?_ | rfl | decide | exact PureR.ren _)) ?_
 rintro X hP hN hm
 unfold c_rF
 repeat' (first | (with_reducible refine zA ?_) | ((with_reducible refine qaac ?_); (try rw [hP]); simp -implicitDefEqProofs [*]) | ((with_reducible refine qaam ?_); (try simp only [qaap, qaag, qaai])) | (refine qag0 hm rfl rfl (by rw [hP]; exact qabn) (by rw [hP]; exact qabc) rfl (CoL.refl _) rfl (fun σ => rfl)) | fail)
def qam8 (ws : List Int) : SV := .tup [.int .i64 (qary ws), .agg [.int .i64 (qaif ws), .int .i64 (qbe9 ws)]]
theorem qarx {ws : List Int} (h : ws.length = 0 ∨ 8 < ws.length) : qam8 ws = .tup [.int .i64 0, .agg [.int .i64 2, .int .i64 (-1)]] := by
 have h1 : qaif ws = 2 := by unfold qaif; rw [if_pos h]
 have h2 : qbe9 ws = -1 := by unfold qbe9; rw [if_pos h]
 have h3 : qary ws = 0 := by unfold qary; rw [h1]; rfl
 unfold qam8; rw [h1, h2, h3]
theorem qa48 {ws : List Int} (h : ¬ (ws.length = 0 ∨ 8 < ws.length)) {i : Nat} (ha : ∀ j, j < i → wBad ws j = false) (hi : i < ws.length) (hb : wBad ws i = true) : qam8 ws = .tup [.int .i64 0, .agg [.int .i64 6, .int .i64 i]] := by
 have e := qbf7 (wBad ws) ws.length i ha hb hi
 have h1 : qaif ws = 6 := by unfold qaif; rw [if_neg h, e, if_pos hi]
 have h2 : qbe9 ws = i := by unfold qbe9; rw [if_neg h, e, if_pos hi]
 have h3 : qary ws = 0 := by unfold qary; rw [h1]; rfl
 unfold qam8; rw [h1, h2, h3]
theorem qa47 {ws : List Int} (h : ¬ (ws.length = 0 ∨ 8 < ws.length)) (ha : ∀ j, j < ws.length → wBad ws j = false) : qam8 ws = if qad4 ws ws.length % 8 ≠ 0 ∨ 256 < qad4 ws ws.length then .tup [.int .i64 0, .agg [.int .i64 6, .int .i64 (-1)]] else .tup [.int .i64 (qad4 ws ws.length / 8), .agg [.int .i64 0, .int .i64 0]] := by
 have e := qatm (wBad ws) ws.length ha
 have hc : qaif ws = if qad4 ws ws.length % 8 ≠ 0 ∨ 256 < qad4 ws ws.length then 6 else 0 := by unfold qaif; rw [if_neg h, e, if_neg (by omega)]
 have hA : qbe9 ws = if qad4 ws ws.length % 8 ≠ 0 ∨ 256 < qad4 ws ws.length then -1 else 0 := by unfold qbe9; rw [if_neg h, e, if_neg (by omega)]
 unfold qam8 qary
 by_cases h1 : qad4 ws ws.length % 8 ≠ 0 ∨ 256 < qad4 ws ws.length
 ·rw [if_pos h1] at hc hA ⊢; rw [hc, hA]; rfl
 ·rw [if_neg h1] at hc hA ⊢; rw [hc, hA]; rfl
theorem qag6 {ws : List Int} (h : ¬ (ws.length = 0 ∨ 8 < ws.length)) {i : Nat} (ha : ∀ j, j < i → wBad ws j = false) (hi : i ≤ ws.length) : 0 ≤ qad4 ws i ∧ qad4 ws i ≤ 1000 := by
 have := wSum ha; omega
theorem qbim (ws : List Int) (q : Nat) : SCalls Try.prog 83 [.agg [nums .i64 ws]] [] q (qam8 ws) [] := by
 refine qabj ?_ (fun _ => rfl) (fun _ => rfl) rfl q
 refine qaax (N := 49) Try.func83 rfl rfl (by kernel_rfl) qaoj (by simp) (by repeat' (first | exact trivial | refine And.intro ?_ ?_ | rfl | decide | exact PureR.ren _)) (by repeat' (first | exact trivial | refine And.intro ?_ ?_ | rfl | decide | exact PureR.ren _)) ?_
 rintro X hP hN hm
 unfold c_psize
 by_cases hh : ws.length = 0 ∨ 8 < ws.length
 ·rw [qarx hh]
  have k0 : ((ws.length : Int) == 0) = decide (ws.length = 0) := by rw [Bool.eq_iff_iff]; simp
  cases k1 : decide (ws.length = 0) <;> rw [k1] at k0
  ·have k2 : decide (8 < (ws.length : Int)) = true := by have := of_decide_eq_false k1; rw [decide_eq_true_eq]; omega
   replace hh := Lib.hid hh
   clear k1
   repeat' (first | (with_reducible refine zA ?_) | ((with_reducible refine qaac ?_); (try rw [hP]); simp -implicitDefEqProofs [*]) | ((with_reducible refine qaam ?_); (try simp only [qaap, qaag, qaai])) | ((with_reducible refine qaaa rfl (fun h => ?_) (fun h => ?_)) <;> have h' := h <;> (try simp at h') <;> (try subst h')) | (refine qakk hm (by decide) rfl rfl (qafj _ _) rfl rfl (by rw [hP]; exact qabn) (by rw [hP]; exact qabc) rfl (CoL.refl _) rfl (fun σ => rfl)) | fail)
  ·replace hh := Lib.hid hh
   clear k1
   repeat' (first | (with_reducible refine zA ?_) | ((with_reducible refine qaac ?_); (try rw [hP]); simp -implicitDefEqProofs [*]) | ((with_reducible refine qaam ?_); (try simp only [qaap, qaag, qaai])) | ((with_reducible refine qaaa rfl (fun h => ?_) (fun h => ?_)) <;> have h' := h <;> (try simp at h') <;> (try subst h')) | (refine qakk hm (by decide) rfl rfl (qafj _ _) rfl rfl (by rw [hP]; exact qabn) (by rw [hP]; exact qabc) rfl (CoL.refl _) rfl (fun σ => rfl)) | fail)
 have k0 : ((ws.length : Int) == 0) = false := by rw [beq_eq_false_iff_ne]; omega
 have k1 : decide (8 < (ws.length : Int)) = false := by rw [decide_eq_false_iff_not]; omega
 have hl : ws.length ≤ 8 := by omega
 replace hh := Lib.hid hh
 generalize hF : qam8 ws = F
 repeat' (first | (with_reducible refine zA ?_) | ((with_reducible refine qaac ?_); (try rw [hP]); simp -implicitDefEqProofs [*]) | ((with_reducible refine qaaf ?_); (try simp -implicitDefEqProofs [*])) | ((with_reducible refine qaaa rfl (fun h => ?_) (fun h => ?_)) <;> have h' := h <;> (try simp at h') <;> (try subst h')) | fail)
 refine qaal (qabb (fun s (i : Nat) => s.turn [(4, .int .i64 (qad4 ws i)), (21, .int .i64 i)] []) (fun i => i ≤ ws.length ∧ ∀ j, j < i → wBad ws j = false) (fun i => ws.length - i) 0 ?_ ⟨by simp, by simp⟩ ?_)
 ·repeat' (first | ((with_reducible refine qaah [] hm ?_ ?_ ?_ ?_) <;> (try simp only [zT, puth, Nat.reduceEqDiff, reduceIte, Nat.reduceAdd])) | (with_reducible first | refine za ?_ ?_ | refine zb ?_ ?_ ?_ ?_) | (with_reducible first | exact qaab | exact qaad) | ((with_reducible first | refine zga ?_ | refine zgb ?_); rfl) | ((with_reducible refine zgd ?_); (first | omega | (simp; done))) | (exact Co.refl _) | (exact CoL.refl _) | fail)
 rintro J hJ i ⟨h1, h2⟩
 have hsum := qag6 hh.out h2 h1
 unfold qal8
 simp only [zT, puth, Nat.reduceEqDiff, reduceIte, Nat.reduceAdd] at h1 h2 ⊢
 rcases Nat.lt_or_ge i ws.length with hi | hi
 ·have wi : IntKind.i64.wrap ((i : Int) + 1) = (i : Int) + 1 := qaaq (by omega) (by omega)
  have hx : el ws i = ws[i] := by unfold el; simp [hi]
  have hb : wBad ws i = (decide (ws[i] < 1) || decide (48 < ws[i])) := by unfold wBad; rw [hx, Bool.eq_iff_iff]; simp
  have hn : qad4 ws (i + 1) = qad4 ws i + ws[i] := by rw [← hx]; rfl
  generalize hxx : ws[i] = x at hb hn hx
  cases hbb : wBad ws i
  ·rw [hbb] at hb
   have hb' := Bool.or_eq_false_iff.1 hb.symm
   obtain ⟨v1, v2⟩ := hb'
   have hall : ∀ j, j < i + 1 → wBad ws j = false := fun j hj => by
    rcases Nat.lt_or_ge j i with q | q
    ·exact h2 j q
    ·obtain rfl : j = i := by omega
     exact hbb
   have hsx := qag6 hh.out hall hi
   rw [hn] at hsx
   have ws1 : IntKind.i64.wrap (qad4 ws i + x) = qad4 ws (i + 1) := by rw [hn]; exact qaaq (by omega) (by omega)
   replace hall := Lib.hid hall
   replace h2 := Lib.hid h2
   clear hb hbb hx hn
   repeat' (first | (with_reducible first | refine zA ?_ | refine qaae ?_) | ((with_reducible refine qaac ?_); (try rw [hP]); simp -implicitDefEqProofs [*]) | ((with_reducible refine qaaf ?_); (try simp -implicitDefEqProofs [*])) | ((with_reducible refine qaaa rfl (fun h => ?_) (fun h => ?_)) <;> have h' := h <;> (try simp at h') <;> (try subst h')) | (with_reducible first | refine za ?_ ?_ | refine zb ?_ ?_ ?_ ?_) | (with_reducible first | exact qaab | exact qaad) | ((with_reducible first | refine zga ?_ | refine zgb ?_); rfl) | ((with_reducible first | refine zgd ?_ | refine zge ?_); (first | omega | (simp; done))) | (exact Co.refl _) | (exact CoL.refl _) | ((refine qaaj hJ (i + 1) ?_ ?_ ?_; (with_reducible refine qaah [] hm ?_ ?_ ?_ ?_) <;> (try simp only [zT, puth, Nat.reduceEqDiff, reduceIte, Nat.reduceAdd]))) | fail)
   exact ⟨by omega, hall.out⟩
  ·have hbad := qa48 hh.out h2 hi hbb
   rw [hF] at hbad
   rw [hbb] at hb
   replace hb := Lib.hid hb
   replace h2 := Lib.hid h2
   replace hbad := Lib.hid hbad
   clear hbb hx hn
   repeat' (first | (with_reducible first | refine zA ?_ | refine qaae ?_) | ((with_reducible refine qaac ?_); (try rw [hP]); simp -implicitDefEqProofs [*]) | ((with_reducible refine qaaf ?_); (try simp -implicitDefEqProofs [*])) | ((with_reducible refine qaam ?_); (try simp only [qaap, qaag, qaai])) | ((with_reducible refine qaaa rfl (fun h => ?_) (fun h => ?_)) <;> have h' := h <;> (try simp at h') <;> (try subst h')) | ((with_reducible refine qaar (fun h => ?_) (fun h => ?_)) <;> have h' := h <;> (try simp at h') <;> (try subst h') <;> simp -implicitDefEqProofs [*]) | (refine qakk hm (by decide) rfl rfl (qafj _ _) rfl rfl (by rw [hP]; exact qabn) (by rw [hP]; exact qabc) rfl (CoL.refl _) hbad.out (fun σ => rfl)) | fail)
   all_goals (exfalso; have := hb.out; simp_all; omega)
 ·obtain rfl : i = ws.length := by omega
  have hend := qa47 hh.out h2
  rw [hF] at hend
  have t1 : (qad4 ws ws.length).tmod 8 = qad4 ws ws.length % 8 := Int.tmod_eq_emod_of_nonneg hsum.1
  have t2 : (qad4 ws ws.length).tdiv 8 = qad4 ws ws.length / 8 := Int.tdiv_eq_ediv_of_nonneg hsum.1
  generalize qad4 ws ws.length = S at hend t1 t2 hsum
  have t3 : IntKind.i64.wrap (S % 8) = S % 8 := IntWalk.i64_in _ ⟨by omega, by omega⟩
  have t4 : IntKind.i64.wrap (S / 8) = S / 8 := IntWalk.i64_in _ ⟨by omega, by omega⟩
  replace h2 := Lib.hid h2
  replace hend := Lib.hid hend
  cases k3 : (S % 8 != 0) <;> cases k4 : decide (256 < S)
  all_goals
   repeat' (first | (with_reducible refine zA ?_) | ((with_reducible refine qaac ?_); (try rw [hP]); simp -implicitDefEqProofs [*]) | ((with_reducible first | refine qaaf ?_ | refine qaak ?_); (try simp -implicitDefEqProofs [*])) | ((with_reducible refine qaam ?_); (try simp only [qaap, qaag, qaai])) | ((with_reducible refine qaaa rfl (fun h => ?_) (fun h => ?_)) <;> have h' := h <;> (try simp at h') <;> (try subst h')) | (refine qakk hm (by decide) rfl rfl (qafj _ _) rfl rfl (by rw [hP]; exact qabn) (by rw [hP]; exact qabc) rfl (CoL.refl _) ?_ (fun σ => rfl)) | fail)
   rw [hend.out]
   simp at k3 k4
   simp [*]
   try omega
theorem qbie (ws : List Int) (q : Nat) : SCalls Try.prog 94 [.agg [nums .i64 ws]] [] q (qam8 ws) [] := by
 refine qabj ?_ (fun _ => rfl) (fun _ => rfl) rfl q
 refine qaax (N := 58) Try.func94 rfl rfl (by kernel_rfl) qan8 (by simp) (by repeat' (first | exact trivial | refine And.intro ?_ ?_ | rfl | decide | exact PureR.ren _)) (by repeat' (first | exact trivial | refine And.intro ?_ ?_ | rfl | decide | exact PureR.ren _)) ?_
 rintro X hP hN hm
 unfold c_rsize
 by_cases hh : ws.length = 0 ∨ 8 < ws.length
 ·rw [qarx hh]
  have k0 : decide ((ws.length : Int) < 1) = decide (ws.length = 0) := decide_eq_decide.2 (by omega)
  cases k1 : decide (ws.length = 0) <;> rw [k1] at k0
  ·have k2 : decide (8 < (ws.length : Int)) = true := by have := of_decide_eq_false k1; rw [decide_eq_true_eq]; omega
   replace hh := Lib.hid hh
   clear k1
   repeat' (first | (with_reducible refine zA ?_) | ((with_reducible refine qaac ?_); (try rw [hP]); simp -implicitDefEqProofs [*]) | ((with_reducible refine qaam ?_); (try simp only [qaap, qaag, qaai])) | ((with_reducible refine qaaa rfl (fun h => ?_) (fun h => ?_)) <;> have h' := h <;> (try simp at h') <;> (try subst h')) | (refine qaay (rF_s _ _ _) ?_; simp -implicitDefEqProofs [*]) | (refine qakk hm (by decide) rfl rfl (qafj _ _) rfl rfl (by rw [hP]; exact qabn) (by rw [hP]; exact qabc) rfl (CoL.refl _) rfl (fun σ => rfl)) | fail)
  ·replace hh := Lib.hid hh
   clear k1
   repeat' (first | (with_reducible refine zA ?_) | ((with_reducible refine qaac ?_); (try rw [hP]); simp -implicitDefEqProofs [*]) | ((with_reducible refine qaam ?_); (try simp only [qaap, qaag, qaai])) | ((with_reducible refine qaaa rfl (fun h => ?_) (fun h => ?_)) <;> have h' := h <;> (try simp at h') <;> (try subst h')) | (refine qaay (rF_s _ _ _) ?_; simp -implicitDefEqProofs [*]) | (refine qakk hm (by decide) rfl rfl (qafj _ _) rfl rfl (by rw [hP]; exact qabn) (by rw [hP]; exact qabc) rfl (CoL.refl _) rfl (fun σ => rfl)) | fail)
 have k0 : decide ((ws.length : Int) < 1) = false := by rw [decide_eq_false_iff_not]; omega
 have k1 : decide (8 < (ws.length : Int)) = false := by rw [decide_eq_false_iff_not]; omega
 have hl : ws.length ≤ 8 := by omega
 replace hh := Lib.hid hh
 generalize hF : qam8 ws = F
 repeat' (first | (with_reducible refine zA ?_) | ((with_reducible refine qaac ?_); (try rw [hP]); simp -implicitDefEqProofs [*]) | ((with_reducible refine qaaf ?_); (try simp -implicitDefEqProofs [*])) | ((with_reducible refine qaaa rfl (fun h => ?_) (fun h => ?_)) <;> have h' := h <;> (try simp at h') <;> (try subst h')) | fail)
 refine qaal (qabb (fun s (i : Nat) => s.turn [(4, .int .i64 (qad4 ws i)), (5, .int .i64 i)] []) (fun i => i ≤ ws.length ∧ ∀ j, j < i → wBad ws j = false) (fun i => ws.length - i) 0 ?_ ⟨by simp, by simp⟩ ?_)
 ·repeat' (first | ((with_reducible refine qaah [] hm ?_ ?_ ?_ ?_) <;> (try simp only [zT, puth, Nat.reduceEqDiff, reduceIte, Nat.reduceAdd])) | (with_reducible first | refine za ?_ ?_ | refine zb ?_ ?_ ?_ ?_) | (with_reducible first | exact qaab | exact qaad) | ((with_reducible first | refine zga ?_ | refine zgb ?_); rfl) | ((with_reducible refine zgd ?_); (first | omega | (simp; done))) | (exact Co.refl _) | (exact CoL.refl _) | fail)
 rintro J hJ i ⟨h1, h2⟩
 have hsum := qag6 hh.out h2 h1
 unfold qalx
 simp only [zT, puth, Nat.reduceEqDiff, reduceIte, Nat.reduceAdd] at h1 h2 ⊢
 rcases Nat.lt_or_ge i ws.length with hi | hi
 ·have wi : IntKind.i64.wrap ((i : Int) + 1) = (i : Int) + 1 := qaaq (by omega) (by omega)
  have hx : el ws i = ws[i] := by unfold el; simp [hi]
  have hb : wBad ws i = (decide (ws[i] < 1) || decide (48 < ws[i])) := by unfold wBad; rw [hx, Bool.eq_iff_iff]; simp
  have hn : qad4 ws (i + 1) = qad4 ws i + ws[i] := by rw [← hx]; rfl
  generalize hxx : ws[i] = x at hb hn hx
  cases hbb : wBad ws i
  ·rw [hbb] at hb
   have hb' := Bool.or_eq_false_iff.1 hb.symm
   obtain ⟨v1, v2⟩ := hb'
   have hall : ∀ j, j < i + 1 → wBad ws j = false := fun j hj => by
    rcases Nat.lt_or_ge j i with q | q
    ·exact h2 j q
    ·obtain rfl : j = i := by omega
     exact hbb
   have hsx := qag6 hh.out hall hi
   rw [hn] at hsx
   have ws1 : IntKind.i64.wrap (qad4 ws i + x) = qad4 ws (i + 1) := by rw [hn]; exact qaaq (by omega) (by omega)
   replace hall := Lib.hid hall
   replace h2 := Lib.hid h2
   clear hb hbb hx hn
   repeat' (first | (with_reducible first | refine zA ?_ | refine qaae ?_) | ((with_reducible refine qaac ?_); (try rw [hP]); simp -implicitDefEqProofs [*]) | ((with_reducible refine qaaf ?_); (try simp -implicitDefEqProofs [*])) | ((with_reducible refine qaaa rfl (fun h => ?_) (fun h => ?_)) <;> have h' := h <;> (try simp at h') <;> (try subst h')) | (with_reducible first | refine za ?_ ?_ | refine zb ?_ ?_ ?_ ?_) | (with_reducible first | exact qaab | exact qaad) | ((with_reducible first | refine zga ?_ | refine zgb ?_); rfl) | ((with_reducible first | refine zgd ?_ | refine zge ?_); (first | omega | (simp; done))) | (exact Co.refl _) | (exact CoL.refl _) | ((refine qaaj hJ (i + 1) ?_ ?_ ?_; (with_reducible refine qaah [] hm ?_ ?_ ?_ ?_) <;> (try simp only [zT, puth, Nat.reduceEqDiff, reduceIte, Nat.reduceAdd]))) | fail)
   exact ⟨by omega, hall.out⟩
  ·have hbad := qa48 hh.out h2 hi hbb
   rw [hF] at hbad
   rw [hbb] at hb
   replace hb := Lib.hid hb
   replace h2 := Lib.hid h2
   replace hbad := Lib.hid hbad
   clear hbb hx hn
   repeat' (first | (with_reducible first | refine zA ?_ | refine qaae ?_) | ((with_reducible refine qaac ?_); (try rw [hP]); simp -implicitDefEqProofs [*]) | ((with_reducible refine qaaf ?_); (try simp -implicitDefEqProofs [*])) | ((with_reducible refine qaam ?_); (try simp only [qaap, qaag, qaai])) | ((with_reducible refine qaaa rfl (fun h => ?_) (fun h => ?_)) <;> have h' := h <;> (try simp at h') <;> (try subst h')) | ((with_reducible refine qaar (fun h => ?_) (fun h => ?_)) <;> have h' := h <;> (try simp at h') <;> (try subst h') <;> simp -implicitDefEqProofs [*]) | (refine qaay (rF_s _ _ _) ?_; simp -implicitDefEqProofs [*]) | (refine qakk hm (by decide) rfl rfl (qafj _ _) rfl rfl (by rw [hP]; exact qabn) (by rw [hP]; exact qabc) rfl (CoL.refl _) hbad.out (fun σ => rfl)) | fail)
   all_goals (exfalso; have := hb.out; simp_all; omega)
 ·obtain rfl : i = ws.length := by omega
  have hend := qa47 hh.out h2
  rw [hF] at hend
  have t1 : (qad4 ws ws.length).tmod 8 = qad4 ws ws.length % 8 := Int.tmod_eq_emod_of_nonneg hsum.1
  have t2 : (qad4 ws ws.length).tdiv 8 = qad4 ws ws.length / 8 := Int.tdiv_eq_ediv_of_nonneg hsum.1
  generalize qad4 ws ws.length = S at hend t1 t2 hsum
  have t3 : IntKind.i64.wrap (S % 8) = S % 8 := IntWalk.i64_in _ ⟨by omega, by omega⟩
  have t4 : IntKind.i64.wrap (S / 8) = S / 8 := IntWalk.i64_in _ ⟨by omega, by omega⟩
  replace h2 := Lib.hid h2
  replace hend := Lib.hid hend
  cases k3 : (S % 8 != 0) <;> cases k4 : decide (256 < S)
  all_goals
   repeat' (first | (with_reducible refine zA ?_) | ((with_reducible refine qaac ?_); (try rw [hP]); simp -implicitDefEqProofs [*]) | ((with_reducible first | refine qaaf ?_ | refine qaak ?_); (try simp -implicitDefEqProofs [*])) | ((with_reducible refine qaam ?_); (try simp only [qaap, qaag, qaai])) | ((with_reducible refine qaaa rfl (fun h => ?_) (fun h => ?_)) <;> have h' := h <;> (try simp at h') <;> (try subst h')) | (refine qaay (rF_s _ _ _) ?_; simp -implicitDefEqProofs [*]) | (refine qakk hm (by decide) rfl rfl (qafj _ _) rfl rfl (by rw [hP]; exact qabn) (by rw [hP]; exact qabc) rfl (CoL.refl _) ?_ (fun σ => rfl)) | fail)
   rw [hend.out]
   simp at k3 k4
   simp [*]
   try omega
end Go.Proofs.Yticeaegpkpjjeaa
namespace Go.Proofs.Yticeaegpkpjjeaa
set_option linter.all false
open Go.RowKit
attribute [local simp] qabg qabf qaas qaa3 qaat qaa2 qabd qabe qaan qabo SOp.run SX.ev putd puts argS upds SOp.touch SSt.keep SSt.skip gets geth puth delh idOf SV.cells? setL qac6 qac7 sbin eq0 eq1 eqL qac1 qab1 qab2 qaap qabh qaag qabi qabp qaai qaao FrzOk qaa7 qaa0 qaa5 qaa6 qaau qaaz qabl qaa1 qaaw qaa8 qaav frzS frzH frz frz1 frz0 SlotsM ObjsM ObjM rn ren ren1 ren0 qabt qab6 qab9 qabs qabm qaca qab8 CoL qaa9 qacb dels adds idsH qabx
attribute [local simp] qadr refc qael qaed qab7 opc actc tabc qady qacl nums jc
theorem qacg {f g : Int × Int} (h : (orF f g).1 = 0) : f.1 = 0 ∧ g.1 = 0 := by
 unfold orF at h
 by_cases h1 : f.1 = 0
 ·by_cases h2 : g.1 = 0
  ·exact ⟨h1, h2⟩
  ·simp [h1, h2] at h
 ·simp [h1] at h
theorem qae3 {α : Type} {f : α → Int} {b : Int} : ∀ {l : List α} {i : Nat}, (rowF (fun _ x => f x) b i l).1 = 0 → ∀ x ∈ l, f x = 0
 | [], _, _, x, hx => by cases hx
 | y :: l, i, h, x, hx => by
  unfold rowF at h
  by_cases h1 : f y = 0
  ·rw [if_neg (by simpa using h1)] at h
   rcases List.mem_cons.1 hx with e | e
   ·rw [e]; exact h1
   ·exact qae3 h x e
  ·rw [if_pos h1] at h; exact absurd h h1
theorem qaf2 {α : Type} {f : Nat → α → Int} {b : Int} : ∀ {l : List α} {i : Nat}, (rowF f b i l).1 = 0 → rowF f b i l = (0, 0)
 | [], _, _ => rfl
 | y :: l, i, h => by
  unfold rowF at h ⊢
  by_cases h1 : f i y ≠ 0
  ·rw [if_pos h1] at h; exact absurd h h1
  ·rw [if_neg h1] at h ⊢; exact qaf2 h
theorem qbjt {f g : Int × Int} (h : (orF f g).1 = 0) : orF f g = f := by
 obtain ⟨h1, h2⟩ := qacg h
 unfold orF; simp [h1, h2]
theorem qbfn {f g : Int × Int} (h : f.1 = 0 → f = (0, 0)) : orF (0, 0) (orF f g) = orF f g := by
 unfold orF
 by_cases h1 : f.1 = 0
 ·by_cases h2 : g.1 = 0 <;> simp [h1, h2, h h1]
 ·simp [h1]
theorem qatk {p : PlanD} (h : (qagj p).1 = 0) : qagj p = (0, 0) := by
 unfold qagj at h ⊢
 rw [qbjt h]
 have := (qacg h).1
 unfold qar8 at this ⊢
 by_cases hc : decide (6 < p.heads.length) = true
 ·rw [if_pos hc] at this; exact absurd this (by decide)
 ·rw [if_neg hc]
theorem qaik (p : PlanD) : orF (0, 0) (qafi p) = qafi p := by
 unfold qafi; exact qbfn qatk
theorem el_in {l : List Int} {k : Nat} (h : k < l.length) : el l k ∈ l := by
 unfold el; simp [h]
theorem pick_in {l : List Int} {f : Int} (h : qa4s l f ≠ 0) : qa4s l f ∈ l := by
 unfold qa4s at h ⊢
 by_cases h1 : f < 0 ∨ (l.length : Int) ≤ f
 ·rw [if_pos h1] at h; exact absurd rfl h
 ·rw [if_neg h1] at h ⊢; exact el_in (by omega)
theorem qbiv {p : PlanD} (h : (qagj p).1 = 0) : ∀ x ∈ p.heads, qaif x.w = 0 := fun x hx => qae3 (qacg h).2 x hx
theorem qbi6 {l : List Int} (h : ∀ x ∈ l, 1 ≤ x ∧ x ≤ 48) (f : Int) : 0 ≤ qa4s l f ∧ qa4s l f ≤ 48 := by
 by_cases h0 : qa4s l f = 0
 ·omega
 ·have := h _ (pick_in h0); omega
theorem qbjf {ws : List Int} (h : qaif ws = 0) : ∀ x ∈ ws, 1 ≤ x ∧ x ≤ 48 := fun x hx => by
 obtain ⟨i, hi, rfl⟩ := List.getElem_of_mem hx
 have := wOk ((qarv h).2.2.1 i hi)
 have e : el ws i = ws[i] := by unfold el; simp [hi]
 rw [e] at this; exact this
theorem qbh8 {l : List Int} (h : ∀ x ∈ l, wOut x = false) : ∀ x ∈ l, 1 ≤ x ∧ x ≤ 48 := fun x hx => by
 have := h x hx
 unfold wOut at this; rw [Bool.or_eq_false_iff, decide_eq_false_iff_not, decide_eq_false_iff_not] at this; omega
theorem pw_of {p : PlanD} (h1 : (qagj p).1 = 0) (h2 : (qa4t p).1 = 0) : PW p := fun r => by
 have hm : ∀ x ∈ p.meta_, 1 ≤ x ∧ x ≤ 48 := qbh8 fun x hx => by
  have := qae3 (qacg h2).2 x hx
  cases e : wOut x
  ·rfl
  ·rw [e] at this; exact absurd this (by decide)
 unfold qabw
 refine qbi6 ?_ _
 unfold qang
 split
 ·simp
 split
 ·exact hm
 split
 ·simp
 split
 ·rename_i hh
  unfold headW
  rw [List.getElem?_eq_getElem (by omega : r.h.toNat < p.heads.length)]
  exact qbjf (qbiv h1 _ (List.getElem_mem _))
 ·simp
theorem aw_of {p : PlanD} (h : (qah6 p).1 = 0) : AW p.acts := fun a ha w hw => by
 have := qae3 (qacg h).2 a ha
 unfold actF at this
 by_cases h1 : 3 < a.w.length ∨ 5 < a.ops.length
 ·rw [if_pos h1] at this; exact absurd this (by decide)
 ·rw [if_neg h1] at this
  by_cases h2 : a.w.any wOut = true
  ·rw [if_pos h2] at this; exact absurd this (by decide)
  ·have h3 : ∀ x ∈ a.w, wOut x = false := fun x hx => by
    cases e : wOut x
    ·rfl
    ·exact absurd (List.any_eq_true.2 ⟨x, hx, e⟩) h2
   have := qbh8 h3 w hw; omega
theorem qa5q (a b c at_ : Int) : orF (a, b) (c, at_) = qab3 a b (c != 0) c at_ := by
 rw [← qaj7]; unfold qad6
 congr 1; rw [Bool.eq_iff_iff]; simp
theorem qaoz (p : PlanD) (hp : PW p) (hs : SmallP p) (hk : qafw p) (a b : Int) (id q : Nat) (h : id < q) : SCalls Try.prog 84 [.ptr id 0] [(id, .cells 179 (jc p a b))] q (.tup []) [(id, .cells 179 (jc p (orF (a, b) (qadj p)).1 (orF (a, b) (qadj p)).2))] :=
 qadd (qbf2 p hp hs hk a b) (fun _ => rfl) (fun _ => rfl) (fun _ => rfl) rfl (fun _ => rfl) rfl id q h
theorem qa6t (p : PlanD) (hp : PW p) (hs : SmallP p) (a b : Int) (id q : Nat) (h : id < q) : SCalls Try.prog 85 [.ptr id 0] [(id, .cells 179 (jc p a b))] q (.tup []) [(id, .cells 179 (jc p (orF (a, b) (qah6 p)).1 (orF (a, b) (qah6 p)).2))] :=
 qadd (jacts_s p hp hs a b) (fun _ => rfl) (fun _ => rfl) (fun _ => rfl) rfl (fun _ => rfl) rfl id q h
theorem qa6s (p : PlanD) (hs : SmallP p) (a b : Int) (ha : a = 0 → AW p.acts) (id q : Nat) (h : id < q) : SCalls Try.prog 86 [.ptr id 0] [(id, .cells 179 (jc p a b))] q (.tup []) [(id, .cells 179 (jc p (orF (a, b) (qag3 p)).1 (orF (a, b) (qag3 p)).2))] :=
 qadd (jtabs_s p hs a b ha) (fun _ => rfl) (fun _ => rfl) (fun _ => rfl) rfl (fun _ => rfl) rfl id q h
theorem qat3 (p : PlanD) (hs : SmallP p) (a b : Int) (id q : Nat) (h : id < q) : SCalls Try.prog 87 [.ptr id 0] [(id, .cells 179 (jc p a b))] q (.tup []) [(id, .cells 179 (jc p (orF (a, b) (qadm p)).1 (orF (a, b) (qadm p)).2))] :=
 qadd (qbkc p hs a b) (fun _ => rfl) (fun _ => rfl) (fun _ => rfl) rfl (fun _ => rfl) rfl id q h
def qai6 : SCode := (.seq (.reg false qai7 [1, 2, 3]) (.seq (.seq (.reg false qah3 [1, 2, 3, 59, 60, 61]) (.block 2 (.loop qagu))) (.seq (.seq (.reg false qah2 [1, 2, 3, 82]) (.cond (.t 82) (.seq (.reg false qah1 [2]) .ret) .skip)) (.seq (.reg false qafv [1, 2, 3]) (.seq (.reg false qafu [1, 2, 3]) (.seq (.reg false qaft [1, 2, 3]) (.seq (.reg false qafs [1, 2, 3]) (.seq (.reg false qafr [1, 2, 3]) (.seq (.seq (.reg false qafq [1, 2, 3, 9]) (.block 4 (.loop qafb))) (.seq (.reg false qaet [2]) .ret))))))))))
def qai5 : SCode := (.seq (.reg false qafv [1, 2, 3]) (.seq (.reg false qafu [1, 2, 3]) (.seq (.reg false qaft [1, 2, 3]) (.seq (.reg false qafs [1, 2, 3]) (.seq (.reg false qafr [1, 2, 3]) (.seq (.seq (.reg false qafq [1, 2, 3, 9]) (.block 4 (.loop qafb))) (.seq (.reg false qaet [2]) .ret)))))))
def qai4 : SCode := (.seq (.reg false qaet [2]) .ret)
set_option maxHeartbeats 8000000 in
theorem qbjr (p : PlanD) (hs : SmallP p) (hk : qafw p) (q : Nat) : SCalls Try.prog 44 [.agg (qacl p)] [] q (.agg [.int .i64 (qafi p).1, .int .i64 (qafi p).2]) [] := by
 refine qabj ?_ (fun _ => rfl) (fun _ => rfl) rfl q
 refine qaax (N := 143) Try.func44 rfl rfl (by kernel_rfl) qak2 (by simp) (by repeat' (first | exact trivial | refine And.intro ?_ ?_ | rfl | decide | exact PureR.ren _)) (by repeat' (first | exact trivial | refine And.intro ?_ ?_ | rfl | decide | exact PureR.ren _)) ?_
 rintro X hP hN hm
 rw [← qaik]
 have hF1 : orF (0, 0) (qagj p) = orF (qab3 0 0 (decide (6 < (p.heads.length : Int))) 2 (-1)) (rowF (fun _ h => qaif h.w) 1000 0 p.heads) := by
  unfold qagj; rw [qaeq]; congr 3; exact propext (by omega)
 have hF0 : orF (0, 0) (qafi p) = orF (orF (orF (0, 0) (qagj p)) (qa4t p)) (orF (qadj p) (orF (qah6 p) (orF (qag3 p) (orF (qadm p) (qagg p))))) := by
  unfold qafi; simp only [qadq]
 have hPW : (orF (orF (0, 0) (qagj p)) (qa4t p)).1 = 0 → PW p := fun h => pw_of (qacg (qacg h).1).2 (qacg h).2
 generalize orF (0, 0) (qafi p) = F at hF0
 obtain ⟨⟨e1, g1⟩, hE1⟩ : ∃ z, orF (0, 0) (qagj p) = z := ⟨_, rfl⟩
 rw [hE1] at hF0 hPW hF1
 have hF2 : orF (e1, g1) (qa4t p) = orF (qab3 e1 g1 (decide (4 < (p.meta_.length : Int))) 2 (-2)) (rowF (fun _ w => if wOut w then 6 else 0) 2000 0 p.meta_) := by
  unfold qa4t; rw [qaeq]; congr 3; exact propext (by omega)
 obtain ⟨⟨e2, g2⟩, hE2⟩ : ∃ z, orF (e1, g1) (qa4t p) = z := ⟨_, rfl⟩
 rw [hE2] at hF0 hPW hF2
 have hl1 := hs.heads
 have hl2 := hs.metas
 have hl3 := hs.outs
 clear hE1 hE2
 replace hF0 := Lib.hid hF0
 replace hPW := Lib.hid hPW
 replace hF1 := Lib.hid hF1
 replace hF2 := Lib.hid hF2
 have rest4 : ∀ e g, (e, g) = F → SWp X qai4 (QFun X [ResultVar.cell 2 35] 0 (.agg [.int .i64 F.1, .int .i64 F.2]) []) ⟨[(1, .ptr 0 0), (2, .ptr 1 0), (3, .ptr 4 0)], [(0, .cells 29 (qacl p)), (1, .cells 35 [.int .i64 0, .int .i64 0]), (4, .cells 179 (jc p e g))], 5⟩ := fun e g he => by
  unfold qai4
  repeat' (first | (with_reducible refine zA ?_) | ((with_reducible refine qaac ?_); (try rw [hP]); simp -implicitDefEqProofs [*]) | ((with_reducible refine qaam ?_); (try simp only [qaap, qaag, qaai])) | (refine qag0 hm rfl rfl (by rw [hP]; exact qabn) (by rw [hP]; exact qabc) rfl (CoL.refl _) (by rw [← he]) (fun σ => rfl)) | fail)
 have rest3 : e2 = 0 → SWp X qai5 (QFun X [ResultVar.cell 2 35] 0 (.agg [.int .i64 F.1, .int .i64 F.2]) []) ⟨[(1, .ptr 0 0), (2, .ptr 1 0), (3, .ptr 4 0)], [(0, .cells 29 (qacl p)), (1, .cells 35 [.int .i64 0, .int .i64 0]), (4, .cells 179 (jc p e2 g2))], 5⟩ := fun he => by
  have hpw := hPW.out he
  subst he
  have hF := hF0.out
  obtain ⟨⟨e3, g3⟩, hE3⟩ : ∃ z, orF (0, g2) (qadj p) = z := ⟨_, rfl⟩
  obtain ⟨⟨e4, g4⟩, hE4⟩ : ∃ z, orF (e3, g3) (qah6 p) = z := ⟨_, rfl⟩
  obtain ⟨⟨e5, g5⟩, hE5⟩ : ∃ z, orF (e4, g4) (qag3 p) = z := ⟨_, rfl⟩
  obtain ⟨⟨e6, g6⟩, hE6⟩ : ∃ z, orF (e5, g5) (qadm p) = z := ⟨_, rfl⟩
  have c3 := fun id q h => qaoz p hpw hs hk 0 g2 id q h
  have c4 := fun id q h => qa6t p hpw hs e3 g3 id q h
  have c5 := fun id q h => qa6s p hs e4 g4 (fun hz => aw_of (qacg (f := (e3, g3)) (by rw [hE4]; exact hz)).2) id q h
  have c6 := fun id q h => qat3 p hs e5 g5 id q h
  rw [hE3] at c3
  rw [hE4] at c4
  rw [hE5] at c5
  rw [hE6] at c6
  rw [← qadq, hE3, ← qadq, hE4, ← qadq, hE5, ← qadq, hE6] at hF
  have hF7 : orF (e6, g6) (qagg p) = orF (qab3 e6 g6 (decide (6 < (p.out.length : Int))) 2 (-7)) (rowF (fun i o => outF p i o) 7000 0 p.out) := by
   unfold qagg; rw [qaeq]; congr 3; exact propext (by omega)
  rw [hF7] at hF
  clear hE3 hE4 hE5 hE6 hF7
  replace hF := Lib.hid hF
  replace hpw := Lib.hid hpw
  replace rest4 := Lib.hid rest4
  replace c3 := Lib.hid c3
  replace c4 := Lib.hid c4
  replace c5 := Lib.hid c5
  replace c6 := Lib.hid c6
  unfold qai5
  repeat' (first | (with_reducible refine zA ?_) | ((with_reducible refine qaac ?_); (try rw [hP]); simp -implicitDefEqProofs [*]) | ((first | refine qabv (qabk p _ _ _ _ _ _ _ (by simp)) ⟨rfl, trivial⟩ ⟨rfl, trivial⟩ ?_ | refine qabv (c3.out _ _ (by simp)) ⟨rfl, trivial⟩ ⟨rfl, trivial⟩ ?_ | refine qabv (c4.out _ _ (by simp)) ⟨rfl, trivial⟩ ⟨rfl, trivial⟩ ?_ | refine qabv (c5.out _ _ (by simp)) ⟨rfl, trivial⟩ ⟨rfl, trivial⟩ ?_ | refine qabv (c6.out _ _ (by simp)) ⟨rfl, trivial⟩ ⟨rfl, trivial⟩ ?_); simp -implicitDefEqProofs [*]) | fail)
  refine qaal (qabb (fun s (x : Nat × Int × Int) => s.turn [(9, .int .i64 x.1)] [(4, .cells 179 (jc p x.2.1 x.2.2))]) (fun x => x.1 ≤ p.out.length ∧ F = orF (x.2.1, x.2.2) (rowF (fun i o => outF p i o) 7000 x.1 (p.out.drop x.1))) (fun x => p.out.length - x.1) (0, _, _) ?_ ⟨by simp, hF.out⟩ ?_)
  ·repeat' (first | ((with_reducible refine qaah [] hm ?_ ?_ ?_ ?_) <;> (try simp only [zT, puth, Nat.reduceEqDiff, reduceIte, Nat.reduceAdd])) | (with_reducible first | refine za ?_ ?_ | refine zb ?_ ?_ ?_ ?_) | (with_reducible first | exact qaab | exact qaad) | ((with_reducible first | refine zga ?_ | refine zgb ?_); rfl) | ((with_reducible refine zgd ?_); (first | omega | (simp; done))) | (exact Co.refl _) | (exact CoL.refl _) | fail)
  rintro J hJ ⟨i, e, g⟩ ⟨h1, h2⟩
  unfold qafb
  simp only [zT, puth, Nat.reduceEqDiff, reduceIte, Nat.reduceAdd] at h1 h2 ⊢
  rcases Nat.lt_or_ge i p.out.length with hi | hi
  ·rw [qadf _ _ hi] at h2
   have hct := fun q => qahu (p.out.take i) p.out[i] (by rw [List.length_take]; omega) q
   simp only [nums, List.map_take] at hct
   generalize hxx : p.out[i] = x at h2 hct
   by_cases he : e = 0
   ·subst he
    have hA : orF (0, g) (outF p i x, 7000 + (i : Int)) = qab3 (qab3 0 g (!qacy p x) 1 (7000 + (i : Int))).1 (qab3 0 g (!qacy p x) 1 (7000 + (i : Int))).2 ((p.out.take i).contains x) 7 (7000 + (i : Int)) := by
     have : outF p i x = if (!qacy p x) = true then 1 else if (p.out.take i).contains x = true then 7 else 0 := by
      unfold outF; cases qacy p x <;> rfl
     rw [this, qac0 _ _ _ _ _ _ (by decide)]
     refine (qac0 _ _ _ _ _ _ (by decide)).trans ?_
     exact qach _ rfl
    rw [qaeo, hA] at h2
    generalize (p.out.take i).contains x = C at h2 hct
    have wi : IntKind.i64.wrap ((i : Int) + 1) = (i : Int) + 1 := qaaq (by omega) (by omega)
    have wa : IntKind.i64.wrap (7000 + (i : Int)) = 7000 + (i : Int) := qaaq (by omega) (by omega)
    have hi' := Nat.le_of_lt hi
    clear hA
    replace h2 := Lib.hid h2
    replace hct := Lib.hid hct
    repeat' (first | (with_reducible first | refine zA ?_ | refine qaae ?_ | refine zK ?_) | ((with_reducible first | refine qaac ?_ | refine qaa4 (by rw [hP]; exact qacr) ?_); (try rw [hP]); simp -implicitDefEqProofs [*]) | ((with_reducible refine qaaf ?_); (try simp -implicitDefEqProofs [*])) | ((with_reducible refine qaaa rfl (fun h => ?_) (fun h => ?_)) <;> have h' := h <;> (try simp at h') <;> (try subst h')) | ((first | refine qabv (qabk p _ _ _ _ _ _ _ (by simp)) ⟨rfl, trivial⟩ ⟨rfl, trivial⟩ ?_ | refine qabv (qahw p _ _ _ _ _ _ (by simp)) ⟨rfl, trivial⟩ ⟨rfl, trivial⟩ ?_ | refine qaay (hct.out _) ?_); simp -implicitDefEqProofs [*]) | (with_reducible first | refine za ?_ ?_ | refine zb ?_ ?_ ?_ ?_) | (with_reducible first | exact qaab | exact qaad) | ((with_reducible first | refine zga ?_ | refine zgb ?_); rfl) | ((with_reducible first | refine zgd ?_ | refine zge ?_); (first | omega | (simp; done))) | (exact Co.refl _) | (exact CoL.refl _) | ((refine qaaj hJ (i + 1, ?_, ?_) ?_ ?_ ?_; rotate_left 2; (with_reducible refine qaah [] hm ?_ ?_ ?_ ?_) <;> (try simp only [zT, puth, Nat.reduceEqDiff, reduceIte, Nat.reduceAdd]))) | fail)
    all_goals (try dsimp only)
    all_goals (exact ⟨by omega, h2.out⟩)
   ·rw [qaf6 he] at h2
    have r4 := rest4.out e g h2.symm
    have ke : (e == 0) = false := by simpa using he
    replace r4 := Lib.hid r4
    clear h2
    repeat' (first | ((refine qacs ?_ r4.out)) | (with_reducible refine zA ?_) | ((with_reducible refine qaac ?_); (try rw [hP]); simp -implicitDefEqProofs [*]) | ((with_reducible refine qaak ?_); (try simp -implicitDefEqProofs [*])) | ((with_reducible refine qaaa rfl (fun h => ?_) (fun h => ?_)) <;> have h' := h <;> (try simp at h') <;> (try subst h')) | ((with_reducible refine qaah [] hm ?_ ?_ ?_ ?_) <;> (try simp only [zT, puth, Nat.reduceEqDiff, reduceIte, Nat.reduceAdd])) | (with_reducible first | refine za ?_ ?_ | refine zb ?_ ?_ ?_ ?_) | (with_reducible first | exact qaab | exact qaad) | ((with_reducible first | refine zga ?_ | refine zgb ?_); rfl) | ((with_reducible refine zgd ?_); (first | omega | (simp; done))) | (exact Co.refl _) | (exact CoL.refl _) | fail)
  ·obtain rfl : i = p.out.length := by omega
   rw [List.drop_length, qach _ rfl] at h2
   have r4 := rest4.out e g h2.symm
   replace r4 := Lib.hid r4
   clear h2
   repeat' (first | ((refine qacs ?_ r4.out)) | (with_reducible refine zA ?_) | ((with_reducible refine qaac ?_); (try rw [hP]); simp -implicitDefEqProofs [*]) | ((with_reducible refine qaak ?_); (try simp -implicitDefEqProofs [*])) | ((with_reducible refine qaaa rfl (fun h => ?_) (fun h => ?_)) <;> have h' := h <;> (try simp at h') <;> (try subst h')) | ((with_reducible refine qaah [] hm ?_ ?_ ?_ ?_) <;> (try simp only [zT, puth, Nat.reduceEqDiff, reduceIte, Nat.reduceAdd])) | (with_reducible first | refine za ?_ ?_ | refine zb ?_ ?_ ?_ ?_) | (with_reducible first | exact qaab | exact qaad) | ((with_reducible first | refine zga ?_ | refine zgb ?_); rfl) | ((with_reducible refine zgd ?_); (first | omega | (simp; done))) | (exact Co.refl _) | (exact CoL.refl _) | fail)
 have rest1 : SWp X qai6 (QFun X [ResultVar.cell 2 35] 0 (.agg [.int .i64 F.1, .int .i64 F.2]) []) ⟨[(1, .ptr 0 0), (2, .ptr 1 0), (3, .ptr 4 0)], [(0, .cells 29 (qacl p)), (1, .cells 35 [.int .i64 0, .int .i64 0]), (4, .cells 179 (jc p e1 g1))], 5⟩ := by
  unfold qai6
  replace rest4 := Lib.hid rest4
  replace rest3 := Lib.hid rest3
  repeat' (first | (with_reducible refine zA ?_) | ((with_reducible refine qaac ?_); (try rw [hP]); simp -implicitDefEqProofs [*]) | (refine qabv (qabk p _ _ _ _ _ _ _ (by simp)) ⟨rfl, trivial⟩ ⟨rfl, trivial⟩ ?_; simp -implicitDefEqProofs [*]) | fail)
  refine qaal (qabb (fun s (x : Nat × Int × Int) => s.turn [(61, .int .i64 x.1)] [(4, .cells 179 (jc p x.2.1 x.2.2))]) (fun x => x.1 ≤ p.meta_.length ∧ (e2, g2) = orF (x.2.1, x.2.2) (rowF (fun _ w => if wOut w then 6 else 0) 2000 x.1 (p.meta_.drop x.1))) (fun x => p.meta_.length - x.1) (0, _, _) ?_ ⟨by simp, hF2.out⟩ ?_)
  ·repeat' (first | ((with_reducible refine qaah [] hm ?_ ?_ ?_ ?_) <;> (try simp only [zT, puth, Nat.reduceEqDiff, reduceIte, Nat.reduceAdd])) | (with_reducible first | refine za ?_ ?_ | refine zb ?_ ?_ ?_ ?_) | (with_reducible first | exact qaab | exact qaad) | ((with_reducible first | refine zga ?_ | refine zgb ?_); rfl) | ((with_reducible refine zgd ?_); (first | omega | (simp; done))) | (exact Co.refl _) | (exact CoL.refl _) | fail)
  rintro J hJ ⟨i, e, g⟩ ⟨h1, h2⟩
  unfold qagu
  simp only [zT, puth, Nat.reduceEqDiff, reduceIte, Nat.reduceAdd] at h1 h2 ⊢
  rcases Nat.lt_or_ge i p.meta_.length with hi | hi
  ·rw [qadf _ _ hi] at h2
   generalize hxx : p.meta_[i] = x at h2
   rw [qaeo, qa5q e g] at h2
   have wi : IntKind.i64.wrap ((i : Int) + 1) = (i : Int) + 1 := qaaq (by omega) (by omega)
   have wa : IntKind.i64.wrap (2000 + (i : Int)) = 2000 + (i : Int) := qaaq (by omega) (by omega)
   have hfx : ∀ b, wOut x = b → qab3 e g ((if wOut x = true then (6 : Int) else 0) != 0) (if wOut x = true then (6 : Int) else 0) (2000 + (i : Int)) = qab3 e g b 6 (2000 + (i : Int)) := fun b hb => by
    rw [hb]; cases b <;> simp [qab3]
   replace h2 := Lib.hid h2
   replace hfx := Lib.hid hfx
   repeat' (first | (with_reducible first | refine zA ?_ | refine qaae ?_) | ((with_reducible refine qaac ?_); (try rw [hP]); simp -implicitDefEqProofs [*]) | ((with_reducible refine qaaf ?_); (try simp -implicitDefEqProofs [*])) | ((with_reducible refine qaaa rfl (fun h => ?_) (fun h => ?_)) <;> have h' := h <;> (try simp at h') <;> (try subst h')) | ((with_reducible refine qaar (fun h => ?_) (fun h => ?_)) <;> have h' := h <;> (try simp at h') <;> (try subst h') <;> simp -implicitDefEqProofs [*]) | (refine qabv (qabk p _ _ _ _ _ _ _ (by simp)) ⟨rfl, trivial⟩ ⟨rfl, trivial⟩ ?_; simp -implicitDefEqProofs [*]) | (with_reducible first | refine za ?_ ?_ | refine zb ?_ ?_ ?_ ?_) | (with_reducible first | exact qaab | exact qaad) | ((with_reducible first | refine zga ?_ | refine zgb ?_); rfl) | ((with_reducible first | refine zgd ?_ | refine zge ?_); (first | omega | (simp; done))) | (exact Co.refl _) | (exact CoL.refl _) | ((refine qaaj hJ (i + 1, ?_, ?_) ?_ ?_ ?_; rotate_left 2; (with_reducible refine qaah [] hm ?_ ?_ ?_ ?_) <;> (try simp only [zT, puth, Nat.reduceEqDiff, reduceIte, Nat.reduceAdd]))) | fail)
   all_goals (try dsimp only)
   all_goals (refine ⟨by omega, ?_⟩; rw [h2.out, hfx.out _ rfl]; congr 2; simp [wOut, *])
  ·obtain rfl : i = p.meta_.length := by omega
   rw [List.drop_length, qach _ rfl] at h2
   have q1 : e = e2 := (Prod.mk.inj h2).1.symm
   have q2 : g = g2 := (Prod.mk.inj h2).2.symm
   subst q1 q2
   clear h2
   replace hF2 := Lib.hid hF2
   by_cases he : e = 0
   ·have r3 := rest3.out he
    subst he
    replace r3 := Lib.hid r3
    repeat' (first | ((refine qacs ?_ r3.out)) | (with_reducible refine zA ?_) | ((with_reducible refine qaac ?_); (try rw [hP]); simp -implicitDefEqProofs [*]) | ((with_reducible first | refine qaaf ?_ | refine qaak ?_); (try simp -implicitDefEqProofs [*])) | ((with_reducible refine qaaa rfl (fun h => ?_) (fun h => ?_)) <;> have h' := h <;> (try simp at h') <;> (try subst h')) | ((with_reducible refine qaah [] hm ?_ ?_ ?_ ?_) <;> (try simp only [zT, puth, Nat.reduceEqDiff, reduceIte, Nat.reduceAdd])) | (with_reducible first | refine za ?_ ?_ | refine zb ?_ ?_ ?_ ?_) | (with_reducible first | exact qaab | exact qaad) | ((with_reducible first | refine zga ?_ | refine zgb ?_); rfl) | ((with_reducible refine zgd ?_); (first | omega | (simp; done))) | (exact Co.refl _) | (exact CoL.refl _) | fail)
   ·have ke : (e != 0) = true := by simpa using he
    have hfin : F = (e, g) := by rw [hF0.out]; exact qaf6 he _
    replace hfin := Lib.hid hfin
    repeat' (first | (with_reducible refine zA ?_) | ((with_reducible refine qaac ?_); (try rw [hP]); simp -implicitDefEqProofs [*]) | ((with_reducible refine qaak ?_); (try simp -implicitDefEqProofs [*])) | ((with_reducible refine qaam ?_); (try simp only [qaap, qaag, qaai])) | ((with_reducible refine qaaa rfl (fun h => ?_) (fun h => ?_)) <;> have h' := h <;> (try simp at h') <;> (try subst h')) | (refine qag0 hm rfl rfl (by rw [hP]; exact qabn) (by rw [hP]; exact qabc) rfl (CoL.refl _) (by rw [hfin.out]) (fun σ => rfl)) | fail)
 unfold c_pcheck
 replace rest1 := Lib.hid rest1
 clear rest3 rest4
 repeat' (first | (with_reducible refine zA ?_) | ((with_reducible refine qaac ?_); (try rw [hP]); simp -implicitDefEqProofs [*]) | (refine qabv (qabk p _ _ _ _ _ _ _ (by simp)) ⟨rfl, trivial⟩ ⟨rfl, trivial⟩ ?_; simp -implicitDefEqProofs [*]) | fail)
 refine qaal (qabb (fun s (x : Nat × Int × Int) => s.turn [(4, .int .i64 x.1)] [(4, .cells 179 (jc p x.2.1 x.2.2))]) (fun x => x.1 ≤ p.heads.length ∧ (e1, g1) = orF (x.2.1, x.2.2) (rowF (fun _ h => qaif h.w) 1000 x.1 (p.heads.drop x.1))) (fun x => p.heads.length - x.1) (0, _, _) ?_ ⟨by simp, hF1.out⟩ ?_)
 ·repeat' (first | ((with_reducible refine qaah [] hm ?_ ?_ ?_ ?_) <;> (try simp only [zT, puth, Nat.reduceEqDiff, reduceIte, Nat.reduceAdd])) | (with_reducible first | refine za ?_ ?_ | refine zb ?_ ?_ ?_ ?_) | (with_reducible first | exact qaab | exact qaad) | ((with_reducible first | refine zga ?_ | refine zgb ?_); rfl) | ((with_reducible refine zgd ?_); (first | omega | (simp; done))) | (exact Co.refl _) | (exact CoL.refl _) | fail)
 rintro J hJ ⟨i, e, g⟩ ⟨h1, h2⟩
 unfold qai8
 simp only [zT, puth, Nat.reduceEqDiff, reduceIte, Nat.reduceAdd] at h1 h2 ⊢
 have stop : ∀ h : (e1, g1) = (e, g), e = e1 ∧ g = g1 := fun h => ⟨(Prod.mk.inj h).1.symm, (Prod.mk.inj h).2.symm⟩
 rcases Nat.lt_or_ge i p.heads.length with hi | hi
 ·rw [qadf _ _ hi] at h2
  generalize hxx : p.heads[i] = x at h2
  by_cases he : e = 0
  ·subst he
   rw [qaeo, qa5q 0 g (qaif x.w)] at h2
   have wi : IntKind.i64.wrap ((i : Int) + 1) = (i : Int) + 1 := qaaq (by omega) (by omega)
   have wa : IntKind.i64.wrap (1000 + (i : Int)) = 1000 + (i : Int) := qaaq (by omega) (by omega)
   replace h2 := Lib.hid h2
   clear stop
   repeat' (first | (with_reducible first | refine zA ?_ | refine qaae ?_) | ((with_reducible refine qaac ?_); (try rw [hP]); simp -implicitDefEqProofs [qam8, *]) | ((with_reducible refine qaaf ?_); (try simp -implicitDefEqProofs [qam8, *])) | ((with_reducible refine qaaa rfl (fun h => ?_) (fun h => ?_)) <;> have h' := h <;> (try simp at h') <;> (try subst h')) | ((first | refine qabv (qabk p _ _ _ _ _ _ _ (by simp)) ⟨rfl, trivial⟩ ⟨rfl, trivial⟩ ?_ | refine qaay (qbim x.w _) ?_); simp -implicitDefEqProofs [qam8, *]) | (with_reducible first | refine za ?_ ?_ | refine zb ?_ ?_ ?_ ?_) | (with_reducible first | exact qaab | exact qaad) | ((with_reducible first | refine zga ?_ | refine zgb ?_); rfl) | ((with_reducible first | refine zgd ?_ | refine zge ?_); (first | omega | (simp; done))) | (exact Co.refl _) | (exact CoL.refl _) | ((refine qaaj hJ (i + 1, ?_, ?_) ?_ ?_ ?_; rotate_left 2; (with_reducible refine qaah [] hm ?_ ?_ ?_ ?_) <;> (try simp only [zT, puth, Nat.reduceEqDiff, reduceIte, Nat.reduceAdd]))) | fail)
   all_goals (try dsimp only)
   all_goals (exact ⟨by omega, h2.out⟩)
  ·rw [qaf6 he] at h2
   obtain ⟨rfl, rfl⟩ := stop h2
   have ke : (e == 0) = false := by simpa using he
   clear h2 stop
   repeat' (first | ((refine qacs ?_ rest1.out)) | (with_reducible refine zA ?_) | ((with_reducible refine qaac ?_); (try rw [hP]); simp -implicitDefEqProofs [*]) | ((with_reducible refine qaak ?_); (try simp -implicitDefEqProofs [*])) | ((with_reducible refine qaaa rfl (fun h => ?_) (fun h => ?_)) <;> have h' := h <;> (try simp at h') <;> (try subst h')) | ((with_reducible refine qaah [] hm ?_ ?_ ?_ ?_) <;> (try simp only [zT, puth, Nat.reduceEqDiff, reduceIte, Nat.reduceAdd])) | (with_reducible first | refine za ?_ ?_ | refine zb ?_ ?_ ?_ ?_) | (with_reducible first | exact qaab | exact qaad) | ((with_reducible first | refine zga ?_ | refine zgb ?_); rfl) | ((with_reducible refine zgd ?_); (first | omega | (simp; done))) | (exact Co.refl _) | (exact CoL.refl _) | fail)
 ·obtain rfl : i = p.heads.length := by omega
  rw [List.drop_length, qach _ rfl] at h2
  obtain ⟨rfl, rfl⟩ := stop h2
  clear h2 stop
  repeat' (first | ((refine qacs ?_ rest1.out)) | (with_reducible refine zA ?_) | ((with_reducible refine qaac ?_); (try rw [hP]); simp -implicitDefEqProofs [*]) | ((with_reducible refine qaak ?_); (try simp -implicitDefEqProofs [*])) | ((with_reducible refine qaaa rfl (fun h => ?_) (fun h => ?_)) <;> have h' := h <;> (try simp at h') <;> (try subst h')) | ((with_reducible refine qaah [] hm ?_ ?_ ?_ ?_) <;> (try simp only [zT, puth, Nat.reduceEqDiff, reduceIte, Nat.reduceAdd])) | (with_reducible first | refine za ?_ ?_ | refine zb ?_ ?_ ?_ ?_) | (with_reducible first | exact qaab | exact qaad) | ((with_reducible first | refine zga ?_ | refine zgb ?_); rfl) | ((with_reducible refine zgd ?_); (first | omega | (simp; done))) | (exact Co.refl _) | (exact CoL.refl _) | fail)
end Go.Proofs.Yticeaegpkpjjeaa
namespace Go.Proofs.Yticeaegpkpjjeaa
set_option linter.all false
open Go.RowKit
structure SetsD where
 must : BitVec 64
 may : BitVec 64
 least : Int
 most : Int
 there : Bool
def qaef : SetsD := ⟨0, 0, 0, 0, false⟩
def setc (s : SetsD) : List SV := [.int .u64 s.must.toNat, .int .u64 s.may.toNat, .int .i64 s.least, .int .i64 s.most, .bool s.there]
def lo (a b : Int) : Int := if b < a then b else a
def hi_ (a b : Int) : Int := if b > a then b else a
def qano (s t : SetsD) : SetsD := if s.there then ⟨s.must &&& t.must, s.may ||| t.may, lo s.least t.least, hi_ s.most t.most, true⟩ else t
def bitB (h : Int) : BitVec 64 := BitVec.twoPow 64 h.toNat
def qah7 (p : PlanD) (h : Int) : Int := qary (headW p h)
abbrev TB := BitVec 64 × Int
def qbip (y : TB) : SetsD := ⟨y.1, y.1, y.2, y.2, true⟩
def qbib (p : PlanD) (h : Int) (x : SetsD) : SetsD := if 0 ≤ h then ⟨x.must ||| bitB h, x.may ||| bitB h, x.least + qah7 p h, x.most + qah7 p h, true⟩ else x
def qaru (p : PlanD) (h : Int) (y : TB) : TB := if 0 ≤ h then (y.1 ||| bitB h, y.2 + qah7 p h) else y
structure Is (S : SetsD) (P : TB → Prop) : Prop where
 there : S.there = true
 must : ∀ j, S.must.getLsbD j = true ↔ (j < 64 ∧ ∀ y, P y → y.1.getLsbD j = true)
 may : ∀ j, S.may.getLsbD j = true ↔ ∃ y, P y ∧ y.1.getLsbD j = true
 least : (∃ y, P y ∧ y.2 = S.least) ∧ ∀ y, P y → S.least ≤ y.2
 most : (∃ y, P y ∧ y.2 = S.most) ∧ ∀ y, P y → y.2 ≤ S.most
theorem Is.uniq {S T : SetsD} {P : TB → Prop} (a : Is S P) (b : Is T P) : S = T := by
 obtain ⟨m1, m2, l1, l2, t1⟩ := S
 obtain ⟨n1, n2, k1, k2, t2⟩ := T
 have e1 : m1 = n1 := BitVec.eq_of_getLsbD_eq fun j hj => by
  have := (a.must j).trans (b.must j).symm
  exact Bool.eq_iff_iff.2 this
 have e2 : m2 = n2 := BitVec.eq_of_getLsbD_eq fun j hj => by
  have := (a.may j).trans (b.may j).symm
  exact Bool.eq_iff_iff.2 this
 obtain ⟨⟨y1, p1, q1⟩, r1⟩ := a.least
 obtain ⟨⟨y2, p2, q2⟩, r2⟩ := b.least
 obtain ⟨⟨y3, p3, q3⟩, r3⟩ := a.most
 obtain ⟨⟨y4, p4, q4⟩, r4⟩ := b.most
 have e3 : l1 = k1 := by have := r1 y2 p2; have := r2 y1 p1; simp only at *; omega
 have e4 : l2 = k2 := by have := r3 y4 p4; have := r4 y3 p3; simp only at *; omega
 have e5 : t1 = t2 := a.there.trans b.there.symm
 rw [e1, e2, e3, e4, e5]
theorem Is.congr {S : SetsD} {P Q : TB → Prop} (a : Is S P) (h : ∀ y, P y ↔ Q y) : Is S Q := by
 have : P = Q := funext fun y => propext (h y)
 rw [← this]; exact a
theorem is_one (y : TB) : Is (qbip y) (fun z => z = y) :=
 ⟨rfl, fun j => ⟨fun h => ⟨BitVec.lt_of_getLsbD h, fun z hz => by rw [hz]; exact h⟩, fun h => h.2 y rfl⟩, fun j => ⟨fun h => ⟨y, rfl, h⟩, fun ⟨z, hz, h⟩ => by rw [hz] at h; exact h⟩,
  ⟨⟨y, rfl, rfl⟩, fun z hz => by rw [hz]; exact Int.le_refl _⟩, ⟨⟨y, rfl, rfl⟩, fun z hz => by rw [hz]; exact Int.le_refl _⟩⟩
theorem Is.join {S T : SetsD} {P Q : TB → Prop} (a : Is S P) (b : Is T Q) : Is (qano S T) (fun y => P y ∨ Q y) := by
 unfold qano
 rw [if_pos a.there]
 refine ⟨rfl, fun j => ?_, fun j => ?_, ?_, ?_⟩
 ·rw [BitVec.getLsbD_and, Bool.and_eq_true, a.must, b.must]
  constructor
  ·rintro ⟨⟨h, h1⟩, ⟨_, h2⟩⟩; exact ⟨h, fun y hy => hy.elim (h1 y) (h2 y)⟩
  ·rintro ⟨h, h1⟩; exact ⟨⟨h, fun y hy => h1 y (.inl hy)⟩, ⟨h, fun y hy => h1 y (.inr hy)⟩⟩
 ·rw [BitVec.getLsbD_or, Bool.or_eq_true, a.may, b.may]
  constructor
  ·rintro (⟨y, h1, h2⟩ | ⟨y, h1, h2⟩)
   ·exact ⟨y, .inl h1, h2⟩
   ·exact ⟨y, .inr h1, h2⟩
  ·rintro ⟨y, h1 | h1, h2⟩
   ·exact .inl ⟨y, h1, h2⟩
   ·exact .inr ⟨y, h1, h2⟩
 ·obtain ⟨⟨y1, p1, q1⟩, r1⟩ := a.least
  obtain ⟨⟨y2, p2, q2⟩, r2⟩ := b.least
  show (∃ y, (P y ∨ Q y) ∧ y.2 = lo S.least T.least) ∧ _
  unfold lo
  split
  ·exact ⟨⟨y2, .inr p2, q2⟩, fun y hy => hy.elim (fun h => by have := r1 y h; show T.least ≤ y.2; omega) (r2 y)⟩
  ·exact ⟨⟨y1, .inl p1, q1⟩, fun y hy => hy.elim (r1 y) (fun h => by have := r2 y h; show S.least ≤ y.2; omega)⟩
 ·obtain ⟨⟨y1, p1, q1⟩, r1⟩ := a.most
  obtain ⟨⟨y2, p2, q2⟩, r2⟩ := b.most
  show (∃ y, (P y ∨ Q y) ∧ y.2 = hi_ S.most T.most) ∧ _
  unfold hi_
  split
  ·exact ⟨⟨y2, .inr p2, q2⟩, fun y hy => hy.elim (fun h => by have := r1 y h; show y.2 ≤ T.most; omega) (r2 y)⟩
  ·exact ⟨⟨y1, .inl p1, q1⟩, fun y hy => hy.elim (r1 y) (fun h => by have := r2 y h; show y.2 ≤ S.most; omega)⟩
theorem Is.step {S : SetsD} {P : TB → Prop} (a : Is S P) (p : PlanD) (h : Int) : Is (qbib p h S) (fun z => ∃ y, P y ∧ z = qaru p h y) := by
 unfold qbib qaru
 by_cases h0 : 0 ≤ h
 ·simp only [if_pos h0]
  obtain ⟨⟨y0, hy0, _⟩, _⟩ := a.least
  refine ⟨rfl, fun j => ?_, fun j => ?_, ?_, ?_⟩
  ·rw [BitVec.getLsbD_or, Bool.or_eq_true, a.must]
   constructor
   ·rintro (⟨h1, h2⟩ | h1)
    ·exact ⟨h1, fun z ⟨y, hy, e⟩ => by rw [e]; simp [h2 y hy]⟩
    ·exact ⟨BitVec.lt_of_getLsbD h1, fun z ⟨y, hy, e⟩ => by rw [e]; simp [h1]⟩
   ·rintro ⟨h1, h2⟩
    by_cases hb : (bitB h).getLsbD j = true
    ·exact .inr hb
    ·refine .inl ⟨h1, fun y hy => ?_⟩
     have := h2 _ ⟨y, hy, rfl⟩
     rw [BitVec.getLsbD_or, Bool.or_eq_true] at this
     exact this.resolve_right hb
  ·rw [BitVec.getLsbD_or, Bool.or_eq_true, a.may]
   constructor
   ·rintro (⟨y, h1, h2⟩ | h1)
    ·exact ⟨_, ⟨y, h1, rfl⟩, by rw [BitVec.getLsbD_or, h2]; rfl⟩
    ·exact ⟨_, ⟨y0, hy0, rfl⟩, by rw [BitVec.getLsbD_or, h1, Bool.or_true]⟩
   ·rintro ⟨z, ⟨y, hy, e⟩, h2⟩
    rw [e, BitVec.getLsbD_or, Bool.or_eq_true] at h2
    exact h2.elim (fun q => .inl ⟨y, hy, q⟩) .inr
  ·obtain ⟨⟨y, h1, h2⟩, h3⟩ := a.least
   exact ⟨⟨_, ⟨y, h1, rfl⟩, by rw [h2]⟩, fun z ⟨y, hy, e⟩ => by rw [e]; have := h3 y hy; show S.least + qah7 p h ≤ y.2 + qah7 p h; omega⟩
  ·obtain ⟨⟨y, h1, h2⟩, h3⟩ := a.most
   exact ⟨⟨_, ⟨y, h1, rfl⟩, by rw [h2]⟩, fun z ⟨y, hy, e⟩ => by rw [e]; have := h3 y hy; show y.2 + qah7 p h ≤ S.most + qah7 p h; omega⟩
 ·simp only [if_neg h0]
  exact a.congr fun y => ⟨fun h => ⟨y, h, rfl⟩, fun ⟨z, h, e⟩ => by rw [e]; exact h⟩
def IsO (S : SetsD) (P : TB → Prop) : Prop := (S = qaef ∧ ∀ y, ¬ P y) ∨ Is S P
theorem IsO.join {S T : SetsD} {P Q : TB → Prop} (a : IsO S P) (b : Is T Q) : IsO (qano S T) (fun y => P y ∨ Q y) := by
 rcases a with ⟨h, hn⟩ | a
 ·subst h
  exact .inr (b.congr fun y => ⟨.inr, fun h => h.resolve_left (hn y)⟩)
 ·exact .inr (a.join b)
theorem IsO.congr {S : SetsD} {P Q : TB → Prop} (a : IsO S P) (h : ∀ y, P y ↔ Q y) : IsO S Q := by
 have : P = Q := funext fun y => propext (h y)
 rw [← this]; exact a
theorem IsO.uniq {S T : SetsD} {P : TB → Prop} (a : IsO S P) (b : IsO T P) : S = T := by
 rcases a with ⟨h, hn⟩ | a
 ·rcases b with ⟨h2, _⟩ | b
  ·rw [h, h2]
  ·obtain ⟨⟨y, hy, _⟩, _⟩ := b.least
   exact absurd hy (hn y)
 ·rcases b with ⟨_, hn⟩ | b
  ·obtain ⟨⟨y, hy, _⟩, _⟩ := a.least
   exact absurd hy (hn y)
  ·exact a.uniq b
theorem IsO.is {S : SetsD} {P : TB → Prop} (a : IsO S P) (h : S.there = true) : Is S P := by
 rcases a with ⟨e, _⟩ | a
 ·rw [e] at h; cases h
 ·exact a
def qac2 (s : StateD) : List Int := s.cases_.map CaseD.to_ ++ [s.els]
def tgt (n : Nat) (k : Int) : Int := if k = 1000 then n else k
def Leads (p : PlanD) (s : StateD) (k : Nat) : Prop := k ≤ p.states.length ∧ ∃ t ∈ qac2 s, tgt p.states.length t = k
def toS (n : Nat) (l : List SetsD) (k : Int) (s : SetsD) : List SetsD := if tgt n k ≤ n then l.set (tgt n k).toNat (qano (l.getD (tgt n k).toNat qaef) s) else l
def qaj8 (p : PlanD) (st : StateD) (i : Nat) (l : List SetsD) : List SetsD := if (l.getD i qaef).there then (qac2 st).foldl (fun m k => toS p.states.length m k (qbib p st.head (l.getD i qaef))) l else l
theorem qa4z (n : Nat) (l : List SetsD) (k : Int) (s : SetsD) : (toS n l k s).length = l.length := by
 unfold toS; split <;> simp
structure SOk (p : PlanD) (i : Nat) (s : StateD) : Prop where
 head : -1 ≤ s.head ∧ s.head < p.heads.length
 cases_ : s.cases_.length ≤ 4
 to_ : ∀ t ∈ qac2 s, t = 1000 ∨ t = 1001 ∨ ((i : Int) < t ∧ t < p.states.length)
 on : 0 < s.cases_.length → s.on.h < p.heads.length
structure PlOk (p : PlanD) : Prop where
 heads : p.heads.length ≤ 6
 size : ∀ h ∈ p.heads, qaif h.w = 0
 states : 1 ≤ p.states.length ∧ p.states.length ≤ 8
 ok : ∀ (i : Nat) (hi : i < p.states.length), SOk p i p.states[i]
theorem qajm {b : Bool} {at_ : Int} (h : (qar8 b at_).1 = 0) : b = false := by
 unfold qar8 at h; cases b
 ·rfl
 ·simp at h
theorem qahm {α : Type} {f : Nat → α → Int} {b : Int} : ∀ {l : List α} {i : Nat}, (rowF f b i l).1 = 0 → ∀ (j : Nat) (hj : j < l.length), f (i + j) l[j] = 0
 | [], _, _, j, hj => by simp at hj
 | y :: l, i, h, j, hj => by
  unfold rowF at h
  by_cases h1 : f i y ≠ 0
  ·rw [if_pos h1] at h; exact absurd h h1
  ·rw [if_neg h1] at h
   cases j with
   | zero => simpa using h1
   | succ j =>
    have := qahm h j (by simpa using hj)
    rw [show i + (j + 1) = i + 1 + j by omega]; exact this
theorem qagm {α : Type} {f : α → Int} : ∀ {l : List α}, qack f l = 0 → ∀ x ∈ l, f x = 0
 | [], _, x, hx => by cases hx
 | y :: l, h, x, hx => by
  unfold qack at h
  by_cases h1 : f y = 0
  ·rw [if_pos h1] at h
   rcases List.mem_cons.1 hx with e | e
   ·rw [e]; exact h1
   ·exact qagm h x e
  ·rw [if_neg h1] at h; exact absurd h h1
theorem qbit {p : PlanD} {i : Nat} {t : Int} (h : qag4 p i t = 0) : t = 1000 ∨ t = 1001 ∨ ((i : Int) < t ∧ t < p.states.length) := by
 unfold qag4 at h
 by_cases h1 : t = 1000 ∨ t = 1001
 ·omega
 ·rw [if_neg h1] at h
  by_cases h2 : t < 0 ∨ (p.states.length : Int) ≤ t
  ·rw [if_pos h2] at h; exact absurd h (by decide)
  ·rw [if_neg h2] at h
   by_cases h3 : t ≤ i
   ·rw [if_pos h3] at h; exact absurd h (by decide)
   ·omega
theorem qa4w {p : PlanD} {r : RefD} (h : qabw p r [] ≠ 0) : r.h < p.heads.length := by
 by_cases h0 : r.h < 0
 ·omega
 ·unfold qabw qang at h
  rw [if_neg (by omega), if_neg (by omega), if_neg (by omega)] at h
  by_cases h1 : 0 ≤ r.h ∧ r.h < p.heads.length
  ·exact h1.2
  ·rw [if_neg h1] at h
   exact absurd (by unfold qa4s; split <;> simp [el]) h
theorem qbfm {p : PlanD} (h : (qafi p).1 = 0) : PlOk p := by
 have h1 := qacg h
 have h2 := qacg h1.2
 have h3 := qacg h2.2
 have hh := qacg h1.1
 have hs := qacg h3.1
 have m1 := qajm hh.1
 have m2 := qajm hs.1
 rw [Bool.or_eq_false_iff, decide_eq_false_iff_not, decide_eq_false_iff_not] at m2
 rw [decide_eq_false_iff_not] at m1
 refine ⟨by omega, qbiv h1.1, by omega, fun i hi => ?_⟩
 have hst := qahm hs.2 i hi
 rw [Nat.zero_add] at hst
 generalize p.states[i] = s at hst
 unfold qaff at hst
 by_cases c1 : s.head < -1 ∨ (p.heads.length : Int) ≤ s.head
 ·rw [if_pos c1] at hst; exact absurd hst (by decide)
 rw [if_neg c1] at hst
 by_cases c2 : 4 < s.cases_.length
 ·rw [if_pos c2] at hst; exact absurd hst (by decide)
 rw [if_neg c2] at hst
 by_cases c3 : 0 < s.cases_.length ∧ qabw p s.on [] = 0
 ·rw [if_pos c3] at hst; exact absurd hst (by decide)
 rw [if_neg c3] at hst
 by_cases c4 : qack (qahv p i (qabw p s.on [])) s.cases_ ≠ 0
 ·rw [if_pos c4] at hst; exact absurd hst c4
 rw [if_neg c4] at hst
 refine ⟨by omega, by omega, fun t ht => ?_, fun hc => qa4w fun e => c3 ⟨hc, e⟩⟩
 unfold qac2 at ht
 rcases List.mem_append.1 ht with ht | ht
 ·obtain ⟨c, hc, rfl⟩ := List.mem_map.1 ht
  have := qagm (Decidable.not_not.1 c4) c hc
  unfold qahv at this
  split at this
  ·exact absurd this (by decide)
  ·exact qbit this
 ·rw [List.mem_singleton.1 ht]; exact qbit hst
end Go.Proofs.Yticeaegpkpjjeaa
namespace Go.Proofs.Yticeaegpkpjjeaa
set_option linter.all false
open Go.RowKit
def RW (p : PlanD) : Nat → Nat → TB → Prop
 | 0, k, y => k = 0 ∧ y = (0, 0)
 | i + 1, k, y => RW p i k y ∨ ∃ h : i < p.states.length, ∃ z, RW p i i z ∧ Leads p p.states[i] k ∧ y = qaru p p.states[i].head z
def qadl (p : PlanD) : Nat → List SetsD
 | 0 => (List.replicate (p.states.length + 1) qaef).set 0 ⟨0, 0, 0, 0, true⟩
 | i + 1 => if h : i < p.states.length then qaj8 p p.states[i] i (qadl p i) else qadl p i
theorem qage (p : PlanD) {i : Nat} (h : i < p.states.length) : qadl p (i + 1) = qaj8 p p.states[i] i (qadl p i) := by
 show (if h : i < p.states.length then _ else _) = _
 rw [dif_pos h]
theorem qaki (n : Nat) (s : SetsD) : ∀ (ts : List Int) (l : List SetsD), (ts.foldl (fun l k => toS n l k s) l).length = l.length
 | [], _ => rfl
 | t :: ts, l => by rw [List.foldl_cons, qaki n s ts, qa4z]
theorem qa43 (p : PlanD) (st : StateD) (i : Nat) (l : List SetsD) : (qaj8 p st i l).length = l.length := by
 unfold qaj8; split
 ·exact qaki _ _ _ _
 ·rfl
theorem qacw (p : PlanD) : ∀ i, (qadl p i).length = p.states.length + 1
 | 0 => by simp [qadl]
 | i + 1 => by
  by_cases h : i < p.states.length
  ·rw [qage p h, qa43, qacw p i]
  ·show (if h : i < p.states.length then _ else _ : List SetsD).length = _
   rw [dif_neg h, qacw p i]
theorem toS_is {n : Nat} {l : List SetsD} {P : Nat → TB → Prop} {Q : TB → Prop} {T : SetsD} (hl : l.length = n + 1) (h : ∀ k, k ≤ n → IsO (l.getD k qaef) (P k)) (hT : Is T Q) (t : Int) (h0 : 0 ≤ tgt n t) :
  ∀ k, k ≤ n → IsO ((toS n l t T).getD k qaef) (fun y => P k y ∨ (tgt n t = k ∧ Q y)) := fun k hk => by
 unfold toS
 by_cases h1 : tgt n t ≤ n
 ·rw [if_pos h1]
  by_cases h2 : tgt n t = k
  ·have e : (tgt n t).toNat = k := by omega
   rw [e, List.getD_eq_getElem?_getD, List.getElem?_set_self (by omega), Option.getD_some]
   exact ((h k hk).join hT).congr fun y => by simp [h2]
  ·have e : (tgt n t).toNat ≠ k := by omega
   rw [List.getD_eq_getElem?_getD, List.getElem?_set_ne e, ← List.getD_eq_getElem?_getD]
   exact (h k hk).congr fun y => by simp [h2]
 ·rw [if_neg h1]
  have h2 : tgt n t ≠ k := by omega
  exact (h k hk).congr fun y => by simp [h2]
theorem qasj {n : Nat} {Q : TB → Prop} {T : SetsD} (hT : Is T Q) : ∀ (ts : List Int) (l : List SetsD) (P : Nat → TB → Prop), l.length = n + 1 → (∀ k, k ≤ n → IsO (l.getD k qaef) (P k)) → (∀ t ∈ ts, 0 ≤ tgt n t) →
  ∀ k, k ≤ n → IsO ((ts.foldl (fun l k => toS n l k T) l).getD k qaef) (fun y => P k y ∨ ((∃ t ∈ ts, tgt n t = k) ∧ Q y))
 | [], l, P, _, h, _, k, hk => (h k hk).congr fun y => by simp
 | t :: ts, l, P, hl, h, h0, k, hk => by
  rw [List.foldl_cons]
  have := qasj hT ts (toS n l t T) _ (by rw [qa4z, hl]) (toS_is hl h hT t (h0 t (by simp))) (fun t' ht => h0 t' (by simp [ht])) k hk
  refine this.congr fun y => ?_
  constructor
  ·rintro ((h1 | ⟨h1, h2⟩) | ⟨⟨t', h1, h2⟩, h3⟩)
   ·exact .inl h1
   ·exact .inr ⟨⟨t, by simp, h1⟩, h2⟩
   ·exact .inr ⟨⟨t', by simp [h1], h2⟩, h3⟩
  ·rintro (h1 | ⟨⟨t', h1, h2⟩, h3⟩)
   ·exact .inl (.inl h1)
   ·rcases List.mem_cons.1 h1 with e | e
    ·exact .inl (.inr ⟨by rw [← e]; exact h2, h3⟩)
    ·exact .inr ⟨⟨t', e, h2⟩, h3⟩
theorem qbfb {p : PlanD} {i : Nat} {s : StateD} (h : SOk p i s) (hi : i < p.states.length) (hn : p.states.length ≤ 8) {t : Int} (ht : t ∈ qac2 s) : (i : Int) < tgt p.states.length t := by
 unfold tgt
 rcases h.to_ t ht with e | e | ⟨e1, e2⟩
 ·rw [if_pos e]; omega
 ·rw [if_neg (by omega)]; omega
 ·rw [if_neg (by omega)]; omega
theorem qbj6 {p : PlanD} {i : Nat} {s : StateD} (h : SOk p i s) (hi : i < p.states.length) (hn : p.states.length ≤ 8) {k : Nat} (hk : Leads p s k) : i < k := by
 obtain ⟨_, t, ht, e⟩ := hk
 have := qbfb h hi hn ht; omega
theorem qaf1 {p : PlanD} (hp : PlOk p) : ∀ i, i ≤ p.states.length → ∀ k, k ≤ p.states.length → IsO ((qadl p i).getD k qaef) (RW p i k)
 | 0, _, k, hk => by
  unfold qadl
  by_cases h0 : k = 0
  ·subst h0
   rw [List.getD_eq_getElem?_getD, List.getElem?_set_self (by simp), Option.getD_some]
   exact .inr ((is_one (0, 0)).congr fun y => by simp [RW])
  ·rw [List.getD_eq_getElem?_getD, List.getElem?_set_ne (by omega), List.getElem?_replicate, if_pos (by omega), Option.getD_some]
   exact .inl ⟨rfl, fun y hy => h0 hy.1⟩
 | i + 1, hi, k, hk => by
  have hlt : i < p.states.length := by omega
  have ih := qaf1 hp i (by omega)
  rw [qage p hlt]
  have ok := hp.ok i hlt
  unfold qaj8
  by_cases ht : ((qadl p i).getD i qaef).there = true
  ·rw [if_pos ht]
   have := qasj (((ih i (by omega)).is ht).step p p.states[i].head) (qac2 p.states[i]) (qadl p i) (RW p i) (qacw p i) ih (fun t h => by have := qbfb ok hlt hp.states.2 h; omega) k hk
   refine this.congr fun y => ?_
   constructor
   ·rintro (h1 | ⟨h1, z, h2, h3⟩)
    ·exact .inl h1
    ·exact .inr ⟨hlt, z, h2, ⟨hk, h1⟩, h3⟩
   ·rintro (h1 | ⟨_, z, h2, h3, h4⟩)
    ·exact .inl h1
    ·exact .inr ⟨h3.2, z, h2, h4⟩
  ·rw [if_neg ht]
   refine (ih k hk).congr fun y => ⟨.inl, fun h => h.elim id fun ⟨_, z, h2, _⟩ => ?_⟩
   rcases ih i (by omega) with ⟨_, hn⟩ | h
   ·exact absurd h2 (hn z)
   ·exact absurd h.there ht
theorem qa5c {p : PlanD} (hp : PlOk p) {k : Nat} : ∀ j, k ≤ j → j ≤ p.states.length → ∀ y, RW p j k y ↔ RW p k k y
 | 0, h, _, y => by obtain rfl : k = 0 := by omega
                    exact Iff.rfl
 | j + 1, h, hj, y => by
  by_cases e : k = j + 1
  ·rw [e]
  ·rw [← qa5c hp j (by omega) (by omega) y]
   refine ⟨fun h => h.elim id fun ⟨h1, z, h2, h3, h4⟩ => ?_, .inl⟩
   have := qbj6 (hp.ok j h1) h1 hp.states.2 h3; omega
theorem qata {p : PlanD} (hp : PlOk p) {k j : Nat} (h : k ≤ j) (hj : j ≤ p.states.length) : (qadl p j).getD k qaef = (qadl p k).getD k qaef :=
 (qaf1 hp j hj k (by omega)).uniq ((qaf1 hp k (by omega) k (by omega)).congr fun y => (qa5c hp j h hj y).symm)
def qafx (p : PlanD) : List SetsD := qadl p p.states.length
def setAt (p : PlanD) (i : Nat) : SetsD := (qafx p).getD i qaef
def refC (s : StateD) (x : SetsD) : Int :=
 if x.there = false then 0
 else if (decide (0 ≤ s.head) && (x.may &&& bitB s.head != 0)) = true then 7
 else if (decide (0 < s.cases_.length) && (decide (0 ≤ s.on.h) && (s.on.h != s.head && (x.must &&& bitB s.on.h == 0)))) = true then 12
 else 0
def qafo (p : PlanD) : Int × Int := rowF (fun i s => refC s (setAt p i)) 3000 0 p.states
def qaf0 (p : PlanD) : Int × Int := if (qafi p).1 ≠ 0 then qafi p else qafo p
def qam7 (p : PlanD) : List SetsD := if (qaf0 p).1 ≠ 0 then [] else qafx p
theorem qanq {p : PlanD} (hp : PlOk p) {h : Int} (h0 : 0 ≤ h) (h1 : h < p.heads.length) : 1 ≤ qah7 p h ∧ qah7 p h ≤ 32 := by
 unfold qah7 headW
 rw [List.getElem?_eq_getElem (by omega : h.toNat < p.heads.length)]
 have := qarv (hp.size _ (List.getElem_mem (by omega : h.toNat < p.heads.length)))
 exact ⟨this.2.2.2.2.2.2.1, this.2.2.2.2.2.2.2⟩
theorem qbja {p : PlanD} (hp : PlOk p) {h : Int} (h1 : h < p.heads.length) (y : TB) : y.2 ≤ (qaru p h y).2 ∧ (qaru p h y).2 ≤ y.2 + 32 := by
 unfold qaru
 by_cases h0 : 0 ≤ h
 ·rw [if_pos h0]; have := qanq hp h0 h1; show _ ≤ y.2 + qah7 p h ∧ y.2 + qah7 p h ≤ _; omega
 ·rw [if_neg h0]; omega
theorem rw_in {p : PlanD} (hp : PlOk p) : ∀ i, ∀ k y, RW p i k y → 0 ≤ y.2 ∧ y.2 ≤ 32 * i
 | 0, k, y, h => by rw [h.2]; simp
 | i + 1, k, y, h => by
  rcases h with h | ⟨hi, z, h1, _, h2⟩
  ·have := rw_in hp i k y h; omega
  ·have a := rw_in hp i i z h1
   have b := qbja hp (hp.ok i hi).head.2 z
   rw [h2]; omega
theorem qbfd {p : PlanD} (hp : PlOk p) {i k : Nat} (hi : i ≤ p.states.length) (hk : k ≤ p.states.length) : 0 ≤ ((qadl p i).getD k qaef).least ∧ ((qadl p i).getD k qaef).least ≤ 256 ∧ 0 ≤ ((qadl p i).getD k qaef).most ∧ ((qadl p i).getD k qaef).most ≤ 256 := by
 have hn := hp.states.2
 rcases qaf1 hp i hi k hk with ⟨e, _⟩ | h
 ·rw [e]; simp [qaef]
 ·obtain ⟨⟨y, h1, h2⟩, _⟩ := h.least
  obtain ⟨⟨z, h3, h4⟩, _⟩ := h.most
  have a := rw_in hp i k y h1
  have b := rw_in hp i k z h3
  omega
end Go.Proofs.Yticeaegpkpjjeaa
namespace Go.Proofs.Yticeaegpkpjjeaa
set_option linter.all false
open Go.RowKit
abbrev allB : BitVec 64 := BitVec.allOnes 64
def qaeu (r : RefD) (m : BitVec 64) : Bool := decide (0 ≤ r.h) && (m &&& bitB r.h == 0)
def qad7 (l : List PushD) (m : BitVec 64) : Bool := l.any fun x => decide (x.op = 2) && qaeu x.r m
def qacq (o : OpD) (m : BitVec 64) : Bool :=
 if o.kind = 1 then qad7 o.e m || qaeu o.r m
 else if o.kind = 5 then qad7 o.e m
 else if o.kind = 6 then (m &&& bitB o.head == 0) || qaeu o.r m
 else false
def qafz (o : OpD) (m : BitVec 64) : BitVec 64 := if o.kind = 2 then m ||| bitB o.head else if o.kind = 3 then m &&& ~~~(bitB o.head) else m
def qac4 : List OpD → BitVec 64 → Bool
 | [], _ => false
 | o :: l, m => qacq o m || qac4 l (qafz o m)
def opsM : List OpD → BitVec 64 → BitVec 64
 | [], m => m
 | o :: l, m => opsM l (qafz o m)
def qac9 (p : PlanD) (k : Int) : List OpD := ((p.acts[k.toNat]?).map ActD.ops).getD []
def yesT (p : PlanD) (m : BitVec 64) : List Int → BitVec 64 → BitVec 64
 | [], y => y
 | a :: l, y => yesT p m l (y &&& opsM (qac9 p a) m)
def qbi9 (p : PlanD) (k : Int) : TabD := (p.tabs[k.toNat]?).getD ⟨0, [], [], 0, 0, []⟩
def qacp (p : PlanD) (n : NodeD) (m : BitVec 64) : BitVec 64 :=
 if n.kind = 1 then yesT p m (qbi9 p n.n).acts allB
 else if n.kind = 2 then opsM (qac9 p n.n) m
 else if n.kind = 3 then m
 else m ||| bitB n.n
def qadv (n : NodeD) (m : BitVec 64) : BitVec 64 := if n.kind = 4 then m &&& ~~~(bitB n.n) else m
def qacx (p : PlanD) (n : NodeD) (m : BitVec 64) : Bool :=
 if n.kind = 1 then (qbi9 p n.n).keys.any (fun r => qaeu r m) || (qbi9 p n.n).acts.any (fun a => qac4 (qac9 p a) m)
 else if n.kind = 2 then qac4 (qac9 p n.n) m
 else if n.kind = 3 then qad7 n.e m
 else false
def twoB (n : NodeD) : Bool := decide (n.kind = 3) || decide (n.kind = 4)
def qam4 (l : List (BitVec 64)) (k : Int) (v : BitVec 64) : List (BitVec 64) := l.set k.toNat (l.getD k.toNat allB &&& v)
def qa5x (p : PlanD) (n : NodeD) (i : Nat) (l : List (BitVec 64)) : List (BitVec 64) :=
 if l.getD i allB = allB then l
 else if twoB n = true then qam4 (qam4 l n.yes (qacp p n (l.getD i allB))) n.no (qadv n (l.getD i allB))
 else qam4 l n.yes (qacp p n (l.getD i allB))
def atGo (p : PlanD) (s : BitVec 64) : Nat → List (BitVec 64)
 | 0 => (List.replicate (p.nodes.length + 1) allB).set 0 s
 | i + 1 => if h : i < p.nodes.length then qa5x p p.nodes[i] i (atGo p s i) else atGo p s i
theorem qahf (p : PlanD) (s : BitVec 64) {i : Nat} (h : i < p.nodes.length) : atGo p s (i + 1) = qa5x p p.nodes[i] i (atGo p s i) := by
 show (if h : i < p.nodes.length then _ else _) = _
 rw [dif_pos h]
theorem qajz (l : List (BitVec 64)) (k : Int) (v : BitVec 64) : (qam4 l k v).length = l.length := by simp [qam4]
theorem qbfr (p : PlanD) (n : NodeD) (i : Nat) (l : List (BitVec 64)) : (qa5x p n i l).length = l.length := by
 unfold qa5x; split
 ·rfl
 split <;> simp [qajz]
theorem qado (p : PlanD) (s : BitVec 64) : ∀ i, (atGo p s i).length = p.nodes.length + 1
 | 0 => by simp [atGo]
 | i + 1 => by
  by_cases h : i < p.nodes.length
  ·rw [qahf p s h, qbfr, qado p s i]
  ·show (if h : i < p.nodes.length then _ else _ : List (BitVec 64)).length = _
   rw [dif_neg h, qado p s i]
theorem qaj0 {l : List (BitVec 64)} {k : Int} {v : BitVec 64} {j : Nat} (hj : j < l.length) (hk : 0 ≤ k) : (qam4 l k v).getD j allB = if k = j then l.getD j allB &&& v else l.getD j allB := by
 unfold qam4
 by_cases e : k = j
 ·have e2 : k.toNat = j := by omega
  rw [if_pos e, e2, List.getD_eq_getElem?_getD, List.getElem?_set_self hj, Option.getD_some]
 ·have e2 : k.toNat ≠ j := by omega
  rw [if_neg e, List.getD_eq_getElem?_getD, List.getElem?_set_ne e2, ← List.getD_eq_getElem?_getD]
def qa50 (p : PlanD) (n : NodeD) (m : BitVec 64) (i : Nat) (out : BitVec 64) : BitVec 64 :=
 if n.yes = i then (if twoB n && decide (n.no = i) then (out &&& qacp p n m) &&& qadv n m else out &&& qacp p n m)
 else if twoB n && decide (n.no = i) then out &&& qadv n m else out
theorem qa5w {p : PlanD} {n : NodeD} {i j : Nat} {l : List (BitVec 64)} (hj : j < l.length) (hy : 0 ≤ n.yes) (hn : twoB n = true → 0 ≤ n.no) (h : l.getD i allB ≠ allB) : (qa5x p n i l).getD j allB = qa50 p n (l.getD i allB) j (l.getD j allB) := by
 unfold qa5x qa50
 rw [if_neg h]
 cases ht : twoB n
 ·rw [if_neg (by decide), qaj0 hj hy]
  simp
 ·rw [if_pos rfl, qaj0 (by rw [qajz]; exact hj) (hn ht), qaj0 hj hy]
  by_cases e1 : n.yes = j <;> by_cases e2 : n.no = j <;> simp [e1, e2]
end Go.Proofs.Yticeaegpkpjjeaa
namespace Go.Proofs.Yticeaegpkpjjeaa
set_option linter.all false
open Go.RowKit
def ExOk (p : PlanD) (l : List PushD) : Prop := ∀ x ∈ l, x.op = 2 → x.r.h < p.heads.length
structure OpOk (p : PlanD) (o : OpD) : Prop where
 kind : 1 ≤ o.kind ∧ o.kind ≤ 6
 ref : o.kind = 1 ∨ o.kind = 6 → o.r.h < p.heads.length
 ex : o.kind = 1 ∨ o.kind = 5 → ExOk p o.e
 head : o.kind = 2 ∨ o.kind = 3 ∨ o.kind = 6 → 0 ≤ o.head ∧ o.head < p.heads.length
structure NOk (p : PlanD) (i : Nat) (n : NodeD) : Prop where
 kind : n.kind = 1 ∨ n.kind = 2 ∨ n.kind = 3 ∨ n.kind = 4
 tab : n.kind = 1 → 0 ≤ n.n ∧ n.n < p.tabs.length
 act : n.kind = 2 → 0 ≤ n.n ∧ n.n < p.acts.length
 ex : n.kind = 3 → ExOk p n.e
 head : n.kind = 4 → 0 ≤ n.n ∧ n.n < p.heads.length
 yes : (i : Int) < n.yes ∧ n.yes ≤ p.nodes.length
 no : twoB n = true → (i : Int) < n.no ∧ n.no ≤ p.nodes.length
structure FOk (p : PlanD) : Prop where
 ops : ∀ a ∈ p.acts, ∀ o ∈ a.ops, OpOk p o
 keys : ∀ t ∈ p.tabs, ∀ r ∈ t.keys, r.h < p.heads.length
 tacts : ∀ t ∈ p.tabs, ∀ a ∈ t.acts, 0 ≤ a ∧ a < p.acts.length
 nodes : ∀ (i : Nat) (hi : i < p.nodes.length), NOk p i p.nodes[i]
 few : p.nodes.length ≤ 10
theorem qajg {p : PlanD} {r : RefD} {args : List Int} (h : qabw p r args ≠ 0) : r.h < p.heads.length := by
 by_cases h0 : r.h < 0
 ·omega
 ·unfold qabw qang at h
  rw [if_neg (by omega), if_neg (by omega), if_neg (by omega)] at h
  by_cases h1 : 0 ≤ r.h ∧ r.h < p.heads.length
  ·exact h1.2
  ·rw [if_neg h1] at h
   exact absurd (by unfold qa4s; split <;> simp [el]) h
theorem qbix {p : PlanD} {args : List Int} : ∀ (l : List PushD) (n : Int), qago p args l n = 0 → ExOk p l
 | [], _, _ => fun x hx => by cases hx
 | y :: l, n, h => by
  rw [qagn] at h
  by_cases h1 : qacc y.op < 0 ∨ n < qacc y.op
  ·rw [if_pos h1] at h; exact absurd h (by decide)
  rw [if_neg h1] at h
  by_cases h2 : y.op = 2 ∧ qabw p y.r args = 0
  ·rw [if_pos h2] at h; exact absurd h (by decide)
  rw [if_neg h2] at h
  intro x hx ho
  rcases List.mem_cons.1 hx with e | e
  ·rw [e]; exact qajg (args := args) fun hz => h2 ⟨by rw [← e]; exact ho, hz⟩
  ·exact qbix l _ h x e ho
theorem ex_ok {p : PlanD} {args : List Int} {l : List PushD} (h : qafg p l args = 0) : ExOk p l := by
 unfold qafg at h
 by_cases h1 : 8 < l.length
 ·rw [if_pos h1] at h; exact absurd h (by decide)
 ·rw [if_neg h1] at h; exact qbix l 0 h
theorem qa55 {p : PlanD} {h : Int} (hh : qacy p h = true) : 0 ≤ h ∧ h < p.heads.length := by
 unfold qacy at hh; rw [Bool.and_eq_true, decide_eq_true_eq, decide_eq_true_eq] at hh; exact hh
theorem may_ok {p : PlanD} {r : RefD} (h : qam9 p r = true) : r.h < p.heads.length := by
 unfold qam9 at h; rw [Bool.and_eq_true, decide_eq_true_eq, decide_eq_true_eq] at h; exact qajg (args := []) (by omega)
theorem deed_ok {p : PlanD} {o : OpD} {args : List Int} (h : qahe p o args = 0) : OpOk p o := by
 unfold qahe at h
 by_cases k1 : o.kind = 1
 ·rw [if_pos k1] at h
  cases hm : qam9 p o.r
  ·rw [hm] at h; simp at h
  ·rw [hm] at h
   exact ⟨by omega, fun _ => may_ok hm, fun _ => ex_ok h, fun hk => by omega⟩
 rw [if_neg k1] at h
 by_cases k2 : o.kind = 2 ∨ o.kind = 3
 ·rw [if_pos k2] at h
  cases hm : qacy p o.head
  ·rw [hm] at h; exact absurd h (by decide)
  ·exact ⟨by omega, fun hk => by omega, fun hk => by omega, fun _ => qa55 hm⟩
 rw [if_neg k2] at h
 by_cases k4 : o.kind = 4
 ·exact ⟨by omega, fun hk => by omega, fun hk => by omega, fun hk => by omega⟩
 rw [if_neg k4] at h
 by_cases k5 : o.kind = 5
 ·rw [if_pos k5] at h
  exact ⟨by omega, fun hk => by omega, fun _ => ex_ok h, fun hk => by omega⟩
 rw [if_neg k5] at h
 by_cases k6 : o.kind = 6
 ·rw [if_pos k6] at h
  cases hm : (qam9 p o.r && qacy p o.head)
  ·rw [hm] at h; exact absurd h (by decide)
  ·rw [Bool.and_eq_true] at hm
   exact ⟨by omega, fun _ => may_ok hm.1, fun hk => by omega, fun _ => qa55 hm.2⟩
 rw [if_neg k6] at h; exact absurd h (by decide)
theorem acts_ok {p : PlanD} (h : (qah6 p).1 = 0) : ∀ a ∈ p.acts, ∀ o ∈ a.ops, OpOk p o := fun a ha o ho => by
 have := qae3 (qacg h).2 a ha
 unfold actF at this
 by_cases h1 : 3 < a.w.length ∨ 5 < a.ops.length
 ·rw [if_pos h1] at this; exact absurd this (by decide)
 rw [if_neg h1] at this
 by_cases h2 : a.w.any wOut = true
 ·rw [if_pos h2] at this; exact absurd this (by decide)
 rw [if_neg h2] at this
 exact deed_ok (args := a.w) (qagm this o ho)
theorem qbh9 {p : PlanD} (h : (qag3 p).1 = 0) : ∀ t ∈ p.tabs, (∀ r ∈ t.keys, r.h < p.heads.length) ∧ ∀ a ∈ t.acts, 0 ≤ a ∧ a < p.acts.length := fun t ht => by
 have := qae3 (qacg h).2 t ht
 unfold tabF at this
 by_cases h1 : 3 < t.keys.length
 ·rw [if_pos h1] at this; exact absurd this (by decide)
 rw [if_neg h1] at this
 by_cases h2 : (qab4 p t).contains 0 = true
 ·rw [if_pos h2] at this; exact absurd this (by decide)
 rw [if_neg h2] at this
 refine ⟨fun r hr => qajg (args := []) fun hz => h2 ?_, fun a ha => ?_⟩
 ·rw [List.contains_iff_mem]; exact List.mem_map.2 ⟨r, hr, hz⟩
 ·unfold qadk at this
  by_cases g1 : t.kind < 1 ∨ 3 < t.kind
  ·rw [if_pos g1] at this; exact absurd this (by decide)
  rw [if_neg g1] at this
  by_cases g2 : (qab4 p t).length < 1 ∨ 3 < (qab4 p t).length ∨ (t.kind = 2 ∧ 1 < (qab4 p t).length) ∨ t.acts.length < 1 ∨ 4 < t.acts.length
  ·rw [if_pos g2] at this; exact absurd this (by decide)
  rw [if_neg g2] at this
  by_cases g3 : t.cap < 0 ∨ 16 < t.cap
  ·rw [if_pos g3] at this; exact absurd this (by decide)
  rw [if_neg g3] at this
  by_cases g4 : (qab4 p t).any wOut = true
  ·rw [if_pos g4] at this; exact absurd this (by decide)
  rw [if_neg g4] at this
  by_cases g5 : t.acts.any (aOut p.acts.length) = true
  ·rw [if_pos g5] at this; exact absurd this (by decide)
  have q : ¬ aOut p.acts.length a = true := fun e => g5 (List.any_eq_true.2 ⟨a, ha, e⟩)
  unfold aOut at q; rw [Bool.or_eq_true, decide_eq_true_eq, decide_eq_true_eq] at q; omega
theorem qas8 {p : PlanD} {i : Nat} {t : Int} (h : toF p i t = 0) : (i : Int) < t ∧ t ≤ p.nodes.length := by
 unfold toF at h
 by_cases h1 : t < 0 ∨ (p.nodes.length : Int) < t
 ·rw [if_pos h1] at h; exact absurd h (by decide)
 rw [if_neg h1] at h
 by_cases h2 : t ≤ i
 ·rw [if_pos h2] at h; exact absurd h (by decide)
 omega
theorem two_ok {p : PlanD} {i : Nat} {a b : Int} (h : (if toF p i a ≠ 0 then toF p i a else toF p i b) = 0) : toF p i a = 0 ∧ toF p i b = 0 := by
 by_cases h1 : toF p i a ≠ 0
 ·rw [if_pos h1] at h; exact absurd h h1
 ·rw [if_neg h1] at h; exact ⟨Decidable.not_not.1 h1, h⟩
theorem node_ok {p : PlanD} {i : Nat} {n : NodeD} (h : qanl p i n = 0) : NOk p i n := by
 unfold qanl at h
 by_cases k1 : n.kind = 1
 ·rw [if_pos k1] at h
  by_cases h1 : n.n < 0 ∨ (p.tabs.length : Int) ≤ n.n
  ·rw [if_pos h1] at h; exact absurd h (by decide)
  rw [if_neg h1] at h
  exact ⟨.inl k1, fun _ => by omega, fun hk => by omega, fun hk => by omega, fun hk => by omega, qas8 h, fun ht => by simp [twoB, k1] at ht⟩
 rw [if_neg k1] at h
 by_cases k2 : n.kind = 2
 ·rw [if_pos k2] at h
  by_cases h1 : n.n < 0 ∨ (p.acts.length : Int) ≤ n.n
  ·rw [if_pos h1] at h; exact absurd h (by decide)
  rw [if_neg h1] at h
  by_cases h2 : 0 < (actW p.acts n.n).length
  ·rw [if_pos h2] at h; exact absurd h (by decide)
  rw [if_neg h2] at h
  exact ⟨.inr (.inl k2), fun hk => by omega, fun _ => by omega, fun hk => by omega, fun hk => by omega, qas8 h, fun ht => by simp [twoB, k2] at ht⟩
 rw [if_neg k2] at h
 by_cases k3 : n.kind = 3
 ·rw [if_pos k3] at h
  by_cases h1 : qafg p n.e [] ≠ 0
  ·rw [if_pos h1] at h; exact absurd h h1
  rw [if_neg h1] at h
  obtain ⟨a, b⟩ := two_ok h
  exact ⟨.inr (.inr (.inl k3)), fun hk => by omega, fun hk => by omega, fun _ => ex_ok (args := []) (Decidable.not_not.1 h1), fun hk => by omega, qas8 a, fun _ => qas8 b⟩
 rw [if_neg k3] at h
 by_cases k4 : n.kind = 4
 ·rw [if_pos k4] at h
  cases hm : qacy p n.n
  ·rw [hm] at h; simp at h
  ·rw [hm, if_pos rfl] at h
   obtain ⟨a, b⟩ := two_ok h
   exact ⟨.inr (.inr (.inr k4)), fun hk => by omega, fun hk => by omega, fun hk => by omega, fun _ => qa55 hm, qas8 a, fun _ => qas8 b⟩
 rw [if_neg k4] at h; exact absurd h (by decide)
theorem fok_of {p : PlanD} (h : (qafi p).1 = 0) : FOk p := by
 have h1 := qacg h
 have h2 := qacg h1.2
 have h3 := qacg h2.2
 have h4 := qacg h3.2
 have h5 := qacg h4.2
 have h6 := qacg h5.2
 have hn := qacg h6.1
 have m := qajm hn.1
 rw [decide_eq_false_iff_not] at m
 refine ⟨acts_ok h4.1, fun t ht => (qbh9 h5.1 t ht).1, fun t ht => (qbh9 h5.1 t ht).2, fun i hi => ?_, by omega⟩
 have := qahm hn.2 i hi
 rw [Nat.zero_add] at this
 exact node_ok this
theorem qbi1 {p : PlanD} (hf : FOk p) (s : BitVec 64) {i : Nat} : ∀ j, i ≤ j → j ≤ p.nodes.length → (atGo p s j).getD i allB = (atGo p s i).getD i allB
 | 0, h, _ => by obtain rfl : i = 0 := by omega
                 rfl
 | j + 1, h, hj => by
  by_cases e : i = j + 1
  ·rw [e]
  ·have hlt : j < p.nodes.length := by omega
   rw [← qbi1 hf s j (by omega) (by omega), qahf p s hlt]
   have ok := hf.nodes j hlt
   by_cases ha : (atGo p s j).getD j allB = allB
   ·unfold qa5x; rw [if_pos ha]
   ·rw [qa5w (by rw [qado]; omega) (by have := ok.yes; omega) (fun ht => by have := ok.no ht; omega) ha]
    unfold qa50
    have e1 : ¬ p.nodes[j].yes = i := by have := ok.yes; omega
    rw [if_neg e1]
    cases ht : twoB p.nodes[j]
    ·rw [Bool.false_and, if_neg (by decide)]
    ·have e2 : ¬ p.nodes[j].no = i := by have := ok.no ht; omega
     rw [Bool.true_and, if_neg (by simpa using e2)]
end Go.Proofs.Yticeaegpkpjjeaa
namespace Go.Proofs.Yticeaegpkpjjeaa
set_option linter.all false
open Go.RowKit
abbrev qbhj : List SOper := [Oa 5 (.box 102 (.t 1))]
abbrev qbhi : List SOper := [Oa 8 (.mv (.t 0)), Oa 9 (.faddr 0 (.t 5)), Oa 10 (.load (.t 9)), Oa 11 (.bin .geq (.t 10) (.c (.int .i64 0))), Oa 12 (.mv (.t 11)), Oe 13 (.mv (.t 2)) 12 true, Oe 14 (.faddr 0 (.t 5)) 12 true, Oe 15 (.load (.t 14)) 12 true, ⟨(some 16), .mv (.c .any), some ((.c (.fn (.func 101) [] [])), [(.t 15)]), (some (12, true)), 0⟩, Oe 17 (.bin .and (.t 13) (.t 16)) 12 true, Oe 18 (.bin .eql (.t 17) (.c (.int .u64 0))) 12 true, Oa 19 (.pick (.t 12) (.t 18) (.c (.bool false))), Oa 20 (.mv (.t 3)), Oc 21 132 [(.t 8), (.t 19), (.t 20)]]
def c_fref : SCode := (.seq (.reg false qbhj [0, 2, 3, 5]) (.reg false qbhi []))
theorem qatv : comp Try.prog 22 ((Try.f98.body).getD .skip) = some c_fref.erase := by kernel_rfl
abbrev qbh3 : List SOper := [Oa 8 (.mv (.c (.int .u64 0)))]
abbrev qbh2 : List SOper := [Oa 11 (.mv (.t 0)), Oa 12 (.nilc (.t 11)), Oa 13 (.faddr 0 (.t 12)), Oa 14 (.faddr 3 (.t 13)), Oa 15 (.load (.t 14)), Oa 16 (.mv (.t 1)), Oa 17 (.iaddr 2 (.t 15) (.t 16)), Oa 18 (.faddr 1 (.t 17)), Oa 19 (.load (.t 18)), Oa 20 (.len false (.t 19)), Oa 21 (.mv (.c (.int .i64 0)))]
abbrev qbh1 : List SOper := [Oa 22 (.bin .lss (.t 21) (.t 20))]
abbrev qbh0 : List SOper := [Oa 23 (.iaddr 5 (.t 19) (.t 21)), Oa 24 (.loads 5 (.t 23)), Oa 10 (.alloc 111 [(.int .i64 0), (.int .i64 0), (.int .i64 0), (.int .i64 0), .nilsl]), Ob (.store 5 (.t 10) (.t 24))]
abbrev qbhz : List SOper := [Oa 25 (.faddr 0 (.t 10)), Oa 26 (.load (.t 25))]
abbrev qbhy : List SOper := [Oa 28 (.bin .eql (.t 26) (.c (.int .i64 1))), Oa 27 (.mv (.t 28))]
abbrev qbhx : List SOper := [Oa 29 (.mv (.t 0)), Oa 30 (.faddr 4 (.t 10)), Oa 31 (.load (.t 30)), Oa 32 (.mv (.t 2)), Oa 33 (.mv (.t 3)), Oc 34 100 [(.t 29), (.t 31), (.t 32), (.t 33)]]
abbrev qbhw : List SOper := [Oa 35 (.mv (.t 0)), Oa 36 (.faddr 1 (.t 10)), Oa 37 (.loads 2 (.t 36)), Oa 38 (.mv (.t 2)), Oa 39 (.mv (.t 3)), Oc 40 98 [(.t 35), (.t 37), (.t 38), (.t 39)]]
abbrev qbhv : List SOper := [Oa 42 (.bin .eql (.t 26) (.c (.int .i64 5))), Oa 41 (.mv (.t 42))]
abbrev qbe1 : List SOper := [Oa 43 (.mv (.t 0)), Oa 44 (.faddr 4 (.t 10)), Oa 45 (.load (.t 44)), Oa 46 (.mv (.t 2)), Oa 47 (.mv (.t 3)), Oc 48 100 [(.t 43), (.t 45), (.t 46), (.t 47)]]
abbrev qbe0 : List SOper := [Oa 50 (.bin .eql (.t 26) (.c (.int .i64 2))), Oa 49 (.mv (.t 50))]
abbrev qbez : List SOper := [Oa 51 (.mv (.t 2)), Oa 52 (.faddr 3 (.t 10)), Oa 53 (.load (.t 52)), Oc 54 101 [(.t 53)], Oa 55 (.bin .or (.t 51) (.t 54)), Oa 2 (.mv (.t 55))]
abbrev qbey : List SOper := [Oa 57 (.bin .eql (.t 26) (.c (.int .i64 3))), Oa 56 (.mv (.t 57))]
abbrev qbex : List SOper := [Oa 58 (.mv (.t 2)), Oa 59 (.faddr 3 (.t 10)), Oa 60 (.load (.t 59)), Oc 61 101 [(.t 60)], Oa 62 (.bin .andNot (.t 58) (.t 61)), Oa 2 (.mv (.t 62))]
abbrev qbew : List SOper := [Oa 64 (.bin .eql (.t 26) (.c (.int .i64 6))), Oa 63 (.mv (.t 64))]
abbrev qbev : List SOper := [Oa 65 (.mv (.t 0)), Oa 66 (.mv (.t 2)), Oa 67 (.faddr 3 (.t 10)), Oa 68 (.load (.t 67)), Oc 69 101 [(.t 68)], Oa 70 (.bin .and (.t 66) (.t 69)), Oa 71 (.bin .eql (.t 70) (.c (.int .u64 0))), Oa 72 (.mv (.t 3)), Oc 73 132 [(.t 65), (.t 71), (.t 72)]]
abbrev qbeu : List SOper := [Oa 74 (.mv (.t 0)), Oa 75 (.faddr 1 (.t 10)), Oa 76 (.loads 2 (.t 75)), Oa 77 (.mv (.t 2)), Oa 78 (.mv (.t 3)), Oc 79 98 [(.t 74), (.t 76), (.t 77), (.t 78)]]
abbrev qbet : List SOper := [Oa 80 (.bin .add (.t 21) (.c (.int .i64 1))), Oa 21 (.mv (.t 80))]
def qas6 : SCode := (.seq (.reg false qbh1 [0, 2, 3, 19, 20, 21, 22]) (.seq (.cond (.t 22) .skip (.exit 0)) (.seq (.block 1 (.seq (.reg false qbh0 [0, 2, 3, 10, 19, 20, 21]) (.seq (.reg false qbhz [0, 2, 3, 10, 19, 20, 21, 26]) (.block 2 (.seq (.reg false qbhy [0, 2, 3, 10, 19, 20, 21, 26, 27]) (.cond (.t 27) (.seq (.reg false qbhx [0, 2, 3, 10, 19, 20, 21]) (.reg false qbhw [0, 2, 3, 19, 20, 21])) (.seq (.reg false qbhv [0, 2, 3, 10, 19, 20, 21, 26, 41]) (.cond (.t 41) (.reg false qbe1 [0, 2, 3, 19, 20, 21]) (.seq (.reg false qbe0 [0, 2, 3, 10, 19, 20, 21, 26, 49]) (.cond (.t 49) (.reg false qbez [0, 2, 3, 19, 20, 21]) (.seq (.reg false qbey [0, 2, 3, 10, 19, 20, 21, 26, 56]) (.cond (.t 56) (.reg false qbex [0, 2, 3, 19, 20, 21]) (.seq (.reg false qbew [0, 2, 3, 10, 19, 20, 21, 63]) (.cond (.t 63) (.seq (.reg false qbev [0, 2, 3, 10, 19, 20, 21]) (.reg false qbeu [0, 2, 3, 19, 20, 21])) .skip)))))))))))))) (.reg false qbet [0, 2, 3, 19, 20, 21]))))
abbrev qbes : List SOper := [Oa 81 (.mv (.t 2)), Oa 8 (.mv (.t 81))]
def c_fact : SCode := (.seq (.reg false qbh3 [0, 1, 2, 3]) (.seq (.seq (.reg false qbh2 [0, 2, 3, 19, 20, 21]) (.block 0 (.loop qas6))) (.seq (.reg false qbes [8]) .ret)))
theorem qaty : comp Try.prog 82 ((Try.f99.body).getD .skip) = some c_fact.erase := by kernel_rfl
abbrev qbdz : List SOper := [Oa 10 (.mv (.t 1)), Oa 11 (.len false (.t 10)), Oa 12 (.mv (.c (.int .i64 0)))]
abbrev qbdy : List SOper := [Oa 13 (.bin .lss (.t 12) (.t 11))]
abbrev qbdx : List SOper := [Oa 14 (.iaddr 4 (.t 10) (.t 12)), Oa 15 (.loads 4 (.t 14)), Oa 9 (.alloc 137 [(.int .i64 0), (.int .i64 0), (.int .i64 0), (.int .u64 0)]), Ob (.store 4 (.t 9) (.t 15))]
abbrev qbdw : List SOper := [Oa 16 (.faddr 0 (.t 9)), Oa 17 (.load (.t 16)), Oa 18 (.bin .eql (.t 17) (.c (.int .i64 2)))]
abbrev qbdv : List SOper := [Oa 19 (.mv (.t 0)), Oa 20 (.faddr 1 (.t 9)), Oa 21 (.loads 2 (.t 20)), Oa 22 (.mv (.t 2)), Oa 23 (.mv (.t 3)), Oc 24 98 [(.t 19), (.t 21), (.t 22), (.t 23)]]
abbrev qbdu : List SOper := [Oa 25 (.bin .add (.t 12) (.c (.int .i64 1))), Oa 12 (.mv (.t 25))]
def qamw : SCode := (.seq (.reg false qbdy [0, 2, 3, 10, 11, 12, 13]) (.seq (.cond (.t 13) .skip (.exit 0)) (.seq (.block 1 (.seq (.reg false qbdx [0, 2, 3, 9, 10, 11, 12]) (.seq (.reg false qbdw [0, 2, 3, 9, 10, 11, 12, 18]) (.cond (.t 18) (.reg false qbdv [0, 2, 3, 10, 11, 12]) .skip)))) (.reg false qbdu [0, 2, 3, 10, 11, 12]))))
def c_ftree : SCode := (.seq (.reg false qbdz [0, 2, 3, 10, 11, 12]) (.block 0 (.loop qamw)))
theorem qaou : comp Try.prog 26 ((Try.f100.body).getD .skip) = some c_ftree.erase := by kernel_rfl
abbrev qbhu : List SOper := [Oa 2 (.mv (.c (.int .u64 0)))]
abbrev qbht : List SOper := [Oa 3 (.mv (.t 0)), Oa 4 (.bin .shl (.c (.int .u64 1)) (.t 3)), Oa 2 (.mv (.t 4))]
def c_fbit : SCode := (.seq (.reg false qbhu [0]) (.seq (.reg false qbht [2]) .ret))
theorem qatx : comp Try.prog 5 ((Try.f101.body).getD .skip) = some c_fbit.erase := by kernel_rfl
abbrev qbei : List SOper := [Oa 6 (.mv (.t 1)), Oa 7 (.mv (.t 6)), Oe 8 (.mv (.t 0)) 7 true, Oe 9 (.nilc (.t 8)) 7 true, Oe 10 (.faddr 8 (.t 9)) 7 true, Oe 11 (.faddr 0 (.t 10)) 7 true, Oe 12 (.load (.t 11)) 7 true, Oe 13 (.bin .eql (.t 12) (.c (.int .i64 0))) 7 true, Oa 14 (.pick (.t 7) (.t 13) (.c (.bool false)))]
abbrev qbeh : List SOper := [Oa 15 (.mv (.t 0)), Oa 16 (.mv (.t 2)), Oa 17 (.build [(.int .i64 0), (.int .i64 0)] [(0, 1, (.c (.int .i64 12))), (1, 1, (.t 16))]), Oa 18 (.nilc (.t 15)), Oa 19 (.faddr 8 (.t 18)), Ob (.store 2 (.t 19) (.t 17))]
def c_ffail : SCode := (.seq (.reg false qbei [0, 2, 14]) (.cond (.t 14) (.reg false qbeh []) .skip))
theorem qaow : comp Try.prog 20 ((Try.f132.body).getD .skip) = some c_ffail.erase := by kernel_rfl
abbrev qbd8 : List SOper := [Oa 14 (.mv (.t 0)), Od 15 (.nilc (.t 14)) 1, Od 16 (.faddr 0 (.t 15)) 3, Od 17 (.faddr 5 (.t 16)) 7, Od 18 (.load (.t 17)) 15, Oa 19 (.mv (.t 1)), Od 20 (.iaddr 5 (.t 18) (.t 19)) 63, Od 21 (.loads 5 (.t 20)) 127, Oa 22 (.mv (.t 0)), Od 23 (.nilc (.t 22)) 256, Od 24 (.faddr 7 (.t 23)) 768, Od 25 (.load (.t 24)) 1792, Oa 26 (.mv (.t 1)), Od 27 (.iaddr 1 (.t 25) (.t 26)) 7936, Od 28 (.load (.t 27)) 16128, Oa 4 (.alloc 116 [(.int .i64 0), (.int .i64 0), .nilsl, (.int .i64 0), (.int .i64 0)]), ⟨none, .store 5 (.t 4) (.t 21), none, none, 33023⟩, Od 5 (.mv (.t 28)) 131071]
abbrev qbd7 : List SOper := [Oa 29 (.mv (.t 5)), Oa 30 (.bin .eql (.t 29) (.c (.int .u64 18446744073709551615)))]
abbrev qbd6 : List SOper := [Oa 31 (.mv (.t 5)), Oa 32 (.mv (.t 5)), Oa 6 (.mv (.t 31)), Oa 7 (.mv (.t 32))]
abbrev qbd5 : List SOper := [Oa 33 (.mv (.t 1)), Oa 34 (.bin .add (.c (.int .i64 6000)) (.t 33)), Oa 8 (.mv (.t 34))]
abbrev qbd4 : List SOper := [Oa 35 (.faddr 0 (.t 4)), Oa 36 (.load (.t 35))]
abbrev qbd3 : List SOper := [Oa 38 (.bin .eql (.t 36) (.c (.int .i64 1))), Oa 37 (.mv (.t 38))]
abbrev qbd2 : List SOper := [Oa 39 (.mv (.t 0)), Od 40 (.nilc (.t 39)) 1, Od 41 (.faddr 0 (.t 40)) 3, Od 42 (.faddr 4 (.t 41)) 7, Od 43 (.load (.t 42)) 15, Oa 44 (.faddr 1 (.t 4)), Od 45 (.load (.t 44)) 32, Od 46 (.iaddr 6 (.t 43) (.t 45)) 127, Od 47 (.loads 6 (.t 46)) 255, Oa 9 (.alloc 114 [(.int .i64 0), .nilsl, .nilsl, (.int .i64 0), (.int .i64 0), .nilsl]), ⟨none, .store 6 (.t 9) (.t 47), none, none, 1023⟩]
abbrev qbd1 : List SOper := [Oa 48 (.faddr 1 (.t 9)), Oa 49 (.load (.t 48)), Oa 50 (.len false (.t 49)), Oa 51 (.mv (.c (.int .i64 0)))]
abbrev qbd0 : List SOper := [Oa 52 (.bin .lss (.t 51) (.t 50))]
abbrev qa4f : List SOper := [Oa 53 (.iaddr 2 (.t 49) (.t 51)), Oa 54 (.loads 2 (.t 53)), Oa 11 (.alloc 102 [(.int .i64 0), (.int .i64 0)]), Ob (.store 2 (.t 11) (.t 54))]
abbrev qa4e : List SOper := [Oa 55 (.mv (.t 0)), Oa 56 (.loads 2 (.t 11)), Oa 57 (.mv (.t 5)), Oa 58 (.mv (.t 8)), Oc 59 98 [(.t 55), (.t 56), (.t 57), (.t 58)]]
abbrev qa4d : List SOper := [Oa 60 (.bin .add (.t 51) (.c (.int .i64 1))), Oa 51 (.mv (.t 60))]
def qamy : SCode := (.seq (.reg false qbd0 [0, 4, 5, 7, 8, 9, 49, 50, 51, 52]) (.seq (.cond (.t 52) .skip (.exit 1)) (.seq (.block 2 (.seq (.reg false qa4f [0, 4, 5, 7, 8, 9, 11, 49, 50, 51]) (.reg false qa4e [0, 4, 5, 7, 8, 9, 49, 50, 51]))) (.reg false qa4d [0, 4, 5, 7, 8, 9, 49, 50, 51]))))
abbrev qa4c : List SOper := [Oa 6 (.mv (.c (.int .u64 18446744073709551615)))]
abbrev qa4b : List SOper := [Oa 61 (.faddr 2 (.t 9)), Oa 62 (.load (.t 61)), Oa 63 (.len false (.t 62)), Oa 64 (.mv (.c (.int .i64 0)))]
abbrev qa4a : List SOper := [Oa 65 (.bin .lss (.t 64) (.t 63))]
abbrev qa39 : List SOper := [Oa 66 (.iaddr 1 (.t 62) (.t 64)), Oa 67 (.load (.t 66)), Oa 13 (.mv (.t 67))]
abbrev qa38 : List SOper := [Oa 68 (.mv (.t 6)), Oa 69 (.mv (.t 0)), Oa 70 (.mv (.t 13)), Oa 71 (.mv (.t 5)), Oa 72 (.mv (.t 8)), Oc 73 99 [(.t 69), (.t 70), (.t 71), (.t 72)], Oa 74 (.bin .and (.t 68) (.t 73)), Oa 6 (.mv (.t 74))]
abbrev qa37 : List SOper := [Oa 75 (.bin .add (.t 64) (.c (.int .i64 1))), Oa 64 (.mv (.t 75))]
def qamx : SCode := (.seq (.reg false qa4a [0, 4, 5, 6, 7, 8, 62, 63, 64, 65]) (.seq (.cond (.t 65) .skip (.exit 3)) (.seq (.block 4 (.seq (.reg false qa39 [0, 4, 5, 6, 7, 8, 13, 62, 63, 64]) (.reg false qa38 [0, 4, 5, 6, 7, 8, 62, 63, 64]))) (.reg false qa37 [0, 4, 5, 6, 7, 8, 62, 63, 64]))))
abbrev qa36 : List SOper := [Oa 77 (.bin .eql (.t 36) (.c (.int .i64 2))), Oa 76 (.mv (.t 77))]
abbrev qa35 : List SOper := [Oa 78 (.mv (.t 0)), Oa 79 (.faddr 1 (.t 4)), Oa 80 (.load (.t 79)), Oa 81 (.mv (.t 5)), Oa 82 (.mv (.t 8)), Oc 83 99 [(.t 78), (.t 80), (.t 81), (.t 82)], Oa 6 (.mv (.t 83))]
abbrev qa34 : List SOper := [Oa 85 (.bin .eql (.t 36) (.c (.int .i64 3))), Oa 84 (.mv (.t 85))]
abbrev qa33 : List SOper := [Oa 86 (.mv (.t 0)), Oa 87 (.faddr 2 (.t 4)), Oa 88 (.load (.t 87)), Oa 89 (.mv (.t 5)), Oa 90 (.mv (.t 8)), Oc 91 100 [(.t 86), (.t 88), (.t 89), (.t 90)]]
abbrev qa32 : List SOper := [Oa 93 (.bin .eql (.t 36) (.c (.int .i64 4))), Oa 92 (.mv (.t 93))]
abbrev qa31 : List SOper := [Oa 94 (.mv (.t 6)), Oa 95 (.faddr 1 (.t 4)), Oa 96 (.load (.t 95)), Oc 97 101 [(.t 96)], Oa 98 (.bin .or (.t 94) (.t 97)), Oa 6 (.mv (.t 98))]
abbrev qa30 : List SOper := [Oa 99 (.mv (.t 7)), Oa 100 (.faddr 1 (.t 4)), Oa 101 (.load (.t 100)), Oc 102 101 [(.t 101)], Oa 103 (.bin .andNot (.t 99) (.t 102)), Oa 7 (.mv (.t 103))]
abbrev qad2 : List SOper := [Oa 104 (.mv (.t 0)), Od 105 (.nilc (.t 104)) 1, Od 106 (.faddr 7 (.t 105)) 3, Od 107 (.load (.t 106)) 7, Oa 108 (.faddr 3 (.t 4)), Od 109 (.load (.t 108)) 16, Od 110 (.iaddr 1 (.t 107) (.t 109)) 63, Od 111 (.load (.t 110)) 127, Oa 112 (.mv (.t 6)), Od 113 (.bin .and (.t 111) (.t 112)) 511, Od 114 (.iaddr 1 (.t 107) (.t 109)) 1023, ⟨none, .store 1 (.t 114) (.t 113), none, none, 2047⟩]
abbrev qad1 : List SOper := [Oa 115 (.faddr 0 (.t 4)), Oa 116 (.load (.t 115)), Oa 117 (.bin .eql (.t 116) (.c (.int .i64 3))), Oa 118 (.mv (.t 117)), Oe 119 (.faddr 0 (.t 4)) 118 false, Oe 120 (.load (.t 119)) 118 false, Oe 121 (.bin .eql (.t 120) (.c (.int .i64 4))) 118 false, Oa 122 (.pick (.t 118) (.c (.bool true)) (.t 121))]
abbrev qad0 : List SOper := [Oa 123 (.mv (.t 0)), Od 124 (.nilc (.t 123)) 1, Od 125 (.faddr 7 (.t 124)) 3, Od 126 (.load (.t 125)) 7, Oa 127 (.faddr 4 (.t 4)), Od 128 (.load (.t 127)) 16, Od 129 (.iaddr 1 (.t 126) (.t 128)) 63, Od 130 (.load (.t 129)) 127, Oa 131 (.mv (.t 7)), Od 132 (.bin .and (.t 130) (.t 131)) 511, Od 133 (.iaddr 1 (.t 126) (.t 128)) 1023, ⟨none, .store 1 (.t 133) (.t 132), none, none, 2047⟩]
def c_fnode : SCode := (.seq (.reg true qbd8 [0, 1, 4, 5]) (.seq (.seq (.reg false qbd7 [0, 1, 4, 5, 30]) (.cond (.t 30) .ret .skip)) (.seq (.reg false qbd6 [0, 1, 4, 5, 6, 7]) (.seq (.reg false qbd5 [0, 4, 5, 6, 7, 8]) (.seq (.seq (.reg false qbd4 [0, 4, 5, 6, 7, 8, 36]) (.block 0 (.seq (.reg false qbd3 [0, 4, 5, 6, 7, 8, 36, 37]) (.cond (.t 37) (.seq (.reg true qbd2 [0, 4, 5, 7, 8, 9]) (.seq (.seq (.reg false qbd1 [0, 4, 5, 7, 8, 9, 49, 50, 51]) (.block 1 (.loop qamy))) (.seq (.reg false qa4c [0, 4, 5, 6, 7, 8, 9]) (.seq (.reg false qa4b [0, 4, 5, 6, 7, 8, 62, 63, 64]) (.block 3 (.loop qamx)))))) (.seq (.reg false qa36 [0, 4, 5, 6, 7, 8, 36, 76]) (.cond (.t 76) (.reg false qa35 [0, 4, 6, 7]) (.seq (.reg false qa34 [0, 4, 5, 6, 7, 8, 36, 84]) (.cond (.t 84) (.reg false qa33 [0, 4, 6, 7]) (.seq (.reg false qa32 [0, 4, 6, 7, 92]) (.cond (.t 92) (.seq (.reg false qa31 [0, 4, 6, 7]) (.reg false qa30 [0, 4, 6, 7])) .skip)))))))))) (.seq (.reg true qad2 [0, 4, 7]) (.seq (.reg false qad1 [0, 4, 7, 122]) (.cond (.t 122) (.reg true qad0 []) .skip))))))))
theorem qaov : comp Try.prog 134 ((Try.f54.body).getD .skip) = some c_fnode.erase := by kernel_rfl
abbrev qbhs : List SOper := [Oa 1 (.box 29 (.t 0)), Oa 2 (.mv (.c .nilsl)), Oa 3 (.alloc 35 [(.int .i64 0), (.int .i64 0)])]
abbrev qbhr : List SOper := [Oa 10 (.loads 7 (.t 1)), Oc 11 10 [(.t 10)], Oa 9 (.mv (.t 11)), Oa 12 (.extr (.t 9) 0), Oa 13 (.extr (.t 9) 1), Oa 5 (.alloc 35 [(.int .i64 0), (.int .i64 0)]), Oa 4 (.mv (.t 12)), Ob (.store 2 (.t 5) (.t 13))]
abbrev qbhq : List SOper := [Oa 14 (.faddr 0 (.t 5)), Oa 15 (.load (.t 14)), Oa 16 (.bin .neq (.t 15) (.c (.int .i64 0)))]
abbrev qbhp : List SOper := [Oa 17 (.loads 2 (.t 5)), Oa 2 (.mv (.c .nilsl)), ⟨none, .store 2 (.t 3) (.t 17), none, none, 3⟩]
abbrev qbho : List SOper := [Oa 18 (.loads 7 (.t 1)), Oa 19 (.build [.nilsl, .nilsl, .nilsl, .nilsl, .nilsl, .nilsl, .nilsl, .nilsl, (.int .i64 0), (.int .i64 0)] [(0, 7, (.t 18))]), Oa 20 (.box 142 (.t 19)), Oa 6 (.mv (.t 20))]
abbrev qbhn : List SOper := [Oa 21 (.faddr 5 (.t 1)), Oa 22 (.load (.t 21)), Oa 23 (.len false (.t 22)), Oa 24 (.bin .add (.t 23) (.c (.int .i64 1))), Oa 25 (.mv (.c (.int .i64 0)))]
abbrev qbhm : List SOper := [Oa 26 (.bin .lss (.t 25) (.t 24))]
abbrev qbhl : List SOper := [Oa 27 (.mv (.t 6)), Oa 28 (.mv (.t 6)), Oa 29 (.nilc (.t 28)), Oa 30 (.faddr 7 (.t 29)), Oa 31 (.load (.t 30)), Oa 32 (.mkrow 39 1 1 [(.int .u64 0)] [(0, (.c (.int .u64 18446744073709551615)))]), Oa 33 (.app 39 1 8 (.t 31) (.t 32)), Oa 34 (.nilc (.t 27)), Oa 35 (.faddr 7 (.t 34)), Ob (.store 1 (.t 35) (.t 33))]
abbrev qbhk : List SOper := [Oa 36 (.bin .add (.t 25) (.c (.int .i64 1))), Oa 25 (.mv (.t 36))]
def qas5 : SCode := (.seq (.reg false qbhm [1, 3, 4, 6, 24, 25, 26]) (.seq (.cond (.t 26) .skip (.exit 0)) (.seq (.block 1 (.reg false qbhl [1, 3, 4, 6, 24, 25])) (.reg false qbhk [1, 3, 4, 6, 24, 25]))))
abbrev qbeg : List SOper := [Oa 37 (.mv (.t 4)), Oa 38 (.faddr 2 (.t 1)), Oa 39 (.load (.t 38)), Oa 40 (.len false (.t 39)), Oa 41 (.iaddr 5 (.t 37) (.t 40)), Oa 42 (.loads 5 (.t 41)), Oa 7 (.alloc 45 [(.int .u64 0), (.int .u64 0), (.int .i64 0), (.int .i64 0), (.bool false)]), Ob (.store 5 (.t 7) (.t 42))]
abbrev qbef : List SOper := [Oa 43 (.faddr 4 (.t 7)), Oa 44 (.load (.t 43))]
abbrev qbee : List SOper := [Oa 45 (.mv (.t 6)), Od 46 (.nilc (.t 45)) 1, Od 47 (.faddr 7 (.t 46)) 3, Od 48 (.load (.t 47)) 7, Oa 49 (.faddr 0 (.t 7)), Od 50 (.load (.t 49)) 16, Od 51 (.iaddr 1 (.t 48) (.c (.int .i64 0))) 63, ⟨none, .store 1 (.t 51) (.t 50), none, none, 127⟩]
abbrev qbed : List SOper := [Oa 52 (.faddr 5 (.t 1)), Oa 53 (.load (.t 52)), Oa 54 (.len false (.t 53)), Oa 55 (.mv (.c (.int .i64 0)))]
abbrev qbec : List SOper := [Oa 56 (.bin .lss (.t 55) (.t 54))]
abbrev qbeb : List SOper := [Oa 57 (.mv (.t 55)), Oa 8 (.mv (.t 57))]
abbrev qbea : List SOper := [Oa 58 (.mv (.t 6)), Oa 59 (.mv (.t 8)), Oc 60 54 [(.t 58), (.t 59)]]
abbrev qbd9 : List SOper := [Oa 61 (.bin .add (.t 55) (.c (.int .i64 1))), Oa 55 (.mv (.t 61))]
def c_flow_l2 : SCode := (.seq (.reg false qbec [3, 6, 54, 55, 56]) (.seq (.cond (.t 56) .skip (.exit 2)) (.seq (.block 3 (.seq (.reg false qbeb [3, 6, 8, 54, 55]) (.reg false qbea [3, 6, 54, 55]))) (.reg false qbd9 [3, 6, 54, 55]))))
abbrev qam1 : List SOper := [Oa 62 (.mv (.t 6)), Oa 63 (.nilc (.t 62)), Oa 64 (.faddr 8 (.t 63)), Oa 65 (.faddr 0 (.t 64)), Oa 66 (.load (.t 65)), Oa 67 (.bin .neq (.t 66) (.c (.int .i64 0)))]
abbrev qam0 : List SOper := [Oa 68 (.mv (.t 6)), Od 69 (.nilc (.t 68)) 1, Od 70 (.faddr 8 (.t 69)) 3, Od 71 (.loads 2 (.t 70)) 7, Oa 2 (.mv (.c .nilsl)), ⟨none, .store 2 (.t 3) (.t 71), none, none, 31⟩]
abbrev qamz : List SOper := [Oa 72 (.mv (.t 6)), Oa 73 (.nilc (.t 72)), Oa 74 (.faddr 7 (.t 73)), Oa 75 (.load (.t 74)), Oa 76 (.build [(.int .i64 0), (.int .i64 0)] []), Oa 2 (.mv (.t 75)), Ob (.store 2 (.t 3) (.t 76))]
def c_flow : SCode := (.seq (.reg false qbhs [1, 3]) (.seq (.reg false qbhr [1, 3, 4, 5]) (.seq (.seq (.reg false qbhq [1, 3, 4, 5, 16]) (.cond (.t 16) (.seq (.reg true qbhp [2, 3]) .ret) .skip)) (.seq (.reg false qbho [1, 3, 4, 6]) (.seq (.seq (.reg false qbhn [1, 3, 4, 6, 24, 25]) (.block 0 (.loop qas5))) (.seq (.seq (.reg false qbeg [1, 3, 6, 7]) (.seq (.reg false qbef [1, 3, 6, 7, 44]) (.cond (.t 44) (.reg true qbee [1, 3, 6]) .skip))) (.seq (.seq (.reg false qbed [3, 6, 54, 55]) (.block 2 (.loop c_flow_l2))) (.seq (.seq (.reg false qam1 [3, 6, 67]) (.cond (.t 67) (.seq (.reg true qam0 [2, 3]) .ret) .skip)) (.seq (.reg false qamz [2, 3]) .ret)))))))))
theorem qatw : comp Try.prog 77 ((Try.f16.body).getD .skip) = some c_flow.erase := by kernel_rfl
abbrev qa4i : List SOper := [Oa 1 (.box 29 (.t 0)), Oa 2 (.alloc 35 [(.int .i64 0), (.int .i64 0)])]
abbrev qa4h : List SOper := [Oa 6 (.loads 7 (.t 1)), Oc 7 16 [(.t 6)], Oa 5 (.mv (.t 7)), Oa 8 (.extr (.t 5) 0), Oa 9 (.extr (.t 5) 1), Oa 4 (.alloc 35 [(.int .i64 0), (.int .i64 0)]), Oa 3 (.mv (.t 8)), Ob (.store 2 (.t 4) (.t 9))]
abbrev qa4g : List SOper := [Oa 10 (.loads 2 (.t 4)), Ob (.store 2 (.t 2) (.t 10))]
def c_fcheck : SCode := (.seq (.reg false qa4i [1, 2]) (.seq (.reg false qa4h [2, 4]) (.seq (.reg false qa4g [2]) .ret)))
theorem qak4 : comp Try.prog 11 ((Try.f19.body).getD .skip) = some c_fcheck.erase := by kernel_rfl
abbrev qbag : List SOper := [Oa 2 (.box 102 (.t 0)), Oa 4 (.mv (.c (.bool false)))]
abbrev qbaf : List SOper := [Oa 5 (.faddr 0 (.t 2)), Oa 6 (.load (.t 5)), Oa 7 (.bin .geq (.t 6) (.c (.int .i64 0))), Oa 8 (.mv (.t 7)), Oe 9 (.mv (.t 1)) 8 true, Oe 10 (.faddr 0 (.t 2)) 8 true, Oe 11 (.load (.t 10)) 8 true, ⟨(some 12), .mv (.c .any), some ((.c (.fn (.func 97) [] [])), [(.t 11)]), (some (8, true)), 0⟩, Oe 13 (.bin .and (.t 9) (.t 12)) 8 true, Oe 14 (.bin .eql (.t 13) (.c (.int .u64 0))) 8 true, Oa 15 (.pick (.t 8) (.t 14) (.c (.bool false))), Oa 4 (.mv (.t 15))]
def c_rgone : SCode := (.seq (.reg false qbag [1, 2]) (.seq (.reg false qbaf [4]) .ret))
theorem qaod : comp Try.prog 16 ((Try.f104.body).getD .skip) = some c_rgone.erase := by kernel_rfl
abbrev qaw8 : List SOper := [Oa 4 (.mv (.c (.bool false)))]
abbrev qaw7 : List SOper := [Oa 5 (.mv (.c (.int .i64 0)))]
abbrev qaw6 : List SOper := [Oa 6 (.mv (.t 5)), Oa 7 (.mv (.t 0)), Oa 8 (.len false (.t 7)), Oa 9 (.bin .lss (.t 6) (.t 8))]
abbrev qaw5 : List SOper := [Oa 12 (.mv (.t 0)), Oa 13 (.mv (.t 5)), Oa 14 (.iaddr 4 (.t 12) (.t 13)), Oa 15 (.faddr 0 (.t 14)), Oa 16 (.load (.t 15)), Oa 17 (.bin .eql (.t 16) (.c (.int .i64 2))), Oa 18 (.mv (.t 17)), Oe 19 (.mv (.t 0)) 18 true, Oe 20 (.mv (.t 5)) 18 true, Oe 21 (.iaddr 4 (.t 19) (.t 20)) 18 true, Oe 22 (.faddr 1 (.t 21)) 18 true, Oe 23 (.loads 2 (.t 22)) 18 true, Oe 24 (.mv (.t 1)) 18 true, ⟨(some 25), .mv (.c .any), some ((.c (.fn (.func 104) [] [])), [(.t 23), (.t 24)]), (some (18, true)), 0⟩, Oa 26 (.pick (.t 18) (.t 25) (.c (.bool false)))]
abbrev qaw4 : List SOper := [Oa 4 (.mv (.c (.bool true)))]
abbrev qaw3 : List SOper := [Oa 10 (.mv (.t 5)), Oa 11 (.bin .add (.t 10) (.c (.int .i64 1))), Oa 5 (.mv (.t 11))]
def qaiy : SCode := (.seq (.seq (.reg false qaw6 [0, 1, 5, 9]) (.cond (.t 9) .skip (.exit 0))) (.seq (.block 1 (.seq (.reg false qaw5 [0, 1, 5, 26]) (.cond (.t 26) (.seq (.reg false qaw4 [4]) .ret) .skip))) (.reg false qaw3 [0, 1, 5])))
abbrev qaw2 : List SOper := [Oa 4 (.mv (.c (.bool false)))]
def c_rtgone : SCode := (.seq (.reg false qaw8 [0, 1]) (.seq (.seq (.reg false qaw7 [0, 1, 5]) (.block 0 (.loop qaiy))) (.seq (.reg false qaw2 [4]) .ret)))
theorem qakw : comp Try.prog 27 ((Try.f106.body).getD .skip) = some c_rtgone.erase := by kernel_rfl
abbrev qbbp : List SOper := [Oa 3 (.box 29 (.t 0)), Oa 6 (.mv (.c (.int .u64 0))), Oa 7 (.mv (.c (.bool false)))]
abbrev qbbo : List SOper := [Oa 8 (.mv (.c (.bool false)))]
abbrev qbbn : List SOper := [Oa 9 (.mv (.c (.int .i64 0)))]
abbrev qbbm : List SOper := [Oa 11 (.mv (.t 9)), Oa 12 (.faddr 3 (.t 3)), Oa 13 (.load (.t 12)), Oa 14 (.mv (.t 1)), Oa 15 (.iaddr 2 (.t 13) (.t 14)), Oa 16 (.faddr 1 (.t 15)), Oa 17 (.load (.t 16)), Oa 18 (.len false (.t 17)), Oa 19 (.bin .lss (.t 11) (.t 18))]
abbrev qbbl : List SOper := [Oa 22 (.faddr 3 (.t 3)), Oa 23 (.load (.t 22)), Oa 24 (.mv (.t 1)), Oa 25 (.iaddr 2 (.t 23) (.t 24)), Oa 26 (.faddr 1 (.t 25)), Oa 27 (.load (.t 26)), Oa 28 (.mv (.t 9)), Oa 29 (.iaddr 5 (.t 27) (.t 28)), Oa 30 (.loads 5 (.t 29)), Oa 10 (.alloc 111 [(.int .i64 0), (.int .i64 0), (.int .i64 0), (.int .i64 0), .nilsl]), Ob (.store 5 (.t 10) (.t 30))]
abbrev qbbk : List SOper := [Oa 31 (.faddr 0 (.t 10)), Oa 32 (.load (.t 31))]
abbrev qbbj : List SOper := [Oa 34 (.bin .eql (.t 32) (.c (.int .i64 1))), Oa 33 (.mv (.t 34))]
abbrev qbbi : List SOper := [Oa 35 (.mv (.t 8)), Oa 36 (.mv (.t 35)), Oe 37 (.faddr 4 (.t 10)) 36 false, Oe 38 (.load (.t 37)) 36 false, Oe 39 (.mv (.t 2)) 36 false, ⟨(some 40), .mv (.c .any), some ((.c (.fn (.func 106) [] [])), [(.t 38), (.t 39)]), (some (36, false)), 0⟩, Oa 41 (.pick (.t 36) (.c (.bool true)) (.t 40)), Oa 42 (.mv (.t 41)), Oe 43 (.faddr 1 (.t 10)) 42 false, Oe 44 (.loads 2 (.t 43)) 42 false, Oe 45 (.mv (.t 2)) 42 false, ⟨(some 46), .mv (.c .any), some ((.c (.fn (.func 104) [] [])), [(.t 44), (.t 45)]), (some (42, false)), 0⟩, Oa 47 (.pick (.t 42) (.c (.bool true)) (.t 46)), Oa 8 (.mv (.t 47))]
abbrev qbbh : List SOper := [Oa 49 (.bin .eql (.t 32) (.c (.int .i64 5))), Oa 48 (.mv (.t 49))]
abbrev qa1s : List SOper := [Oa 50 (.mv (.t 8)), Oa 51 (.mv (.t 50)), Oe 52 (.faddr 4 (.t 10)) 51 false, Oe 53 (.load (.t 52)) 51 false, Oe 54 (.mv (.t 2)) 51 false, ⟨(some 55), .mv (.c .any), some ((.c (.fn (.func 106) [] [])), [(.t 53), (.t 54)]), (some (51, false)), 0⟩, Oa 56 (.pick (.t 51) (.c (.bool true)) (.t 55)), Oa 8 (.mv (.t 56))]
abbrev qa1r : List SOper := [Oa 58 (.bin .eql (.t 32) (.c (.int .i64 6))), Oa 57 (.mv (.t 58))]
abbrev qa1q : List SOper := [Oa 59 (.mv (.t 8)), Oa 60 (.mv (.t 59)), Oe 61 (.mv (.t 2)) 60 false, Oe 62 (.faddr 3 (.t 10)) 60 false, Oe 63 (.load (.t 62)) 60 false, ⟨(some 64), .mv (.c .any), some ((.c (.fn (.func 97) [] [])), [(.t 63)]), (some (60, false)), 0⟩, Oe 65 (.bin .and (.t 61) (.t 64)) 60 false, Oe 66 (.bin .eql (.t 65) (.c (.int .u64 0))) 60 false, Oa 67 (.pick (.t 60) (.c (.bool true)) (.t 66)), Oa 68 (.mv (.t 67)), Oe 69 (.faddr 1 (.t 10)) 68 false, Oe 70 (.loads 2 (.t 69)) 68 false, Oe 71 (.mv (.t 2)) 68 false, ⟨(some 72), .mv (.c .any), some ((.c (.fn (.func 104) [] [])), [(.t 70), (.t 71)]), (some (68, false)), 0⟩, Oa 73 (.pick (.t 68) (.c (.bool true)) (.t 72)), Oa 8 (.mv (.t 73))]
abbrev qa1p : List SOper := [Oa 75 (.bin .eql (.t 32) (.c (.int .i64 2))), Oa 74 (.mv (.t 75))]
abbrev qa1o : List SOper := [Oa 76 (.mv (.t 2)), Oa 77 (.faddr 3 (.t 10)), Oa 78 (.load (.t 77)), Oc 79 97 [(.t 78)], Oa 80 (.bin .or (.t 76) (.t 79)), Oa 2 (.mv (.t 80))]
abbrev qa1n : List SOper := [Oa 82 (.bin .eql (.t 32) (.c (.int .i64 3))), Oa 81 (.mv (.t 82))]
abbrev qa1m : List SOper := [Oa 83 (.mv (.t 2)), Oa 84 (.mv (.t 2)), Oa 85 (.faddr 3 (.t 10)), Oa 86 (.load (.t 85)), Oc 87 97 [(.t 86)], Oa 88 (.bin .and (.t 84) (.t 87)), Oa 89 (.bin .sub (.t 83) (.t 88)), Oa 2 (.mv (.t 89))]
abbrev qa1l : List SOper := [Oa 20 (.mv (.t 9)), Oa 21 (.bin .add (.t 20) (.c (.int .i64 1))), Oa 9 (.mv (.t 21))]
def qal7 : SCode := (.seq (.seq (.reg false qbbm [1, 2, 3, 8, 9, 19]) (.cond (.t 19) .skip (.exit 0))) (.seq (.block 1 (.seq (.reg false qbbl [1, 2, 3, 8, 9, 10]) (.seq (.reg false qbbk [1, 2, 3, 8, 9, 10, 32]) (.block 2 (.seq (.reg false qbbj [1, 2, 3, 8, 9, 10, 32, 33]) (.cond (.t 33) (.reg false qbbi [1, 2, 3, 8, 9]) (.seq (.reg false qbbh [1, 2, 3, 8, 9, 10, 32, 48]) (.cond (.t 48) (.reg false qa1s [1, 2, 3, 8, 9]) (.seq (.reg false qa1r [1, 2, 3, 8, 9, 10, 32, 57]) (.cond (.t 57) (.reg false qa1q [1, 2, 3, 8, 9]) (.seq (.reg false qa1p [1, 2, 3, 8, 9, 10, 32, 74]) (.cond (.t 74) (.reg false qa1o [1, 2, 3, 8, 9]) (.seq (.reg false qa1n [1, 2, 3, 8, 9, 10, 81]) (.cond (.t 81) (.reg false qa1m [1, 2, 3, 8, 9]) .skip)))))))))))))) (.reg false qa1l [1, 2, 3, 8, 9])))
abbrev qa1k : List SOper := [Oa 90 (.mv (.t 2)), Oa 91 (.mv (.t 8)), Oa 6 (.mv (.t 90)), Oa 7 (.mv (.t 91))]
def c_rbact : SCode := (.seq (.reg false qbbp [1, 2, 3]) (.seq (.reg false qbbo [1, 2, 3, 8]) (.seq (.seq (.reg false qbbn [1, 2, 3, 8, 9]) (.block 0 (.loop qal7))) (.seq (.reg false qa1k [6, 7]) .ret))))
theorem qaoi : comp Try.prog 92 ((Try.f105.body).getD .skip) = some c_rbact.erase := by kernel_rfl
abbrev qa1j : List SOper := [Oa 3 (.box 29 (.t 0)), Oa 6 (.mv (.c (.int .u64 0))), Oa 7 (.mv (.c (.int .u64 0))), Oa 8 (.mv (.c (.bool false)))]
abbrev qa1i : List SOper := [Oa 19 (.faddr 5 (.t 3)), Oa 20 (.load (.t 19)), Oa 21 (.mv (.t 1)), Oa 22 (.iaddr 5 (.t 20) (.t 21)), Oa 23 (.loads 5 (.t 22)), Oa 9 (.alloc 116 [(.int .i64 0), (.int .i64 0), .nilsl, (.int .i64 0), (.int .i64 0)]), Ob (.store 5 (.t 9) (.t 23))]
abbrev qa1h : List SOper := [Oa 24 (.faddr 0 (.t 9)), Oa 25 (.load (.t 24))]
abbrev qa1g : List SOper := [Oa 27 (.bin .eql (.t 25) (.c (.int .i64 1))), Oa 26 (.mv (.t 27))]
abbrev qa1f : List SOper := [Oa 28 (.faddr 4 (.t 3)), Oa 29 (.load (.t 28)), Oa 30 (.faddr 1 (.t 9)), Oa 31 (.load (.t 30)), Oa 32 (.iaddr 6 (.t 29) (.t 31)), Oa 33 (.loads 6 (.t 32)), Oa 10 (.alloc 114 [(.int .i64 0), .nilsl, .nilsl, (.int .i64 0), (.int .i64 0), .nilsl]), Ob (.store 6 (.t 10) (.t 33))]
abbrev qa1e : List SOper := [Oa 11 (.mv (.c (.bool false)))]
abbrev qa1d : List SOper := [Oa 12 (.mv (.c (.int .i64 0)))]
abbrev qa1c : List SOper := [Oa 34 (.mv (.t 12)), Oa 35 (.faddr 1 (.t 10)), Oa 36 (.load (.t 35)), Oa 37 (.len false (.t 36)), Oa 38 (.bin .lss (.t 34) (.t 37))]
abbrev qa1b : List SOper := [Oa 41 (.mv (.t 11)), Oa 42 (.mv (.t 41)), Oe 43 (.faddr 1 (.t 10)) 42 false, Oe 44 (.load (.t 43)) 42 false, Oe 45 (.mv (.t 12)) 42 false, Oe 46 (.iaddr 2 (.t 44) (.t 45)) 42 false, Oe 47 (.loads 2 (.t 46)) 42 false, Oe 48 (.mv (.t 2)) 42 false, ⟨(some 49), .mv (.c .any), some ((.c (.fn (.func 104) [] [])), [(.t 47), (.t 48)]), (some (42, false)), 0⟩, Oa 50 (.pick (.t 42) (.c (.bool true)) (.t 49)), Oa 11 (.mv (.t 50))]
abbrev qaqq : List SOper := [Oa 39 (.mv (.t 12)), Oa 40 (.bin .add (.t 39) (.c (.int .i64 1))), Oa 12 (.mv (.t 40))]
def qai3 : SCode := (.seq (.seq (.reg false qa1c [2, 3, 10, 11, 12, 38]) (.cond (.t 38) .skip (.exit 1))) (.seq (.block 2 (.reg false qa1b [2, 3, 10, 11, 12])) (.reg false qaqq [2, 3, 10, 11, 12])))
abbrev qaqp : List SOper := [Oa 13 (.mv (.c (.int .u64 18446744073709551615)))]
abbrev qaqo : List SOper := [Oa 14 (.mv (.c (.int .i64 0)))]
abbrev qaqn : List SOper := [Oa 51 (.mv (.t 14)), Oa 52 (.faddr 2 (.t 10)), Oa 53 (.load (.t 52)), Oa 54 (.len false (.t 53)), Oa 55 (.bin .lss (.t 51) (.t 54))]
abbrev qaqm : List SOper := [Oa 59 (.loads 7 (.t 3)), Oa 60 (.faddr 2 (.t 10)), Od 61 (.load (.t 60)) 2, Oa 62 (.mv (.t 14)), Od 63 (.iaddr 1 (.t 61) (.t 62)) 14, Od 64 (.load (.t 63)) 30, Oa 65 (.mv (.t 2)), ⟨(some 66), .mv (.c .any), some ((.c (.fn (.func 105) [] [])), [(.t 59), (.t 64), (.t 65)]), none, 127⟩, Od 58 (.mv (.t 66)) 255, Od 67 (.extr (.t 58) 0) 511, Od 68 (.extr (.t 58) 1) 511, Od 15 (.mv (.t 67)) 1023, Od 16 (.mv (.t 68)) 4095]
abbrev qaql : List SOper := [Oa 69 (.mv (.t 13)), Oa 70 (.mv (.t 15)), Oa 71 (.bin .and (.t 69) (.t 70)), Oa 13 (.mv (.t 71))]
abbrev qaqk : List SOper := [Oa 72 (.mv (.t 11)), Oa 73 (.mv (.t 72)), Oe 74 (.mv (.t 16)) 73 false, Oa 75 (.pick (.t 73) (.c (.bool true)) (.t 74)), Oa 11 (.mv (.t 75))]
abbrev qaqj : List SOper := [Oa 56 (.mv (.t 14)), Oa 57 (.bin .add (.t 56) (.c (.int .i64 1))), Oa 14 (.mv (.t 57))]
def qai2 : SCode := (.seq (.seq (.reg false qaqn [2, 3, 10, 11, 13, 14, 55]) (.cond (.t 55) .skip (.exit 3))) (.seq (.block 4 (.seq (.reg true qaqm [2, 3, 10, 11, 13, 14, 15, 16]) (.seq (.reg false qaql [2, 3, 10, 11, 13, 14, 16]) (.reg false qaqk [2, 3, 10, 11, 13, 14])))) (.reg false qaqj [2, 3, 10, 11, 13, 14])))
abbrev qaqi : List SOper := [Oa 76 (.mv (.t 13)), Oa 77 (.mv (.t 2)), Oa 78 (.mv (.t 11)), Oa 6 (.mv (.t 76)), Oa 7 (.mv (.t 77)), Oa 8 (.mv (.t 78))]
abbrev qaqh : List SOper := [Oa 80 (.bin .eql (.t 25) (.c (.int .i64 2))), Oa 79 (.mv (.t 80))]
abbrev qaqg : List SOper := [Oa 82 (.loads 7 (.t 3)), Oa 83 (.faddr 1 (.t 9)), Oa 84 (.load (.t 83)), Oa 85 (.mv (.t 2)), Oc 86 105 [(.t 82), (.t 84), (.t 85)], Oa 81 (.mv (.t 86)), Oa 87 (.extr (.t 81) 0), Oa 88 (.extr (.t 81) 1), Oa 17 (.mv (.t 87)), Oa 18 (.mv (.t 88))]
abbrev qaqf : List SOper := [Oa 89 (.mv (.t 17)), Oa 90 (.mv (.t 2)), Oa 91 (.mv (.t 18)), Oa 6 (.mv (.t 89)), Oa 7 (.mv (.t 90)), Oa 8 (.mv (.t 91))]
abbrev qaqe : List SOper := [Oa 93 (.bin .eql (.t 25) (.c (.int .i64 3))), Oa 92 (.mv (.t 93))]
abbrev qaqd : List SOper := [Oa 94 (.mv (.t 2)), Oa 95 (.mv (.t 2)), Oa 96 (.faddr 2 (.t 9)), Oa 97 (.load (.t 96)), Oa 98 (.mv (.t 2)), Oc 99 106 [(.t 97), (.t 98)], Oa 6 (.mv (.t 94)), Oa 7 (.mv (.t 95)), Oa 8 (.mv (.t 99))]
abbrev qaqc : List SOper := [Oa 100 (.mv (.t 2)), Oa 101 (.faddr 1 (.t 9)), Od 102 (.load (.t 101)) 2, ⟨(some 103), .mv (.c .any), some ((.c (.fn (.func 97) [] [])), [(.t 102)]), none, 6⟩, Od 104 (.bin .or (.t 100) (.t 103)) 15, Oa 105 (.mv (.t 2)), Oa 106 (.mv (.t 2)), Oa 107 (.faddr 1 (.t 9)), Od 108 (.load (.t 107)) 128, ⟨(some 109), .mv (.c .any), some ((.c (.fn (.func 97) [] [])), [(.t 108)]), none, 398⟩, Od 110 (.bin .and (.t 106) (.t 109)) 974, Od 111 (.bin .sub (.t 105) (.t 110)) 2030, Od 6 (.mv (.t 104)) 927, Od 7 (.mv (.t 111)) 8191, Od 8 (.mv (.c (.bool false))) 16383]
def c_rbnode : SCode := (.seq (.reg false qa1j [1, 2, 3]) (.seq (.reg false qa1i [2, 3, 9]) (.seq (.seq (.reg false qa1h [2, 3, 9, 25]) (.block 0 (.seq (.reg false qa1g [2, 3, 9, 25, 26]) (.cond (.t 26) (.seq (.reg false qa1f [2, 3, 10]) (.seq (.reg false qa1e [2, 3, 10, 11]) (.seq (.seq (.reg false qa1d [2, 3, 10, 11, 12]) (.block 1 (.loop qai3))) (.seq (.reg false qaqp [2, 3, 10, 11, 13]) (.seq (.seq (.reg false qaqo [2, 3, 10, 11, 13, 14]) (.block 3 (.loop qai2))) (.seq (.reg false qaqi [6, 7, 8]) .ret)))))) (.seq (.reg false qaqh [2, 3, 9, 25, 79]) (.cond (.t 79) (.seq (.reg false qaqg [2, 17, 18]) (.seq (.reg false qaqf [6, 7, 8]) .ret)) (.seq (.reg false qaqe [2, 9, 92]) (.cond (.t 92) (.seq (.reg false qaqd [6, 7, 8]) .ret) .skip)))))))) (.seq (.reg true qaqc [6, 7, 8]) .ret))))
theorem qak1 : comp Try.prog 112 ((Try.f57.body).getD .skip) = some c_rbnode.erase := by kernel_rfl
abbrev qa9c : List SOper := [Oa 3 (.box 29 (.t 0)), Oa 6 (.mv (.c (.int .u64 0)))]
abbrev qa9b : List SOper := [Oa 15 (.mv (.t 2)), Oa 16 (.bin .eql (.t 15) (.c (.int .i64 0)))]
abbrev qa9a : List SOper := [Oa 17 (.mv (.t 1)), Oa 6 (.mv (.t 17))]
abbrev qa89 : List SOper := [Oa 7 (.mv (.c (.int .u64 18446744073709551615)))]
abbrev qa88 : List SOper := [Oa 8 (.mv (.c (.int .i64 0)))]
abbrev qa87 : List SOper := [Oa 18 (.mv (.t 8)), Oa 19 (.mv (.t 2)), Oa 20 (.bin .lss (.t 18) (.t 19))]
abbrev qa86 : List SOper := [Oa 23 (.faddr 5 (.t 3)), Oa 24 (.load (.t 23)), Oa 25 (.mv (.t 8)), Oa 26 (.iaddr 5 (.t 24) (.t 25)), Oa 27 (.loads 5 (.t 26)), Oa 9 (.alloc 116 [(.int .i64 0), (.int .i64 0), .nilsl, (.int .i64 0), (.int .i64 0)]), Ob (.store 5 (.t 9) (.t 27))]
abbrev qa85 : List SOper := [Oa 28 (.faddr 0 (.t 9)), Oa 29 (.load (.t 28)), Oa 30 (.bin .eql (.t 29) (.c (.int .i64 3))), Oa 31 (.mv (.t 30)), Oe 32 (.faddr 0 (.t 9)) 31 false, Oe 33 (.load (.t 32)) 31 false, Oe 34 (.bin .eql (.t 33) (.c (.int .i64 4))) 31 false, Oa 35 (.pick (.t 31) (.c (.bool true)) (.t 34)), Oa 10 (.mv (.t 35))]
abbrev qa84 : List SOper := [Oa 36 (.faddr 3 (.t 9)), Oa 37 (.load (.t 36)), Oa 38 (.mv (.t 2)), Oa 39 (.bin .neq (.t 37) (.t 38)), Oa 40 (.mv (.t 39)), Oe 41 (.mv (.t 10)) 40 true, Oe 42 (.un .not (.t 41)) 40 true, Oe 43 (.mv (.t 42)) 40 true, Oe 44 (.faddr 4 (.t 9)) 43 false, Oe 45 (.load (.t 44)) 43 false, Oe 46 (.mv (.t 2)) 43 false, Oe 47 (.bin .neq (.t 45) (.t 46)) 43 false, Oe 48 (.pick (.t 43) (.c (.bool true)) (.t 47)) 40 true, Oa 49 (.pick (.t 40) (.t 48) (.c (.bool false)))]
abbrev qaxu : List SOper := [Oa 50 (.loads 7 (.t 3)), Oa 51 (.mv (.t 1)), Oa 52 (.mv (.t 8)), Oc 53 56 [(.t 50), (.t 51), (.t 52)], Oa 11 (.mv (.t 53))]
abbrev qaxt : List SOper := [Oa 54 (.mv (.t 11)), Oa 55 (.bin .eql (.t 54) (.c (.int .u64 18446744073709551615)))]
abbrev qaxs : List SOper := [Oa 57 (.loads 7 (.t 3)), Oa 58 (.mv (.t 8)), Oa 59 (.mv (.t 11)), Oc 60 57 [(.t 57), (.t 58), (.t 59)], Oa 56 (.mv (.t 60)), Oa 61 (.extr (.t 56) 0), Oa 62 (.extr (.t 56) 1), Oa 63 (.extr (.t 56) 2), Oa 12 (.mv (.t 61)), Oa 13 (.mv (.t 62)), Oa 14 (.mv (.t 63))]
abbrev qaxr : List SOper := [Oa 64 (.faddr 3 (.t 9)), Oa 65 (.load (.t 64)), Oa 66 (.mv (.t 2)), Oa 67 (.bin .eql (.t 65) (.t 66))]
abbrev qaxq : List SOper := [Oa 68 (.mv (.t 7)), Oa 69 (.mv (.t 12)), Oa 70 (.bin .and (.t 68) (.t 69)), Oa 7 (.mv (.t 70))]
abbrev qaxp : List SOper := [Oa 71 (.mv (.t 10)), Oa 72 (.mv (.t 71)), Oe 73 (.faddr 4 (.t 9)) 72 true, Oe 74 (.load (.t 73)) 72 true, Oe 75 (.mv (.t 2)) 72 true, Oe 76 (.bin .eql (.t 74) (.t 75)) 72 true, Oa 77 (.pick (.t 72) (.t 76) (.c (.bool false)))]
abbrev qaxo : List SOper := [Oa 78 (.mv (.t 7)), Oa 79 (.mv (.t 13)), Oa 80 (.bin .and (.t 78) (.t 79)), Oa 7 (.mv (.t 80))]
abbrev qaxn : List SOper := [Oa 21 (.mv (.t 8)), Oa 22 (.bin .add (.t 21) (.c (.int .i64 1))), Oa 8 (.mv (.t 22))]
def qalw : SCode := (.seq (.seq (.reg false qa87 [1, 2, 3, 7, 8, 20]) (.cond (.t 20) .skip (.exit 0))) (.seq (.block 1 (.seq (.reg false qa86 [1, 2, 3, 7, 8, 9]) (.seq (.reg false qa85 [1, 2, 3, 7, 8, 9, 10]) (.seq (.seq (.reg false qa84 [1, 2, 3, 7, 8, 9, 10, 49]) (.cond (.t 49) (.exit 1) .skip)) (.seq (.reg false qaxu [1, 2, 3, 7, 8, 9, 10, 11]) (.seq (.seq (.reg false qaxt [1, 2, 3, 7, 8, 9, 10, 11, 55]) (.cond (.t 55) (.exit 1) .skip)) (.seq (.reg false qaxs [1, 2, 3, 7, 8, 9, 10, 12, 13]) (.seq (.seq (.reg false qaxr [1, 2, 3, 7, 8, 9, 10, 12, 13, 67]) (.cond (.t 67) (.reg false qaxq [1, 2, 3, 7, 8, 9, 10, 13]) .skip)) (.seq (.reg false qaxp [1, 2, 3, 7, 8, 13, 77]) (.cond (.t 77) (.reg false qaxo [1, 2, 3, 7, 8]) .skip)))))))))) (.reg false qaxn [1, 2, 3, 7, 8])))
abbrev qaxm : List SOper := [Oa 81 (.mv (.t 7)), Oa 6 (.mv (.t 81))]
def c_rsure : SCode := (.seq (.reg false qa9c [1, 2, 3]) (.seq (.seq (.reg false qa9b [1, 2, 3, 16]) (.cond (.t 16) (.seq (.reg false qa9a [6]) .ret) .skip)) (.seq (.reg false qa89 [1, 2, 3, 7]) (.seq (.seq (.reg false qa88 [1, 2, 3, 7, 8]) (.block 0 (.loop qalw))) (.seq (.reg false qaxm [6]) .ret)))))
theorem qan7 : comp Try.prog 82 ((Try.f56.body).getD .skip) = some c_rsure.erase := by kernel_rfl
abbrev qbay : List SOper := [Oa 1 (.box 29 (.t 0)), Oa 2 (.mv (.c .nilsl)), Oa 3 (.alloc 35 [(.int .i64 0), (.int .i64 0)])]
abbrev qbax : List SOper := [Oa 14 (.loads 7 (.t 1)), Oc 15 55 [(.t 14)], Oa 13 (.mv (.t 15)), Oa 16 (.extr (.t 13) 0), Oa 17 (.extr (.t 13) 1), Oa 5 (.alloc 35 [(.int .i64 0), (.int .i64 0)]), Oa 4 (.mv (.t 16)), Ob (.store 2 (.t 5) (.t 17))]
abbrev qbaw : List SOper := [Oa 18 (.faddr 0 (.t 5)), Oa 19 (.load (.t 18)), Oa 20 (.bin .neq (.t 19) (.c (.int .i64 0)))]
abbrev qbav : List SOper := [Oa 21 (.loads 2 (.t 5)), Oa 2 (.mv (.c .nilsl)), ⟨none, .store 2 (.t 3) (.t 21), none, none, 3⟩]
abbrev qbau : List SOper := [Oa 6 (.mv (.c (.int .u64 18446744073709551615)))]
abbrev qbat : List SOper := [Oa 22 (.mv (.t 4)), Oa 23 (.faddr 2 (.t 1)), Oa 24 (.load (.t 23)), Oa 25 (.len false (.t 24)), Oa 26 (.iaddr 5 (.t 22) (.t 25)), Oa 27 (.faddr 4 (.t 26)), Oa 28 (.load (.t 27))]
abbrev qbas : List SOper := [Oa 29 (.mv (.t 4)), Oa 30 (.faddr 2 (.t 1)), Oa 31 (.load (.t 30)), Oa 32 (.len false (.t 31)), Oa 33 (.iaddr 5 (.t 29) (.t 32)), Oa 34 (.faddr 0 (.t 33)), Oa 35 (.load (.t 34)), Oa 6 (.mv (.t 35))]
abbrev qbar : List SOper := [Oa 7 (.mv (.c .nilsl))]
abbrev qbaq : List SOper := [Oa 8 (.mv (.c (.int .i64 0)))]
abbrev qa0u : List SOper := [Oa 36 (.mv (.t 8)), Oa 37 (.faddr 5 (.t 1)), Oa 38 (.load (.t 37)), Oa 39 (.len false (.t 38)), Oa 40 (.bin .leq (.t 36) (.t 39))]
abbrev qa0t : List SOper := [Oa 43 (.loads 7 (.t 1)), Oa 44 (.mv (.t 6)), Oa 45 (.mv (.t 8)), Oc 46 56 [(.t 43), (.t 44), (.t 45)], Oa 9 (.mv (.t 46))]
abbrev qa0s : List SOper := [Oa 47 (.mv (.t 8)), Oa 48 (.faddr 5 (.t 1)), Oa 49 (.load (.t 48)), Oa 50 (.len false (.t 49)), Oa 51 (.bin .lss (.t 47) (.t 50)), Oa 52 (.mv (.t 51)), Oe 53 (.mv (.t 9)) 52 true, Oe 54 (.bin .neq (.t 53) (.c (.int .u64 18446744073709551615))) 52 true, Oa 55 (.pick (.t 52) (.t 54) (.c (.bool false)))]
abbrev qa0r : List SOper := [Oa 57 (.loads 7 (.t 1)), Oa 58 (.mv (.t 8)), Oa 59 (.mv (.t 9)), Oc 60 57 [(.t 57), (.t 58), (.t 59)], Oa 56 (.mv (.t 60)), Oa 61 (.extr (.t 56) 0), Oa 62 (.extr (.t 56) 1), Oa 63 (.extr (.t 56) 2), Oa 10 (.mv (.t 61)), Oa 11 (.mv (.t 62)), Oa 12 (.mv (.t 63))]
abbrev qa0q : List SOper := [Oa 64 (.mv (.t 12))]
abbrev qa0p : List SOper := [Oa 65 (.mv (.t 8)), Oa 66 (.bin .add (.c (.int .i64 6000)) (.t 65)), Oc 67 46 [(.c (.int .i64 12)), (.t 66)], Oa 2 (.mv (.c .nilsl)), Ob (.store 2 (.t 3) (.t 67))]
abbrev qa0o : List SOper := [Oa 68 (.mv (.t 7)), Oa 69 (.mv (.t 9)), Oa 70 (.mkrow 39 1 1 [(.int .u64 0)] [(0, (.t 69))]), Oa 71 (.app 39 1 8 (.t 68) (.t 70)), Oa 7 (.mv (.t 71))]
abbrev qa0n : List SOper := [Oa 41 (.mv (.t 8)), Oa 42 (.bin .add (.t 41) (.c (.int .i64 1))), Oa 8 (.mv (.t 42))]
def c_rflow_l1 : SCode := (.seq (.seq (.reg false qa0u [1, 3, 6, 7, 8, 40]) (.cond (.t 40) .skip (.exit 0))) (.seq (.block 1 (.seq (.reg false qa0t [1, 3, 6, 7, 8, 9]) (.seq (.seq (.reg false qa0s [1, 3, 6, 7, 8, 9, 55]) (.cond (.t 55) (.seq (.reg false qa0r [1, 3, 6, 7, 8, 9, 12]) (.seq (.reg false qa0q [1, 3, 6, 7, 8, 9, 64]) (.cond (.t 64) (.seq (.reg false qa0p [2, 3]) .ret) .skip))) .skip)) (.reg false qa0o [1, 3, 6, 7, 8])))) (.reg false qa0n [1, 3, 6, 7, 8])))
abbrev qagt : List SOper := [Oa 72 (.mv (.t 7)), Oa 73 (.build [(.int .i64 0), (.int .i64 0)] []), Oa 2 (.mv (.t 72)), Ob (.store 2 (.t 3) (.t 73))]
def c_rflow : SCode := (.seq (.reg false qbay [1, 3]) (.seq (.reg false qbax [1, 3, 4, 5]) (.seq (.seq (.reg false qbaw [1, 3, 4, 5, 20]) (.cond (.t 20) (.seq (.reg true qbav [2, 3]) .ret) .skip)) (.seq (.reg false qbau [1, 3, 4, 6]) (.seq (.seq (.reg false qbat [1, 3, 4, 6, 28]) (.cond (.t 28) (.reg false qbas [1, 3, 6]) .skip)) (.seq (.reg false qbar [1, 3, 6, 7]) (.seq (.seq (.reg false qbaq [1, 3, 6, 7, 8]) (.block 0 (.loop c_rflow_l1))) (.seq (.reg false qagt [2, 3]) .ret))))))))
theorem qaof : comp Try.prog 74 ((Try.f17.body).getD .skip) = some c_rflow.erase := by kernel_rfl
abbrev qa4n : List SOper := [Oa 0 (.mv (.c (.bool false)))]
abbrev qa4m : List SOper := [Oc 4 43 [], Oa 1 (.alloc 29 [.nilsl, .nilsl, .nilsl, .nilsl, .nilsl, .nilsl, .nilsl]), Ob (.store 7 (.t 1) (.t 4))]
abbrev qa4l : List SOper := [Oa 5 (.build [(.int .i64 0), (.int .i64 0), .nilsl, (.int .i64 0), (.int .i64 0)] [(0, 1, (.c (.int .i64 4))), (1, 1, (.c (.int .i64 1))), (3, 1, (.c (.int .i64 1))), (4, 1, (.c (.int .i64 2)))]), Oa 6 (.build [(.int .i64 0), (.int .i64 0)] [(0, 1, (.c (.int .i64 1)))]), Oa 7 (.build [(.int .i64 0), (.int .i64 0), (.int .i64 0), (.int .u64 0)] [(0, 1, (.c (.int .i64 2))), (1, 2, (.t 6))]), Oa 8 (.mkrow 137 4 1 [(.int .i64 0), (.int .i64 0), (.int .i64 0), (.int .u64 0)] [(0, (.t 7))]), Oa 9 (.build [(.int .i64 0), (.int .i64 0), .nilsl, (.int .i64 0), (.int .i64 0)] [(0, 1, (.c (.int .i64 3))), (2, 1, (.t 8)), (3, 1, (.c (.int .i64 2))), (4, 1, (.c (.int .i64 2)))]), Oa 10 (.mkrow 116 5 2 [(.int .i64 0), (.int .i64 0), .nilsl, (.int .i64 0), (.int .i64 0)] [(0, (.t 5)), (1, (.t 9))]), Oa 11 (.faddr 5 (.t 1)), Ob (.store 1 (.t 11) (.t 10))]
abbrev qaje : List SOper := [Oa 13 (.loads 7 (.t 1)), Oc 14 16 [(.t 13)], Oa 12 (.mv (.t 14)), Oa 15 (.extr (.t 12) 0), Oa 16 (.extr (.t 12) 1), Oa 3 (.alloc 35 [(.int .i64 0), (.int .i64 0)]), Oa 2 (.mv (.t 15)), Ob (.store 2 (.t 3) (.t 16))]
abbrev qa4k : List SOper := [Oa 17 (.faddr 5 (.t 1)), Oa 18 (.load (.t 17)), Oa 19 (.slice 5 (.t 18) (some (.c (.int .i64 1))) none), Oa 20 (.faddr 5 (.t 1)), Ob (.store 1 (.t 20) (.t 19))]
abbrev qa4j : List SOper := [Oa 21 (.faddr 5 (.t 1)), Od 22 (.load (.t 21)) 1, Oa 23 (.faddr 5 (.t 1)), Od 24 (.load (.t 23)) 4, Od 25 (.iaddr 5 (.t 22) (.c (.int .i64 0))) 3, Od 26 (.faddr 3 (.t 25)) 19, ⟨none, .store 1 (.t 26) (.c (.int .i64 1)), none, none, 51⟩, Od 27 (.iaddr 5 (.t 24) (.c (.int .i64 0))) 127, Od 28 (.faddr 4 (.t 27)) 255, ⟨none, .store 1 (.t 28) (.c (.int .i64 1)), none, none, 511⟩]
abbrev qajd : List SOper := [Oa 29 (.faddr 0 (.t 3)), Oa 30 (.load (.t 29)), Oa 31 (.bin .eql (.t 30) (.c (.int .i64 0))), Oa 32 (.mv (.t 31)), Oe 33 (.mv (.t 2)) 32 true, Oe 34 (.len false (.t 33)) 32 true, Oe 35 (.bin .eql (.t 34) (.c (.int .i64 3))) 32 true, Oa 36 (.pick (.t 32) (.t 35) (.c (.bool false))), Oa 37 (.mv (.t 36)), Oe 38 (.mv (.t 2)) 37 true, Oe 39 (.iaddr 1 (.t 38) (.c (.int .i64 1))) 37 true, Oe 40 (.load (.t 39)) 37 true, Oe 41 (.bin .eql (.t 40) (.c (.int .u64 3))) 37 true, Oa 42 (.pick (.t 37) (.t 41) (.c (.bool false))), Oa 43 (.mv (.t 42)), Oe 44 (.mv (.t 2)) 43 true, Oe 45 (.iaddr 1 (.t 44) (.c (.int .i64 2))) 43 true, Oe 46 (.load (.t 45)) 43 true, Oe 47 (.bin .eql (.t 46) (.c (.int .u64 1))) 43 true, Oa 48 (.pick (.t 43) (.t 47) (.c (.bool false))), Oa 49 (.mv (.t 48)), Oe 50 (.loads 7 (.t 1)) 49 true, ⟨(some 51), .mv (.c .any), some ((.c (.fn (.func 19) [] [])), [(.t 50)]), (some (49, true)), 0⟩, Oe 52 (.build [(.int .i64 0), (.int .i64 0)] [(0, 1, (.c (.int .i64 12))), (1, 1, (.c (.int .i64 6000)))]) 49 true, Oe 53 (.eqs [1, 1] false (.t 51) (.t 52)) 49 true, Oa 54 (.pick (.t 49) (.t 53) (.c (.bool false))), Oa 0 (.mv (.t 54))]
def c_fbegun : SCode := (.seq (.reg false qa4n []) (.seq (.reg false qa4m [1]) (.seq (.reg false qa4l [1]) (.seq (.reg false qaje [1, 2, 3]) (.seq (.reg false qa4k [1, 2, 3]) (.seq (.reg true qa4j [1, 2, 3]) (.seq (.reg false qajd [0]) .ret)))))))
theorem qak5 : comp Try.prog 55 ((Try.f14.body).getD .skip) = some c_fbegun.erase := by kernel_rfl
abbrev qber : List SOper := [Oa 1 (.box 29 (.t 0)), Oa 2 (.mv (.c (.bool false)))]
abbrev qbeq : List SOper := [Oc 8 14 [], Oa 9 (.un .not (.t 8))]
abbrev qbep : List SOper := [Oa 2 (.mv (.c (.bool false)))]
abbrev qbeo : List SOper := [Oa 10 (.loads 7 (.t 1)), Oc 11 9 [(.t 10)]]
abbrev qben : List SOper := [Oa 2 (.mv (.c (.bool true)))]
abbrev qbem : List SOper := [Oa 12 (.loads 7 (.t 1)), Oc 13 15 [(.t 12)], Oa 3 (.alloc 29 [.nilsl, .nilsl, .nilsl, .nilsl, .nilsl, .nilsl, .nilsl]), Ob (.store 7 (.t 3) (.t 13))]
abbrev qbel : List SOper := [Oa 15 (.loads 7 (.t 3)), Oc 16 16 [(.t 15)], Oa 14 (.mv (.t 16)), Oa 17 (.extr (.t 14) 0), Oa 18 (.extr (.t 14) 1), Oa 5 (.alloc 35 [(.int .i64 0), (.int .i64 0)]), Oa 4 (.mv (.t 17)), Ob (.store 2 (.t 5) (.t 18))]
abbrev qbek : List SOper := [Oa 20 (.loads 7 (.t 1)), Oc 21 17 [(.t 20)], Oa 19 (.mv (.t 21)), Oa 22 (.extr (.t 19) 0), Oa 23 (.extr (.t 19) 1), Oa 7 (.alloc 35 [(.int .i64 0), (.int .i64 0)]), Oa 6 (.mv (.t 22)), Ob (.store 2 (.t 7) (.t 23))]
abbrev qbej : List SOper := [Oa 24 (.loads 2 (.t 5)), Oa 25 (.loads 2 (.t 7)), Od 26 (.eqs [1, 1] false (.t 24) (.t 25)) 3, Od 27 (.mv (.t 26)) 7, Of 28 (.mv (.t 4)) 27 true 15, Of 29 (.mv (.t 6)) 27 true 15, ⟨(some 30), .mv (.c .any), some ((.c (.fn (.func 18) [] [])), [(.t 28), (.t 29)]), (some (27, true)), 63⟩, Od 31 (.pick (.t 27) (.t 30) (.c (.bool false))) 127, Od 32 (.mv (.t 31)) 255, Of 33 (.loads 7 (.t 3)) 32 true 511, ⟨(some 34), .mv (.c .any), some ((.c (.fn (.func 19) [] [])), [(.t 33)]), (some (32, true)), 1023⟩, Of 35 (.loads 2 (.t 7)) 32 true 511, Of 36 (.eqs [1, 1] false (.t 34) (.t 35)) 32 true 4095, Od 37 (.pick (.t 32) (.t 36) (.c (.bool false))) 8191, Od 38 (.mv (.t 37)) 16383, Of 39 (.loads 7 (.t 3)) 38 true 32767, Of 40 (.loads 7 (.t 1)) 38 true 32767, ⟨(some 41), .mv (.c .any), some ((.c (.fn (.func 20) [] [])), [(.t 39), (.t 40), (.c (.bool false))]), (some (38, true)), 131071⟩, Od 42 (.pick (.t 38) (.t 41) (.c (.bool false))) 262143, Od 2 (.mv (.t 42)) 524287]
def c_fdoes : SCode := (.seq (.reg false qber [1]) (.seq (.seq (.reg false qbeq [1, 9]) (.cond (.t 9) (.seq (.reg false qbep [2]) .ret) .skip)) (.seq (.seq (.reg false qbeo [1, 11]) (.cond (.t 11) (.seq (.reg false qben [2]) .ret) .skip)) (.seq (.reg false qbem [1, 3]) (.seq (.reg false qbel [1, 3, 4, 5]) (.seq (.reg false qbek [1, 3, 4, 5, 6, 7]) (.seq (.reg true qbej [2]) .ret)))))))
theorem qaox : comp Try.prog 43 ((Try.f4.body).getD .skip) = some c_fdoes.erase := by kernel_rfl
end Go.Proofs.Yticeaegpkpjjeaa
