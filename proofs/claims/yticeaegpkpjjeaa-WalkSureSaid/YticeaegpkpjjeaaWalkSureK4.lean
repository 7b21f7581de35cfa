/-
  Texts joined: XPlnJ XCplt XPlnK XPlnL XWlkA XWlkB XCwlk XCpls XPlnY XWlkC XWlkD XWlkE XFlwC XCplr XPlnR XPlnS. No condition.
-/
import Derived.Test.YticeaegpkpjjeaaProg
import Derived.ProofKit
import Derived.Test.YticeaegpkpjjeaaRows
import Derived.Deep.QuietTactic
import Derived.BigQuiet
import Derived.WalkSmall
import Derived.Handy
import Derived.WalkSpells
import Derived.RegionTactic
import Derived.BigRegion
import Derived.Deep.RegionLaw
import Derived.Test.YticeaegpkpjjeaaWalkSureK3
namespace Go.Proofs.Yticeaegpkpjjeaa
set_option linter.all false
open Go.RowKit
attribute [local simp] qabj qabi qaaw qaa2 qaax qaa1 qabg qabh qaap qab2 SOp.run SX.ev putd puts argS upds SOp.touch SSt.keep SSt.skip gets geth puth delh idOf SV.cells? setL qadu qadv sbin eq0 eq1 eqL qadr qacr qacs qaau qabk qaaf qabl qab3 qaai qaak FrzOk qaa5 qaaz qaa3 qaa4 qaaq qaay qabm qaa0 qaas qaa6 qaar frzS frzH frz frz1 frz0 SlotsM ObjsM ObjM rn ren ren1 ren0 qab6 qacp qacu qab5 qabn qacv qact CoL qaa7 qab7 dels adds idsH qabt
attribute [local simp] qaeh refc qaee qaea qacl opc actc tabc qaef qacc nums jc
theorem qab9 (g c at_ : Int) : qab4 0 g true c at_ = (c, at_) := rfl
theorem qabf (a b c at_ : Int) : qab4 a b false c at_ = (a, b) := by simp [qab4]
theorem qaeb (p : PlanD) (i to_ e g R at_ : Int) : orF (e, g) (if toF p i to_ = 0 then R else toF p i to_, at_) = orF (qab4 (qab4 e g (decide (to_ < 0) || decide ((p.nodes.length : Int) < to_)) 1 at_).1 (qab4 e g (decide (to_ < 0) || decide ((p.nodes.length : Int) < to_)) 1 at_).2 (decide (to_ ≤ i)) 11 at_) (R, at_) := by
 unfold toF orF qab4
 by_cases h1 : to_ < 0 <;> by_cases h2 : (p.nodes.length : Int) < to_ <;> by_cases h3 : to_ ≤ i <;> by_cases he : e = 0 <;> by_cases hr : R = 0 <;> simp [h1, h2, h3, he, hr]
def qazm (p : PlanD) (i : Int) (n : NodeD) : Int :=
 if n.kind = 1 then (if (decide (n.n < 0) || decide ((p.tabs.length : Int) ≤ n.n)) = true then 1 else qaco (toF p i) ([n.yes].drop 0))
 else if n.kind = 2 then (if (decide (n.n < 0) || decide ((p.acts.length : Int) ≤ n.n)) = true then 1 else if decide (0 < ((actW p.acts n.n).length : Int)) = true then 2 else qaco (toF p i) ([n.yes].drop 0))
 else if n.kind = 3 then (if qah3 p n.e [] = 0 then qaco (toF p i) ([n.yes, n.no].drop 0) else qah3 p n.e [])
 else if n.kind = 4 then (if (!qadt p n.n) = true then 1 else qaco (toF p i) ([n.yes, n.no].drop 0))
 else 5
theorem first1 (f : Int → Int) (x : Int) : qaco f ([x].drop 0) = f x := by
 unfold qaco; simp only [List.drop_zero]; unfold qaco
 by_cases h : f x = 0 <;> simp [h]
theorem first2 (f : Int → Int) (x y : Int) : qaco f ([x, y].drop 0) = if f x ≠ 0 then f x else f y := by
 simp only [List.drop_zero, qaco]
 by_cases h : f x = 0 <;> by_cases h2 : f y = 0 <;> simp [h, h2]
theorem qazl (p : PlanD) (i : Int) (n : NodeD) : qa3f p i n = qazm p i n := by
 have e1 : ∀ (b c : Prop) [Decidable b] [Decidable c], ((decide b || decide c) = true) = (b ∨ c) := fun b c _ _ => by simp
 unfold qa3f qazm
 by_cases k1 : n.kind = 1
 ·rw [if_pos k1, if_pos k1, first1]; simp only [e1]
 rw [if_neg k1, if_neg k1]
 by_cases k2 : n.kind = 2
 ·rw [if_pos k2, if_pos k2, first1]; simp only [e1, decide_eq_true_eq]
  have : (0 < (actW p.acts n.n).length) = (0 < ((actW p.acts n.n).length : Int)) := propext (by omega)
  simp only [this]
 rw [if_neg k2, if_neg k2]
 by_cases k3 : n.kind = 3
 ·rw [if_pos k3, if_pos k3, first2]; simp only [ne_eq, ite_not]
 rw [if_neg k3, if_neg k3]
 by_cases k4 : n.kind = 4
 ·rw [if_pos k4, if_pos k4, first2]
  cases qadt p n.n <;> rfl
 rw [if_neg k4, if_neg k4]
def qagp (p : PlanD) (i : Int) (l : List Int) : Int := qaco (toF p i) l
set_option maxHeartbeats 8000000 in
theorem qa3q (p : PlanD) (hs : SmallP p) (a b : Int) : SCalls Try.prog 87 [.ptr 0 0] [(0, .cells 179 (jc p a b))] 1 (.tup []) [(0, .cells 179 (jc p (orF (a, b) (qagu p)).1 (orF (a, b) (qagu p)).2))] := by
 refine qaal (N := 162) Try.func87 rfl rfl (by kernel_rfl) qai3 (by simp) (by repeat' (first | exact trivial | refine And.intro ?_ ?_ | rfl | decide | exact PureR.ren _)) (by repeat' (first | exact trivial | refine And.intro ?_ ?_ | rfl | decide | exact PureR.ren _)) ?_
 rintro X hP hN hm
 have hF : orF (a, b) (qagu p) = orF (qab4 a b (decide (10 < (p.nodes.length : Int))) 2 (-6)) (rowF (fun i n => qa3f p i n) 6000 0 p.nodes) := by
  unfold qagu; rw [qado]; congr 3; exact propext (by omega)
 generalize orF (a, b) (qagu p) = F at hF
 replace hF := Lib.hid hF
 have hla := hs.nodes
 have hla2 := hs.acts
 unfold c_jnodes
 repeat' (first | (with_reducible refine zA ?_) | ((with_reducible refine qaad ?_); (try rw [hP]); simp -implicitDefEqProofs [*]) | (refine qabc (qaan p _ _ _ _ _ _ _ (by simp)) ⟨rfl, trivial⟩ ⟨rfl, trivial⟩ ?_; simp -implicitDefEqProofs [*]) | fail)
 refine qaat (qabp (fun s (x : Nat × Int × Int) => s.turn [(2, .int .i64 x.1)] [(0, .cells 179 (jc p x.2.1 x.2.2))]) (fun x => x.1 ≤ p.nodes.length ∧ F = orF (x.2.1, x.2.2) (rowF (fun i n => qa3f p i n) 6000 x.1 (p.nodes.drop x.1))) (fun x => p.nodes.length - x.1) (0, _, _) ?_ ⟨by simp, hF⟩ ?_)
 ·repeat' (first | ((with_reducible refine qaag [] hm ?_ ?_ ?_ ?_) <;> (try simp only [zT, puth, Nat.reduceEqDiff, reduceIte, Nat.reduceAdd])) | (with_reducible first | refine za ?_ ?_ | refine zb ?_ ?_ ?_ ?_) | (with_reducible first | exact qaaa | exact qaac) | ((with_reducible first | refine zga ?_ | refine zgb ?_); rfl) | ((with_reducible refine zgd ?_); (first | omega | (simp; done))) | (exact Co.refl _) | (exact CoL.refl _) | fail)
 rintro J hJ ⟨i, e, g⟩ ⟨h1, h2⟩
 have hJo := hJ
 unfold qahk
 simp only [zT, puth, Nat.reduceEqDiff, reduceIte, Nat.reduceAdd] at h1 h2 ⊢
 rcases Nat.lt_or_ge i p.nodes.length with hi | hi
 ·have hxm : p.nodes[i] ∈ p.nodes := List.getElem_mem hi
  have hw := hs.node _ hxm
  rw [qadb _ _ hi] at h2
  generalize hxx : p.nodes[i] = x at h2 hw
  by_cases he : e = 0
  ·subst he
   rw [qadw] at h2
   have wi : IntKind.i64.wrap ((i : Int) + 1) = (i : Int) + 1 := qaav (by omega) (by omega)
   have wa : IntKind.i64.wrap (6000 + (i : Int)) = 6000 + (i : Int) := qaav (by omega) (by omega)
   have hA : orF (0, g) (qa3f p i x, 6000 + (i : Int)) = orF (0, g) (qazm p i x, 6000 + (i : Int)) := by rw [qazl]
   generalize orF (0, g) (qa3f p i x, 6000 + (i : Int)) = A at hA h2
   replace h2 := Lib.hid h2
   unfold qazm at hA
   have kinds : (x.kind = 1 ∨ x.kind = 2) ∨ (¬ x.kind = 1 ∧ ¬ x.kind = 2) := by omega
   rcases kinds with k | ⟨kn1, kn2⟩
   ·have hA2 : (x.kind = 1 ∧ A = orF (qab4 0 g (decide (x.n < 0) || decide ((p.tabs.length : Int) ≤ x.n)) 1 (6000 + i)) (qagp p i ([x.yes].drop 0), 6000 + (i : Int))) ∨ (x.kind = 2 ∧ x.n < 0 ∧ A = (1, 6000 + (i : Int))) ∨ (x.kind = 2 ∧ (p.acts.length : Int) ≤ x.n ∧ 0 ≤ x.n ∧ A = (1, 6000 + (i : Int))) ∨ (x.kind = 2 ∧ 0 ≤ x.n ∧ x.n < p.acts.length ∧ A = orF (qab4 0 g (decide (0 < ((actW p.acts x.n).length : Int))) 2 (6000 + i)) (qagp p i ([x.yes].drop 0), 6000 + (i : Int))) := by
     rcases k with k | k
     ·rw [if_pos k, qaci _ _ _ _ _ _ (by decide)] at hA
      exact .inl ⟨k, hA⟩
     ·rw [if_neg (by omega), if_pos k] at hA
      by_cases n1 : x.n < 0
      ·refine .inr (.inl ⟨k, n1, ?_⟩)
       rw [hA, if_pos (by simp [n1])]; rfl
      ·by_cases n2 : (p.acts.length : Int) ≤ x.n
       ·refine .inr (.inr (.inl ⟨k, n2, by omega, ?_⟩))
        rw [hA, if_pos (by simp [n2])]; rfl
       ·refine .inr (.inr (.inr ⟨k, by omega, by omega, ?_⟩))
        rw [hA, if_neg (by simp [n1, n2]), qaci _ _ _ _ _ _ (by decide)]; rfl
    clear hA k
    rcases hA2 with ⟨k, hA⟩ | ⟨k, n1, hA⟩ | ⟨k, n2, n1, hA⟩ | ⟨k, n1, n2, hA⟩
    ·have k1 : (x.kind == 1) = true := by simpa using k
     replace k := Lib.hid k
     cases kn : decide (x.n < 0) <;> simp only [kn, Bool.true_or, Bool.false_or] at hA <;> have hI := hA <;> replace hI := Lib.hid hI <;> clear hA
     all_goals
      repeat' (first | (with_reducible first | refine zA ?_ | refine qaah ?_ | refine zK ?_) | ((with_reducible first | refine qaad ?_ | refine qaa8 (by rw [hP]; exact qadn) ?_); (try rw [hP]); simp -implicitDefEqProofs [qab9, qabf, *]) | ((with_reducible refine qaae ?_); (try simp -implicitDefEqProofs [qab9, qabf, *])) | ((with_reducible refine qaab rfl (fun h => ?_) (fun h => ?_)) <;> have h' := h <;> (try simp at h') <;> (try subst h')) | (refine qabc (qaan p _ _ _ _ _ _ _ (by simp)) ⟨rfl, trivial⟩ ⟨rfl, trivial⟩ ?_; simp -implicitDefEqProofs [qab9, qabf, *]) | fail)
      refine qaat (qabp (fun s (y : Nat × Int × Int) => s.turn [(136, .int .i64 y.1)] [(0, .cells 179 (jc p y.2.1 y.2.2))]) (fun y => y.1 ≤ 1 ∧ A = orF (y.2.1, y.2.2) (qagp p i ([x.yes].drop y.1), 6000 + (i : Int))) (fun y => 1 - y.1) (0, _, _) ?_ ⟨by simp, hI.out⟩ ?_)
      ·repeat' (first | ((with_reducible refine qaag [] hm ?_ ?_ ?_ ?_) <;> (try simp only [zT, puth, Nat.reduceEqDiff, reduceIte, Nat.reduceAdd])) | (with_reducible first | refine za ?_ ?_ | refine zb ?_ ?_ ?_ ?_ | refine zd ?_ ?_ ?_ ?_) | (with_reducible first | exact qaaa | exact qaac) | ((with_reducible first | refine zga ?_ | refine zgb ?_); rfl) | ((with_reducible refine zgd ?_); (first | omega | (simp; done))) | (exact Co.refl _) | (exact CoL.refl _) | (exact CoLL.refl _) | fail)
      rintro J hJ ⟨k, e1, g1⟩ ⟨h3, h4⟩
      unfold qacx
      simp only [zT, puth, Nat.reduceEqDiff, reduceIte, Nat.reduceAdd] at h3 h4 ⊢
      have hk : k = 0 ∨ k = 1 := by omega
      rcases hk with rfl | rfl
      ·have h5 := h4.trans (qaeb p i x.yes e1 g1 (qagp p i []) (6000 + (i : Int)))
       clear h4
       cases kd : decide (x.yes < 0) <;> simp only [kd, Bool.true_or, Bool.false_or] at h5 <;> replace h5 := Lib.hid h5
       all_goals
        repeat' (first | (with_reducible first | refine zA ?_ | refine qaah ?_) | ((with_reducible refine qaad ?_); (try rw [hP]); simp -implicitDefEqProofs [*]) | ((with_reducible refine qaae ?_); (try simp -implicitDefEqProofs [*])) | ((with_reducible refine qaab rfl (fun h => ?_) (fun h => ?_)) <;> have h' := h <;> (try simp at h') <;> (try subst h')) | (refine qabc (qaan p _ _ _ _ _ _ _ (by simp)) ⟨rfl, trivial⟩ ⟨rfl, trivial⟩ ?_; simp -implicitDefEqProofs [*]) | (with_reducible first | refine za ?_ ?_ | refine zb ?_ ?_ ?_ ?_ | refine zd ?_ ?_ ?_ ?_) | (with_reducible first | exact qaaa | exact qaac) | ((with_reducible first | refine zga ?_ | refine zgb ?_); rfl) | ((with_reducible first | refine zgd ?_ | refine zge ?_); (first | omega | (simp; done))) | (exact Co.refl _) | (exact CoL.refl _) | (exact CoLL.refl _) | ((refine qaaj hJ (1, ?_, ?_) ?_ ?_ ?_; rotate_left 2; (with_reducible refine qaag [] hm ?_ ?_ ?_ ?_) <;> (try simp only [zT, puth, Nat.reduceEqDiff, reduceIte, Nat.reduceAdd]))) | fail)
        all_goals (try dsimp only)
        all_goals (exact ⟨by omega, h5.out⟩)
      ·replace h4 := Lib.hid h4
       repeat' (first | (with_reducible refine zA ?_) | ((with_reducible refine qaad ?_); (try rw [hP]); simp -implicitDefEqProofs [*]) | ((with_reducible refine qaao ?_); (try simp -implicitDefEqProofs [*])) | ((with_reducible refine qaab rfl (fun h => ?_) (fun h => ?_)) <;> have h' := h <;> (try simp at h') <;> (try subst h')) | (with_reducible first | refine za ?_ ?_ | refine zb ?_ ?_ ?_ ?_) | (with_reducible first | exact qaaa | exact qaac) | ((with_reducible first | refine zga ?_ | refine zgb ?_); rfl) | ((with_reducible first | refine zgd ?_ | refine zge ?_); (first | omega | (simp; done))) | (exact Co.refl _) | (exact CoL.refl _) | ((refine qaaj hJo (i + 1, ?_, ?_) ?_ ?_ ?_; rotate_left 2; (with_reducible refine qaag [] hm ?_ ?_ ?_ ?_) <;> (try simp only [zT, puth, Nat.reduceEqDiff, reduceIte, Nat.reduceAdd]))) | fail)
       all_goals (try dsimp only)
       all_goals (refine ⟨by omega, ?_⟩; rw [h2.out]; congr 1; rw [h4.out]; exact qacd _ rfl)
    ·have k1 : (x.kind == 1) = false := by rw [k]; rfl
     have k2 : (x.kind == 2) = true := by simpa using k
     have kn : decide (x.n < 0) = true := by simpa using n1
     have hI : A = orF (1, 6000 + (i : Int)) (qagp p i ([x.yes].drop 0), 6000 + (i : Int)) := hA
     clear k n1 hA
     replace hI := Lib.hid hI
     repeat' (first | (with_reducible first | refine zA ?_ | refine qaah ?_ | refine zK ?_) | ((with_reducible first | refine qaad ?_ | refine qaa8 (by rw [hP]; exact qadn) ?_); (try rw [hP]); simp -implicitDefEqProofs [qab9, qabf, *]) | ((with_reducible refine qaae ?_); (try simp -implicitDefEqProofs [qab9, qabf, *])) | ((with_reducible refine qaab rfl (fun h => ?_) (fun h => ?_)) <;> have h' := h <;> (try simp at h') <;> (try subst h')) | (refine qabc (qaan p _ _ _ _ _ _ _ (by simp)) ⟨rfl, trivial⟩ ⟨rfl, trivial⟩ ?_; simp -implicitDefEqProofs [qab9, qabf, *]) | fail)
     refine qaat (qabp (fun s (y : Nat × Int × Int) => s.turn [(136, .int .i64 y.1)] [(0, .cells 179 (jc p y.2.1 y.2.2))]) (fun y => y.1 ≤ 1 ∧ A = orF (y.2.1, y.2.2) (qagp p i ([x.yes].drop y.1), 6000 + (i : Int))) (fun y => 1 - y.1) (0, _, _) ?_ ⟨by simp, hI.out⟩ ?_)
     ·repeat' (first | ((with_reducible refine qaag [] hm ?_ ?_ ?_ ?_) <;> (try simp only [zT, puth, Nat.reduceEqDiff, reduceIte, Nat.reduceAdd])) | (with_reducible first | refine za ?_ ?_ | refine zb ?_ ?_ ?_ ?_ | refine zd ?_ ?_ ?_ ?_) | (with_reducible first | exact qaaa | exact qaac) | ((with_reducible first | refine zga ?_ | refine zgb ?_); rfl) | ((with_reducible refine zgd ?_); (first | omega | (simp; done))) | (exact Co.refl _) | (exact CoL.refl _) | (exact CoLL.refl _) | fail)
     rintro J hJ ⟨k, e1, g1⟩ ⟨h3, h4⟩
     unfold qacx
     simp only [zT, puth, Nat.reduceEqDiff, reduceIte, Nat.reduceAdd] at h3 h4 ⊢
     have hk : k = 0 ∨ k = 1 := by omega
     rcases hk with rfl | rfl
     ·have h5 := h4.trans (qaeb p i x.yes e1 g1 (qagp p i []) (6000 + (i : Int)))
      clear h4
      cases kd : decide (x.yes < 0) <;> simp only [kd, Bool.true_or, Bool.false_or] at h5 <;> replace h5 := Lib.hid h5
      all_goals
       repeat' (first | (with_reducible first | refine zA ?_ | refine qaah ?_) | ((with_reducible refine qaad ?_); (try rw [hP]); simp -implicitDefEqProofs [*]) | ((with_reducible refine qaae ?_); (try simp -implicitDefEqProofs [*])) | ((with_reducible refine qaab rfl (fun h => ?_) (fun h => ?_)) <;> have h' := h <;> (try simp at h') <;> (try subst h')) | (refine qabc (qaan p _ _ _ _ _ _ _ (by simp)) ⟨rfl, trivial⟩ ⟨rfl, trivial⟩ ?_; simp -implicitDefEqProofs [*]) | (with_reducible first | refine za ?_ ?_ | refine zb ?_ ?_ ?_ ?_ | refine zd ?_ ?_ ?_ ?_) | (with_reducible first | exact qaaa | exact qaac) | ((with_reducible first | refine zga ?_ | refine zgb ?_); rfl) | ((with_reducible first | refine zgd ?_ | refine zge ?_); (first | omega | (simp; done))) | (exact Co.refl _) | (exact CoL.refl _) | (exact CoLL.refl _) | ((refine qaaj hJ (1, ?_, ?_) ?_ ?_ ?_; rotate_left 2; (with_reducible refine qaag [] hm ?_ ?_ ?_ ?_) <;> (try simp only [zT, puth, Nat.reduceEqDiff, reduceIte, Nat.reduceAdd]))) | fail)
       all_goals (try dsimp only)
       all_goals (exact ⟨by omega, h5.out⟩)
     ·replace h4 := Lib.hid h4
      repeat' (first | (with_reducible refine zA ?_) | ((with_reducible refine qaad ?_); (try rw [hP]); simp -implicitDefEqProofs [*]) | ((with_reducible refine qaao ?_); (try simp -implicitDefEqProofs [*])) | ((with_reducible refine qaab rfl (fun h => ?_) (fun h => ?_)) <;> have h' := h <;> (try simp at h') <;> (try subst h')) | (with_reducible first | refine za ?_ ?_ | refine zb ?_ ?_ ?_ ?_) | (with_reducible first | exact qaaa | exact qaac) | ((with_reducible first | refine zga ?_ | refine zgb ?_); rfl) | ((with_reducible first | refine zgd ?_ | refine zge ?_); (first | omega | (simp; done))) | (exact Co.refl _) | (exact CoL.refl _) | ((refine qaaj hJo (i + 1, ?_, ?_) ?_ ?_ ?_; rotate_left 2; (with_reducible refine qaag [] hm ?_ ?_ ?_ ?_) <;> (try simp only [zT, puth, Nat.reduceEqDiff, reduceIte, Nat.reduceAdd]))) | fail)
      all_goals (try dsimp only)
      all_goals (refine ⟨by omega, ?_⟩; rw [h2.out]; congr 1; rw [h4.out]; exact qacd _ rfl)
    ·have k1 : (x.kind == 1) = false := by rw [k]; rfl
     have k2 : (x.kind == 2) = true := by simpa using k
     have kn : decide (x.n < 0) = false := by simpa using n1
     have kn2 : decide ((p.acts.length : Int) ≤ x.n) = true := by simpa using n2
     have hI : A = orF (1, 6000 + (i : Int)) (qagp p i ([x.yes].drop 0), 6000 + (i : Int)) := hA
     clear k n1 n2 hA
     replace hI := Lib.hid hI
     repeat' (first | (with_reducible first | refine zA ?_ | refine qaah ?_ | refine zK ?_) | ((with_reducible first | refine qaad ?_ | refine qaa8 (by rw [hP]; exact qadn) ?_); (try rw [hP]); simp -implicitDefEqProofs [qab9, qabf, *]) | ((with_reducible refine qaae ?_); (try simp -implicitDefEqProofs [qab9, qabf, *])) | ((with_reducible refine qaab rfl (fun h => ?_) (fun h => ?_)) <;> have h' := h <;> (try simp at h') <;> (try subst h')) | (refine qabc (qaan p _ _ _ _ _ _ _ (by simp)) ⟨rfl, trivial⟩ ⟨rfl, trivial⟩ ?_; simp -implicitDefEqProofs [qab9, qabf, *]) | fail)
     refine qaat (qabp (fun s (y : Nat × Int × Int) => s.turn [(136, .int .i64 y.1)] [(0, .cells 179 (jc p y.2.1 y.2.2))]) (fun y => y.1 ≤ 1 ∧ A = orF (y.2.1, y.2.2) (qagp p i ([x.yes].drop y.1), 6000 + (i : Int))) (fun y => 1 - y.1) (0, _, _) ?_ ⟨by simp, hI.out⟩ ?_)
     ·repeat' (first | ((with_reducible refine qaag [] hm ?_ ?_ ?_ ?_) <;> (try simp only [zT, puth, Nat.reduceEqDiff, reduceIte, Nat.reduceAdd])) | (with_reducible first | refine za ?_ ?_ | refine zb ?_ ?_ ?_ ?_ | refine zd ?_ ?_ ?_ ?_) | (with_reducible first | exact qaaa | exact qaac) | ((with_reducible first | refine zga ?_ | refine zgb ?_); rfl) | ((with_reducible refine zgd ?_); (first | omega | (simp; done))) | (exact Co.refl _) | (exact CoL.refl _) | (exact CoLL.refl _) | fail)
     rintro J hJ ⟨k, e1, g1⟩ ⟨h3, h4⟩
     unfold qacx
     simp only [zT, puth, Nat.reduceEqDiff, reduceIte, Nat.reduceAdd] at h3 h4 ⊢
     have hk : k = 0 ∨ k = 1 := by omega
     rcases hk with rfl | rfl
     ·have h5 := h4.trans (qaeb p i x.yes e1 g1 (qagp p i []) (6000 + (i : Int)))
      clear h4
      cases kd : decide (x.yes < 0) <;> simp only [kd, Bool.true_or, Bool.false_or] at h5 <;> replace h5 := Lib.hid h5
      all_goals
       repeat' (first | (with_reducible first | refine zA ?_ | refine qaah ?_) | ((with_reducible refine qaad ?_); (try rw [hP]); simp -implicitDefEqProofs [*]) | ((with_reducible refine qaae ?_); (try simp -implicitDefEqProofs [*])) | ((with_reducible refine qaab rfl (fun h => ?_) (fun h => ?_)) <;> have h' := h <;> (try simp at h') <;> (try subst h')) | (refine qabc (qaan p _ _ _ _ _ _ _ (by simp)) ⟨rfl, trivial⟩ ⟨rfl, trivial⟩ ?_; simp -implicitDefEqProofs [*]) | (with_reducible first | refine za ?_ ?_ | refine zb ?_ ?_ ?_ ?_ | refine zd ?_ ?_ ?_ ?_) | (with_reducible first | exact qaaa | exact qaac) | ((with_reducible first | refine zga ?_ | refine zgb ?_); rfl) | ((with_reducible first | refine zgd ?_ | refine zge ?_); (first | omega | (simp; done))) | (exact Co.refl _) | (exact CoL.refl _) | (exact CoLL.refl _) | ((refine qaaj hJ (1, ?_, ?_) ?_ ?_ ?_; rotate_left 2; (with_reducible refine qaag [] hm ?_ ?_ ?_ ?_) <;> (try simp only [zT, puth, Nat.reduceEqDiff, reduceIte, Nat.reduceAdd]))) | fail)
       all_goals (try dsimp only)
       all_goals (exact ⟨by omega, h5.out⟩)
     ·replace h4 := Lib.hid h4
      repeat' (first | (with_reducible refine zA ?_) | ((with_reducible refine qaad ?_); (try rw [hP]); simp -implicitDefEqProofs [*]) | ((with_reducible refine qaao ?_); (try simp -implicitDefEqProofs [*])) | ((with_reducible refine qaab rfl (fun h => ?_) (fun h => ?_)) <;> have h' := h <;> (try simp at h') <;> (try subst h')) | (with_reducible first | refine za ?_ ?_ | refine zb ?_ ?_ ?_ ?_) | (with_reducible first | exact qaaa | exact qaac) | ((with_reducible first | refine zga ?_ | refine zgb ?_); rfl) | ((with_reducible first | refine zgd ?_ | refine zge ?_); (first | omega | (simp; done))) | (exact Co.refl _) | (exact CoL.refl _) | ((refine qaaj hJo (i + 1, ?_, ?_) ?_ ?_ ?_; rotate_left 2; (with_reducible refine qaag [] hm ?_ ?_ ?_ ?_) <;> (try simp only [zT, puth, Nat.reduceEqDiff, reduceIte, Nat.reduceAdd]))) | fail)
      all_goals (try dsimp only)
      all_goals (refine ⟨by omega, ?_⟩; rw [h2.out]; congr 1; rw [h4.out]; exact qacd _ rfl)
    ·have k1 : (x.kind == 1) = false := by rw [k]; rfl
     have k2 : (x.kind == 2) = true := by simpa using k
     have kn : decide (x.n < 0) = false := by simpa using n1
     have kn2 : decide ((p.acts.length : Int) ≤ x.n) = false := by simpa using n2
     have hlt : x.n.toNat < p.acts.length := by omega
     have hI := hA
     have : actW p.acts x.n = p.acts[x.n.toNat].w := by unfold actW; rw [List.getElem?_eq_getElem hlt]; rfl
     rw [this] at hI
     generalize hB : p.acts[x.n.toNat] = B at hI
     rw [show decide (0 < (B.w.length : Int)) = decide (0 < B.w.length) from decide_eq_decide.2 (by omega)] at hI
     clear k this hA
     replace hI := Lib.hid hI
     repeat' (first | (with_reducible first | refine zA ?_ | refine qaah ?_ | refine zK ?_) | ((with_reducible first | refine qaad ?_ | refine qaa8 (by rw [hP]; exact qadn) ?_); (try rw [hP]); simp -implicitDefEqProofs [qab9, qabf, *]) | ((with_reducible refine qaae ?_); (try simp -implicitDefEqProofs [qab9, qabf, *])) | ((with_reducible refine qaab rfl (fun h => ?_) (fun h => ?_)) <;> have h' := h <;> (try simp at h') <;> (try subst h')) | (refine qabc (qaan p _ _ _ _ _ _ _ (by simp)) ⟨rfl, trivial⟩ ⟨rfl, trivial⟩ ?_; simp -implicitDefEqProofs [qab9, qabf, *]) | fail)
     refine qaat (qabp (fun s (y : Nat × Int × Int) => s.turn [(136, .int .i64 y.1)] [(0, .cells 179 (jc p y.2.1 y.2.2))]) (fun y => y.1 ≤ 1 ∧ A = orF (y.2.1, y.2.2) (qagp p i ([x.yes].drop y.1), 6000 + (i : Int))) (fun y => 1 - y.1) (0, _, _) ?_ ⟨by simp, hI.out⟩ ?_)
     ·repeat' (first | ((with_reducible refine qaag [] hm ?_ ?_ ?_ ?_) <;> (try simp only [zT, puth, Nat.reduceEqDiff, reduceIte, Nat.reduceAdd])) | (with_reducible first | refine za ?_ ?_ | refine zb ?_ ?_ ?_ ?_ | refine zd ?_ ?_ ?_ ?_) | (with_reducible first | exact qaaa | exact qaac) | ((with_reducible first | refine zga ?_ | refine zgb ?_); rfl) | ((with_reducible refine zgd ?_); (first | omega | (simp; done))) | (exact Co.refl _) | (exact CoL.refl _) | (exact CoLL.refl _) | fail)
     rintro J hJ ⟨k, e1, g1⟩ ⟨h3, h4⟩
     unfold qacx
     simp only [zT, puth, Nat.reduceEqDiff, reduceIte, Nat.reduceAdd] at h3 h4 ⊢
     have hk : k = 0 ∨ k = 1 := by omega
     rcases hk with rfl | rfl
     ·have h5 := h4.trans (qaeb p i x.yes e1 g1 (qagp p i []) (6000 + (i : Int)))
      clear h4
      cases kd : decide (x.yes < 0) <;> simp only [kd, Bool.true_or, Bool.false_or] at h5 <;> replace h5 := Lib.hid h5
      all_goals
       repeat' (first | (with_reducible first | refine zA ?_ | refine qaah ?_) | ((with_reducible refine qaad ?_); (try rw [hP]); simp -implicitDefEqProofs [*]) | ((with_reducible refine qaae ?_); (try simp -implicitDefEqProofs [*])) | ((with_reducible refine qaab rfl (fun h => ?_) (fun h => ?_)) <;> have h' := h <;> (try simp at h') <;> (try subst h')) | (refine qabc (qaan p _ _ _ _ _ _ _ (by simp)) ⟨rfl, trivial⟩ ⟨rfl, trivial⟩ ?_; simp -implicitDefEqProofs [*]) | (with_reducible first | refine za ?_ ?_ | refine zb ?_ ?_ ?_ ?_ | refine zd ?_ ?_ ?_ ?_) | (with_reducible first | exact qaaa | exact qaac) | ((with_reducible first | refine zga ?_ | refine zgb ?_); rfl) | ((with_reducible first | refine zgd ?_ | refine zge ?_); (first | omega | (simp; done))) | (exact Co.refl _) | (exact CoL.refl _) | (exact CoLL.refl _) | ((refine qaaj hJ (1, ?_, ?_) ?_ ?_ ?_; rotate_left 2; (with_reducible refine qaag [] hm ?_ ?_ ?_ ?_) <;> (try simp only [zT, puth, Nat.reduceEqDiff, reduceIte, Nat.reduceAdd]))) | fail)
       all_goals (try dsimp only)
       all_goals (exact ⟨by omega, h5.out⟩)
     ·replace h4 := Lib.hid h4
      repeat' (first | (with_reducible refine zA ?_) | ((with_reducible refine qaad ?_); (try rw [hP]); simp -implicitDefEqProofs [*]) | ((with_reducible refine qaao ?_); (try simp -implicitDefEqProofs [*])) | ((with_reducible refine qaab rfl (fun h => ?_) (fun h => ?_)) <;> have h' := h <;> (try simp at h') <;> (try subst h')) | (with_reducible first | refine za ?_ ?_ | refine zb ?_ ?_ ?_ ?_) | (with_reducible first | exact qaaa | exact qaac) | ((with_reducible first | refine zga ?_ | refine zgb ?_); rfl) | ((with_reducible first | refine zgd ?_ | refine zge ?_); (first | omega | (simp; done))) | (exact Co.refl _) | (exact CoL.refl _) | ((refine qaaj hJo (i + 1, ?_, ?_) ?_ ?_ ?_; rotate_left 2; (with_reducible refine qaag [] hm ?_ ?_ ?_ ?_) <;> (try simp only [zT, puth, Nat.reduceEqDiff, reduceIte, Nat.reduceAdd]))) | fail)
      all_goals (try dsimp only)
      all_goals (refine ⟨by omega, ?_⟩; rw [h2.out]; congr 1; rw [h4.out]; exact qacd _ rfl)
   ·have k1 : (x.kind == 1) = false := by simpa using kn1
    have k2 : (x.kind == 2) = false := by simpa using kn2
    rw [if_neg kn1, if_neg kn2] at hA
    by_cases kn3 : x.kind = 3
    ·have k3 : (x.kind == 3) = true := by simpa using kn3
     rw [if_pos kn3, qane] at hA
     have hI := hA
     clear kn1 kn2 kn3 hA
     replace hI := Lib.hid hI
     repeat' (first | (with_reducible first | refine zA ?_ | refine qaah ?_) | ((with_reducible refine qaad ?_); (try rw [hP]); simp -implicitDefEqProofs [qab9, qabf, *]) | ((with_reducible refine qaae ?_); (try simp -implicitDefEqProofs [qab9, qabf, *])) | ((with_reducible refine qaab rfl (fun h => ?_) (fun h => ?_)) <;> have h' := h <;> (try simp at h') <;> (try subst h')) | ((refine qabc (qaoz p _ _ x.e _ (by omega) _ _ (by simp)) ⟨rfl, trivial⟩ ⟨rfl, trivial⟩ ?_); simp -implicitDefEqProofs [qab9, qabf, *]) | fail)
     refine qaat (qabp (fun s (y : Nat × Int × Int) => s.turn [(136, .int .i64 y.1)] [(0, .cells 179 (jc p y.2.1 y.2.2))]) (fun y => y.1 ≤ 2 ∧ A = orF (y.2.1, y.2.2) (qagp p i ([x.yes, x.no].drop y.1), 6000 + (i : Int))) (fun y => 2 - y.1) (0, _, _) ?_ ⟨by simp, hI.out⟩ ?_)
     ·repeat' (first | ((with_reducible refine qaag [] hm ?_ ?_ ?_ ?_) <;> (try simp only [zT, puth, Nat.reduceEqDiff, reduceIte, Nat.reduceAdd])) | (with_reducible first | refine za ?_ ?_ | refine zb ?_ ?_ ?_ ?_ | refine zd ?_ ?_ ?_ ?_) | (with_reducible first | exact qaaa | exact qaac) | ((with_reducible first | refine zga ?_ | refine zgb ?_); rfl) | ((with_reducible refine zgd ?_); (first | omega | (simp; done))) | (exact Co.refl _) | (exact CoL.refl _) | (exact CoLL.refl _) | fail)
     rintro J hJ ⟨k, e1, g1⟩ ⟨h3, h4⟩
     unfold qacx
     simp only [zT, puth, Nat.reduceEqDiff, reduceIte, Nat.reduceAdd] at h3 h4 ⊢
     have hk : k = 0 ∨ k = 1 ∨ k = 2 := by omega
     rcases hk with rfl | rfl | rfl
     ·have h5 := h4.trans (qaeb p i x.yes e1 g1 (qagp p i [x.no]) (6000 + (i : Int)))
      clear h4
      cases kd : decide (x.yes < 0) <;> simp only [kd, Bool.true_or, Bool.false_or] at h5 <;> replace h5 := Lib.hid h5
      all_goals
       repeat' (first | (with_reducible first | refine zA ?_ | refine qaah ?_) | ((with_reducible refine qaad ?_); (try rw [hP]); simp -implicitDefEqProofs [*]) | ((with_reducible refine qaae ?_); (try simp -implicitDefEqProofs [*])) | ((with_reducible refine qaab rfl (fun h => ?_) (fun h => ?_)) <;> have h' := h <;> (try simp at h') <;> (try subst h')) | (refine qabc (qaan p _ _ _ _ _ _ _ (by simp)) ⟨rfl, trivial⟩ ⟨rfl, trivial⟩ ?_; simp -implicitDefEqProofs [*]) | (with_reducible first | refine za ?_ ?_ | refine zb ?_ ?_ ?_ ?_ | refine zd ?_ ?_ ?_ ?_) | (with_reducible first | exact qaaa | exact qaac) | ((with_reducible first | refine zga ?_ | refine zgb ?_); rfl) | ((with_reducible first | refine zgd ?_ | refine zge ?_); (first | omega | (simp; done))) | (exact Co.refl _) | (exact CoL.refl _) | (exact CoLL.refl _) | ((refine qaaj hJ (1, ?_, ?_) ?_ ?_ ?_; rotate_left 2; (with_reducible refine qaag [] hm ?_ ?_ ?_ ?_) <;> (try simp only [zT, puth, Nat.reduceEqDiff, reduceIte, Nat.reduceAdd]))) | fail)
       all_goals (try dsimp only)
       all_goals (exact ⟨by omega, h5.out⟩)
     ·have h5 := h4.trans (qaeb p i x.no e1 g1 (qagp p i []) (6000 + (i : Int)))
      clear h4
      cases kd : decide (x.no < 0) <;> simp only [kd, Bool.true_or, Bool.false_or] at h5 <;> replace h5 := Lib.hid h5
      all_goals
       repeat' (first | (with_reducible first | refine zA ?_ | refine qaah ?_) | ((with_reducible refine qaad ?_); (try rw [hP]); simp -implicitDefEqProofs [*]) | ((with_reducible refine qaae ?_); (try simp -implicitDefEqProofs [*])) | ((with_reducible refine qaab rfl (fun h => ?_) (fun h => ?_)) <;> have h' := h <;> (try simp at h') <;> (try subst h')) | (refine qabc (qaan p _ _ _ _ _ _ _ (by simp)) ⟨rfl, trivial⟩ ⟨rfl, trivial⟩ ?_; simp -implicitDefEqProofs [*]) | (with_reducible first | refine za ?_ ?_ | refine zb ?_ ?_ ?_ ?_ | refine zd ?_ ?_ ?_ ?_) | (with_reducible first | exact qaaa | exact qaac) | ((with_reducible first | refine zga ?_ | refine zgb ?_); rfl) | ((with_reducible first | refine zgd ?_ | refine zge ?_); (first | omega | (simp; done))) | (exact Co.refl _) | (exact CoL.refl _) | (exact CoLL.refl _) | ((refine qaaj hJ (2, ?_, ?_) ?_ ?_ ?_; rotate_left 2; (with_reducible refine qaag [] hm ?_ ?_ ?_ ?_) <;> (try simp only [zT, puth, Nat.reduceEqDiff, reduceIte, Nat.reduceAdd]))) | fail)
       all_goals (try dsimp only)
       all_goals (exact ⟨by omega, h5.out⟩)
     ·replace h4 := Lib.hid h4
      repeat' (first | (with_reducible refine zA ?_) | ((with_reducible refine qaad ?_); (try rw [hP]); simp -implicitDefEqProofs [*]) | ((with_reducible refine qaao ?_); (try simp -implicitDefEqProofs [*])) | ((with_reducible refine qaab rfl (fun h => ?_) (fun h => ?_)) <;> have h' := h <;> (try simp at h') <;> (try subst h')) | (with_reducible first | refine za ?_ ?_ | refine zb ?_ ?_ ?_ ?_) | (with_reducible first | exact qaaa | exact qaac) | ((with_reducible first | refine zga ?_ | refine zgb ?_); rfl) | ((with_reducible first | refine zgd ?_ | refine zge ?_); (first | omega | (simp; done))) | (exact Co.refl _) | (exact CoL.refl _) | ((refine qaaj hJo (i + 1, ?_, ?_) ?_ ?_ ?_; rotate_left 2; (with_reducible refine qaag [] hm ?_ ?_ ?_ ?_) <;> (try simp only [zT, puth, Nat.reduceEqDiff, reduceIte, Nat.reduceAdd]))) | fail)
      all_goals (try dsimp only)
      all_goals (refine ⟨by omega, ?_⟩; rw [h2.out]; congr 1; rw [h4.out]; exact qacd _ rfl)
    rw [if_neg kn3] at hA
    have k3 : (x.kind == 3) = false := by simpa using kn3
    by_cases kn4 : x.kind = 4
    ·have k4 : (x.kind == 4) = true := by simpa using kn4
     rw [if_pos kn4, qaci _ _ _ _ _ _ (by decide)] at hA
     have hI := hA
     clear kn1 kn2 kn3 kn4 hA
     replace hI := Lib.hid hI
     repeat' (first | (with_reducible first | refine zA ?_ | refine qaah ?_) | ((with_reducible refine qaad ?_); (try rw [hP]); simp -implicitDefEqProofs [qab9, qabf, *]) | ((with_reducible refine qaae ?_); (try simp -implicitDefEqProofs [qab9, qabf, *])) | ((with_reducible refine qaab rfl (fun h => ?_) (fun h => ?_)) <;> have h' := h <;> (try simp at h') <;> (try subst h')) | ((refine qabc (qagd p _ _ _ _ _ _ (by simp)) ⟨rfl, trivial⟩ ⟨rfl, trivial⟩ ?_); simp -implicitDefEqProofs [qab9, qabf, *]) | fail)
     refine qaat (qabp (fun s (y : Nat × Int × Int) => s.turn [(136, .int .i64 y.1)] [(0, .cells 179 (jc p y.2.1 y.2.2))]) (fun y => y.1 ≤ 2 ∧ A = orF (y.2.1, y.2.2) (qagp p i ([x.yes, x.no].drop y.1), 6000 + (i : Int))) (fun y => 2 - y.1) (0, _, _) ?_ ⟨by simp, hI.out⟩ ?_)
     ·repeat' (first | ((with_reducible refine qaag [] hm ?_ ?_ ?_ ?_) <;> (try simp only [zT, puth, Nat.reduceEqDiff, reduceIte, Nat.reduceAdd])) | (with_reducible first | refine za ?_ ?_ | refine zb ?_ ?_ ?_ ?_ | refine zd ?_ ?_ ?_ ?_) | (with_reducible first | exact qaaa | exact qaac) | ((with_reducible first | refine zga ?_ | refine zgb ?_); rfl) | ((with_reducible refine zgd ?_); (first | omega | (simp; done))) | (exact Co.refl _) | (exact CoL.refl _) | (exact CoLL.refl _) | fail)
     rintro J hJ ⟨k, e1, g1⟩ ⟨h3, h4⟩
     unfold qacx
     simp only [zT, puth, Nat.reduceEqDiff, reduceIte, Nat.reduceAdd] at h3 h4 ⊢
     have hk : k = 0 ∨ k = 1 ∨ k = 2 := by omega
     rcases hk with rfl | rfl | rfl
     ·have h5 := h4.trans (qaeb p i x.yes e1 g1 (qagp p i [x.no]) (6000 + (i : Int)))
      clear h4
      cases kd : decide (x.yes < 0) <;> simp only [kd, Bool.true_or, Bool.false_or] at h5 <;> replace h5 := Lib.hid h5
      all_goals
       repeat' (first | (with_reducible first | refine zA ?_ | refine qaah ?_) | ((with_reducible refine qaad ?_); (try rw [hP]); simp -implicitDefEqProofs [*]) | ((with_reducible refine qaae ?_); (try simp -implicitDefEqProofs [*])) | ((with_reducible refine qaab rfl (fun h => ?_) (fun h => ?_)) <;> have h' := h <;> (try simp at h') <;> (try subst h')) | (refine qabc (qaan p _ _ _ _ _ _ _ (by simp)) ⟨rfl, trivial⟩ ⟨rfl, trivial⟩ ?_; simp -implicitDefEqProofs [*]) | (with_reducible first | refine za ?_ ?_ | refine zb ?_ ?_ ?_ ?_ | refine zd ?_ ?_ ?_ ?_) | (with_reducible first | exact qaaa | exact qaac) | ((with_reducible first | refine zga ?_ | refine zgb ?_); rfl) | ((with_reducible first | refine zgd ?_ | refine zge ?_); (first | omega | (simp; done))) | (exact Co.refl _) | (exact CoL.refl _) | (exact CoLL.refl _) | ((refine qaaj hJ (1, ?_, ?_) ?_ ?_ ?_; rotate_left 2; (with_reducible refine qaag [] hm ?_ ?_ ?_ ?_) <;> (try simp only [zT, puth, Nat.reduceEqDiff, reduceIte, Nat.reduceAdd]))) | fail)
       all_goals (try dsimp only)
       all_goals (exact ⟨by omega, h5.out⟩)
     ·have h5 := h4.trans (qaeb p i x.no e1 g1 (qagp p i []) (6000 + (i : Int)))
      clear h4
      cases kd : decide (x.no < 0) <;> simp only [kd, Bool.true_or, Bool.false_or] at h5 <;> replace h5 := Lib.hid h5
      all_goals
       repeat' (first | (with_reducible first | refine zA ?_ | refine qaah ?_) | ((with_reducible refine qaad ?_); (try rw [hP]); simp -implicitDefEqProofs [*]) | ((with_reducible refine qaae ?_); (try simp -implicitDefEqProofs [*])) | ((with_reducible refine qaab rfl (fun h => ?_) (fun h => ?_)) <;> have h' := h <;> (try simp at h') <;> (try subst h')) | (refine qabc (qaan p _ _ _ _ _ _ _ (by simp)) ⟨rfl, trivial⟩ ⟨rfl, trivial⟩ ?_; simp -implicitDefEqProofs [*]) | (with_reducible first | refine za ?_ ?_ | refine zb ?_ ?_ ?_ ?_ | refine zd ?_ ?_ ?_ ?_) | (with_reducible first | exact qaaa | exact qaac) | ((with_reducible first | refine zga ?_ | refine zgb ?_); rfl) | ((with_reducible first | refine zgd ?_ | refine zge ?_); (first | omega | (simp; done))) | (exact Co.refl _) | (exact CoL.refl _) | (exact CoLL.refl _) | ((refine qaaj hJ (2, ?_, ?_) ?_ ?_ ?_; rotate_left 2; (with_reducible refine qaag [] hm ?_ ?_ ?_ ?_) <;> (try simp only [zT, puth, Nat.reduceEqDiff, reduceIte, Nat.reduceAdd]))) | fail)
       all_goals (try dsimp only)
       all_goals (exact ⟨by omega, h5.out⟩)
     ·replace h4 := Lib.hid h4
      repeat' (first | (with_reducible refine zA ?_) | ((with_reducible refine qaad ?_); (try rw [hP]); simp -implicitDefEqProofs [*]) | ((with_reducible refine qaao ?_); (try simp -implicitDefEqProofs [*])) | ((with_reducible refine qaab rfl (fun h => ?_) (fun h => ?_)) <;> have h' := h <;> (try simp at h') <;> (try subst h')) | (with_reducible first | refine za ?_ ?_ | refine zb ?_ ?_ ?_ ?_) | (with_reducible first | exact qaaa | exact qaac) | ((with_reducible first | refine zga ?_ | refine zgb ?_); rfl) | ((with_reducible first | refine zgd ?_ | refine zge ?_); (first | omega | (simp; done))) | (exact Co.refl _) | (exact CoL.refl _) | ((refine qaaj hJo (i + 1, ?_, ?_) ?_ ?_ ?_; rotate_left 2; (with_reducible refine qaag [] hm ?_ ?_ ?_ ?_) <;> (try simp only [zT, puth, Nat.reduceEqDiff, reduceIte, Nat.reduceAdd]))) | fail)
      all_goals (try dsimp only)
      all_goals (refine ⟨by omega, ?_⟩; rw [h2.out]; congr 1; rw [h4.out]; exact qacd _ rfl)
    ·have k4 : (x.kind == 4) = false := by simpa using kn4
     rw [if_neg kn4] at hA
     have hI : A = orF (5, 6000 + (i : Int)) (qagp p i ([x.yes, x.no].drop 0), 6000 + (i : Int)) := hA
     clear kn1 kn2 kn3 kn4 hA
     replace hI := Lib.hid hI
     repeat' (first | (with_reducible first | refine zA ?_ | refine qaah ?_) | ((with_reducible refine qaad ?_); (try rw [hP]); simp -implicitDefEqProofs [qab9, qabf, *]) | ((with_reducible refine qaae ?_); (try simp -implicitDefEqProofs [qab9, qabf, *])) | ((with_reducible refine qaab rfl (fun h => ?_) (fun h => ?_)) <;> have h' := h <;> (try simp at h') <;> (try subst h')) | (refine qabc (qaan p _ _ _ _ _ _ _ (by simp)) ⟨rfl, trivial⟩ ⟨rfl, trivial⟩ ?_; simp -implicitDefEqProofs [qab9, qabf, *]) | fail)
     refine qaat (qabp (fun s (y : Nat × Int × Int) => s.turn [(136, .int .i64 y.1)] [(0, .cells 179 (jc p y.2.1 y.2.2))]) (fun y => y.1 ≤ 2 ∧ A = orF (y.2.1, y.2.2) (qagp p i ([x.yes, x.no].drop y.1), 6000 + (i : Int))) (fun y => 2 - y.1) (0, _, _) ?_ ⟨by simp, hI.out⟩ ?_)
     ·repeat' (first | ((with_reducible refine qaag [] hm ?_ ?_ ?_ ?_) <;> (try simp only [zT, puth, Nat.reduceEqDiff, reduceIte, Nat.reduceAdd])) | (with_reducible first | refine za ?_ ?_ | refine zb ?_ ?_ ?_ ?_ | refine zd ?_ ?_ ?_ ?_) | (with_reducible first | exact qaaa | exact qaac) | ((with_reducible first | refine zga ?_ | refine zgb ?_); rfl) | ((with_reducible refine zgd ?_); (first | omega | (simp; done))) | (exact Co.refl _) | (exact CoL.refl _) | (exact CoLL.refl _) | fail)
     rintro J hJ ⟨k, e1, g1⟩ ⟨h3, h4⟩
     unfold qacx
     simp only [zT, puth, Nat.reduceEqDiff, reduceIte, Nat.reduceAdd] at h3 h4 ⊢
     have hk : k = 0 ∨ k = 1 ∨ k = 2 := by omega
     rcases hk with rfl | rfl | rfl
     ·have h5 := h4.trans (qaeb p i x.yes e1 g1 (qagp p i [x.no]) (6000 + (i : Int)))
      clear h4
      cases kd : decide (x.yes < 0) <;> simp only [kd, Bool.true_or, Bool.false_or] at h5 <;> replace h5 := Lib.hid h5
      all_goals
       repeat' (first | (with_reducible first | refine zA ?_ | refine qaah ?_) | ((with_reducible refine qaad ?_); (try rw [hP]); simp -implicitDefEqProofs [*]) | ((with_reducible refine qaae ?_); (try simp -implicitDefEqProofs [*])) | ((with_reducible refine qaab rfl (fun h => ?_) (fun h => ?_)) <;> have h' := h <;> (try simp at h') <;> (try subst h')) | (refine qabc (qaan p _ _ _ _ _ _ _ (by simp)) ⟨rfl, trivial⟩ ⟨rfl, trivial⟩ ?_; simp -implicitDefEqProofs [*]) | (with_reducible first | refine za ?_ ?_ | refine zb ?_ ?_ ?_ ?_ | refine zd ?_ ?_ ?_ ?_) | (with_reducible first | exact qaaa | exact qaac) | ((with_reducible first | refine zga ?_ | refine zgb ?_); rfl) | ((with_reducible first | refine zgd ?_ | refine zge ?_); (first | omega | (simp; done))) | (exact Co.refl _) | (exact CoL.refl _) | (exact CoLL.refl _) | ((refine qaaj hJ (1, ?_, ?_) ?_ ?_ ?_; rotate_left 2; (with_reducible refine qaag [] hm ?_ ?_ ?_ ?_) <;> (try simp only [zT, puth, Nat.reduceEqDiff, reduceIte, Nat.reduceAdd]))) | fail)
       all_goals (try dsimp only)
       all_goals (exact ⟨by omega, h5.out⟩)
     ·have h5 := h4.trans (qaeb p i x.no e1 g1 (qagp p i []) (6000 + (i : Int)))
      clear h4
      cases kd : decide (x.no < 0) <;> simp only [kd, Bool.true_or, Bool.false_or] at h5 <;> replace h5 := Lib.hid h5
      all_goals
       repeat' (first | (with_reducible first | refine zA ?_ | refine qaah ?_) | ((with_reducible refine qaad ?_); (try rw [hP]); simp -implicitDefEqProofs [*]) | ((with_reducible refine qaae ?_); (try simp -implicitDefEqProofs [*])) | ((with_reducible refine qaab rfl (fun h => ?_) (fun h => ?_)) <;> have h' := h <;> (try simp at h') <;> (try subst h')) | (refine qabc (qaan p _ _ _ _ _ _ _ (by simp)) ⟨rfl, trivial⟩ ⟨rfl, trivial⟩ ?_; simp -implicitDefEqProofs [*]) | (with_reducible first | refine za ?_ ?_ | refine zb ?_ ?_ ?_ ?_ | refine zd ?_ ?_ ?_ ?_) | (with_reducible first | exact qaaa | exact qaac) | ((with_reducible first | refine zga ?_ | refine zgb ?_); rfl) | ((with_reducible first | refine zgd ?_ | refine zge ?_); (first | omega | (simp; done))) | (exact Co.refl _) | (exact CoL.refl _) | (exact CoLL.refl _) | ((refine qaaj hJ (2, ?_, ?_) ?_ ?_ ?_; rotate_left 2; (with_reducible refine qaag [] hm ?_ ?_ ?_ ?_) <;> (try simp only [zT, puth, Nat.reduceEqDiff, reduceIte, Nat.reduceAdd]))) | fail)
       all_goals (try dsimp only)
       all_goals (exact ⟨by omega, h5.out⟩)
     ·replace h4 := Lib.hid h4
      repeat' (first | (with_reducible refine zA ?_) | ((with_reducible refine qaad ?_); (try rw [hP]); simp -implicitDefEqProofs [*]) | ((with_reducible refine qaao ?_); (try simp -implicitDefEqProofs [*])) | ((with_reducible refine qaab rfl (fun h => ?_) (fun h => ?_)) <;> have h' := h <;> (try simp at h') <;> (try subst h')) | (with_reducible first | refine za ?_ ?_ | refine zb ?_ ?_ ?_ ?_) | (with_reducible first | exact qaaa | exact qaac) | ((with_reducible first | refine zga ?_ | refine zgb ?_); rfl) | ((with_reducible first | refine zgd ?_ | refine zge ?_); (first | omega | (simp; done))) | (exact Co.refl _) | (exact CoL.refl _) | ((refine qaaj hJo (i + 1, ?_, ?_) ?_ ?_ ?_; rotate_left 2; (with_reducible refine qaag [] hm ?_ ?_ ?_ ?_) <;> (try simp only [zT, puth, Nat.reduceEqDiff, reduceIte, Nat.reduceAdd]))) | fail)
      all_goals (try dsimp only)
      all_goals (refine ⟨by omega, ?_⟩; rw [h2.out]; congr 1; rw [h4.out]; exact qacd _ rfl)
  ·have ke : (e == 0) = false := by simpa using he
   replace h2 := Lib.hid h2
   repeat' (first | (with_reducible refine zA ?_) | ((with_reducible refine qaad ?_); (try rw [hP]); simp -implicitDefEqProofs [*]) | ((with_reducible refine qaao ?_); (try simp -implicitDefEqProofs [*])) | ((with_reducible refine qaab rfl (fun h => ?_) (fun h => ?_)) <;> have h' := h <;> (try simp at h') <;> (try subst h')) | (refine qacf hm rfl ?_ (fun σ => rfl)) | fail)
   rw [h2.out, qafg he]
 ·obtain rfl : i = p.nodes.length := by omega
  rw [List.drop_length] at h2
  replace h2 := Lib.hid h2
  repeat' (first | (with_reducible refine zA ?_) | ((with_reducible refine qaad ?_); (try rw [hP]); simp -implicitDefEqProofs [*]) | ((with_reducible refine qaao ?_); (try simp -implicitDefEqProofs [*])) | ((with_reducible refine qaab rfl (fun h => ?_) (fun h => ?_)) <;> have h' := h <;> (try simp at h') <;> (try subst h')) | (refine qacf hm rfl ?_ (fun σ => rfl)) | fail)
  rw [h2.out, qacd _ rfl]
end Go.Proofs.Yticeaegpkpjjeaa
namespace Go.Proofs.Yticeaegpkpjjeaa
set_option linter.all false
open Go.RowKit
abbrev qawq : List SOper := [Oa 1 (.box 100 (.t 0)), Oa 2 (.mv (.c (.int .i64 0))), Oa 3 (.alloc 35 [(.int .i64 0), (.int .i64 0)])]
abbrev qawp : List SOper := [Oa 7 (.faddr 0 (.t 1)), Oa 8 (.load (.t 7)), Oa 9 (.len false (.t 8)), Oa 10 (.bin .eql (.t 9) (.c (.int .i64 0))), Oa 11 (.mv (.t 10)), Oe 12 (.faddr 0 (.t 1)) 11 false, Oe 13 (.load (.t 12)) 11 false, Oe 14 (.len false (.t 13)) 11 false, Oe 15 (.bin .gtr (.t 14) (.c (.int .i64 8))) 11 false, Oa 16 (.pick (.t 11) (.c (.bool true)) (.t 15))]
abbrev qawo : List SOper := [Oa 17 (.build [(.int .i64 0), (.int .i64 0)] [(0, 1, (.c (.int .i64 2))), (1, 1, (.c (.int .i64 (-1))))]), Oa 2 (.mv (.c (.int .i64 0))), Ob (.store 2 (.t 3) (.t 17))]
abbrev qawn : List SOper := [Oa 4 (.mv (.c (.int .i64 0)))]
abbrev qawm : List SOper := [Oa 18 (.faddr 0 (.t 1)), Oa 19 (.load (.t 18)), Oa 20 (.len false (.t 19)), Oa 21 (.mv (.c (.int .i64 0)))]
abbrev qawl : List SOper := [Oa 22 (.bin .lss (.t 21) (.t 20))]
abbrev qawk : List SOper := [Oa 23 (.mv (.t 21)), Oa 24 (.iaddr 1 (.t 19) (.t 21)), Oa 25 (.load (.t 24)), Oa 5 (.mv (.t 23)), Oa 6 (.mv (.t 25))]
abbrev qawj : List SOper := [Oa 26 (.mv (.t 6)), Oa 27 (.bin .lss (.t 26) (.c (.int .i64 1))), Oa 28 (.mv (.t 27)), Oe 29 (.mv (.t 6)) 28 false, Oe 30 (.bin .gtr (.t 29) (.c (.int .i64 48))) 28 false, Oa 31 (.pick (.t 28) (.c (.bool true)) (.t 30))]
abbrev qawi : List SOper := [Oa 32 (.mv (.t 5)), Oa 33 (.build [(.int .i64 0), (.int .i64 0)] [(0, 1, (.c (.int .i64 6))), (1, 1, (.t 32))]), Oa 2 (.mv (.c (.int .i64 0))), Ob (.store 2 (.t 3) (.t 33))]
abbrev qaqk : List SOper := [Oa 34 (.mv (.t 4)), Oa 35 (.mv (.t 6)), Oa 36 (.bin .add (.t 34) (.t 35)), Oa 4 (.mv (.t 36))]
abbrev qaqj : List SOper := [Oa 37 (.bin .add (.t 21) (.c (.int .i64 1))), Oa 21 (.mv (.t 37))]
def qaje : SCode := (.seq (.reg false qawl [3, 4, 19, 20, 21, 22]) (.seq (.cond (.t 22) .skip (.exit 0)) (.seq (.block 1 (.seq (.reg false qawk [3, 4, 5, 6, 19, 20, 21]) (.seq (.seq (.reg false qawj [3, 4, 5, 6, 19, 20, 21, 31]) (.cond (.t 31) (.seq (.reg false qawi [2, 3]) .ret) .skip)) (.reg false qaqk [3, 4, 19, 20, 21])))) (.reg false qaqj [3, 4, 19, 20, 21]))))
abbrev qaqi : List SOper := [Oa 38 (.mv (.t 4)), Oa 39 (.bin .rem (.t 38) (.c (.int .i64 8))), Oa 40 (.bin .neq (.t 39) (.c (.int .i64 0))), Oa 41 (.mv (.t 40)), Oe 42 (.mv (.t 4)) 41 false, Oe 43 (.bin .gtr (.t 42) (.c (.int .i64 256))) 41 false, Oa 44 (.pick (.t 41) (.c (.bool true)) (.t 43))]
abbrev qaqh : List SOper := [Oa 45 (.build [(.int .i64 0), (.int .i64 0)] [(0, 1, (.c (.int .i64 6))), (1, 1, (.c (.int .i64 (-1))))]), Oa 2 (.mv (.c (.int .i64 0))), Ob (.store 2 (.t 3) (.t 45))]
abbrev qaqg : List SOper := [Oa 46 (.mv (.t 4)), Oa 47 (.bin .quo (.t 46) (.c (.int .i64 8))), Oa 48 (.build [(.int .i64 0), (.int .i64 0)] []), Oa 2 (.mv (.t 47)), Ob (.store 2 (.t 3) (.t 48))]
def c_psize : SCode := (.seq (.reg false qawq [1, 3]) (.seq (.seq (.reg false qawp [1, 3, 16]) (.cond (.t 16) (.seq (.reg false qawo [2, 3]) .ret) .skip)) (.seq (.reg false qawn [1, 3, 4]) (.seq (.seq (.reg false qawm [3, 4, 19, 20, 21]) (.block 0 (.loop qaje))) (.seq (.seq (.reg false qaqi [3, 4, 44]) (.cond (.t 44) (.seq (.reg false qaqh [2, 3]) .ret) .skip)) (.seq (.reg false qaqg [2, 3]) .ret))))))
theorem qakt : comp Try.prog 49 ((Try.f83.body).getD .skip) = some c_psize.erase := by kernel_rfl
abbrev qav8 : List SOper := [Oa 1 (.box 100 (.t 0)), Oa 2 (.mv (.c (.int .i64 0))), Oa 3 (.alloc 35 [(.int .i64 0), (.int .i64 0)])]
abbrev qav7 : List SOper := [Oa 6 (.faddr 0 (.t 1)), Oa 7 (.load (.t 6)), Oa 8 (.len false (.t 7)), Oa 9 (.bin .lss (.t 8) (.c (.int .i64 1))), Oa 10 (.mv (.t 9)), Oe 11 (.faddr 0 (.t 1)) 10 false, Oe 12 (.load (.t 11)) 10 false, Oe 13 (.len false (.t 12)) 10 false, Oe 14 (.bin .gtr (.t 13) (.c (.int .i64 8))) 10 false, Oa 15 (.pick (.t 10) (.c (.bool true)) (.t 14))]
abbrev qav6 : List SOper := [Oc 16 46 [(.c (.int .i64 2)), (.c (.int .i64 (-1)))], Oa 2 (.mv (.c (.int .i64 0))), Ob (.store 2 (.t 3) (.t 16))]
abbrev qav5 : List SOper := [Oa 4 (.mv (.c (.int .i64 0)))]
abbrev qav4 : List SOper := [Oa 5 (.mv (.c (.int .i64 0)))]
abbrev qav3 : List SOper := [Oa 17 (.mv (.t 5)), Oa 18 (.faddr 0 (.t 1)), Oa 19 (.load (.t 18)), Oa 20 (.len false (.t 19)), Oa 21 (.bin .lss (.t 17) (.t 20))]
abbrev qav2 : List SOper := [Oa 24 (.faddr 0 (.t 1)), Oa 25 (.load (.t 24)), Oa 26 (.mv (.t 5)), Oa 27 (.iaddr 1 (.t 25) (.t 26)), Oa 28 (.load (.t 27)), Oa 29 (.bin .lss (.t 28) (.c (.int .i64 1))), Oa 30 (.mv (.t 29)), Oe 31 (.faddr 0 (.t 1)) 30 false, Oe 32 (.load (.t 31)) 30 false, Oe 33 (.mv (.t 5)) 30 false, Oe 34 (.iaddr 1 (.t 32) (.t 33)) 30 false, Oe 35 (.load (.t 34)) 30 false, Oe 36 (.bin .gtr (.t 35) (.c (.int .i64 48))) 30 false, Oa 37 (.pick (.t 30) (.c (.bool true)) (.t 36))]
abbrev qav1 : List SOper := [Oa 38 (.mv (.t 5)), Oc 39 46 [(.c (.int .i64 6)), (.t 38)], Oa 2 (.mv (.c (.int .i64 0))), Ob (.store 2 (.t 3) (.t 39))]
abbrev qav0 : List SOper := [Oa 40 (.mv (.t 4)), Oa 41 (.faddr 0 (.t 1)), Oa 42 (.load (.t 41)), Oa 43 (.mv (.t 5)), Oa 44 (.iaddr 1 (.t 42) (.t 43)), Oa 45 (.load (.t 44)), Oa 46 (.bin .add (.t 40) (.t 45)), Oa 4 (.mv (.t 46))]
abbrev qaqd : List SOper := [Oa 22 (.mv (.t 5)), Oa 23 (.bin .add (.t 22) (.c (.int .i64 1))), Oa 5 (.mv (.t 23))]
def qajc : SCode := (.seq (.seq (.reg false qav3 [1, 3, 4, 5, 21]) (.cond (.t 21) .skip (.exit 0))) (.seq (.block 1 (.seq (.seq (.reg false qav2 [1, 3, 4, 5, 37]) (.cond (.t 37) (.seq (.reg false qav1 [2, 3]) .ret) .skip)) (.reg false qav0 [1, 3, 4, 5]))) (.reg false qaqd [1, 3, 4, 5])))
abbrev qaqc : List SOper := [Oa 47 (.mv (.t 4)), Oa 48 (.bin .rem (.t 47) (.c (.int .i64 8))), Oa 49 (.bin .neq (.t 48) (.c (.int .i64 0))), Oa 50 (.mv (.t 49)), Oe 51 (.mv (.t 4)) 50 false, Oe 52 (.bin .gtr (.t 51) (.c (.int .i64 256))) 50 false, Oa 53 (.pick (.t 50) (.c (.bool true)) (.t 52))]
abbrev qaqb : List SOper := [Oc 54 46 [(.c (.int .i64 6)), (.c (.int .i64 (-1)))], Oa 2 (.mv (.c (.int .i64 0))), Ob (.store 2 (.t 3) (.t 54))]
abbrev qaqa : List SOper := [Oa 55 (.mv (.t 4)), Oa 56 (.bin .quo (.t 55) (.c (.int .i64 8))), Oa 57 (.build [(.int .i64 0), (.int .i64 0)] []), Oa 2 (.mv (.t 56)), Ob (.store 2 (.t 3) (.t 57))]
def c_rsize : SCode := (.seq (.reg false qav8 [1, 3]) (.seq (.seq (.reg false qav7 [1, 3, 15]) (.cond (.t 15) (.seq (.reg false qav6 [2, 3]) .ret) .skip)) (.seq (.reg false qav5 [1, 3, 4]) (.seq (.seq (.reg false qav4 [1, 3, 4, 5]) (.block 0 (.loop qajc))) (.seq (.seq (.reg false qaqc [3, 4, 53]) (.cond (.t 53) (.seq (.reg false qaqb [2, 3]) .ret) .skip)) (.seq (.reg false qaqa [2, 3]) .ret))))))
theorem qakr : comp Try.prog 58 ((Try.f94.body).getD .skip) = some c_rsize.erase := by kernel_rfl
abbrev c_rF_r1 : List SOper := [Oa 4 (.alloc 35 [(.int .i64 0), (.int .i64 0)])]
abbrev c_rF_r2 : List SOper := [Oa 5 (.mv (.t 0)), Oa 6 (.mv (.t 1)), Oa 7 (.build [(.int .i64 0), (.int .i64 0)] [(0, 1, (.t 5)), (1, 1, (.t 6))]), Ob (.store 2 (.t 4) (.t 7))]
def c_rF : SCode := (.seq (.reg false c_rF_r1 [0, 1, 4]) (.seq (.reg false c_rF_r2 [4]) .ret))
theorem qaz7 : comp Try.prog 8 ((Try.f46.body).getD .skip) = some c_rF.erase := by kernel_rfl
end Go.Proofs.Yticeaegpkpjjeaa
namespace Go.Proofs.Yticeaegpkpjjeaa
set_option linter.all false
open Go.RowKit
attribute [local simp] qabj qabi qaaw qaa2 qaax qaa1 qabg qabh qaap qab2 SOp.run SX.ev putd puts argS upds SOp.touch SSt.keep SSt.skip gets geth puth delh idOf SV.cells? setL qadu qadv sbin eq0 eq1 eqL qadr qacr qacs qaau qabk qaaf qabl qab3 qaai qaak FrzOk qaa5 qaaz qaa3 qaa4 qaaq qaay qabm qaa0 qaas qaa6 qaar frzS frzH frz frz1 frz0 SlotsM ObjsM ObjM rn ren ren1 ren0 qab6 qacp qacu qab5 qabn qacv qact CoL qaa7 qab7 dels adds idsH qabt
attribute [local simp] nums
theorem qab1 : qagq Try.prog 35 = some true := by kernel_rfl
theorem qabr : qaby Try.prog 35 = some 2 := by kernel_rfl
theorem qah2 {X : Cx} {sl : Sl} {hp : Hp} {t u nx id n : Nat} {ty : TypeId} {cs ds : List SV} {v v' r : SV} (hm : X.m = 0) (hne : t ≠ u) (hv : gets sl t = v') (hvv : v' = v) (hN : NoN v) (hu : gets sl u = .ptr id 0) (h : geth hp id = some (.cells ty cs)) (ha : qagq X.P ty = some true) (hn : qaby X.P ty = some n) (hl : ds.length = n) (e : CoL cs ds) (hr : r = .tup [v, .agg ds]) (hd : ∀ σ, ds.map (Go.Proofs.Yticeaegpkpjjeaa.ren σ) = ds) : QFun X [.tmp t, .cell u ty] 0 r [] .ret ⟨sl, hp, nx⟩ := by
 subst hr hl hvv
 have hw : Wk X ⟨sl, hp, nx⟩ ⟨[(t, v'), (u, .ptr 0 0)], [(0, .cells ty ds)], 1⟩ := by
  refine qaag [(0, id)] hm ⟨?_, ?_, trivial⟩ ⟨⟨_, h, rfl, by rw [hd]; exact e⟩, trivial⟩ rfl (by simp)
  ·rw [hv, hN]; exact Co.refl _
  ·rw [hu]; exact Co.refl _
 refine ⟨_, hw, ?_, trivial, by simp⟩
 simp [qaoe, resL, resV, one_, gets, ha, hn, SOp.run, SX.ev, geth, hne]
theorem qa2g {X : Cx} {sl : Sl} {hp : Hp} {u nx id n : Nat} {ty : TypeId} {cs ds : List SV} {r : SV} (hm : X.m = 0) (hu : gets sl u = .ptr id 0) (h : geth hp id = some (.cells ty cs)) (ha : qagq X.P ty = some true) (hn : qaby X.P ty = some n) (hl : ds.length = n) (e : CoL cs ds) (hr : r = .agg ds) (hd : ∀ σ, ds.map (Go.Proofs.Yticeaegpkpjjeaa.ren σ) = ds) : QFun X [.cell u ty] 0 r [] .ret ⟨sl, hp, nx⟩ := by
 subst hr hl
 have hw : Wk X ⟨sl, hp, nx⟩ ⟨[(u, .ptr 0 0)], [(0, .cells ty ds)], 1⟩ := by
  refine qaag [(0, id)] hm ⟨?_, trivial⟩ ⟨⟨_, h, rfl, by rw [hd]; exact e⟩, trivial⟩ rfl (by simp)
  rw [hu]; exact Co.refl _
 refine ⟨_, hw, ?_, trivial, by simp⟩
 simp [qaoe, resL, resV, one_, gets, ha, hn, SOp.run, SX.ev, geth]
theorem rF_s (c a : Int) (q : Nat) : SCalls Try.prog 46 [.int .i64 c, .int .i64 a] [] q (.agg [.int .i64 c, .int .i64 a]) [] := by
 refine qabs ?_ (fun _ => rfl) (fun _ => rfl) rfl q
 refine qaal (N := 8) Try.func46 rfl rfl (by kernel_rfl) qaz7 (by simp) (by repeat' (first | exact trivial | refine And.intro ?_ ?_ | rfl | decide | exact PureR.ren _)) (by repeat' (first | exact trivial | refine And.intro ?_ ?_ | rfl | decide | exact PureR.ren _)) ?_
 rintro X hP hN hm
 unfold c_rF
 repeat' (first | (with_reducible refine zA ?_) | ((with_reducible refine qaad ?_); (try rw [hP]); simp -implicitDefEqProofs [*]) | ((with_reducible refine qaam ?_); (try simp only [qaau, qaaf, qaai])) | (refine qa2g hm rfl rfl (by rw [hP]; exact qab1) (by rw [hP]; exact qabr) rfl (CoL.refl _) rfl (fun σ => rfl)) | fail)
def qaj9 (ws : List Int) : SV := .tup [.int .i64 (qaka ws), .agg [.int .i64 (qag0 ws), .int .i64 (qays ws)]]
theorem qang {ws : List Int} (h : ws.length = 0 ∨ 8 < ws.length) : qaj9 ws = .tup [.int .i64 0, .agg [.int .i64 2, .int .i64 (-1)]] := by
 have h1 : qag0 ws = 2 := by unfold qag0; rw [if_pos h]
 have h2 : qays ws = -1 := by unfold qays; rw [if_pos h]
 have h3 : qaka ws = 0 := by unfold qaka; rw [h1]; rfl
 unfold qaj9; rw [h1, h2, h3]
theorem qas3 {ws : List Int} (h : ¬ (ws.length = 0 ∨ 8 < ws.length)) {i : Nat} (ha : ∀ j, j < i → wBad ws j = false) (hi : i < ws.length) (hb : wBad ws i = true) : qaj9 ws = .tup [.int .i64 0, .agg [.int .i64 6, .int .i64 i]] := by
 have e := qaz2 (wBad ws) ws.length i ha hb hi
 have h1 : qag0 ws = 6 := by unfold qag0; rw [if_neg h, e, if_pos hi]
 have h2 : qays ws = i := by unfold qays; rw [if_neg h, e, if_pos hi]
 have h3 : qaka ws = 0 := by unfold qaka; rw [h1]; rfl
 unfold qaj9; rw [h1, h2, h3]
theorem qas2 {ws : List Int} (h : ¬ (ws.length = 0 ∨ 8 < ws.length)) (ha : ∀ j, j < ws.length → wBad ws j = false) : qaj9 ws = if qac4 ws ws.length % 8 ≠ 0 ∨ 256 < qac4 ws ws.length then .tup [.int .i64 0, .agg [.int .i64 6, .int .i64 (-1)]] else .tup [.int .i64 (qac4 ws ws.length / 8), .agg [.int .i64 0, .int .i64 0]] := by
 have e := qaon (wBad ws) ws.length ha
 have hc : qag0 ws = if qac4 ws ws.length % 8 ≠ 0 ∨ 256 < qac4 ws ws.length then 6 else 0 := by unfold qag0; rw [if_neg h, e, if_neg (by omega)]
 have hA : qays ws = if qac4 ws ws.length % 8 ≠ 0 ∨ 256 < qac4 ws ws.length then -1 else 0 := by unfold qays; rw [if_neg h, e, if_neg (by omega)]
 unfold qaj9 qaka
 by_cases h1 : qac4 ws ws.length % 8 ≠ 0 ∨ 256 < qac4 ws ws.length
 ·rw [if_pos h1] at hc hA ⊢; rw [hc, hA]; rfl
 ·rw [if_neg h1] at hc hA ⊢; rw [hc, hA]; rfl
theorem qafp {ws : List Int} (h : ¬ (ws.length = 0 ∨ 8 < ws.length)) {i : Nat} (ha : ∀ j, j < i → wBad ws j = false) (hi : i ≤ ws.length) : 0 ≤ qac4 ws i ∧ qac4 ws i ≤ 1000 := by
 have := wSum ha; omega
theorem qa14 (ws : List Int) (q : Nat) : SCalls Try.prog 83 [.agg [nums .i64 ws]] [] q (qaj9 ws) [] := by
 refine qabs ?_ (fun _ => rfl) (fun _ => rfl) rfl q
 refine qaal (N := 49) Try.func83 rfl rfl (by kernel_rfl) qakt (by simp) (by repeat' (first | exact trivial | refine And.intro ?_ ?_ | rfl | decide | exact PureR.ren _)) (by repeat' (first | exact trivial | refine And.intro ?_ ?_ | rfl | decide | exact PureR.ren _)) ?_
 rintro X hP hN hm
 unfold c_psize
 by_cases hh : ws.length = 0 ∨ 8 < ws.length
 ·rw [qang hh]
  have k0 : ((ws.length : Int) == 0) = decide (ws.length = 0) := by rw [Bool.eq_iff_iff]; simp
  cases k1 : decide (ws.length = 0) <;> rw [k1] at k0
  ·have k2 : decide (8 < (ws.length : Int)) = true := by have := of_decide_eq_false k1; rw [decide_eq_true_eq]; omega
   replace hh := Lib.hid hh
   clear k1
   repeat' (first | (with_reducible refine zA ?_) | ((with_reducible refine qaad ?_); (try rw [hP]); simp -implicitDefEqProofs [*]) | ((with_reducible refine qaam ?_); (try simp only [qaau, qaaf, qaai])) | ((with_reducible refine qaab rfl (fun h => ?_) (fun h => ?_)) <;> have h' := h <;> (try simp at h') <;> (try subst h')) | (refine qah2 hm (by decide) rfl rfl (qaeg _ _) rfl rfl (by rw [hP]; exact qab1) (by rw [hP]; exact qabr) rfl (CoL.refl _) rfl (fun σ => rfl)) | fail)
  ·replace hh := Lib.hid hh
   clear k1
   repeat' (first | (with_reducible refine zA ?_) | ((with_reducible refine qaad ?_); (try rw [hP]); simp -implicitDefEqProofs [*]) | ((with_reducible refine qaam ?_); (try simp only [qaau, qaaf, qaai])) | ((with_reducible refine qaab rfl (fun h => ?_) (fun h => ?_)) <;> have h' := h <;> (try simp at h') <;> (try subst h')) | (refine qah2 hm (by decide) rfl rfl (qaeg _ _) rfl rfl (by rw [hP]; exact qab1) (by rw [hP]; exact qabr) rfl (CoL.refl _) rfl (fun σ => rfl)) | fail)
 have k0 : ((ws.length : Int) == 0) = false := by rw [beq_eq_false_iff_ne]; omega
 have k1 : decide (8 < (ws.length : Int)) = false := by rw [decide_eq_false_iff_not]; omega
 have hl : ws.length ≤ 8 := by omega
 replace hh := Lib.hid hh
 generalize hF : qaj9 ws = F
 repeat' (first | (with_reducible refine zA ?_) | ((with_reducible refine qaad ?_); (try rw [hP]); simp -implicitDefEqProofs [*]) | ((with_reducible refine qaae ?_); (try simp -implicitDefEqProofs [*])) | ((with_reducible refine qaab rfl (fun h => ?_) (fun h => ?_)) <;> have h' := h <;> (try simp at h') <;> (try subst h')) | fail)
 refine qaat (qabp (fun s (i : Nat) => s.turn [(4, .int .i64 (qac4 ws i)), (21, .int .i64 i)] []) (fun i => i ≤ ws.length ∧ ∀ j, j < i → wBad ws j = false) (fun i => ws.length - i) 0 ?_ ⟨by simp, by simp⟩ ?_)
 ·repeat' (first | ((with_reducible refine qaag [] hm ?_ ?_ ?_ ?_) <;> (try simp only [zT, puth, Nat.reduceEqDiff, reduceIte, Nat.reduceAdd])) | (with_reducible first | refine za ?_ ?_ | refine zb ?_ ?_ ?_ ?_) | (with_reducible first | exact qaaa | exact qaac) | ((with_reducible first | refine zga ?_ | refine zgb ?_); rfl) | ((with_reducible refine zgd ?_); (first | omega | (simp; done))) | (exact Co.refl _) | (exact CoL.refl _) | fail)
 rintro J hJ i ⟨h1, h2⟩
 have hsum := qafp hh.out h2 h1
 unfold qaje
 simp only [zT, puth, Nat.reduceEqDiff, reduceIte, Nat.reduceAdd] at h1 h2 ⊢
 rcases Nat.lt_or_ge i ws.length with hi | hi
 ·have wi : IntKind.i64.wrap ((i : Int) + 1) = (i : Int) + 1 := qaav (by omega) (by omega)
  have hx : el ws i = ws[i] := by unfold el; simp [hi]
  have hb : wBad ws i = (decide (ws[i] < 1) || decide (48 < ws[i])) := by unfold wBad; rw [hx, Bool.eq_iff_iff]; simp
  have hn : qac4 ws (i + 1) = qac4 ws i + ws[i] := by rw [← hx]; rfl
  generalize hxx : ws[i] = x at hb hn hx
  cases hbb : wBad ws i
  ·rw [hbb] at hb
   have hb' := Bool.or_eq_false_iff.1 hb.symm
   obtain ⟨v1, v2⟩ := hb'
   have hall : ∀ j, j < i + 1 → wBad ws j = false := fun j hj => by
    rcases Nat.lt_or_ge j i with q | q
    ·exact h2 j q
    ·obtain rfl : j = i := by omega
     exact hbb
   have hsx := qafp hh.out hall hi
   rw [hn] at hsx
   have ws1 : IntKind.i64.wrap (qac4 ws i + x) = qac4 ws (i + 1) := by rw [hn]; exact qaav (by omega) (by omega)
   replace hall := Lib.hid hall
   replace h2 := Lib.hid h2
   clear hb hbb hx hn
   repeat' (first | (with_reducible first | refine zA ?_ | refine qaah ?_) | ((with_reducible refine qaad ?_); (try rw [hP]); simp -implicitDefEqProofs [*]) | ((with_reducible refine qaae ?_); (try simp -implicitDefEqProofs [*])) | ((with_reducible refine qaab rfl (fun h => ?_) (fun h => ?_)) <;> have h' := h <;> (try simp at h') <;> (try subst h')) | (with_reducible first | refine za ?_ ?_ | refine zb ?_ ?_ ?_ ?_) | (with_reducible first | exact qaaa | exact qaac) | ((with_reducible first | refine zga ?_ | refine zgb ?_); rfl) | ((with_reducible first | refine zgd ?_ | refine zge ?_); (first | omega | (simp; done))) | (exact Co.refl _) | (exact CoL.refl _) | ((refine qaaj hJ (i + 1) ?_ ?_ ?_; (with_reducible refine qaag [] hm ?_ ?_ ?_ ?_) <;> (try simp only [zT, puth, Nat.reduceEqDiff, reduceIte, Nat.reduceAdd]))) | fail)
   exact ⟨by omega, hall.out⟩
  ·have hbad := qas3 hh.out h2 hi hbb
   rw [hF] at hbad
   rw [hbb] at hb
   replace hb := Lib.hid hb
   replace h2 := Lib.hid h2
   replace hbad := Lib.hid hbad
   clear hbb hx hn
   repeat' (first | (with_reducible first | refine zA ?_ | refine qaah ?_) | ((with_reducible refine qaad ?_); (try rw [hP]); simp -implicitDefEqProofs [*]) | ((with_reducible refine qaae ?_); (try simp -implicitDefEqProofs [*])) | ((with_reducible refine qaam ?_); (try simp only [qaau, qaaf, qaai])) | ((with_reducible refine qaab rfl (fun h => ?_) (fun h => ?_)) <;> have h' := h <;> (try simp at h') <;> (try subst h')) | ((with_reducible refine qaa9 (fun h => ?_) (fun h => ?_)) <;> have h' := h <;> (try simp at h') <;> (try subst h') <;> simp -implicitDefEqProofs [*]) | (refine qah2 hm (by decide) rfl rfl (qaeg _ _) rfl rfl (by rw [hP]; exact qab1) (by rw [hP]; exact qabr) rfl (CoL.refl _) hbad.out (fun σ => rfl)) | fail)
   all_goals (exfalso; have := hb.out; simp_all; omega)
 ·obtain rfl : i = ws.length := by omega
  have hend := qas2 hh.out h2
  rw [hF] at hend
  have t1 : (qac4 ws ws.length).tmod 8 = qac4 ws ws.length % 8 := Int.tmod_eq_emod_of_nonneg hsum.1
  have t2 : (qac4 ws ws.length).tdiv 8 = qac4 ws ws.length / 8 := Int.tdiv_eq_ediv_of_nonneg hsum.1
  generalize qac4 ws ws.length = S at hend t1 t2 hsum
  have t3 : IntKind.i64.wrap (S % 8) = S % 8 := IntWalk.i64_in _ ⟨by omega, by omega⟩
  have t4 : IntKind.i64.wrap (S / 8) = S / 8 := IntWalk.i64_in _ ⟨by omega, by omega⟩
  replace h2 := Lib.hid h2
  replace hend := Lib.hid hend
  cases k3 : (S % 8 != 0) <;> cases k4 : decide (256 < S)
  all_goals
   repeat' (first | (with_reducible refine zA ?_) | ((with_reducible refine qaad ?_); (try rw [hP]); simp -implicitDefEqProofs [*]) | ((with_reducible first | refine qaae ?_ | refine qaao ?_); (try simp -implicitDefEqProofs [*])) | ((with_reducible refine qaam ?_); (try simp only [qaau, qaaf, qaai])) | ((with_reducible refine qaab rfl (fun h => ?_) (fun h => ?_)) <;> have h' := h <;> (try simp at h') <;> (try subst h')) | (refine qah2 hm (by decide) rfl rfl (qaeg _ _) rfl rfl (by rw [hP]; exact qab1) (by rw [hP]; exact qabr) rfl (CoL.refl _) ?_ (fun σ => rfl)) | fail)
   rw [hend.out]
   simp at k3 k4
   simp [*]
   try omega
theorem rsize_s (ws : List Int) (q : Nat) : SCalls Try.prog 94 [.agg [nums .i64 ws]] [] q (qaj9 ws) [] := by
 refine qabs ?_ (fun _ => rfl) (fun _ => rfl) rfl q
 refine qaal (N := 58) Try.func94 rfl rfl (by kernel_rfl) qakr (by simp) (by repeat' (first | exact trivial | refine And.intro ?_ ?_ | rfl | decide | exact PureR.ren _)) (by repeat' (first | exact trivial | refine And.intro ?_ ?_ | rfl | decide | exact PureR.ren _)) ?_
 rintro X hP hN hm
 unfold c_rsize
 by_cases hh : ws.length = 0 ∨ 8 < ws.length
 ·rw [qang hh]
  have k0 : decide ((ws.length : Int) < 1) = decide (ws.length = 0) := decide_eq_decide.2 (by omega)
  cases k1 : decide (ws.length = 0) <;> rw [k1] at k0
  ·have k2 : decide (8 < (ws.length : Int)) = true := by have := of_decide_eq_false k1; rw [decide_eq_true_eq]; omega
   replace hh := Lib.hid hh
   clear k1
   repeat' (first | (with_reducible refine zA ?_) | ((with_reducible refine qaad ?_); (try rw [hP]); simp -implicitDefEqProofs [*]) | ((with_reducible refine qaam ?_); (try simp only [qaau, qaaf, qaai])) | ((with_reducible refine qaab rfl (fun h => ?_) (fun h => ?_)) <;> have h' := h <;> (try simp at h') <;> (try subst h')) | (refine qabb (rF_s _ _ _) ?_; simp -implicitDefEqProofs [*]) | (refine qah2 hm (by decide) rfl rfl (qaeg _ _) rfl rfl (by rw [hP]; exact qab1) (by rw [hP]; exact qabr) rfl (CoL.refl _) rfl (fun σ => rfl)) | fail)
  ·replace hh := Lib.hid hh
   clear k1
   repeat' (first | (with_reducible refine zA ?_) | ((with_reducible refine qaad ?_); (try rw [hP]); simp -implicitDefEqProofs [*]) | ((with_reducible refine qaam ?_); (try simp only [qaau, qaaf, qaai])) | ((with_reducible refine qaab rfl (fun h => ?_) (fun h => ?_)) <;> have h' := h <;> (try simp at h') <;> (try subst h')) | (refine qabb (rF_s _ _ _) ?_; simp -implicitDefEqProofs [*]) | (refine qah2 hm (by decide) rfl rfl (qaeg _ _) rfl rfl (by rw [hP]; exact qab1) (by rw [hP]; exact qabr) rfl (CoL.refl _) rfl (fun σ => rfl)) | fail)
 have k0 : decide ((ws.length : Int) < 1) = false := by rw [decide_eq_false_iff_not]; omega
 have k1 : decide (8 < (ws.length : Int)) = false := by rw [decide_eq_false_iff_not]; omega
 have hl : ws.length ≤ 8 := by omega
 replace hh := Lib.hid hh
 generalize hF : qaj9 ws = F
 repeat' (first | (with_reducible refine zA ?_) | ((with_reducible refine qaad ?_); (try rw [hP]); simp -implicitDefEqProofs [*]) | ((with_reducible refine qaae ?_); (try simp -implicitDefEqProofs [*])) | ((with_reducible refine qaab rfl (fun h => ?_) (fun h => ?_)) <;> have h' := h <;> (try simp at h') <;> (try subst h')) | fail)
 refine qaat (qabp (fun s (i : Nat) => s.turn [(4, .int .i64 (qac4 ws i)), (5, .int .i64 i)] []) (fun i => i ≤ ws.length ∧ ∀ j, j < i → wBad ws j = false) (fun i => ws.length - i) 0 ?_ ⟨by simp, by simp⟩ ?_)
 ·repeat' (first | ((with_reducible refine qaag [] hm ?_ ?_ ?_ ?_) <;> (try simp only [zT, puth, Nat.reduceEqDiff, reduceIte, Nat.reduceAdd])) | (with_reducible first | refine za ?_ ?_ | refine zb ?_ ?_ ?_ ?_) | (with_reducible first | exact qaaa | exact qaac) | ((with_reducible first | refine zga ?_ | refine zgb ?_); rfl) | ((with_reducible refine zgd ?_); (first | omega | (simp; done))) | (exact Co.refl _) | (exact CoL.refl _) | fail)
 rintro J hJ i ⟨h1, h2⟩
 have hsum := qafp hh.out h2 h1
 unfold qajc
 simp only [zT, puth, Nat.reduceEqDiff, reduceIte, Nat.reduceAdd] at h1 h2 ⊢
 rcases Nat.lt_or_ge i ws.length with hi | hi
 ·have wi : IntKind.i64.wrap ((i : Int) + 1) = (i : Int) + 1 := qaav (by omega) (by omega)
  have hx : el ws i = ws[i] := by unfold el; simp [hi]
  have hb : wBad ws i = (decide (ws[i] < 1) || decide (48 < ws[i])) := by unfold wBad; rw [hx, Bool.eq_iff_iff]; simp
  have hn : qac4 ws (i + 1) = qac4 ws i + ws[i] := by rw [← hx]; rfl
  generalize hxx : ws[i] = x at hb hn hx
  cases hbb : wBad ws i
  ·rw [hbb] at hb
   have hb' := Bool.or_eq_false_iff.1 hb.symm
   obtain ⟨v1, v2⟩ := hb'
   have hall : ∀ j, j < i + 1 → wBad ws j = false := fun j hj => by
    rcases Nat.lt_or_ge j i with q | q
    ·exact h2 j q
    ·obtain rfl : j = i := by omega
     exact hbb
   have hsx := qafp hh.out hall hi
   rw [hn] at hsx
   have ws1 : IntKind.i64.wrap (qac4 ws i + x) = qac4 ws (i + 1) := by rw [hn]; exact qaav (by omega) (by omega)
   replace hall := Lib.hid hall
   replace h2 := Lib.hid h2
   clear hb hbb hx hn
   repeat' (first | (with_reducible first | refine zA ?_ | refine qaah ?_) | ((with_reducible refine qaad ?_); (try rw [hP]); simp -implicitDefEqProofs [*]) | ((with_reducible refine qaae ?_); (try simp -implicitDefEqProofs [*])) | ((with_reducible refine qaab rfl (fun h => ?_) (fun h => ?_)) <;> have h' := h <;> (try simp at h') <;> (try subst h')) | (with_reducible first | refine za ?_ ?_ | refine zb ?_ ?_ ?_ ?_) | (with_reducible first | exact qaaa | exact qaac) | ((with_reducible first | refine zga ?_ | refine zgb ?_); rfl) | ((with_reducible first | refine zgd ?_ | refine zge ?_); (first | omega | (simp; done))) | (exact Co.refl _) | (exact CoL.refl _) | ((refine qaaj hJ (i + 1) ?_ ?_ ?_; (with_reducible refine qaag [] hm ?_ ?_ ?_ ?_) <;> (try simp only [zT, puth, Nat.reduceEqDiff, reduceIte, Nat.reduceAdd]))) | fail)
   exact ⟨by omega, hall.out⟩
  ·have hbad := qas3 hh.out h2 hi hbb
   rw [hF] at hbad
   rw [hbb] at hb
   replace hb := Lib.hid hb
   replace h2 := Lib.hid h2
   replace hbad := Lib.hid hbad
   clear hbb hx hn
   repeat' (first | (with_reducible first | refine zA ?_ | refine qaah ?_) | ((with_reducible refine qaad ?_); (try rw [hP]); simp -implicitDefEqProofs [*]) | ((with_reducible refine qaae ?_); (try simp -implicitDefEqProofs [*])) | ((with_reducible refine qaam ?_); (try simp only [qaau, qaaf, qaai])) | ((with_reducible refine qaab rfl (fun h => ?_) (fun h => ?_)) <;> have h' := h <;> (try simp at h') <;> (try subst h')) | ((with_reducible refine qaa9 (fun h => ?_) (fun h => ?_)) <;> have h' := h <;> (try simp at h') <;> (try subst h') <;> simp -implicitDefEqProofs [*]) | (refine qabb (rF_s _ _ _) ?_; simp -implicitDefEqProofs [*]) | (refine qah2 hm (by decide) rfl rfl (qaeg _ _) rfl rfl (by rw [hP]; exact qab1) (by rw [hP]; exact qabr) rfl (CoL.refl _) hbad.out (fun σ => rfl)) | fail)
   all_goals (exfalso; have := hb.out; simp_all; omega)
 ·obtain rfl : i = ws.length := by omega
  have hend := qas2 hh.out h2
  rw [hF] at hend
  have t1 : (qac4 ws ws.length).tmod 8 = qac4 ws ws.length % 8 := Int.tmod_eq_emod_of_nonneg hsum.1
  have t2 : (qac4 ws ws.length).tdiv 8 = qac4 ws ws.length / 8 := Int.tdiv_eq_ediv_of_nonneg hsum.1
  generalize qac4 ws ws.length = S at hend t1 t2 hsum
  have t3 : IntKind.i64.wrap (S % 8) = S % 8 := IntWalk.i64_in _ ⟨by omega, by omega⟩
  have t4 : IntKind.i64.wrap (S / 8) = S / 8 := IntWalk.i64_in _ ⟨by omega, by omega⟩
  replace h2 := Lib.hid h2
  replace hend := Lib.hid hend
  cases k3 : (S % 8 != 0) <;> cases k4 : decide (256 < S)
  all_goals
   repeat' (first | (with_reducible refine zA ?_) | ((with_reducible refine qaad ?_); (try rw [hP]); simp -implicitDefEqProofs [*]) | ((with_reducible first | refine qaae ?_ | refine qaao ?_); (try simp -implicitDefEqProofs [*])) | ((with_reducible refine qaam ?_); (try simp only [qaau, qaaf, qaai])) | ((with_reducible refine qaab rfl (fun h => ?_) (fun h => ?_)) <;> have h' := h <;> (try simp at h') <;> (try subst h')) | (refine qabb (rF_s _ _ _) ?_; simp -implicitDefEqProofs [*]) | (refine qah2 hm (by decide) rfl rfl (qaeg _ _) rfl rfl (by rw [hP]; exact qab1) (by rw [hP]; exact qabr) rfl (CoL.refl _) ?_ (fun σ => rfl)) | fail)
   rw [hend.out]
   simp at k3 k4
   simp [*]
   try omega
end Go.Proofs.Yticeaegpkpjjeaa
namespace Go.Proofs.Yticeaegpkpjjeaa
set_option linter.all false
open Go.RowKit
attribute [local simp] qabj qabi qaaw qaa2 qaax qaa1 qabg qabh qaap qab2 SOp.run SX.ev putd puts argS upds SOp.touch SSt.keep SSt.skip gets geth puth delh idOf SV.cells? setL qadu qadv sbin eq0 eq1 eqL qadr qacr qacs qaau qabk qaaf qabl qab3 qaai qaak FrzOk qaa5 qaaz qaa3 qaa4 qaaq qaay qabm qaa0 qaas qaa6 qaar frzS frzH frz frz1 frz0 SlotsM ObjsM ObjM rn ren ren1 ren0 qab6 qacp qacu qab5 qabn qacv qact CoL qaa7 qab7 dels adds idsH qabt
attribute [local simp] qaeh refc qaee qaea qacl opc actc tabc qaef qacc nums jc
theorem qabv {f g : Int × Int} (h : (orF f g).1 = 0) : f.1 = 0 ∧ g.1 = 0 := by
 unfold orF at h
 by_cases h1 : f.1 = 0
 ·by_cases h2 : g.1 = 0
  ·exact ⟨h1, h2⟩
  ·simp [h1, h2] at h
 ·simp [h1] at h
theorem qaew {α : Type} {f : α → Int} {b : Int} : ∀ {l : List α} {i : Nat}, (rowF (fun _ x => f x) b i l).1 = 0 → ∀ x ∈ l, f x = 0
 | [], _, _, x, hx => by cases hx
 | y :: l, i, h, x, hx => by
  unfold rowF at h
  by_cases h1 : f y = 0
  ·rw [if_neg (by simpa using h1)] at h
   rcases List.mem_cons.1 hx with e | e
   ·rw [e]; exact h1
   ·exact qaew h x e
  ·rw [if_pos h1] at h; exact absurd h h1
theorem qahr {α : Type} {f : Nat → α → Int} {b : Int} : ∀ {l : List α} {i : Nat}, (rowF f b i l).1 = 0 → rowF f b i l = (0, 0)
 | [], _, _ => rfl
 | y :: l, i, h => by
  unfold rowF at h ⊢
  by_cases h1 : f i y ≠ 0
  ·rw [if_pos h1] at h; exact absurd h h1
  ·rw [if_neg h1] at h ⊢; exact qahr h
theorem qa25 {f g : Int × Int} (h : (orF f g).1 = 0) : orF f g = f := by
 obtain ⟨h1, h2⟩ := qabv h
 unfold orF; simp [h1, h2]
theorem qazg {f g : Int × Int} (h : f.1 = 0 → f = (0, 0)) : orF (0, 0) (orF f g) = orF f g := by
 unfold orF
 by_cases h1 : f.1 = 0
 ·by_cases h2 : g.1 = 0 <;> simp [h1, h2, h h1]
 ·simp [h1]
theorem qaom {p : PlanD} (h : (qaf7 p).1 = 0) : qaf7 p = (0, 0) := by
 unfold qaf7 at h ⊢
 rw [qa25 h]
 have := (qabv h).1
 unfold qasm at this ⊢
 by_cases hc : decide (6 < p.heads.length) = true
 ·rw [if_pos hc] at this; exact absurd this (by decide)
 ·rw [if_neg hc]
theorem qaog (p : PlanD) : orF (0, 0) (qafs p) = qafs p := by
 unfold qafs; exact qazg qaom
theorem el_in {l : List Int} {k : Nat} (h : k < l.length) : el l k ∈ l := by
 unfold el; simp [h]
theorem pick_in {l : List Int} {f : Int} (h : qasl l f ≠ 0) : qasl l f ∈ l := by
 unfold qasl at h ⊢
 by_cases h1 : f < 0 ∨ (l.length : Int) ≤ f
 ·rw [if_pos h1] at h; exact absurd rfl h
 ·rw [if_neg h1] at h ⊢; exact el_in (by omega)
theorem qa2b {p : PlanD} (h : (qaf7 p).1 = 0) : ∀ x ∈ p.heads, qag0 x.w = 0 := fun x hx => qaew (qabv h).2 x hx
theorem qa2n {l : List Int} (h : ∀ x ∈ l, 1 ≤ x ∧ x ≤ 48) (f : Int) : 0 ≤ qasl l f ∧ qasl l f ≤ 48 := by
 by_cases h0 : qasl l f = 0
 ·omega
 ·have := h _ (pick_in h0); omega
theorem qas4 {ws : List Int} (h : qag0 ws = 0) : ∀ x ∈ ws, 1 ≤ x ∧ x ≤ 48 := fun x hx => by
 obtain ⟨i, hi, rfl⟩ := List.getElem_of_mem hx
 have := wOk ((qaet h).2.2.1 i hi)
 have e : el ws i = ws[i] := by unfold el; simp [hi]
 rw [e] at this; exact this
theorem qa1u {l : List Int} (h : ∀ x ∈ l, wOut x = false) : ∀ x ∈ l, 1 ≤ x ∧ x ≤ 48 := fun x hx => by
 have := h x hx
 unfold wOut at this; rw [Bool.or_eq_false_iff, decide_eq_false_iff_not, decide_eq_false_iff_not] at this; omega
theorem pw_of {p : PlanD} (h1 : (qaf7 p).1 = 0) (h2 : (qa3i p).1 = 0) : PW p := fun r => by
 have hm : ∀ x ∈ p.meta_, 1 ≤ x ∧ x ≤ 48 := qa1u fun x hx => by
  have := qaew (qabv h2).2 x hx
  cases e : wOut x
  ·rfl
  ·rw [e] at this; exact absurd this (by decide)
 unfold qabo
 refine qa2n ?_ _
 unfold qahq
 split
 ·simp
 split
 ·exact hm
 split
 ·simp
 split
 ·rename_i hh
  unfold qae2
  rw [List.getElem?_eq_getElem (by omega : r.h.toNat < p.heads.length)]
  exact qas4 (qa2b h1 _ (List.getElem_mem _))
 ·simp
theorem aw_of {p : PlanD} (h : (qayo p).1 = 0) : AW p.acts := fun a ha w hw => by
 have := qaew (qabv h).2 a ha
 unfold actF at this
 by_cases h1 : 3 < a.w.length ∨ 5 < a.ops.length
 ·rw [if_pos h1] at this; exact absurd this (by decide)
 ·rw [if_neg h1] at this
  by_cases h2 : a.w.any wOut = true
  ·rw [if_pos h2] at this; exact absurd this (by decide)
  ·have h3 : ∀ x ∈ a.w, wOut x = false := fun x hx => by
    cases e : wOut x
    ·rfl
    ·exact absurd (List.any_eq_true.2 ⟨x, hx, e⟩) h2
   have := qa1u h3 w hw; omega
theorem qa15 (a b c at_ : Int) : orF (a, b) (c, at_) = qab4 a b (c != 0) c at_ := by
 rw [← qaig]; unfold qada
 congr 1; rw [Bool.eq_iff_iff]; simp
theorem qak5 (p : PlanD) (hp : PW p) (hs : SmallP p) (hk : qaid p) (a b : Int) (id q : Nat) (h : id < q) : SCalls Try.prog 84 [.ptr id 0] [(id, .cells 179 (jc p a b))] q (.tup []) [(id, .cells 179 (jc p (orF (a, b) (qaed p)).1 (orF (a, b) (qaed p)).2))] :=
 qacq (qazy p hp hs hk a b) (fun _ => rfl) (fun _ => rfl) (fun _ => rfl) rfl (fun _ => rfl) rfl id q h
theorem qauj (p : PlanD) (hp : PW p) (hs : SmallP p) (a b : Int) (id q : Nat) (h : id < q) : SCalls Try.prog 85 [.ptr id 0] [(id, .cells 179 (jc p a b))] q (.tup []) [(id, .cells 179 (jc p (orF (a, b) (qayo p)).1 (orF (a, b) (qayo p)).2))] :=
 qacq (jacts_s p hp hs a b) (fun _ => rfl) (fun _ => rfl) (fun _ => rfl) rfl (fun _ => rfl) rfl id q h
theorem qaui (p : PlanD) (hs : SmallP p) (a b : Int) (ha : a = 0 → AW p.acts) (id q : Nat) (h : id < q) : SCalls Try.prog 86 [.ptr id 0] [(id, .cells 179 (jc p a b))] q (.tup []) [(id, .cells 179 (jc p (orF (a, b) (qayr p)).1 (orF (a, b) (qayr p)).2))] :=
 qacq (jtabs_s p hs a b ha) (fun _ => rfl) (fun _ => rfl) (fun _ => rfl) rfl (fun _ => rfl) rfl id q h
theorem qao0 (p : PlanD) (hs : SmallP p) (a b : Int) (id q : Nat) (h : id < q) : SCalls Try.prog 87 [.ptr id 0] [(id, .cells 179 (jc p a b))] q (.tup []) [(id, .cells 179 (jc p (orF (a, b) (qagu p)).1 (orF (a, b) (qagu p)).2))] :=
 qacq (qa3q p hs a b) (fun _ => rfl) (fun _ => rfl) (fun _ => rfl) rfl (fun _ => rfl) rfl id q h
def qahh : SCode := (.seq (.reg false qahi [1, 2, 3]) (.seq (.seq (.reg false qagk [1, 2, 3, 59, 60, 61]) (.block 2 (.loop qafe))) (.seq (.seq (.reg false qagj [1, 2, 3, 82]) (.cond (.t 82) (.seq (.reg false qagi [2]) .ret) .skip)) (.seq (.reg false qaer [1, 2, 3]) (.seq (.reg false qaeq [1, 2, 3]) (.seq (.reg false qaep [1, 2, 3]) (.seq (.reg false qaeo [1, 2, 3]) (.seq (.reg false qaen [1, 2, 3]) (.seq (.seq (.reg false qaem [1, 2, 3, 9]) (.block 4 (.loop qad5))) (.seq (.reg false qadp [2]) .ret))))))))))
def qahg : SCode := (.seq (.reg false qaer [1, 2, 3]) (.seq (.reg false qaeq [1, 2, 3]) (.seq (.reg false qaep [1, 2, 3]) (.seq (.reg false qaeo [1, 2, 3]) (.seq (.reg false qaen [1, 2, 3]) (.seq (.seq (.reg false qaem [1, 2, 3, 9]) (.block 4 (.loop qad5))) (.seq (.reg false qadp [2]) .ret)))))))
def qahf : SCode := (.seq (.reg false qadp [2]) .ret)
set_option maxHeartbeats 8000000 in
theorem qa22 (p : PlanD) (hs : SmallP p) (hk : qaid p) (q : Nat) : SCalls Try.prog 44 [.agg (qacc p)] [] q (.agg [.int .i64 (qafs p).1, .int .i64 (qafs p).2]) [] := by
 refine qabs ?_ (fun _ => rfl) (fun _ => rfl) rfl q
 refine qaal (N := 143) Try.func44 rfl rfl (by kernel_rfl) qai2 (by simp) (by repeat' (first | exact trivial | refine And.intro ?_ ?_ | rfl | decide | exact PureR.ren _)) (by repeat' (first | exact trivial | refine And.intro ?_ ?_ | rfl | decide | exact PureR.ren _)) ?_
 rintro X hP hN hm
 rw [← qaog]
 have hF1 : orF (0, 0) (qaf7 p) = orF (qab4 0 0 (decide (6 < (p.heads.length : Int))) 2 (-1)) (rowF (fun _ h => qag0 h.w) 1000 0 p.heads) := by
  unfold qaf7; rw [qado]; congr 3; exact propext (by omega)
 have hF0 : orF (0, 0) (qafs p) = orF (orF (orF (0, 0) (qaf7 p)) (qa3i p)) (orF (qaed p) (orF (qayo p) (orF (qayr p) (orF (qagu p) (outsF p))))) := by
  unfold qafs; simp only [qadm]
 have hPW : (orF (orF (0, 0) (qaf7 p)) (qa3i p)).1 = 0 → PW p := fun h => pw_of (qabv (qabv h).1).2 (qabv h).2
 generalize orF (0, 0) (qafs p) = F at hF0
 obtain ⟨⟨e1, g1⟩, hE1⟩ : ∃ z, orF (0, 0) (qaf7 p) = z := ⟨_, rfl⟩
 rw [hE1] at hF0 hPW hF1
 have hF2 : orF (e1, g1) (qa3i p) = orF (qab4 e1 g1 (decide (4 < (p.meta_.length : Int))) 2 (-2)) (rowF (fun _ w => if wOut w then 6 else 0) 2000 0 p.meta_) := by
  unfold qa3i; rw [qado]; congr 3; exact propext (by omega)
 obtain ⟨⟨e2, g2⟩, hE2⟩ : ∃ z, orF (e1, g1) (qa3i p) = z := ⟨_, rfl⟩
 rw [hE2] at hF0 hPW hF2
 have hl1 := hs.heads
 have hl2 := hs.metas
 have hl3 := hs.outs
 clear hE1 hE2
 replace hF0 := Lib.hid hF0
 replace hPW := Lib.hid hPW
 replace hF1 := Lib.hid hF1
 replace hF2 := Lib.hid hF2
 have rest4 : ∀ e g, (e, g) = F → SWp X qahf (QFun X [ResultVar.cell 2 35] 0 (.agg [.int .i64 F.1, .int .i64 F.2]) []) ⟨[(1, .ptr 0 0), (2, .ptr 1 0), (3, .ptr 4 0)], [(0, .cells 29 (qacc p)), (1, .cells 35 [.int .i64 0, .int .i64 0]), (4, .cells 179 (jc p e g))], 5⟩ := fun e g he => by
  unfold qahf
  repeat' (first | (with_reducible refine zA ?_) | ((with_reducible refine qaad ?_); (try rw [hP]); simp -implicitDefEqProofs [*]) | ((with_reducible refine qaam ?_); (try simp only [qaau, qaaf, qaai])) | (refine qa2g hm rfl rfl (by rw [hP]; exact qab1) (by rw [hP]; exact qabr) rfl (CoL.refl _) (by rw [← he]) (fun σ => rfl)) | fail)
 have rest3 : e2 = 0 → SWp X qahg (QFun X [ResultVar.cell 2 35] 0 (.agg [.int .i64 F.1, .int .i64 F.2]) []) ⟨[(1, .ptr 0 0), (2, .ptr 1 0), (3, .ptr 4 0)], [(0, .cells 29 (qacc p)), (1, .cells 35 [.int .i64 0, .int .i64 0]), (4, .cells 179 (jc p e2 g2))], 5⟩ := fun he => by
  have hpw := hPW.out he
  subst he
  have hF := hF0.out
  obtain ⟨⟨e3, g3⟩, hE3⟩ : ∃ z, orF (0, g2) (qaed p) = z := ⟨_, rfl⟩
  obtain ⟨⟨e4, g4⟩, hE4⟩ : ∃ z, orF (e3, g3) (qayo p) = z := ⟨_, rfl⟩
  obtain ⟨⟨e5, g5⟩, hE5⟩ : ∃ z, orF (e4, g4) (qayr p) = z := ⟨_, rfl⟩
  obtain ⟨⟨e6, g6⟩, hE6⟩ : ∃ z, orF (e5, g5) (qagu p) = z := ⟨_, rfl⟩
  have c3 := fun id q h => qak5 p hpw hs hk 0 g2 id q h
  have c4 := fun id q h => qauj p hpw hs e3 g3 id q h
  have c5 := fun id q h => qaui p hs e4 g4 (fun hz => aw_of (qabv (f := (e3, g3)) (by rw [hE4]; exact hz)).2) id q h
  have c6 := fun id q h => qao0 p hs e5 g5 id q h
  rw [hE3] at c3
  rw [hE4] at c4
  rw [hE5] at c5
  rw [hE6] at c6
  rw [← qadm, hE3, ← qadm, hE4, ← qadm, hE5, ← qadm, hE6] at hF
  have hF7 : orF (e6, g6) (outsF p) = orF (qab4 e6 g6 (decide (6 < (p.out.length : Int))) 2 (-7)) (rowF (fun i o => outF p i o) 7000 0 p.out) := by
   unfold outsF; rw [qado]; congr 3; exact propext (by omega)
  rw [hF7] at hF
  clear hE3 hE4 hE5 hE6 hF7
  replace hF := Lib.hid hF
  replace hpw := Lib.hid hpw
  replace rest4 := Lib.hid rest4
  replace c3 := Lib.hid c3
  replace c4 := Lib.hid c4
  replace c5 := Lib.hid c5
  replace c6 := Lib.hid c6
  unfold qahg
  repeat' (first | (with_reducible refine zA ?_) | ((with_reducible refine qaad ?_); (try rw [hP]); simp -implicitDefEqProofs [*]) | ((first | refine qabc (qaan p _ _ _ _ _ _ _ (by simp)) ⟨rfl, trivial⟩ ⟨rfl, trivial⟩ ?_ | refine qabc (c3.out _ _ (by simp)) ⟨rfl, trivial⟩ ⟨rfl, trivial⟩ ?_ | refine qabc (c4.out _ _ (by simp)) ⟨rfl, trivial⟩ ⟨rfl, trivial⟩ ?_ | refine qabc (c5.out _ _ (by simp)) ⟨rfl, trivial⟩ ⟨rfl, trivial⟩ ?_ | refine qabc (c6.out _ _ (by simp)) ⟨rfl, trivial⟩ ⟨rfl, trivial⟩ ?_); simp -implicitDefEqProofs [*]) | fail)
  refine qaat (qabp (fun s (x : Nat × Int × Int) => s.turn [(9, .int .i64 x.1)] [(4, .cells 179 (jc p x.2.1 x.2.2))]) (fun x => x.1 ≤ p.out.length ∧ F = orF (x.2.1, x.2.2) (rowF (fun i o => outF p i o) 7000 x.1 (p.out.drop x.1))) (fun x => p.out.length - x.1) (0, _, _) ?_ ⟨by simp, hF.out⟩ ?_)
  ·repeat' (first | ((with_reducible refine qaag [] hm ?_ ?_ ?_ ?_) <;> (try simp only [zT, puth, Nat.reduceEqDiff, reduceIte, Nat.reduceAdd])) | (with_reducible first | refine za ?_ ?_ | refine zb ?_ ?_ ?_ ?_) | (with_reducible first | exact qaaa | exact qaac) | ((with_reducible first | refine zga ?_ | refine zgb ?_); rfl) | ((with_reducible refine zgd ?_); (first | omega | (simp; done))) | (exact Co.refl _) | (exact CoL.refl _) | fail)
  rintro J hJ ⟨i, e, g⟩ ⟨h1, h2⟩
  unfold qad5
  simp only [zT, puth, Nat.reduceEqDiff, reduceIte, Nat.reduceAdd] at h1 h2 ⊢
  rcases Nat.lt_or_ge i p.out.length with hi | hi
  ·rw [qadb _ _ hi] at h2
   have hct := fun q => qagc (p.out.take i) p.out[i] (by rw [List.length_take]; omega) q
   simp only [nums, List.map_take] at hct
   generalize hxx : p.out[i] = x at h2 hct
   by_cases he : e = 0
   ·subst he
    have hA : orF (0, g) (outF p i x, 7000 + (i : Int)) = qab4 (qab4 0 g (!qadt p x) 1 (7000 + (i : Int))).1 (qab4 0 g (!qadt p x) 1 (7000 + (i : Int))).2 ((p.out.take i).contains x) 7 (7000 + (i : Int)) := by
     have : outF p i x = if (!qadt p x) = true then 1 else if (p.out.take i).contains x = true then 7 else 0 := by
      unfold outF; cases qadt p x <;> rfl
     rw [this, qaci _ _ _ _ _ _ (by decide)]
     refine (qaci _ _ _ _ _ _ (by decide)).trans ?_
     exact qacd _ rfl
    rw [qadw, hA] at h2
    generalize (p.out.take i).contains x = C at h2 hct
    have wi : IntKind.i64.wrap ((i : Int) + 1) = (i : Int) + 1 := qaav (by omega) (by omega)
    have wa : IntKind.i64.wrap (7000 + (i : Int)) = 7000 + (i : Int) := qaav (by omega) (by omega)
    have hi' := Nat.le_of_lt hi
    clear hA
    replace h2 := Lib.hid h2
    replace hct := Lib.hid hct
    repeat' (first | (with_reducible first | refine zA ?_ | refine qaah ?_ | refine zK ?_) | ((with_reducible first | refine qaad ?_ | refine qaa8 (by rw [hP]; exact qadn) ?_); (try rw [hP]); simp -implicitDefEqProofs [*]) | ((with_reducible refine qaae ?_); (try simp -implicitDefEqProofs [*])) | ((with_reducible refine qaab rfl (fun h => ?_) (fun h => ?_)) <;> have h' := h <;> (try simp at h') <;> (try subst h')) | ((first | refine qabc (qaan p _ _ _ _ _ _ _ (by simp)) ⟨rfl, trivial⟩ ⟨rfl, trivial⟩ ?_ | refine qabc (qagd p _ _ _ _ _ _ (by simp)) ⟨rfl, trivial⟩ ⟨rfl, trivial⟩ ?_ | refine qabb (hct.out _) ?_); simp -implicitDefEqProofs [*]) | (with_reducible first | refine za ?_ ?_ | refine zb ?_ ?_ ?_ ?_) | (with_reducible first | exact qaaa | exact qaac) | ((with_reducible first | refine zga ?_ | refine zgb ?_); rfl) | ((with_reducible first | refine zgd ?_ | refine zge ?_); (first | omega | (simp; done))) | (exact Co.refl _) | (exact CoL.refl _) | ((refine qaaj hJ (i + 1, ?_, ?_) ?_ ?_ ?_; rotate_left 2; (with_reducible refine qaag [] hm ?_ ?_ ?_ ?_) <;> (try simp only [zT, puth, Nat.reduceEqDiff, reduceIte, Nat.reduceAdd]))) | fail)
    all_goals (try dsimp only)
    all_goals (exact ⟨by omega, h2.out⟩)
   ·rw [qafg he] at h2
    have r4 := rest4.out e g h2.symm
    have ke : (e == 0) = false := by simpa using he
    replace r4 := Lib.hid r4
    clear h2
    repeat' (first | ((refine qacy ?_ r4.out)) | (with_reducible refine zA ?_) | ((with_reducible refine qaad ?_); (try rw [hP]); simp -implicitDefEqProofs [*]) | ((with_reducible refine qaao ?_); (try simp -implicitDefEqProofs [*])) | ((with_reducible refine qaab rfl (fun h => ?_) (fun h => ?_)) <;> have h' := h <;> (try simp at h') <;> (try subst h')) | ((with_reducible refine qaag [] hm ?_ ?_ ?_ ?_) <;> (try simp only [zT, puth, Nat.reduceEqDiff, reduceIte, Nat.reduceAdd])) | (with_reducible first | refine za ?_ ?_ | refine zb ?_ ?_ ?_ ?_) | (with_reducible first | exact qaaa | exact qaac) | ((with_reducible first | refine zga ?_ | refine zgb ?_); rfl) | ((with_reducible refine zgd ?_); (first | omega | (simp; done))) | (exact Co.refl _) | (exact CoL.refl _) | fail)
  ·obtain rfl : i = p.out.length := by omega
   rw [List.drop_length, qacd _ rfl] at h2
   have r4 := rest4.out e g h2.symm
   replace r4 := Lib.hid r4
   clear h2
   repeat' (first | ((refine qacy ?_ r4.out)) | (with_reducible refine zA ?_) | ((with_reducible refine qaad ?_); (try rw [hP]); simp -implicitDefEqProofs [*]) | ((with_reducible refine qaao ?_); (try simp -implicitDefEqProofs [*])) | ((with_reducible refine qaab rfl (fun h => ?_) (fun h => ?_)) <;> have h' := h <;> (try simp at h') <;> (try subst h')) | ((with_reducible refine qaag [] hm ?_ ?_ ?_ ?_) <;> (try simp only [zT, puth, Nat.reduceEqDiff, reduceIte, Nat.reduceAdd])) | (with_reducible first | refine za ?_ ?_ | refine zb ?_ ?_ ?_ ?_) | (with_reducible first | exact qaaa | exact qaac) | ((with_reducible first | refine zga ?_ | refine zgb ?_); rfl) | ((with_reducible refine zgd ?_); (first | omega | (simp; done))) | (exact Co.refl _) | (exact CoL.refl _) | fail)
 have rest1 : SWp X qahh (QFun X [ResultVar.cell 2 35] 0 (.agg [.int .i64 F.1, .int .i64 F.2]) []) ⟨[(1, .ptr 0 0), (2, .ptr 1 0), (3, .ptr 4 0)], [(0, .cells 29 (qacc p)), (1, .cells 35 [.int .i64 0, .int .i64 0]), (4, .cells 179 (jc p e1 g1))], 5⟩ := by
  unfold qahh
  replace rest4 := Lib.hid rest4
  replace rest3 := Lib.hid rest3
  repeat' (first | (with_reducible refine zA ?_) | ((with_reducible refine qaad ?_); (try rw [hP]); simp -implicitDefEqProofs [*]) | (refine qabc (qaan p _ _ _ _ _ _ _ (by simp)) ⟨rfl, trivial⟩ ⟨rfl, trivial⟩ ?_; simp -implicitDefEqProofs [*]) | fail)
  refine qaat (qabp (fun s (x : Nat × Int × Int) => s.turn [(61, .int .i64 x.1)] [(4, .cells 179 (jc p x.2.1 x.2.2))]) (fun x => x.1 ≤ p.meta_.length ∧ (e2, g2) = orF (x.2.1, x.2.2) (rowF (fun _ w => if wOut w then 6 else 0) 2000 x.1 (p.meta_.drop x.1))) (fun x => p.meta_.length - x.1) (0, _, _) ?_ ⟨by simp, hF2.out⟩ ?_)
  ·repeat' (first | ((with_reducible refine qaag [] hm ?_ ?_ ?_ ?_) <;> (try simp only [zT, puth, Nat.reduceEqDiff, reduceIte, Nat.reduceAdd])) | (with_reducible first | refine za ?_ ?_ | refine zb ?_ ?_ ?_ ?_) | (with_reducible first | exact qaaa | exact qaac) | ((with_reducible first | refine zga ?_ | refine zgb ?_); rfl) | ((with_reducible refine zgd ?_); (first | omega | (simp; done))) | (exact Co.refl _) | (exact CoL.refl _) | fail)
  rintro J hJ ⟨i, e, g⟩ ⟨h1, h2⟩
  unfold qafe
  simp only [zT, puth, Nat.reduceEqDiff, reduceIte, Nat.reduceAdd] at h1 h2 ⊢
  rcases Nat.lt_or_ge i p.meta_.length with hi | hi
  ·rw [qadb _ _ hi] at h2
   generalize hxx : p.meta_[i] = x at h2
   rw [qadw, qa15 e g] at h2
   have wi : IntKind.i64.wrap ((i : Int) + 1) = (i : Int) + 1 := qaav (by omega) (by omega)
   have wa : IntKind.i64.wrap (2000 + (i : Int)) = 2000 + (i : Int) := qaav (by omega) (by omega)
   have hfx : ∀ b, wOut x = b → qab4 e g ((if wOut x = true then (6 : Int) else 0) != 0) (if wOut x = true then (6 : Int) else 0) (2000 + (i : Int)) = qab4 e g b 6 (2000 + (i : Int)) := fun b hb => by
    rw [hb]; cases b <;> simp [qab4]
   replace h2 := Lib.hid h2
   replace hfx := Lib.hid hfx
   repeat' (first | (with_reducible first | refine zA ?_ | refine qaah ?_) | ((with_reducible refine qaad ?_); (try rw [hP]); simp -implicitDefEqProofs [*]) | ((with_reducible refine qaae ?_); (try simp -implicitDefEqProofs [*])) | ((with_reducible refine qaab rfl (fun h => ?_) (fun h => ?_)) <;> have h' := h <;> (try simp at h') <;> (try subst h')) | ((with_reducible refine qaa9 (fun h => ?_) (fun h => ?_)) <;> have h' := h <;> (try simp at h') <;> (try subst h') <;> simp -implicitDefEqProofs [*]) | (refine qabc (qaan p _ _ _ _ _ _ _ (by simp)) ⟨rfl, trivial⟩ ⟨rfl, trivial⟩ ?_; simp -implicitDefEqProofs [*]) | (with_reducible first | refine za ?_ ?_ | refine zb ?_ ?_ ?_ ?_) | (with_reducible first | exact qaaa | exact qaac) | ((with_reducible first | refine zga ?_ | refine zgb ?_); rfl) | ((with_reducible first | refine zgd ?_ | refine zge ?_); (first | omega | (simp; done))) | (exact Co.refl _) | (exact CoL.refl _) | ((refine qaaj hJ (i + 1, ?_, ?_) ?_ ?_ ?_; rotate_left 2; (with_reducible refine qaag [] hm ?_ ?_ ?_ ?_) <;> (try simp only [zT, puth, Nat.reduceEqDiff, reduceIte, Nat.reduceAdd]))) | fail)
   all_goals (try dsimp only)
   all_goals (refine ⟨by omega, ?_⟩; rw [h2.out, hfx.out _ rfl]; congr 2; simp [wOut, *])
  ·obtain rfl : i = p.meta_.length := by omega
   rw [List.drop_length, qacd _ rfl] at h2
   have q1 : e = e2 := (Prod.mk.inj h2).1.symm
   have q2 : g = g2 := (Prod.mk.inj h2).2.symm
   subst q1 q2
   clear h2
   replace hF2 := Lib.hid hF2
   by_cases he : e = 0
   ·have r3 := rest3.out he
    subst he
    replace r3 := Lib.hid r3
    repeat' (first | ((refine qacy ?_ r3.out)) | (with_reducible refine zA ?_) | ((with_reducible refine qaad ?_); (try rw [hP]); simp -implicitDefEqProofs [*]) | ((with_reducible first | refine qaae ?_ | refine qaao ?_); (try simp -implicitDefEqProofs [*])) | ((with_reducible refine qaab rfl (fun h => ?_) (fun h => ?_)) <;> have h' := h <;> (try simp at h') <;> (try subst h')) | ((with_reducible refine qaag [] hm ?_ ?_ ?_ ?_) <;> (try simp only [zT, puth, Nat.reduceEqDiff, reduceIte, Nat.reduceAdd])) | (with_reducible first | refine za ?_ ?_ | refine zb ?_ ?_ ?_ ?_) | (with_reducible first | exact qaaa | exact qaac) | ((with_reducible first | refine zga ?_ | refine zgb ?_); rfl) | ((with_reducible refine zgd ?_); (first | omega | (simp; done))) | (exact Co.refl _) | (exact CoL.refl _) | fail)
   ·have ke : (e != 0) = true := by simpa using he
    have hfin : F = (e, g) := by rw [hF0.out]; exact qafg he _
    replace hfin := Lib.hid hfin
    repeat' (first | (with_reducible refine zA ?_) | ((with_reducible refine qaad ?_); (try rw [hP]); simp -implicitDefEqProofs [*]) | ((with_reducible refine qaao ?_); (try simp -implicitDefEqProofs [*])) | ((with_reducible refine qaam ?_); (try simp only [qaau, qaaf, qaai])) | ((with_reducible refine qaab rfl (fun h => ?_) (fun h => ?_)) <;> have h' := h <;> (try simp at h') <;> (try subst h')) | (refine qa2g hm rfl rfl (by rw [hP]; exact qab1) (by rw [hP]; exact qabr) rfl (CoL.refl _) (by rw [hfin.out]) (fun σ => rfl)) | fail)
 unfold c_pcheck
 replace rest1 := Lib.hid rest1
 clear rest3 rest4
 repeat' (first | (with_reducible refine zA ?_) | ((with_reducible refine qaad ?_); (try rw [hP]); simp -implicitDefEqProofs [*]) | (refine qabc (qaan p _ _ _ _ _ _ _ (by simp)) ⟨rfl, trivial⟩ ⟨rfl, trivial⟩ ?_; simp -implicitDefEqProofs [*]) | fail)
 refine qaat (qabp (fun s (x : Nat × Int × Int) => s.turn [(4, .int .i64 x.1)] [(4, .cells 179 (jc p x.2.1 x.2.2))]) (fun x => x.1 ≤ p.heads.length ∧ (e1, g1) = orF (x.2.1, x.2.2) (rowF (fun _ h => qag0 h.w) 1000 x.1 (p.heads.drop x.1))) (fun x => p.heads.length - x.1) (0, _, _) ?_ ⟨by simp, hF1.out⟩ ?_)
 ·repeat' (first | ((with_reducible refine qaag [] hm ?_ ?_ ?_ ?_) <;> (try simp only [zT, puth, Nat.reduceEqDiff, reduceIte, Nat.reduceAdd])) | (with_reducible first | refine za ?_ ?_ | refine zb ?_ ?_ ?_ ?_) | (with_reducible first | exact qaaa | exact qaac) | ((with_reducible first | refine zga ?_ | refine zgb ?_); rfl) | ((with_reducible refine zgd ?_); (first | omega | (simp; done))) | (exact Co.refl _) | (exact CoL.refl _) | fail)
 rintro J hJ ⟨i, e, g⟩ ⟨h1, h2⟩
 unfold qahj
 simp only [zT, puth, Nat.reduceEqDiff, reduceIte, Nat.reduceAdd] at h1 h2 ⊢
 have stop : ∀ h : (e1, g1) = (e, g), e = e1 ∧ g = g1 := fun h => ⟨(Prod.mk.inj h).1.symm, (Prod.mk.inj h).2.symm⟩
 rcases Nat.lt_or_ge i p.heads.length with hi | hi
 ·rw [qadb _ _ hi] at h2
  generalize hxx : p.heads[i] = x at h2
  by_cases he : e = 0
  ·subst he
   rw [qadw, qa15 0 g (qag0 x.w)] at h2
   have wi : IntKind.i64.wrap ((i : Int) + 1) = (i : Int) + 1 := qaav (by omega) (by omega)
   have wa : IntKind.i64.wrap (1000 + (i : Int)) = 1000 + (i : Int) := qaav (by omega) (by omega)
   replace h2 := Lib.hid h2
   clear stop
   repeat' (first | (with_reducible first | refine zA ?_ | refine qaah ?_) | ((with_reducible refine qaad ?_); (try rw [hP]); simp -implicitDefEqProofs [qaj9, *]) | ((with_reducible refine qaae ?_); (try simp -implicitDefEqProofs [qaj9, *])) | ((with_reducible refine qaab rfl (fun h => ?_) (fun h => ?_)) <;> have h' := h <;> (try simp at h') <;> (try subst h')) | ((first | refine qabc (qaan p _ _ _ _ _ _ _ (by simp)) ⟨rfl, trivial⟩ ⟨rfl, trivial⟩ ?_ | refine qabb (qa14 x.w _) ?_); simp -implicitDefEqProofs [qaj9, *]) | (with_reducible first | refine za ?_ ?_ | refine zb ?_ ?_ ?_ ?_) | (with_reducible first | exact qaaa | exact qaac) | ((with_reducible first | refine zga ?_ | refine zgb ?_); rfl) | ((with_reducible first | refine zgd ?_ | refine zge ?_); (first | omega | (simp; done))) | (exact Co.refl _) | (exact CoL.refl _) | ((refine qaaj hJ (i + 1, ?_, ?_) ?_ ?_ ?_; rotate_left 2; (with_reducible refine qaag [] hm ?_ ?_ ?_ ?_) <;> (try simp only [zT, puth, Nat.reduceEqDiff, reduceIte, Nat.reduceAdd]))) | fail)
   all_goals (try dsimp only)
   all_goals (exact ⟨by omega, h2.out⟩)
  ·rw [qafg he] at h2
   obtain ⟨rfl, rfl⟩ := stop h2
   have ke : (e == 0) = false := by simpa using he
   clear h2 stop
   repeat' (first | ((refine qacy ?_ rest1.out)) | (with_reducible refine zA ?_) | ((with_reducible refine qaad ?_); (try rw [hP]); simp -implicitDefEqProofs [*]) | ((with_reducible refine qaao ?_); (try simp -implicitDefEqProofs [*])) | ((with_reducible refine qaab rfl (fun h => ?_) (fun h => ?_)) <;> have h' := h <;> (try simp at h') <;> (try subst h')) | ((with_reducible refine qaag [] hm ?_ ?_ ?_ ?_) <;> (try simp only [zT, puth, Nat.reduceEqDiff, reduceIte, Nat.reduceAdd])) | (with_reducible first | refine za ?_ ?_ | refine zb ?_ ?_ ?_ ?_) | (with_reducible first | exact qaaa | exact qaac) | ((with_reducible first | refine zga ?_ | refine zgb ?_); rfl) | ((with_reducible refine zgd ?_); (first | omega | (simp; done))) | (exact Co.refl _) | (exact CoL.refl _) | fail)
 ·obtain rfl : i = p.heads.length := by omega
  rw [List.drop_length, qacd _ rfl] at h2
  obtain ⟨rfl, rfl⟩ := stop h2
  clear h2 stop
  repeat' (first | ((refine qacy ?_ rest1.out)) | (with_reducible refine zA ?_) | ((with_reducible refine qaad ?_); (try rw [hP]); simp -implicitDefEqProofs [*]) | ((with_reducible refine qaao ?_); (try simp -implicitDefEqProofs [*])) | ((with_reducible refine qaab rfl (fun h => ?_) (fun h => ?_)) <;> have h' := h <;> (try simp at h') <;> (try subst h')) | ((with_reducible refine qaag [] hm ?_ ?_ ?_ ?_) <;> (try simp only [zT, puth, Nat.reduceEqDiff, reduceIte, Nat.reduceAdd])) | (with_reducible first | refine za ?_ ?_ | refine zb ?_ ?_ ?_ ?_) | (with_reducible first | exact qaaa | exact qaac) | ((with_reducible first | refine zga ?_ | refine zgb ?_); rfl) | ((with_reducible refine zgd ?_); (first | omega | (simp; done))) | (exact Co.refl _) | (exact CoL.refl _) | fail)
end Go.Proofs.Yticeaegpkpjjeaa
namespace Go.Proofs.Yticeaegpkpjjeaa
set_option linter.all false
open Go.RowKit
structure SetsD where
 must : BitVec 64
 may : BitVec 64
 least : Int
 most : Int
 there : Bool
def qad8 : SetsD := ⟨0, 0, 0, 0, false⟩
def setc (s : SetsD) : List SV := [.int .u64 s.must.toNat, .int .u64 s.may.toNat, .int .i64 s.least, .int .i64 s.most, .bool s.there]
def lo (a b : Int) : Int := if b < a then b else a
def hi_ (a b : Int) : Int := if b > a then b else a
def qa2a (s t : SetsD) : SetsD := if s.there then ⟨s.must &&& t.must, s.may ||| t.may, lo s.least t.least, hi_ s.most t.most, true⟩ else t
def bitB (h : Int) : BitVec 64 := BitVec.twoPow 64 h.toNat
def qael (p : PlanD) (h : Int) : Int := qaka (qae2 p h)
abbrev TB := BitVec 64 × Int
def one_w (y : TB) : SetsD := ⟨y.1, y.1, y.2, y.2, true⟩
def qa1v (p : PlanD) (h : Int) (x : SetsD) : SetsD := if 0 ≤ h then ⟨x.must ||| bitB h, x.may ||| bitB h, x.least + qael p h, x.most + qael p h, true⟩ else x
def qan9 (p : PlanD) (h : Int) (y : TB) : TB := if 0 ≤ h then (y.1 ||| bitB h, y.2 + qael p h) else y
structure Is (S : SetsD) (P : TB → Prop) : Prop where
 there : S.there = true
 must : ∀ j, S.must.getLsbD j = true ↔ (j < 64 ∧ ∀ y, P y → y.1.getLsbD j = true)
 may : ∀ j, S.may.getLsbD j = true ↔ ∃ y, P y ∧ y.1.getLsbD j = true
 least : (∃ y, P y ∧ y.2 = S.least) ∧ ∀ y, P y → S.least ≤ y.2
 most : (∃ y, P y ∧ y.2 = S.most) ∧ ∀ y, P y → y.2 ≤ S.most
theorem Is.uniq {S T : SetsD} {P : TB → Prop} (a : Is S P) (b : Is T P) : S = T := by
 obtain ⟨m1, m2, l1, l2, t1⟩ := S
 obtain ⟨n1, n2, k1, k2, t2⟩ := T
 have e1 : m1 = n1 := BitVec.eq_of_getLsbD_eq fun j hj => by
  have := (a.must j).trans (b.must j).symm
  exact Bool.eq_iff_iff.2 this
 have e2 : m2 = n2 := BitVec.eq_of_getLsbD_eq fun j hj => by
  have := (a.may j).trans (b.may j).symm
  exact Bool.eq_iff_iff.2 this
 obtain ⟨⟨y1, p1, q1⟩, r1⟩ := a.least
 obtain ⟨⟨y2, p2, q2⟩, r2⟩ := b.least
 obtain ⟨⟨y3, p3, q3⟩, r3⟩ := a.most
 obtain ⟨⟨y4, p4, q4⟩, r4⟩ := b.most
 have e3 : l1 = k1 := by have := r1 y2 p2; have := r2 y1 p1; simp only at *; omega
 have e4 : l2 = k2 := by have := r3 y4 p4; have := r4 y3 p3; simp only at *; omega
 have e5 : t1 = t2 := a.there.trans b.there.symm
 rw [e1, e2, e3, e4, e5]
theorem Is.congr {S : SetsD} {P Q : TB → Prop} (a : Is S P) (h : ∀ y, P y ↔ Q y) : Is S Q := by
 have : P = Q := funext fun y => propext (h y)
 rw [← this]; exact a
theorem is_one (y : TB) : Is (one_w y) (fun z => z = y) :=
 ⟨rfl, fun j => ⟨fun h => ⟨BitVec.lt_of_getLsbD h, fun z hz => by rw [hz]; exact h⟩, fun h => h.2 y rfl⟩, fun j => ⟨fun h => ⟨y, rfl, h⟩, fun ⟨z, hz, h⟩ => by rw [hz] at h; exact h⟩,
  ⟨⟨y, rfl, rfl⟩, fun z hz => by rw [hz]; exact Int.le_refl _⟩, ⟨⟨y, rfl, rfl⟩, fun z hz => by rw [hz]; exact Int.le_refl _⟩⟩
theorem Is.join {S T : SetsD} {P Q : TB → Prop} (a : Is S P) (b : Is T Q) : Is (qa2a S T) (fun y => P y ∨ Q y) := by
 unfold qa2a
 rw [if_pos a.there]
 refine ⟨rfl, fun j => ?_, fun j => ?_, ?_, ?_⟩
 ·rw [BitVec.getLsbD_and, Bool.and_eq_true, a.must, b.must]
  constructor
  ·rintro ⟨⟨h, h1⟩, ⟨_, h2⟩⟩; exact ⟨h, fun y hy => hy.elim (h1 y) (h2 y)⟩
  ·rintro ⟨h, h1⟩; exact ⟨⟨h, fun y hy => h1 y (.inl hy)⟩, ⟨h, fun y hy => h1 y (.inr hy)⟩⟩
 ·rw [BitVec.getLsbD_or, Bool.or_eq_true, a.may, b.may]
  constructor
  ·rintro (⟨y, h1, h2⟩ | ⟨y, h1, h2⟩)
   ·exact ⟨y, .inl h1, h2⟩
   ·exact ⟨y, .inr h1, h2⟩
  ·rintro ⟨y, h1 | h1, h2⟩
   ·exact .inl ⟨y, h1, h2⟩
   ·exact .inr ⟨y, h1, h2⟩
 ·obtain ⟨⟨y1, p1, q1⟩, r1⟩ := a.least
  obtain ⟨⟨y2, p2, q2⟩, r2⟩ := b.least
  show (∃ y, (P y ∨ Q y) ∧ y.2 = lo S.least T.least) ∧ _
  unfold lo
  split
  ·exact ⟨⟨y2, .inr p2, q2⟩, fun y hy => hy.elim (fun h => by have := r1 y h; show T.least ≤ y.2; omega) (r2 y)⟩
  ·exact ⟨⟨y1, .inl p1, q1⟩, fun y hy => hy.elim (r1 y) (fun h => by have := r2 y h; show S.least ≤ y.2; omega)⟩
 ·obtain ⟨⟨y1, p1, q1⟩, r1⟩ := a.most
  obtain ⟨⟨y2, p2, q2⟩, r2⟩ := b.most
  show (∃ y, (P y ∨ Q y) ∧ y.2 = hi_ S.most T.most) ∧ _
  unfold hi_
  split
  ·exact ⟨⟨y2, .inr p2, q2⟩, fun y hy => hy.elim (fun h => by have := r1 y h; show y.2 ≤ T.most; omega) (r2 y)⟩
  ·exact ⟨⟨y1, .inl p1, q1⟩, fun y hy => hy.elim (r1 y) (fun h => by have := r2 y h; show y.2 ≤ S.most; omega)⟩
theorem Is.step {S : SetsD} {P : TB → Prop} (a : Is S P) (p : PlanD) (h : Int) : Is (qa1v p h S) (fun z => ∃ y, P y ∧ z = qan9 p h y) := by
 unfold qa1v qan9
 by_cases h0 : 0 ≤ h
 ·simp only [if_pos h0]
  obtain ⟨⟨y0, hy0, _⟩, _⟩ := a.least
  refine ⟨rfl, fun j => ?_, fun j => ?_, ?_, ?_⟩
  ·rw [BitVec.getLsbD_or, Bool.or_eq_true, a.must]
   constructor
   ·rintro (⟨h1, h2⟩ | h1)
    ·exact ⟨h1, fun z ⟨y, hy, e⟩ => by rw [e]; simp [h2 y hy]⟩
    ·exact ⟨BitVec.lt_of_getLsbD h1, fun z ⟨y, hy, e⟩ => by rw [e]; simp [h1]⟩
   ·rintro ⟨h1, h2⟩
    by_cases hb : (bitB h).getLsbD j = true
    ·exact .inr hb
    ·refine .inl ⟨h1, fun y hy => ?_⟩
     have := h2 _ ⟨y, hy, rfl⟩
     rw [BitVec.getLsbD_or, Bool.or_eq_true] at this
     exact this.resolve_right hb
  ·rw [BitVec.getLsbD_or, Bool.or_eq_true, a.may]
   constructor
   ·rintro (⟨y, h1, h2⟩ | h1)
    ·exact ⟨_, ⟨y, h1, rfl⟩, by rw [BitVec.getLsbD_or, h2]; rfl⟩
    ·exact ⟨_, ⟨y0, hy0, rfl⟩, by rw [BitVec.getLsbD_or, h1, Bool.or_true]⟩
   ·rintro ⟨z, ⟨y, hy, e⟩, h2⟩
    rw [e, BitVec.getLsbD_or, Bool.or_eq_true] at h2
    exact h2.elim (fun q => .inl ⟨y, hy, q⟩) .inr
  ·obtain ⟨⟨y, h1, h2⟩, h3⟩ := a.least
   exact ⟨⟨_, ⟨y, h1, rfl⟩, by rw [h2]⟩, fun z ⟨y, hy, e⟩ => by rw [e]; have := h3 y hy; show S.least + qael p h ≤ y.2 + qael p h; omega⟩
  ·obtain ⟨⟨y, h1, h2⟩, h3⟩ := a.most
   exact ⟨⟨_, ⟨y, h1, rfl⟩, by rw [h2]⟩, fun z ⟨y, hy, e⟩ => by rw [e]; have := h3 y hy; show y.2 + qael p h ≤ S.most + qael p h; omega⟩
 ·simp only [if_neg h0]
  exact a.congr fun y => ⟨fun h => ⟨y, h, rfl⟩, fun ⟨z, h, e⟩ => by rw [e]; exact h⟩
def IsO (S : SetsD) (P : TB → Prop) : Prop := (S = qad8 ∧ ∀ y, ¬ P y) ∨ Is S P
theorem IsO.join {S T : SetsD} {P Q : TB → Prop} (a : IsO S P) (b : Is T Q) : IsO (qa2a S T) (fun y => P y ∨ Q y) := by
 rcases a with ⟨h, hn⟩ | a
 ·subst h
  exact .inr (b.congr fun y => ⟨.inr, fun h => h.resolve_left (hn y)⟩)
 ·exact .inr (a.join b)
theorem IsO.congr {S : SetsD} {P Q : TB → Prop} (a : IsO S P) (h : ∀ y, P y ↔ Q y) : IsO S Q := by
 have : P = Q := funext fun y => propext (h y)
 rw [← this]; exact a
theorem IsO.uniq {S T : SetsD} {P : TB → Prop} (a : IsO S P) (b : IsO T P) : S = T := by
 rcases a with ⟨h, hn⟩ | a
 ·rcases b with ⟨h2, _⟩ | b
  ·rw [h, h2]
  ·obtain ⟨⟨y, hy, _⟩, _⟩ := b.least
   exact absurd hy (hn y)
 ·rcases b with ⟨_, hn⟩ | b
  ·obtain ⟨⟨y, hy, _⟩, _⟩ := a.least
   exact absurd hy (hn y)
  ·exact a.uniq b
theorem IsO.is {S : SetsD} {P : TB → Prop} (a : IsO S P) (h : S.there = true) : Is S P := by
 rcases a with ⟨e, _⟩ | a
 ·rw [e] at h; cases h
 ·exact a
def qac5 (s : StateD) : List Int := s.cases_.map CaseD.to_ ++ [s.els]
def tgt (n : Nat) (k : Int) : Int := if k = 1000 then n else k
def Leads (p : PlanD) (s : StateD) (k : Nat) : Prop := k ≤ p.states.length ∧ ∃ t ∈ qac5 s, tgt p.states.length t = k
def toS (n : Nat) (l : List SetsD) (k : Int) (s : SetsD) : List SetsD := if tgt n k ≤ n then l.set (tgt n k).toNat (qa2a (l.getD (tgt n k).toNat qad8) s) else l
def qaii (p : PlanD) (st : StateD) (i : Nat) (l : List SetsD) : List SetsD := if (l.getD i qad8).there then (qac5 st).foldl (fun m k => toS p.states.length m k (qa1v p st.head (l.getD i qad8))) l else l
theorem qass (n : Nat) (l : List SetsD) (k : Int) (s : SetsD) : (toS n l k s).length = l.length := by
 unfold toS; split <;> simp
structure SOk (p : PlanD) (i : Nat) (s : StateD) : Prop where
 head : -1 ≤ s.head ∧ s.head < p.heads.length
 cases_ : s.cases_.length ≤ 4
 to_ : ∀ t ∈ qac5 s, t = 1000 ∨ t = 1001 ∨ ((i : Int) < t ∧ t < p.states.length)
 on : 0 < s.cases_.length → s.on.h < p.heads.length
structure PlOk (p : PlanD) : Prop where
 heads : p.heads.length ≤ 6
 size : ∀ h ∈ p.heads, qag0 h.w = 0
 states : 1 ≤ p.states.length ∧ p.states.length ≤ 8
 ok : ∀ (i : Nat) (hi : i < p.states.length), SOk p i p.states[i]
theorem qafv {b : Bool} {at_ : Int} (h : (qasm b at_).1 = 0) : b = false := by
 unfold qasm at h; cases b
 ·rfl
 ·simp at h
theorem qaf4 {α : Type} {f : Nat → α → Int} {b : Int} : ∀ {l : List α} {i : Nat}, (rowF f b i l).1 = 0 → ∀ (j : Nat) (hj : j < l.length), f (i + j) l[j] = 0
 | [], _, _, j, hj => by simp at hj
 | y :: l, i, h, j, hj => by
  unfold rowF at h
  by_cases h1 : f i y ≠ 0
  ·rw [if_pos h1] at h; exact absurd h h1
  ·rw [if_neg h1] at h
   cases j with
   | zero => simpa using h1
   | succ j =>
    have := qaf4 h j (by simpa using hj)
    rw [show i + (j + 1) = i + 1 + j by omega]; exact this
theorem qag6 {α : Type} {f : α → Int} : ∀ {l : List α}, qaco f l = 0 → ∀ x ∈ l, f x = 0
 | [], _, x, hx => by cases hx
 | y :: l, h, x, hx => by
  unfold qaco at h
  by_cases h1 : f y = 0
  ·rw [if_pos h1] at h
   rcases List.mem_cons.1 hx with e | e
   ·rw [e]; exact h1
   ·exact qag6 h x e
  ·rw [if_neg h1] at h; exact absurd h h1
theorem qa19 {p : PlanD} {i : Nat} {t : Int} (h : qaip p i t = 0) : t = 1000 ∨ t = 1001 ∨ ((i : Int) < t ∧ t < p.states.length) := by
 unfold qaip at h
 by_cases h1 : t = 1000 ∨ t = 1001
 ·omega
 ·rw [if_neg h1] at h
  by_cases h2 : t < 0 ∨ (p.states.length : Int) ≤ t
  ·rw [if_pos h2] at h; exact absurd h (by decide)
  ·rw [if_neg h2] at h
   by_cases h3 : t ≤ i
   ·rw [if_pos h3] at h; exact absurd h (by decide)
   ·omega
theorem qasq {p : PlanD} {r : RefD} (h : qabo p r [] ≠ 0) : r.h < p.heads.length := by
 by_cases h0 : r.h < 0
 ·omega
 ·unfold qabo qahq at h
  rw [if_neg (by omega), if_neg (by omega), if_neg (by omega)] at h
  by_cases h1 : 0 ≤ r.h ∧ r.h < p.heads.length
  ·exact h1.2
  ·rw [if_neg h1] at h
   exact absurd (by unfold qasl; split <;> simp [el]) h
theorem pok_of {p : PlanD} (h : (qafs p).1 = 0) : PlOk p := by
 have h1 := qabv h
 have h2 := qabv h1.2
 have h3 := qabv h2.2
 have hh := qabv h1.1
 have hs := qabv h3.1
 have m1 := qafv hh.1
 have m2 := qafv hs.1
 rw [Bool.or_eq_false_iff, decide_eq_false_iff_not, decide_eq_false_iff_not] at m2
 rw [decide_eq_false_iff_not] at m1
 refine ⟨by omega, qa2b h1.1, by omega, fun i hi => ?_⟩
 have hst := qaf4 hs.2 i hi
 rw [Nat.zero_add] at hst
 generalize p.states[i] = s at hst
 unfold qagt at hst
 by_cases c1 : s.head < -1 ∨ (p.heads.length : Int) ≤ s.head
 ·rw [if_pos c1] at hst; exact absurd hst (by decide)
 rw [if_neg c1] at hst
 by_cases c2 : 4 < s.cases_.length
 ·rw [if_pos c2] at hst; exact absurd hst (by decide)
 rw [if_neg c2] at hst
 by_cases c3 : 0 < s.cases_.length ∧ qabo p s.on [] = 0
 ·rw [if_pos c3] at hst; exact absurd hst (by decide)
 rw [if_neg c3] at hst
 by_cases c4 : qaco (qaow p i (qabo p s.on [])) s.cases_ ≠ 0
 ·rw [if_pos c4] at hst; exact absurd hst c4
 rw [if_neg c4] at hst
 refine ⟨by omega, by omega, fun t ht => ?_, fun hc => qasq fun e => c3 ⟨hc, e⟩⟩
 unfold qac5 at ht
 rcases List.mem_append.1 ht with ht | ht
 ·obtain ⟨c, hc, rfl⟩ := List.mem_map.1 ht
  have := qag6 (Decidable.not_not.1 c4) c hc
  unfold qaow at this
  split at this
  ·exact absurd this (by decide)
  ·exact qa19 this
 ·rw [List.mem_singleton.1 ht]; exact qa19 hst
end Go.Proofs.Yticeaegpkpjjeaa
namespace Go.Proofs.Yticeaegpkpjjeaa
set_option linter.all false
open Go.RowKit
def RW (p : PlanD) : Nat → Nat → TB → Prop
 | 0, k, y => k = 0 ∧ y = (0, 0)
 | i + 1, k, y => RW p i k y ∨ ∃ h : i < p.states.length, ∃ z, RW p i i z ∧ Leads p p.states[i] k ∧ y = qan9 p p.states[i].head z
def qacz (p : PlanD) : Nat → List SetsD
 | 0 => (List.replicate (p.states.length + 1) qad8).set 0 ⟨0, 0, 0, 0, true⟩
 | i + 1 => if h : i < p.states.length then qaii p p.states[i] i (qacz p i) else qacz p i
theorem qae4 (p : PlanD) {i : Nat} (h : i < p.states.length) : qacz p (i + 1) = qaii p p.states[i] i (qacz p i) := by
 show (if h : i < p.states.length then _ else _) = _
 rw [dif_pos h]
theorem qais (n : Nat) (s : SetsD) : ∀ (ts : List Int) (l : List SetsD), (ts.foldl (fun l k => toS n l k s) l).length = l.length
 | [], _ => rfl
 | t :: ts, l => by rw [List.foldl_cons, qais n s ts, qass]
theorem qasw (p : PlanD) (st : StateD) (i : Nat) (l : List SetsD) : (qaii p st i l).length = l.length := by
 unfold qaii; split
 ·exact qais _ _ _ _
 ·rfl
theorem qadj (p : PlanD) : ∀ i, (qacz p i).length = p.states.length + 1
 | 0 => by simp [qacz]
 | i + 1 => by
  by_cases h : i < p.states.length
  ·rw [qae4 p h, qasw, qadj p i]
  ·show (if h : i < p.states.length then _ else _ : List SetsD).length = _
   rw [dif_neg h, qadj p i]
theorem toS_is {n : Nat} {l : List SetsD} {P : Nat → TB → Prop} {Q : TB → Prop} {T : SetsD} (hl : l.length = n + 1) (h : ∀ k, k ≤ n → IsO (l.getD k qad8) (P k)) (hT : Is T Q) (t : Int) (h0 : 0 ≤ tgt n t) :
  ∀ k, k ≤ n → IsO ((toS n l t T).getD k qad8) (fun y => P k y ∨ (tgt n t = k ∧ Q y)) := fun k hk => by
 unfold toS
 by_cases h1 : tgt n t ≤ n
 ·rw [if_pos h1]
  by_cases h2 : tgt n t = k
  ·have e : (tgt n t).toNat = k := by omega
   rw [e, List.getD_eq_getElem?_getD, List.getElem?_set_self (by omega), Option.getD_some]
   exact ((h k hk).join hT).congr fun y => by simp [h2]
  ·have e : (tgt n t).toNat ≠ k := by omega
   rw [List.getD_eq_getElem?_getD, List.getElem?_set_ne e, ← List.getD_eq_getElem?_getD]
   exact (h k hk).congr fun y => by simp [h2]
 ·rw [if_neg h1]
  have h2 : tgt n t ≠ k := by omega
  exact (h k hk).congr fun y => by simp [h2]
theorem qany {n : Nat} {Q : TB → Prop} {T : SetsD} (hT : Is T Q) : ∀ (ts : List Int) (l : List SetsD) (P : Nat → TB → Prop), l.length = n + 1 → (∀ k, k ≤ n → IsO (l.getD k qad8) (P k)) → (∀ t ∈ ts, 0 ≤ tgt n t) →
  ∀ k, k ≤ n → IsO ((ts.foldl (fun l k => toS n l k T) l).getD k qad8) (fun y => P k y ∨ ((∃ t ∈ ts, tgt n t = k) ∧ Q y))
 | [], l, P, _, h, _, k, hk => (h k hk).congr fun y => by simp
 | t :: ts, l, P, hl, h, h0, k, hk => by
  rw [List.foldl_cons]
  have := qany hT ts (toS n l t T) _ (by rw [qass, hl]) (toS_is hl h hT t (h0 t (by simp))) (fun t' ht => h0 t' (by simp [ht])) k hk
  refine this.congr fun y => ?_
  constructor
  ·rintro ((h1 | ⟨h1, h2⟩) | ⟨⟨t', h1, h2⟩, h3⟩)
   ·exact .inl h1
   ·exact .inr ⟨⟨t, by simp, h1⟩, h2⟩
   ·exact .inr ⟨⟨t', by simp [h1], h2⟩, h3⟩
  ·rintro (h1 | ⟨⟨t', h1, h2⟩, h3⟩)
   ·exact .inl (.inl h1)
   ·rcases List.mem_cons.1 h1 with e | e
    ·exact .inl (.inr ⟨by rw [← e]; exact h2, h3⟩)
    ·exact .inr ⟨⟨t', e, h2⟩, h3⟩
theorem qayy {p : PlanD} {i : Nat} {s : StateD} (h : SOk p i s) (hi : i < p.states.length) (hn : p.states.length ≤ 8) {t : Int} (ht : t ∈ qac5 s) : (i : Int) < tgt p.states.length t := by
 unfold tgt
 rcases h.to_ t ht with e | e | ⟨e1, e2⟩
 ·rw [if_pos e]; omega
 ·rw [if_neg (by omega)]; omega
 ·rw [if_neg (by omega)]; omega
theorem qa3k {p : PlanD} {i : Nat} {s : StateD} (h : SOk p i s) (hi : i < p.states.length) (hn : p.states.length ≤ 8) {k : Nat} (hk : Leads p s k) : i < k := by
 obtain ⟨_, t, ht, e⟩ := hk
 have := qayy h hi hn ht; omega
theorem qaeu {p : PlanD} (hp : PlOk p) : ∀ i, i ≤ p.states.length → ∀ k, k ≤ p.states.length → IsO ((qacz p i).getD k qad8) (RW p i k)
 | 0, _, k, hk => by
  unfold qacz
  by_cases h0 : k = 0
  ·subst h0
   rw [List.getD_eq_getElem?_getD, List.getElem?_set_self (by simp), Option.getD_some]
   exact .inr ((is_one (0, 0)).congr fun y => by simp [RW])
  ·rw [List.getD_eq_getElem?_getD, List.getElem?_set_ne (by omega), List.getElem?_replicate, if_pos (by omega), Option.getD_some]
   exact .inl ⟨rfl, fun y hy => h0 hy.1⟩
 | i + 1, hi, k, hk => by
  have hlt : i < p.states.length := by omega
  have ih := qaeu hp i (by omega)
  rw [qae4 p hlt]
  have ok := hp.ok i hlt
  unfold qaii
  by_cases ht : ((qacz p i).getD i qad8).there = true
  ·rw [if_pos ht]
   have := qany (((ih i (by omega)).is ht).step p p.states[i].head) (qac5 p.states[i]) (qacz p i) (RW p i) (qadj p i) ih (fun t h => by have := qayy ok hlt hp.states.2 h; omega) k hk
   refine this.congr fun y => ?_
   constructor
   ·rintro (h1 | ⟨h1, z, h2, h3⟩)
    ·exact .inl h1
    ·exact .inr ⟨hlt, z, h2, ⟨hk, h1⟩, h3⟩
   ·rintro (h1 | ⟨_, z, h2, h3, h4⟩)
    ·exact .inl h1
    ·exact .inr ⟨h3.2, z, h2, h4⟩
  ·rw [if_neg ht]
   refine (ih k hk).congr fun y => ⟨.inl, fun h => h.elim id fun ⟨_, z, h2, _⟩ => ?_⟩
   rcases ih i (by omega) with ⟨_, hn⟩ | h
   ·exact absurd h2 (hn z)
   ·exact absurd h.there ht
theorem qa1z {p : PlanD} (hp : PlOk p) {k : Nat} : ∀ j, k ≤ j → j ≤ p.states.length → ∀ y, RW p j k y ↔ RW p k k y
 | 0, h, _, y => by obtain rfl : k = 0 := by omega
                    exact Iff.rfl
 | j + 1, h, hj, y => by
  by_cases e : k = j + 1
  ·rw [e]
  ·rw [← qa1z hp j (by omega) (by omega) y]
   refine ⟨fun h => h.elim id fun ⟨h1, z, h2, h3, h4⟩ => ?_, .inl⟩
   have := qa3k (hp.ok j h1) h1 hp.states.2 h3; omega
theorem qaoa {p : PlanD} (hp : PlOk p) {k j : Nat} (h : k ≤ j) (hj : j ≤ p.states.length) : (qacz p j).getD k qad8 = (qacz p k).getD k qad8 :=
 (qaeu hp j hj k (by omega)).uniq ((qaeu hp k (by omega) k (by omega)).congr fun y => (qa1z hp j h hj y).symm)
def qa2v (p : PlanD) : List SetsD := qacz p p.states.length
def setAt (p : PlanD) (i : Nat) : SetsD := (qa2v p).getD i qad8
def refC (s : StateD) (x : SetsD) : Int :=
 if x.there = false then 0
 else if (decide (0 ≤ s.head) && (x.may &&& bitB s.head != 0)) = true then 7
 else if (decide (0 < s.cases_.length) && (decide (0 ≤ s.on.h) && (s.on.h != s.head && (x.must &&& bitB s.on.h == 0)))) = true then 12
 else 0
def qaga (p : PlanD) : Int × Int := rowF (fun i s => refC s (setAt p i)) 3000 0 p.states
def qan6 (p : PlanD) : Int × Int := if (qafs p).1 ≠ 0 then qafs p else qaga p
def qayu (p : PlanD) : List SetsD := if (qan6 p).1 ≠ 0 then [] else qa2v p
theorem qaki {p : PlanD} (hp : PlOk p) {h : Int} (h0 : 0 ≤ h) (h1 : h < p.heads.length) : 1 ≤ qael p h ∧ qael p h ≤ 32 := by
 unfold qael qae2
 rw [List.getElem?_eq_getElem (by omega : h.toNat < p.heads.length)]
 have := qaet (hp.size _ (List.getElem_mem (by omega : h.toNat < p.heads.length)))
 exact ⟨this.2.2.2.2.2.2.1, this.2.2.2.2.2.2.2⟩
theorem qa2t {p : PlanD} (hp : PlOk p) {h : Int} (h1 : h < p.heads.length) (y : TB) : y.2 ≤ (qan9 p h y).2 ∧ (qan9 p h y).2 ≤ y.2 + 32 := by
 unfold qan9
 by_cases h0 : 0 ≤ h
 ·rw [if_pos h0]; have := qaki hp h0 h1; show _ ≤ y.2 + qael p h ∧ y.2 + qael p h ≤ _; omega
 ·rw [if_neg h0]; omega
theorem rw_in {p : PlanD} (hp : PlOk p) : ∀ i, ∀ k y, RW p i k y → 0 ≤ y.2 ∧ y.2 ≤ 32 * i
 | 0, k, y, h => by rw [h.2]; simp
 | i + 1, k, y, h => by
  rcases h with h | ⟨hi, z, h1, _, h2⟩
  ·have := rw_in hp i k y h; omega
  ·have a := rw_in hp i i z h1
   have b := qa2t hp (hp.ok i hi).head.2 z
   rw [h2]; omega
theorem qay3 {p : PlanD} (hp : PlOk p) {i k : Nat} (hi : i ≤ p.states.length) (hk : k ≤ p.states.length) : 0 ≤ ((qacz p i).getD k qad8).least ∧ ((qacz p i).getD k qad8).least ≤ 256 ∧ 0 ≤ ((qacz p i).getD k qad8).most ∧ ((qacz p i).getD k qad8).most ≤ 256 := by
 have hn := hp.states.2
 rcases qaeu hp i hi k hk with ⟨e, _⟩ | h
 ·rw [e]; simp [qad8]
 ·obtain ⟨⟨y, h1, h2⟩, _⟩ := h.least
  obtain ⟨⟨z, h3, h4⟩, _⟩ := h.most
  have a := rw_in hp i k y h1
  have b := rw_in hp i k z h3
  omega
end Go.Proofs.Yticeaegpkpjjeaa
namespace Go.Proofs.Yticeaegpkpjjeaa
set_option linter.all false
open Go.RowKit
abbrev qauw : List SOper := [Oa 2 (.box 45 (.t 0)), Oa 3 (.box 45 (.t 1)), Oa 4 (.alloc 45 [(.int .u64 0), (.int .u64 0), (.int .i64 0), (.int .i64 0), (.bool false)])]
abbrev qauv : List SOper := [Oa 5 (.faddr 4 (.t 2)), Oa 6 (.load (.t 5)), Oa 7 (.un .not (.t 6))]
abbrev qauu : List SOper := [Oa 8 (.loads 5 (.t 3)), Ob (.store 5 (.t 4) (.t 8))]
abbrev qaut : List SOper := [Oa 9 (.faddr 0 (.t 2)), Oa 10 (.load (.t 9)), Oa 11 (.faddr 0 (.t 3)), Oa 12 (.load (.t 11)), Oa 13 (.bin .and (.t 10) (.t 12)), Oa 14 (.faddr 1 (.t 2)), Oa 15 (.load (.t 14)), Oa 16 (.faddr 1 (.t 3)), Oa 17 (.load (.t 16)), Oa 18 (.bin .or (.t 15) (.t 17)), Oa 19 (.faddr 2 (.t 2)), Oa 20 (.load (.t 19)), Oa 21 (.faddr 2 (.t 3)), Oa 22 (.load (.t 21)), Oa 23 (.mm false (.t 20) (.t 22)), Oa 24 (.faddr 3 (.t 2)), Oa 25 (.load (.t 24)), Oa 26 (.faddr 3 (.t 3)), Oa 27 (.load (.t 26)), Oa 28 (.mm true (.t 25) (.t 27)), Oa 29 (.build [(.int .u64 0), (.int .u64 0), (.int .i64 0), (.int .i64 0), (.bool false)] [(0, 1, (.t 13)), (1, 1, (.t 18)), (2, 1, (.t 23)), (3, 1, (.t 28)), (4, 1, (.c (.bool true)))]), Ob (.store 5 (.t 4) (.t 29))]
def c_wjoin : SCode := (.seq (.reg false qauw [2, 3, 4]) (.seq (.seq (.reg false qauv [2, 3, 4, 7]) (.cond (.t 7) (.seq (.reg false qauu [4]) .ret) .skip)) (.seq (.reg false qaut [4]) .ret)))
theorem qakm : comp Try.prog 30 ((Try.f129.body).getD .skip) = some c_wjoin.erase := by kernel_rfl
abbrev qau7 : List SOper := [Oa 8 (.mv (.t 1)), Oa 9 (.mv (.t 8)), Oe 10 (.mv (.t 0)) 9 true, Oe 11 (.nilc (.t 10)) 9 true, Oe 12 (.faddr 8 (.t 11)) 9 true, Oe 13 (.faddr 0 (.t 12)) 9 true, Oe 14 (.load (.t 13)) 9 true, Oe 15 (.bin .eql (.t 14) (.c (.int .i64 0))) 9 true, Oa 16 (.pick (.t 9) (.t 15) (.c (.bool false)))]
abbrev qau6 : List SOper := [Oa 17 (.mv (.t 0)), Oa 18 (.mv (.t 2)), Oa 19 (.mv (.t 3)), Oa 20 (.build [(.int .i64 0), (.int .i64 0)] [(0, 1, (.t 18)), (1, 1, (.t 19))]), Oa 21 (.nilc (.t 17)), Oa 22 (.faddr 8 (.t 21)), Ob (.store 2 (.t 22) (.t 20))]
def c_wfail : SCode := (.seq (.reg false qau7 [0, 2, 3, 16]) (.cond (.t 16) (.reg false qau6 []) .skip))
theorem qako : comp Try.prog 23 ((Try.f90.body).getD .skip) = some c_wfail.erase := by kernel_rfl
abbrev qa4b : List SOper := [Oa 5 (.box 45 (.t 2))]
abbrev qa4a : List SOper := [Oa 6 (.mv (.t 1)), Oa 7 (.bin .eql (.t 6) (.c (.int .i64 1000)))]
abbrev qa39 : List SOper := [Oa 8 (.mv (.t 0)), Oa 9 (.nilc (.t 8)), Oa 10 (.faddr 0 (.t 9)), Oa 11 (.faddr 2 (.t 10)), Oa 12 (.load (.t 11)), Oa 13 (.len false (.t 12)), Oa 1 (.mv (.t 13))]
abbrev qa38 : List SOper := [Oa 14 (.mv (.t 1)), Oa 15 (.mv (.t 0)), Oa 16 (.nilc (.t 15)), Oa 17 (.faddr 0 (.t 16)), Oa 18 (.faddr 2 (.t 17)), Oa 19 (.load (.t 18)), Oa 20 (.len false (.t 19)), Oa 21 (.bin .leq (.t 14) (.t 20))]
abbrev qa37 : List SOper := [Oa 22 (.mv (.t 0)), Od 23 (.nilc (.t 22)) 1, Od 24 (.faddr 7 (.t 23)) 3, Od 25 (.load (.t 24)) 7, Oa 26 (.mv (.t 1)), Oa 27 (.mv (.t 0)), Od 28 (.nilc (.t 27)) 32, Od 29 (.faddr 7 (.t 28)) 96, Od 30 (.load (.t 29)) 224, Oa 31 (.mv (.t 1)), Od 32 (.iaddr 5 (.t 30) (.t 31)) 992, Od 33 (.loads 5 (.t 32)) 2016, Oa 34 (.loads 5 (.t 5)), ⟨(some 35), .mv (.c .any), some ((.c (.fn (.func 129) [] [])), [(.t 33), (.t 34)]), none, 8160⟩, Od 36 (.iaddr 5 (.t 25) (.t 26)) 16383, ⟨none, .store 5 (.t 36) (.t 35), none, none, 32767⟩]
def c_wto : SCode := (.seq (.reg false qa4b [0, 1, 5]) (.seq (.seq (.reg false qa4a [0, 1, 5, 7]) (.cond (.t 7) (.reg false qa39 [0, 1, 5]) .skip)) (.seq (.reg false qa38 [0, 1, 5, 21]) (.cond (.t 21) (.reg true qa37 []) .skip))))
theorem qaub : comp Try.prog 37 ((Try.f92.body).getD .skip) = some c_wto.erase := by kernel_rfl
abbrev qa0b : List SOper := [Oa 2 (.mv (.c (.int .u64 0)))]
abbrev qa0a : List SOper := [Oa 3 (.mv (.t 0)), Oa 4 (.bin .shl (.c (.int .u64 1)) (.t 3)), Oa 2 (.mv (.t 4))]
def c_wbit : SCode := (.seq (.reg false qa0b [0]) (.seq (.reg false qa0a [2]) .ret))
theorem qaoq : comp Try.prog 5 ((Try.f91.body).getD .skip) = some c_wbit.erase := by kernel_rfl
abbrev qapd : List SOper := [Oa 10 (.mv (.t 0)), Od 11 (.nilc (.t 10)) 1, Od 12 (.faddr 0 (.t 11)) 3, Od 13 (.faddr 2 (.t 12)) 7, Od 14 (.load (.t 13)) 15, Oa 15 (.mv (.t 1)), Od 16 (.iaddr 5 (.t 14) (.t 15)) 63, Od 17 (.loads 5 (.t 16)) 127, Oa 18 (.mv (.t 0)), Od 19 (.nilc (.t 18)) 256, Od 20 (.faddr 7 (.t 19)) 768, Od 21 (.load (.t 20)) 1792, Oa 22 (.mv (.t 1)), Od 23 (.iaddr 5 (.t 21) (.t 22)) 7936, Od 24 (.loads 5 (.t 23)) 16128, Oa 4 (.alloc 105 [(.int .i64 0), (.int .i64 0), (.int .i64 0), .nilsl, (.int .i64 0)]), Oa 5 (.alloc 45 [(.int .u64 0), (.int .u64 0), (.int .i64 0), (.int .i64 0), (.bool false)]), ⟨none, .store 5 (.t 4) (.t 17), none, none, 98559⟩, ⟨none, .store 5 (.t 5) (.t 24), none, none, 262143⟩]
abbrev qapc : List SOper := [Oa 25 (.faddr 4 (.t 5)), Oa 26 (.load (.t 25)), Oa 27 (.un .not (.t 26))]
abbrev qapb : List SOper := [Oa 28 (.faddr 0 (.t 4)), Oa 29 (.load (.t 28)), Oa 30 (.bin .geq (.t 29) (.c (.int .i64 0)))]
abbrev qapa : List SOper := [Oa 31 (.mv (.t 0)), Oa 32 (.faddr 1 (.t 5)), Od 33 (.load (.t 32)) 2, Oa 34 (.faddr 0 (.t 4)), Od 35 (.load (.t 34)) 8, ⟨(some 36), .mv (.c .any), some ((.c (.fn (.func 91) [] [])), [(.t 35)]), none, 24⟩, Od 37 (.bin .and (.t 33) (.t 36)) 62, Od 38 (.bin .neq (.t 37) (.c (.int .u64 0))) 126, Oa 39 (.mv (.t 1)), Od 40 (.bin .add (.c (.int .i64 3000)) (.t 39)) 256, ⟨(some 41), .mv (.c .any), some ((.c (.fn (.func 90) [] [])), [(.t 31), (.t 38), (.c (.int .i64 7)), (.t 40)]), none, 1023⟩]
abbrev qao9 : List SOper := [Oa 43 (.mv (.t 0)), Od 44 (.nilc (.t 43)) 1, Od 45 (.faddr 0 (.t 44)) 3, Od 46 (.faddr 0 (.t 45)) 7, Od 47 (.load (.t 46)) 15, Oa 48 (.faddr 0 (.t 4)), Od 49 (.load (.t 48)) 32, Od 50 (.iaddr 1 (.t 47) (.t 49)) 127, Od 51 (.loads 1 (.t 50)) 255, ⟨(some 52), .mv (.c .any), some ((.c (.fn (.func 83) [] [])), [(.t 51)]), none, 511⟩, Od 42 (.mv (.t 52)) 1023, Od 53 (.extr (.t 42) 0) 2047, Od 54 (.extr (.t 42) 1) 2047, Oa 7 (.alloc 35 [(.int .i64 0), (.int .i64 0)]), Od 6 (.mv (.t 53)) 12287, ⟨none, .store 2 (.t 7) (.t 54), none, none, 32767⟩]
abbrev qao8 : List SOper := [Oa 55 (.faddr 0 (.t 5)), Od 56 (.load (.t 55)) 1, Oa 57 (.faddr 0 (.t 4)), Od 58 (.load (.t 57)) 4, ⟨(some 59), .mv (.c .any), some ((.c (.fn (.func 91) [] [])), [(.t 58)]), none, 12⟩, Od 60 (.bin .or (.t 56) (.t 59)) 31, Oa 61 (.faddr 1 (.t 5)), Od 62 (.load (.t 61)) 64, Oa 63 (.faddr 0 (.t 4)), Od 64 (.load (.t 63)) 256, ⟨(some 65), .mv (.c .any), some ((.c (.fn (.func 91) [] [])), [(.t 64)]), none, 796⟩, Od 66 (.bin .or (.t 62) (.t 65)) 2012, Oa 67 (.faddr 2 (.t 5)), Od 68 (.load (.t 67)) 4096, Oa 69 (.mv (.t 6)), Od 70 (.bin .add (.t 68) (.t 69)) 28672, Oa 71 (.faddr 3 (.t 5)), Od 72 (.load (.t 71)) 65536, Oa 73 (.mv (.t 6)), Od 74 (.bin .add (.t 72) (.t 73)) 458752, Od 75 (.build [(.int .u64 0), (.int .u64 0), (.int .i64 0), (.int .i64 0), (.bool false)] [(0, 1, (.t 60)), (1, 1, (.t 66)), (2, 1, (.t 70)), (3, 1, (.t 74)), (4, 1, (.c (.bool true)))]) 1048575, ⟨none, .store 5 (.t 5) (.t 75), none, none, 2097151⟩]
abbrev qao7 : List SOper := [Oa 76 (.faddr 3 (.t 4)), Oa 77 (.load (.t 76)), Oa 78 (.len false (.t 77)), Oa 79 (.bin .gtr (.t 78) (.c (.int .i64 0)))]
abbrev qao6 : List SOper := [Oa 80 (.mv (.t 0)), Oa 81 (.faddr 1 (.t 4)), Od 82 (.faddr 0 (.t 81)) 2, Od 83 (.load (.t 82)) 6, Od 84 (.bin .geq (.t 83) (.c (.int .i64 0))) 14, Od 85 (.mv (.t 84)) 30, Of 86 (.faddr 0 (.t 5)) 85 true 62, Of 87 (.load (.t 86)) 85 true 126, Of 88 (.faddr 1 (.t 4)) 85 true 62, Of 89 (.faddr 0 (.t 88)) 85 true 318, Of 90 (.load (.t 89)) 85 true 830, ⟨(some 91), .mv (.c .any), some ((.c (.fn (.func 91) [] [])), [(.t 90)]), (some (85, true)), 1854⟩, Of 92 (.bin .and (.t 87) (.t 91)) 85 true 4094, Of 93 (.bin .eql (.t 92) (.c (.int .u64 0))) 85 true 8190, Od 94 (.pick (.t 85) (.t 93) (.c (.bool false))) 16382, Oa 95 (.mv (.t 1)), Od 96 (.bin .add (.c (.int .i64 3000)) (.t 95)) 32768, ⟨(some 97), .mv (.c .any), some ((.c (.fn (.func 90) [] [])), [(.t 80), (.t 94), (.c (.int .i64 12)), (.t 96)]), none, 131071⟩]
abbrev qao5 : List SOper := [Oa 98 (.faddr 3 (.t 4)), Oa 99 (.load (.t 98)), Oa 100 (.len false (.t 99)), Oa 101 (.mv (.c (.int .i64 0)))]
abbrev qak9 : List SOper := [Oa 102 (.bin .lss (.t 101) (.t 100))]
abbrev qak8 : List SOper := [Oa 103 (.iaddr 3 (.t 99) (.t 101)), Oa 104 (.loads 3 (.t 103)), Oa 9 (.alloc 176 [(.int .u64 0), (.int .u64 0), (.int .i64 0)]), Ob (.store 3 (.t 9) (.t 104))]
abbrev qak7 : List SOper := [Oa 105 (.mv (.t 0)), Oa 106 (.faddr 2 (.t 9)), Oa 107 (.load (.t 106)), Oa 108 (.loads 5 (.t 5)), Oc 109 92 [(.t 105), (.t 107), (.t 108)]]
abbrev qak6 : List SOper := [Oa 110 (.bin .add (.t 101) (.c (.int .i64 1))), Oa 101 (.mv (.t 110))]
def c_wstate_l1 : SCode := (.seq (.reg false qak9 [0, 4, 5, 99, 100, 101, 102]) (.seq (.cond (.t 102) .skip (.exit 0)) (.seq (.block 1 (.seq (.reg false qak8 [0, 4, 5, 9, 99, 100, 101]) (.reg false qak7 [0, 4, 5, 99, 100, 101]))) (.reg false qak6 [0, 4, 5, 99, 100, 101]))))
abbrev qage : List SOper := [Oa 111 (.mv (.t 0)), Oa 112 (.faddr 4 (.t 4)), Oa 113 (.load (.t 112)), Oa 114 (.loads 5 (.t 5)), Oc 115 92 [(.t 111), (.t 113), (.t 114)]]
def c_wstate : SCode := (.seq (.reg true qapd [0, 1, 4, 5]) (.seq (.seq (.reg false qapc [0, 1, 4, 5, 27]) (.cond (.t 27) .ret .skip)) (.seq (.seq (.reg false qapb [0, 1, 4, 5, 30]) (.cond (.t 30) (.seq (.reg true qapa [0, 1, 4, 5]) (.seq (.reg true qao9 [0, 1, 4, 5, 6]) (.reg true qao8 [0, 1, 4, 5]))) .skip)) (.seq (.seq (.reg false qao7 [0, 1, 4, 5, 79]) (.cond (.t 79) (.reg true qao6 [0, 4, 5]) .skip)) (.seq (.seq (.reg false qao5 [0, 4, 5, 99, 100, 101]) (.block 0 (.loop c_wstate_l1))) (.reg false qage []))))))
theorem qaix : comp Try.prog 116 ((Try.f45.body).getD .skip) = some c_wstate.erase := by kernel_rfl
abbrev qa0k : List SOper := [Oa 1 (.box 29 (.t 0)), Oa 2 (.mv (.c .nilsl)), Oa 3 (.alloc 35 [(.int .i64 0), (.int .i64 0)])]
abbrev qa0j : List SOper := [Oa 7 (.loads 7 (.t 1)), Oc 8 44 [(.t 7)], Oa 4 (.alloc 35 [(.int .i64 0), (.int .i64 0)]), Ob (.store 2 (.t 4) (.t 8))]
abbrev qa0i : List SOper := [Oa 9 (.faddr 0 (.t 4)), Oa 10 (.load (.t 9)), Oa 11 (.bin .neq (.t 10) (.c (.int .i64 0)))]
abbrev qa0h : List SOper := [Oa 12 (.loads 2 (.t 4)), Oa 2 (.mv (.c .nilsl)), ⟨none, .store 2 (.t 3) (.t 12), none, none, 3⟩]
abbrev qa0g : List SOper := [Oa 13 (.loads 7 (.t 1)), Oa 14 (.faddr 2 (.t 1)), Od 15 (.load (.t 14)) 2, Od 16 (.len false (.t 15)) 6, Od 17 (.bin .add (.t 16) (.c (.int .i64 1))) 14, Od 18 (.mkslice 45 5 40 [(.int .u64 0), (.int .u64 0), (.int .i64 0), (.int .i64 0), (.bool false)] (.t 17) (.t 17)) 30, Od 19 (.build [.nilsl, .nilsl, .nilsl, .nilsl, .nilsl, .nilsl, .nilsl, .nilsl, (.int .i64 0), (.int .i64 0)] [(0, 7, (.t 13)), (7, 1, (.t 18))]) 63, Od 20 (.box 119 (.t 19)) 127, Od 5 (.mv (.t 20)) 255]
abbrev qa0f : List SOper := [Oa 21 (.mv (.t 5)), Oa 22 (.nilc (.t 21)), Oa 23 (.faddr 7 (.t 22)), Oa 24 (.load (.t 23)), Oa 25 (.iaddr 5 (.t 24) (.c (.int .i64 0))), Oa 26 (.faddr 4 (.t 25)), Ob (.store 1 (.t 26) (.c (.bool true)))]
abbrev qa0e : List SOper := [Oa 27 (.faddr 2 (.t 1)), Oa 28 (.load (.t 27)), Oa 29 (.len false (.t 28)), Oa 30 (.mv (.c (.int .i64 0)))]
abbrev qa0d : List SOper := [Oa 31 (.bin .lss (.t 30) (.t 29))]
abbrev qa0c : List SOper := [Oa 32 (.mv (.t 30)), Oa 6 (.mv (.t 32))]
abbrev qavb : List SOper := [Oa 33 (.mv (.t 5)), Oa 34 (.mv (.t 6)), Oc 35 45 [(.t 33), (.t 34)]]
abbrev qava : List SOper := [Oa 36 (.bin .add (.t 30) (.c (.int .i64 1))), Oa 30 (.mv (.t 36))]
def qan2 : SCode := (.seq (.reg false qa0d [3, 5, 29, 30, 31]) (.seq (.cond (.t 31) .skip (.exit 0)) (.seq (.block 1 (.seq (.reg false qa0c [3, 5, 6, 29, 30]) (.reg false qavb [3, 5, 29, 30]))) (.reg false qava [3, 5, 29, 30]))))
abbrev qau9 : List SOper := [Oa 37 (.mv (.t 5)), Oa 38 (.nilc (.t 37)), Oa 39 (.faddr 8 (.t 38)), Oa 40 (.faddr 0 (.t 39)), Oa 41 (.load (.t 40)), Oa 42 (.bin .neq (.t 41) (.c (.int .i64 0)))]
abbrev qau8 : List SOper := [Oa 43 (.mv (.t 5)), Od 44 (.nilc (.t 43)) 1, Od 45 (.faddr 8 (.t 44)) 3, Od 46 (.loads 2 (.t 45)) 7, Oa 2 (.mv (.c .nilsl)), ⟨none, .store 2 (.t 3) (.t 46), none, none, 31⟩]
abbrev qai9 : List SOper := [Oa 47 (.mv (.t 5)), Oa 48 (.nilc (.t 47)), Oa 49 (.faddr 7 (.t 48)), Oa 50 (.load (.t 49)), Oa 51 (.build [(.int .i64 0), (.int .i64 0)] []), Oa 2 (.mv (.t 50)), Ob (.store 2 (.t 3) (.t 51))]
def c_walk : SCode := (.seq (.reg false qa0k [1, 3]) (.seq (.seq (.reg false qa0j [1, 3, 4]) (.seq (.reg false qa0i [1, 3, 4, 11]) (.cond (.t 11) (.seq (.reg true qa0h [2, 3]) .ret) .skip))) (.seq (.reg true qa0g [1, 3, 5]) (.seq (.reg false qa0f [1, 3, 5]) (.seq (.seq (.reg false qa0e [3, 5, 29, 30]) (.block 0 (.loop qan2))) (.seq (.seq (.reg false qau9 [3, 5, 42]) (.cond (.t 42) (.seq (.reg true qau8 [2, 3]) .ret) .skip)) (.seq (.reg false qai9 [2, 3]) .ret)))))))
theorem qaor : comp Try.prog 52 ((Try.f10.body).getD .skip) = some c_walk.erase := by kernel_rfl
abbrev qa09 : List SOper := [Oa 2 (.mv (.c (.int .u64 0)))]
abbrev qa08 : List SOper := [Oa 3 (.mv (.t 0)), Oa 4 (.conv .u64 (.t 3)), Oa 5 (.bin .shl (.c (.int .u64 1)) (.t 4)), Oa 2 (.mv (.t 5))]
def c_rbit : SCode := (.seq (.reg false qa09 [0]) (.seq (.reg false qa08 [2]) .ret))
theorem qaou : comp Try.prog 6 ((Try.f97.body).getD .skip) = some c_rbit.erase := by kernel_rfl
abbrev qa4e : List SOper := [Oa 0 (.alloc 29 [.nilsl, .nilsl, .nilsl, .nilsl, .nilsl, .nilsl, .nilsl])]
abbrev qa4d : List SOper := [Oa 1 (.mkrow 3 1 1 [(.int .i64 0)] [(0, (.c (.int .i64 8)))]), Oa 2 (.build [.nilsl] [(0, 1, (.t 1))]), Oa 3 (.mkrow 3 1 1 [(.int .i64 0)] [(0, (.c (.int .i64 16)))]), Oa 4 (.build [.nilsl] [(0, 1, (.t 3))]), Oa 5 (.mkrow 100 1 2 [.nilsl] [(0, (.t 2)), (1, (.t 4))]), Oa 6 (.build [(.int .i64 0), (.int .i64 0)] []), Oa 7 (.build [(.int .u64 0), (.int .u64 0), (.int .i64 0)] [(0, 1, (.c (.int .u64 1))), (1, 1, (.c (.int .u64 1))), (2, 1, (.c (.int .i64 1)))]), Oa 8 (.mkrow 176 3 1 [(.int .u64 0), (.int .u64 0), (.int .i64 0)] [(0, (.t 7))]), Oa 9 (.build [(.int .i64 0), (.int .i64 0), (.int .i64 0), .nilsl, (.int .i64 0)] [(0, 1, (.c (.int .i64 0))), (1, 2, (.t 6)), (3, 1, (.t 8)), (4, 1, (.c (.int .i64 1000)))]), Oa 10 (.build [(.int .i64 0), (.int .i64 0), (.int .i64 0), .nilsl, (.int .i64 0)] [(0, 1, (.c (.int .i64 1))), (4, 1, (.c (.int .i64 1000)))]), Oa 11 (.mkrow 105 5 2 [(.int .i64 0), (.int .i64 0), (.int .i64 0), .nilsl, (.int .i64 0)] [(0, (.t 9)), (1, (.t 10))]), Oa 12 (.mkrow 3 1 2 [(.int .i64 0)] [(0, (.c (.int .i64 0))), (1, (.c (.int .i64 1)))]), Oa 13 (.build [.nilsl, .nilsl, .nilsl, .nilsl, .nilsl, .nilsl, .nilsl] [(0, 1, (.t 5)), (2, 1, (.t 11)), (6, 1, (.t 12))]), Ob (.store 7 (.t 0) (.t 13))]
def c_two : SCode := (.seq (.reg false qa4e [0]) (.seq (.reg false qa4d [0]) .ret))
theorem qaud : comp Try.prog 14 ((Try.f43.body).getD .skip) = some c_two.erase := by kernel_rfl
abbrev qapr : List SOper := [Oa 0 (.mv (.c (.bool false)))]
abbrev qapq : List SOper := [Oc 4 43 [], Oc 5 10 [(.t 4)], Oa 3 (.mv (.t 5)), Oa 6 (.extr (.t 3) 0), Oa 7 (.extr (.t 3) 1), Oa 2 (.alloc 35 [(.int .i64 0), (.int .i64 0)]), Oa 1 (.mv (.t 6)), Ob (.store 2 (.t 2) (.t 7))]
abbrev qapp : List SOper := [Oa 8 (.faddr 0 (.t 2)), Oa 9 (.load (.t 8)), Oa 10 (.bin .eql (.t 9) (.c (.int .i64 0))), Oa 11 (.mv (.t 10)), Oe 12 (.mv (.t 1)) 11 true, Oe 13 (.len false (.t 12)) 11 true, Oe 14 (.bin .eql (.t 13) (.c (.int .i64 3))) 11 true, Oa 15 (.pick (.t 11) (.t 14) (.c (.bool false))), Oa 16 (.mv (.t 15)), Oe 17 (.mv (.t 1)) 16 true, Oe 18 (.iaddr 5 (.t 17) (.c (.int .i64 2))) 16 true, Oe 19 (.faddr 0 (.t 18)) 16 true, Oe 20 (.load (.t 19)) 16 true, Oe 21 (.bin .eql (.t 20) (.c (.int .u64 1))) 16 true, Oa 22 (.pick (.t 16) (.t 21) (.c (.bool false))), Oa 23 (.mv (.t 22)), Oe 24 (.mv (.t 1)) 23 true, Oe 25 (.iaddr 5 (.t 24) (.c (.int .i64 2))) 23 true, Oe 26 (.faddr 1 (.t 25)) 23 true, Oe 27 (.load (.t 26)) 23 true, Oe 28 (.bin .eql (.t 27) (.c (.int .u64 3))) 23 true, Oa 29 (.pick (.t 23) (.t 28) (.c (.bool false))), Oa 30 (.mv (.t 29)), Oe 31 (.mv (.t 1)) 30 true, Oe 32 (.iaddr 5 (.t 31) (.c (.int .i64 2))) 30 true, Oe 33 (.faddr 2 (.t 32)) 30 true, Oe 34 (.load (.t 33)) 30 true, Oe 35 (.bin .eql (.t 34) (.c (.int .i64 1))) 30 true, Oa 36 (.pick (.t 30) (.t 35) (.c (.bool false))), Oa 37 (.mv (.t 36)), Oe 38 (.mv (.t 1)) 37 true, Oe 39 (.iaddr 5 (.t 38) (.c (.int .i64 2))) 37 true, Oe 40 (.faddr 3 (.t 39)) 37 true, Oe 41 (.load (.t 40)) 37 true, Oe 42 (.bin .eql (.t 41) (.c (.int .i64 3))) 37 true, Oa 43 (.pick (.t 37) (.t 42) (.c (.bool false))), Oa 0 (.mv (.t 43))]
def c_wbegun : SCode := (.seq (.reg false qapr []) (.seq (.reg false qapq [1, 2]) (.seq (.reg false qapp [0]) .ret)))
theorem qaiz : comp Try.prog 44 ((Try.f8.body).getD .skip) = some c_wbegun.erase := by kernel_rfl
end Go.Proofs.Yticeaegpkpjjeaa
namespace Go.Proofs.Yticeaegpkpjjeaa
set_option linter.all false
open Go.RowKit
abbrev qax4 : List SOper := [Oa 1 (.box 29 (.t 0)), Oa 2 (.mv (.c (.bool false)))]
abbrev qax3 : List SOper := [Oa 9 (.faddr 0 (.t 1)), Oa 10 (.load (.t 9)), Oa 11 (.len false (.t 10)), Oa 12 (.bin .gtr (.t 11) (.c (.int .i64 50))), Oa 13 (.mv (.t 12)), Oe 14 (.faddr 1 (.t 1)) 13 false, Oe 15 (.load (.t 14)) 13 false, Oe 16 (.len false (.t 15)) 13 false, Oe 17 (.bin .gtr (.t 16) (.c (.int .i64 500))) 13 false, Oa 18 (.pick (.t 13) (.c (.bool true)) (.t 17)), Oa 19 (.mv (.t 18)), Oe 20 (.faddr 2 (.t 1)) 19 false, Oe 21 (.load (.t 20)) 19 false, Oe 22 (.len false (.t 21)) 19 false, Oe 23 (.bin .gtr (.t 22) (.c (.int .i64 50))) 19 false, Oa 24 (.pick (.t 19) (.c (.bool true)) (.t 23)), Oa 25 (.mv (.t 24)), Oe 26 (.faddr 3 (.t 1)) 25 false, Oe 27 (.load (.t 26)) 25 false, Oe 28 (.len false (.t 27)) 25 false, Oe 29 (.bin .gtr (.t 28) (.c (.int .i64 50))) 25 false, Oa 30 (.pick (.t 25) (.c (.bool true)) (.t 29)), Oa 31 (.mv (.t 30)), Oe 32 (.faddr 4 (.t 1)) 31 false, Oe 33 (.load (.t 32)) 31 false, Oe 34 (.len false (.t 33)) 31 false, Oe 35 (.bin .gtr (.t 34) (.c (.int .i64 50))) 31 false, Oa 36 (.pick (.t 31) (.c (.bool true)) (.t 35)), Oa 37 (.mv (.t 36)), Oe 38 (.faddr 5 (.t 1)) 37 false, Oe 39 (.load (.t 38)) 37 false, Oe 40 (.len false (.t 39)) 37 false, Oe 41 (.bin .gtr (.t 40) (.c (.int .i64 50))) 37 false, Oa 42 (.pick (.t 37) (.c (.bool true)) (.t 41)), Oa 43 (.mv (.t 42)), Oe 44 (.faddr 6 (.t 1)) 43 false, Oe 45 (.load (.t 44)) 43 false, Oe 46 (.len false (.t 45)) 43 false, Oe 47 (.bin .gtr (.t 46) (.c (.int .i64 500))) 43 false, Oa 48 (.pick (.t 43) (.c (.bool true)) (.t 47))]
abbrev qax2 : List SOper := [Oa 2 (.mv (.c (.bool true)))]
abbrev qax1 : List SOper := [Oa 3 (.mv (.c (.int .i64 0)))]
abbrev qax0 : List SOper := [Oa 49 (.mv (.t 3)), Oa 50 (.faddr 0 (.t 1)), Oa 51 (.load (.t 50)), Oa 52 (.len false (.t 51)), Oa 53 (.bin .lss (.t 49) (.t 52))]
abbrev qaxz : List SOper := [Oa 56 (.faddr 0 (.t 1)), Oa 57 (.load (.t 56)), Oa 58 (.mv (.t 3)), Oa 59 (.iaddr 1 (.t 57) (.t 58)), Oa 60 (.faddr 0 (.t 59)), Oa 61 (.load (.t 60)), Oa 62 (.len false (.t 61)), Oa 63 (.bin .gtr (.t 62) (.c (.int .i64 500)))]
abbrev qaxy : List SOper := [Oa 2 (.mv (.c (.bool true)))]
abbrev qaxx : List SOper := [Oa 54 (.mv (.t 3)), Oa 55 (.bin .add (.t 54) (.c (.int .i64 1))), Oa 3 (.mv (.t 55))]
def qaj4 : SCode := (.seq (.seq (.reg false qax0 [1, 3, 53]) (.cond (.t 53) .skip (.exit 0))) (.seq (.block 1 (.seq (.reg false qaxz [1, 3, 63]) (.cond (.t 63) (.seq (.reg false qaxy [2]) .ret) .skip))) (.reg false qaxx [1, 3])))
abbrev qaxw : List SOper := [Oa 4 (.mv (.c (.int .i64 0)))]
abbrev qarz : List SOper := [Oa 64 (.mv (.t 4)), Oa 65 (.faddr 2 (.t 1)), Oa 66 (.load (.t 65)), Oa 67 (.len false (.t 66)), Oa 68 (.bin .lss (.t 64) (.t 67))]
abbrev qary : List SOper := [Oa 71 (.faddr 2 (.t 1)), Oa 72 (.load (.t 71)), Oa 73 (.mv (.t 4)), Oa 74 (.iaddr 5 (.t 72) (.t 73)), Oa 75 (.faddr 3 (.t 74)), Oa 76 (.load (.t 75)), Oa 77 (.len false (.t 76)), Oa 78 (.bin .gtr (.t 77) (.c (.int .i64 500)))]
abbrev qarx : List SOper := [Oa 2 (.mv (.c (.bool true)))]
abbrev qarw : List SOper := [Oa 69 (.mv (.t 4)), Oa 70 (.bin .add (.t 69) (.c (.int .i64 1))), Oa 4 (.mv (.t 70))]
def qaj3 : SCode := (.seq (.seq (.reg false qarz [1, 4, 68]) (.cond (.t 68) .skip (.exit 2))) (.seq (.block 3 (.seq (.reg false qary [1, 4, 78]) (.cond (.t 78) (.seq (.reg false qarx [2]) .ret) .skip))) (.reg false qarw [1, 4])))
abbrev qarv : List SOper := [Oa 5 (.mv (.c (.int .i64 0)))]
abbrev qaru : List SOper := [Oa 79 (.mv (.t 5)), Oa 80 (.faddr 3 (.t 1)), Oa 81 (.load (.t 80)), Oa 82 (.len false (.t 81)), Oa 83 (.bin .lss (.t 79) (.t 82))]
abbrev qart : List SOper := [Oa 86 (.faddr 3 (.t 1)), Oa 87 (.load (.t 86)), Oa 88 (.mv (.t 5)), Oa 89 (.iaddr 2 (.t 87) (.t 88)), Oa 90 (.faddr 0 (.t 89)), Oa 91 (.load (.t 90)), Oa 92 (.len false (.t 91)), Oa 93 (.bin .gtr (.t 92) (.c (.int .i64 500))), Oa 94 (.mv (.t 93)), Oe 95 (.faddr 3 (.t 1)) 94 false, Oe 96 (.load (.t 95)) 94 false, Oe 97 (.mv (.t 5)) 94 false, Oe 98 (.iaddr 2 (.t 96) (.t 97)) 94 false, Oe 99 (.faddr 1 (.t 98)) 94 false, Oe 100 (.load (.t 99)) 94 false, Oe 101 (.len false (.t 100)) 94 false, Oe 102 (.bin .gtr (.t 101) (.c (.int .i64 50))) 94 false, Oa 103 (.pick (.t 94) (.c (.bool true)) (.t 102))]
abbrev qars : List SOper := [Oa 2 (.mv (.c (.bool true)))]
abbrev qarr : List SOper := [Oa 6 (.mv (.c (.int .i64 0)))]
abbrev qarq : List SOper := [Oa 104 (.mv (.t 6)), Oa 105 (.faddr 3 (.t 1)), Oa 106 (.load (.t 105)), Oa 107 (.mv (.t 5)), Oa 108 (.iaddr 2 (.t 106) (.t 107)), Oa 109 (.faddr 1 (.t 108)), Oa 110 (.load (.t 109)), Oa 111 (.len false (.t 110)), Oa 112 (.bin .lss (.t 104) (.t 111))]
abbrev qarp : List SOper := [Oa 115 (.faddr 3 (.t 1)), Oa 116 (.load (.t 115)), Oa 117 (.mv (.t 5)), Oa 118 (.iaddr 2 (.t 116) (.t 117)), Oa 119 (.faddr 1 (.t 118)), Oa 120 (.load (.t 119)), Oa 121 (.mv (.t 6)), Oa 122 (.iaddr 5 (.t 120) (.t 121)), Oa 123 (.faddr 4 (.t 122)), Oa 124 (.load (.t 123)), Oa 125 (.len false (.t 124)), Oa 126 (.bin .gtr (.t 125) (.c (.int .i64 500)))]
abbrev qaro : List SOper := [Oa 2 (.mv (.c (.bool true)))]
abbrev qarn : List SOper := [Oa 113 (.mv (.t 6)), Oa 114 (.bin .add (.t 113) (.c (.int .i64 1))), Oa 6 (.mv (.t 114))]
def qaj2 : SCode := (.seq (.seq (.reg false qarq [1, 5, 6, 112]) (.cond (.t 112) .skip (.exit 6))) (.seq (.block 7 (.seq (.reg false qarp [1, 5, 6, 126]) (.cond (.t 126) (.seq (.reg false qaro [2]) .ret) .skip))) (.reg false qarn [1, 5, 6])))
abbrev qarm : List SOper := [Oa 84 (.mv (.t 5)), Oa 85 (.bin .add (.t 84) (.c (.int .i64 1))), Oa 5 (.mv (.t 85))]
def qaj1 : SCode := (.seq (.seq (.reg false qaru [1, 5, 83]) (.cond (.t 83) .skip (.exit 4))) (.seq (.block 5 (.seq (.seq (.reg false qart [1, 5, 103]) (.cond (.t 103) (.seq (.reg false qars [2]) .ret) .skip)) (.seq (.reg false qarr [1, 5, 6]) (.block 6 (.loop qaj2))))) (.reg false qarm [1, 5])))
abbrev qarl : List SOper := [Oa 7 (.mv (.c (.int .i64 0)))]
abbrev qark : List SOper := [Oa 127 (.mv (.t 7)), Oa 128 (.faddr 4 (.t 1)), Oa 129 (.load (.t 128)), Oa 130 (.len false (.t 129)), Oa 131 (.bin .lss (.t 127) (.t 130))]
abbrev qarj : List SOper := [Oa 134 (.faddr 4 (.t 1)), Oa 135 (.load (.t 134)), Oa 136 (.mv (.t 7)), Oa 137 (.iaddr 6 (.t 135) (.t 136)), Oa 138 (.faddr 1 (.t 137)), Oa 139 (.load (.t 138)), Oa 140 (.len false (.t 139)), Oa 141 (.bin .gtr (.t 140) (.c (.int .i64 500))), Oa 142 (.mv (.t 141)), Oe 143 (.faddr 4 (.t 1)) 142 false, Oe 144 (.load (.t 143)) 142 false, Oe 145 (.mv (.t 7)) 142 false, Oe 146 (.iaddr 6 (.t 144) (.t 145)) 142 false, Oe 147 (.faddr 2 (.t 146)) 142 false, Oe 148 (.load (.t 147)) 142 false, Oe 149 (.len false (.t 148)) 142 false, Oe 150 (.bin .gtr (.t 149) (.c (.int .i64 500))) 142 false, Oa 151 (.pick (.t 142) (.c (.bool true)) (.t 150)), Oa 152 (.mv (.t 151)), Oe 153 (.faddr 4 (.t 1)) 152 false, Oe 154 (.load (.t 153)) 152 false, Oe 155 (.mv (.t 7)) 152 false, Oe 156 (.iaddr 6 (.t 154) (.t 155)) 152 false, Oe 157 (.faddr 5 (.t 156)) 152 false, Oe 158 (.load (.t 157)) 152 false, Oe 159 (.len false (.t 158)) 152 false, Oe 160 (.bin .gtr (.t 159) (.c (.int .i64 500))) 152 false, Oa 161 (.pick (.t 152) (.c (.bool true)) (.t 160))]
abbrev qari : List SOper := [Oa 2 (.mv (.c (.bool true)))]
abbrev qarh : List SOper := [Oa 132 (.mv (.t 7)), Oa 133 (.bin .add (.t 132) (.c (.int .i64 1))), Oa 7 (.mv (.t 133))]
def qaj0 : SCode := (.seq (.seq (.reg false qark [1, 7, 131]) (.cond (.t 131) .skip (.exit 8))) (.seq (.block 9 (.seq (.reg false qarj [1, 7, 161]) (.cond (.t 161) (.seq (.reg false qari [2]) .ret) .skip))) (.reg false qarh [1, 7])))
abbrev qarg : List SOper := [Oa 8 (.mv (.c (.int .i64 0)))]
abbrev qarf : List SOper := [Oa 162 (.mv (.t 8)), Oa 163 (.faddr 5 (.t 1)), Oa 164 (.load (.t 163)), Oa 165 (.len false (.t 164)), Oa 166 (.bin .lss (.t 162) (.t 165))]
abbrev qare : List SOper := [Oa 169 (.faddr 5 (.t 1)), Oa 170 (.load (.t 169)), Oa 171 (.mv (.t 8)), Oa 172 (.iaddr 5 (.t 170) (.t 171)), Oa 173 (.faddr 2 (.t 172)), Oa 174 (.load (.t 173)), Oa 175 (.len false (.t 174)), Oa 176 (.bin .gtr (.t 175) (.c (.int .i64 500)))]
abbrev qard : List SOper := [Oa 2 (.mv (.c (.bool true)))]
abbrev qarc : List SOper := [Oa 167 (.mv (.t 8)), Oa 168 (.bin .add (.t 167) (.c (.int .i64 1))), Oa 8 (.mv (.t 168))]
def qajz : SCode := (.seq (.seq (.reg false qarf [1, 8, 166]) (.cond (.t 166) .skip (.exit 10))) (.seq (.block 11 (.seq (.reg false qare [1, 8, 176]) (.cond (.t 176) (.seq (.reg false qard [2]) .ret) .skip))) (.reg false qarc [1, 8])))
abbrev qarb : List SOper := [Oa 2 (.mv (.c (.bool false)))]
def c_gplan : SCode := (.seq (.reg false qax4 [1]) (.seq (.seq (.reg false qax3 [1, 48]) (.cond (.t 48) (.seq (.reg false qax2 [2]) .ret) .skip)) (.seq (.seq (.reg false qax1 [1, 3]) (.block 0 (.loop qaj4))) (.seq (.seq (.reg false qaxw [1, 4]) (.block 2 (.loop qaj3))) (.seq (.seq (.reg false qarv [1, 5]) (.block 4 (.loop qaj1))) (.seq (.seq (.reg false qarl [1, 7]) (.block 8 (.loop qaj0))) (.seq (.seq (.reg false qarg [1, 8]) (.block 10 (.loop qajz))) (.seq (.reg false qarb [2]) .ret))))))))
theorem qak1 : comp Try.prog 177 ((Try.f9.body).getD .skip) = some c_gplan.erase := by kernel_rfl
end Go.Proofs.Yticeaegpkpjjeaa
namespace Go.Proofs.Yticeaegpkpjjeaa
set_option linter.all false
open Go.RowKit
attribute [local simp] qabj qabi qaaw qaa2 qaax qaa1 qabg qabh qaap qab2 SOp.run SX.ev putd puts argS upds SOp.touch SSt.keep SSt.skip gets geth puth delh idOf SV.cells? setL qadu qadv sbin eq0 eq1 eqL qadr qacr qacs qaau qabk qaaf qabl qab3 qaai qaak FrzOk qaa5 qaaz qaa3 qaa4 qaaq qaay qabm qaa0 qaas qaa6 qaar frzS frzH frz frz1 frz0 SlotsM ObjsM ObjM rn ren ren1 ren0 qab6 qacp qacu qab5 qabn qacv qact CoL qaa7 qab7 dels adds idsH qabt
attribute [local simp] qaeh refc qaee qaea qacl opc actc tabc qaef qacc nums
instance pureR_take (fs : List (List SV)) [PureR fs] (i : Nat) : PureR (fs.take i) := ⟨fun σ => by rw [List.map_take, PureR.ren], fun x hx => PureR.ok x (List.mem_of_mem_take hx), fun x hx => PureR.pure x (List.mem_of_mem_take hx)⟩
theorem qa4w : qagq Try.prog 29 = some true := by kernel_rfl
theorem qay2 : qaby Try.prog 29 = some 7 := by kernel_rfl
end Go.Proofs.Yticeaegpkpjjeaa
namespace Go.Proofs.Yticeaegpkpjjeaa
set_option linter.all false
open Go.RowKit
attribute [local simp] qabj qabi qaaw qaa2 qaax qaa1 qabg qabh qaap qab2 SOp.run SX.ev putd puts argS upds SOp.touch SSt.keep SSt.skip gets geth puth delh idOf SV.cells? setL qadu qadv sbin eq0 eq1 eqL qadr qacr qacs qaau qabk qaaf qabl qab3 qaai qaak FrzOk qaa5 qaaz qaa3 qaa4 qaaq qaay qabm qaa0 qaas qaa6 qaar frzS frzH frz frz1 frz0 SlotsM ObjsM ObjM rn ren ren1 ren0 qab6 qacp qacu qab5 qabn qacv qact CoL qaa7 qab7 dels adds idsH qabt
attribute [local simp] qaeh refc qaee qaea qacl opc actc tabc qaef qacc nums setc
theorem qa4v : qagq Try.prog 45 = some true := by kernel_rfl
theorem qay1 : qaby Try.prog 45 = some 5 := by kernel_rfl
instance : PureF setc := ⟨fun _ _ => rfl, fun _ => rfl, fun _ => qaba _ rfl⟩
theorem wjoin_s (s t : SetsD) (q : Nat) : SCalls Try.prog 129 [.agg (setc s), .agg (setc t)] [] q (.agg (setc (qa2a s t))) [] := by
 refine qabs ?_ (fun _ => rfl) (fun _ => rfl) rfl q
 refine qaal (N := 30) Try.func129 rfl rfl (by kernel_rfl) qakm (by simp) (by repeat' (first | exact trivial | refine And.intro ?_ ?_ | rfl | decide | exact PureR.ren _)) (by repeat' (first | exact trivial | refine And.intro ?_ ?_ | rfl | decide | exact PureR.ren _)) ?_
 rintro X hP hN hm
 unfold c_wjoin qa2a
 cases hs : s.there
 all_goals
  repeat' (first | (with_reducible refine zA ?_) | ((with_reducible refine qaad ?_); (try rw [hP]); simp -implicitDefEqProofs [qabq, qaca, *]) | ((with_reducible refine qaae ?_); (try simp -implicitDefEqProofs [qabq, qaca, *])) | ((with_reducible refine qaam ?_); (try simp only [qaau, qaaf, qaai])) | ((with_reducible refine qaab rfl (fun h => ?_) (fun h => ?_)) <;> have h' := h <;> (try simp at h') <;> (try subst h')) | (refine qa2g hm rfl rfl (by rw [hP]; exact qa4v) (by rw [hP]; exact qay1) rfl (CoL.refl _) ?_ (fun σ => rfl)) | fail)
  all_goals simp [lo, hi_]
theorem qa4t {h : Int} (h1 : h < 64) : ((bitB h).toNat : Int) = 2 ^ h.toNat := by
 unfold bitB
 have hlt : 2 ^ h.toNat < 2 ^ 64 := Nat.pow_lt_pow_right (by omega) (by omega)
 rw [BitVec.toNat_twoPow, Nat.mod_eq_of_lt hlt]
 push_cast; rfl
theorem qa1x {h : Int} (h0 : 0 ≤ h) (h1 : h < 64) : IntKind.u64.wrap (1 * 2 ^ min h.toNat IntKind.u64.bits) = ((bitB h).toNat : Int) := by
 have e : min h.toNat IntKind.u64.bits = h.toNat := Nat.min_eq_left (by show h.toNat ≤ 64; omega)
 rw [e, Int.one_mul, ← qa4t h1, qan4]
theorem qa2o (h : Int) (h0 : 0 ≤ h) (h1 : h < 64) (q : Nat) : SCalls Try.prog 91 [.int .i64 h] [] q (.int .u64 (bitB h).toNat) [] := by
 refine qabs ?_ (fun _ => rfl) (fun _ => rfl) rfl q
 refine qaal (N := 5) Try.func91 rfl rfl (by kernel_rfl) qaoq (by simp) (by repeat' (first | exact trivial | refine And.intro ?_ ?_ | rfl | decide | exact PureR.ren _)) (by repeat' (first | exact trivial | refine And.intro ?_ ?_ | rfl | decide | exact PureR.ren _)) ?_
 rintro X hP hN hm
 unfold c_wbit
 have e := qa1x h0 h1
 rw [Int.one_mul] at e
 repeat' (first | (with_reducible refine zA ?_) | ((with_reducible refine qaad ?_); (try rw [hP]); simp -implicitDefEqProofs [*]) | ((with_reducible refine qaam ?_); (try simp only [qaau, qaaf, qaai])) | (with_reducible refine zM hm ?_) | fail)
 all_goals rfl
def wc (p : PlanD) (n : Nat) (a b : Int) : List SV := qacc p ++ [.own 1 n, .int .i64 a, .int .i64 b]
attribute [local simp] wc
abbrev qagr (l : List SetsD) : SObj := .row 45 5 (l.map setc)
theorem qa42 {X : Cx} {sl : Sl} {hp : Hp} {nx n : Nat} {p : PlanD} {a b : Int} {cs : List SV} {es : List (List SV)} {l : List SetsD} (hm : X.m = 2) (h0 : geth hp 0 = some (.cells 119 cs)) (h1 : geth hp 1 = some (.row 45 5 es)) (e0 : cs = wc p n a b) (e1 : es = l.map setc) : QFun X [] 2 (.tup []) [(0, .cells 119 (wc p n a b)), (1, qagr l)] .normal ⟨sl, hp, nx⟩ := by
 subst e0 e1
 refine ⟨⟨[], [(0, .cells 119 (wc p n a b)), (1, qagr l)], 2⟩, ?_, rfl, ⟨rfl, rfl, trivial⟩, by simp⟩
 exact qaag [] hm trivial ⟨⟨_, h0, rfl, CoL.refl _⟩, ⟨_, h1, rfl, rfl, by rw [qas8]; exact CoLL.refl _⟩, trivial⟩ rfl (Nat.le_refl _)
theorem fin_wr {X : Cx} {sl : Sl} {hp : Hp} {nx n : Nat} {p : PlanD} {a b : Int} {cs : List SV} {es : List (List SV)} {l : List SetsD} (hm : X.m = 2) (h0 : geth hp 0 = some (.cells 119 cs)) (h1 : geth hp 1 = some (.row 45 5 es)) (e0 : cs = wc p n a b) (e1 : es = l.map setc) : QFun X [] 2 (.tup []) [(0, .cells 119 (wc p n a b)), (1, qagr l)] .ret ⟨sl, hp, nx⟩ := qa42 hm h0 h1 e0 e1
theorem wfail_s (p : PlanD) (n : Nat) (a b : Int) (l : List SetsD) (is : Bool) (code at_ : Int) : SCalls Try.prog 90 [.ptr 0 0, .bool is, .int .i64 code, .int .i64 at_] [(0, .cells 119 (wc p n a b)), (1, qagr l)] 2 (.tup []) [(0, .cells 119 (wc p n (qab4 a b is code at_).1 (qab4 a b is code at_).2)), (1, qagr l)] := by
 refine qaal (N := 23) Try.func90 rfl rfl (by kernel_rfl) qako (by simp) (by repeat' (first | exact trivial | refine And.intro ?_ ?_ | rfl | decide | exact PureR.ren _)) (by repeat' (first | exact trivial | refine And.intro ?_ ?_ | rfl | decide | exact PureR.ren _)) ?_
 rintro X hP hN hm
 unfold c_wfail
 repeat' (first | (with_reducible refine zA ?_) | ((with_reducible refine qaad ?_); (try rw [hP]); simp -implicitDefEqProofs [*]) | ((with_reducible refine qaae ?_); (try simp -implicitDefEqProofs [*])) | ((with_reducible refine qaab rfl (fun h => ?_) (fun h => ?_)) <;> have h' := h <;> (try simp at h') <;> (try subst h')) | ((with_reducible refine qaa9 (fun h => ?_) (fun h => ?_)) <;> have h' := h <;> (try simp at h') <;> (try subst h') <;> simp -implicitDefEqProofs [*]) | (refine qa42 hm rfl rfl ?_ rfl) | fail)
 all_goals (first | (simp [qab4, *]; done) | (simp_all [qab4]; done) | (simp_all [qab4]; omega))
theorem wto_s (p : PlanD) (a b : Int) (l : List SetsD) (k : Int) (s : SetsD) (hn : p.states.length ≤ 1000) (hl : l.length = p.states.length + 1) (hk : 0 ≤ tgt p.states.length k) : SCalls Try.prog 92 [.ptr 0 0, .int .i64 k, .agg (setc s)] [(0, .cells 119 (wc p l.length a b)), (1, qagr l)] 2 (.tup []) [(0, .cells 119 (wc p l.length a b)), (1, qagr (toS p.states.length l k s))] := by
 refine qaal (N := 37) Try.func92 rfl rfl (by kernel_rfl) qaub (by simp) (by repeat' (first | exact trivial | refine And.intro ?_ ?_ | rfl | decide | exact PureR.ren _)) (by repeat' (first | exact trivial | refine And.intro ?_ ?_ | rfl | decide | exact PureR.ren _)) ?_
 rintro X hP hN hm
 unfold c_wto
 obtain ⟨K, hK⟩ : ∃ K, tgt p.states.length k = K := ⟨_, rfl⟩
 rw [hK] at hk
 by_cases hle : K ≤ p.states.length
 ·have hlt : K.toNat < l.length := by omega
  have hset : (l.map setc).set K.toNat (setc (qa2a l[K.toNat] s)) = (toS p.states.length l k s).map setc := by
   unfold toS
   rw [hK, if_pos hle, List.map_set]
   congr 2
   rw [List.getD_eq_getElem?_getD, List.getElem?_eq_getElem hlt]; rfl
  have k2 : decide (K ≤ (p.states.length : Int)) = true := by simpa using hle
  have hj := fun q => wjoin_s l[K.toNat] s q
  generalize toS p.states.length l k s = L at hset
  have hget : l[K.toNat]? = some l[K.toNat] := List.getElem?_eq_getElem hlt
  generalize l[K.toNat] = x at hset hj hget
  generalize hjj : qa2a x s = y at hset hj
  replace hj := Lib.hid hj
  unfold tgt at hK
  cases k1 : (k == 1000)
  ·have e : k = K := by rw [if_neg (by simpa using k1)] at hK; exact hK
   subst e
   repeat' (first | (with_reducible first | refine zA ?_ | refine zK ?_) | ((with_reducible first | refine qaad ?_ | refine qaa8 (by rw [hP]; exact qadn) ?_); (try rw [hP]); simp -implicitDefEqProofs [*]) | ((with_reducible refine qaae ?_); (try simp -implicitDefEqProofs [*])) | ((with_reducible refine qaab rfl (fun h => ?_) (fun h => ?_)) <;> have h' := h <;> (try simp at h') <;> (try subst h')) | ((with_reducible refine qabw ?_ ?_); (first | omega | (unfold maxLen; omega)); simp -implicitDefEqProofs [*]) | (refine qabb (hj.out _) ?_; simp -implicitDefEqProofs [*]) | (refine qa42 hm rfl rfl ?_ ?_) | fail)
   ·rfl
   ·exact hset
  ·have e : (p.states.length : Int) = K := by rw [if_pos (by simpa using k1)] at hK; exact hK
   subst e
   have hget2 : l[p.states.length]? = some x := by simpa using hget
   have hget3 : l[p.states.length]'(by omega) = x := by rw [List.getElem?_eq_getElem (by omega)] at hget2; exact Option.some.inj hget2
   have hset2 : (l.map setc).set p.states.length (setc y) = L.map setc := by simpa using hset
   replace hset := Lib.hid hset
   repeat' (first | (with_reducible first | refine zA ?_ | refine zK ?_) | ((with_reducible first | refine qaad ?_ | refine qaa8 (by rw [hP]; exact qadn) ?_); (try rw [hP]); simp -implicitDefEqProofs [*]) | ((with_reducible refine qaab rfl (fun h => ?_) (fun h => ?_)) <;> have h' := h <;> (try simp at h') <;> (try subst h')) | ((with_reducible refine qabw ?_ ?_); (first | omega | (unfold maxLen; omega)); simp -implicitDefEqProofs [*]) | (refine qabb (hj.out _) ?_; simp -implicitDefEqProofs [*]) | (refine qa42 hm rfl rfl ?_ ?_) | fail)
   ·rfl
   ·exact hset2
 ·have hL : toS p.states.length l k s = l := by unfold toS; rw [hK, if_neg hle]
  rw [hL]
  have k2 : decide (K ≤ (p.states.length : Int)) = false := by simpa using hle
  unfold tgt at hK
  cases k1 : (k == 1000)
  ·have e : k = K := by rw [if_neg (by simpa using k1)] at hK; exact hK
   subst e
   repeat' (first | (with_reducible refine zA ?_) | ((with_reducible refine qaad ?_); (try rw [hP]); simp -implicitDefEqProofs [*]) | ((with_reducible refine qaae ?_); (try simp -implicitDefEqProofs [*])) | ((with_reducible refine qaab rfl (fun h => ?_) (fun h => ?_)) <;> have h' := h <;> (try simp at h') <;> (try subst h')) | (refine qa42 hm rfl rfl ?_ rfl) | fail)
   all_goals rfl
  ·have e : (p.states.length : Int) = K := by rw [if_pos (by simpa using k1)] at hK; exact hK
   omega
end Go.Proofs.Yticeaegpkpjjeaa
namespace Go.Proofs.Yticeaegpkpjjeaa
set_option linter.all false
open Go.RowKit
attribute [local simp] qabj qabi qaaw qaa2 qaax qaa1 qabg qabh qaap qab2 SOp.run SX.ev putd puts argS upds SOp.touch SSt.keep SSt.skip gets geth puth delh idOf SV.cells? setL qadu qadv sbin eq0 eq1 eqL qadr qacr qacs qaau qabk qaaf qabl qab3 qaai qaak FrzOk qaa5 qaaz qaa3 qaa4 qaaq qaay qabm qaa0 qaas qaa6 qaar frzS frzH frz frz1 frz0 SlotsM ObjsM ObjM rn ren ren1 ren0 qab6 qacp qacu qab5 qabn qacv qact CoL qaa7 qab7 dels adds idsH qabt
attribute [local simp] qaeh refc qaee qaea qacl opc actc tabc qaef qacc nums setc wc
theorem qaf3 {P : Program} {f : FuncId} {args args' : List SV} {t : TypeId} {cs ds cs' ds' : List SV} {e z : Nat} {es fs : List (List SV)} [PureR es] [PureR fs] (h : SCalls P f args [(0, .cells t cs), (1, .row e z es)] 2 (.tup []) [(0, .cells t ds), (1, .row e z fs)]) (i j q : Nat) (hij : i ≠ j) (hi : i < q) (hj : j < q)
  (ha : args' = args.map (ren (sg [i, j] q))) (hc : cs' = cs.map (ren (sg [i, j] q))) (hd : ds' = ds.map (ren (sg [i, j] q))) (hok : ds.all ok2 = true) : SCalls P f args' [(i, .cells t cs'), (j, .row e z es)] q (.tup []) [(i, .cells t ds'), (j, .row e z fs)] := by
 have e0 : sg [i, j] q 0 = i := rfl
 have e1 : sg [i, j] q 1 = j := rfl
 refine qac6 [i, j] h rfl (by simp [hij]) (by simp; omega) ha ?_ (by simp [idsH]) rfl rfl ?_ (by simp [idsH]) (by simp [idsH, e0, e1])
 ·refine ⟨⟨.cells t cs', by rw [e0]; simp [geth], rfl, by rw [hc]; exact CoL.refl _⟩, ⟨.row e z es, by rw [e1]; simp [geth, hij], rfl, rfl, by rw [PureR.ren]; exact CoLL.refl _⟩, trivial⟩
 ·exact ⟨⟨.cells t ds', by rw [e0]; simp [geth], rfl, hok, hd⟩, ⟨.row e z fs, by rw [e1]; simp [geth, hij], rfl, rfl, PureR.ok, (PureR.ren _).symm⟩, trivial⟩
theorem qady (p : PlanD) (n : Nat) (a b : Int) (l : List SetsD) (is : Bool) (code at_ : Int) (q : Nat) (hq : 2 ≤ q) : SCalls Try.prog 90 [.ptr 0 0, .bool is, .int .i64 code, .int .i64 at_] [(0, .cells 119 (wc p n a b)), (1, qagr l)] q (.tup []) [(0, .cells 119 (wc p n (qab4 a b is code at_).1 (qab4 a b is code at_).2)), (1, qagr l)] :=
 qaf3 (wfail_s p n a b l is code at_) 0 1 q (by decide) (by omega) (by omega) rfl rfl rfl rfl
theorem qa35 (p : PlanD) (a b : Int) (l : List SetsD) (n : Nat) (hln : l.length = n) (k : Int) (s : SetsD) (hn : p.states.length ≤ 1000) (hl : l.length = p.states.length + 1) (hk : 0 ≤ tgt p.states.length k) (q : Nat) (hq : 2 ≤ q) : SCalls Try.prog 92 [.ptr 0 0, .int .i64 k, .agg (setc s)] [(0, .cells 119 (wc p n a b)), (1, qagr l)] q (.tup []) [(0, .cells 119 (wc p n a b)), (1, qagr (toS p.states.length l k s))] := by
 subst hln
 exact qaf3 (wto_s p a b l k s hn hl hk) 0 1 q (by decide) (by omega) (by omega) rfl rfl rfl rfl
theorem qac8 (v : BitVec 64) : ((v.toNat : Int) != 0) = (v != 0) := by
 have := qa1m (v := v) (w := 0)
 rw [Bool.eq_iff_iff, bne_iff_ne, bne_iff_ne]
 exact not_congr this
theorem qac9 (v : BitVec 64) : ((v.toNat : Int) == 0) = (v == 0) := by
 have := qa1m (v := v) (w := 0)
 rw [Bool.eq_iff_iff, beq_iff_eq, beq_iff_eq]
 exact this
theorem qa4s {h : Int} (h1 : h < 64) (j : Nat) : (bitB h).getLsbD j = decide (h.toNat = j) := by
 unfold bitB
 rw [BitVec.getLsbD_twoPow]
 by_cases e : h.toNat = j <;> simp [e]
 omega
theorem gone_eq {h o : Int} (h0 : 0 ≤ h ∧ h < 64) (ho : 0 ≤ o ∧ o < 64) (m : BitVec 64) : ((m ||| bitB h) &&& bitB o == 0) = (o != h && (m &&& bitB o == 0)) := by
 by_cases e : o = h
 ·subst e
  have : ¬ ((m ||| bitB o) &&& bitB o = 0) := fun hz => by
   have := congrArg (fun v => v.getLsbD o.toNat) hz
   simp [BitVec.getLsbD_and, BitVec.getLsbD_or, qa4s h0.2] at this
  simpa using this
 ·have e2 : (m ||| bitB h) &&& bitB o = m &&& bitB o := BitVec.eq_of_getLsbD_eq fun j hj => by
   rw [BitVec.getLsbD_and, BitVec.getLsbD_or, BitVec.getLsbD_and, qa4s h0.2, qa4s ho.2]
   by_cases q1 : o.toNat = j
   ·have q2 : ¬ h.toNat = j := by omega
    simp [q1, q2]
   ·simp [q1]
  have e3 : (o != h) = true := by simpa using e
  rw [e2, e3, Bool.true_and]
theorem qazd (a b at_ : Int) (s : StateD) (x : SetsD) (hx : x.there = true) (c1 c2 : Bool) (h1 : (decide (0 ≤ s.head) && (x.may &&& bitB s.head != 0)) = c1) (h2 : (decide (0 < s.cases_.length) && (decide (0 ≤ s.on.h) && (s.on.h != s.head && (x.must &&& bitB s.on.h == 0)))) = c2) :
  orF (a, b) (refC s x, at_) = qab4 (qab4 a b c1 7 at_).1 (qab4 a b c1 7 at_).2 c2 12 at_ := by
 unfold refC
 rw [if_neg (by rw [hx]; decide), h1, h2, qaci _ _ _ _ _ _ (by decide)]
 refine (qaci _ _ _ _ _ _ (by decide)).trans ?_
 exact qacd _ rfl
set_option maxHeartbeats 4000000 in
theorem qa2k (p : PlanD) (hp : PlOk p) (hk : qaid p) (i : Nat) (hi : i < p.states.length) (a b : Int) (l : List SetsD) (hl : l.length = p.states.length + 1) (hb : 0 ≤ (l.getD i qad8).least ∧ (l.getD i qad8).least ≤ 256 ∧ 0 ≤ (l.getD i qad8).most ∧ (l.getD i qad8).most ≤ 256) :
  SCalls Try.prog 45 [.ptr 0 0, .int .i64 i] [(0, .cells 119 (wc p (p.states.length + 1) a b)), (1, qagr l)] 2 (.tup []) [(0, .cells 119 (wc p (p.states.length + 1) (orF (a, b) (refC p.states[i] (l.getD i qad8), 3000 + i)).1 (orF (a, b) (refC p.states[i] (l.getD i qad8), 3000 + i)).2)), (1, qagr (qaii p p.states[i] i l))] := by
 refine qaal (N := 116) Try.func45 rfl rfl (by kernel_rfl) qaix (by simp) (by repeat' (first | exact trivial | refine And.intro ?_ ?_ | rfl | decide | exact PureR.ren _)) (by repeat' (first | exact trivial | refine And.intro ?_ ?_ | rfl | decide | exact PureR.ren _)) ?_
 rintro X hP hN hm
 unfold c_wstate
 have hli : i < l.length := by omega
 have hy : l[i]? = some (l.getD i qad8) := by rw [List.getD_eq_getElem?_getD, List.getElem?_eq_getElem hli]; rfl
 have hn := hp.states.2
 have ok := hp.ok i hi
 have hh6 := hp.heads
 have hts : ∀ t ∈ qac5 p.states[i], 0 ≤ tgt p.states.length t := fun t ht => by have := qayy ok hi hn ht; omega
 have hmem : p.states[i] ∈ p.states := List.getElem_mem hi
 have hS : qaii p p.states[i] i l = if (l.getD i qad8).there then (qac5 p.states[i]).foldl (fun m k => toS p.states.length m k (qa1v p p.states[i].head (l.getD i qad8))) l else l := rfl
 have hok1 := ok.head
 have hok2 := ok.on
 have hok3 := ok.cases_
 have hget3 : l[i]'hli = l.getD i qad8 := by rw [List.getD_eq_getElem?_getD, List.getElem?_eq_getElem hli]; rfl
 generalize l.getD i qad8 = y at hy hb hS hget3
 generalize hxx : p.states[i] = x at hts hS hok1 hok2 hok3
 clear ok hmem
 have wa : IntKind.i64.wrap (3000 + (i : Int)) = 3000 + (i : Int) := qaav (by omega) (by omega)
 cases hth : y.there
 ·rw [hth, if_neg (by decide)] at hS
  have hR : refC x y = 0 := by unfold refC; rw [if_pos hth]
  rw [hS, hR, show orF (a, b) (0, 3000 + (i : Int)) = (a, b) from qacd _ rfl]
  replace hS := Lib.hid hS
  replace hts := Lib.hid hts
  repeat' (first | (with_reducible first | refine zA ?_ | refine zK ?_) | ((with_reducible first | refine qaad ?_ | refine qaa8 (by rw [hP]; exact qadn) ?_); (try rw [hP]); simp -implicitDefEqProofs [*]) | ((with_reducible refine qaam ?_); (try simp only [qaau, qaaf, qaai])) | ((with_reducible refine qaab rfl (fun h => ?_) (fun h => ?_)) <;> have h' := h <;> (try simp at h') <;> (try subst h')) | ((with_reducible refine qabw ?_ ?_); (first | omega | (unfold maxLen; omega)); simp -implicitDefEqProofs [*]) | (refine fin_wr hm rfl rfl ?_ rfl) | fail)
  all_goals rfl
 ·rw [hth, if_pos rfl] at hS
  have hG := fun c1 c2 h1 h2 => qazd a b (3000 + (i : Int)) x y hth c1 c2 h1 h2
  generalize orF (a, b) (refC x y, 3000 + (i : Int)) = G at hG
  obtain ⟨T, hT⟩ : ∃ T, qa1v p x.head y = T := ⟨_, rfl⟩
  rw [hT] at hS
  generalize qaii p x i l = L at hS
  have hTt : T.there = true := by rw [← hT]; unfold qa1v; split <;> first | rfl | exact hth
  have kn : decide (0 < x.cases_.length) = decide (0 < (x.cases_.length : Int)) := decide_eq_decide.2 (by omega)
  replace hS := Lib.hid hS
  replace hts := Lib.hid hts
  replace hG := Lib.hid hG
  have hto : ∀ (m : List SetsD) (hml : m.length = p.states.length + 1) (e g k : Int) (hk : 0 ≤ tgt p.states.length k) (q : Nat) (hq : 2 ≤ q), SCalls Try.prog 92 [.ptr 0 0, .int .i64 k, .agg [.int .u64 T.must.toNat, .int .u64 T.may.toNat, .int .i64 T.least, .int .i64 T.most, .bool true]] [(0, .cells 119 (wc p (p.states.length + 1) e g)), (1, qagr m)] q (.tup []) [(0, .cells 119 (wc p (p.states.length + 1) e g)), (1, qagr (toS p.states.length m k T))] := fun m hml e g k hk q hq => by
   have := qa35 p e g m _ hml k T (by omega) hml hk q hq
   unfold setc at this
   rw [hTt] at this
   exact this
  have loopL : ∀ e g, G = (e, g) → SWp X (SCode.block 0 c_wstate_l1.loop) (QSeq X (SCode.reg false qage []) (QFun X [] 2 (.tup []) [(0, .cells 119 (wc p (p.states.length + 1) G.1 G.2)), (1, qagr L)]))
    ⟨[(0, .ptr 0 0), (4, .ptr 17 0), (5, .ptr 18 0), (99, .view 3 (x.cases_.map qaea)), (100, .int .i64 x.cases_.length), (101, .int .i64 0)], [(0, .cells 119 (wc p (p.states.length + 1) e g)), (1, qagr l), (17, .cells 105 (qacl x)), (18, .cells 45 [.int .u64 T.must.toNat, .int .u64 T.may.toNat, .int .i64 T.least, .int .i64 T.most, .bool true])], 19⟩ := fun e g hge => by
   subst hge
   clear hG hget3 hb hth hTt hT
   replace hto := Lib.hid hto
   have h0 : L = (((x.cases_.drop 0).map CaseD.to_) ++ [x.els]).foldl (fun m k => toS p.states.length m k T) l := hS.out
   replace h0 := Lib.hid h0
   refine qaat (qabp (fun s (z : Nat × List SetsD) => s.turn [(101, .int .i64 z.1)] [(1, qagr z.2)]) (fun z => z.1 ≤ x.cases_.length ∧ z.2.length = p.states.length + 1 ∧ L = (((x.cases_.drop z.1).map CaseD.to_) ++ [x.els]).foldl (fun m k => toS p.states.length m k T) z.2) (fun z => x.cases_.length - z.1) (0, l) ?_ ⟨by simp, hl, h0.out⟩ ?_)
   ·repeat' (first | ((with_reducible refine qaag [] hm ?_ ?_ ?_ ?_) <;> (try simp only [zT, puth, Nat.reduceEqDiff, reduceIte, Nat.reduceAdd])) | (with_reducible first | refine za ?_ ?_ | refine zb ?_ ?_ ?_ ?_ | refine zc ?_ ?_ ?_ ?_) | (with_reducible first | exact qaaa | exact qaac) | ((with_reducible first | refine zga ?_ | refine zgb ?_); rfl) | ((with_reducible refine zgc ?_); (first | (with_reducible rfl) | rfl | (simp; done))) | ((with_reducible refine zgd ?_); (first | omega | (simp; done))) | (exact Co.refl _) | (exact CoL.refl _) | fail)
   rintro J hJ ⟨j, m⟩ ⟨h1, hml, h2⟩
   unfold c_wstate_l1
   simp only [zT, puth, Nat.reduceEqDiff, reduceIte, Nat.reduceAdd] at h1 hml h2 ⊢
   clear hl hy hli h0
   rcases Nat.lt_or_ge j x.cases_.length with hj | hj
   ·have htm : 0 ≤ tgt p.states.length x.cases_[j].to_ := hts.out _ (List.mem_append_left _ (List.mem_map.2 ⟨_, List.getElem_mem hj, rfl⟩))
    rw [List.drop_eq_getElem_cons hj, List.map_cons, List.cons_append, List.foldl_cons] at h2
    have hsl : (toS p.states.length m x.cases_[j].to_ T).length = p.states.length + 1 := by rw [qass, hml]
    generalize hcc : x.cases_[j] = c at h2 htm hsl
    have wj : IntKind.i64.wrap ((j : Int) + 1) = (j : Int) + 1 := qaav (by omega) (by omega)
    replace h2 := Lib.hid h2
    replace hsl := Lib.hid hsl
    replace hml := Lib.hid hml
    replace htm := Lib.hid htm
    repeat' (first | (with_reducible first | refine zA ?_ | refine qaah ?_) | ((with_reducible refine qaad ?_); (try rw [hP]); simp -implicitDefEqProofs [*]) | ((with_reducible refine qaae ?_); (try simp -implicitDefEqProofs [*])) | ((with_reducible refine qaab rfl (fun h => ?_) (fun h => ?_)) <;> have h' := h <;> (try simp at h') <;> (try subst h')) | (refine qabc (hto.out m hml.out _ _ c.to_ htm.out _ (by simp)) ⟨rfl, rfl, trivial⟩ ⟨rfl, rfl, trivial⟩ ?_; simp -implicitDefEqProofs [*]) | (with_reducible first | refine za ?_ ?_ | refine zb ?_ ?_ ?_ ?_ | refine zc ?_ ?_ ?_ ?_) | (with_reducible first | exact qaaa | exact qaac) | ((with_reducible first | refine zga ?_ | refine zgb ?_); rfl) | ((with_reducible refine zgc ?_); (first | (with_reducible rfl) | rfl | (simp; done))) | ((with_reducible first | refine zgd ?_ | refine zge ?_); (first | omega | (simp; done))) | (exact Co.refl _) | (exact CoL.refl _) | ((refine qaaj hJ (j + 1, toS p.states.length m c.to_ T) ?_ ?_ ?_; (with_reducible refine qaag [] hm ?_ ?_ ?_ ?_) <;> (try simp only [zT, puth, Nat.reduceEqDiff, reduceIte, Nat.reduceAdd]))) | fail)
    all_goals (exact ⟨by omega, hsl.out, h2.out⟩)
   ·obtain rfl : j = x.cases_.length := by omega
    rw [List.drop_length] at h2
    have h3 : L = toS p.states.length m x.els T := h2
    have htm : 0 ≤ tgt p.states.length x.els := hts.out _ (List.mem_append_right _ (by simp))
    replace h2 := Lib.hid h2
    replace h3 := Lib.hid h3
    replace hml := Lib.hid hml
    replace htm := Lib.hid htm
    repeat' (first | (with_reducible refine zA ?_) | ((with_reducible refine qaad ?_); (try rw [hP]); simp -implicitDefEqProofs [*]) | ((with_reducible refine qaao ?_); (try simp -implicitDefEqProofs [*])) | ((with_reducible refine qaab rfl (fun h => ?_) (fun h => ?_)) <;> have h' := h <;> (try simp at h') <;> (try subst h')) | (refine qabc (hto.out m hml.out _ _ x.els htm.out _ (by simp)) ⟨rfl, rfl, trivial⟩ ⟨rfl, rfl, trivial⟩ ?_; simp -implicitDefEqProofs [*]) | (refine qa42 hm rfl rfl ?_ ?_) | fail)
    ·rfl
    ·rw [h3.out]
  replace hto := Lib.hid hto
  replace loopL := Lib.hid loopL
  cases kh : decide (0 ≤ x.head)
  ·have hTy : T = y := by rw [← hT]; unfold qa1v; rw [if_neg (of_decide_eq_false kh)]
   subst hTy
   replace hT := Lib.hid hT
   replace hok2 := Lib.hid hok2
   have hd : x.head < 0 := by have := of_decide_eq_false kh; omega
   cases kc : decide (0 < (x.cases_.length : Int)) <;> rw [kc] at kn
   ·have hf := hG.out false false (by rw [kh]; rfl) (by rw [kn]; rfl)
    simp only [qabf] at hf
    replace hf := Lib.hid hf
    repeat' (first | (with_reducible first | refine zA ?_ | refine zK ?_) | ((with_reducible first | refine qaad ?_ | refine qaa8 (by rw [hP]; exact qadn) ?_); (try rw [hP]); simp -implicitDefEqProofs [-BitVec.toNat_and, -BitVec.toNat_or, qabq, qaca, qac8, qac9, *]) | ((with_reducible refine qaae ?_); (try simp -implicitDefEqProofs [-BitVec.toNat_and, -BitVec.toNat_or, qabq, qaca, qac8, qac9, *])) | ((with_reducible refine qaab rfl (fun h => ?_) (fun h => ?_)) <;> have h' := h <;> (try simp at h') <;> (try subst h')) | ((with_reducible refine qabw ?_ ?_); (first | omega | (unfold maxLen; omega)); simp -implicitDefEqProofs [-BitVec.toNat_and, -BitVec.toNat_or, qabq, qaca, qac8, qac9, *]) | fail)
    refine qacy ?_ (loopL.out _ _ hf.out)
    repeat' (first | ((with_reducible refine qaag [] hm ?_ ?_ ?_ ?_) <;> (try simp only [zT, puth, Nat.reduceEqDiff, reduceIte, Nat.reduceAdd])) | (with_reducible first | refine za ?_ ?_ | refine zb ?_ ?_ ?_ ?_ | refine zc ?_ ?_ ?_ ?_) | (with_reducible first | exact qaaa | exact qaac) | ((with_reducible first | refine zga ?_ | refine zgb ?_); rfl) | ((with_reducible refine zgc ?_); (first | (with_reducible rfl) | rfl | (simp; done))) | ((with_reducible refine zgd ?_); (first | omega | (simp; done))) | (exact Co.refl _) | (exact CoL.refl _) | fail)
   ·cases ko : decide (0 ≤ x.on.h)
    ·have hf := hG.out false false (by rw [kh]; rfl) (by rw [kn, ko]; rfl)
     simp only [qabf] at hf
     replace hf := Lib.hid hf
     repeat' (first | (with_reducible first | refine zA ?_ | refine zK ?_) | ((with_reducible first | refine qaad ?_ | refine qaa8 (by rw [hP]; exact qadn) ?_); (try rw [hP]); simp -implicitDefEqProofs [-BitVec.toNat_and, -BitVec.toNat_or, qabq, qaca, qac8, qac9, qabf, *]) | ((with_reducible refine qaae ?_); (try simp -implicitDefEqProofs [-BitVec.toNat_and, -BitVec.toNat_or, qabq, qaca, qac8, qac9, qabf, *])) | ((with_reducible refine qaab rfl (fun h => ?_) (fun h => ?_)) <;> have h' := h <;> (try simp at h') <;> (try subst h')) | ((with_reducible refine qabw ?_ ?_); (first | omega | (unfold maxLen; omega)); simp -implicitDefEqProofs [-BitVec.toNat_and, -BitVec.toNat_or, qabq, qaca, qac8, qac9, qabf, *]) | (refine qabc (qady p _ _ _ l _ _ _ _ (by simp)) ⟨rfl, rfl, trivial⟩ ⟨rfl, rfl, trivial⟩ ?_; simp -implicitDefEqProofs [-BitVec.toNat_and, -BitVec.toNat_or, qabq, qaca, qac8, qac9, qabf, *]) | fail)
     refine qacy ?_ (loopL.out _ _ hf.out)
     repeat' (first | ((with_reducible refine qaag [] hm ?_ ?_ ?_ ?_) <;> (try simp only [zT, puth, Nat.reduceEqDiff, reduceIte, Nat.reduceAdd])) | (with_reducible first | refine za ?_ ?_ | refine zb ?_ ?_ ?_ ?_ | refine zc ?_ ?_ ?_ ?_) | (with_reducible first | exact qaaa | exact qaac) | ((with_reducible first | refine zga ?_ | refine zgb ?_); rfl) | ((with_reducible refine zgc ?_); (first | (with_reducible rfl) | rfl | (simp; done))) | ((with_reducible refine zgd ?_); (first | omega | (simp; done))) | (exact Co.refl _) | (exact CoL.refl _) | fail)
    ·have hoh := hok2.out (by have := of_decide_eq_true kc; omega)
     have ho0 := of_decide_eq_true ko
     have hne : (x.on.h != x.head) = true := by rw [bne_iff_ne]; omega
     have hf := hG.out false _ (by rw [kh]; rfl) (by rw [kn, ko, hne, Bool.true_and, Bool.true_and, Bool.true_and])
     simp only [qabf] at hf
     have hbt := fun q => qa2o x.on.h ho0 (by omega) q
     replace hf := Lib.hid hf
     replace hbt := Lib.hid hbt
     clear hne
     repeat' (first | (with_reducible first | refine zA ?_ | refine zK ?_) | ((with_reducible first | refine qaad ?_ | refine qaa8 (by rw [hP]; exact qadn) ?_); (try rw [hP]); simp -implicitDefEqProofs [-BitVec.toNat_and, -BitVec.toNat_or, qabq, qaca, qac8, qac9, *]) | ((with_reducible refine qaae ?_); (try simp -implicitDefEqProofs [-BitVec.toNat_and, -BitVec.toNat_or, qabq, qaca, qac8, qac9, *])) | ((with_reducible refine qaab rfl (fun h => ?_) (fun h => ?_)) <;> have h' := h <;> (try simp at h') <;> (try subst h')) | ((with_reducible refine qabw ?_ ?_); (first | omega | (unfold maxLen; omega)); simp -implicitDefEqProofs [-BitVec.toNat_and, -BitVec.toNat_or, qabq, qaca, qac8, qac9, *]) | ((first | refine qabc (qady p _ _ _ l _ _ _ _ (by simp)) ⟨rfl, rfl, trivial⟩ ⟨rfl, rfl, trivial⟩ ?_ | refine qabb (hbt.out _) ?_); simp -implicitDefEqProofs [-BitVec.toNat_and, -BitVec.toNat_or, qabq, qaca, qac8, qac9, *]) | fail)
     refine qacy ?_ (loopL.out _ _ hf.out)
     repeat' (first | ((with_reducible refine qaag [] hm ?_ ?_ ?_ ?_) <;> (try simp only [zT, puth, Nat.reduceEqDiff, reduceIte, Nat.reduceAdd])) | (with_reducible first | refine za ?_ ?_ | refine zb ?_ ?_ ?_ ?_ | refine zc ?_ ?_ ?_ ?_) | (with_reducible first | exact qaaa | exact qaac) | ((with_reducible first | refine zga ?_ | refine zgb ?_); rfl) | ((with_reducible refine zgc ?_); (first | (with_reducible rfl) | rfl | (simp; done))) | ((with_reducible refine zgd ?_); (first | omega | (simp; done))) | (exact Co.refl _) | (exact CoL.refl _) | fail)
  ·have hh0 := of_decide_eq_true kh
   have hS2 := qaki hp hh0 hok1.2
   have hE : T = ⟨y.must ||| bitB x.head, y.may ||| bitB x.head, y.least + qael p x.head, y.most + qael p x.head, true⟩ := by rw [← hT]; unfold qa1v; rw [if_pos hh0]
   have hM : y.must ||| bitB x.head = T.must := by rw [hE]
   have hY : y.may ||| bitB x.head = T.may := by rw [hE]
   have hgeq : ∀ o, 0 ≤ o → o < 64 → (T.must &&& bitB o == 0) = (o != x.head && (y.must &&& bitB o == 0)) := fun o h0 h1 => by rw [← hM]; exact gone_eq ⟨hh0, by omega⟩ ⟨h0, h1⟩ y.must
   have hLe : IntKind.i64.wrap (y.least + qael p x.head) = T.least := by rw [hE]; exact qaav (by omega) (by omega)
   have hMo : IntKind.i64.wrap (y.most + qael p x.head) = T.most := by rw [hE]; exact qaav (by omega) (by omega)
   have hlt : x.head.toNat < p.heads.length := by omega
   have hsz : qae2 p x.head = p.heads[x.head.toNat].w := by unfold qae2; rw [List.getElem?_eq_getElem hlt]; rfl
   have hcs := fun q => qa14 p.heads[x.head.toNat].w q
   rw [← hsz] at hcs
   unfold qaj9 at hcs
   rw [show qaka (qae2 p x.head) = qael p x.head from rfl] at hcs
   generalize qael p x.head = N at hLe hMo hcs
   have hbh := fun q => qa2o x.head hh0 (by omega) q
   generalize hq1 : p.heads[x.head.toNat] = hd at hsz
   have hsz2 : hd.w = qae2 p x.head := hsz.symm
   generalize qae2 p x.head = ws at hcs hsz2
   clear hE hT hS2 hsz
   replace hcs := Lib.hid hcs
   replace hbh := Lib.hid hbh
   replace hgeq := Lib.hid hgeq
   replace hok2 := Lib.hid hok2
   cases kc : decide (0 < (x.cases_.length : Int)) <;> rw [kc] at kn
   ·have hf := hG.out _ false (by rw [kh, Bool.true_and]) (by rw [kn]; rfl)
    simp only [qabf] at hf
    replace hf := Lib.hid hf
    repeat' (first | (with_reducible first | refine zA ?_ | refine zK ?_) | ((with_reducible first | refine qaad ?_ | refine qaa8 (by rw [hP]; exact qadn) ?_); (try rw [hP]); simp -implicitDefEqProofs [-BitVec.toNat_and, -BitVec.toNat_or, qabq, qaca, qac8, qac9, *]) | ((with_reducible refine qaae ?_); (try simp -implicitDefEqProofs [-BitVec.toNat_and, -BitVec.toNat_or, qabq, qaca, qac8, qac9, *])) | ((with_reducible refine qaab rfl (fun h => ?_) (fun h => ?_)) <;> have h' := h <;> (try simp at h') <;> (try subst h')) | ((with_reducible refine qabw ?_ ?_); (first | omega | (unfold maxLen; omega)); simp -implicitDefEqProofs [-BitVec.toNat_and, -BitVec.toNat_or, qabq, qaca, qac8, qac9, *]) | ((first | refine qabc (qady p _ _ _ l _ _ _ _ (by simp)) ⟨rfl, rfl, trivial⟩ ⟨rfl, rfl, trivial⟩ ?_ | refine qabb (hcs.out _) ?_ | refine qabb (hbh.out _) ?_); simp -implicitDefEqProofs [-BitVec.toNat_and, -BitVec.toNat_or, qabq, qaca, qac8, qac9, *]) | fail)
    refine qacy ?_ (loopL.out _ _ hf.out)
    repeat' (first | ((with_reducible refine qaag [] hm ?_ ?_ ?_ ?_) <;> (try simp only [zT, puth, Nat.reduceEqDiff, reduceIte, Nat.reduceAdd])) | (with_reducible first | refine za ?_ ?_ | refine zb ?_ ?_ ?_ ?_ | refine zc ?_ ?_ ?_ ?_) | (with_reducible first | exact qaaa | exact qaac) | ((with_reducible first | refine zga ?_ | refine zgb ?_); rfl) | ((with_reducible refine zgc ?_); (first | (with_reducible rfl) | rfl | (simp; done))) | ((with_reducible refine zgd ?_); (first | omega | (simp; done))) | (exact Co.refl _) | (exact CoL.refl _) | fail)
   ·cases ko : decide (0 ≤ x.on.h)
    ·have hf := hG.out _ false (by rw [kh, Bool.true_and]) (by rw [kn, ko]; rfl)
     simp only [qabf] at hf
     replace hf := Lib.hid hf
     repeat' (first | (with_reducible first | refine zA ?_ | refine zK ?_) | ((with_reducible first | refine qaad ?_ | refine qaa8 (by rw [hP]; exact qadn) ?_); (try rw [hP]); simp -implicitDefEqProofs [-BitVec.toNat_and, -BitVec.toNat_or, qabq, qaca, qac8, qac9, qabf, *]) | ((with_reducible refine qaae ?_); (try simp -implicitDefEqProofs [-BitVec.toNat_and, -BitVec.toNat_or, qabq, qaca, qac8, qac9, qabf, *])) | ((with_reducible refine qaab rfl (fun h => ?_) (fun h => ?_)) <;> have h' := h <;> (try simp at h') <;> (try subst h')) | ((with_reducible refine qabw ?_ ?_); (first | omega | (unfold maxLen; omega)); simp -implicitDefEqProofs [-BitVec.toNat_and, -BitVec.toNat_or, qabq, qaca, qac8, qac9, qabf, *]) | ((first | refine qabc (qady p _ _ _ l _ _ _ _ (by simp)) ⟨rfl, rfl, trivial⟩ ⟨rfl, rfl, trivial⟩ ?_ | refine qabb (hcs.out _) ?_ | refine qabb (hbh.out _) ?_); simp -implicitDefEqProofs [-BitVec.toNat_and, -BitVec.toNat_or, qabq, qaca, qac8, qac9, qabf, *]) | fail)
     refine qacy ?_ (loopL.out _ _ hf.out)
     repeat' (first | ((with_reducible refine qaag [] hm ?_ ?_ ?_ ?_) <;> (try simp only [zT, puth, Nat.reduceEqDiff, reduceIte, Nat.reduceAdd])) | (with_reducible first | refine za ?_ ?_ | refine zb ?_ ?_ ?_ ?_ | refine zc ?_ ?_ ?_ ?_) | (with_reducible first | exact qaaa | exact qaac) | ((with_reducible first | refine zga ?_ | refine zgb ?_); rfl) | ((with_reducible refine zgc ?_); (first | (with_reducible rfl) | rfl | (simp; done))) | ((with_reducible refine zgd ?_); (first | omega | (simp; done))) | (exact Co.refl _) | (exact CoL.refl _) | fail)
    ·have hoh := hok2.out (by have := of_decide_eq_true kc; omega)
     have ho0 := of_decide_eq_true ko
     have hf := hG.out _ _ (by rw [kh, Bool.true_and]) (by rw [kn, ko, Bool.true_and, Bool.true_and, ← hgeq.out _ ho0 (by omega)])
     have hbt := fun q => qa2o x.on.h ho0 (by omega) q
     replace hf := Lib.hid hf
     replace hbt := Lib.hid hbt
     repeat' (first | (with_reducible first | refine zA ?_ | refine zK ?_) | ((with_reducible first | refine qaad ?_ | refine qaa8 (by rw [hP]; exact qadn) ?_); (try rw [hP]); simp -implicitDefEqProofs [-BitVec.toNat_and, -BitVec.toNat_or, qabq, qaca, qac8, qac9, *]) | ((with_reducible refine qaae ?_); (try simp -implicitDefEqProofs [-BitVec.toNat_and, -BitVec.toNat_or, qabq, qaca, qac8, qac9, *])) | ((with_reducible refine qaab rfl (fun h => ?_) (fun h => ?_)) <;> have h' := h <;> (try simp at h') <;> (try subst h')) | ((with_reducible refine qabw ?_ ?_); (first | omega | (unfold maxLen; omega)); simp -implicitDefEqProofs [-BitVec.toNat_and, -BitVec.toNat_or, qabq, qaca, qac8, qac9, *]) | ((first | refine qabc (qady p _ _ _ l _ _ _ _ (by simp)) ⟨rfl, rfl, trivial⟩ ⟨rfl, rfl, trivial⟩ ?_ | refine qabb (hcs.out _) ?_ | refine qabb (hbh.out _) ?_ | refine qabb (hbt.out _) ?_); simp -implicitDefEqProofs [-BitVec.toNat_and, -BitVec.toNat_or, qabq, qaca, qac8, qac9, *]) | fail)
     refine qacy ?_ (loopL.out _ _ hf.out)
     repeat' (first | ((with_reducible refine qaag [] hm ?_ ?_ ?_ ?_) <;> (try simp only [zT, puth, Nat.reduceEqDiff, reduceIte, Nat.reduceAdd])) | (with_reducible first | refine za ?_ ?_ | refine zb ?_ ?_ ?_ ?_ | refine zc ?_ ?_ ?_ ?_) | (with_reducible first | exact qaaa | exact qaac) | ((with_reducible first | refine zga ?_ | refine zgb ?_); rfl) | ((with_reducible refine zgc ?_); (first | (with_reducible rfl) | rfl | (simp; done))) | ((with_reducible refine zgd ?_); (first | omega | (simp; done))) | (exact Co.refl _) | (exact CoL.refl _) | fail)
end Go.Proofs.Yticeaegpkpjjeaa
namespace Go.Proofs.Yticeaegpkpjjeaa
set_option linter.all false
open Go.RowKit
attribute [local simp] qabj qabi qaaw qaa2 qaax qaa1 qabg qabh qaap qab2 SOp.run SX.ev putd puts argS upds SOp.touch SSt.keep SSt.skip gets geth puth delh idOf SV.cells? setL qadu qadv sbin eq0 eq1 eqL qadr qacr qacs qaau qabk qaaf qabl qab3 qaai qaak FrzOk qaa5 qaaz qaa3 qaa4 qaaq qaay qabm qaa0 qaas qaa6 qaar frzS frzH frz frz1 frz0 SlotsM ObjsM ObjM rn ren ren1 ren0 qab6 qacp qacu qab5 qabn qacv qact CoL qaa7 qab7 dels adds idsH qabt
attribute [local simp] qaeh refc qaee qaea qacl opc actc tabc qaef qacc nums setc
theorem qat4 {X : Cx} {sl : Sl} {hp : Hp} {t u nx id n : Nat} {ty : TypeId} {cs ds : List SV} {v v' r : SV} (hm : X.m = 0) (hne : t ≠ u) (hv : gets sl t = v') (hvv : Co v' v) (hN : NoN v) (hu : gets sl u = .ptr id 0) (h : geth hp id = some (.cells ty cs)) (ha : qagq X.P ty = some true) (hn : qaby X.P ty = some n) (hl : ds.length = n) (e : CoL cs ds) (hr : r = .tup [v, .agg ds]) (hd : ∀ σ, ds.map (Go.Proofs.Yticeaegpkpjjeaa.ren σ) = ds) : QFun X [.tmp t, .cell u ty] 0 r [] .ret ⟨sl, hp, nx⟩ := by
 subst hr hl
 have hw : Wk X ⟨sl, hp, nx⟩ ⟨[(t, v), (u, .ptr 0 0)], [(0, .cells ty ds)], 1⟩ := by
  refine qaag [(0, id)] hm ⟨?_, ?_, trivial⟩ ⟨⟨_, h, rfl, by rw [hd]; exact e⟩, trivial⟩ rfl (by simp)
  ·rw [hv, hN]; exact hvv
  ·rw [hu]; exact Co.refl _
 refine ⟨_, hw, ?_, trivial, by simp⟩
 simp [qaoe, resL, resV, one_, gets, ha, hn, SOp.run, SX.ev, geth, hne]
def wcR (p : PlanD) (R n : Nat) (a b : Int) : List SV := qacc p ++ [.own R n, .int .i64 a, .int .i64 b]
attribute [local simp] wcR
theorem qaox (p : PlanD) (hp : PlOk p) (hk : qaid p) (i : Nat) (hi : i < p.states.length) (a b : Int) (W R q : Nat) (hWR : W ≠ R) (hW : W < q) (hR : R < q) :
  SCalls Try.prog 45 [.ptr W 0, .int .i64 i] [(W, .cells 119 (wcR p R (p.states.length + 1) a b)), (R, qagr (qacz p i))] q (.tup []) [(W, .cells 119 (wcR p R (p.states.length + 1) (orF (a, b) (refC p.states[i] (setAt p i), 3000 + i)).1 (orF (a, b) (refC p.states[i] (setAt p i), 3000 + i)).2)), (R, qagr (qacz p (i + 1)))] := by
 have e : setAt p i = (qacz p i).getD i qad8 := qaoa hp (by omega) (Nat.le_refl _)
 rw [e, qae4 p hi]
 exact qaf3 (qa2k p hp hk i hi a b (qacz p i) (qadj p i) (qay3 hp (by omega) (by omega))) W R q hWR hW hR rfl rfl rfl rfl
theorem qakk (p : PlanD) : orF (0, 0) (qaga p) = qaga p := by
 by_cases h : (qaga p).1 = 0
 ·have : qaga p = (0, 0) := qahr h
  rw [this]; rfl
 ·unfold orF; simp [h]
theorem qa2w (p : PlanD) : (List.replicate (p.states.length + 1) [SV.int .u64 0, .int .u64 0, .int .i64 0, .int .i64 0, .bool false]).set 0 [SV.int .u64 0, .int .u64 0, .int .i64 0, .int .i64 0, .bool true] = (qacz p 0).map setc := by
 unfold qacz
 rw [List.map_set, List.map_replicate]; rfl
set_option maxHeartbeats 4000000 in
theorem walk_s (p : PlanD) (hs : SmallP p) (hk : qaid p) (q : Nat) : SCalls Try.prog 10 [.agg (qacc p)] [] q (.tup [.view 5 ((qayu p).map setc), .agg [.int .i64 (qan6 p).1, .int .i64 (qan6 p).2]]) [] := by
 refine qabs ?_ (fun _ => rfl) (fun _ => rfl) rfl q
 refine qaal (N := 52) Try.func10 rfl rfl (by kernel_rfl) qaor (by simp) (by repeat' (first | exact trivial | refine And.intro ?_ ?_ | rfl | decide | exact PureR.ren _)) (by repeat' (first | exact trivial | refine And.intro ?_ ?_ | rfl | decide | exact PureR.ren _)) ?_
 rintro X hP hN hm
 unfold c_walk
 have hc := fun q => qa22 p hs hk q
 have hns := hs.states
 by_cases h0 : (qafs p).1 = 0
 ·have hp := pok_of h0
  have hF : qan6 p = qaga p := by unfold qan6; rw [if_neg (by simpa using h0)]
  have hL : qayu p = if (qaga p).1 ≠ 0 then [] else qa2v p := by unfold qayu; rw [hF]
  rw [hF, hL]
  have hF0 : qaga p = orF (0, 0) (rowF (fun i s => refC s (setAt p i)) 3000 0 p.states) := (qakk p).symm
  have hz0 : (qaga p).1 = 0 → qaga p = (0, 0) := fun h => qahr h
  generalize qaga p = F at hF0 hz0
  replace hz0 := Lib.hid hz0
  have kc : ((qafs p).1 != 0) = false := by simpa using h0
  generalize qafs p = C at hc kc
  have hn1 : p.states.length ≤ 8 := hp.states.2
  have wn : IntKind.i64.wrap ((p.states.length : Int) + 1) = (p.states.length : Int) + 1 := qaav (by omega) (by omega)
  have hmx : p.states.length + 1 ≤ maxLen := by unfold maxLen; omega
  have hset0 := qa2w p
  replace hF0 := Lib.hid hF0
  replace hc := Lib.hid hc
  replace hset0 := Lib.hid hset0
  clear hF hL h0
  repeat' (first | (with_reducible first | refine zA ?_ | refine zK ?_) | ((with_reducible first | refine qaad ?_ | refine qaa8 (by rw [hP]; exact qadn) ?_); (try rw [hP]); simp -implicitDefEqProofs [*]) | ((with_reducible refine qaae ?_); (try simp -implicitDefEqProofs [*])) | ((with_reducible refine qaab rfl (fun h => ?_) (fun h => ?_)) <;> have h' := h <;> (try simp at h') <;> (try subst h')) | ((with_reducible refine qabw ?_ ?_); (first | omega | (unfold maxLen; omega)); simp -implicitDefEqProofs [*]) | (refine qabb (hc.out _) ?_; simp -implicitDefEqProofs [*]) | fail)
  refine qaat (qabp (fun s (z : Nat × Int × Int) => s.turn [(30, .int .i64 z.1)] [(24, .cells 119 (wcR p 22 (p.states.length + 1) z.2.1 z.2.2)), (22, qagr (qacz p z.1))]) (fun z => z.1 ≤ p.states.length ∧ F = orF (z.2.1, z.2.2) (rowF (fun i s => refC s (setAt p i)) 3000 z.1 (p.states.drop z.1))) (fun z => p.states.length - z.1) (0, 0, 0) ?_ ⟨by simp, hF0.out⟩ ?_)
  ·repeat' (first | ((with_reducible refine qaag [] hm ?_ ?_ ?_ ?_) <;> (try simp only [zT, puth, Nat.reduceEqDiff, reduceIte, Nat.reduceAdd])) | (with_reducible first | refine za ?_ ?_ | refine zb ?_ ?_ ?_ ?_ | refine zc ?_ ?_ ?_ ?_) | (with_reducible first | exact qaaa | exact qaac) | ((with_reducible first | refine zga ?_ | refine zgb ?_); rfl) | ((with_reducible refine zgd ?_); (first | omega | (simp; done))) | (exact Co.refl _) | (exact CoL.refl _) | fail)
   all_goals (exact hset0.out)
  rintro J hJ ⟨i, e, g⟩ ⟨h1, h2⟩
  unfold qan2
  simp only [zT, puth, Nat.reduceEqDiff, reduceIte, Nat.reduceAdd] at h1 h2 ⊢
  rcases Nat.lt_or_ge i p.states.length with hi | hi
  ·rw [qadb _ _ hi, qadw] at h2
   have hcs := fun q h1 h2 => qaox p hp hk i hi e g 24 22 q (by decide) h1 h2
   generalize orF (e, g) (refC p.states[i] (setAt p i), 3000 + (i : Int)) = G at h2 hcs
   have wi : IntKind.i64.wrap ((i : Int) + 1) = (i : Int) + 1 := qaav (by omega) (by omega)
   replace h2 := Lib.hid h2
   replace hcs := Lib.hid hcs
   replace hp := Lib.hid hp
   repeat' (first | (with_reducible first | refine zA ?_ | refine qaah ?_) | ((with_reducible refine qaad ?_); (try rw [hP]); simp -implicitDefEqProofs [*]) | ((with_reducible refine qaae ?_); (try simp -implicitDefEqProofs [*])) | ((with_reducible refine qaab rfl (fun h => ?_) (fun h => ?_)) <;> have h' := h <;> (try simp at h') <;> (try subst h')) | (refine qabc (hcs.out _ (by simp) (by simp)) ⟨rfl, rfl, trivial⟩ ⟨rfl, rfl, trivial⟩ ?_; simp -implicitDefEqProofs [*]) | (with_reducible first | refine za ?_ ?_ | refine zb ?_ ?_ ?_ ?_ | refine zc ?_ ?_ ?_ ?_) | (with_reducible first | exact qaaa | exact qaac) | ((with_reducible first | refine zga ?_ | refine zgb ?_); rfl) | ((with_reducible refine zgc ?_); (first | (with_reducible rfl) | rfl | (simp; done))) | ((with_reducible first | refine zgd ?_ | refine zge ?_); (first | omega | (simp; done))) | (exact Co.refl _) | (exact CoL.refl _) | ((refine qaaj hJ (i + 1, ?_, ?_) ?_ ?_ ?_; rotate_left 2; (with_reducible refine qaag [] hm ?_ ?_ ?_ ?_) <;> (try simp only [zT, puth, Nat.reduceEqDiff, reduceIte, Nat.reduceAdd]))) | fail)
   all_goals (try dsimp only)
   all_goals (exact ⟨by omega, h2.out⟩)
  ·obtain rfl : i = p.states.length := by omega
   rw [List.drop_length] at h2
   have h3 : F = (e, g) := by rw [h2]; exact qacd _ rfl
   subst h3
   have hlen : ((qacz p p.states.length).map setc).length = p.states.length + 1 := by rw [List.length_map, qadj]
   clear h2 hF0
   replace hp := Lib.hid hp
   by_cases he : e = 0
   ·subst he
    obtain rfl : g = 0 := (Prod.mk.inj (hz0.out rfl)).2
    repeat' (first | ((with_reducible refine qac1 (c := .seq (.reg false qai9 [2, 3]) .ret) ?_)) | (with_reducible refine zA ?_) | ((with_reducible refine qaad ?_); (try rw [hP]); simp -implicitDefEqProofs [*]) | ((with_reducible first | refine qaae ?_ | refine qaao ?_); (try simp -implicitDefEqProofs [*])) | ((with_reducible refine qaab rfl (fun h => ?_) (fun h => ?_)) <;> have h' := h <;> (try simp at h') <;> (try subst h')) | fail)
    constructor
    refine qaec [22] ?_ ?_
    ·simp only [FrzOk, geth, Nat.reduceEqDiff, reduceIte, qail, and_true]
    have htk : ((qacz p p.states.length).map setc).take (p.states.length + 1) = (qacz p p.states.length).map setc := List.take_of_length_le (by rw [hlen]; exact Nat.le_refl _)
    simp -implicitDefEqProofs [htk, hlen, Nat.le_refl]
    repeat' (first | (with_reducible refine zA ?_) | ((with_reducible refine qaad ?_); (try rw [hP]); simp -implicitDefEqProofs [*]) | ((with_reducible refine qaam ?_); (try simp only [qaau, qaaf, qaai])) | (refine qat4 hm (by decide) rfl (Co.refl _) (qae6 _ _) rfl rfl (by rw [hP]; exact qab1) (by rw [hP]; exact qabr) rfl (CoL.refl _) ?_ (fun σ => rfl)) | fail)
    all_goals rfl
   ·have ke : (e != 0) = true := by simpa using he
    repeat' (first | (with_reducible first | refine zA ?_ | refine zK ?_) | ((with_reducible first | refine qaad ?_ | refine qaa8 (by rw [hP]; exact qadn) ?_); (try rw [hP]); simp -implicitDefEqProofs [*]) | ((with_reducible refine qaao ?_); (try simp -implicitDefEqProofs [*])) | ((with_reducible refine qaam ?_); (try simp only [qaau, qaaf, qaai])) | ((with_reducible refine qaab rfl (fun h => ?_) (fun h => ?_)) <;> have h' := h <;> (try simp at h') <;> (try subst h')) | (refine qat4 hm (by decide) rfl (Co.nilsl 5) (qae6 _ _) rfl rfl (by rw [hP]; exact qab1) (by rw [hP]; exact qabr) rfl (CoL.refl _) ?_ (fun σ => rfl)) | fail)
    all_goals rfl
 ·have hF : qan6 p = qafs p := by unfold qan6; rw [if_pos h0]
  have hL : qayu p = [] := by unfold qayu; rw [hF, if_pos h0]
  rw [hF, hL]
  have kc : ((qafs p).1 != 0) = true := by simpa using h0
  generalize qafs p = C at hc kc
  replace hc := Lib.hid hc
  clear hF hL h0
  repeat' (first | (with_reducible first | refine zA ?_ | refine zK ?_) | ((with_reducible first | refine qaad ?_ | refine qaa8 (by rw [hP]; exact qadn) ?_); (try rw [hP]); simp -implicitDefEqProofs [*]) | ((with_reducible refine qaam ?_); (try simp only [qaau, qaaf, qaai])) | ((with_reducible refine qaab rfl (fun h => ?_) (fun h => ?_)) <;> have h' := h <;> (try simp at h') <;> (try subst h')) | (refine qabb (hc.out _) ?_; simp -implicitDefEqProofs [*]) | (refine qat4 hm (by decide) rfl (Co.nilsl 5) (qae6 _ _) rfl rfl (by rw [hP]; exact qab1) (by rw [hP]; exact qabr) rfl (CoL.refl _) rfl (fun σ => rfl)) | fail)
end Go.Proofs.Yticeaegpkpjjeaa
namespace Go.Proofs.Yticeaegpkpjjeaa
set_option linter.all false
open Go.RowKit
attribute [local simp] qabj qabi qaaw qaa2 qaax qaa1 qabg qabh qaap qab2 SOp.run SX.ev putd puts argS upds SOp.touch SSt.keep SSt.skip gets geth puth delh idOf SV.cells? setL qadu qadv sbin eq0 eq1 eqL qadr qacr qacs qaau qabk qaaf qabl qab3 qaai qaak FrzOk qaa5 qaaz qaa3 qaa4 qaaq qaay qabm qaa0 qaas qaa6 qaar frzS frzH frz frz1 frz0 SlotsM ObjsM ObjM rn ren ren1 ren0 qab6 qacp qacu qab5 qabn qacv qact CoL qaa7 qab7 dels adds idsH qabt
attribute [local simp] qaeh refc qaee qaea qacl opc actc tabc qaef qacc nums
def bvc (v : BitVec 64) : List SV := [.int .u64 v.toNat]
attribute [local simp] bvc
instance : PureF bvc := ⟨fun _ _ => rfl, fun _ => rfl, fun _ => qaba _ rfl⟩
def fcR (p : PlanD) (R n : Nat) (a b : Int) : List SV := qacc p ++ [.own R n, .int .i64 a, .int .i64 b]
attribute [local simp] fcR
end Go.Proofs.Yticeaegpkpjjeaa
namespace Go.Proofs.Yticeaegpkpjjeaa
set_option linter.all false
open Go.RowKit
abbrev qap9 : List SOper := [Oa 3 (.box 29 (.t 0)), Oa 4 (.box 102 (.t 1)), Oa 6 (.mv (.c (.int .i64 0)))]
abbrev qap8 : List SOper := [Oa 7 (.mv (.c .nilsl))]
abbrev qap7 : List SOper := [Oa 8 (.faddr 0 (.t 4)), Oa 9 (.load (.t 8))]
abbrev qap6 : List SOper := [Oa 29 (.bin .eql (.t 9) (.c (.int .i64 (-3)))), Oa 28 (.mv (.t 29))]
abbrev qap5 : List SOper := [Oa 30 (.mkrow 3 1 1 [(.int .i64 0)] [(0, (.c (.int .i64 16)))]), Oa 7 (.mv (.t 30))]
abbrev qap4 : List SOper := [Oa 32 (.bin .eql (.t 9) (.c (.int .i64 (-1)))), Oa 31 (.mv (.t 32))]
abbrev qap3 : List SOper := [Oa 33 (.faddr 1 (.t 3)), Oa 34 (.load (.t 33)), Oa 7 (.mv (.t 34))]
abbrev qap2 : List SOper := [Oa 36 (.bin .eql (.t 9) (.c (.int .i64 (-2)))), Oa 35 (.mv (.t 36))]
abbrev qap1 : List SOper := [Oa 37 (.mv (.t 2)), Oa 7 (.mv (.t 37))]
abbrev qalv : List SOper := [Oa 10 (.faddr 0 (.t 4)), Oa 11 (.load (.t 10)), Oa 12 (.bin .geq (.t 11) (.c (.int .i64 0))), Oa 13 (.mv (.t 12)), Oe 14 (.faddr 0 (.t 4)) 13 true, Oe 15 (.load (.t 14)) 13 true, Oe 16 (.faddr 0 (.t 3)) 13 true, Oe 17 (.load (.t 16)) 13 true, Oe 18 (.len false (.t 17)) 13 true, Oe 19 (.bin .lss (.t 15) (.t 18)) 13 true, Oa 20 (.pick (.t 13) (.t 19) (.c (.bool false)))]
abbrev qalu : List SOper := [Oa 21 (.faddr 0 (.t 3)), Oa 22 (.load (.t 21)), Oa 23 (.faddr 0 (.t 4)), Oa 24 (.load (.t 23)), Oa 25 (.iaddr 1 (.t 22) (.t 24)), Oa 26 (.faddr 0 (.t 25)), Oa 27 (.load (.t 26)), Oa 7 (.mv (.t 27))]
abbrev qalt : List SOper := [Oa 38 (.faddr 1 (.t 4)), Oa 39 (.load (.t 38)), Oa 40 (.bin .lss (.t 39) (.c (.int .i64 0))), Oa 41 (.mv (.t 40)), Oe 42 (.faddr 1 (.t 4)) 41 false, Oe 43 (.load (.t 42)) 41 false, Oe 44 (.mv (.t 7)) 41 false, Oe 45 (.len false (.t 44)) 41 false, Oe 46 (.bin .geq (.t 43) (.t 45)) 41 false, Oa 47 (.pick (.t 41) (.c (.bool true)) (.t 46))]
abbrev qals : List SOper := [Oa 6 (.mv (.c (.int .i64 0)))]
abbrev qalr : List SOper := [Oa 48 (.mv (.t 7)), Oa 49 (.faddr 1 (.t 4)), Oa 50 (.load (.t 49)), Oa 51 (.iaddr 1 (.t 48) (.t 50)), Oa 52 (.load (.t 51)), Oa 6 (.mv (.t 52))]
def c_rwidth : SCode := (.seq (.reg false qap9 [2, 3, 4]) (.seq (.reg false qap8 [2, 3, 4, 7]) (.seq (.seq (.reg false qap7 [2, 3, 4, 7, 9]) (.block 0 (.seq (.reg false qap6 [2, 3, 4, 7, 9, 28]) (.cond (.t 28) (.reg false qap5 [4, 7]) (.seq (.reg false qap4 [2, 3, 4, 7, 9, 31]) (.cond (.t 31) (.reg false qap3 [4, 7]) (.seq (.reg false qap2 [2, 3, 4, 7, 35]) (.cond (.t 35) (.reg false qap1 [4, 7]) (.seq (.reg false qalv [3, 4, 7, 20]) (.cond (.t 20) (.reg false qalu [4, 7]) .skip)))))))))) (.seq (.seq (.reg false qalt [4, 7, 47]) (.cond (.t 47) (.seq (.reg false qals [6]) .ret) .skip)) (.seq (.reg false qalr [6]) .ret)))))
theorem qai1 : comp Try.prog 53 ((Try.f93.body).getD .skip) = some c_rwidth.erase := by kernel_rfl
abbrev qalq : List SOper := [Oa 2 (.box 29 (.t 0)), Oa 3 (.box 114 (.t 1)), Oa 4 (.mv (.c .nilsl))]
abbrev qalp : List SOper := [Oa 5 (.mv (.c .nilsl))]
abbrev qalo : List SOper := [Oa 6 (.mv (.c (.int .i64 0)))]
abbrev qaln : List SOper := [Oa 7 (.mv (.t 6)), Oa 8 (.faddr 1 (.t 3)), Oa 9 (.load (.t 8)), Oa 10 (.len false (.t 9)), Oa 11 (.bin .lss (.t 7) (.t 10))]
abbrev qalm : List SOper := [Oa 14 (.mv (.t 5)), Oa 15 (.loads 7 (.t 2)), Oa 16 (.faddr 1 (.t 3)), Od 17 (.load (.t 16)) 4, Oa 18 (.mv (.t 6)), Od 19 (.iaddr 2 (.t 17) (.t 18)) 28, Od 20 (.loads 2 (.t 19)) 60, ⟨(some 21), .mv (.c .any), some ((.c (.fn (.func 93) [] [])), [(.t 15), (.t 20), (.c .nilsl)]), none, 126⟩, Od 22 (.mkrow 3 1 1 [(.int .i64 0)] [(0, (.t 21))]) 254, Od 23 (.app 3 1 8 (.t 14) (.t 22)) 511, Od 5 (.mv (.t 23)) 1023]
abbrev qall : List SOper := [Oa 12 (.mv (.t 6)), Oa 13 (.bin .add (.t 12) (.c (.int .i64 1))), Oa 6 (.mv (.t 13))]
def qagh : SCode := (.seq (.seq (.reg false qaln [2, 3, 5, 6, 11]) (.cond (.t 11) .skip (.exit 0))) (.seq (.block 1 (.reg true qalm [2, 3, 5, 6])) (.reg false qall [2, 3, 5, 6])))
abbrev qagg : List SOper := [Oa 24 (.mv (.t 5)), Oa 4 (.mv (.t 24))]
def c_rwidths : SCode := (.seq (.reg false qalq [2, 3]) (.seq (.reg false qalp [2, 3, 5]) (.seq (.seq (.reg false qalo [2, 3, 5, 6]) (.block 0 (.loop qagh))) (.seq (.reg false qagg [4]) .ret))))
theorem qah5 : comp Try.prog 25 ((Try.f48.body).getD .skip) = some c_rwidths.erase := by kernel_rfl
end Go.Proofs.Yticeaegpkpjjeaa
namespace Go.Proofs.Yticeaegpkpjjeaa
set_option linter.all false
open Go.RowKit
attribute [local simp] qabj qabi qaaw qaa2 qaax qaa1 qabg qabh qaap qab2 SOp.run SX.ev putd puts argS upds SOp.touch SSt.keep SSt.skip gets geth puth delh idOf SV.cells? setL qadu qadv sbin eq0 eq1 eqL qadr qacr qacs qaau qabk qaaf qabl qab3 qaai qaak FrzOk qaa5 qaaz qaa3 qaa4 qaaq qaay qabm qaa0 qaas qaa6 qaar frzS frzH frz frz1 frz0 SlotsM ObjsM ObjM rn ren ren1 ren0 qab6 qacp qacu qab5 qabn qacv qact CoL qaa7 qab7 dels adds idsH qabt
attribute [local simp] qaeh refc qaee qaea qacl opc actc tabc qaef qacc nums
theorem qa2y (p : PlanD) (r : RefD) (args : List Int) (q : Nat) : SCalls Try.prog 93 [.agg (qacc p), .agg (refc r), nums .i64 args] [] q (.int .i64 (qabo p r args)) [] := by
 refine qabs ?_ (fun _ => rfl) (fun _ => rfl) rfl q
 refine qaal (N := 53) Try.func93 rfl rfl (by kernel_rfl) qai1 (by simp) (by repeat' (first | exact trivial | refine And.intro ?_ ?_ | rfl | decide | exact PureR.ren _)) (by repeat' (first | exact trivial | refine And.intro ?_ ?_ | rfl | decide | exact PureR.ren _)) ?_
 rintro X hP hN hm
 unfold c_rwidth
 by_cases hc : r.h = -3 ∧ r.f = 0
 ·obtain ⟨e1, e2⟩ := hc
  have hz : qabo p r args = 16 := by unfold qabo qahq qasl; rw [e1, e2]; rfl
  rw [hz]
  repeat' (first | (with_reducible first | refine zA ?_ | refine qaah ?_) | ((with_reducible refine qaad ?_); (try rw [hP]); simp -implicitDefEqProofs [*]) | ((with_reducible refine qaae ?_); (try simp -implicitDefEqProofs [*])) | ((with_reducible refine qaam ?_); (try simp only [qaau, qaaf, qaai])) | ((with_reducible refine qaab rfl (fun h => ?_) (fun h => ?_)) <;> have h' := h <;> (try simp at h') <;> (try subst h')) | (with_reducible refine zM hm ?_) | fail)
  rfl
 ·replace hc := Lib.hid hc
  repeat' (first | (with_reducible first | refine zA ?_ | refine qaah ?_) | ((with_reducible refine qaad ?_); (try rw [hP]); simp -implicitDefEqProofs [*]) | ((with_reducible refine qaae ?_); (try simp -implicitDefEqProofs [*])) | ((with_reducible refine qaam ?_); (try simp only [qaau, qaaf, qaai])) | ((with_reducible refine qaab rfl (fun h => ?_) (fun h => ?_)) <;> have h' := h <;> (try simp at h') <;> (try subst h')) | ((with_reducible refine qaa9 (fun h => ?_) (fun h => ?_)) <;> have h' := h <;> (try simp at h') <;> (try subst h') <;> simp -implicitDefEqProofs [*]) | (with_reducible refine zM hm ?_) | ((exfalso; have := hc.out; omega)) | fail)
  all_goals ((try simp only [qabo, qahq, qasl, qae2, el]); (repeat' split) <;> (try first | omega | (simp_all; done) | (simp_all; omega)))
end Go.Proofs.Yticeaegpkpjjeaa
namespace Go.Proofs.Yticeaegpkpjjeaa
set_option linter.all false
open Go.RowKit
attribute [local simp] qabj qabi qaaw qaa2 qaax qaa1 qabg qabh qaap qab2 SOp.run SX.ev putd puts argS upds SOp.touch SSt.keep SSt.skip gets geth puth delh idOf SV.cells? setL qadu qadv sbin eq0 eq1 eqL qadr qacr qacs qaau qabk qaaf qabl qab3 qaai qaak FrzOk qaa5 qaaz qaa3 qaa4 qaaq qaay qabm qaa0 qaas qaa6 qaar frzS frzH frz frz1 frz0 SlotsM ObjsM ObjM rn ren ren1 ren0 qab6 qacp qacu qab5 qabn qacv qact CoL qaa7 qab7 dels adds idsH qabt
attribute [local simp] qaeh refc qaee qaea qacl opc actc tabc qaef qacc nums
theorem qay6 (p : PlanD) (r : RefD) (q : Nat) : SCalls Try.prog 93 [.agg (qacc p), .agg (refc r), .nilsl] [] q (.int .i64 (qabo p r [])) [] := qafq (qa2y p r [] q) ⟨Co.refl _, Co.refl _, Co.nilsl _, trivial⟩
end Go.Proofs.Yticeaegpkpjjeaa
